import Derived.Test.YtmhhjceoinoekaaGreatMao
import Derived.Test.YtmhhjceoinoekaaGreatMak
set_option linter.unusedVariables false
set_option linter.unusedSimpArgs false
namespace Go.Proofs.YtmhhjceoinoekaaGreat.Vf
open Go

theorem Bva {a b c:Stp} (h1:sle a b=false) (h2:sle b c=false):sle a c=false:=by
 cases h:sle a c with
 |false=>rfl
 |true=>
  have n1:¬ _:=λ k=>by rw [Qe.2 k] at h1; cases h1
  have n2:¬ _:=λ k=>by rw [Qe.2 k] at h2; cases h2
  have h3:=Qe.1 h
  omega
theorem Z9 {a b:Stp} (h:sle a b=true):sle b a=false:=by
 cases h':sle b a with
 |false=>rfl
 |true=>
  have h1:=Qe.1 h
  have h2:=Qe.1 h'
  omega
def Dna (ws:List Wri):Prop:=∀ x∈ws,B1 x.1=true∧Fh x.2.1=true∧Al x.2.1.2.2
def IsW (ws:List Wri) (s:ByteArray) (f:Fil):Prop:=∃ x∈ws,x.1=s∧x.2.1=f
def EO (ws:List Wri) (sp:List ByteArray) (s:ByteArray) (b:List Int):Prop:=∃ f,IsW ws s f∧(b=L6 f∨(s∈sp∧∃ n,n<8 * (L6 f).length∧b=Mp (L6 f) n))
def ED (ws:List Wri) (sp:List ByteArray) (d:Dsk) (s:ByteArray):Prop:=
 (∀ b,gt d.1 s=some b→EO ws sp s b)∧(∀ b,gt d.2 s=some b→EO ws sp s b)∧
 (s∉sp→∀ b f,gt d.2 s=some b→O4 b=some f→∃ b' f',gt d.1 s=some b'∧O4 b'=some f'∧sle f'.1 f.1=false)
def DI (ws:List Wri) (sp:List ByteArray) (d:Dsk):Prop:=∀ s,ED ws sp d s
def HD (d:Dsk) (s:ByteArray) (st:Stp):Prop:=∃ b f,gt d.2 s=some b∧O4 b=some f∧sle f.1 st=false
def MO (sp:List ByteArray) (d d':Dsk):Prop:=∀ s,s∉sp→∀ st,HD d s st→HD d' s st
theorem IsW.good {ws:List Wri} (hw:Dna ws) {s:ByteArray} {f:Fil} (h:IsW ws s f):B1 s=true∧Fh f=true∧Al f.2.2:=by
 obtain ⟨x,hx,rfl,rfl⟩:=h
 exact hw x hx
theorem EO.get {ws:List Wri} {sp:List ByteArray} (hw:Dna ws) {s:ByteArray} {b:List Int} (h:EO ws sp s b) {f:Fil} (hf:O4 b=some f):IsW ws s f∧b=L6 f:=by
 obtain ⟨g,h1,h2⟩:=h
 obtain ⟨_,g2,g3⟩:=h1.good hw
 rcases h2 with rfl|⟨_,n,hn,rfl⟩
 ·rw [W3 g2 g3] at hf
  cases hf
  exact ⟨h1,rfl⟩
 ·rw [Vba g2 hn] at hf; cases hf
theorem EO.fine {ws:List Wri} {sp:List ByteArray} (hw:Dna ws) {s:ByteArray} {b:List Int} (h:EO ws sp s b) (hs:s∉sp):∃ f,O4 b=some f∧IsW ws s f:=by
 obtain ⟨g,h1,h2⟩:=h
 obtain ⟨_,g2,g3⟩:=h1.good hw
 rcases h2 with rfl|⟨h,_⟩
 ·exact ⟨g,W3 g2 g3,h1⟩
 ·exact absurd h hs
theorem EO.mono {ws ws':List Wri} {sp sp':List ByteArray} (h1:∀ x∈ws,x∈ws') (h2:∀ s∈sp,s∈sp') {s:ByteArray} {b:List Int} (h:EO ws sp s b):EO ws' sp' s b:=by
 obtain ⟨g,⟨x,hx,e⟩,h3⟩:=h
 refine ⟨g,⟨x,h1 x hx,e⟩,?_⟩
 rcases h3 with h3|⟨h3,h4⟩
 ·exact .inl h3
 ·exact .inr ⟨h2 s h3,h4⟩
theorem ED.mono {ws ws':List Wri} {sp sp':List ByteArray} (h1:∀ x∈ws,x∈ws') (h2:∀ s∈sp,s∈sp') {d:Dsk} {s:ByteArray} (h:ED ws sp d s):ED ws' sp' d s:=
 ⟨λ b hb=>(h.1 b hb).mono h1 h2,λ b hb=>(h.2.1 b hb).mono h1 h2,λ hs=>h.2.2 (λ c=>hs (h2 s c))⟩
theorem DI.mono {ws ws':List Wri} {sp sp':List ByteArray} (h1:∀ x∈ws,x∈ws') (h2:∀ s∈sp,s∈sp') {d:Dsk} (h:DI ws sp d):DI ws' sp' d:=λ s=>(h s).mono h1 h2
theorem ED.same {ws:List Wri} {sp:List ByteArray} {d d':Dsk} {s:ByteArray} (h:ED ws sp d s) (e1:gt d'.1 s=gt d.1 s) (e2:gt d'.2 s=gt d.2 s):ED ws sp d' s:=by
 unfold ED
 rw [e1,e2]
 exact h
theorem HD.same {d d':Dsk} {s:ByteArray} {st:Stp} (h:HD d s st) (e2:gt d'.2 s=gt d.2 s):HD d' s st:=by
 unfold HD
 rw [e2]
 exact h
theorem MO.refl (sp:List ByteArray) (d:Dsk):MO sp d d:=λ _ _ _ h=>h
theorem MO.trans {sp:List ByteArray} {a b c:Dsk} (h1:MO sp a b) (h2:MO sp b c):MO sp a c:=λ s hs st h=>h2 s hs st (h1 s hs st h)
section
variable {ws:List Wri} {sp:List ByteArray} {d:Dsk} {s:ByteArray}
theorem ED.now (hw:Dna ws) (h:ED ws sp d s) {f:Fil} (ho:old d s=some f):IsW ws s f:=by
 unfold old at ho
 cases hg:gt d.1 s with
 |none=>rw [hg] at ho; cases ho
 |some b=>rw [hg] at ho; exact ((h.1 b hg).get hw ho).1
theorem ED.ge (h:ED ws sp d s) (hs:s∉sp) {st:Stp} (hh:HD d s st):∃ b f,gt d.1 s=some b∧O4 b=some f∧sle f.1 st=false:=by
 obtain ⟨b,f,h1,h2,h3⟩:=hh
 obtain ⟨b',f',h4,h5,h6⟩:=h.2.2 hs b f h1 h2
 exact ⟨b',f',h4,h5,Bva h6 h3⟩
theorem Zma (hd:Ao d=true) (h:DI ws sp d):DI ws sp (d.1,sy d s):=by
 intro t
 by_cases ht:s=t
 ·subst ht
  have e:gt (sy d s) s=gt d.1 s:=by rw [Ipa hd,if_pos rfl]
  refine ⟨(h s).1,λ b hb=>(h s).1 b (by rw [← e]; exact hb),λ hs b f hb hf=>⟨b,f,by rw [← e]; exact hb,hf,Nd _⟩⟩
 ·exact (h t).same rfl (by show gt (sy d s) t=_; rw [Ipa hd,if_neg ht])
theorem C3b (hd:Ao d=true) (h:DI ws sp d):MO sp d (d.1,sy d s):=by
 intro t ht st hh
 by_cases hst:s=t
 ·subst hst
  obtain ⟨b,f,h1,h2,h3⟩:=(h s).ge ht hh
  exact ⟨b,f,by show gt (sy d s) s=_; rw [Ipa hd,if_pos rfl,h1],h2,h3⟩
 ·exact hh.same (by show gt (sy d s) t=_; rw [Ipa hd,if_neg hst])
theorem D9b (hw:Dna ws) (hd:Ao d=true) (h:DI ws sp d) {f:Fil} (hf:IsW ws s f) (hn:∀ o,old d s=some o→sle o.1 f.1=true):DI ws sp (wr d.1 s (L6 f),d.2):=by
 intro t
 by_cases ht:s=t
 ·subst ht
  have e:gt (wr d.1 s (L6 f)) s=some (L6 f):=by rw [Ioa (Mn hd),if_pos rfl]
  obtain ⟨_,g2,g3⟩:=hf.good hw
  refine ⟨λ b hb=>?_,(h s).2.1,λ hs b g hb hg=>⟨L6 f,f,e,W3 g2 g3,?_⟩⟩
  ·rw [show gt (wr d.1 s (L6 f)) s=some b from hb] at e
   cases e
   exact ⟨f,hf,.inl rfl⟩
  ·obtain ⟨b',f',k1,k2,k3⟩:=(h s).2.2 hs b g hb hg
   have:=hn f' (by unfold old; rw [k1]; exact k2)
   exact Bva (Z9 this) k3
 ·exact (h t).same (by show gt (wr d.1 s (L6 f)) t=_; rw [Ioa (Mn hd),if_neg ht]) rfl
theorem Sla (hw:Dna ws) (hd:DG d) (h:DI ws sp d) {f:Fil} {sure:Bool} (hf:IsW ws s f):DI ws sp (keep d s f sure).1∧MO sp d (keep d s f sure).1:=by
 obtain ⟨g1,g2,g3⟩:=hf.good hw
 rw [G0a hd.1 g1 g2]
 rcases Bqa (f:=f) (sure:=sure) hd g1 with k|⟨o,_,_,k,hg,h3⟩|⟨h1,h2,k,hg,h3⟩
 ·rw [k]; exact ⟨h,MO.refl _ _⟩
 ·rcases h3 with ⟨_,h3⟩|⟨_,h3⟩
  ·rw [h3]; exact ⟨h,MO.refl _ _⟩
  ·rw [h3]; exact ⟨Zma hd.1 h,C3b hd.1 h⟩
 ·have hw':=D9b hw hd.1 h hf h1
  rcases h3 with ⟨_,h3⟩|⟨_,h3⟩
  ·rw [h3]; exact ⟨hw',λ t _ st hh=>hh.same rfl⟩
  ·rw [h3]; exact ⟨Zma h2.1 hw',(show MO sp d (wr d.1 s (L6 f),d.2) from λ t _ st hh=>hh.same rfl).trans (C3b h2.1 hw')⟩
theorem Sma (hw:Dna ws) (hd:DG d) {f:Fil} (hf:IsW ws s f) (hc:(keep d s f true).2=0∨(keep d s f true).2=1):HD (keep d s f true).1 s f.1:=by
 obtain ⟨g1,g2,g3⟩:=hf.good hw
 rw [G0a hd.1 g1 g2] at hc ⊢
 obtain ⟨o,g,b,ho,_,e,h1,h2,h3⟩:=Rga hd g1 g2 g3 hc
 rw [e]
 exact ⟨b,g,by show gt (sy o s) s=_; rw [Ipa ho.1,if_pos rfl,h1],h2,h3⟩
theorem Zna (hd:DG d) (h:DI ws sp d) (kp:List Bool):DI ws sp (S5 d kp):=by
 intro t
 rcases S1a (d:=d) (kp:=kp) t with e|⟨e1,e2⟩
 ·rw [e]; exact h t
 ·unfold ED
  rw [e1]
  have eo:∀ b,gt (S5 d kp).1 t=some b→EO ws sp t b:=by
   intro b hb
   rcases e2 with e2|e2
   ·exact (h t).1 b (by rw [← e2]; exact hb)
   ·exact (h t).2.1 b (by rw [← e2]; exact hb)
  exact ⟨eo,eo,λ _ b f hb hf=>⟨b,f,hb,hf,Nd _⟩⟩
theorem Zoa (hd:DG d) (h:DI ws sp d) (kp:List Bool):MO sp d (S5 d kp):=by
 intro t ht st hh
 rcases S1a (d:=d) (kp:=kp) t with e|⟨e1,e2⟩
 ·rw [e]; exact hh
 ·unfold HD
  rw [e1]
  rcases e2 with e2|e2
  ·rw [e2]; exact (h t).ge ht hh
  ·rw [e2]; exact hh
theorem Vqa (hw:Dna ws) (hd:DG d) (h:DI ws sp d):DI ws sp (Np d).1∧MO sp d (Np d).1:=by
 obtain ⟨_,hc⟩:=Z3 d.1 (d,0) hd
 have hc':∀ t,(t∈Dqa d.1→gt (Np d).1.1 t=none∧gt (Np d).1.2 t=none)∧(t∉Dqa d.1→gt (Np d).1.1 t=gt d.1 t∧gt (Np d).1.2 t=gt d.2 t):=hc
 have hb:∀ t,t∈Dqa d.1→t∈sp:=by
  intro t ht
  obtain ⟨b,h1,h2⟩:=(Vea hd.1).1 ht
  by_cases hs:t∈sp
  ·exact hs
  ·obtain ⟨f,hf,_⟩:=((h t).1 b h1).fine hw hs
   rw [hf] at h2; cases h2
 constructor
 ·intro t
  by_cases ht:t∈Dqa d.1
  ·obtain ⟨e1,e2⟩:=(hc' t).1 ht
   unfold ED
   rw [e1,e2]
   exact ⟨λ b hb=>(by cases hb),λ b hb=>(by cases hb),λ _ b f hb=>(by cases hb)⟩
  ·obtain ⟨e1,e2⟩:=(hc' t).2 ht
   exact (h t).same e1 e2
 ·intro t ht st hh
  exact hh.same ((hc' t).2 (λ c=>ht (hb t c))).2
theorem C4b (hd:DG d) (h:DI ws sp d) (hs:B1 s=true):DI ws sp (syD (rmD d s).1 s).1∧∀ t,t≠s→∀ st,HD d t st→HD (syD (rmD d s).1 s).1 t st:=by
 have hr:DI ws sp (rmD d s).1∨True := .inr trivial
 unfold rmD
 cases hg:gt d.1 s with
 |none=>
  have e:(bif (none:Option (List Int)).isSome then ((cut d.1 s,d.2),true) else (d,false)).1=d:=rfl
  rw [e]
  unfold syD
  by_cases hl:(sy d s).length≤60
  ·rw [decide_eq_true hl]
   exact ⟨Zma hd.1 h,λ t ht st hh=>hh.same (by show gt (sy d s) t=_; rw [Ipa hd.1,if_neg (Ne.symm ht)])⟩
  ·rw [decide_eq_false hl]; exact ⟨h,λ t ht st hh=>hh⟩
 |some b=>
  have e:(bif (some b:Option (List Int)).isSome then ((cut d.1 s,d.2),true) else (d,false)).1=(cut d.1 s,d.2):=rfl
  rw [e]
  have hd':Ao (cut d.1 s,d.2)=true:=Dr.2 ⟨Ui (Dr.1 hd.1).1,(Dr.1 hd.1).2⟩
  have e1:∀ t,gt (cut d.1 s) t=if s=t then none else gt d.1 t:=λ t=>T4 (Mn hd.1)
  have e2:∀ t,gt (sy (cut d.1 s,d.2) s) t=if s=t then none else gt d.2 t:=λ t=>by
   rw [Ipa hd']
   by_cases hst:s=t
   ·rw [if_pos hst,if_pos hst]; show gt (cut d.1 s) s=none; rw [e1,if_pos rfl]
   ·rw [if_neg hst,if_neg hst]
  have hlen:(sy (cut d.1 s,d.2) s).length≤60:=by
   have:sy (cut d.1 s,d.2) s=cut d.2 s:=by
    unfold sy
    have:=e1 s
    rw [if_pos rfl] at this
    rw [show gt (cut d.1 s,d.2).1 s=none from this]
   rw [this]
   exact Nat.le_trans No.length_le (Af.1 (Dr.1 hd.1).2).2.2
  unfold syD
  rw [decide_eq_true hlen]
  constructor
  ·intro t
   show ED ws sp (cut d.1 s,sy (cut d.1 s,d.2) s) t
   by_cases hst:s=t
   ·unfold ED
    dsimp only
    rw [e1,e2,if_pos hst,if_pos hst]
    exact ⟨λ b hb=>(by cases hb),λ b hb=>(by cases hb),λ _ b f hb=>(by cases hb)⟩
   ·exact (h t).same (by show gt (cut d.1 s) t=_; rw [e1,if_neg hst]) (by show gt (sy (cut d.1 s,d.2) s) t=_; rw [e2,if_neg hst])
  ·intro t ht st hh
   exact hh.same (by show gt (sy (cut d.1 s,d.2) s) t=_; rw [e2,if_neg (Ne.symm ht)])
theorem C5b (hw:Dna ws) (hd:DG d) (h:DI ws sp d) {n:Int} (hl:(lkD d s).2=0) (hr:(Gta d s n).2=true) (sp':List ByteArray) (hsp:∀ t,t∈sp'↔t=s∨t∈sp):DI ws sp' (Gta d s n).1∧MO sp' d (Gta d s n).1∧∃ f,IsW ws s f:=by
 obtain ⟨b,hb,hf⟩:=P3.1 (show lkD d s=((lkD d s).1,0) by rw [← hl])
 obtain ⟨hW,e⟩:=((h s).1 b hb).get hw hf
 have hsub:∀ t∈sp,t∈sp':=λ t ht=>(hsp t).2 (.inr ht)
 generalize (lkD d s).1=f at *
 unfold Gta at hr ⊢
 rw [hb] at hr ⊢
 dsimp only at hr ⊢
 cases hin:inR n 0 (8 * (b.length:Int) - 1) with
 |false=>rw [hin] at hr; cases hr
 |true=>
  rw [cond_true]
  obtain ⟨n0,n1⟩:=Dz.1 hin
  have hn:n.toNat<8 * (L6 f).length:=by rw [← e]; omega
  have e1:∀ t,gt (wr d.1 s (Mp b n.toNat)) t=if s=t then some (Mp b n.toNat) else gt d.1 t:=λ t=>Ioa (Mn hd.1)
  have e2:∀ t,gt (bif decide (gt d.2 s=some b) then wr d.2 s (Mp b n.toNat) else d.2) t=if s=t∧gt d.2 s=some b then some (Mp b n.toNat) else gt d.2 t:=by
   intro t
   by_cases hg:gt d.2 s=some b
   ·rw [decide_eq_true hg,cond_true,Ioa (Qj hd.1)]
    by_cases hst:s=t
    ·rw [if_pos hst,if_pos ⟨hst,hg⟩]
    ·rw [if_neg hst,if_neg (λ c=>hst c.1)]
   ·rw [decide_eq_false hg,cond_false,if_neg (λ c=>hg c.2)]
  have hflip:EO ws sp' s (Mp b n.toNat):=⟨f,hW,.inr ⟨(hsp s).2 (.inl rfl),n.toNat,hn,by rw [e]⟩⟩
  refine ⟨λ t=>?_,λ t ht st hh=>?_,f,hW⟩
  ·by_cases hst:s=t
   ·subst hst
    refine ⟨λ x hx=>?_,λ x hx=>?_,λ c=>absurd ((hsp s).2 (.inl rfl)) c⟩
    ·have:=e1 s
     rw [if_pos rfl] at this
     rw [show gt (wr d.1 s (Mp b n.toNat)) s=some x from hx] at this
     cases this
     exact hflip
    ·have:=e2 s
     rw [show gt (bif decide (gt d.2 s=some b) then wr d.2 s (Mp b n.toNat) else d.2) s=some x from hx] at this
     by_cases hg:gt d.2 s=some b
     ·rw [if_pos ⟨rfl,hg⟩] at this
      cases this
      exact hflip
     ·rw [if_neg (λ c=>hg c.2)] at this
      exact ((h s).2.1 x this.symm).mono (λ _ h=>h) hsub
   ·refine ((h t).mono (λ _ h=>h) hsub).same ?_ ?_
    ·show gt (wr d.1 s (Mp b n.toNat)) t=_
     rw [e1,if_neg hst]
    ·show gt (bif decide (gt d.2 s=some b) then wr d.2 s (Mp b n.toNat) else d.2) t=_
     rw [e2,if_neg (λ c=>hst c.1)]
  ·have hst:s≠t:=λ c=>ht ((hsp t).2 (.inl c.symm))
   exact hh.same (by show gt (bif decide (gt d.2 s=some b) then wr d.2 s (Mp b n.toNat) else d.2) t=_; rw [e2,if_neg (λ c=>hst c.1)])
end

def NI (ws:List Wri) (sp:List ByteArray) (n:Nod):Prop:=NG n∧DI ws sp n.2.1∧(∀ r∈n.2.2.1,Ama ws r=true)∧∀ r∈n.2.2.2,Ama ws r=true
def KN (ns:List Nod) (s:ByteArray) (st:Stp):Prop:=∃ i,i<ns.length∧HD (ns.getD i Cy).2.1 s st
def MS (sp:List ByteArray) (ns ns':List Nod):Prop:=∀ s,s∉sp→∀ st,KN ns s st→KN ns' s st
theorem A0a {ws:List Wri} {r:Row}:Ama ws r=true↔∃ x∈ws,Y8 x.1 x.2.1=r:=by
 unfold Ama
 rw [List.any_eq_true]
 exact ⟨λ ⟨x,h1,h2⟩=>⟨x,h1,Gja.1 h2⟩,λ ⟨x,h1,h2⟩=>⟨x,h1,Gja.2 h2⟩⟩
theorem Bwa {ws ws':List Wri} (h:∀ x∈ws,x∈ws') {r:Row} (hr:Ama ws r=true):Ama ws' r=true:=by
 obtain ⟨x,h1,h2⟩:=A0a.1 hr
 exact A0a.2 ⟨x,h x h1,h2⟩
theorem Vra {ws:List Wri} {s:ByteArray} {f:Fil} (h:IsW ws s f):Ama ws (Y8 s f)=true:=by
 obtain ⟨x,h1,rfl,rfl⟩:=h
 exact A0a.2 ⟨x,h1,rfl⟩
theorem NI.mono {ws ws':List Wri} {sp sp':List ByteArray} (h1:∀ x∈ws,x∈ws') (h2:∀ s∈sp,s∈sp') {n:Nod} (h:NI ws sp n):NI ws' sp' n:=
 ⟨h.1,h.2.1.mono h1 h2,λ r hr=>Bwa h1 (h.2.2.1 r hr),λ r hr=>Bwa h1 (h.2.2.2 r hr)⟩
def NR (ws:List Wri) (sp:List ByteArray) (ns ns':List Nod):Prop:=(∀ n∈ns',NI ws sp n)∧ns'.map (·.1)=ns.map (·.1)∧MS sp ns ns'
theorem NR.refl {ws:List Wri} {sp:List ByteArray} {ns:List Nod} (h:∀ n∈ns,NI ws sp n):NR ws sp ns ns:=⟨h,rfl,λ _ _ _ h=>h⟩
theorem NR.len {ws:List Wri} {sp:List ByteArray} {ns ns':List Nod} (h:NR ws sp ns ns'):ns'.length=ns.length:=by
 have:=congrArg List.length h.2.1
 rwa [List.length_map,List.length_map] at this
theorem N0 {α:Type} {l:List α} {i j:Nat} {x d:α} (hj:j<l.length):(l.set i x).getD j d=if i=j then x else l.getD j d:=by
 rw [List.getD_eq_getElem?_getD,List.getElem?_set]
 by_cases h:i=j
 ·subst h
  rw [if_pos rfl,if_pos rfl,if_pos hj]
  rfl
 ·rw [if_neg h,if_neg h,List.getD_eq_getElem?_getD]
theorem J6a {ns:List Nod} {i:Nat} {n:Nod} (hi:i<ns.length) (h:n.1=(ns.getD i Cy).1):(ns.set i n).map (·.1)=ns.map (·.1):=by
 refine List.ext_getElem (by simp) (λ j h1 h2=>?_)
 rw [List.length_map,List.length_set] at h1
 rw [List.getElem_map,List.getElem_map,List.getElem_set]
 by_cases hij:i=j
 ·subst hij
  rw [if_pos rfl,h,List.getD_eq_getElem?_getD,List.getElem?_eq_getElem hi]
  rfl
 ·rw [if_neg hij]
theorem NR.set {ws:List Wri} {sp:List ByteArray} {ns ns':List Nod} (h:NR ws sp ns ns') {i:Nat} (hi:i<ns'.length) {n:Nod} (h1:NI ws sp n) (h2:n.1=(ns'.getD i Cy).1) (h3:MO sp (ns'.getD i Cy).2.1 n.2.1):NR ws sp ns (ns'.set i n):=by
 obtain ⟨g1,g2,g3⟩:=h
 refine ⟨λ m hm=>?_,by rw [J6a hi h2,g2],λ s hs st hk=>?_⟩
 ·rcases List.mem_or_eq_of_mem_set hm with hm|rfl
  ·exact g1 m hm
  ·exact h1
 ·obtain ⟨j,hj,hd⟩:=g3 s hs st hk
  refine ⟨j,by rw [List.length_set]; exact hj,?_⟩
  rw [N0 hj]
  by_cases hij:i=j
  ·subst hij; rw [if_pos rfl]; exact h3 s hs st hd
  ·rw [if_neg hij]; exact hd
section
variable {ws:List Wri} {sp:List ByteArray} {n:Nod} {s:ByteArray} {f:Fil}
theorem Zpa (hw:Dna ws) (h:NI ws sp n) (hf:IsW ws s f) (sure:Bool):NI ws sp (Uj n s f sure).1∧(Uj n s f sure).1.1=n.1∧MO sp n.2.1 (Uj n s f sure).1.2.1:=by
 obtain ⟨g1,g2,g3⟩:=hf.good hw
 obtain ⟨h1,h2,h3,h4⟩:=h
 have hg:=Lda (sure:=sure) h1 g1 g2
 obtain ⟨k1,k2⟩:=Sla (sure:=sure) hw h1.g h2 hf
 unfold Uj at hg ⊢
 cases hq:(n.2.2.2.length:Int)==60 with
 |true=>exact ⟨⟨h1,h2,h3,h4⟩,rfl,MO.refl _ _⟩
 |false=>
  rw [hq] at hg
  refine ⟨⟨hg,k1,h3,?_⟩,rfl,k2⟩
  show ∀ r∈bif (keep n.2.1 s f sure).2==0&&sure then n.2.2.2++[Y8 s f] else n.2.2.2,Ama ws r=true
  cases (keep n.2.1 s f sure).2==0&&sure with
  |false=>exact h4
  |true=>
   intro r hr
   rcases List.mem_append.1 hr with hr|hr
   ·exact h4 r hr
   ·rw [List.mem_singleton.1 hr]; exact Vra hf
theorem Zqa (hw:Dna ws) (h:NI ws sp n) (hf:IsW ws s f) (hc:(Uj n s f true).2=0∨(Uj n s f true).2=1):HD (Uj n s f true).1.2.1 s f.1:=by
 unfold Uj at hc ⊢
 cases hq:((n.2.2.2.length:Int)==60) with
 |true=>rw [hq] at hc; rcases hc with hc|hc<;>cases hc
 |false=>rw [hq] at hc; exact Sma hw h.1.g hf hc
theorem Dab (h:NI ws sp n) {l:List Row} (hl:K5 l=true) (hr:∀ r∈l,Ama ws r=true):NI ws sp (tk n l).2∧(tk n l).2.1=n.1∧(tk n l).2.2.1=n.2.1:=by
 obtain ⟨h1,h2,h3,h4⟩:=h
 have hg:=D7b h1 hl
 unfold tk at hg ⊢
 cases hq:decide ((W0 n.2.2.1 l).length > 60) with
 |true=>exact ⟨⟨h1,h2,h3,h4⟩,rfl,rfl⟩
 |false=>
  rw [hq] at hg
  exact ⟨⟨hg,h2,λ r hr'=>(Ksa hr').elim (h3 r) (hr r),h4⟩,rfl,rfl⟩
end
theorem C6b {ws:List Wri} {sp:List ByteArray} {ns:List Nod} {R:Int} {rc:List Int} {s:ByteArray} {f:Fil} {cs:List Int} {a:List Nod×Int×Int} {j:Nat} (hw:Dna ws) (hf:IsW ws s f)
  (h:NR ws sp ns a.1∧(s∉sp→a.2.2≥1→KN a.1 s f.1)∧a.2.2≥0) (hc:(cs.getD j 0).toNat<ns.length):
  NR ws sp ns (wst R rc s f cs a j).1∧(s∉sp→(wst R rc s f cs a j).2.2≥1→KN (wst R rc s f cs a j).1 s f.1)∧(wst R rc s f cs a j).2.2≥0:=by
 obtain ⟨h1,h2,h3⟩:=h
 unfold wst
 cases decide (a.2.1<R) with
 |false=>exact ⟨h1,h2,h3⟩
 |true=>
  cases rch rc j==0 with
  |true=>exact ⟨h1,h2,h3⟩
  |false=>
   rw [cond_true,cond_false]
   have hi:(cs.getD j 0).toNat<a.1.length:=by rw [h1.len]; exact hc
   generalize (cs.getD j 0).toNat=i at *
   have hn:=h1.1 _ (A4 (d:=Cy) hi)
   obtain ⟨p1,p2,p3⟩:=Zpa hw hn hf (rch rc j != 3)
   refine ⟨h1.set hi p1 p2 p3,λ hs hg=>?_,?_⟩
   ·cases hr:rch rc j==1&&((Uj (a.1.getD i Cy) s f (rch rc j != 3)).2==0 || (Uj (a.1.getD i Cy) s f (rch rc j != 3)).2==1) with
    |true=>
     rw [Bool.and_eq_true,Bool.or_eq_true,beq_iff_eq,beq_iff_eq,beq_iff_eq] at hr
     have e:(rch rc j != 3)=true:=by rw [hr.1]; rfl
     rw [e] at hr ⊢
     refine ⟨i,by rw [List.length_set]; exact hi,?_⟩
     rw [N0 hi,if_pos rfl]
     exact Zqa hw hn hf hr.2
    |false=>
     rw [hr] at hg
     obtain ⟨m,hm,hd⟩:=h2 hs hg
     refine ⟨m,by rw [List.length_set]; exact hm,?_⟩
     rw [N0 hm]
     by_cases hij:i=m
     ·subst hij; rw [if_pos rfl]; exact p3 s hs _ hd
     ·rw [if_neg hij]; exact hd
   ·dsimp only
    cases rch rc j==1&&((Uj (a.1.getD i Cy) s f (rch rc j != 3)).2==0 || (Uj (a.1.getD i Cy) s f (rch rc j != 3)).2==1)
    ·exact h3
    ·rw [cond_true]; omega
theorem C7b {ws:List Wri} {sp:List ByteArray} {w:Wld} {rc:List Int} {s:ByteArray} {f:Fil} (hw:Dna ws) (hf:IsW ws s f) (hn:∀ n∈w.2.2.1,NI ws sp n):
  NR ws sp w.2.2.1 (wrN w s f rc).1∧(s∉sp→(wrN w s f rc).2.2≥1→KN (wrN w s f rc).1 s f.1)∧(wrN w s f rc).2.2≥0:=
 Mq (λ _ (a:List Nod×Int×Int)=>NR ws sp w.2.2.1 a.1∧(s∉sp→a.2.2≥1→KN a.1 s f.1)∧a.2.2≥0) ⟨NR.refl hn,λ _ h=>absurd h (show ¬ (0:Int)≥1 by omega),Int.le_refl _⟩
  (λ j b hj hb=>C6b hw hf hb (by have:=Mr (A4 (d:=0) hj); omega))
theorem C8b {ws:List Wri} {sp:List ByteArray} {ns:List Nod} {rc:List Int} {s:ByteArray} {f:Fil} {ps:List Int} {a:List Nod×Bool×Bool} {src j:Nat} (hw:Dna ws) (hf:IsW ws s f) (hsrc:src<ns.length)
  (h:NR ws sp ns a.1∧(a.2.1=false→a.1.getD src Cy=ns.getD src Cy∧(a.2.2=true→0<j→∃ i,i≠src∧i<ns.length∧HD (a.1.getD i Cy).2.1 s f.1))) (hc:(ps.getD j 0).toNat<ns.length) (hc0:0≤ps.getD j 0):
  NR ws sp ns (pst (src:Int) s f rc ps a j).1∧((pst (src:Int) s f rc ps a j).2.1=false→(pst (src:Int) s f rc ps a j).1.getD src Cy=ns.getD src Cy∧((pst (src:Int) s f rc ps a j).2.2=true→0<j+1→∃ i,i≠src∧i<ns.length∧HD ((pst (src:Int) s f rc ps a j).1.getD i Cy).2.1 s f.1)):=by
 obtain ⟨h1,h2⟩:=h
 unfold pst
 cases hz:ps.getD j 0==(src:Int) with
 |true=>exact ⟨h1,λ c=>by cases c⟩
 |false=>
  have hne:(ps.getD j 0).toNat≠src:=by
   have:=beq_eq_false_iff_ne.1 hz
   omega
  cases hr:rch rc j != 1 with
  |true=>exact ⟨h1,λ c=>⟨(h2 c).1,λ c'=>by cases c'⟩⟩
  |false=>
   rw [cond_false,cond_false]
   have hi:(ps.getD j 0).toNat<a.1.length:=by rw [h1.len]; exact hc
   generalize (ps.getD j 0).toNat=i at *
   have hn:=h1.1 _ (A4 (d:=Cy) hi)
   obtain ⟨k1,k2⟩:=Sla (sure:=true) hw hn.1.g hn.2.1 hf
   refine ⟨h1.set hi ⟨J2a hn.1,k1,hn.2.2⟩ rfl k2,λ c=>⟨?_,λ c' _=>?_⟩⟩
   ·show (a.1.set i _).getD src Cy=_
    rw [N0 (by rw [h1.len]; exact hsrc),if_neg hne]
    exact (h2 c).1
   ·refine ⟨i,hne,hc,?_⟩
    show HD ((a.1.set i _).getD i Cy).2.1 s f.1
    rw [N0 hi,if_pos rfl]
    refine Sma hw hn.1.g hf ?_
    cases hk:(keep (a.1.getD i Cy).2.1 s f true).2 != 0&&(keep (a.1.getD i Cy).2.1 s f true).2 != 1 with
    |true=>
     have:(bif (keep (a.1.getD i Cy).2.1 s f true).2 != 0&&(keep (a.1.getD i Cy).2.1 s f true).2 != 1 then false else a.2.2)=true:=c'
     rw [hk] at this
     cases this
    |false=>
     rw [Bool.and_eq_false_iff,bne,bne,Bool.not_eq_false',Bool.not_eq_false',beq_iff_eq,beq_iff_eq] at hk
     exact hk
theorem C9b {ws:List Wri} {sp:List ByteArray} {w:Wld} {rc:List Int} {s:ByteArray} {i:Nat} (hw:Dna ws) (hn:∀ n∈w.2.2.1,NI ws sp n) (hi:i<w.2.2.1.length) (hf:IsW ws s (lkD (w.2.2.1.getD i Cy).2.1 s).1):
  NR ws sp w.2.2.1 (puN w i s rc).1∧((puN w i s rc).2.1=false→(puN w i s rc).1.getD i Cy=w.2.2.1.getD i Cy∧((puN w i s rc).2.2=true→0<(Ra w s).length→∃ j,j≠i∧j<w.2.2.1.length∧HD ((puN w i s rc).1.getD j Cy).2.1 s (lkD (w.2.2.1.getD i Cy).2.1 s).1.1)):=
 Mq (λ n (a:List Nod×Bool×Bool)=>NR ws sp w.2.2.1 a.1∧(a.2.1=false→a.1.getD i Cy=w.2.2.1.getD i Cy∧(a.2.2=true→0<n→∃ j,j≠i∧j<w.2.2.1.length∧HD (a.1.getD j Cy).2.1 s (lkD (w.2.2.1.getD i Cy).2.1 s).1.1))) ⟨NR.refl hn,λ _=>⟨rfl,λ _ c=>absurd c (Nat.lt_irrefl _)⟩⟩
  (λ j b hj hb=>C8b hw hf hi hb (by have:=T9 (A4 (d:=0) hj); omega) (T9 (A4 (d:=0) hj)).1)
theorem Sna {w:Wld} {s:ByteArray} (hr:H3 w.2.1 w.1=true) (hid:w.2.2.1.map (·.1)=w.1.map (·.1)):0<(Ra w s).length:=by
 obtain ⟨_,p2,p3⟩:=S6 hr s
 have h5:=(Bg.1 hr).2.1
 obtain ⟨id,hidm⟩:=List.exists_mem_of_length_pos (l:=Tb w.2.1 s) (by omega)
 have:=Qm.1 (p3 id hidm)
 rw [← hid] at this
 obtain ⟨n,hn,rfl⟩:=List.mem_map.1 this
 obtain ⟨j,hj,rfl⟩:=List.mem_iff_getElem.1 hn
 have hm:(j:Int)∈Ra w s:=Dja.2 ⟨j,hj,by rw [List.getD_eq_getElem?_getD,List.getElem?_eq_getElem hj]; exact hidm,rfl⟩
 exact List.length_pos_of_mem hm
theorem Vsa {ws:List Wri} {sp:List ByteArray} {w:Wld} {rc:List Int} {s:ByteArray} {i:Nat} (hw:Dna ws) (hn:∀ n∈w.2.2.1,NI ws sp n) (hi:i<w.2.2.1.length) (hr:H3 w.2.1 w.1=true) (hid:w.2.2.1.map (·.1)=w.1.map (·.1)):
  ∃ ns,(J1a w i s rc).2=wN w ns∧NR ws sp w.2.2.1 ns:=by
 have hni:=hn _ (A4 (d:=Cy) hi)
 unfold J1a
 cases hl:(lkD (w.2.2.1.getD i Cy).2.1 s).2 != 0 with
 |true=>exact ⟨w.2.2.1,rfl,NR.refl hn⟩
 |false=>
  rw [bne,Bool.not_eq_false',beq_iff_eq] at hl
  obtain ⟨b,hb,hg⟩:=P3.1 (show lkD (w.2.2.1.getD i Cy).2.1 s=((lkD (w.2.2.1.getD i Cy).2.1 s).1,0) from by rw [← hl])
  have hf:IsW ws s (lkD (w.2.2.1.getD i Cy).2.1 s).1:=(((hni.2.1 s).1 b hb).get hw hg).1
  obtain ⟨h1,h2⟩:=C9b (rc:=rc) hw hn hi hf
  refine ⟨_,rfl,?_⟩
  cases hc:(puN w i s rc).2.2 && !(puN w i s rc).2.1 with
  |false=>exact h1
  |true=>
   rw [Bool.and_eq_true,Bool.not_eq_true'] at hc
   obtain ⟨h3,h4⟩:=h2 hc.2
   obtain ⟨j,hj,hjl,hd⟩:=h4 hc.1 (Sna hr hid)
   rw [cond_true,h3]
   obtain ⟨g1,_,_⟩:=hf.good hw
   have hi':i<(puN w i s rc).1.length:=by rw [h1.len]; exact hi
   obtain ⟨o1,o2⟩:=C4b (s:=s) hni.1.g hni.2.1 g1
   refine ⟨λ m hm=>?_,by rw [J6a hi' (by rw [h3]; rfl),h1.2.1],λ t ht st hk=>?_⟩
   ·rcases List.mem_or_eq_of_mem_set hm with hm|rfl
    ·exact h1.1 m hm
    ·exact ⟨Xca hni.1 g1,o1,hni.2.2⟩
   ·obtain ⟨m,hm,hh⟩:=h1.2.2 t ht st hk
    by_cases hmi:m=i
    ·subst hmi
     rw [h3] at hh
     by_cases hts:t=s
     ·subst hts
      obtain ⟨b',f',e1,e2,e3⟩:=(hni.2.1 t).ge ht hh
      rw [hb] at e1
      cases e1
      rw [hg] at e2
      cases e2
      obtain ⟨c,g,k1,k2,k3⟩:=hd
      refine ⟨j,by rw [List.length_set,h1.len]; exact hjl,?_⟩
      rw [N0 (by rw [h1.len]; exact hjl),if_neg (Ne.symm hj)]
      exact ⟨c,g,k1,k2,Bva k3 e3⟩
     ·refine ⟨m,by rw [List.length_set]; exact hm,?_⟩
      rw [N0 hm,if_pos rfl]
      exact o2 t hts st hh
    ·refine ⟨m,by rw [List.length_set]; exact hm,?_⟩
     rw [N0 hm,if_neg (Ne.symm hmi)]
     exact hh
theorem M0a {ws:List Wri} {sp:List ByteArray} {w:Wld} {src:Int} {l:List Row} {self:Bool} {rc:List Int} (hn:∀ n∈w.2.2.1,NI ws sp n) (hl:K5 l=true) (hr:∀ r∈l,Ama ws r=true):NR ws sp w.2.2.1 (Oe w src l self rc).1:=by
 refine Mq (λ _ (a:List Nod×Bool)=>NR ws sp w.2.2.1 a.1) (NR.refl hn) (λ j b hj hb=>?_)
 have hc:=R8 (A4 (d:=0) hj)
 unfold gst
 cases (Ku w).getD j 0==src && !self with
 |true=>exact hb
 |false=>
  cases rch rc j != 1 with
  |true=>exact hb
  |false=>
   have hi:((Ku w).getD j 0).toNat<b.1.length:=by rw [hb.len]; omega
   obtain ⟨t1,t2,t3⟩:=Dab (hb.1 _ (A4 (d:=Cy) hi)) hl hr
   exact hb.set hi t1 t2 (by rw [t3]; exact MO.refl _ _)
theorem Vta {ws:List Wri} {sp:List ByteArray} {w:Wld} {rc:List Int} {i:Nat} (hn:∀ n∈w.2.2.1,NI ws sp n) (hi:i<w.2.2.1.length):∃ ns,(J3a w i rc).2=wN w ns∧NR ws sp w.2.2.1 ns:=by
 have hni:=hn _ (A4 (d:=Cy) hi)
 have hl:=(Cl.1 hni.1.1).2.2.2.1
 unfold J3a
 cases ((w.2.2.1.getD i Cy).2.2.1.length:Int)==0 with
 |true=>exact ⟨w.2.2.1,rfl,NR.refl hn⟩
 |false=>
  refine ⟨_,rfl,?_⟩
  have hg:NR ws sp w.2.2.1 (Rb w i rc).1:=M0a hn hl hni.2.2.1
  cases (Rb w i rc).2 && !(N7 (Ku (wN w (Rb w i rc).1)) (i:Int)) with
  |false=>exact hg
  |true=>
   have hi':i<(Rb w i rc).1.length:=by rw [hg.len]; exact hi
   have hm:=hg.1 _ (A4 (d:=Cy) hi')
   exact hg.set hi' ⟨Lza hm.1,hm.2.1,(λ _ h=>nomatch h),hm.2.2.2⟩ rfl (MO.refl _ _)
theorem Vua {ws:List Wri} {sp:List ByteArray} {w:Wld} {rc:List Int} {i:Nat} (hn:∀ n∈w.2.2.1,NI ws sp n) (hi:i<w.2.2.1.length):∃ ns,(J4a w i rc).2=wN w ns∧NR ws sp w.2.2.1 ns:=by
 have hni:=hn _ (A4 (d:=Cy) hi)
 obtain ⟨hq,_,_,_,hq60⟩:=Cl.1 hni.1.1
 unfold J4a
 cases ((w.2.2.1.getD i Cy).2.2.2.length:Int)==0 with
 |true=>exact ⟨w.2.2.1,rfl,NR.refl hn⟩
 |false=>
  refine ⟨_,rfl,?_⟩
  have hg:NR ws sp w.2.2.1 (S7 w i rc).1:=M0a hn (S8 hq) (λ r hr=>hni.2.2.2 r (List.mem_of_mem_take hr))
  cases (S7 w i rc).2 with
  |false=>exact hg
  |true=>
   have hi':i<(S7 w i rc).1.length:=by rw [hg.len]; exact hi
   have hm:=hg.1 _ (A4 (d:=Cy) hi')
   exact hg.set hi' ⟨Xfa hm.1 (λ r hr=>hq r (List.mem_of_mem_drop hr)) (by rw [List.length_drop]; omega),hm.2.1,hm.2.2.1,λ r hr=>hni.2.2.2 r (List.mem_of_mem_drop hr)⟩ rfl (MO.refl _ _)

structure WI (w:Wld):Prop where
 ring:H3 w.2.1 w.1=true
 ids:w.2.2.1.map (·.1)=w.1.map (·.1)
 nodes:∀ n∈w.2.2.1,NI w.2.2.2.2.1 w.2.2.2.2.2 n
 clk:Ft w.2.2.2.1=true
 wlen:w.2.2.2.2.1.length≤200
 wok:Dna w.2.2.2.2.1
 wge:∀ x∈w.2.2.2.2.1,sle w.2.2.2.1 x.2.1.1=false
 asc:w.2.2.2.2.1.Pairwise (λ a b=>sle a.2.1.1 b.2.1.1=true)
 kept:∀ x∈w.2.2.2.2.1,x.2.2=true→x.1∉w.2.2.2.2.2→KN w.2.2.1 x.1 x.2.1.1
 sps:TS w.2.2.2.2.2
 spw:∀ s∈w.2.2.2.2.2,∃ x∈w.2.2.2.2.1,x.1=s
theorem Dbb:LawfulBEq ByteArray := { eq_of_beq:=λ {a b} h=>Ja.1 (by rw [← Cza]; exact h),rfl:=λ {a}=>by rw [Cza]; exact Ja.2 rfl }
theorem Gma:∀ (p q:List ByteArray),p.Nodup→(∀ x∈p,x∈q)→p.length≤q.length
 |[],_,_,_=>Nat.zero_le _
 |x::p,q,h,hs=>by
  haveI:=Dbb
  obtain ⟨h1,h2⟩:=List.nodup_cons.1 h
  have hx:=hs x List.mem_cons_self
  have hlen:(q.erase x).length=q.length - 1:=List.length_erase_of_mem hx
  have hpos:=List.length_pos_of_mem hx
  have:=Gma p (q.erase x) h2 (λ y hy=>(List.mem_erase_of_ne (λ c=>by subst c; exact h1 hy)).2 (hs y (List.mem_cons_of_mem _ hy)))
  rw [List.length_cons]
  omega
namespace WI
variable {w:Wld}
theorem splen (h:WI w):w.2.2.2.2.2.length≤200:=by
 have hn:w.2.2.2.2.2.Nodup:=h.sps.imp (λ {a b} hab e=>by subst e; rw [Km] at hab; cases hab)
 have:=Gma _ (w.2.2.2.2.1.map (·.1)) hn (λ s hs=>by
  obtain ⟨x,hx,e⟩:=h.spw s hs
  exact List.mem_map.2 ⟨x,hx,e⟩)
 rw [List.length_map] at this
 have:=h.wlen
 omega
theorem nlen (h:WI w):w.2.2.1.length=w.1.length:=by
 have:=congrArg List.length h.ids
 rwa [List.length_map,List.length_map] at this
theorem dlen (h:WI w):1≤w.1.length∧w.1.length≤12:=(Ed.1 (Bg.1 h.ring).1).2.2
theorem ns (h:WI w):NS w.2.2.1:=⟨by have:=h.nlen; have:=h.dlen; omega,λ n hn=>(h.nodes n hn).1⟩
theorem win (h:WI w):WIn w:=by
 have h1:=h.nlen
 have h2:=h.dlen
 have h3:=h.wlen
 have h4:=h.splen
 refine ⟨Mc h.ring,by omega,⟨by omega,λ n hn=>Y6 (h.nodes n hn).1⟩,⟨by omega,λ x hx=>Jj (h.wok x hx).1⟩,by omega,λ s hs=>?_⟩
 obtain ⟨x,hx,e⟩:=h.spw s hs
 rw [← e]
 exact Jj (h.wok x hx).1
theorem other (h:WI w) {ns:List Nod} (hn:NR w.2.2.2.2.1 w.2.2.2.2.2 w.2.2.1 ns):WI (wN w ns):=
 ⟨h.ring,hn.2.1.trans h.ids,hn.1,h.clk,h.wlen,h.wok,h.wge,h.asc,λ x hx hk hs=>hn.2.2 _ hs _ (h.kept x hx hk hs),h.sps,h.spw⟩
theorem other' (h:WI w) {r:Bool×Wld} (hr:∃ ns,r.2=wN w ns∧NR w.2.2.2.2.1 w.2.2.2.2.2 w.2.2.1 ns):WI r.2:=by
 obtain ⟨ns,e,hn⟩:=hr
 rw [e]
 exact h.other hn
theorem write (h:WI w) {s:ByteArray} {f:Fil} {rc:List Int} (hs:B1 s=true) (hf:Fh f=true) (hb:Al f.2.2) (hc:sle w.2.2.2.1 f.1=true) (hl:w.2.2.2.2.1.length<200):WI (Z7 (w.1,w.2.1,w.2.2.1,f.1,w.2.2.2.2) s f rc).2:=by
 obtain ⟨g1,g2,g3⟩:=C7b (ws:=w.2.2.2.2.1++[(s,f,decide ((wrN (w.1,w.2.1,w.2.2.1,f.1,w.2.2.2.2) s f rc).2.2≥quo w.2.1.1))]) (sp:=w.2.2.2.2.2) (w:=(w.1,w.2.1,w.2.2.1,f.1,w.2.2.2.2)) (rc:=rc) (s:=s) (f:=f)
  (λ x hx=>by
   rcases List.mem_append.1 hx with hx|hx
   ·exact h.wok x hx
   ·rw [List.mem_singleton.1 hx]; exact ⟨hs,hf,hb⟩)
  ⟨_,List.mem_append.2 (.inr (List.mem_singleton.2 rfl)),rfl,rfl⟩
  (λ n hn=>(h.nodes n hn).mono (λ x hx=>List.mem_append.2 (.inl hx)) (λ _ h=>h))
 unfold Z7
 generalize wrN (w.1,w.2.1,w.2.2.1,f.1,w.2.2.2.2) s f rc=a at *
 have hq:quo w.2.1.1≥1:=by
  have:=(Bg.1 h.ring).2.1
  unfold quo
  omega
 exact {
  ring:=h.ring
  ids:=g1.2.1.trans h.ids
  nodes:=g1.1
  clk:=(Ik.1 hf).1
  wlen:=by show (w.2.2.2.2.1++[_]).length≤200; rw [List.length_append]; simp only [List.length_cons,List.length_nil]; omega
  wok:=λ x hx=>by
   rcases List.mem_append.1 hx with hx|hx
   ·exact h.wok x hx
   ·rw [List.mem_singleton.1 hx]; exact ⟨hs,hf,hb⟩
  wge:=λ x hx=>by
   rcases List.mem_append.1 hx with hx|hx
   ·exact Bva (Z9 hc) (h.wge x hx)
   ·rw [List.mem_singleton.1 hx]; exact Nd _
  asc:=List.pairwise_append.2 ⟨h.asc,List.pairwise_singleton _ _,λ x hx y hy=>by
   rw [List.mem_singleton.1 hy]
   have:=h.wge x hx
   cases hxy:sle x.2.1.1 f.1 with
   |true=>rfl
   |false=>
    have:=Bva this hxy
    rw [this] at hc
    cases hc⟩
  kept:=λ x hx hk hsp=>by
   rcases List.mem_append.1 hx with hx|hx
   ·exact g1.2.2 _ hsp _ (h.kept x hx hk hsp)
   ·rw [List.mem_singleton.1 hx] at hk hsp ⊢
    have hk':a.2.2≥quo w.2.1.1:=of_decide_eq_true hk
    exact g2 hsp (by omega)
  sps:=h.sps
  spw:=λ s hs=>by
   obtain ⟨x,hx,e⟩:=h.spw s hs
   exact ⟨x,List.mem_append.2 (.inl hx),e⟩ }
theorem ask (h:WI w) {s:ByteArray} {f:Fil} {t:Int} {rc:List Int} (hb:Al f.2.2) (hd:f.2.1=true→f.2.2=[]):WI (ask w s f t rc).2:=by
 unfold Vf.ask
 cases hs:B1 s with
 |false=>exact h
 |true=>
  rw [Bool.not_true,cond_false]
  by_cases hl:(f.2.2.length:Int) > 200
  ·rw [decide_eq_true hl]; exact h
  ·rw [decide_eq_false hl,cond_false]
   cases inR t 0 1000000000 with
   |false=>exact h
   |true=>
    rw [Bool.not_true,cond_false]
    cases hw:(w.2.2.2.2.1.length:Int)==200 with
    |true=>exact h
    |false=>
     rw [cond_false]
     have hw':=beq_eq_false_iff_ne.1 hw
     have hwl:=h.wlen
     obtain ⟨n1,n2⟩:=Dla h.clk t 0
     cases he:(Mz w.2.2.2.1 t 0).1==w.2.2.2.1.1&&((Mz w.2.2.2.1 t 0).2.1==w.2.2.2.1.2.1&&(Mz w.2.2.2.1 t 0).2.2==w.2.2.2.1.2.2) with
     |true=>exact h
     |false=>
      rw [cond_false]
      have hlt:sle w.2.2.2.1 (Mz w.2.2.2.1 t 0)=true:=by
       rcases n2 with n2|n2
       ·rw [n2,beq_self_eq_true,beq_self_eq_true,beq_self_eq_true] at he; cases he
       ·exact n2
      exact h.write (f:=(Mz w.2.2.2.1 t 0,f.2)) hs (Ik.2 ⟨n1,by show f.2.2.length≤200; omega,hd⟩) hb hlt (by omega)
theorem rot (h:WI w) {i:Nat} (hi:i<w.2.2.1.length) {s:ByteArray} {b:Int}:WI (Aab w i s b).2:=by
 have hni:=h.nodes _ (A4 (d:=Cy) hi)
 unfold Aab
 cases hr:(Lea (w.2.2.1.getD i Cy) s b).2 with
 |false=>exact h
 |true=>
  have hg:=Ria (s:=s) (b:=b) hni.1
  unfold Lea at hr hg ⊢
  cases hc:M3 (w.2.2.1.getD i Cy)&&((lkD (w.2.2.1.getD i Cy).2.1 s).2==0&&(Gta (w.2.2.1.getD i Cy).2.1 s b).2) with
  |false=>rw [hc] at hr; cases hr
  |true=>
   rw [hc] at hg
   rw [Bool.and_eq_true,Bool.and_eq_true,beq_iff_eq] at hc
   obtain ⟨d1,d2,f,hf⟩:=C5b h.wok hni.1.g hni.2.1 hc.2.1 hc.2.2 (spl w.2.2.2.2.2 s) (λ t=>Dma)
   have hsub:∀ t∈w.2.2.2.2.2,t∈spl w.2.2.2.2.2 s:=λ t ht=>Dma.2 (.inr ht)
   have hN:NR w.2.2.2.2.1 (spl w.2.2.2.2.2 s) w.2.2.1 (w.2.2.1.set i ((w.2.2.1.getD i Cy).1,(Gta (w.2.2.1.getD i Cy).2.1 s b).1,(w.2.2.1.getD i Cy).2.2)):=
    (NR.refl (λ n hn=>(h.nodes n hn).mono (λ _ h=>h) hsub)).set hi ⟨hg,d1,hni.2.2⟩ rfl d2
   exact {
    ring:=h.ring
    ids:=hN.2.1.trans h.ids
    nodes:=hN.1
    clk:=h.clk
    wlen:=h.wlen
    wok:=h.wok
    wge:=h.wge
    asc:=h.asc
    kept:=λ x hx hk hs=>hN.2.2 _ hs _ (h.kept x hx hk (λ c=>hs (hsub _ c)))
    sps:=Bua h.sps
    spw:=λ t ht=>by
     rcases Dma.1 ht with rfl|ht
     ·obtain ⟨x,hx,e,_⟩:=hf
      exact ⟨x,hx,e⟩
     ·exact h.spw t ht }
theorem node (h:WI w) {i:Nat} (hi:i<w.2.2.1.length) {e:Evt}:WI (Gla w e i).2:=by
 have hni:=h.nodes _ (A4 (d:=Cy) hi)
 unfold Gla
 cases e.1==3 with
 |true=>exact h.other' (Vsa h.wok h.nodes hi h.ring h.ids)
 |false=>
  cases e.1==4 with
  |true=>exact h.other' (Vta h.nodes hi)
  |false=>
   cases e.1==5 with
   |true=>exact h.other' (Vua h.nodes hi)
   |false=>
    cases e.1==6 with
    |true=>
     obtain ⟨c1,c2⟩:=Vqa h.wok hni.1.g hni.2.1
     exact h.other ((NR.refl h.nodes).set hi ⟨Xba hni.1,c1,hni.2.2⟩ rfl c2)
    |false=>
     cases e.1==7 with
     |true=>exact h.other ((NR.refl h.nodes).set hi ⟨C1b hni.1,Zna hni.1.g hni.2.1 _,hni.2.2⟩ rfl (Zoa hni.1.g hni.2.1 _))
     |false=>exact h.rot hi
theorem weigh (h:WI w) {i t:Int}:WI (J5a w i t).2:=by
 unfold J5a
 cases h1:inR i 0 ((w.1.length:Int) - 1) with
 |false=>exact h
 |true=>
  cases h2:inR t 1 1000 with
  |false=>exact h
  |true=>
   obtain ⟨i0,i1⟩:=Dz.1 h1
   obtain ⟨w0,w1⟩:=Dz.1 h2
   exact ⟨(Loa (Dba h.ring (by omega) w0 w1)).1,h.ids.trans (Daa _ _ _).symm,h.nodes,h.clk,h.wlen,h.wok,h.wge,h.asc,h.kept,h.sps,h.spw⟩
theorem ev (h:WI w) {e:Evt} (hb:Al e.2.2.2.1):WI (doW w e).2:=by
 have ae:∀ {q:Int×Wld},WI q.2→WI (Xga q).2:=λ {q} hq=>by
  unfold Xga
  cases q.1 != 2<;>exact hq
 unfold doW
 cases e.1==1 with
 |true=>exact ae (h.ask hb (λ c=>by cases c))
 |false=>
  cases e.1==2 with
  |true=>exact ae (h.ask Mw (λ _=>rfl))
  |false=>
   cases e.1==3 || (e.1==4 || (e.1==5 || (e.1==6 || (e.1==7 || e.1==8)))) with
   |true=>
    cases hi:inR e.2.1 0 ((w.2.2.1.length:Int) - 1) with
    |false=>exact h
    |true=>
     have:=Dz.1 hi
     exact h.node (by omega)
   |false=>
    cases e.1==9 with
    |true=>exact h.weigh
    |false=>exact h
theorem rightB (h:WI w):Ua w=true:=by
 have h2:=h.dlen
 have hl:=h.nlen
 unfold Ua
 have a1:Pr w.1 w.2.2.1=true:=by
  unfold Pr
  rw [show ((w.2.2.1.length:Int)==(w.1.length:Int))=true by rw [beq_iff_eq]; omega,Bool.true_and,List.all_eq_true]
  intro j hj
  have hj':=List.mem_range.1 hj
  rw [Bool.and_eq_true,beq_iff_eq]
  refine ⟨?_,(h.nodes _ (A4 (d:=Cy) hj')).1.1⟩
  have e1:(w.2.2.1.getD j Cy).1=(w.2.2.1.map (·.1)).getD j 0:=by
   rw [List.getD_eq_getElem?_getD,List.getD_eq_getElem?_getD,List.getElem?_map,List.getElem?_eq_getElem hj']; rfl
  have e2:(w.1.getD j Mb).1=(w.1.map (·.1)).getD j 0:=by
   rw [List.getD_eq_getElem?_getD,List.getD_eq_getElem?_getD,List.getElem?_map,List.getElem?_eq_getElem (by omega)]; rfl
  rw [e1,e2,h.ids]
 have a2:Sua w.2.2.2.1 w.2.2.2.2.1=true:=by
  unfold Sua
  rw [Bool.and_eq_true,List.all_eq_true]
  refine ⟨λ x hx=>?_,decide_eq_true (by have:=h.wlen; omega)⟩
  unfold Dfa
  rw [(h.wok x hx).1,(h.wok x hx).2.1,h.wge x hx]
  rfl
 have a3:Qn w.2.2.2.2.2=true:=by
  unfold Qn
  rw [List.all_eq_true]
  intro j hj
  have hj':=List.mem_range.1 hj
  rw [Bool.and_eq_true,Bool.or_eq_true]
  refine ⟨?_,?_⟩
  ·obtain ⟨x,hx,e⟩:=h.spw _ (A4 (d:=Og) hj')
   rw [← e]
   exact (h.wok x hx).1
  ·by_cases h0:j=0
   ·exact .inl (decide_eq_true h0)
   ·right
    have:=List.pairwise_iff_getElem.1 h.sps (j - 1) j (by omega) hj' (by omega)
    rwa [List.getD_eq_getElem?_getD,List.getD_eq_getElem?_getD,List.getElem?_eq_getElem hj',List.getElem?_eq_getElem (by omega)]
 rw [h.ring,a1,h.clk,a2,a3]
 rfl
end WI

def Dlb (l:List Dev) (last:Int):Prop:=l.Pairwise (λ a b=>a.1<b.1)∧∀ d∈l,(0≤d.1∧d.1≤last)∧(0≤d.2.1∧d.2.1≤20)∧1≤d.2.2∧d.2.2≤1000
theorem Soa (z:Int) (hz:1≤z∧z≤20):∀ (n:Nat) (i:Int) (l:List Dev) (last:Int) (c:Cur),i=n→n≤6→Ck c→Dlb l last→0≤last→last+2 * n≤12→l.length+n≤6→
  Tot (λ k=>Gn k l z last i c) (λ r=>(∃ last,Dlb r.1 last∧last≤20)∧r.1.length=l.length+n∧Ck r.2):=by
 intro n
 induction n with
 |zero=>
  rintro i l last c rfl _ hc h h0 h1 _
  refine Tot.succ ?_
  simp (disch:=omega) only [Gn,dF]
  exact Tot.pure ⟨⟨last,h,by omega⟩,rfl,hc⟩
 |succ n ih=>
  rintro i l last c rfl hn hc h h0 h1 hl
  refine Tot.succ ?_
  simp (disch:=omega) only [Gn,dT]
  obtain ⟨x,c1,e1,hx,k1⟩:=Ke c hc [1,1,2] (by decide) (by decide)
  obtain ⟨y,c2,e2,y0,y1,_,k2⟩:=Am c1 k1 z (by omega)
  obtain ⟨v,c3,e3,hv,k3⟩:=Ke c2 k2 [1,1,1,2,10,100] (by decide) (by decide)
  have y1:=y1 (by omega)
  have hx':1≤x∧x≤2:=by
   simp only [List.mem_cons,List.not_mem_nil,or_false] at hx
   omega
  have hv':1≤v∧v≤1000:=by
   simp only [List.mem_cons,List.not_mem_nil,or_false] at hv
   omega
  refine Tot.bind (Tot.of (Q:=λ r=>r=(x,c1)) e1 rfl) ?_
  rintro r rfl
  refine Tot.bind (Tot.of (Q:=λ r=>r=(y,c2)) e2 rfl) ?_
  rintro r rfl
  refine Tot.bind (Tot.of (Q:=λ r=>r=(v,c3)) e3 rfl) ?_
  rintro r rfl
  simp (disch:=omega) only [w64]
  refine Tot.ble (by simp only [List.length_cons,List.length_nil]; omega) ?_
  refine (ih _ (l++[(last+x,y,v)]) (last+x) c3 (by omega) (by omega) k3 ⟨?_,?_⟩ (by omega) (by omega) (by rw [List.length_append]; simp only [List.length_cons,List.length_nil]; omega)).mono ?_
  ·refine List.pairwise_append.2 ⟨h.1,List.pairwise_singleton _ _,λ a ha b hb=>?_⟩
   rw [List.mem_singleton.1 hb]
   have:=(h.2 a ha).1.2
   show a.1<last+x
   omega
  ·intro d hd
   rcases List.mem_append.1 hd with hd|hd
   ·obtain ⟨⟨a1,a2⟩,a3⟩:=h.2 d hd
    exact ⟨⟨a1,by omega⟩,a3⟩
   ·rw [List.mem_singleton.1 hd]
    exact ⟨⟨by show 0≤last+x; omega,Int.le_refl _⟩,⟨y0,by show y≤20; omega⟩,hv'⟩
  ·rintro r ⟨g1,g2,g3⟩
   refine ⟨g1,?_,g3⟩
   rw [g2,List.length_append]
   simp only [List.length_cons,List.length_nil]
   omega
theorem Nma (c:Cur) (hc:Ck c):Tot (λ k=>Fy k c) (λ r=>L5 r.1=true∧(2≤r.1.length∧r.1.length≤6)∧Ck r.2):=by
 unfold Fy
 obtain ⟨x,c1,e1,x0,x1,_,k1⟩:=Am c hc 4 (by decide)
 obtain ⟨y,c2,e2,y0,y1,_,k2⟩:=Am c1 k1 5 (by decide)
 have x1:=x1 (by decide)
 have y1:=y1 (by decide)
 refine Tot.bind (Tot.of (Q:=λ r=>r=(x,c1)) e1 rfl) ?_
 rintro r rfl
 refine Tot.bind (Tot.of (Q:=λ r=>r=(y,c2)) e2 rfl) ?_
 rintro r rfl
 simp (disch:=omega) only [w64]
 refine Tot.bind (Soa (1+x) (by omega) (2+y).toNat (2+y) [] 0 c2 (by omega) (by omega) k2 ⟨List.Pairwise.nil,λ d hd=>(nomatch hd)⟩ (Int.le_refl _) (by omega) (by simp only [List.length_nil]; omega)) ?_
 rintro r ⟨⟨last,g1,g2⟩,g3,g4⟩
 rw [List.length_nil] at g3
 exact Tot.pure ⟨Ed.2 ⟨g1.1,λ d hd=>My.2 ⟨⟨(g1.2 d hd).1.1,by have:=(g1.2 d hd).1.2; omega⟩,(g1.2 d hd).2⟩,by dsimp only; omega,by dsimp only; omega⟩,⟨by dsimp only; omega,by dsimp only; omega⟩,g4⟩
abbrev Sva:Wld:=(([]:List Dev),((0:Int),([]:List (List Int))),([]:List Nod),((0:Int),((0:Int),(0:Int))),([]:List Wri),([]:List ByteArray))
def Xha (d:Dev):Nod:=(d.1,([],[]),[],[])
def Ckb (l:List Dev) (parts reps:Int):Wld:=(l,(build l parts reps).1,l.map Xha,(0,0,0),[],[])
theorem Zra {ws:List Wri} {sp:List ByteArray} {l:List Dev} (h:L5 l=true) {d:Dev} (hd:d∈l):NI ws sp (Xha d):=by
 obtain ⟨⟨i0,i1⟩,_⟩:=My.1 ((Ed.1 h).2.1 d hd)
 refine ⟨⟨Cl.2 ⟨(λ r hr=>nomatch hr),⟨i0,i1⟩,dg0.1,Ub,Nat.zero_le _⟩,dg0.2⟩,λ s=>⟨λ b hb=>?_,λ b hb=>?_,λ _ b f hb=>?_⟩,(λ r hr=>nomatch hr),(λ r hr=>nomatch hr)⟩
 ·rw [show gt (Xha d).2.1.1 s=none from rfl] at hb; cases hb
 ·rw [show gt (Xha d).2.1.2 s=none from rfl] at hb; cases hb
 ·rw [show gt (Xha d).2.1.2 s=none from rfl] at hb; cases hb
theorem Zsa {l:List Dev} {parts reps:Int} (hb:(build l parts reps).2=true):WI (Ckb l parts reps):=by
 obtain ⟨h1,h2,_,_⟩:=Lka hb
 exact {
  ring:=h2
  ids:=by show (l.map Xha).map (·.1)=_; rw [List.map_map]; rfl
  nodes:=λ n hn=>by
   obtain ⟨d,hd,rfl⟩:=List.mem_map.1 hn
   exact Zra h1 hd
  clk:=rfl
  wlen:=Nat.zero_le _
  wok:=λ x hx=>nomatch hx
  wge:=λ x hx=>nomatch hx
  asc:=List.Pairwise.nil
  kept:=λ x hx=>nomatch hx
  sps:=List.Pairwise.nil
  spw:=λ s hs=>nomatch hs }
theorem Gna (l:List Dev) (parts reps:Int) (hb:(build l parts reps).2=true):Tot (λ k=>C8 k l parts reps) (λ r=>r=Ckb l parts reps):=by
 obtain ⟨h1,_,_,_⟩:=Lka hb
 have h12:=(Ed.1 h1).2.2.2
 unfold C8
 refine Tot.bind (Rta l parts reps (by omega)) ?_
 rintro r rfl
 refine Tot.ble (by rw [List.length_nil]; omega) (Tot.no (by rw [hb]; rfl) ?_)
 rw [List.nil_append]
 refine Tot.bind (Q:=λ r=>r=(Sva,Ckb l parts reps)) ?_ (by rintro r rfl; exact Tot.pure rfl)
 refine Tot.up (L:=λ k i (s:List Nod)=>E7 k l i Sva (l,(build l parts reps).1,s,(0,0,0),[],[])) (Q:=λ r=>r=(Sva,Ckb l parts reps)) l.length (λ j s=>s=(l.take j).map Xha) ?_ ?_ 0 [] (Nat.zero_le _) rfl
 ·rintro s rfl
  simp (disch:=omega) only [E7,dF]
  exact Tot.pure (by rw [List.take_length]; rfl)
 ·rintro j s hj rfl next
  have hd:=A4 (d:=Mb) hj
  obtain ⟨d,ed⟩:∃ d:Dev,l.getD j Mb=d:=⟨_,rfl⟩
  rw [ed] at hd
  have e0:l.getD j ((0:Int),((0:Int),(0:Int)))=d:=ed
  have e1:l[j]=d:=by rw [← ed,List.getD_eq_getElem?_getD,List.getElem?_eq_getElem hj]; rfl
  have hid:=(My.1 ((Ed.1 h1).2.1 d hd)).1
  simp (disch:=omega) only [E7,dT,Int.toNat_natCast,w64,e0,Yy,Option.bind_some]
  have hl:((l.take j).map Xha).length=j:=by rw [List.length_map,List.length_take]; omega
  rw [Dz.2 hid,cond_true]
  refine Tot.ble (by rw [hl]; simp only [List.length_cons,List.length_nil]; omega) (next _ ?_)
  rw [List.take_succ_eq_append_getElem hj,List.map_append,e1]
  rfl
theorem Nna (c:Cur) (hc:Ck c):Tot (λ k=>Jo k c) (λ r=>WI r.1∧Ck r.2):=by
 unfold Jo
 refine Tot.bind (Nma c hc) ?_
 rintro ⟨l,c1⟩ ⟨hl,hn,k1⟩
 dsimp only at hl hn k1 ⊢
 obtain ⟨x,c2,e2,hx,k2⟩:=Ke c1 k1 [3,2,3,1] (by decide) (by decide)
 obtain ⟨y,c3,e3,hy,k3⟩:=Ke c2 k2 [4,2,8] (by decide) (by decide)
 have hx':1≤x∧x≤3:=by
  simp only [List.mem_cons,List.not_mem_nil,or_false] at hx
  omega
 have hy':1≤y∧y≤8:=by
  simp only [List.mem_cons,List.not_mem_nil,or_false] at hy
  omega
 have one:∀ n:Int,1≤n→n≤5→n≤(l.length:Int)→Tot (λ k=>(Ad c2 [4,2,8]).bind λ r3=>(C8 k l r3.1 n).bind λ r4=>some (r4,r3.2)) (λ r=>WI r.1∧Ck r.2):=by
  intro n n0 n5 nl
  have hb:(build l y n).2=true:=by
   unfold build
   rw [hl,Dz.2 (show 1≤y∧y≤64 by omega),Dz.2 (show 1≤n∧n≤5 by omega),decide_eq_false (show ¬ n > (l.length:Int) by omega)]
   rfl
  refine Tot.bind (Tot.of (Q:=λ r=>r=(y,c3)) e3 rfl) ?_
  rintro r rfl
  refine Tot.bind (Gna l y n hb) ?_
  rintro r rfl
  exact Tot.pure ⟨Zsa hb,k3⟩
 refine Tot.bind (Tot.of (Q:=λ r=>r=(x,c2)) e2 rfl) ?_
 rintro r rfl
 exact Tot.dite (λ h=>one (l.length:Int) (by omega) (by dsimp only at h; omega) (Int.le_refl _)) (λ h=>one x (by omega) (by omega) (by dsimp only at h; omega))
theorem Un (c:Cur) (hc:Ck c):Tot (λ k=>C9 k c) (λ r=>r.1.length=6∧Ck r.2):=by
 unfold C9
 refine Tot.bind (Q:=λ r=>r.1.length=6∧Ck r.2) ?_ (λ r h=>Tot.pure h)
 refine Tot.up (L:=λ k i (s:List Int×Cur)=>Et k s.1 i s.2) (Q:=λ r=>r.1.length=6∧Ck r.2) 6 (λ j s=>s.1.length=j∧Ck s.2) ?_ ?_ 0 ([],c) (Nat.zero_le _) ⟨rfl,hc⟩
 ·rintro s ⟨h1,h2⟩
  simp (disch:=omega) only [Et,dF]
  exact Tot.pure ⟨h1,h2⟩
 ·rintro j s hj ⟨h1,h2⟩ next
  obtain ⟨x,c1,e1,_,k1⟩:=Ke s.2 h2 [1,1,1,1,0,2,3] (by decide) (by decide)
  simp (disch:=omega) only [Et,dT,w64]
  refine Tot.bind (Tot.of (Q:=λ r=>r=(x,c1)) e1 rfl) ?_
  rintro r rfl
  exact Tot.ble (by simp only [List.length_cons,List.length_nil]; omega) (next (s.1++[x],c1) ⟨by rw [List.length_append,h1]; rfl,k1⟩)
theorem J7a (c:Cur) (hc:Ck c):Tot (λ k=>C9 k c) (λ r=>r.1.length≤6∧Ck r.2):=(Un c hc).mono λ r h=>⟨by have:=h.1; omega,h.2⟩
def Vva (r:Evt×Cur×Wld) (w:Wld):Prop:=Cjb r.1∧Al r.1.2.2.2.1∧Ck r.2.1∧r.2.2=w
theorem Zta {d:Dsk} (hd:DIn d) (hb:DB d):Tot (λ k=>Fw k d) (λ r=>r.length≤2000000∧∀ t∈r,Jv t):=by
 refine (Vha d hd hb).mono ?_
 rintro r rfl
 obtain ⟨a1,a2⟩:=Bxb d.1 hd.1.2.1 d.1 0 [] (λ x hx=>hx) (λ y hy=>nomatch hy)
 have:=hd.2.1
 rw [List.length_nil] at a1
 exact ⟨by unfold Nia; omega,a2⟩
theorem Doa (c:Cur) (w:Wld) (hc:Ck c) (hn1:1≤w.2.2.1.length) (hnl:w.2.2.1.length≤2000000) (hnn:∀ n∈w.2.2.1,NIn n):Tot (λ k=>Db k c w w) (λ r=>Vva r w):=by
 unfold Db
 obtain ⟨i,c1,e1,i0,i1,_,k1⟩:=Am c hc (w.2.2.1.length:Int) (by omega)
 have i1:=i1 (by omega)
 obtain ⟨s,c2,e2,hs,k2⟩:=Nl c1 k1
 have hs:=(Le s hs).1
 refine Tot.bind (Tot.of (Q:=λ r=>r=(i,c1)) e1 rfl) ?_
 rintro r rfl
 refine Tot.bind (Tot.of (Q:=λ r=>r=(s,c2)) e2 rfl) ?_
 rintro r rfl
 refine Tot.bind (J7a c2 k2) ?_
 rintro ⟨rc,c3⟩ ⟨hrc,k3⟩
 dsimp only at hrc k3 ⊢
 obtain ⟨n,c4,e4,_,_,_,k4⟩:=Am c3 k3 20 (by decide)
 refine Tot.bind (Tot.of (Q:=λ r=>r=(n,c4)) e4 rfl) ?_
 rintro r rfl
 dsimp only
 have ok:∀ (kd:Int) (s:ByteArray) (l:List Int) (x:Int) (c:Cur),Jv s→Al l→l.length≤2000000 → -9223372036854775808≤x→x≤9223372036854775807→Ck c→Vva ((kd,i,s,l,x,rc),c,w) w:=λ kd s l x c h1 h2 h3 h4 h5 h6=>⟨⟨h1,by show l.length≤_; omega,⟨h4,h5⟩,by show rc.length≤_; omega⟩,h2,h6,rfl⟩
 have plain:∀ kd:Int,Tot (λ _=>some ((kd,i,s,([]:List Int),(0:Int),rc),c4,w)) (λ r=>Vva r w):=λ kd=>Tot.pure (ok kd s [] 0 c4 hs Mw (Nat.zero_le _) (by decide) (by decide) k4)
 have put:Tot (λ k=>(A3 c4 2).bind λ r5=>(Dc k r5.2).bind λ r6=>some ((1,i,s,r6.1,IntKind.wrap .i64 (w.2.2.2.1.1+r5.1),rc),r6.2,w)) (λ r=>Vva r w):=by
  obtain ⟨x,c5,e5,x0,x1,_,k5⟩:=Am c4 k4 2 (by decide)
  have x1:=x1 (by decide)
  refine Tot.bind (Tot.of (Q:=λ r=>r=(x,c5)) e5 rfl) ?_
  rintro r rfl
  refine Tot.bind (B9a c5 k5) ?_
  rintro ⟨l,c6⟩ ⟨g1,g2,g3⟩
  dsimp only at g1 g2 g3 ⊢
  have hw:=B8a (w.2.2.2.1.1+x)
  exact Tot.pure (ok 1 s l _ c6 hs g2 (by omega) hw.1 hw.2 g1)
 have drop:Tot (λ k=>(A3 c4 2).bind λ r17=>some ((2,i,s,([]:List Int),IntKind.wrap .i64 (w.2.2.2.1.1+r17.1),rc),r17.2,w)) (λ r=>Vva r w):=by
  obtain ⟨x,c5,e5,x0,x1,_,k5⟩:=Am c4 k4 2 (by decide)
  have x1:=x1 (by decide)
  refine Tot.bind (Tot.of (Q:=λ r=>r=(x,c5)) e5 rfl) ?_
  rintro r rfl
  have hw:=B8a (w.2.2.2.1.1+x)
  exact Tot.pure (ok 2 s [] _ c5 hs Mw (Nat.zero_le _) hw.1 hw.2 k5)
 have rot:Tot (λ k=>(A3 c4 60).bind λ r31=>some ((8,i,s,([]:List Int),r31.1,rc),r31.2,w)) (λ r=>Vva r w):=by
  obtain ⟨x,c5,e5,x0,x1,_,k5⟩:=Am c4 k4 60 (by decide)
  have x1:=x1 (by decide)
  refine Tot.bind (Tot.of (Q:=λ r=>r=(x,c5)) e5 rfl) ?_
  rintro r rfl
  exact Tot.pure (ok 8 s [] x c5 hs Mw (Nat.zero_le _) (by omega) (by omega) k5)
 have ring:Tot (λ k=>(Ad c4 [1,2,10,1000]).bind λ r33=>some ((9,i,s,([]:List Int),r33.1,rc),r33.2,w)) (λ r=>Vva r w):=by
  obtain ⟨x,c5,e5,hx,k5⟩:=Ke c4 k4 [1,2,10,1000] (by decide) (by decide)
  refine Tot.bind (Tot.of (Q:=λ r=>r=(x,c5)) e5 rfl) ?_
  rintro r rfl
  have hx':1≤x∧x≤1000:=by
   simp only [List.mem_cons,List.not_mem_nil,or_false] at hx
   omega
  exact Tot.pure (ok 9 s [] x c5 hs Mw (Nat.zero_le _) (by omega) (by omega) k5)
 have push:Tot (λ k=>cond (decide ((0:Int)≤i)) (cond (decide (i<(List.length w.2.2.1:Int))) ((Fw k (List.getD w.2.2.1 (Int.toNat i) ((0:Int),(([],[]),([],[])))).2.1).bind λ r20=>cond (decide ((List.length r20:Int) > 0)) ((A3 c4 (List.length r20:Int)).bind λ r21=>cond (decide ((0:Int)≤r21.1)) (cond (decide (r21.1<(List.length r20:Int))) (some ((3,i,(List.getD r20 (Int.toNat r21.1) (⟨#[]⟩:ByteArray)),([]:List Int),0,rc),r21.2,w)) none) none) (some ((3,i,s,([]:List Int),0,rc),c4,w))) none) none) (λ r=>Vva r w):=by
  refine Tot.dec i0 (Tot.dec i1 ?_)
  have hm:=hnn _ (A4 (d:=Cy) (show i.toNat<w.2.2.1.length by omega))
  refine Tot.bind (Zta hm.1.1 hm.1.2) ?_
  rintro l ⟨hl,hl'⟩
  refine Tot.dite (λ h0=>?_) (λ h0=>plain 3)
  obtain ⟨x,c5,e5,x0,x1,_,k5⟩:=Am c4 k4 (l.length:Int) (by omega)
  have x1:=x1 (by omega)
  refine Tot.bind (Tot.of (Q:=λ r=>r=(x,c5)) e5 rfl) ?_
  rintro r rfl
  exact Tot.dec x0 (Tot.dec x1 (Tot.pure (ok 3 _ [] 0 c5 (hl' _ (A4 (d:=Og) (show x.toNat<l.length by omega))) Mw (Nat.zero_le _) (by decide) (by decide) k5)))
 refine Tot.ite (λ _=>put) (λ _=>?_)
 refine Tot.ite (λ _=>put) (λ _=>?_)
 refine Tot.ite (λ _=>put) (λ _=>?_)
 refine Tot.ite (λ _=>put) (λ _=>?_)
 refine Tot.ite (λ _=>put) (λ _=>?_)
 refine Tot.ite (λ _=>put) (λ _=>?_)
 refine Tot.ite (λ _=>drop) (λ _=>?_)
 refine Tot.ite (λ _=>drop) (λ _=>?_)
 refine Tot.ite (λ _=>push) (λ _=>?_)
 refine Tot.ite (λ _=>push) (λ _=>?_)
 refine Tot.ite (λ _=>push) (λ _=>?_)
 refine Tot.ite (λ _=>plain 5) (λ _=>?_)
 refine Tot.ite (λ _=>plain 5) (λ _=>?_)
 refine Tot.ite (λ _=>plain 4) (λ _=>?_)
 refine Tot.ite (λ _=>plain 6) (λ _=>?_)
 refine Tot.ite (λ _=>plain 7) (λ _=>?_)
 refine Tot.ite (λ _=>plain 7) (λ _=>?_)
 refine Tot.ite (λ _=>rot) (λ _=>?_)
 exact Tot.ite (λ _=>rot) (λ _=>ring)
theorem Goa (c:Cur) (w:Wld) (hc:Ck c) (h:WI w):Tot (λ k=>Db k c w w) (λ r=>Vva r w):=
 Doa c w hc (by have:=h.nlen; have:=h.dlen; omega) h.ns.1 h.win.2.2.1.2
theorem Zua {w:Wld} (h:WI w) {e:Evt} (he:Cjb e):Tot (λ k=>I9 k w e) (λ r=>r=doW w e):=
 C2b w e he h.ring h.ns h.clk (by have:=h.wlen; omega) (by have:=h.splen; omega)
theorem Noa:∀ (n:Nat) (i:Int) (c:Cur) (w:Wld),i=n→n≤1000→Ck c→WI w→Tot (λ k=>F5 k i c Sva w) (λ r=>WI r.2.1∧Ck r.2.2):=by
 intro n
 induction n with
 |zero=>
  rintro i c w rfl _ hc h
  refine Tot.succ ?_
  simp (disch:=omega) only [F5,dF]
  exact Tot.pure ⟨h,hc⟩
 |succ n ih=>
  rintro i c w rfl hn hc h
  refine Tot.succ ?_
  simp (disch:=omega) only [F5,dT]
  refine Tot.bind (Goa c w hc h) ?_
  rintro ⟨e,c1,w1⟩ ⟨g1,g2,g3,g4⟩
  dsimp only at g1 g2 g3 g4 ⊢
  subst g4
  refine Tot.bind (Zua h g1) ?_
  rintro r rfl
  rw [w64 (n:=((n+1:Nat):Int) - 1) (by omega) (by omega)]
  exact ih _ c1 _ (by omega) (by omega) g3 (h.ev g2)
theorem A1a (c:Cur) (hc:Ck c) (n:Int) (hn:n≤1000):Tot (λ k=>Co k c n) (λ r=>WI r.1∧Ck r.2):=by
 unfold Co
 refine Tot.bind (Nna c hc) ?_
 rintro ⟨w,c1⟩ ⟨h,k1⟩
 dsimp only at h k1 ⊢
 obtain ⟨x,c2,e2,x0,x1,x2,k2⟩:=Am c1 k1 n (by omega)
 refine Tot.bind (Tot.of (Q:=λ r=>r=(x,c2)) e2 rfl) ?_
 rintro r rfl
 refine Tot.bind (Noa x.toNat x c2 w (by omega) (by by_cases h:0<n<;>omega) k2 h) ?_
 rintro r hr
 exact Tot.pure hr
theorem M1a (a:List Int) (hb:(a.length:Int)≤1048576) (m:Int) (hm:3≤m∧m≤1000):∃ n,Hk a m=some n∧3≤n∧n≤m:=by
 unfold Hk
 rw [Int.tdiv_eq_ediv_of_nonneg (by omega),w64 (n:=(a.length:Int) / 12) (by omega) (by omega),w64 (n:=3+(a.length:Int) / 12) (by omega) (by omega)]
 by_cases h:3+(a.length:Int) / 12 > m
 ·exact ⟨m,by rw [decide_eq_true h]; rfl,hm.1,Int.le_refl _⟩
 ·exact ⟨_,by rw [decide_eq_false h]; rfl,by omega,by omega⟩
theorem Dpa (a:List Int) (hb:(a.length:Int)≤1048576):Tot (λ k=>Gp k a) WI:=by
 unfold Gp
 refine Tot.bind (F8a a hb) ?_
 intro c hc
 obtain ⟨n,e,n0,n1⟩:=M1a a hb 50 (by decide)
 refine Tot.bind (Tot.of (Q:=λ r=>r=n) e rfl) ?_
 rintro r rfl
 rw [w64 (n:=12+r) (by omega) (by omega)]
 refine Tot.bind (A1a c hc _ (by omega)) ?_
 rintro r hr
 exact Tot.pure hr.1

def WIm (m:Nat) (w:Wld):Prop:=RBd w.2.1∧w.1.length≤2000000∧(w.2.2.1.length≤2000000∧∀ n∈w.2.2.1,NIn n)∧(w.2.2.2.2.1.length≤m∧∀ x∈w.2.2.2.2.1,Jv x.1∧x.2.1.2.2.length≤2000000∧Al x.2.1.2.2)∧(w.2.2.2.2.2.length≤m∧∀ s∈w.2.2.2.2.2,Jv s)
theorem WIm.win {m:Nat} {w:Wld} (h:WIm m w) (hm:m≤2000000):WIn w:=by
 obtain ⟨h1,h2,⟨h3,h4⟩,⟨h5,h6⟩,h7,h8⟩:=h
 exact ⟨h1,h2,⟨h3,h4⟩,⟨by omega,λ x hx=>(h6 x hx).1⟩,by omega,h8⟩
theorem WIm.more {m n:Nat} {w:Wld} (h:WIm m w) (hm:m≤n):WIm n w:=by
 obtain ⟨h1,h2,h3,⟨h5,h6⟩,h7,h8⟩:=h
 exact ⟨h1,h2,h3,⟨by omega,h6⟩,by omega,h8⟩
theorem WI.wim {w:Wld} (h:WI w):WIm 200 w:=by
 have hi:=h.win
 have h2:=h.dlen
 have h1:=h.nlen
 exact ⟨hi.1,hi.2.1,hi.2.2.1,⟨h.wlen,λ x hx=>⟨Jj (h.wok x hx).1,by have:=(Ik.1 (h.wok x hx).2.1).2.1; omega,(h.wok x hx).2.2⟩⟩,h.splen,hi.2.2.2.2.2⟩
theorem Gpa {f:Fil} (h:f.2.2.length≤2000000):Bi f=some f:=by
 unfold Bi
 rw [bT (by simp only [List.length_nil]; omega),List.nil_append]
theorem Spa {m:Nat} {w:Wld} (h:WIm m w) (hm:m≤2000000):Tot (λ k=>Cz k w) (λ r=>r=w):=by
 obtain ⟨h1,h2,⟨h3,h4⟩,⟨h5,h6⟩,h7,h8⟩:=h
 unfold Cz
 refine Tot.ble (by rw [List.length_nil]; omega) (Tot.bind (Uk w.2.1 h1) ?_)
 rintro r rfl
 refine Tot.ble (by rw [List.length_nil]; omega) ?_
 rw [List.nil_append,List.nil_append]
 refine Tot.bind (Q:=λ r=>r=(w,Sva,(w.1,w.2.1,w.2.2.1,w.2.2.2.1,[],w.2.2.2.2.2))) ?_ ?_
 ·refine Tot.up (L:=λ k i (s:List Nod)=>F7 k i w Sva (w.1,w.2.1,s,w.2.2.2.1,[],w.2.2.2.2.2)) (Q:=λ r=>r=(w,Sva,(w.1,w.2.1,w.2.2.1,w.2.2.2.1,[],w.2.2.2.2.2))) w.2.2.1.length (λ j s=>s=w.2.2.1.take j) ?_ ?_ 0 [] (Nat.zero_le _) rfl
  ·rintro s rfl
   simp (disch:=omega) only [F7,dF]
   exact Tot.pure (by rw [List.take_length])
  ·rintro j s hj rfl next
   have hm:=h4 _ (A4 (d:=Cy) hj)
   have e0:w.2.2.1.getD j ((0:Int),(([],[]),([],[])))=w.2.2.1.getD j Cy:=rfl
   have hl:(w.2.2.1.take j).length=j:=by rw [List.length_take]; omega
   simp (disch:=omega) only [F7,dT,Int.toNat_natCast,w64,e0]
   refine Tot.bind (Mx _ hm) ?_
   rintro r rfl
   refine Tot.ble (by rw [hl]; simp only [List.length_cons,List.length_nil]; omega) (next _ ?_)
   rw [List.take_succ_eq_append_getElem hj,List.getD_eq_getElem?_getD,List.getElem?_eq_getElem hj]
   rfl
 ·rintro r rfl
  refine Tot.bind (Q:=λ r=>r=(Sva,w)) ?_ (by rintro r rfl; exact Tot.pure rfl)
  refine Tot.up (L:=λ k i (s:List Wri)=>F6 k i w Sva (w.1,w.2.1,w.2.2.1,w.2.2.2.1,s,w.2.2.2.2.2)) (Q:=λ r=>r=(Sva,w)) w.2.2.2.2.1.length (λ j s=>s=w.2.2.2.2.1.take j) ?_ ?_ 0 [] (Nat.zero_le _) rfl
  ·rintro s rfl
   simp (disch:=omega) only [F6,dF]
   exact Tot.pure (by rw [List.take_length])
  ·rintro j s hj rfl next
   have hm:=(h6 _ (A4 (d:=S7a) hj)).2.1
   have e0:w.2.2.2.2.1.getD j ((⟨#[]⟩:ByteArray),((((0:Int),((0:Int),(0:Int))),(false,[])),false))=w.2.2.2.2.1.getD j S7a:=rfl
   have hl:(w.2.2.2.2.1.take j).length=j:=by rw [List.length_take]; omega
   simp (disch:=omega) only [F6,dT,Int.toNat_natCast,w64,e0,Gpa hm,Option.bind_some]
   refine Tot.ble (by rw [hl]; simp only [List.length_cons,List.length_nil]; omega) (next _ ?_)
   rw [List.take_succ_eq_append_getElem hj,List.getD_eq_getElem?_getD,List.getElem?_eq_getElem hj]
   rfl
def WIp (m:Nat) (w:Wld):Prop:=WIm m w∧1≤w.2.2.1.length
theorem M2a {m:Nat} {w:Wld} (h:WIp m w) {i:Nat} {n:Nod} (hn:NIn n):WIp m (w.1,w.2.1,w.2.2.1.set i n,w.2.2.2):=by
 obtain ⟨⟨h1,h2,⟨h3,h4⟩,h5⟩,h0⟩:=h
 refine ⟨⟨h1,h2,⟨by rw [List.length_set]; exact h3,λ x hx=>?_⟩,h5⟩,by show 1≤(w.2.2.1.set i n).length; rw [List.length_set]; exact h0⟩
 rcases List.mem_or_eq_of_mem_set hx with hx|rfl
 ·exact h4 x hx
 ·exact hn
theorem Vwa {m:Nat} {w:Wld} {c:Cur} (hc:Ck c) (h:WIp m w) (hm:m≤900):Tot (λ k=>Fc k c w w) (λ r=>WIp (m+1) r.1∧Ck r.2.1):=by
 have h':=h
 obtain ⟨⟨h1,h2,⟨h3,h4⟩,⟨h5,h6⟩,h7,h8⟩,h0⟩:=h'
 have hw:WIp (m+1) w:=⟨h.1.more (Nat.le_succ m),h.2⟩
 unfold Fc
 refine Tot.bind (Spa (w:=w) h.1 (by omega)) ?_
 rintro r rfl
 refine Tot.dec (by omega) ?_
 obtain ⟨i,c1,e1,i0,i1,_,k1⟩:=Am c hc (r.2.2.1.length:Int) (by omega)
 have i1:=i1 (by omega)
 refine Tot.bind (Tot.of (Q:=λ r=>r=(i,c1)) e1 rfl) ?_
 rintro _ rfl
 obtain ⟨x,c2,e2,_,_,_,k2⟩:=Am c1 k1 10 (by decide)
 refine Tot.bind (Tot.of (Q:=λ r=>r=(x,c2)) e2 rfl) ?_
 rintro _ rfl
 dsimp only
 refine Tot.ite (λ _=>?_) (λ _=>?_)
 ·obtain ⟨y,c3,e3,_,k3⟩:=Ke c2 k2 [0,1,2,6] (by decide) (by decide)
  refine Tot.bind (Tot.of (Q:=λ r=>r=(y,c3)) e3 rfl) ?_
  rintro _ rfl
  exact Tot.pure ⟨⟨⟨h1,hw.1.2⟩,h0⟩,k3⟩
 refine Tot.ite (λ _=>?_) (λ _=>?_)
 ·refine Tot.dec (by omega) (Tot.bind (Rla c2 k2) ?_)
  rintro ⟨n,c3⟩ ⟨g1,g2⟩
  exact Tot.dec i0 (Tot.dec i1 (Tot.pure ⟨M2a hw g1,g2⟩))
 refine Tot.ite (λ _=>?_) (λ _=>?_)
 ·obtain ⟨y,c3,e3,k3⟩:=Lca c2 k2
  refine Tot.bind (Tot.of (Q:=λ r=>r=(y,c3)) e3 rfl) ?_
  rintro _ rfl
  exact Tot.pure ⟨hw,k3⟩
 refine Tot.ite (λ _=>?_) (λ _=>?_)
 ·refine Tot.dite (λ _=>Tot.dec (by omega) (Tot.pure ⟨⟨⟨h1,h2,⟨h3,h4⟩,⟨by dsimp only; rw [List.length_drop]; omega,λ x hx=>h6 x (List.mem_of_mem_drop hx)⟩,by dsimp only; omega,h8⟩,h0⟩,k2⟩)) (λ _=>Tot.pure ⟨hw,k2⟩)
 refine Tot.ite (λ _=>?_) (λ _=>?_)
 ·obtain ⟨s,c3,e3,hs,k3⟩:=O3 c2 k2
  refine Tot.bind (Tot.of (Q:=λ r=>r=(s,c3)) e3 rfl) ?_
  rintro _ rfl
  refine Tot.bind (Rea c3 k3) ?_
  rintro ⟨f,c4⟩ ⟨⟨g0,g1⟩,k4⟩
  refine Tot.ble (by simp only [List.length_cons,List.length_nil]; omega) (Tot.pure ⟨⟨⟨h1,h2,⟨h3,h4⟩,⟨by dsimp only; rw [List.length_append]; simp only [List.length_cons,List.length_nil]; omega,λ x hx=>?_⟩,by dsimp only; omega,h8⟩,h0⟩,k4⟩)
  rcases List.mem_append.1 hx with hx|hx
  ·exact h6 x hx
  ·rw [List.mem_singleton.1 hx]; exact ⟨hs,g1,g0⟩
 refine Tot.ite (λ _=>?_) (λ _=>?_)
 ·obtain ⟨s,c3,e3,hs,k3⟩:=O3 c2 k2
  refine Tot.bind (Tot.of (Q:=λ r=>r=(s,c3)) e3 rfl) ?_
  rintro _ rfl
  refine Tot.ble (by simp only [List.length_cons,List.length_nil]; omega) (Tot.pure ⟨⟨⟨h1,h2,⟨h3,h4⟩,⟨by dsimp only; omega,h6⟩,by dsimp only; rw [List.length_append]; simp only [List.length_cons,List.length_nil]; omega,λ x hx=>?_⟩,h0⟩,k3⟩)
  rcases List.mem_append.1 hx with hx|hx
  ·exact h8 x hx
  ·rw [List.mem_singleton.1 hx]; exact hs
 refine Tot.ite (λ _=>?_) (λ _=>?_)
 ·have hm:=h4 _ (A4 (d:=Cy) (show i.toNat<r.2.2.1.length by omega))
  refine Tot.dec (by omega) (Tot.dec i0 (Tot.dec i1 (Tot.pure ⟨M2a hw ⟨⟨Nz dg0.1,dg0.2⟩,hm.2⟩,k2⟩)))
 refine Tot.ite (λ _=>?_) (λ _=>Tot.pure ⟨hw,k2⟩)
 refine Tot.dite (λ hd=>?_) (λ _=>Tot.pure ⟨hw,k2⟩)
 obtain ⟨y,c3,e3,_,k3⟩:=Ke c2 k2 [0,5,21] (by decide) (by decide)
 refine Tot.bind (Tot.of (Q:=λ r=>r=(y,c3)) e3 rfl) ?_
 rintro _ rfl
 exact Tot.dec (by omega) (Tot.pure ⟨⟨⟨h1,by dsimp only; rw [List.length_set]; exact h2,hw.1.2.2⟩,h0⟩,k3⟩)
theorem Npa (c:Cur) (hc:Ck c) (n:Int) (hn:n≤1000):Tot (λ k=>Jq k c n) (λ r=>WIp 201 r.1∧Ck r.2):=by
 unfold Jq
 refine Tot.bind (A1a c hc n hn) ?_
 rintro ⟨w,c1⟩ ⟨h,k1⟩
 dsimp only at h k1 ⊢
 obtain ⟨b,c2,e2,k2⟩:=Nk c1 k1 8 (by decide)
 refine Tot.bind (Tot.of (Q:=λ r=>r=(b,c2)) e2 rfl) ?_
 rintro _ rfl
 refine Tot.ite (λ _=>?_) (λ _=>Tot.pure ⟨⟨h.wim.more (by decide),by show 1≤w.2.2.1.length; have:=h.nlen; have:=h.dlen; omega⟩,k2⟩)
 refine Tot.bind (Vwa k2 (m:=200) ⟨h.wim,by have:=h.nlen; have:=h.dlen; omega⟩ (by decide)) ?_
 rintro r ⟨g1,g2⟩
 exact Tot.pure ⟨g1,g2⟩

section
open Go
end

section
open Go
end

section
open Go
end

def NO (ns ms:List Nod):Prop:=NS ms∧ms.map (·.1)=ns.map (·.1)
theorem NO.len {ns ms:List Nod} (h:NO ns ms):ms.length=ns.length:=by
 have:=congrArg List.length h.2
 rwa [List.length_map,List.length_map] at this
theorem NO.set {ns ms:List Nod} (h:NO ns ms) {i:Nat} {n:Nod} (hi:i<ms.length) (hn:NG n) (e:n.1=(ms.getD i Cy).1):NO ns (ms.set i n):=⟨h.1.set hn,(J6a hi e).trans h.2⟩
theorem Zva (n:Nod) (s:ByteArray) (f:Fil) (sure:Bool):(Uj n s f sure).1.1=n.1:=by
 unfold Uj
 cases (n.2.2.2.length:Int)==60 with
 |true=>rfl
 |false=>rfl
theorem Dcb (n:Nod) (l:List Row):(tk n l).2.1=n.1:=by
 unfold tk
 cases decide ((W0 n.2.2.1 l).length > 60)<;>rfl
theorem Zwa (n:Nod) (s:ByteArray) (b:Int):(Lea n s b).1.1=n.1:=by
 unfold Lea
 cases M3 n&&((lkD n.2.1 s).2==0&&(Gta n.2.1 s b).2)<;>rfl
theorem Cab {w:Wld} {s:ByteArray} {f:Fil} {rc:List Int} (hn:NS w.2.2.1) (hs:B1 s=true) (hf:Fh f=true):NO w.2.2.1 (wrN w s f rc).1:=by
 unfold wrN
 refine Mq (λ _ (a:List Nod×Int×Int)=>NO w.2.2.1 a.1) ⟨hn,rfl⟩ (λ j a hj h=>?_)
 have hc:=Mr (A4 (d:=0) hj)
 have hl:=h.len
 unfold wst
 cases decide (a.2.1<w.2.1.1) with
 |false=>exact h
 |true=>
  rw [cond_true]
  cases rch rc j==0 with
  |true=>exact h
  |false=>exact h.set (by omega) (Lda (h.1.get (by omega)) hs hf) (Zva _ _ _ _)
theorem Cbb {w:Wld} {i:Nat} {s:ByteArray} {rc:List Int} (hn:NS w.2.2.1):NO w.2.2.1 (puN w i s rc).1:=by
 unfold puN
 refine Mq (λ _ (a:List Nod×Bool×Bool)=>NO w.2.2.1 a.1) ⟨hn,rfl⟩ (λ j a hj h=>?_)
 have hc:=T9 (A4 (d:=0) hj)
 have hl:=h.len
 unfold pst
 cases (Ra w s).getD j 0==(i:Int) with
 |true=>exact h
 |false=>
  rw [cond_false]
  cases rch rc j != 1 with
  |true=>exact h
  |false=>exact h.set (by omega) (J2a (h.1.get (by omega))) rfl
theorem Vxa {w:Wld} {i:Nat} {s:ByteArray} {rc:List Int} (hn:NS w.2.2.1) (hi:i<w.2.2.1.length):∃ ns,(J1a w i s rc).2=wN w ns∧NO w.2.2.1 ns:=by
 unfold J1a
 cases hl:(lkD (w.2.2.1.getD i Cy).2.1 s).2 != 0 with
 |true=>exact ⟨w.2.2.1,rfl,hn,rfl⟩
 |false=>
  have h:=Cbb (i:=i) (s:=s) (rc:=rc) hn
  have hlen:=h.len
  have hs:B1 s=true:=by
   rw [bne,Bool.not_eq_false',beq_iff_eq] at hl
   obtain ⟨b,hb,_⟩:=P3.1 (show lkD (w.2.2.1.getD i Cy).2.1 s=((lkD (w.2.2.1.getD i Cy).2.1 s).1,0) from by rw [← hl])
   exact Rba (hn.get hi).g.1 (by rw [hb]; rfl)
  refine ⟨_,rfl,?_⟩
  cases (puN w i s rc).2.2 && !(puN w i s rc).2.1 with
  |false=>exact h
  |true=>exact h.set (by omega) (Xca (h.1.get (by omega)) hs) rfl
theorem M3a {w:Wld} {src:Int} {l:List Row} {self:Bool} {rc:List Int} (hl:K5 l=true) (hn:NS w.2.2.1):NO w.2.2.1 (Oe w src l self rc).1:=by
 unfold Oe
 refine Mq (λ _ (a:List Nod×Bool)=>NO w.2.2.1 a.1) ⟨hn,rfl⟩ (λ j a hj h=>?_)
 have hc:=R8 (A4 (d:=0) hj)
 have hlen:=h.len
 unfold gst
 cases (Ku w).getD j 0==src && !self with
 |true=>exact h
 |false=>
  rw [cond_false]
  cases rch rc j != 1 with
  |true=>exact h
  |false=>exact h.set (by omega) (D7b (h.1.get (by omega)) hl) (Dcb _ _)
theorem Vya {w:Wld} {i:Nat} {rc:List Int} (hn:NS w.2.2.1) (hi:i<w.2.2.1.length):∃ ns,(J3a w i rc).2=wN w ns∧NO w.2.2.1 ns:=by
 have h:=M3a (w:=w) (src:=(i:Int)) (self:=false) (rc:=rc) (Cl.1 (hn.get hi).1).2.2.2.1 hn
 have hlen:=h.len
 unfold J3a
 cases ((w.2.2.1.getD i Cy).2.2.1.length:Int)==0 with
 |true=>exact ⟨w.2.2.1,rfl,hn,rfl⟩
 |false=>
  refine ⟨_,rfl,?_⟩
  show NO w.2.2.1 (bif (Rb w i rc).2&&_ then (Rb w i rc).1.set i (Sea ((Rb w i rc).1.getD i Cy)) else (Rb w i rc).1)
  unfold Rb
  cases (Oe w (i:Int) (w.2.2.1.getD i Cy).2.2.1 false rc).2&&_ with
  |false=>exact h
  |true=>exact h.set (by omega) (Lza (h.1.get (by omega))) rfl
theorem Vza {w:Wld} {i:Nat} {rc:List Int} (hn:NS w.2.2.1) (hi:i<w.2.2.1.length):∃ ns,(J4a w i rc).2=wN w ns∧NO w.2.2.1 ns:=by
 have hq:=Cl.1 (hn.get hi).1
 have h:=M3a (w:=w) (src:=(i:Int)) (self:=true) (rc:=rc) (S8 hq.1) hn
 have hlen:=h.len
 unfold J4a
 cases ((w.2.2.1.getD i Cy).2.2.2.length:Int)==0 with
 |true=>exact ⟨w.2.2.1,rfl,hn,rfl⟩
 |false=>
  refine ⟨_,rfl,?_⟩
  show NO w.2.2.1 (bif (S7 w i rc).2 then (S7 w i rc).1.set i (D8b ((S7 w i rc).1.getD i Cy) ((w.2.2.1.getD i Cy).2.2.2.drop 1)) else (S7 w i rc).1)
  unfold S7
  cases (Oe w (i:Int) ((w.2.2.1.getD i Cy).2.2.2.take 1) true rc).2 with
  |false=>exact h
  |true=>exact h.set (by omega) (Xfa (h.1.get (by omega)) (λ r hr=>hq.1 r (List.mem_of_mem_drop hr)) (by rw [List.length_drop]; omega)) rfl
structure WO (w:Wld):Prop where
 ring:H3 w.2.1 w.1=true
 ids:w.2.2.1.map (·.1)=w.1.map (·.1)
 ns:NS w.2.2.1
 clk:Ft w.2.2.2.1=true
 wlen:w.2.2.2.2.1.length≤200
 wok:Dna w.2.2.2.2.1
 wge:∀ x∈w.2.2.2.2.1,sle w.2.2.2.1 x.2.1.1=false
 sps:TS w.2.2.2.2.2
 spn:∀ s∈w.2.2.2.2.2,B1 s=true
namespace WO
variable {w:Wld}
theorem nlen (h:WO w):w.2.2.1.length=w.1.length:=by
 have:=congrArg List.length h.ids
 rwa [List.length_map,List.length_map] at this
theorem dlen (h:WO w):1≤w.1.length∧w.1.length≤12:=(Ed.1 (Bg.1 h.ring).1).2.2
theorem other (h:WO w) {ns:List Nod} (hn:NO w.2.2.1 ns):WO (wN w ns):=⟨h.ring,hn.2.trans h.ids,hn.1,h.clk,h.wlen,h.wok,h.wge,h.sps,h.spn⟩
theorem other' (h:WO w) {r:Bool×Wld} (hr:∃ ns,r.2=wN w ns∧NO w.2.2.1 ns):WO r.2:=by
 obtain ⟨ns,e,hn⟩:=hr
 rw [e]
 exact h.other hn
theorem write (h:WO w) {s:ByteArray} {f:Fil} {rc:List Int} (hs:B1 s=true) (hf:Fh f=true) (hb:Al f.2.2) (hc:sle w.2.2.2.1 f.1=true) (hl:w.2.2.2.2.1.length<200):WO (Z7 (w.1,w.2.1,w.2.2.1,f.1,w.2.2.2.2) s f rc).2:=by
 have g:=Cab (w:=(w.1,w.2.1,w.2.2.1,f.1,w.2.2.2.2)) (rc:=rc) h.ns hs hf
 unfold Z7
 generalize wrN (w.1,w.2.1,w.2.2.1,f.1,w.2.2.2.2) s f rc=a at *
 exact {
  ring:=h.ring
  ids:=g.2.trans h.ids
  ns:=g.1
  clk:=(Ik.1 hf).1
  wlen:=by show (w.2.2.2.2.1++[_]).length≤200; rw [List.length_append]; simp only [List.length_cons,List.length_nil]; omega
  wok:=λ x hx=>by
   rcases List.mem_append.1 hx with hx|hx
   ·exact h.wok x hx
   ·rw [List.mem_singleton.1 hx]; exact ⟨hs,hf,hb⟩
  wge:=λ x hx=>by
   rcases List.mem_append.1 hx with hx|hx
   ·exact Bva (Z9 hc) (h.wge x hx)
   ·rw [List.mem_singleton.1 hx]; exact Nd _
  sps:=h.sps
  spn:=h.spn }
theorem ask (h:WO w) {s:ByteArray} {f:Fil} {t:Int} {rc:List Int} (hb:Al f.2.2) (hd:f.2.1=true→f.2.2=[]):WO (ask w s f t rc).2:=by
 unfold Vf.ask
 cases hs:B1 s with
 |false=>exact h
 |true=>
  rw [Bool.not_true,cond_false]
  by_cases hl:(f.2.2.length:Int) > 200
  ·rw [decide_eq_true hl]; exact h
  ·rw [decide_eq_false hl,cond_false]
   cases inR t 0 1000000000 with
   |false=>exact h
   |true=>
    rw [Bool.not_true,cond_false]
    cases hw:(w.2.2.2.2.1.length:Int)==200 with
    |true=>exact h
    |false=>
     rw [cond_false]
     have hw':=beq_eq_false_iff_ne.1 hw
     have hwl:=h.wlen
     obtain ⟨n1,n2⟩:=Dla h.clk t 0
     cases he:(Mz w.2.2.2.1 t 0).1==w.2.2.2.1.1&&((Mz w.2.2.2.1 t 0).2.1==w.2.2.2.1.2.1&&(Mz w.2.2.2.1 t 0).2.2==w.2.2.2.1.2.2) with
     |true=>exact h
     |false=>
      rw [cond_false]
      have hlt:sle w.2.2.2.1 (Mz w.2.2.2.1 t 0)=true:=by
       rcases n2 with n2|n2
       ·rw [n2,beq_self_eq_true,beq_self_eq_true,beq_self_eq_true] at he; cases he
       ·exact n2
      exact h.write (f:=(Mz w.2.2.2.1 t 0,f.2)) hs (Ik.2 ⟨n1,by show f.2.2.length≤200; omega,hd⟩) hb hlt (by omega)
theorem rot (h:WO w) {i:Nat} (hi:i<w.2.2.1.length) {s:ByteArray} {b:Int}:WO (Aab w i s b).2:=by
 have hg:=h.ns.get hi
 unfold Aab
 cases hr:(Lea (w.2.2.1.getD i Cy) s b).2 with
 |false=>exact h
 |true=>
  have hn:NO w.2.2.1 (w.2.2.1.set i (Lea (w.2.2.1.getD i Cy) s b).1):=NO.set ⟨h.ns,rfl⟩ hi (Ria hg) (Zwa _ _ _)
  have hs:B1 s=true:=by
   unfold Lea at hr
   cases hc:M3 (w.2.2.1.getD i Cy)&&((lkD (w.2.2.1.getD i Cy).2.1 s).2==0&&(Gta (w.2.2.1.getD i Cy).2.1 s b).2) with
   |false=>rw [hc] at hr; cases hr
   |true=>
    rw [Bool.and_eq_true,Bool.and_eq_true,beq_iff_eq] at hc
    obtain ⟨b,hb,_⟩:=P3.1 (show lkD (w.2.2.1.getD i Cy).2.1 s=((lkD (w.2.2.1.getD i Cy).2.1 s).1,0) from by rw [← hc.2.1])
    exact Rba hg.g.1 (by rw [hb]; rfl)
  exact ⟨h.ring,hn.2.trans h.ids,hn.1,h.clk,h.wlen,h.wok,h.wge,Bua h.sps,λ t ht=>by
   rcases Dma.1 ht with rfl|ht
   ·exact hs
   ·exact h.spn t ht⟩
theorem node (h:WO w) {i:Nat} (hi:i<w.2.2.1.length) {e:Evt}:WO (Gla w e i).2:=by
 have hg:=h.ns.get hi
 unfold Gla
 cases e.1==3 with
 |true=>exact h.other' (Vxa h.ns hi)
 |false=>
  cases e.1==4 with
  |true=>exact h.other' (Vya h.ns hi)
  |false=>
   cases e.1==5 with
   |true=>exact h.other' (Vza h.ns hi)
   |false=>
    cases e.1==6 with
    |true=>exact h.other (NO.set ⟨h.ns,rfl⟩ hi (Xba hg) rfl)
    |false=>
     cases e.1==7 with
     |true=>exact h.other (NO.set ⟨h.ns,rfl⟩ hi (C1b hg) rfl)
     |false=>exact h.rot hi
theorem weigh (h:WO w) {i t:Int}:WO (J5a w i t).2:=by
 unfold J5a
 cases h1:inR i 0 ((w.1.length:Int) - 1) with
 |false=>exact h
 |true=>
  cases h2:inR t 1 1000 with
  |false=>exact h
  |true=>
   obtain ⟨i0,i1⟩:=Dz.1 h1
   obtain ⟨w0,w1⟩:=Dz.1 h2
   exact ⟨(Loa (Dba h.ring (by omega) w0 w1)).1,h.ids.trans (Daa _ _ _).symm,h.ns,h.clk,h.wlen,h.wok,h.wge,h.sps,h.spn⟩
theorem ev (h:WO w) {e:Evt} (hb:Al e.2.2.2.1):WO (doW w e).2:=by
 have ae:∀ {q:Int×Wld},WO q.2→WO (Xga q).2:=λ {q} hq=>by
  unfold Xga
  cases q.1 != 2<;>exact hq
 unfold doW
 cases e.1==1 with
 |true=>exact ae (h.ask hb (λ c=>by cases c))
 |false=>
  cases e.1==2 with
  |true=>exact ae (h.ask Mw (λ _=>rfl))
  |false=>
   cases e.1==3 || (e.1==4 || (e.1==5 || (e.1==6 || (e.1==7 || e.1==8)))) with
   |true=>
    cases hi:inR e.2.1 0 ((w.2.2.1.length:Int) - 1) with
    |false=>exact h
    |true=>
     have:=Dz.1 hi
     exact h.node (by omega)
   |false=>
    cases e.1==9 with
    |true=>exact h.weigh
    |false=>exact h
theorem nods (h:WO w):Pr w.1 w.2.2.1=true:=by
 have hl:=h.nlen
 unfold Pr
 rw [show ((w.2.2.1.length:Int)==(w.1.length:Int))=true by rw [beq_iff_eq]; omega,Bool.true_and,List.all_eq_true]
 intro j hj
 have hj':=List.mem_range.1 hj
 rw [Bool.and_eq_true,beq_iff_eq]
 refine ⟨?_,(h.ns.get hj').1⟩
 have e1:(w.2.2.1.getD j Cy).1=(w.2.2.1.map (·.1)).getD j 0:=by
  rw [List.getD_eq_getElem?_getD,List.getD_eq_getElem?_getD,List.getElem?_map,List.getElem?_eq_getElem hj']; rfl
 have e2:(w.1.getD j Mb).1=(w.1.map (·.1)).getD j 0:=by
  rw [List.getD_eq_getElem?_getD,List.getD_eq_getElem?_getD,List.getElem?_map,List.getElem?_eq_getElem (by omega)]; rfl
 rw [e1,e2,h.ids]
theorem ok (h:WO w):Ua w=true:=by
 unfold Ua
 have a2:Sua w.2.2.2.1 w.2.2.2.2.1=true:=by
  unfold Sua
  rw [Bool.and_eq_true,List.all_eq_true]
  refine ⟨λ x hx=>?_,decide_eq_true (by have:=h.wlen; omega)⟩
  unfold Dfa
  rw [(h.wok x hx).1,(h.wok x hx).2.1,h.wge x hx]
  rfl
 have a3:Qn w.2.2.2.2.2=true:=by
  unfold Qn
  rw [List.all_eq_true]
  intro j hj
  have hj':=List.mem_range.1 hj
  rw [Bool.and_eq_true,Bool.or_eq_true]
  refine ⟨h.spn _ (A4 hj'),?_⟩
  by_cases h0:j=0
  ·exact .inl (decide_eq_true h0)
  ·right
   have:=List.pairwise_iff_getElem.1 h.sps (j - 1) j (by omega) hj' (by omega)
   rwa [List.getD_eq_getElem?_getD,List.getD_eq_getElem?_getD,List.getElem?_eq_getElem hj',List.getElem?_eq_getElem (by omega)]
 rw [h.ring,h.nods,h.clk,a2,a3]
 rfl
end WO

section
open Go
end

section
open Go
end

theorem WO.wim {w:Wld} (h:WO w) {m:Nat} (h2:200≤m) (hs:w.2.2.2.2.2.length≤m):WIm m w:=
 ⟨Mc h.ring,by have:=h.dlen; omega,⟨h.ns.1,λ n hn=>Y6 (h.ns.2 n hn)⟩,⟨by have:=h.wlen; omega,λ x hx=>⟨Jj (h.wok x hx).1,by have:=(Ik.1 (h.wok x hx).2.1).2.1; omega,(h.wok x hx).2.2⟩⟩,hs,λ s hs=>Jj (h.spn s hs)⟩
def Dmb (w v:Wld):Prop:=v.2.2.1.length=w.2.2.1.length∧w.2.2.2.2.1.length≤v.2.2.2.2.1.length∧sle v.2.2.2.1 w.2.2.2.1=false
theorem Dmb.nodes {w:Wld} {ns:List Nod} (h:ns.length=w.2.2.1.length):Dmb w (wN w ns):=⟨h,Nat.le_refl _,Nd _⟩

def Abb (s:ByteArray) (a:Bool×Fil) (n:Nod):Bool×Fil:=bif (lkD n.2.1 s).2==0 then (bif !a.1 || sle a.2.1 (lkD n.2.1 s).1.1 then (true,(lkD n.2.1 s).1) else a) else a

def Gva (R:Int) (rc:List Int) (s:ByteArray) (ns:List Nod) (cs:List Int) (a:Int×Int×Bool×Fil) (j:Nat):Int×Int×Bool×Fil:=
 bif decide (a.1<R) then (bif rch rc j==0 then a else (a.1+1,bif rch rc j==1 then (a.2.1+1,Abb s a.2.2 (ns.getD (cs.getD j 0).toNat Cy)) else a.2)) else a
def gtR (w:Wld) (s:ByteArray) (rc:List Int):Int×Int×Bool×Fil:=run (Gva w.2.1.1 rc s w.2.2.1 (Cv w s)) (Cv w s).length (0,0,false,W2)
def gtW (r:Int×Int×Bool×Fil):Fil×Int:=bif r.2.1==0 then (W2,1) else bif !r.2.2.1 then (W2,4) else bif r.2.2.2.2.1 then (W2,5) else (r.2.2.2,0)
def Ccb (w:Wld) (s:ByteArray) (rc:List Int):Fil×Int:=bif Ua w&&B1 s then gtW (gtR w s rc) else (W2,2)
theorem Zxa {R:Int} {rc:List Int} {s:ByteArray} {ns:List Nod} {cs:List Int} {a:Int×Int×Bool×Fil} {j:Nat} (h:(0≤a.1∧a.1≤j)∧0≤a.2.1∧a.2.1≤j):let b:=Gva R rc s ns cs a j
  (0≤b.1∧b.1≤((j+1:Nat):Int))∧0≤b.2.1∧b.2.1≤((j+1:Nat):Int):=by
 obtain ⟨⟨h1,h2⟩,h3,h4⟩:=h
 intro b
 have hb:b=Gva R rc s ns cs a j:=rfl
 unfold Gva at hb
 cases hR:decide (a.1<R) with
 |false=>rw [hR,cond_false] at hb; rw [hb]; exact ⟨⟨h1,by omega⟩,h3,by omega⟩
 |true=>
  rw [hR,cond_true] at hb
  cases hr:rch rc j==0 with
  |true=>rw [hr,cond_true] at hb; rw [hb]; exact ⟨⟨h1,by omega⟩,h3,by omega⟩
  |false=>
   rw [hr,cond_false] at hb
   rw [hb]
   cases rch rc j==1 with
   |true=>exact ⟨⟨by dsimp only; omega,by dsimp only; omega⟩,by rw [cond_true]; dsimp only; omega,by rw [cond_true]; dsimp only; omega⟩
   |false=>exact ⟨⟨by dsimp only; omega,by dsimp only; omega⟩,by rw [cond_false]; exact h3,by rw [cond_false]; dsimp only; omega⟩
theorem Sqa (w:Wld) (s:ByteArray) (rc:List Int) (n:Nat):let b:=run (Gva w.2.1.1 rc s w.2.2.1 (Cv w s)) n (0,0,false,W2)
  (0≤b.1∧b.1≤(n:Int))∧0≤b.2.1∧b.2.1≤(n:Int):=
 Mq (λ j (b:Int×Int×Bool×Fil)=>(0≤b.1∧b.1≤(j:Int))∧0≤b.2.1∧b.2.1≤(j:Int)) ⟨⟨Int.le_refl _,Int.le_refl _⟩,Int.le_refl _,Int.le_refl _⟩ (λ j b _ hb=>Zxa hb)
theorem Sra (w:Wld) (s:ByteArray) (rc:List Int) (h:(gtR w s rc).2.2.1=true):∃ n∈w.2.2.1,lkD n.2.1 s=((gtR w s rc).2.2.2,0):=by
 have key:∀ b:Int×Int×Bool×Fil,b=gtR w s rc→(b.2.2.1=true→∃ n∈w.2.2.1,lkD n.2.1 s=(b.2.2.2,0)):=by
  rintro _ rfl
  unfold gtR
  refine Mq (λ _ (b:Int×Int×Bool×Fil)=>b.2.2.1=true→∃ n∈w.2.2.1,lkD n.2.1 s=(b.2.2.2,0)) (λ h=>by cases h) (λ j b hj hb=>?_)
  have hc:=Mr (A4 (d:=0) hj)
  unfold Gva
  cases decide (b.1<w.2.1.1) with
  |false=>exact hb
  |true=>
   rw [cond_true]
   cases rch rc j==0 with
   |true=>exact hb
   |false=>
    rw [cond_false]
    cases rch rc j==1 with
    |false=>exact hb
    |true=>
     intro ht
     rw [cond_true] at ht ⊢
     dsimp only at ht ⊢
     unfold Abb at ht ⊢
     have hm:=A4 (d:=Cy) (show ((Cv w s).getD j 0).toNat<w.2.2.1.length by omega)
     cases hg:(lkD (w.2.2.1.getD ((Cv w s).getD j 0).toNat Cy).2.1 s).2==0 with
     |false=>rw [hg] at ht; exact hb ht
     |true=>
      rw [hg,cond_true] at ht
      rw [cond_true]
      cases hn : !b.2.2.1 || sle b.2.2.2.1 (lkD (w.2.2.1.getD ((Cv w s).getD j 0).toNat Cy).2.1 s).1.1 with
      |false=>rw [hn] at ht; exact hb ht
      |true=>exact ⟨_,hm,Prod.ext rfl (eq_of_beq hg)⟩
 exact key _ rfl h
theorem Uo {w:Wld} {s:ByteArray} (hr:H3 w.2.1 w.1=true) (hn:w.2.2.1.length≤2000000):(Cv w s).length≤4000000000000:=by
 unfold Cv
 refine O7 hn ?_
 have h5:=(Bg.1 hr).2.1
 have p2:=(S6 hr s).2.1
 have h12:=(Ed.1 (Bg.1 hr).1).2.2.2
 have hh:=O8 w.2.1 w.1 s
 rw [List.length_append]; omega
theorem Gqa {s:ByteArray} (h:B1 s=true):s.size≤1000000000:=by
 have:=Dz.1 (Bool.and_eq_true _ _ ▸ h:_∧_).2
 omega
theorem W0a {n:Nod} (hn:NIn n) (how g:Int) (s:ByteArray) (a:Bool×Fil) (h0:0≤g) (h1:g≤9000000000000):
  Tot (λ k=>C5 k n how g s a.1 a.2) (λ r=>r=bif how==1 then (g+1,s,(Abb s a n).1,(Abb s a n).2) else (g,s,a.1,a.2)):=by
 unfold C5 Abb
 cases hh:how==1 with
 |false=>exact Tot.yes (by rw [bne,hh]; rfl) (Tot.pure rfl)
 |true=>
  refine Tot.no (by rw [bne,hh]; rfl) (Tot.bind (Uva hn.1.1.1.1.1 hn.1.2.1 s) ?_)
  rintro r rfl
  rw [w64 (n:=g+1) (by omega) (by omega)]
  cases (lkD n.2.1 s).2==0 with
  |false=>exact Tot.no rfl (Tot.pure rfl)
  |true=>
   refine Tot.yes rfl ?_
   obtain ⟨b,f⟩:=a
   cases b with
   |false=>exact Tot.yes rfl (Tot.pure rfl)
   |true=>
    refine Tot.no rfl ?_
    simp only [R5a,Option.bind_some]
    cases sle f.1 (lkD n.2.1 s).1.1 with
    |true=>exact Tot.yes rfl (Tot.pure rfl)
    |false=>exact Tot.no rfl (Tot.pure rfl)
theorem Nqa (w:Wld) (s:ByteArray) (rc:List Int) (hr:H3 w.2.1 w.1=true) (hn:w.2.2.1.length≤2000000) (hni:∀ n∈w.2.2.1,NIn n) (hs:B1 s=true):
  Tot (λ k=>A9 k w s rc true 0 s false W2) (λ r=>r=(w,(gtR w s rc).2.1,s,(gtR w s rc).2.2.1,(gtR w s rc).2.2.2)):=by
 have hcl:=Uo (s:=s) hr hn
 have h5:=(Bg.1 hr).2.1
 unfold A9
 refine Tot.bind (Gia w s hr hn (Gqa hs)) ?_
 rintro r rfl
 have hc:=λ x=>Mr (w:=w) (s:=s) (x:=x)
 have hrun:gtR w s rc=run (Gva w.2.1.1 rc s w.2.2.1 (Cv w s)) (Cv w s).length (0,0,false,W2):=rfl
 have inv:=Sqa w s rc
 generalize hcs:Cv w s=cs at *
 refine Tot.bind (Q:=λ r=>r=(w,(gtR w s rc).2.1,s,(gtR w s rc).2.2.1,(gtR w s rc).2.2.2)) ?_ (by rintro r rfl; exact Tot.pure rfl)
 refine Tot.up (L:=λ k i (a:Int×Int×Bool×Fil)=>Aa k rc a.1 cs (cs.length:Int) i w a.2.1 s a.2.2.1 a.2.2.2) (Q:=λ r=>r=(w,(gtR w s rc).2.1,s,(gtR w s rc).2.2.1,(gtR w s rc).2.2.2)) cs.length (λ j a=>a=run (Gva w.2.1.1 rc s w.2.2.1 cs) j (0,0,false,W2)) ?_ ?_ 0 (0,0,false,W2) (Nat.zero_le _) rfl
 ·rintro a rfl
  simp (disch:=omega) only [Aa,dF]
  exact Tot.pure (by rw [hrun])
 ·rintro j a hj rfl next
  obtain ⟨⟨i1,i2⟩,i3,i4⟩:=inv j
  rw [Pn] at next
  generalize run (Gva w.2.1.1 rc s w.2.2.1 cs) j (0,0,false,W2)=a at *
  obtain ⟨o,g,a⟩:=a
  dsimp only at i1 i2 i3 i4
  have hci:=hc _ (A4 (d:=0) hj)
  obtain ⟨i,ei⟩:∃ i:Nat,cs.getD j 0=(i:Int):=⟨(cs.getD j 0).toNat,by omega⟩
  rw [ei] at hci
  unfold Gva at next
  rw [ei,Int.toNat_natCast] at next
  dsimp only at next
  have e0:w.2.2.1.getD i ((0:Int),(([],[]),([],[])))=w.2.2.1.getD i Cy:=rfl
  simp (disch:=omega) only [Aa,dT,Int.toNat_natCast,w64,ei,e0,Zka,Option.bind_some]
  cases h0:rch rc j==0 with
  |true=>
   refine Tot.no (by rw [bne,h0]; rfl) ?_
   rw [h0] at next
   refine next (o,g,a) ?_
   cases decide (o<w.2.1.1)<;>rfl
  |false=>
   refine Tot.yes (by rw [bne,h0]; rfl) ?_
   rw [h0] at next
   refine Tot.dite (λ hR'=>?_) (λ hR'=>?_)
   ·rw [decide_eq_true hR'] at next
    refine Tot.bind (W0a (hni _ (A4 (d:=Cy) (show i<w.2.2.1.length by omega))) (rch rc j) g s a i3 (by omega)) ?_
    rintro p rfl
    cases h1:rch rc j==1 with
    |true=>rw [h1] at next; exact next _ rfl
    |false=>rw [h1] at next; exact next _ rfl
   ·rw [decide_eq_false hR'] at next
    exact next _ rfl
theorem W1a (w:Wld) (s:ByteArray) (rc:List Int) (hw:WIn w) (hs:Jv s):Tot (λ k=>Gx k w s rc) (λ r=>r=Ccb w s rc):=by
 unfold Gx Ccb
 refine Tot.bind (S8a w hw) ?_
 rintro b rfl
 cases hk:Ua w with
 |false=>exact Tot.yes rfl (Tot.pure rfl)
 |true=>
  refine Tot.no rfl (Tot.bind (Sz s hs) ?_)
  rintro b rfl
  cases hn:B1 s with
  |false=>exact Tot.yes rfl (Tot.pure rfl)
  |true=>
   have hr:H3 w.2.1 w.1=true:=by
    unfold Ua at hk
    exact (Bool.and_eq_true _ _ ▸ hk:_∧_).1
   refine Tot.no rfl (Tot.bind (Nqa w s rc hr hw.2.2.1.1 hw.2.2.1.2 hn) ?_)
   rintro r rfl
   unfold gtW
   dsimp only
   cases (gtR w s rc).2.1==0 with
   |true=>exact Tot.yes rfl (Tot.pure rfl)
   |false=>
    refine Tot.no rfl ?_
    cases (gtR w s rc).2.2.1 with
    |false=>exact Tot.yes rfl (Tot.pure rfl)
    |true=>
     refine Tot.no rfl ?_
     cases (gtR w s rc).2.2.2.2.1 with
     |true=>exact Tot.yes rfl (Tot.pure rfl)
     |false=>exact Tot.no rfl (Tot.pure rfl)
theorem W2a (w:Wld) (s:ByteArray) (rc:List Int) (hw:WIn w) (hs:Jv s):Tot (λ k=>H0 k w s rc) (λ r=>r=Ccb w s rc):=by
 unfold H0 Ccb
 refine Tot.bind (S9a w hw) ?_
 rintro b rfl
 cases hk:Ua w with
 |false=>exact Tot.yes rfl (Tot.pure rfl)
 |true=>
  refine Tot.no rfl (Tot.bind (Na s hs) ?_)
  rintro b rfl
  cases hn:B1 s with
  |false=>exact Tot.yes rfl (Tot.pure rfl)
  |true=>
   have hr:H3 w.2.1 w.1=true:=by
    unfold Ua at hk
    exact (Bool.and_eq_true _ _ ▸ hk:_∧_).1
   have h1:=hw.2.2.1.1
   have h2:=hw.2.2.1.2
   have hcl:=Uo (s:=s) hr h1
   have h5:=(Bg.1 hr).2.1
   refine Tot.no rfl ?_
   refine Tot.bind (Q:=λ r=>r=gtW (gtR w s rc)) ?_ (by rintro r rfl; exact Tot.pure rfl)
   unfold Hc
   refine Tot.bind (Um w s hr h1 (Gqa hn)) ?_
   rintro cs rfl
   have hc:=λ x=>Mr (w:=w) (s:=s) (x:=x)
   have hrun:gtR w s rc=run (Gva w.2.1.1 rc s w.2.2.1 (Cv w s)) (Cv w s).length (0,0,false,W2):=rfl
   have inv:=Sqa w s rc
   generalize hcs:Cv w s=cs at *
   refine Tot.bind (Q:=λ r=>r=((gtR w s rc).2.1,(gtR w s rc).2.2.1,W2,(gtR w s rc).2.2.2)) ?_ ?_
   ·refine Tot.up (L:=λ k i (a:Int×Int×Bool×Fil)=>Ce k s rc cs a.1 a.2.1 a.2.2.1 i w W2 a.2.2.2) (Q:=λ r=>r=((gtR w s rc).2.1,(gtR w s rc).2.2.1,W2,(gtR w s rc).2.2.2)) cs.length (λ j a=>a=run (Gva w.2.1.1 rc s w.2.2.1 cs) j (0,0,false,W2)) ?_ ?_ 0 (0,0,false,W2) (Nat.zero_le _) rfl
    ·rintro a rfl
     simp (disch:=omega) only [Ce,dF]
     exact Tot.pure (by rw [hrun])
    ·rintro j a hj rfl next
     obtain ⟨⟨i1,i2⟩,i3,i4⟩:=inv j
     rw [Pn] at next
     have hst:=Lwa (st:=Gva w.2.1.1 rc s w.2.2.1 cs) (a:=((0:Int),(0:Int),false,W2)) (j:=j) (n:=cs.length) (by omega)
     generalize run (Gva w.2.1.1 rc s w.2.2.1 cs) j (0,0,false,W2)=a at *
     obtain ⟨o,g,b,f⟩:=a
     dsimp only at i1 i2 i3 i4
     have hci:=hc _ (A4 (d:=0) hj)
     obtain ⟨i,ei⟩:∃ i:Nat,cs.getD j 0=(i:Int):=⟨(cs.getD j 0).toNat,by omega⟩
     rw [ei] at hci
     unfold Gva at next
     rw [ei,Int.toNat_natCast] at next
     dsimp only at next
     have e0:w.2.2.1.getD i ((0:Int),(([],[]),([],[])))=w.2.2.1.getD i Cy:=rfl
     simp (disch:=omega) only [Ce,dT]
     refine Tot.dite (λ hR'=>?_) (λ hR'=>Tot.pure ?_)
     ·rw [decide_eq_true hR'] at next
      simp only [Dka,Option.bind_some]
      cases h0:rch rc j==0 with
      |true=>
       rw [h0] at next
       simp (disch:=omega) only [w64]
       exact Tot.yes rfl (next _ rfl)
      |false=>
       rw [h0] at next
       simp (disch:=omega) only [dT,Int.toNat_natCast,w64,ei,e0,cond_false]
       cases h1:rch rc j==1 with
       |false=>
        rw [h1] at next
        exact Tot.yes (by rw [bne,h1]; rfl) (next _ rfl)
       |true=>
        rw [h1] at next
        have hm:=h2 _ (A4 (d:=Cy) (show i<w.2.2.1.length by omega))
        refine Tot.no (by rw [bne,h1]; rfl) (Tot.bind (T6 hm.1.1.1.1.1 hm.1.2.1 s) ?_)
        rintro r rfl
        unfold Abb at next
        dsimp only at next
        cases hg:(lkD (w.2.2.1.getD i Cy).2.1 s).2==0 with
        |false=>rw [hg] at next; exact Tot.no rfl (next _ rfl)
        |true=>
         rw [hg] at next
         refine Tot.yes rfl ?_
         cases b with
         |false=>exact Tot.yes rfl (next _ rfl)
         |true=>
          refine Tot.no rfl ?_
          simp only [Fta,Option.bind_some]
          cases hq:sle f.1 (lkD (w.2.2.1.getD i Cy).2.1 s).1.1 with
          |true=>rw [hq] at next; exact Tot.yes rfl (next _ rfl)
          |false=>rw [hq] at next; exact Tot.no rfl (next _ rfl)
     ·rw [hrun,hst (λ i=>by unfold Gva; dsimp only; rw [decide_eq_false hR']; rfl)]
   ·rintro r rfl
    unfold gtW
    dsimp only
    cases (gtR w s rc).2.1==0 with
    |true=>exact Tot.yes rfl (Tot.pure rfl)
    |false=>
     refine Tot.no rfl ?_
     cases (gtR w s rc).2.2.1 with
     |false=>exact Tot.yes rfl (Tot.pure rfl)
     |true=>
      refine Tot.no rfl ?_
      cases (gtR w s rc).2.2.2.2.1 with
      |true=>exact Tot.yes rfl (Tot.pure rfl)
      |false=>exact Tot.no rfl (Tot.pure rfl)
theorem Nra (c:Cur) (hc:Ck c):Tot (λ k=>Jr k c) (λ r=>r.1.length≤6∧Ck r.2):=by
 unfold Jr
 refine Tot.bind (Un c hc) ?_
 rintro ⟨l,c1⟩ ⟨hl,k1⟩
 dsimp only at hl k1 ⊢
 obtain ⟨x,c2,e2,_,_,_,k2⟩:=Am c1 k1 8 (by decide)
 refine Tot.bind (Tot.of (Q:=λ r=>r=(x,c2)) e2 rfl) ?_
 rintro _ rfl
 dsimp only
 refine Tot.ite (λ _=>?_) (λ _=>Tot.ite (λ _=>?_) (λ _=>Tot.pure ⟨by dsimp only; omega,k2⟩))
 ·obtain ⟨y,c3,e3,y0,y1,_,k3⟩:=Am c2 k2 4 (by decide)
  have y1:=y1 (by decide)
  refine Tot.bind (Tot.of (Q:=λ r=>r=(y,c3)) e3 rfl) ?_
  rintro _ rfl
  exact Tot.dec y0 (Tot.dec (by dsimp only; omega) (Tot.pure ⟨by dsimp only; rw [List.length_take]; omega,k3⟩))
 ·obtain ⟨y,c3,e3,_,k3⟩:=Ke c2 k2 [(-1),4] (by decide) (by decide)
  refine Tot.bind (Tot.of (Q:=λ r=>r=(y,c3)) e3 rfl) ?_
  rintro _ rfl
  exact Tot.dec (by omega) (Tot.pure ⟨by dsimp only; rw [List.length_set]; omega,k3⟩)

end Go.Proofs.YtmhhjceoinoekaaGreat.Vf

section
set_option linter.unusedVariables false
set_option linter.unusedSimpArgs false
namespace Go.Proofs.YtmhhjceoinoekaaGreat.Pure
open Go Go.RowKit Go.Proofs.YtmhhjceoinoekaaGreat.Vf
theorem J8a (a:List Int) (hb:(a.length:Int)≤1048576):Tot (λ k=>Cq k a) (λ r=>Jv r.2.1∧r.2.2.length≤6):=by
 unfold Cq
 refine Tot.bind (F8a a hb) ?_
 intro c hc
 obtain ⟨n,e,n0,n1⟩:=M1a a hb 24 (by decide)
 refine Tot.bind (Tot.of (Q:=λ r=>r=n) e rfl) ?_
 rintro _ rfl
 refine Tot.bind (Npa c hc _ (by omega)) ?_
 rintro ⟨w,c1⟩ ⟨_,k1⟩
 obtain ⟨s,c2,e2,hs,k2⟩:=O3 c1 k1
 refine Tot.bind (Tot.of (Q:=λ r=>r=(s,c2)) e2 rfl) ?_
 rintro _ rfl
 refine Tot.bind (Nra c2 k2) ?_
 intro r hr
 exact Tot.pure ⟨hs,hr.1⟩
theorem Ssa (w:Wld) (s:ByteArray) (f:Fil) (h:w.2.2.2.2.1.length≤200) (hb:Dna w.2.2.2.2.1) (hf:Al f.2.2) (hfl:f.2.2.length≤1000000000) (hw:IsW w.2.2.2.2.1 s f):Tot (λ k=>I8 k w s f) (λ r=>r=true):=by
 unfold I8
 have hany:w.2.2.2.2.1.any (λ x=>teq x.1 s&&decide (x.2.1=f))=true:=by
  obtain ⟨x,hx,h1,h2⟩:=hw
  exact List.any_eq_true.2 ⟨x,hx,by rw [Bool.and_eq_true]; exact ⟨Ja.2 h1,decide_eq_true h2⟩⟩
 refine Tot.bind (Q:=λ r=>r=bif w.2.2.2.2.1.any (λ x=>teq x.1 s&&decide (x.2.1=f)) then .inl true else .inr ()) ?_ (by
  rintro r rfl
  rw [hany]
  exact Tot.pure rfl)
 rw [S6a _ S7a]
 refine Tot.anyI (L:=λ k i=>H7 k s i w f) _ _ () ?_ ?_
 ·simp (disch:=omega) only [H7,dF]
  exact Tot.pure rfl
 ·intro j hj Q yes no
  have hm:=hb _ (A4 (d:=S7a) hj)
  obtain ⟨x,ex⟩:∃ x:Wri,w.2.2.2.2.1.getD j S7a=x:=⟨_,rfl⟩
  rw [ex] at no yes hm
  have e0:w.2.2.2.2.1.getD j ((⟨#[]⟩:ByteArray),((((0:Int),((0:Int),(0:Int))),(false,[])),false))=x:=ex
  simp (disch:=omega) only [H7,dT,Int.toNat_natCast,w64,e0]
  refine Tot.ite (λ h1=>?_) (λ h1=>no (by rw [show teq x.1 s=false from h1]; rfl))
  rw [show teq x.1 s=true from h1,Bool.true_and] at no yes
  refine Tot.bind (Fza x.2.1 f (by have:=(Ik.1 hm.2.1).2.1; omega)) ?_
  rintro r rfl
  exact Tot.ite (λ h2=>Tot.pure (yes h2)) (λ h2=>no h2)
theorem FnGiven:∀ (a0:List Int),Ty.fit ti (.sl 5 (.i .u8)) a0→∃ k,Jg k a0=some true:=by
 intro a0 _
 refine Tot.law (f:=λ k=>Jg k a0) ?_
 unfold Jg Ms
 refine Tot.bind (Tot.pure (Q:=λ b=>b=decide ((List.length a0:Int) > 1048576)) rfl) ?_
 rintro b rfl
 refine Tot.dite (λ _=>Tot.pure rfl) (λ hb=>?_)
 refine Tot.bind (Dpa a0 (by omega)) ?_
 intro w h
 have hw:=h.win
 refine Tot.bind (J8a a0 (by omega)) ?_
 rintro ⟨_,s,rc⟩ ⟨hs,hrc⟩
 dsimp only at hs hrc ⊢
 refine Tot.bind (W1a w s rc hw hs) ?_
 rintro _ rfl
 refine Tot.bind (W2a w s rc hw hs) ?_
 rintro _ rfl
 refine Tot.no (by rw [bne,beq_self_eq_true]; rfl) ?_
 unfold Ccb
 rw [h.rightB,Bool.true_and]
 cases hn:B1 s with
 |false=>exact Tot.yes rfl (Tot.pure rfl)
 |true=>
  rw [cond_true]
  have hf:=Sra w s rc
  unfold gtW
  cases (gtR w s rc).2.1==0 with
  |true=>exact Tot.yes rfl (Tot.pure rfl)
  |false=>
   rw [cond_false]
   cases hfd:(gtR w s rc).2.2.1 with
   |false=>exact Tot.yes rfl (Tot.pure rfl)
   |true=>
    rw [Bool.not_true,cond_false]
    cases hd:(gtR w s rc).2.2.2.2.1 with
    |true=>exact Tot.yes rfl (Tot.pure rfl)
    |false=>
     obtain ⟨n,hm,hl⟩:=hf hfd
     obtain ⟨b,hb1,hb2⟩:=P3.1 hl
     have hno:=h.nodes n hm
     have hok:=R7a hb2
     have hold:old n.2.1 s=some (gtR w s rc).2.2.2:=by unfold old; rw [hb1]; exact hb2
     have hI:=ED.now h.wok (hno.2.1 s) hold
     have hgood:=hI.good h.wok
     refine Tot.no rfl (Tot.bind (Ssa w s (gtR w s rc).2.2.2 h.wlen h.wok hgood.2.2 (by have:=(Ik.1 hgood.2.1).2.1; omega) hI) ?_)
     rintro _ rfl
     exact Tot.yes rfl (Tot.pure (by rw [cond_false]; dsimp only; rw [hd]; rfl))
end Go.Proofs.YtmhhjceoinoekaaGreat.Pure
end
