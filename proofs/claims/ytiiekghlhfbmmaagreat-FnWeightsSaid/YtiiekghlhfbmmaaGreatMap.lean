import Derived.Test.YtiiekghlhfbmmaaGreatMao
set_option linter.all false
namespace Go.Proofs.YtiiekghlhfbmmaaGreat.Vf
open Go
open List (length getD)
open Int (toNat)
open Go.IntKind (wrap)
open BitVec (ofInt)
def Mcb:=@List.getElem_map

def Dla {a b c:Stp} (h1:sle a b=false) (h2:sle b c=false):sle a c=false:=by
 cases h:sle a c
 ·rfl
 have n1:¬ _:=λ k=>by rw[Qz.2 k]at h1;cases h1
 have n2:¬ _:=λ k=>by rw[Qz.2 k]at h2;cases h2
 have h3:=Qz.1 h;omega
def Xq {a b:Stp} (h:sle a b=true):sle b a=false:=by
 cases h':sle b a
 ·rfl
 have h1:=Qz.1 h;have h2:=Qz.1 h';omega
def Ffa (ws:List Wri):Prop:=∀ x∈ws,Bi x.1=true∧Hf x.2.1=true∧An x.2.1.2.2
def IsW (ws:List Wri) (s:ByteArray) (f:Fil):Prop:=∃ x∈ws,x.1=s∧x.2.1=f
def EO (ws:List Wri) (sp:List ByteArray) (s:ByteArray) (b:List Int):Prop:=∃ f,IsW ws s f∧(b=Mq f∨(s∈sp∧∃ n,n<8*(Mq f).length∧b=Pe (Mq f) n))
def ED (ws:List Wri) (sp:List ByteArray) (d:Dsk) (s:ByteArray):Prop:=
 (∀ b,gt d.1 s=some b→EO ws sp s b)∧(∀ b,gt d.2 s=some b→EO ws sp s b)∧
 (s∉sp→∀ b f,gt d.2 s=some b→O6 b=some f→∃ b' f',gt d.1 s=some b'∧O6 b'=some f'∧sle f'.1 f.1=false)
def DI (ws:List Wri) (sp:List ByteArray) (d:Dsk):Prop:=∀ s,ED ws sp d s
def HD (d:Dsk) (s:ByteArray) (st:Stp):Prop:=∃ b f,gt d.2 s=some b∧O6 b=some f∧sle f.1 st=false
def MO (sp:List ByteArray) (d d':Dsk):Prop:=∀ s,s∉sp→∀ st,HD d s st→HD d' s st
def IsW.good {ws:List Wri} (hw:Ffa ws) {s:ByteArray} {f:Fil} (h:IsW ws s f):Bi s=true∧Hf f=true∧An f.2.2:=by
 obtain⟨x,hx,rfl,rfl⟩:=h;exact hw x hx
def EO.get {ws:List Wri} {sp:List ByteArray} (hw:Ffa ws) {s:ByteArray} {b:List Int} (h:EO ws sp s b) {f:Fil} (hf:O6 b=some f):IsW ws s f∧b=Mq f:=by
 obtain⟨g,h1,h2⟩:=h;obtain⟨_,g2,g3⟩:=h1.good hw;rcases h2 with rfl|⟨_,n,hn,rfl⟩
 ·rw[Xj g2 g3]at hf;cases hf;exact⟨h1,rfl⟩
 ·rw[Afb g2 hn]at hf;cases hf
def EO.fine {ws:List Wri} {sp:List ByteArray} (hw:Ffa ws) {s:ByteArray} {b:List Int} (h:EO ws sp s b) (hs:s∉sp):∃ f,O6 b=some f∧IsW ws s f:=by
 obtain⟨g,h1,h2⟩:=h;obtain⟨_,g2,g3⟩:=h1.good hw;rcases h2 with rfl|⟨h,_⟩
 ·exact⟨g,Xj g2 g3,h1⟩
 ·exact absurd h hs
def EO.mono {ws ws':List Wri} {sp sp':List ByteArray} (h1:∀ x∈ws,x∈ws') (h2:∀ s∈sp,s∈sp') {s:ByteArray} {b:List Int} (h:EO ws sp s b):EO ws' sp' s b:=by
 obtain⟨g,⟨x,hx,e⟩,h3⟩:=h;refine⟨g,⟨x,h1 x hx,e⟩,?_⟩;rcases h3 with h3|⟨h3,h4⟩
 ·exact .inl h3
 ·exact .inr ⟨h2 s h3,h4⟩
def ED.mono {ws ws':List Wri} {sp sp':List ByteArray} (h1:∀ x∈ws,x∈ws') (h2:∀ s∈sp,s∈sp') {d:Dsk} {s:ByteArray} (h:ED ws sp d s):ED ws' sp' d s:=
 ⟨λ b hb=>(h.1 b hb).mono h1 h2,λ b hb=>(h.2.1 b hb).mono h1 h2,λ hs=>h.2.2 (λ c=>hs (h2 s c))⟩
def DI.mono {ws ws':List Wri} {sp sp':List ByteArray} (h1:∀ x∈ws,x∈ws') (h2:∀ s∈sp,s∈sp') {d:Dsk} (h:DI ws sp d):DI ws' sp' d:=λ s=>(h s).mono h1 h2
def ED.same {ws:List Wri} {sp:List ByteArray} {d d':Dsk} {s:ByteArray} (h:ED ws sp d s) (e1:gt d'.1 s=gt d.1 s) (e2:gt d'.2 s=gt d.2 s):ED ws sp d' s:=by
 unfold ED;rw[e1,e2];exact h
def HD.same {d d':Dsk} {s:ByteArray} {st:Stp} (h:HD d s st) (e2:gt d'.2 s=gt d.2 s):HD d' s st:=by
 unfold HD;rw[e2];exact h
def MO.refl (sp:List ByteArray) (d:Dsk):MO sp d d:=λ _ _ _ h=>h
def MO.trans {sp:List ByteArray} {a b c:Dsk} (h1:MO sp a b) (h2:MO sp b c):MO sp a c:=λ s hs st h=>h2 s hs st (h1 s hs st h)
def X0a {s:ByteArray} {st:Stp} {n:Nod}:N0a s st n=true↔HD n.2.1 s st:=by
 unfold N0a HD
 cases h:gt n.2.1.2 s with
 |none=>exact⟨λ c=>(by cases c),λ ⟨b,f,c,_⟩=>(by cases c)⟩
 |some b=>
  dsimp only
  cases h2:O6 b with
  |none=>exact⟨λ c=>(by cases c),λ ⟨b',f,c,c2,_⟩=>(by cases c;rw[h2]at c2;cases c2)⟩
  |some f=>
   dsimp only;rw[Bool.not_eq_true'];exact⟨λ c=>⟨b,f,rfl,h2,c⟩,λ ⟨b',f',c,c2,c3⟩=>(by cases c;rw[h2]at c2;cases c2;exact c3)⟩
section
variable {ws:List Wri} {sp:List ByteArray} {d:Dsk} {s:ByteArray}
def ED.now (hw:Ffa ws) (h:ED ws sp d s) {f:Fil} (ho:old d s=some f):IsW ws s f:=by
 unfold old at ho
 cases hg:gt d.1 s with
 |none=>rw[hg]at ho;cases ho
 |some b=>rw[hg]at ho;exact((h.1 b hg).get hw ho).1
def ED.ge (h:ED ws sp d s) (hs:s∉sp) {st:Stp} (hh:HD d s st):∃ b f,gt d.1 s=some b∧O6 b=some f∧sle f.1 st=false:=by
 obtain⟨b,f,h1,h2,h3⟩:=hh;obtain⟨b',f',h4,h5,h6⟩:=h.2.2 hs b f h1 h2;exact⟨b',f',h4,h5,Dla h6 h3⟩
def F4b (hd:B7 d=true) (h:DI ws sp d):DI ws sp (d.1,sy d s):=by
 intro t
 by_cases ht:s=t
 ·subst ht
  have e:gt (sy d s) s=gt d.1 s:=by rw[Moa hd,if_pos rfl]
  refine⟨(h s).1,λ b hb=>(h s).1 b (by rw[← e];exact hb),λ hs b f hb hf=>⟨b,f,by rw[← e];exact hb,hf,N0 _⟩⟩
 ·exact(h t).same rfl (by show gt (sy d s) t=_;rw[Moa hd,if_neg ht])
def Hqb (hd:B7 d=true) (h:DI ws sp d):MO sp d (d.1,sy d s):=by
 intro t ht st hh
 by_cases hst:s=t
 ·subst hst;obtain⟨b,f,h1,h2,h3⟩:=(h s).ge ht hh;exact⟨b,f,by show gt (sy d s) s=_;rw[Moa hd,if_pos rfl,h1],h2,h3⟩
 ·exact hh.same (by show gt (sy d s) t=_;rw[Moa hd,if_neg hst])
def J8b (hw:Ffa ws) (hd:B7 d=true) (h:DI ws sp d) {f:Fil} (hf:IsW ws s f) (hn:∀ o,old d s=some o→sle o.1 f.1=true):DI ws sp (wr d.1 s (Mq f),d.2):=by
 intro t
 by_cases ht:s=t
 ·subst ht
  have e:gt (wr d.1 s (Mq f)) s=some (Mq f):=by rw[Gva (Ma hd),if_pos rfl]
  obtain⟨_,g2,g3⟩:=hf.good hw;refine⟨λ b hb=>?_,(h s).2.1,λ hs b g hb hg=>⟨Mq f,f,e,Xj g2 g3,?_⟩⟩
  ·rw[show gt (wr d.1 s (Mq f)) s=some b from hb]at e;cases e;exact⟨f,hf,.inl rfl⟩
  ·obtain⟨b',f',k1,k2,k3⟩:=(h s).2.2 hs b g hb hg;have:=hn f' (by unfold old;rw[k1];exact k2);exact Dla (Xq this) k3
 ·exact(h t).same (by show gt (wr d.1 s (Mq f)) t=_;rw[Gva (Ma hd),if_neg ht]) rfl
def N2a (hw:Ffa ws) (hd:DG d) (h:DI ws sp d) {f:Fil} {sure:Bool} (hf:IsW ws s f):DI ws sp (keep d s f sure).1∧MO sp d (keep d s f sure).1:=by
 obtain⟨g1,g2,g3⟩:=hf.good hw;rw[D7a hd.1 g1 g2];rcases A2a (f:=f) (sure:=sure) hd g1 with k|⟨o,_,_,k,hg,h3⟩|⟨h1,h2,k,hg,h3⟩
 ·rw[k];exact⟨h,MO.refl _ _⟩
 ·rcases h3 with⟨_,h3⟩|⟨_,h3⟩
  ·rw[h3];exact⟨h,MO.refl _ _⟩
  ·rw[h3];exact⟨F4b hd.1 h,Hqb hd.1 h⟩
 ·have hw':=J8b hw hd.1 h hf h1;rcases h3 with⟨_,h3⟩|⟨_,h3⟩
  ·rw[h3];exact⟨hw',λ t _ st hh=>hh.same rfl⟩
  ·rw[h3];exact⟨F4b h2.1 hw',(show MO sp d (wr d.1 s (Mq f),d.2) from λ t _ st hh=>hh.same rfl).trans (Hqb h2.1 hw')⟩
def X1a (hw:Ffa ws) (hd:DG d) {f:Fil} (hf:IsW ws s f) (hc:(keep d s f true).2=0∨(keep d s f true).2=1):HD (keep d s f true).1 s f.1:=by
 obtain⟨g1,g2,g3⟩:=hf.good hw;rw[D7a hd.1 g1 g2]at hc ⊢;obtain⟨o,g,b,ho,_,e,h1,h2,h3⟩:=Vta hd g1 g2 g3 hc;rw[e];exact⟨b,g,by show gt (sy o s) s=_;rw[Moa ho.1,if_pos rfl,h1],h2,h3⟩
def F5b (hd:DG d) (h:DI ws sp d) (kp:List Bool):DI ws sp (W0 d kp):=by
 intro t;rcases Wba (d:=d) (kp:=kp) t with e|⟨e1,e2⟩
 ·rw[e];exact h t
 ·unfold ED;rw[e1]
  have eo:∀ b,gt (W0 d kp).1 t=some b→EO ws sp t b:=by
   intro b hb;rcases e2 with e2|e2
   ·exact(h t).1 b (by rw[← e2];exact hb)
   ·exact(h t).2.1 b (by rw[← e2];exact hb)
  exact⟨eo,eo,λ _ b f hb hf=>⟨b,f,hb,hf,N0 _⟩⟩
def F6b (hd:DG d) (h:DI ws sp d) (kp:List Bool):MO sp d (W0 d kp):=by
 intro t ht st hh;rcases Wba (d:=d) (kp:=kp) t with e|⟨e1,e2⟩
 ·rw[e];exact hh
 ·unfold HD;rw[e1];rcases e2 with e2|e2
  ·rw[e2];exact(h t).ge ht hh
  ·rw[e2];exact hh
def Poa (hw:Ffa ws) (hd:DG d) (h:DI ws sp d):DI ws sp (No d).1∧MO sp d (No d).1:=by
 obtain⟨_,hc⟩:=W1 d.1 (d,0) hd;have hc':∀ t,(t∈H6a d.1→gt (No d).1.1 t=none∧gt (No d).1.2 t=none)∧(t∉H6a d.1→gt (No d).1.1 t=gt d.1 t∧gt (No d).1.2 t=gt d.2 t):=hc
 have hb:∀ t,t∈H6a d.1→t∈sp:=by
  intro t ht;obtain⟨b,h1,h2⟩:=(Pha hd.1).1 ht
  by_cases hs:t∈sp
  ·exact hs
  ·obtain⟨f,hf,_⟩:=((h t).1 b h1).fine hw hs;rw[hf]at h2;cases h2
 constructor
 ·intro t
  by_cases ht:t∈H6a d.1
  ·obtain⟨e1,e2⟩:=(hc' t).1 ht;unfold ED;rw[e1,e2];exact⟨λ b hb=>(by cases hb),λ b hb=>(by cases hb),λ _ b f hb=>(by cases hb)⟩
  ·obtain⟨e1,e2⟩:=(hc' t).2 ht;exact(h t).same e1 e2
 ·intro t ht st hh;exact hh.same ((hc' t).2 (λ c=>ht (hb t c))).2
def Hrb (hd:DG d) (h:DI ws sp d) (hs:Bi s=true):DI ws sp (syD (rmD d s).1 s).1∧∀ t,t≠s→∀ st,HD d t st→HD (syD (rmD d s).1 s).1 t st:=by
 have hr:DI ws sp (rmD d s).1∨True := .inr trivial;unfold rmD
 cases hg:gt d.1 s with
 |none=>
  have e:(bif (none:Option (List Int)).isSome then ((cut d.1 s,d.2),true) else (d,false)).1=d:=rfl;rw[e];unfold syD
  by_cases hl:(sy d s).length≤60
  ·rw[decide_eq_true hl];exact⟨F4b hd.1 h,λ t ht st hh=>hh.same (by show gt (sy d s) t=_;rw[Moa hd.1,if_neg (Lhb ht)])⟩
  ·rw[decide_eq_false hl];exact⟨h,λ t ht st hh=>hh⟩
 |some b=>
  have e:(bif (some b:Option (List Int)).isSome then ((cut d.1 s,d.2),true) else (d,false)).1=(cut d.1 s,d.2):=rfl;rw[e];have hd':B7 (cut d.1 s,d.2)=true:=F6.2 ⟨Aia (F6.1 hd.1).1,(F6.1 hd.1).2⟩
  have e1:∀ t,gt (cut d.1 s) t=if s=t then none else gt d.1 t:=λ t=>Uq (Ma hd.1)
  have e2:∀ t,gt (sy (cut d.1 s,d.2) s) t=if s=t then none else gt d.2 t:=λ t=>by
   rw[Moa hd']
   by_cases hst:s=t
   ·rw[if_pos hst,if_pos hst];show gt (cut d.1 s) s=none;rw[e1,if_pos rfl]
   ·rw[if_neg hst,if_neg hst]
  have hlen:(sy (cut d.1 s,d.2) s).length≤60:=by
   have:sy (cut d.1 s,d.2) s=cut d.2 s:=by
    unfold sy;have:=e1 s;rw[if_pos rfl]at this;rw[show gt (cut d.1 s,d.2).1 s=none from this]
   rw[this];exact Zt Qc.length_le (Aq.1 (F6.1 hd.1).2).2.2
  unfold syD;rw[decide_eq_true hlen];constructor
  ·intro t;show ED ws sp (cut d.1 s,sy (cut d.1 s,d.2) s) t
   by_cases hst:s=t
   ·unfold ED;dsimp only;rw[e1,e2,if_pos hst,if_pos hst];exact⟨λ b hb=>(by cases hb),λ b hb=>(by cases hb),λ _ b f hb=>(by cases hb)⟩
   ·exact(h t).same (by show gt (cut d.1 s) t=_;rw[e1,if_neg hst]) (by show gt (sy (cut d.1 s,d.2) s) t=_;rw[e2,if_neg hst])
  ·intro t ht st hh;exact hh.same (by show gt (sy (cut d.1 s,d.2) s) t=_;rw[e2,if_neg (Lhb ht)])
def Hsb (hw:Ffa ws) (hd:DG d) (h:DI ws sp d) {n:Int} (hl:(lkD d s).2=0) (hr:(Kua d s n).2=true) (sp':List ByteArray) (hsp:∀ t,t∈sp'↔t=s∨t∈sp):DI ws sp' (Kua d s n).1∧MO sp' d (Kua d s n).1∧∃ f,IsW ws s f:=by
 obtain⟨b,hb,hf⟩:=Qe.1 (show lkD d s=((lkD d s).1,0) by rw[← hl]);obtain⟨hW,e⟩:=((h s).1 b hb).get hw hf;have hsub:∀ t∈sp,t∈sp':=λ t ht=>(hsp t).2 (.inr ht);generalize (lkD d s).1=f at *;unfold Kua at hr ⊢;rw[hb]at hr ⊢;dsimp only at hr ⊢;cases hin:inR n 0 (8*(b.length:Int)-1)
 ·rw[hin]at hr;cases hr
 rw[cond_true];obtain⟨n0,n1⟩:=Dt.1 hin
 have hn:n.toNat<8*(Mq f).length:=by rw[← e];omega
 have e1:∀ t,gt (wr d.1 s (Pe b n.toNat)) t=if s=t then some (Pe b n.toNat) else gt d.1 t:=λ t=>Gva (Ma hd.1)
 have e2:∀ t,gt (bif decide (gt d.2 s=some b) then wr d.2 s (Pe b n.toNat) else d.2) t=if s=t∧gt d.2 s=some b then some (Pe b n.toNat) else gt d.2 t:=by
  intro t
  by_cases hg:gt d.2 s=some b
  ·rw[decide_eq_true hg,cond_true,Gva (Pt hd.1)]
   by_cases hst:s=t
   ·rw[if_pos hst,if_pos ⟨hst,hg⟩]
   ·rw[if_neg hst,if_neg (λ c=>hst c.1)]
  ·rw[decide_eq_false hg,cond_false,if_neg (λ c=>hg c.2)]
 have hflip:EO ws sp' s (Pe b n.toNat):=⟨f,hW,.inr ⟨(hsp s).2 (.inl rfl),n.toNat,hn,by rw[e]⟩⟩;refine⟨λ t=>?_,λ t ht st hh=>?_,f,hW⟩
 ·by_cases hst:s=t
  ·subst hst;refine⟨λ x hx=>?_,λ x hx=>?_,λ c=>absurd ((hsp s).2 (.inl rfl)) c⟩
   ·have:=e1 s;rw[if_pos rfl]at this;rw[show gt (wr d.1 s (Pe b n.toNat)) s=some x from hx]at this;cases this;exact hflip
   ·have:=e2 s;rw[show gt (bif decide (gt d.2 s=some b) then wr d.2 s (Pe b n.toNat) else d.2) s=some x from hx]at this
    by_cases hg:gt d.2 s=some b
    ·rw[if_pos ⟨rfl,hg⟩]at this;cases this;exact hflip
    ·rw[if_neg (λ c=>hg c.2)]at this;exact((h s).2.1 x this.symm).mono (λ _ h=>h) hsub
  ·refine((h t).mono (λ _ h=>h) hsub).same ?_ ?_
   ·show gt (wr d.1 s (Pe b n.toNat)) t=_;rw[e1,if_neg hst]
   ·show gt (bif decide (gt d.2 s=some b) then wr d.2 s (Pe b n.toNat) else d.2) t=_;rw[e2,if_neg (λ c=>hst c.1)]
 ·have hst:s≠t:=λ c=>ht ((hsp t).2 (.inl c.symm));exact hh.same (by show gt (bif decide (gt d.2 s=some b) then wr d.2 s (Pe b n.toNat) else d.2) t=_;rw[e2,if_neg (λ c=>hst c.1)])
end

def NI (ws:List Wri) (sp:List ByteArray) (n:Nod):Prop:=NG n∧DI ws sp n.2.1∧(∀ r∈n.2.2.1,Q1 ws r=true)∧∀ r∈n.2.2.2,Q1 ws r=true
def KN (ns:List Nod) (s:ByteArray) (st:Stp):Prop:=∃ i,i<ns.length∧HD (ns.getD i Ac).2.1 s st
def MS (sp:List ByteArray) (ns ns':List Nod):Prop:=∀ s,s∉sp→∀ st,KN ns s st→KN ns' s st
def Xr {ws:List Wri} {r:Row}:Q1 ws r=true↔∃ x∈ws,Aza x.1 x.2.1=r:=by
 unfold Q1;rw[K9b];exact⟨λ ⟨x,h1,h2⟩=>⟨x,h1,Kba.1 h2⟩,λ ⟨x,h1,h2⟩=>⟨x,h1,Kba.2 h2⟩⟩
def Fga {ws ws':List Wri} (h:∀ x∈ws,x∈ws') {r:Row} (hr:Q1 ws r=true):Q1 ws' r=true:=by
 obtain⟨x,h1,h2⟩:=Xr.1 hr;exact Xr.2 ⟨x,h x h1,h2⟩
def B1b {ws:List Wri} {s:ByteArray} {f:Fil} (h:IsW ws s f):Q1 ws (Aza s f)=true:=by
 obtain⟨x,h1,rfl,rfl⟩:=h;exact Xr.2 ⟨x,h1,rfl⟩
def NI.mono {ws ws':List Wri} {sp sp':List ByteArray} (h1:∀ x∈ws,x∈ws') (h2:∀ s∈sp,s∈sp') {n:Nod} (h:NI ws sp n):NI ws' sp' n:=
 ⟨h.1,h.2.1.mono h1 h2,λ r hr=>Fga h1 (h.2.2.1 r hr),λ r hr=>Fga h1 (h.2.2.2 r hr)⟩
def NR (ws:List Wri) (sp:List ByteArray) (ns ns':List Nod):Prop:=(∀ n∈ns',NI ws sp n)∧ns'.map (·.1)=ns.map (·.1)∧MS sp ns ns'
def NR.refl {ws:List Wri} {sp:List ByteArray} {ns:List Nod} (h:∀ n∈ns,NI ws sp n):NR ws sp ns ns:=⟨h,rfl,λ _ _ _ h=>h⟩
def NR.len {ws:List Wri} {sp:List ByteArray} {ns ns':List Nod} (h:NR ws sp ns ns'):ns'.length=ns.length:=by
 have:=congrArg length h.2.1;rwa [Wd,Wd]at this
def Ld {α:Type} {l:List α} {i j:Nat} {x d:α} (hj:j<l.length):(l.set i x).getD j d=if i=j then x else l.getD j d:=by
 rw[Vb,List.getElem?_set]
 by_cases h:i=j
 ·subst h;rw[if_pos rfl,if_pos rfl,if_pos hj];rfl
 ·rw[if_neg h,if_neg h,Vb]
def N3a {ns:List Nod} {i:Nat} {n:Nod} (hi:i<ns.length) (h:n.1=(ns.getD i Ac).1):(ns.set i n).map (·.1)=ns.map (·.1):=by
 refine N1b (by simp) (λ j h1 h2=>?_);rw[Wd,Wc]at h1;rw[Mcb,Mcb,N2b]
 by_cases hij:i=j
 ·subst hij;rw[if_pos rfl,h,Vb,Vj hi];rfl
 ·rw[if_neg hij]
def NR.set {ws:List Wri} {sp:List ByteArray} {ns ns':List Nod} (h:NR ws sp ns ns') {i:Nat} (hi:i<ns'.length) {n:Nod} (h1:NI ws sp n) (h2:n.1=(ns'.getD i Ac).1) (h3:MO sp (ns'.getD i Ac).2.1 n.2.1):NR ws sp ns (ns'.set i n):=by
 obtain⟨g1,g2,g3⟩:=h;refine⟨λ m hm=>?_,by rw[N3a hi h2,g2],λ s hs st hk=>?_⟩
 ·rcases Ys hm with hm|rfl
  ·exact g1 m hm
  ·exact h1
 ·obtain⟨j,hj,hd⟩:=g3 s hs st hk;refine⟨j,by rw[Wc];exact hj,?_⟩;rw[Ld hj]
  by_cases hij:i=j
  ·subst hij;rw[if_pos rfl];exact h3 s hs st hd
  ·rw[if_neg hij];exact hd
section
variable {ws:List Wri} {sp:List ByteArray} {n:Nod} {s:ByteArray} {f:Fil}
def F7b (hw:Ffa ws) (h:NI ws sp n) (hf:IsW ws s f) (sure:Bool):NI ws sp (B0a n s f sure).1∧(B0a n s f sure).1.1=n.1∧MO sp n.2.1 (B0a n s f sure).1.2.1:=by
 obtain⟨g1,g2,g3⟩:=hf.good hw;obtain⟨h1,h2,h3,h4⟩:=h;have hg:=Vua (sure:=sure) h1 g1 g2;obtain⟨k1,k2⟩:=N2a (sure:=sure) hw h1.g h2 hf;unfold B0a at hg ⊢;cases hq:(n.2.2.2.length:Int)==60
 case true=>exact⟨⟨h1,h2,h3,h4⟩,rfl,MO.refl _ _⟩
 rw[hq]at hg;refine⟨⟨hg,k1,h3,?_⟩,rfl,k2⟩
 show ∀ r∈bif (keep n.2.1 s f sure).2==0&&sure then n.2.2.2++[Aza s f] else n.2.2.2,Q1 ws r=true
 cases (keep n.2.1 s f sure).2==0&&sure
 ·exact h4
 intro r hr;rcases Vo.1 hr with hr|hr
 ·exact h4 r hr
 ·rw[Vu.1 hr];exact B1b hf
def F8b (hw:Ffa ws) (h:NI ws sp n) (hf:IsW ws s f) (hc:(B0a n s f true).2=0∨(B0a n s f true).2=1):HD (B0a n s f true).1.2.1 s f.1:=by
 unfold B0a at hc ⊢
 cases hq:((n.2.2.2.length:Int)==60) with
 |true=>rw[hq]at hc;rcases hc with hc|hc<;>cases hc
 |false=>rw[hq]at hc;exact X1a hw h.1.g hf hc
def Htb (h:NI ws sp n) {l:List Row} (hl:Mi l=true) (hr:∀ r∈l,Q1 ws r=true):NI ws sp (tk n l).2∧(tk n l).2.1=n.1∧(tk n l).2.2.1=n.2.1:=by
 obtain⟨h1,h2,h3,h4⟩:=h;have hg:=J7b h1 hl;unfold tk at hg ⊢;cases hq:decide ((Qa n.2.2.1 l).length > 60)
 case true=>exact⟨⟨h1,h2,h3,h4⟩,rfl,rfl⟩
 rw[hq]at hg;exact⟨⟨hg,h2,λ r hr'=>(Gma hr').elim (h3 r) (hr r),h4⟩,rfl,rfl⟩
end
def Hub {ws:List Wri} {sp:List ByteArray} {ns:List Nod} {R:Int} {rc:List Int} {s:ByteArray} {f:Fil} {cs:List Int} {a:List Nod×Int×Int} {j:Nat} (hw:Ffa ws) (hf:IsW ws s f)
  (h:NR ws sp ns a.1∧(s∉sp→a.2.2≥1→KN a.1 s f.1)∧a.2.2≥0) (hc:(cs.getD j 0).toNat<ns.length):
  NR ws sp ns (wst R rc s f cs a j).1∧(s∉sp→(wst R rc s f cs a j).2.2≥1→KN (wst R rc s f cs a j).1 s f.1)∧(wst R rc s f cs a j).2.2≥0:=by
 obtain⟨h1,h2,h3⟩:=h;unfold wst;cases decide (a.2.1<R)
 ·exact⟨h1,h2,h3⟩
 cases rch rc j==0
 case true=>exact⟨h1,h2,h3⟩
 rw[cond_true,cond_false]
 have hi:(cs.getD j 0).toNat<a.1.length:=by rw[h1.len];exact hc
 generalize (cs.getD j 0).toNat=i at *;have hn:=h1.1 _ (A3 (d:=Ac) hi);obtain⟨p1,p2,p3⟩:=F7b hw hn hf (rch rc j != 3);refine⟨h1.set hi p1 p2 p3,λ hs hg=>?_,?_⟩
 ·cases hr:rch rc j==1&&((B0a (a.1.getD i Ac) s f (rch rc j != 3)).2==0||(B0a (a.1.getD i Ac) s f (rch rc j != 3)).2==1) with
  |true=>
   rw[Va,Zy,beq_iff_eq,beq_iff_eq,beq_iff_eq]at hr
   have e:(rch rc j != 3)=true:=by rw[hr.1];rfl
   rw[e]at hr ⊢;refine⟨i,by rw[Wc];exact hi,?_⟩;rw[Ld hi,if_pos rfl];exact F8b hw hn hf hr.2
  |false=>
   rw[hr]at hg;obtain⟨m,hm,hd⟩:=h2 hs hg;refine⟨m,by rw[Wc];exact hm,?_⟩;rw[Ld hm]
   by_cases hij:i=m
   ·subst hij;rw[if_pos rfl];exact p3 s hs _ hd
   ·rw[if_neg hij];exact hd
 ·dsimp only;cases rch rc j==1&&((B0a (a.1.getD i Ac) s f (rch rc j != 3)).2==0||(B0a (a.1.getD i Ac) s f (rch rc j != 3)).2==1)
  ·exact h3
  ·rw[cond_true];omega
def Hvb {ws:List Wri} {sp:List ByteArray} {w:Wld} {rc:List Int} {s:ByteArray} {f:Fil} (hw:Ffa ws) (hf:IsW ws s f) (hn:∀ n∈w.2.2.1,NI ws sp n):
  NR ws sp w.2.2.1 (wrN w s f rc).1∧(s∉sp→(wrN w s f rc).2.2≥1→KN (wrN w s f rc).1 s f.1)∧(wrN w s f rc).2.2≥0:=
 Nl (λ _ (a:List Nod×Int×Int)=>NR ws sp w.2.2.1 a.1∧(s∉sp→a.2.2≥1→KN a.1 s f.1)∧a.2.2≥0) ⟨NR.refl hn,λ _ h=>absurd h (show ¬ (0:Int)≥1 by omega),Keb _⟩
  (λ j b hj hb=>Hub hw hf hb (by have:=W3 (A3 (d:=0) hj);omega))
def Hwb {ws:List Wri} {sp:List ByteArray} {ns:List Nod} {rc:List Int} {s:ByteArray} {f:Fil} {ps:List Int} {a:List Nod×Bool×Bool} {src j:Nat} (hw:Ffa ws) (hf:IsW ws s f) (hsrc:src<ns.length)
  (h:NR ws sp ns a.1∧(a.2.1=false→a.1.getD src Ac=ns.getD src Ac∧(a.2.2=true→0<j→∃ i,i≠src∧i<ns.length∧HD (a.1.getD i Ac).2.1 s f.1))) (hc:(ps.getD j 0).toNat<ns.length) (hc0:0≤ps.getD j 0):
  NR ws sp ns (pst (src:Int) s f rc ps a j).1∧((pst (src:Int) s f rc ps a j).2.1=false→(pst (src:Int) s f rc ps a j).1.getD src Ac=ns.getD src Ac∧((pst (src:Int) s f rc ps a j).2.2=true→0<j+1→∃ i,i≠src∧i<ns.length∧HD ((pst (src:Int) s f rc ps a j).1.getD i Ac).2.1 s f.1)):=by
 obtain⟨h1,h2⟩:=h;unfold pst;cases hz:ps.getD j 0==(src:Int)
 case true=>exact⟨h1,λ c=>by cases c⟩
 have hne:(ps.getD j 0).toNat≠src:=by
  have:=beq_eq_false_iff_ne.1 hz;omega
 cases hr:rch rc j != 1
 case true=>exact⟨h1,λ c=>⟨(h2 c).1,λ c'=>by cases c'⟩⟩
 rw[cond_false,cond_false]
 have hi:(ps.getD j 0).toNat<a.1.length:=by rw[h1.len];exact hc
 generalize (ps.getD j 0).toNat=i at *;have hn:=h1.1 _ (A3 (d:=Ac) hi);obtain⟨k1,k2⟩:=N2a (sure:=true) hw hn.1.g hn.2.1 hf;refine⟨h1.set hi ⟨Hia hn.1,k1,hn.2.2⟩ rfl k2,λ c=>⟨?_,λ c' _=>?_⟩⟩
 ·show (a.1.set i _).getD src Ac=_;rw[Ld (by rw[h1.len];exact hsrc),if_neg hne];exact(h2 c).1
 ·refine⟨i,hne,hc,?_⟩;show HD ((a.1.set i _).getD i Ac).2.1 s f.1;rw[Ld hi,if_pos rfl];refine X1a hw hn.1.g hf ?_
  cases hk:(keep (a.1.getD i Ac).2.1 s f true).2 != 0&&(keep (a.1.getD i Ac).2.1 s f true).2 != 1 with
  |true=>
   have:(bif (keep (a.1.getD i Ac).2.1 s f true).2 != 0&&(keep (a.1.getD i Ac).2.1 s f true).2 != 1 then false else a.2.2)=true:=c';rw[hk]at this;cases this
  |false=>
   rw[N6b,bne,bne,Wl,Wl,beq_iff_eq,beq_iff_eq]at hk;exact hk
def Hxb {ws:List Wri} {sp:List ByteArray} {w:Wld} {rc:List Int} {s:ByteArray} {i:Nat} (hw:Ffa ws) (hn:∀ n∈w.2.2.1,NI ws sp n) (hi:i<w.2.2.1.length) (hf:IsW ws s (lkD (w.2.2.1.getD i Ac).2.1 s).1):
  NR ws sp w.2.2.1 (puN w i s rc).1∧((puN w i s rc).2.1=false→(puN w i s rc).1.getD i Ac=w.2.2.1.getD i Ac∧((puN w i s rc).2.2=true→0<(Oh w s).length→∃ j,j≠i∧j<w.2.2.1.length∧HD ((puN w i s rc).1.getD j Ac).2.1 s (lkD (w.2.2.1.getD i Ac).2.1 s).1.1)):=
 Nl (λ n (a:List Nod×Bool×Bool)=>NR ws sp w.2.2.1 a.1∧(a.2.1=false→a.1.getD i Ac=w.2.2.1.getD i Ac∧(a.2.2=true→0<n→∃ j,j≠i∧j<w.2.2.1.length∧HD (a.1.getD j Ac).2.1 s (lkD (w.2.2.1.getD i Ac).2.1 s).1.1))) ⟨NR.refl hn,λ _=>⟨rfl,λ _ c=>absurd c (Nat.lt_irrefl _)⟩⟩
  (λ j b hj hb=>Hwb hw hf hi hb (by have:=Sk (A3 (d:=0) hj);omega) (Sk (A3 (d:=0) hj)).1)
def X2a {w:Wld} {s:ByteArray} (hr:Jd w.2.1 w.1=true) (hid:w.2.2.1.map (·.1)=w.1.map (·.1)):0<(Oh w s).length:=by
 obtain⟨_,p2,p3⟩:=Dca hr s;have h5:=(Bh.1 hr).2.1;obtain⟨id,hidm⟩:=M8b (l:=Sr w.2.1 s) (by omega);have:=Tn.1 (p3 id hidm);rw[← hid]at this;obtain⟨n,hn,rfl⟩:=Zb.1 this;obtain⟨j,hj,rfl⟩:=Zf.1 hn;have hm:(j:Int)∈Oh w s:=A8a.2 ⟨j,hj,by rw[Vb,Vj hj];exact hidm,rfl⟩;exact Kob hm
def Hka {ws:List Wri} {sp:List ByteArray} {w:Wld} {rc:List Int} {s:ByteArray} {i:Nat} (hw:Ffa ws) (hn:∀ n∈w.2.2.1,NI ws sp n) (hi:i<w.2.2.1.length) (hr:Jd w.2.1 w.1=true) (hid:w.2.2.1.map (·.1)=w.1.map (·.1)):
  ∃ ns,(Sj w i s rc).2=wN w ns∧NR ws sp w.2.2.1 ns:=by
 have hni:=hn _ (A3 (d:=Ac) hi);unfold Sj;cases hl:(lkD (w.2.2.1.getD i Ac).2.1 s).2 != 0
 case true=>exact⟨w.2.2.1,rfl,NR.refl hn⟩
 rw[bne,Wl,beq_iff_eq]at hl;obtain⟨b,hb,hg⟩:=Qe.1 (show lkD (w.2.2.1.getD i Ac).2.1 s=((lkD (w.2.2.1.getD i Ac).2.1 s).1,0) from by rw[← hl]);have hf:IsW ws s (lkD (w.2.2.1.getD i Ac).2.1 s).1:=(((hni.2.1 s).1 b hb).get hw hg).1;obtain⟨h1,h2⟩:=Hxb (rc:=rc) hw hn hi hf;refine⟨_,rfl,?_⟩;cases hc:(puN w i s rc).2.2&&!(puN w i s rc).2.1
 ·exact h1
 rw[Va,Vx]at hc;obtain⟨h3,h4⟩:=h2 hc.2;obtain⟨j,hj,hjl,hd⟩:=h4 hc.1 (X2a hr hid);rw[cond_true,h3];obtain⟨g1,_,_⟩:=hf.good hw
 have hi':i<(puN w i s rc).1.length:=by rw[h1.len];exact hi
 obtain⟨o1,o2⟩:=Hrb (s:=s) hni.1.g hni.2.1 g1;refine⟨λ m hm=>?_,by rw[N3a hi' (by rw[h3];rfl),h1.2.1],λ t ht st hk=>?_⟩
 ·rcases Ys hm with hm|rfl
  ·exact h1.1 m hm
  ·exact⟨Cjb hni.1 g1,o1,hni.2.2⟩
 ·obtain⟨m,hm,hh⟩:=h1.2.2 t ht st hk
  by_cases hmi:m=i
  ·subst hmi;rw[h3]at hh
   by_cases hts:t=s
   ·subst hts;obtain⟨b',f',e1,e2,e3⟩:=(hni.2.1 t).ge ht hh;rw[hb]at e1;cases e1;rw[hg]at e2;cases e2;obtain⟨c,g,k1,k2,k3⟩:=hd;refine⟨j,by rw[Wc,h1.len];exact hjl,?_⟩;rw[Ld (by rw[h1.len];exact hjl),if_neg (Lhb hj)];exact⟨c,g,k1,k2,Dla k3 e3⟩
   ·refine⟨m,by rw[Wc];exact hm,?_⟩;rw[Ld hm,if_pos rfl];exact o2 t hts st hh
  ·refine⟨m,by rw[Wc];exact hm,?_⟩;rw[Ld hm,if_neg (Lhb hmi)];exact hh
def Hla {ws:List Wri} {sp:List ByteArray} {w:Wld} {src:Int} {l:List Row} {self:Bool} {rc:List Int} (hn:∀ n∈w.2.2.1,NI ws sp n) (hl:Mi l=true) (hr:∀ r∈l,Q1 ws r=true):NR ws sp w.2.2.1 (N2 w src l self rc).1:=by
 refine Nl (λ _ (a:List Nod×Bool)=>NR ws sp w.2.2.1 a.1) (NR.refl hn) (λ j b hj hb=>?_);have hc:=Pf (A3 (d:=0) hj);unfold gst;cases (C6 w).getD j 0==src&&!self
 case true=>exact hb
 cases rch rc j != 1
 case true=>exact hb
 have hi:((C6 w).getD j 0).toNat<b.1.length:=by rw[hb.len];omega
 obtain⟨t1,t2,t3⟩:=Htb (hb.1 _ (A3 (d:=Ac) hi)) hl hr;exact hb.set hi t1 t2 (by rw[t3];exact MO.refl _ _)
def Ppa {ws:List Wri} {sp:List ByteArray} {w:Wld} {rc:List Int} {i:Nat} (hn:∀ n∈w.2.2.1,NI ws sp n) (hi:i<w.2.2.1.length):∃ ns,(Sn w i rc).2=wN w ns∧NR ws sp w.2.2.1 ns:=by
 have hni:=hn _ (A3 (d:=Ac) hi);have hl:=(Cb.1 hni.1.1).2.2.2.1;unfold Sn;cases ((w.2.2.1.getD i Ac).2.2.1.length:Int)==0
 case true=>exact⟨w.2.2.1,rfl,NR.refl hn⟩
 refine⟨_,rfl,?_⟩;have hg:NR ws sp w.2.2.1 (Pg w i rc).1:=Hla hn hl hni.2.2.1;cases (Pg w i rc).2&&!(M7 (C6 (wN w (Pg w i rc).1)) (i:Int))
 ·exact hg
 have hi':i<(Pg w i rc).1.length:=by rw[hg.len];exact hi
 have hm:=hg.1 _ (A3 (d:=Ac) hi');exact hg.set hi' ⟨Pna hm.1,hm.2.1,(λ _ h=>nomatch h),hm.2.2.2⟩ rfl (MO.refl _ _)
def Pqa {ws:List Wri} {sp:List ByteArray} {w:Wld} {rc:List Int} {i:Nat} (hn:∀ n∈w.2.2.1,NI ws sp n) (hi:i<w.2.2.1.length):∃ ns,(Ug w i rc).2=wN w ns∧NR ws sp w.2.2.1 ns:=by
 have hni:=hn _ (A3 (d:=Ac) hi);obtain⟨hq,_,_,_,hq60⟩:=Cb.1 hni.1.1;unfold Ug;cases ((w.2.2.1.getD i Ac).2.2.2.length:Int)==0
 case true=>exact⟨w.2.2.1,rfl,NR.refl hn⟩
 refine⟨_,rfl,?_⟩;have hg:NR ws sp w.2.2.1 (Qg w i rc).1:=Hla hn (Ph hq) (λ r hr=>hni.2.2.2 r (Khb hr));cases (Qg w i rc).2
 ·exact hg
 have hi':i<(Qg w i rc).1.length:=by rw[hg.len];exact hi
 have hm:=hg.1 _ (A3 (d:=Ac) hi');exact hg.set hi' ⟨Clb hm.1 (λ r hr=>hq r (Zr hr)) (by rw[We];omega),hm.2.1,hm.2.2.1,λ r hr=>hni.2.2.2 r (Zr hr)⟩ rfl (MO.refl _ _)

structure WI (w:Wld):Prop where
 ring:Jd w.2.1 w.1=true
 ids:w.2.2.1.map (·.1)=w.1.map (·.1)
 nodes:∀ n∈w.2.2.1,NI w.2.2.2.2.1 w.2.2.2.2.2 n
 clk:J3 w.2.2.2.1=true
 wlen:w.2.2.2.2.1.length≤200
 wok:Ffa w.2.2.2.2.1
 wge:∀ x∈w.2.2.2.2.1,sle w.2.2.2.1 x.2.1.1=false
 asc:w.2.2.2.2.1.Pairwise (λ a b=>sle a.2.1.1 b.2.1.1=true)
 kept:∀ x∈w.2.2.2.2.1,x.2.2=true→x.1∉w.2.2.2.2.2→KN w.2.2.1 x.1 x.2.1.1
 sps:TS w.2.2.2.2.2
 spw:∀ s∈w.2.2.2.2.2,∃ x∈w.2.2.2.2.1,x.1=s
theorem J9b:LawfulBEq ByteArray := { eq_of_beq:=λ {a b} h=>Db.1 (by rw[← Bga];exact h),rfl:=λ {a}=>by rw[Bga];exact Db.2 rfl }
def Xt:∀ (p q:List ByteArray),p.Nodup→(∀ x∈p,x∈q)→p.length≤q.length
 |[],_,_,_=>Vq _
 |x::p,q,h,hs=>by
  haveI:=J9b;obtain⟨h1,h2⟩:=Yu.1 h;have hx:=hs x Ya;have hlen:(q.erase x).length=q.length-1:=Lqb hx;have hpos:=Kob hx;have:=Xt p (q.erase x) h2 (λ y hy=>(Meb (λ c=>by subst c;exact h1 hy)).2 (hs y (Vh _ hy)));rw[Vd];omega
namespace WI
variable {w:Wld}
def splen (h:WI w):w.2.2.2.2.2.length≤200:=by
 have hn:w.2.2.2.2.2.Nodup:=h.sps.imp (λ {a b} hab e=>by subst e;rw[Jc]at hab;cases hab)
 have:=Xt _ (w.2.2.2.2.1.map (·.1)) hn (λ s hs=>by
  obtain⟨x,hx,e⟩:=h.spw s hs
  exact Zb.2 ⟨x,hx,e⟩)
 rw[Wd]at this;have:=h.wlen;omega
def nlen (h:WI w):w.2.2.1.length=w.1.length:=by
 have:=congrArg length h.ids;rwa [Wd,Wd]at this
def dlen (h:WI w):1≤w.1.length∧w.1.length≤12:=(Dz.1 (Bh.1 h.ring).1).2.2
def ns (h:WI w):NS w.2.2.1:=⟨by have:=h.nlen;have:=h.dlen;omega,λ n hn=>(h.nodes n hn).1⟩
def win (h:WI w):WIn w:=by
 have h1:=h.nlen;have h2:=h.dlen;have h3:=h.wlen;have h4:=h.splen;refine⟨N1 h.ring,by omega,⟨by omega,λ n hn=>Aya (h.nodes n hn).1⟩,⟨by omega,λ x hx=>K6 (h.wok x hx).1⟩,by omega,λ s hs=>?_⟩;obtain⟨x,hx,e⟩:=h.spw s hs;rw[← e];exact K6 (h.wok x hx).1
def other (h:WI w) {ns:List Nod} (hn:NR w.2.2.2.2.1 w.2.2.2.2.2 w.2.2.1 ns):WI (wN w ns):=
 ⟨h.ring,hn.2.1.trans h.ids,hn.1,h.clk,h.wlen,h.wok,h.wge,h.asc,λ x hx hk hs=>hn.2.2 _ hs _ (h.kept x hx hk hs),h.sps,h.spw⟩
def other' (h:WI w) {r:Bool×Wld} (hr:∃ ns,r.2=wN w ns∧NR w.2.2.2.2.1 w.2.2.2.2.2 w.2.2.1 ns):WI r.2:=by
 obtain⟨ns,e,hn⟩:=hr;rw[e];exact h.other hn
def write (h:WI w) {s:ByteArray} {f:Fil} {rc:List Int} (hs:Bi s=true) (hf:Hf f=true) (hb:An f.2.2) (hc:sle w.2.2.2.1 f.1=true) (hl:w.2.2.2.2.1.length<200):WI (Dka (w.1,w.2.1,w.2.2.1,f.1,w.2.2.2.2) s f rc).2:=by
 obtain⟨g1,g2,g3⟩:=Hvb (ws:=w.2.2.2.2.1++[(s,f,decide ((wrN (w.1,w.2.1,w.2.2.1,f.1,w.2.2.2.2) s f rc).2.2≥quo w.2.1.1))]) (sp:=w.2.2.2.2.2) (w:=(w.1,w.2.1,w.2.2.1,f.1,w.2.2.2.2)) (rc:=rc) (s:=s) (f:=f)
  (λ x hx=>by
   rcases Vo.1 hx with hx|hx
   ·exact h.wok x hx
   ·rw[Vu.1 hx];exact⟨hs,hf,hb⟩)
  ⟨_,Vo.2 (.inr (Vu.2 rfl)),rfl,rfl⟩
  (λ n hn=>(h.nodes n hn).mono (λ x hx=>Vo.2 (.inl hx)) (λ _ h=>h))
 unfold Dka;generalize wrN (w.1,w.2.1,w.2.2.1,f.1,w.2.2.2.2) s f rc=a at *
 have hq:quo w.2.1.1≥1:=by
  have:=(Bh.1 h.ring).2.1;unfold quo;omega
 exact {
  ring:=h.ring
  ids:=g1.2.1.trans h.ids
  nodes:=g1.1
  clk:=(Lu.1 hf).1
  wlen:=by show (w.2.2.2.2.1++[_]).length≤200;rw[Ve];simp only[Vd,Vk];omega
  wok:=λ x hx=>by
   rcases Vo.1 hx with hx|hx
   ·exact h.wok x hx
   ·rw[Vu.1 hx];exact⟨hs,hf,hb⟩
  wge:=λ x hx=>by
   rcases Vo.1 hx with hx|hx
   ·exact Dla (Xq hc) (h.wge x hx)
   ·rw[Vu.1 hx];exact N0 _
  asc:=Zh.2 ⟨h.asc,Lwb _ _,λ x hx y hy=>by
   rw[Vu.1 hy];have:=h.wge x hx;cases hxy:sle x.2.1.1 f.1
   case true=>rfl
   have:=Dla this hxy;rw[this]at hc
   cases hc⟩
  kept:=λ x hx hk hsp=>by
   rcases Vo.1 hx with hx|hx
   ·exact g1.2.2 _ hsp _ (h.kept x hx hk hsp)
   ·rw[Vu.1 hx]at hk hsp ⊢;have hk':a.2.2≥quo w.2.1.1:=of_decide_eq_true hk;exact g2 hsp (by omega)
  sps:=h.sps
  spw:=λ s hs=>by
   obtain⟨x,hx,e⟩:=h.spw s hs
   exact⟨x,Vo.2 (.inl hx),e⟩ }
def ask (h:WI w) {s:ByteArray} {f:Fil} {t:Int} {rc:List Int} (hb:An f.2.2) (hd:f.2.1=true→f.2.2=[]):WI (ask w s f t rc).2:=by
 unfold Vf.ask;cases hs:Bi s
 ·exact h
 rw[Yw,cond_false]
 by_cases hl:(f.2.2.length:Int) > 200
 ·rw[decide_eq_true hl];exact h
 ·rw[decide_eq_false hl,cond_false];cases inR t 0 1000000000
  ·exact h
  rw[Yw,cond_false];cases hw:(w.2.2.2.2.1.length:Int)==200
  case true=>exact h
  rw[cond_false];have hw':=beq_eq_false_iff_ne.1 hw;have hwl:=h.wlen;obtain⟨n1,n2⟩:=Hha h.clk t 0;cases he:(P3 w.2.2.2.1 t 0).1==w.2.2.2.1.1&&((P3 w.2.2.2.1 t 0).2.1==w.2.2.2.1.2.1&&(P3 w.2.2.2.1 t 0).2.2==w.2.2.2.1.2.2)
  case true=>exact h
  rw[cond_false]
  have hlt:sle w.2.2.2.1 (P3 w.2.2.2.1 t 0)=true:=by
   rcases n2 with n2|n2
   ·rw[n2,beq_self_eq_true,beq_self_eq_true,beq_self_eq_true]at he;cases he
   ·exact n2
  exact h.write (f:=(P3 w.2.2.2.1 t 0,f.2)) hs (Lu.2 ⟨n1,by show f.2.2.length≤200;omega,hd⟩) hb hlt (by omega)
def rot (h:WI w) {i:Nat} (hi:i<w.2.2.1.length) {s:ByteArray} {b:Int}:WI (F3b w i s b).2:=by
 have hni:=h.nodes _ (A3 (d:=Ac) hi);unfold F3b;cases hr:(Mqa (w.2.2.1.getD i Ac) s b).2
 ·exact h
 have hg:=Ccb (s:=s) (b:=b) hni.1;unfold Mqa at hr hg ⊢;cases hc:Po (w.2.2.1.getD i Ac)&&((lkD (w.2.2.1.getD i Ac).2.1 s).2==0&&(Kua (w.2.2.1.getD i Ac).2.1 s b).2)
 ·rw[hc]at hr;cases hr
 rw[hc]at hg;rw[Va,Va,beq_iff_eq]at hc;obtain⟨d1,d2,f,hf⟩:=Hsb h.wok hni.1.g hni.2.1 hc.2.1 hc.2.2 (spl w.2.2.2.2.2 s) (λ t=>Hja);have hsub:∀ t∈w.2.2.2.2.2,t∈spl w.2.2.2.2.2 s:=λ t ht=>Hja.2 (.inr ht)
 have hN:NR w.2.2.2.2.1 (spl w.2.2.2.2.2 s) w.2.2.1 (w.2.2.1.set i ((w.2.2.1.getD i Ac).1,(Kua (w.2.2.1.getD i Ac).2.1 s b).1,(w.2.2.1.getD i Ac).2.2)):=
  (NR.refl (λ n hn=>(h.nodes n hn).mono (λ _ h=>h) hsub)).set hi ⟨hg,d1,hni.2.2⟩ rfl d2
 exact {
  ring:=h.ring
  ids:=hN.2.1.trans h.ids
  nodes:=hN.1
  clk:=h.clk
  wlen:=h.wlen
  wok:=h.wok
  wge:=h.wge
  asc:=h.asc
  kept:=λ x hx hk hs=>hN.2.2 _ hs _ (h.kept x hx hk (λ c=>hs (hsub _ c)))
  sps:=Fea h.sps
  spw:=λ t ht=>by
   rcases Hja.1 ht with rfl|ht
   ·obtain⟨x,hx,e,_⟩:=hf;exact⟨x,hx,e⟩
   ·exact h.spw t ht }
def node (h:WI w) {i:Nat} (hi:i<w.2.2.1.length) {e:Evt}:WI (E9a w e i).2:=by
 have hni:=h.nodes _ (A3 (d:=Ac) hi);unfold E9a;cases e.1==3
 case true=>exact h.other' (Hka h.wok h.nodes hi h.ring h.ids)
 cases e.1==4
 case true=>exact h.other' (Ppa h.nodes hi)
 cases e.1==5
 case true=>exact h.other' (Pqa h.nodes hi)
 cases e.1==6 with
 |true=>
  obtain⟨c1,c2⟩:=Poa h.wok hni.1.g hni.2.1;exact h.other ((NR.refl h.nodes).set hi ⟨Pka hni.1,c1,hni.2.2⟩ rfl c2)
 |false=>
  cases e.1==7 with
  |true=>exact h.other ((NR.refl h.nodes).set hi ⟨Hob hni.1,F5b hni.1.g hni.2.1 _,hni.2.2⟩ rfl (F6b hni.1.g hni.2.1 _))
  |false=>exact h.rot hi
def weigh (h:WI w) {i t:Int}:WI (Uh w i t).2:=by
 unfold Uh;cases h1:inR i 0 ((w.1.length:Int)-1)
 ·exact h
 cases h2:inR t 1 1000
 ·exact h
 obtain⟨i0,i1⟩:=Dt.1 h1;obtain⟨w0,w1⟩:=Dt.1 h2;exact⟨(Xm (Ua h.ring (by omega) w0 w1)).1,h.ids.trans (H3a _ _ _).symm,h.nodes,h.clk,h.wlen,h.wok,h.wge,h.asc,h.kept,h.sps,h.spw⟩
def ev (h:WI w) {e:Evt} (hb:An e.2.2.2.1):WI (doW w e).2:=by
 have ae:∀ {q:Int×Wld},WI q.2→WI (Xwa q).2:=λ {q} hq=>by
  unfold Xwa
  cases q.1 != 2<;>exact hq
 unfold doW;cases e.1==1
 case true=>exact ae (h.ask hb (λ c=>by cases c))
 cases e.1==2
 case true=>exact ae (h.ask Pn (λ _=>rfl))
 cases e.1==3||(e.1==4||(e.1==5||(e.1==6||(e.1==7||e.1==8)))) with
 |true=>
  cases hi:inR e.2.1 0 ((w.2.2.1.length:Int)-1)
  ·exact h
  have:=Dt.1 hi;exact h.node (by omega)
 |false=>
  cases e.1==9 with
  |true=>exact h.weigh
  |false=>exact h
def X3a {ws:List Wri} (hw:Ffa ws) {s:ByteArray} {f:Fil} (hf:An f.2.2):Wla ws s f=true↔IsW ws s f:=by
 unfold Wla IsW;rw[K9b];constructor
 ·rintro⟨x,hx,h⟩;rw[Va]at h;exact⟨x,hx,Db.1 h.1,(Dja (hw x hx).2.2 hf).1 h.2⟩
 ·rintro⟨x,hx,h1,h2⟩;exact⟨x,hx,by rw[Va];exact⟨Db.2 h1,(Dja (hw x hx).2.2 hf).2 h2⟩⟩
def rightB (h:WI w):A7a w=true:=by
 have h2:=h.dlen;have hl:=h.nlen;unfold A7a
 have a1:Us w.1 w.2.2.1=true:=by
  unfold Us;rw[show ((w.2.2.1.length:Int)==(w.1.length:Int))=true by rw[beq_iff_eq];omega,Vw,Wj];intro j hj;have hj':=Zc.1 hj;rw[Va,beq_iff_eq];refine⟨?_,(h.nodes _ (A3 (d:=Ac) hj')).1.1⟩
  have e1:(w.2.2.1.getD j Ac).1=(w.2.2.1.map (·.1)).getD j 0:=by
   rw[Vb,Vb,K7b,Vj hj'];rfl
  have e2:(w.1.getD j P4).1=(w.1.map (·.1)).getD j 0:=by
   rw[Vb,Vb,K7b,Vj (by omega)];rfl
  rw[e1,e2,h.ids]
 have a2:Asb w.2.2.2.1 w.2.2.2.2.1=true:=by
  unfold Asb;rw[Va,Wj];refine⟨λ x hx=>?_,decide_eq_true (by have:=h.wlen;omega)⟩;unfold Mwa;rw[(h.wok x hx).1,(h.wok x hx).2.1,h.wge x hx];rfl
 have a3:Xo w.2.2.2.2.2=true:=by
  unfold Xo;rw[Wj];intro j hj;have hj':=Zc.1 hj;rw[Va,Zy];refine⟨?_,?_⟩
  ·obtain⟨x,hx,e⟩:=h.spw _ (A3 (d:=Oz) hj');rw[← e];exact(h.wok x hx).1
  ·by_cases h0:j=0
   ·exact .inl (decide_eq_true h0)
   ·right;have:=Zj.1 h.sps (j-1) j (by omega) hj' (by omega);rwa [Vb,Vb,Vj hj',Vj (by omega)]
 rw[h.ring,a1,h.clk,a2,a3];rfl
def writtenT (h:WI w):Ud w=true:=by
 unfold Ud;rw[Wj];intro j hj;obtain⟨hg,hd,_⟩:=h.nodes _ (A3 (d:=Ac) (Zc.1 hj));rw[Va,Wj,Wj]
 have one:∀ e:Nmd,EO w.2.2.2.2.1 w.2.2.2.2.2 e.1 e.2→Wna w.2.2.2.2.1 e=true:=by
  intro e he;unfold Wna
  cases hf:O6 e.2 with
  |none=>rfl
  |some f=>exact(X3a h.wok (Mka hf).2.1).2 (he.get h.wok hf).1
 exact⟨λ e he=>one e ((hd e.1).1 e.2 (D3a (Ma hg.g.1) he)),λ e he=>one e ((hd e.1).2.1 e.2 (D3a (Pt hg.g.1) he))⟩
def listedT (h:WI w):A9a w=true:=by
 unfold A9a;rw[Wj];intro j hj;obtain⟨_,_,h1,h2⟩:=h.nodes _ (A3 (d:=Ac) (Zc.1 hj));rw[Va,Wj,Wj];exact⟨h1,h2⟩
def keptT (h:WI w):Roa w=true:=by
 unfold Roa;rw[Wj];intro x hx;unfold Woa;cases hk:x.2.2
 ·rfl
 cases hs:B3a w.2.2.2.2.2 x.1
 case true=>rfl
 obtain⟨i,hi,hh⟩:=h.kept x hx hk (λ c=>by rw[Qu.2 c]at hs;cases hs);rw[K9b.2 ⟨_,A3 hi,X0a.2 hh⟩];rfl
def stampedT (h:WI w):Ue w=true:=by
 unfold Ue;rw[Wj];intro j hj;have hj':=Zc.1 hj;rw[Va,Zy,Vx];refine⟨h.wge _ (A3 hj'),?_⟩
 by_cases h0:j=0
 ·exact .inl (decide_eq_true h0)
 ·right;have:=Zj.1 h.asc (j-1) j (by omega) hj' (by omega);rwa [Vb,Vb,Vj hj',Vj (by omega)]
def safe (h:WI w):Axb w=0:=by
 unfold Axb;rw[h.rightB,h.writtenT,h.listedT,h.keptT,h.stampedT];rfl
end WI

def Jjb (l:List Dev) (last:Int):Prop:=l.Pairwise (λ a b=>a.1<b.1)∧∀ d∈l,(0≤d.1∧d.1≤last)∧(0≤d.2.1∧d.2.1≤20)∧1≤d.2.2∧d.2.2≤1000
def X4a (z:Int) (hz:1≤z∧z≤20):∀ (n:Nat) (i:Int) (l:List Dev) (last:Int) (c:Cur),i=n→n≤6→Nk c→Jjb l last→0≤last→last+2*n≤12→l.length+n≤6→
  Tot (λ k=>I9 k l z last i c) (λ r=>(∃ last,Jjb r.1 last∧last≤20)∧r.1.length=l.length+n∧Nk r.2):=by
 intro n
 induction n with
 |zero=>
  rintro i l last c rfl _ hc h h0 h1 _;refine Tot.succ ?_;simp (disch:=omega) only [I9,dF];exact Jrb ⟨⟨last,h,by omega⟩,rfl,hc⟩
 |succ n ih=>
  rintro i l last c rfl hn hc h h0 h1 hl;refine Tot.succ ?_;simp (disch:=omega) only [I9,dT];obtain⟨x,c1,e1,hx,k1⟩:=S8 c hc [1,1,2] (by decide) (by decide);obtain⟨y,c2,e2,y0,y1,_,k2⟩:=Mc c1 k1 z (by omega);obtain⟨v,c3,e3,hv,k3⟩:=S8 c2 k2 [1,1,1,2,10,100] (by decide) (by decide);have y1:=y1 (by omega)
  have hx':1≤x∧x≤2:=by
   simp only[Vl,Kab,or_false]at hx;omega
  have hv':1≤v∧v≤1000:=by
   simp only[Vl,Kab,or_false]at hv;omega
  refine K3b (K5b (Q:=λ r=>r=(x,c1)) e1 rfl) ?_;refine K3b (K5b (Q:=λ r=>r=(y,c2)) e2 rfl) ?_;refine K3b (K5b (Q:=λ r=>r=(v,c3)) e3 rfl) ?_;simp (disch:=omega) only [w64];refine Jzb (by simp only[Vd,Vk];omega) ?_;refine(ih _ (l++[(last+x,y,v)]) (last+x) c3 (by omega) (by omega) k3 ⟨?_,?_⟩ (by omega) (by omega) (by rw[Ve];simp only[Vd,Vk];omega)).mono ?_
  ·refine Zh.2 ⟨h.1,Lwb _ _,λ a ha b hb=>?_⟩;rw[Vu.1 hb];have:=(h.2 a ha).1.2;show a.1<last+x;omega
  ·intro d hd;rcases Vo.1 hd with hd|hd
   ·obtain⟨⟨a1,a2⟩,a3⟩:=h.2 d hd;exact⟨⟨a1,by omega⟩,a3⟩
   ·rw[Vu.1 hd];exact⟨⟨by show 0≤last+x;omega,Keb _⟩,⟨y0,by show y≤20;omega⟩,hv'⟩
  ·rintro r ⟨g1,g2,g3⟩;refine⟨g1,?_,g3⟩;rw[g2,Ve];simp only[Vd,Vk];omega
def Rra (c:Cur) (hc:Nk c):Tot (λ k=>Hp k c) (λ r=>N6 r.1=true∧(2≤r.1.length∧r.1.length≤6)∧Nk r.2):=by
 unfold Hp;obtain⟨x,c1,e1,x0,x1,_,k1⟩:=Mc c hc 4 (by decide);obtain⟨y,c2,e2,y0,y1,_,k2⟩:=Mc c1 k1 5 (by decide);have x1:=x1 (by decide);have y1:=y1 (by decide);refine K3b (K5b (Q:=λ r=>r=(x,c1)) e1 rfl) ?_;refine K3b (K5b (Q:=λ r=>r=(y,c2)) e2 rfl) ?_;simp (disch:=omega) only [w64];refine Jsb (X4a (1+x) (by omega) (2+y).toNat (2+y) [] 0 c2 (by omega) (by omega) k2 ⟨List.Pairwise.nil,λ d hd=>(nomatch hd)⟩ (Int.le_refl _) (by omega) (by simp only[List.length_nil];omega)) ?_;rintro r ⟨⟨last,g1,g2⟩,g3,g4⟩;rw[List.length_nil]at g3;exact Jrb ⟨Dz.2 ⟨g1.1,λ d hd=>Og.2 ⟨⟨(g1.2 d hd).1.1,by have:=(g1.2 d hd).1.2;omega⟩,(g1.2 d hd).2⟩,by dsimp only;omega,by dsimp only;omega⟩,⟨by dsimp only;omega,by dsimp only;omega⟩,g4⟩
abbrev Rsa:Wld:=(([]:List Dev),((0:Int),([]:List (List Int))),([]:List Nod),((0:Int),((0:Int),(0:Int))),([]:List Wri),([]:List ByteArray))
def Cmb (d:Dev):Nod:=(d.1,([],[]),[],[])
def Cnb (l:List Dev) (parts reps:Int):Wld:=(l,(build l parts reps).1,l.map Cmb,(0,0,0),[],[])
def F9b {ws:List Wri} {sp:List ByteArray} {l:List Dev} (h:N6 l=true) {d:Dev} (hd:d∈l):NI ws sp (Cmb d):=by
 obtain⟨⟨i0,i1⟩,_⟩:=Og.1 ((Dz.1 h).2.1 d hd);refine⟨⟨Cb.2 ⟨(λ r hr=>nomatch hr),⟨i0,i1⟩,dg0.1,Aaa,Vq _⟩,dg0.2⟩,λ s=>⟨λ b hb=>?_,λ b hb=>?_,λ _ b f hb=>?_⟩,(λ r hr=>nomatch hr),(λ r hr=>nomatch hr)⟩
 ·rw[show gt (Cmb d).2.1.1 s=none from rfl]at hb;cases hb
 ·rw[show gt (Cmb d).2.1.2 s=none from rfl]at hb;cases hb
 ·rw[show gt (Cmb d).2.1.2 s=none from rfl]at hb;cases hb
def Fab {l:List Dev} {parts reps:Int} (hb:(build l parts reps).2=true):WI (Cnb l parts reps):=by
 obtain⟨h1,h2,_,_⟩:=Pda hb
 exact {
  ring:=h2
  ids:=by show (l.map Cmb).map (·.1)=_;rw[L8b];rfl
  nodes:=λ n hn=>by
   obtain⟨d,hd,rfl⟩:=Zb.1 hn;exact F9b h1 hd
  clk:=rfl
  wlen:=Vq _
  wok:=λ x hx=>nomatch hx
  wge:=λ x hx=>nomatch hx
  asc:=List.Pairwise.nil
  kept:=λ x hx=>nomatch hx
  sps:=List.Pairwise.nil
  spw:=λ s hs=>nomatch hs }
def Kea (l:List Dev) (parts reps:Int) (hb:(build l parts reps).2=true):Tot (λ k=>Cp k l parts reps) (λ r=>r=Cnb l parts reps):=by
 obtain⟨h1,_,_,_⟩:=Pda hb;have h12:=(Dz.1 h1).2.2.2;unfold Cp;refine K3b (W2a l parts reps (by omega)) ?_;refine Jzb (by rw[Vk];omega) (Jtb (by rw[hb];rfl) ?_);rw[Wa];refine Jsb (Q:=λ r=>r=(Rsa,Cnb l parts reps)) ?_ (by rintro r rfl;exact Jrb rfl);refine K0b (L:=λ k i (s:List Nod)=>Fn k l i Rsa (l,(build l parts reps).1,s,(0,0,0),[],[])) (Q:=λ r=>r=(Rsa,Cnb l parts reps)) l.length (λ j s=>s=(l.take j).map Cmb) ?_ ?_ 0 [] (Vq _) rfl
 ·rintro s rfl;simp (disch:=omega) only [Fn,dF];exact Jrb (by rw[Yp];rfl)
 ·rintro j s hj rfl next;have hd:=A3 (d:=P4) hj;obtain⟨d,ed⟩:∃ d:Dev,l.getD j P4=d:=⟨_,rfl⟩;rw[ed]at hd;have e0:l.getD j ((0:Int),((0:Int),(0:Int)))=d:=ed
  have e1:l[j]=d:=by rw[← ed,Vb,Vj hj];rfl
  have hid:=(Og.1 ((Dz.1 h1).2.1 d hd)).1;simp (disch:=omega) only [Fn,dT,Vc,w64,e0,Msa,Vp]
  have hl:((l.take j).map Cmb).length=j:=by rw[Wd,Vt];omega
  rw[Dt.2 hid,cond_true];refine Jzb (by rw[hl];simp only[Vd,Vk];omega) (next _ ?_);rw[Wi hj,Kmb,e1];rfl
def WD (w:Wld):Prop:=WI w∧∀ x∈w.2.2.2.2.1,x.1∈Mz
def N4a (c:Cur) (hc:Nk c):Tot (λ k=>Lz k c) (λ r=>(∃ l p n,(build l p n).2=true∧r.1=Cnb l p n)∧Nk r.2):=by
 unfold Lz;refine Jsb (Rra c hc) ?_;rintro⟨l,c1⟩ ⟨hl,hn,k1⟩;dsimp only at hl hn k1 ⊢;obtain⟨x,c2,e2,hx,k2⟩:=S8 c1 k1 [3,2,3,1] (by decide) (by decide);obtain⟨y,c3,e3,hy,k3⟩:=S8 c2 k2 [4,2,8] (by decide) (by decide)
 have hx':1≤x∧x≤3:=by
  simp only[Vl,Kab,or_false]at hx;omega
 have hy':1≤y∧y≤8:=by
  simp only[Vl,Kab,or_false]at hy;omega
 have one:∀ n:Int,1≤n→n≤5→n≤(l.length:Int)→Tot (λ k=>(Ca c2 [4,2,8]).bind λ r3=>(Cp k l r3.1 n).bind λ r4=>some (r4,r3.2)) (λ r=>(∃ l p n,(build l p n).2=true∧r.1=Cnb l p n)∧Nk r.2):=by
  intro n n0 n5 nl
  have hb:(build l y n).2=true:=by
   unfold build;rw[hl,Dt.2 (show 1≤y∧y≤64 by omega),Dt.2 (show 1≤n∧n≤5 by omega),decide_eq_false (show ¬ n > (l.length:Int) by omega)];rfl
  refine K3b (K5b (Q:=λ r=>r=(y,c3)) e3 rfl) ?_;refine K3b (Kea l y n hb) ?_;exact Jrb ⟨⟨l,y,n,hb,rfl⟩,k3⟩
 refine K3b (K5b (Q:=λ r=>r=(x,c2)) e2 rfl) ?_;exact Jyb (λ h=>one (l.length:Int) (by omega) (by dsimp only at h;omega) (Int.le_refl _)) (λ h=>one x (by omega) (by omega) (by dsimp only at h;omega))
def Kfa (c:Cur) (hc:Nk c):Tot (λ k=>Fa k c) (λ r=>r.1.length=6∧Nk r.2):=by
 unfold Fa;refine Jsb (Q:=λ r=>r.1.length=6∧Nk r.2) ?_ (λ r h=>Jrb h);refine K0b (L:=λ k i (s:List Int×Cur)=>Gw k s.1 i s.2) (Q:=λ r=>r.1.length=6∧Nk r.2) 6 (λ j s=>s.1.length=j∧Nk s.2) ?_ ?_ 0 ([],c) (Vq _) ⟨rfl,hc⟩
 ·rintro s ⟨h1,h2⟩;simp (disch:=omega) only [Gw,dF];exact Jrb ⟨h1,h2⟩
 ·rintro j s hj ⟨h1,h2⟩ next;obtain⟨x,c1,e1,_,k1⟩:=S8 s.2 h2 [1,1,1,1,0,2,3] (by decide) (by decide);simp (disch:=omega) only [Gw,dT,w64];refine K3b (K5b (Q:=λ r=>r=(x,c1)) e1 rfl) ?_;exact Jzb (by simp only[Vd,Vk];omega) (next (s.1++[x],c1) ⟨by rw[Ve,h1];rfl,k1⟩)
def N5a (c:Cur) (hc:Nk c):Tot (λ k=>Fa k c) (λ r=>r.1.length≤6∧Nk r.2):=(Kfa c hc).mono λ r h=>⟨by have:=h.1;omega,h.2⟩
def Cob (r:Evt×Cur×Wld) (w:Wld):Prop:=Ilb r.1∧An r.1.2.2.2.1∧Nk r.2.1∧r.2.2=w
def Fbb {d:Dsk} (hd:DIn d) (hb:DB d):Tot (λ k=>Hm k d) (λ r=>r.length≤2000000∧∀ t∈r,Ni t):=by
 refine(Amb d hd hb).mono ?_;rintro r rfl;obtain⟨a1,a2⟩:=Hlb d.1 hd.1.2.1 d.1 0 [] (λ x hx=>hx) (λ y hy=>nomatch hy);have:=hd.2.1;rw[Vk]at a1;exact⟨by unfold Rla;omega,a2⟩
def S8a (e:Evt):Prop:=e.1=1∨e.1=2→e.2.2.1∈Mz
def Hma (c:Cur) (w:Wld) (hc:Nk c) (hn1:1≤w.2.2.1.length) (hnl:w.2.2.1.length≤2000000) (hnn:∀ n∈w.2.2.1,NIn n):Tot (λ k=>Fv k c w w) (λ r=>Cob r w∧S8a r.1):=by
 unfold Fv;obtain⟨i,c1,e1,i0,i1,_,k1⟩:=Mc c hc (w.2.2.1.length:Int) (by omega);have i1:=i1 (by omega);obtain⟨s,c2,e2,hs,k2⟩:=Uua c1 k1;have hsn:=hs;have hs:=(Mba s hs).1;refine K3b (K5b (Q:=λ r=>r=(i,c1)) e1 rfl) ?_;refine K3b (K5b (Q:=λ r=>r=(s,c2)) e2 rfl) ?_;refine Jsb (N5a c2 k2) ?_;rintro⟨rc,c3⟩ ⟨hrc,k3⟩;dsimp only at hrc k3 ⊢;obtain⟨n,c4,e4,_,_,_,k4⟩:=Mc c3 k3 20 (by decide);refine K3b (K5b (Q:=λ r=>r=(n,c4)) e4 rfl) ?_;dsimp only;have ok:∀ (kd:Int) (s:ByteArray) (l:List Int) (x:Int) (c:Cur),Ni s→An l→l.length≤2000000 → -9223372036854775808≤x→x≤9223372036854775807→Nk c→(kd=1∨kd=2→s∈Mz)→Cob ((kd,i,s,l,x,rc),c,w) w∧S8a (kd,i,s,l,x,rc):=λ kd s l x c h1 h2 h3 h4 h5 h6 h7=>⟨⟨⟨h1,by show l.length≤_;omega,⟨h4,h5⟩,by show rc.length≤_;omega⟩,h2,h6,rfl⟩,h7⟩;have plain:∀ kd:Int,Tot (λ _=>some ((kd,i,s,([]:List Int),(0:Int),rc),c4,w)) (λ r=>Cob r w∧S8a r.1):=λ kd=>Jrb (ok kd s [] 0 c4 hs Pn (Nat.zero_le _) (by decide) (by decide) k4 λ _=>hsn)
 have put:Tot (λ k=>(A8 c4 2).bind λ r5=>(Gz k r5.2).bind λ r6=>some ((1,i,s,r6.1,wrap .i64 (w.2.2.2.1.1+r5.1),rc),r6.2,w)) (λ r=>Cob r w∧S8a r.1):=by
  obtain⟨x,c5,e5,x0,x1,_,k5⟩:=Mc c4 k4 2 (by decide);have x1:=x1 (by decide);refine K3b (K5b (Q:=λ r=>r=(x,c5)) e5 rfl) ?_;refine Jsb (Qwa c5 k5) ?_;rintro⟨l,c6⟩ ⟨g1,g2,g3⟩;dsimp only at g1 g2 g3 ⊢;have hw:=Eya (w.2.2.2.1.1+x);exact Jrb (ok 1 s l _ c6 hs g2 (by omega) hw.1 hw.2 g1 λ _=>hsn)
 have drop:Tot (λ k=>(A8 c4 2).bind λ r17=>some ((2,i,s,([]:List Int),wrap .i64 (w.2.2.2.1.1+r17.1),rc),r17.2,w)) (λ r=>Cob r w∧S8a r.1):=by
  obtain⟨x,c5,e5,x0,x1,_,k5⟩:=Mc c4 k4 2 (by decide);have x1:=x1 (by decide);refine K3b (K5b (Q:=λ r=>r=(x,c5)) e5 rfl) ?_;have hw:=Eya (w.2.2.2.1.1+x);exact Jrb (ok 2 s [] _ c5 hs Pn (Vq _) hw.1 hw.2 k5 λ _=>hsn)
 have rot:Tot (λ k=>(A8 c4 60).bind λ r31=>some ((8,i,s,([]:List Int),r31.1,rc),r31.2,w)) (λ r=>Cob r w∧S8a r.1):=by
  obtain⟨x,c5,e5,x0,x1,_,k5⟩:=Mc c4 k4 60 (by decide);have x1:=x1 (by decide);refine K3b (K5b (Q:=λ r=>r=(x,c5)) e5 rfl) ?_;exact Jrb (ok 8 s [] x c5 hs Pn (Vq _) (by omega) (by omega) k5 λ _=>hsn)
 have ring:Tot (λ k=>(Ca c4 [1,2,10,1000]).bind λ r33=>some ((9,i,s,([]:List Int),r33.1,rc),r33.2,w)) (λ r=>Cob r w∧S8a r.1):=by
  obtain⟨x,c5,e5,hx,k5⟩:=S8 c4 k4 [1,2,10,1000] (by decide) (by decide);refine K3b (K5b (Q:=λ r=>r=(x,c5)) e5 rfl) ?_
  have hx':1≤x∧x≤1000:=by
   simp only[Vl,Kab,or_false]at hx;omega
  exact Jrb (ok 9 s [] x c5 hs Pn (Vq _) (by omega) (by omega) k5 λ _=>hsn)
 have push:Tot (λ k=>cond (decide ((0:Int)≤i)) (cond (decide (i<(length w.2.2.1:Int))) ((Hm k (getD w.2.2.1 (toNat i) ((0:Int),(([],[]),([],[])))).2.1).bind λ r20=>cond (decide ((length r20:Int) > 0)) ((A8 c4 (length r20:Int)).bind λ r21=>cond (decide ((0:Int)≤r21.1)) (cond (decide (r21.1<(length r20:Int))) (some ((3,i,(getD r20 (toNat r21.1) (⟨#[]⟩:ByteArray)),([]:List Int),0,rc),r21.2,w)) none) none) (some ((3,i,s,([]:List Int),0,rc),c4,w))) none) none) (λ r=>Cob r w∧S8a r.1):=by
  refine Jvb i0 (Jvb i1 ?_);have hm:=hnn _ (A3 (d:=Ac) (show i.toNat<w.2.2.1.length by omega));refine Jsb (Fbb hm.1.1 hm.1.2) ?_;rintro l ⟨hl,hl'⟩;refine Jyb (λ h0=>?_) (λ h0=>plain 3);obtain⟨x,c5,e5,x0,x1,_,k5⟩:=Mc c4 k4 (l.length:Int) (by omega);have x1:=x1 (by omega);refine K3b (K5b (Q:=λ r=>r=(x,c5)) e5 rfl) ?_;exact Jvb x0 (Jvb x1 (Jrb (ok 3 _ [] 0 c5 (hl' _ (A3 (d:=Oz) (show x.toNat<l.length by omega))) Pn (Vq _) (by decide) (by decide) k5 (by omega))))
 refine Jxb (λ _=>put) (λ _=>?_);refine Jxb (λ _=>put) (λ _=>?_);refine Jxb (λ _=>put) (λ _=>?_);refine Jxb (λ _=>put) (λ _=>?_);refine Jxb (λ _=>put) (λ _=>?_);refine Jxb (λ _=>put) (λ _=>?_);refine Jxb (λ _=>drop) (λ _=>?_);refine Jxb (λ _=>drop) (λ _=>?_);refine Jxb (λ _=>push) (λ _=>?_);refine Jxb (λ _=>push) (λ _=>?_);refine Jxb (λ _=>push) (λ _=>?_);refine Jxb (λ _=>plain 5) (λ _=>?_);refine Jxb (λ _=>plain 5) (λ _=>?_);refine Jxb (λ _=>plain 4) (λ _=>?_);refine Jxb (λ _=>plain 6) (λ _=>?_);refine Jxb (λ _=>plain 7) (λ _=>?_);refine Jxb (λ _=>plain 7) (λ _=>?_);refine Jxb (λ _=>rot) (λ _=>?_);exact Jxb (λ _=>rot) (λ _=>ring)
def Fcb {w:Wld} (h:WI w) {e:Evt} (he:Ilb e):Tot (λ k=>K8 k w e) (λ r=>r=doW w e):=
 Hpb w e he h.ring h.ns h.clk (by have:=h.wlen;omega) (by have:=h.splen;omega)
def B2b (w:Wld) (e:Evt) (i:Nat):(E9a w e i).2.2.2.2.2.1=w.2.2.2.2.1:=by
 unfold E9a Sj Sn Ug F3b;cases e.1==3
 case true=>cases (lkD (w.2.2.1.getD i Ac).2.1 e.2.2.1).2 != 0<;>rfl
 cases e.1==4
 case true=>cases ((w.2.2.1.getD i Ac).2.2.1.length:Int)==0<;>rfl
 cases e.1==5
 case true=>cases ((w.2.2.1.getD i Ac).2.2.2.length:Int)==0<;>rfl
 cases e.1==6
 case true=>rfl
 cases e.1==7
 case true=>rfl
 rw[cond_false,cond_false,cond_false,cond_false,cond_false]
 cases (Mqa (w.2.2.1.getD i Ac) e.2.2.1 e.2.2.2.2.1).2<;>rfl
def Cpb (w:Wld) (s:ByteArray) (f:Fil) (t:Int) (rc:List Int):∀ x∈(ask w s f t rc).2.2.2.2.2.1,x∈w.2.2.2.2.1∨x.1=s:=by
 intro x;unfold ask;cases !(Bi s)
 case true=>exact .inl
 cases decide ((f.2.2.length:Int) > 200)
 case true=>exact .inl
 cases !(inR t 0 1000000000)
 case true=>exact .inl
 cases (w.2.2.2.2.1.length:Int)==200
 case true=>exact .inl
 cases (P3 w.2.2.2.1 t 0).1==w.2.2.2.1.1&&((P3 w.2.2.2.1 t 0).2.1==w.2.2.2.1.2.1&&(P3 w.2.2.2.1 t 0).2.2==w.2.2.2.1.2.2)
 case true=>exact .inl
 intro hx;rcases Vo.1 hx with h|h
 ·exact .inl h
 ·rw[Vu.1 h];exact .inr rfl
def WD.ev {w:Wld} (h:WD w) {e:Evt} (hb:An e.2.2.2.1) (hn:S8a e):WD (doW w e).2:=by
 refine⟨h.1.ev hb,λ x=>?_⟩
 have ae:∀ q:Int×Wld,(Xwa q).2=q.2:=λ q=>by
  unfold Xwa
  cases q.1 != 2<;>rfl
 unfold doW
 cases h1:e.1==1 with
 |true=>
  rw[cond_true,ae];exact λ hx=>(Cpb _ _ _ _ _ x hx).elim (h.2 x) (λ c=>by rw[c];exact hn (.inl (eq_of_beq h1)))
 |false=>
  cases h2:e.1==2 with
  |true=>
   rw[cond_false,cond_true,ae];exact λ hx=>(Cpb _ _ _ _ _ x hx).elim (h.2 x) (λ c=>by rw[c];exact hn (.inr (eq_of_beq h2)))
  |false=>
   rw[cond_false,cond_false]
   cases e.1==3||(e.1==4||(e.1==5||(e.1==6||(e.1==7||e.1==8)))) with
   |true=>
    rw[cond_true]
    cases inR e.2.1 0 ((w.2.2.1.length:Int)-1) with
    |true=>rw[cond_true,B2b];exact h.2 x
    |false=>exact h.2 x
   |false=>
    rw[cond_false];unfold Uh;cases e.1==9
    case false=>exact h.2 x
    cases !(inR e.2.1 0 ((w.1.length:Int)-1))
    case true=>exact h.2 x
    cases !(inR e.2.2.2.2.1 1 1000)<;>exact h.2 x
def Rta {I:Wld→Prop} (hI:∀ w,I w→WI w) (hE:∀ w e,I w→An e.2.2.2.1→S8a e→I (doW w e).2):∀ (n:Nat) (i:Int) (c:Cur) (w:Wld),i=n→n≤1000→Nk c→I w→Tot (λ k=>H0 k i c Rsa w) (λ r=>I r.2.1∧Nk r.2.2):=by
 intro n
 induction n with
 |zero=>
  rintro i c w rfl _ hc h;refine Tot.succ ?_;simp (disch:=omega) only [H0,dF];exact Jrb ⟨h,hc⟩
 |succ n ih=>
  rintro i c w rfl hn hc h;refine Tot.succ ?_;simp (disch:=omega) only [H0,dT];have hw:=hI w h;refine Jsb (Hma c w hc (by have:=hw.nlen;have:=hw.dlen;omega) hw.ns.1 hw.win.2.2.1.2) ?_;rintro⟨e,c1,w1⟩ ⟨⟨g1,g2,g3,g4⟩,g5⟩;dsimp only at g1 g2 g3 g4 g5 ⊢;subst g4;refine K3b (Fcb hw g1) ?_;rw[w64 (n:=((n+1:Nat):Int)-1) (by omega) (by omega)];exact ih _ c1 _ (by omega) (by omega) g3 (hE _ _ h g2 g5)
def Kga {I:Wld→Prop} (hI:∀ w,I w→WI w) (hE:∀ w e,I w→An e.2.2.2.1→S8a e→I (doW w e).2) (hN:∀ l p n,(build l p n).2=true→I (Cnb l p n)) (c:Cur) (hc:Nk c) (n:Int) (hn:n≤1000):Tot (λ k=>G5 k c n) (λ r=>I r.1∧Nk r.2):=by
 unfold G5;refine Jsb (N4a c hc) ?_;rintro⟨w,c1⟩ ⟨⟨l,p,m,hb,e⟩,k1⟩;dsimp only at e k1 ⊢
 have h:I w:=by rw[e];exact hN l p m hb
 obtain⟨x,c2,e2,x0,x1,x2,k2⟩:=Mc c1 k1 n (by omega);refine K3b (K5b (Q:=λ r=>r=(x,c2)) e2 rfl) ?_
 refine Jsb (Rta hI hE x.toNat x c2 w (by omega) (by by_cases h:0<n<;>omega) k2 h) ?_
 rintro r hr;exact Jrb hr
def B3b (a:List Int) (hb:(a.length:Int)≤1048576) (m:Int) (hm:3≤m∧m≤1000):∃ n,M5 a m=some n∧3≤n∧n≤m:=by
 unfold M5;rw[Kpb (by omega),w64 (n:=(a.length:Int)/12) (by omega) (by omega),w64 (n:=3+(a.length:Int)/12) (by omega) (by omega)]
 by_cases h:3+(a.length:Int)/12 > m
 ·exact⟨m,by rw[decide_eq_true h];rfl,hm.1,Keb _⟩
 ·exact⟨_,by rw[decide_eq_false h];rfl,by omega,by omega⟩
def Eaa {I:Wld→Prop} (hI:∀ w,I w→WI w) (hE:∀ w e,I w→An e.2.2.2.1→S8a e→I (doW w e).2) (hN:∀ l p n,(build l p n).2=true→I (Cnb l p n)) (a:List Int) (hb:(a.length:Int)≤1048576):Tot (λ k=>Hc k a) I:=by
 unfold Hc;refine Jsb (Uta a hb) ?_;intro c hc;obtain⟨n,e,n0,n1⟩:=B3b a hb 50 (by decide);refine Jsb (K5b (Q:=λ r=>r=n) e rfl) ?_;rintro r rfl;rw[w64 (n:=12+r) (by omega) (by omega)];refine Jsb (Kga hI hE hN c hc _ (by omega)) ?_;rintro r hr;exact Jrb hr.1
def Eba (a:List Int) (hb:(a.length:Int)≤1048576):Tot (λ k=>Hc k a) WD:=Eaa (λ _ h=>h.1) (λ _ _ h hb hn=>h.ev hb hn) (λ _ _ _ hb=>⟨Fab hb,λ x hx=>nomatch hx⟩) a hb

def WIm (m:Nat) (w:Wld):Prop:=RBd w.2.1∧w.1.length≤2000000∧(w.2.2.1.length≤2000000∧∀ n∈w.2.2.1,NIn n)∧(w.2.2.2.2.1.length≤m∧∀ x∈w.2.2.2.2.1,Ni x.1∧x.2.1.2.2.length≤2000000∧An x.2.1.2.2)∧(w.2.2.2.2.2.length≤m∧∀ s∈w.2.2.2.2.2,Ni s)
def WIm.win {m:Nat} {w:Wld} (h:WIm m w) (hm:m≤2000000):WIn w:=by
 obtain⟨h1,h2,⟨h3,h4⟩,⟨h5,h6⟩,h7,h8⟩:=h;exact⟨h1,h2,⟨h3,h4⟩,⟨by omega,λ x hx=>(h6 x hx).1⟩,by omega,h8⟩
def WI.wim {w:Wld} (h:WI w):WIm 200 w:=by
 have hi:=h.win;have h2:=h.dlen;have h1:=h.nlen;exact⟨hi.1,hi.2.1,hi.2.2.1,⟨h.wlen,λ x hx=>⟨K6 (h.wok x hx).1,by have:=(Lu.1 (h.wok x hx).2.1).2.1;omega,(h.wok x hx).2.2⟩⟩,h.splen,hi.2.2.2.2.2⟩

def Kha {f:Fil} (h:f.2.2.length≤1000000000):Ga f=some f:=by
 unfold Ga;rw[Oy _ (by omega)];rfl

def B4b (w:Wld) (i:Nat) (s:ByteArray) (rc:List Int) (hr:Jd w.2.1 w.1=true) (hn:NS w.2.2.1) (hi:i<w.2.2.1.length):Tot (λ k=>Ad k w (i:Int) s rc) (λ r=>r=Sj w i s rc):=by
 have hni:=hn.get hi;unfold Ad Sj;have e0:w.2.2.1.getD i ((0:Int),(([],[]),([],[])))=w.2.2.1.getD i Ac:=rfl;simp (disch:=omega) only [dT,Vc,e0];have hin:=(Aya hni).1;refine K3b (Bja hin.1.1.1.1 hin.2.1 s) ?_;cases hl:(lkD (w.2.2.1.getD i Ac).2.1 s).2 != 0
 case true=>exact Jub rfl (Jrb rfl)
 refine Jtb rfl ?_;rw[cond_false]
 have hlk:∃ b,gt (w.2.2.1.getD i Ac).2.1.1 s=some b:=by
  rw[bne,Wl,beq_iff_eq]at hl;obtain⟨b,hb,_⟩:=Qe.1 (show lkD (w.2.2.1.getD i Ac).2.1 s=((lkD (w.2.2.1.getD i Ac).2.1 s).1,0) from by rw[← hl]);exact⟨b,hb⟩
 have hs:Bi s=true:=Rba hni.g.1 (by obtain⟨b,hb⟩:=hlk;rw[hb];rfl)
 have hsz:s.size≤1000000000:=by
  have:=Dt.1 (Va _ _ ▸ hs:_∧_).2;omega
 refine K3b (H8a _ s (N1 hr) hsz) ?_;refine K3b (Dga w _ hn.1 (Si (N1 hr) s)) ?_;have hpl:=Kca (s:=s) hr hn.1;have hc:=λ x=>Sk (w:=w) (s:=s) (x:=x);have hrun:puN w i s rc=run (pst (i:Int) s (lkD (w.2.2.1.getD i Ac).2.1 s).1 rc (Oh w s)) (Oh w s).length (w.2.2.1,false,true):=rfl;obtain⟨p1,p2⟩:=Ckb (w:=w) (i:=i) (s:=s) (rc:=rc) hn
 have inv:∀ n,n≤(Oh w s).length→NS (run (pst (i:Int) s (lkD (w.2.2.1.getD i Ac).2.1 s).1 rc (Oh w s)) n (w.2.2.1,false,true)).1∧(run (pst (i:Int) s (lkD (w.2.2.1.getD i Ac).2.1 s).1 rc (Oh w s)) n (w.2.2.1,false,true)).1.length=w.2.2.1.length:=λ n hn'=>
  Nl (λ _ (b:List Nod×Bool×Bool)=>NS b.1∧b.1.length=w.2.2.1.length) ⟨hn,rfl⟩ (λ j b hj hb=>Wsa hb (by have:=hc _ (A3 (d:=0) (show j<(Oh w s).length by omega));omega))
 rw[show whr w.2.2.1 (Sr w.2.1 s)=Oh w s from rfl];generalize (lkD (w.2.2.1.getD i Ac).2.1 s).1=f at *;generalize Oh w s=ps at *;refine Jsb (Q:=λ r=>r=((i:Int),s,(puN w i s rc).2.2,(puN w i s rc).2.1,wN w (puN w i s rc).1)) ?_ ?_
 ·refine K0b (L:=λ k j (a:List Nod×Bool×Bool)=>Af k (i:Int) s rc a.2.2 a.2.1 ps (ps.length:Int) j (wN w a.1) f) (Q:=λ r=>r=((i:Int),s,(puN w i s rc).2.2,(puN w i s rc).2.1,wN w (puN w i s rc).1)) ps.length (λ j a=>a=run (pst (i:Int) s f rc ps) j (w.2.2.1,false,true)) ?_ ?_ 0 (w.2.2.1,false,true) (Vq _) rfl
  ·rintro a rfl;simp (disch:=omega) only [Af,dF];exact Jrb (by rw[hrun])
  ·rintro j a hj rfl next;obtain⟨i1,i2⟩:=inv j (by omega);rw[P0]at next;generalize run (pst (i:Int) s f rc ps) j (w.2.2.1,false,true)=a at *;obtain⟨ns,o,g⟩:=a;dsimp only at i1 i2;have hci:=hc _ (A3 (d:=0) hj);obtain⟨m,em⟩:∃ m:Nat,ps.getD j 0=(m:Int):=⟨(ps.getD j 0).toNat,by omega⟩;rw[em]at hci;unfold pst at next;rw[em,Int.toNat_natCast]at next;have e0:ns.getD m ((0:Int),(([],[]),([],[])))=ns.getD m Ac:=rfl;simp (disch:=omega) only [Af,dT,Int.toNat_natCast,w64,em,wN,e0]
   cases hz:(m:Int)==(i:Int) with
   |true=>
    rw[hz]at next;exact Jub rfl (next _ rfl)
   |false=>
    rw[hz]at next;refine Jtb rfl ?_;simp only[Wka,Vp]
    cases h1:rch rc j != 1 with
    |true=>
     rw[h1]at next;exact Jub rfl (next _ rfl)
    |false=>
     rw[h1]at next;refine Jtb rfl ?_;have hm:=Aya (i1.get (i:=m) (by omega));refine K3b (Zya (ns.getD m Ac).2.1 s f true hm.1.1 hm.1.2.1 (K6 hs)) ?_;dsimp only at next ⊢;generalize keep (ns.getD m Ac).2.1 s f true=q at *
     cases g with
     |false=>
      refine Jtb rfl (next (ns.set m ((ns.getD m Ac).1,q.1,(ns.getD m Ac).2.2),o,false) ?_)
      cases q.2 != 0&&q.2 != 1<;>rfl
     |true=>
      refine Jub rfl ?_;cases h2:q.2==0
      case true=>rw[bne,h2]at next;exact Jub rfl (next _ rfl)
      rw[bne,h2]at next;refine Jtb rfl ?_
      cases h3:q.2==1 with
      |true=>rw[bne,h3]at next;exact next _ rfl
      |false=>rw[bne,h3]at next;exact next _ rfl
 ·rintro r rfl;dsimp only[wN];generalize puN w i s rc=a at *;obtain⟨ns,o,g⟩:=a;dsimp only at p1 p2 ⊢
  cases o with
  |true=>
   refine Jtb rfl (Jrb ?_);rw[Yw,Yc];rfl
  |false=>
   refine Jub rfl ?_;cases g
   ·exact Jtb rfl (Jrb rfl)
   refine Jub rfl ?_;have e0:ns.getD i ((0:Int),(([],[]),([],[])))=ns.getD i Ac:=rfl;simp (disch:=omega) only [dT,Vc,e0];have hg:=(p1.get (i:=i) (by omega)).g;refine K3b (Mma hg.1) ?_;refine K3b (Jqa (A0b hg).1 hs) ?_;exact Jrb rfl
def B5b {n:Nod} {l:List Row} (hn:NG n) (hl:Mi l=true):A4b n l=((tk n l).2,(tk n l).1):=by
 unfold A4b tk;rw[hn.1,hl]
 cases decide ((Qa n.2.2.1 l).length > 60)<;>rfl
def Kia (w:Wld) (src:Int) (l:List Row) (rc:List Int) (hr:RBd w.2.1) (hn:NS w.2.2.1) (hl:Mi l=true):
  Tot (λ k=>Au k w l rc src) (λ r=>r=((N2 w src l false rc).2,wN w (N2 w src l false rc).1)):=by
 have hll:=Gwa hl;unfold Au;refine K3b (W2 w hr hn.1) ?_;have hpl:=Sm hr hn.1;have hc:=λ x=>Pf (w:=w) (x:=x);have hrun:N2 w src l false rc=run (gst src l false rc (C6 w)) (C6 w).length (w.2.2.1,true):=rfl
 have inv:∀ n,n≤(C6 w).length→NS (run (gst src l false rc (C6 w)) n (w.2.2.1,true)).1∧(run (gst src l false rc (C6 w)) n (w.2.2.1,true)).1.length=w.2.2.1.length:=λ n hn'=>
  Nl (λ _ (b:List Nod×Bool)=>NS b.1∧b.1.length=w.2.2.1.length) ⟨hn,rfl⟩ (λ j b hj hb=>Wta hl hb (by have:=hc _ (A3 (d:=0) (show j<(C6 w).length by omega));omega))
 generalize C6 w=ls at *;refine Jsb (Q:=λ r=>r=((N2 w src l false rc).2,wN w (N2 w src l false rc).1)) ?_ (by rintro r rfl;exact Jrb rfl);refine K0b (L:=λ k j (a:List Nod×Bool)=>B5 k l rc src a.2 ls (ls.length:Int) j (wN w a.1)) (Q:=λ r=>r=((N2 w src l false rc).2,wN w (N2 w src l false rc).1)) ls.length (λ j a=>a=run (gst src l false rc ls) j (w.2.2.1,true)) ?_ ?_ 0 (w.2.2.1,true) (Vq _) rfl
 ·rintro a rfl;simp (disch:=omega) only [B5,dF];exact Jrb (by rw[hrun])
 ·rintro j a hj rfl next;obtain⟨i1,i2⟩:=inv j (by omega);rw[P0]at next;generalize run (gst src l false rc ls) j (w.2.2.1,true)=a at *;obtain⟨ns,g⟩:=a;dsimp only at i1 i2;have hci:=hc _ (A3 (d:=0) hj);obtain⟨m,em⟩:∃ m:Nat,ls.getD j 0=(m:Int):=⟨(ls.getD j 0).toNat,by omega⟩;rw[em]at hci;unfold gst at next;rw[em,Int.toNat_natCast,Bool.not_false,Bool.and_true]at next;have e0:ns.getD m ((0:Int),(([],[]),([],[])))=ns.getD m Ac:=rfl;have hm:=i1.get (i:=m) (by omega);simp (disch:=omega) only [B5,dT,Int.toNat_natCast,w64,em,e0,wN]
  cases hz:(m:Int)==src with
  |true=>
   rw[hz]at next;exact Jub rfl (next _ rfl)
  |false=>
   rw[hz]at next;refine Jtb rfl ?_;simp only[Wka,Vp]
   cases h1:rch rc j != 1 with
   |true=>
    rw[h1]at next;exact Jub rfl (next _ rfl)
   |false=>
    rw[h1]at next;refine Jtb rfl (K3b (A5b (ns.getD m Ac) l (Aya hm) hll) ?_);rw[B5b hm hl];dsimp only at next ⊢;generalize tk (ns.getD m Ac) l=q at *
    cases g with
    |false=>
     refine Jtb rfl (next (ns.set m q.2,false) ?_)
     cases q.1<;>rfl
    |true=>
     refine Jub rfl (next (ns.set m q.2,q.1) ?_)
     cases q.1<;>rfl

def Tp {l:List Row} (h:l.length≤2000000000):Ae l=some l:=by
 unfold Ae;rw[bT (by simp only[Vk];omega),Wa]
def Rua (w:Wld) (src:Int) (l:List Row) (rc:List Int):N2 w (-1) l false rc=N2 w src l true rc:=by
 unfold N2;refine Nl (λ n (a:List Nod×Bool)=>a=run (gst src l true rc (C6 w)) n (w.2.2.1,true)) rfl (λ j b hj hb=>?_);rw[P0,← hb];have:=(Pf (A3 (d:=0) hj)).1;unfold gst;rw[show ((C6 w).getD j 0 == -1)=false by rw[beq_eq_false_iff_ne];omega,Yw,Yc,Yt]
def N6a (w:Wld) (src:Int) (l:List Row) (self:Bool) (rc:List Int) (m:Nat):((N2 w src l self rc).1.getD m Ac).2.2.2=(w.2.2.1.getD m Ac).2.2.2:=by
 unfold N2;refine Nl (λ n (a:List Nod×Bool)=>(a.1.getD m Ac).2.2.2=(w.2.2.1.getD m Ac).2.2.2) rfl (λ j b hj hb=>?_);unfold gst;cases (C6 w).getD j 0==src&&!self
 case true=>exact hb
 cases rch rc j != 1
 case true=>exact hb
 rw[cond_false,cond_false];generalize ((C6 w).getD j 0).toNat=i;show ((b.1.set i (tk (b.1.getD i Ac) l).2).getD m Ac).2.2.2=_
 by_cases hm:m<b.1.length
 ·rw[Ld hm]
  by_cases hi:i=m
  ·subst hi;rw[if_pos rfl,← hb];unfold tk
   cases decide ((Qa (b.1.getD i Ac).2.2.1 l).length > 60)<;>rfl
  ·rw[if_neg hi];exact hb
 ·rw[Vb,Za (by rw[Wc];omega)];rw[Vb,Za (by omega)]at hb;exact hb
def X5a (w:Wld) (i:Nat) (rc:List Int) (hr:RBd w.2.1) (hn:NS w.2.2.1) (hi:i<w.2.2.1.length):Tot (λ k=>Ax k w (i:Int) rc) (λ r=>r=Sn w i rc):=by
 have hni:=hn.get hi;have e0:w.2.2.1.getD i ((0:Int),(([],[]),([],[])))=w.2.2.1.getD i Ac:=rfl;have hl:=(Cb.1 hni.1).2.2.2.1;have hll:=(Gwa hl).1;unfold Ax Sn;simp (disch:=omega) only [dT,Vc,e0,Tp (show (w.2.2.1.getD i Ac).2.2.1.length≤2000000000 by omega),Vp];cases hz:((w.2.2.1.getD i Ac).2.2.1.length:Int)==0
 case true=>exact Jub rfl (Jrb rfl)
 refine Jtb rfl (K3b (Kia w (i:Int) _ rc hr hn hl) ?_);obtain⟨p1,p2⟩:=Xp (w:=w) (src:=(i:Int)) (self:=false) (rc:=rc) hl hn;rw[show N2 w (i:Int) (w.2.2.1.getD i Ac).2.2.1 false rc=Pg w i rc from rfl]at p1 p2 ⊢;generalize Pg w i rc=a at *;obtain⟨ns,g⟩:=a;dsimp only at p1 p2 ⊢;cases g
 ·exact Jtb rfl (Jrb rfl)
 refine Jub rfl (K3b (W2 (wN w ns) hr p1.1) ?_);refine K3b (Tj _ _ (by have:=Sm (w:=wN w ns) hr p1.1;omega)) ?_;cases M7 (C6 (wN w ns)) (i:Int)
 case true=>exact Jtb rfl (Jrb rfl)
 have e1:ns.getD i ((0:Int),(([],[]),([],[])))=ns.getD i Ac:=rfl;refine Jub rfl ?_;simp (disch:=omega) only [dT,Vc,e1];exact Jrb rfl
def X6a (w:Wld) (i:Nat) (rc:List Int) (hr:RBd w.2.1) (hn:NS w.2.2.1) (hi:i<w.2.2.1.length):Tot (λ k=>B6 k w (i:Int) rc) (λ r=>r=Ug w i rc):=by
 have hni:=hn.get hi;have e0:w.2.2.1.getD i ((0:Int),(([],[]),([],[])))=w.2.2.1.getD i Ac:=rfl;obtain⟨hq,_,_,_,hq60⟩:=Cb.1 hni.1;have hl:=Ph hq;unfold B6 Ug;simp (disch:=omega) only [dT,Vc,e0];cases hz:((w.2.2.1.getD i Ac).2.2.2.length:Int)==0
 case true=>exact Jub rfl (Jrb rfl)
 have h1:=beq_eq_false_iff_ne.1 hz;refine Jtb rfl (Jvb (by omega) ?_);rw[show List.take (toNat 1) (w.2.2.1.getD i Ac).2.2.2=List.take 1 (w.2.2.1.getD i Ac).2.2.2 from rfl,Tp (by rw[List.length_take];omega)];simp only[Option.bind_some];refine K3b (Kia w (-1) _ rc hr hn hl) ?_;rw[Rua w (i:Int)];obtain⟨p1,p2⟩:=Xp (w:=w) (src:=(i:Int)) (self:=true) (rc:=rc) hl hn;have hqu:=N6a w (i:Int) ((w.2.2.1.getD i Ac).2.2.2.take 1) true rc i;rw[show N2 w (i:Int) ((w.2.2.1.getD i Ac).2.2.2.take 1) true rc=Qg w i rc from rfl]at p1 p2 hqu ⊢;generalize Qg w i rc=a at *;obtain⟨ns,g⟩:=a;dsimp only at p1 p2 hqu ⊢;cases g
 ·exact Jtb rfl (Jrb rfl)
 have e1:ns.getD i ((0:Int),(([],[]),([],[])))=ns.getD i Ac:=rfl;refine Jub rfl ?_;simp (disch:=omega) only [dT,Vc,e1,hqu];rw[show List.drop (toNat 1) (w.2.2.1.getD i Ac).2.2.2=List.drop 1 (w.2.2.1.getD i Ac).2.2.2 from rfl,Tp (by rw[We];omega)];exact Jrb rfl

def NO (ns ms:List Nod):Prop:=NS ms∧ms.map (·.1)=ns.map (·.1)
def NO.len {ns ms:List Nod} (h:NO ns ms):ms.length=ns.length:=by
 have:=congrArg length h.2;rwa [Wd,Wd]at this
def NO.set {ns ms:List Nod} (h:NO ns ms) {i:Nat} {n:Nod} (hi:i<ms.length) (hn:NG n) (e:n.1=(ms.getD i Ac).1):NO ns (ms.set i n):=⟨h.1.set hn,(N3a hi e).trans h.2⟩
def Fdb (n:Nod) (s:ByteArray) (f:Fil) (sure:Bool):(B0a n s f sure).1.1=n.1:=by
 unfold B0a
 cases (n.2.2.2.length:Int)==60 with
 |true=>rfl
 |false=>rfl
def Jab (n:Nod) (l:List Row):(tk n l).2.1=n.1:=by
 unfold tk
 cases decide ((Qa n.2.2.1 l).length > 60)<;>rfl
def Feb (n:Nod) (s:ByteArray) (b:Int):(Mqa n s b).1.1=n.1:=by
 unfold Mqa
 cases Po n&&((lkD n.2.1 s).2==0&&(Kua n.2.1 s b).2)<;>rfl
def Hyb {w:Wld} {s:ByteArray} {f:Fil} {rc:List Int} (hn:NS w.2.2.1) (hs:Bi s=true) (hf:Hf f=true):NO w.2.2.1 (wrN w s f rc).1:=by
 unfold wrN;refine Nl (λ _ (a:List Nod×Int×Int)=>NO w.2.2.1 a.1) ⟨hn,rfl⟩ (λ j a hj h=>?_);have hc:=W3 (A3 (d:=0) hj);have hl:=h.len;unfold wst;cases decide (a.2.1<w.2.1.1)
 ·exact h
 rw[cond_true]
 cases rch rc j==0 with
 |true=>exact h
 |false=>exact h.set (by omega) (Vua (h.1.get (by omega)) hs hf) (Fdb _ _ _ _)
def Hzb {w:Wld} {i:Nat} {s:ByteArray} {rc:List Int} (hn:NS w.2.2.1):NO w.2.2.1 (puN w i s rc).1:=by
 unfold puN;refine Nl (λ _ (a:List Nod×Bool×Bool)=>NO w.2.2.1 a.1) ⟨hn,rfl⟩ (λ j a hj h=>?_);have hc:=Sk (A3 (d:=0) hj);have hl:=h.len;unfold pst;cases (Oh w s).getD j 0==(i:Int)
 case true=>exact h
 rw[cond_false]
 cases rch rc j != 1 with
 |true=>exact h
 |false=>exact h.set (by omega) (Hia (h.1.get (by omega))) rfl
def Pra {w:Wld} {i:Nat} {s:ByteArray} {rc:List Int} (hn:NS w.2.2.1) (hi:i<w.2.2.1.length):∃ ns,(Sj w i s rc).2=wN w ns∧NO w.2.2.1 ns:=by
 unfold Sj;cases hl:(lkD (w.2.2.1.getD i Ac).2.1 s).2 != 0
 case true=>exact⟨w.2.2.1,rfl,hn,rfl⟩
 have h:=Hzb (i:=i) (s:=s) (rc:=rc) hn;have hlen:=h.len
 have hs:Bi s=true:=by
  rw[bne,Wl,beq_iff_eq]at hl;obtain⟨b,hb,_⟩:=Qe.1 (show lkD (w.2.2.1.getD i Ac).2.1 s=((lkD (w.2.2.1.getD i Ac).2.1 s).1,0) from by rw[← hl]);exact Rba (hn.get hi).g.1 (by rw[hb];rfl)
 refine⟨_,rfl,?_⟩
 cases (puN w i s rc).2.2&&!(puN w i s rc).2.1 with
 |false=>exact h
 |true=>exact h.set (by omega) (Cjb (h.1.get (by omega)) hs) rfl
def Psa {w:Wld} {src:Int} {l:List Row} {self:Bool} {rc:List Int} (hl:Mi l=true) (hn:NS w.2.2.1):NO w.2.2.1 (N2 w src l self rc).1:=by
 unfold N2;refine Nl (λ _ (a:List Nod×Bool)=>NO w.2.2.1 a.1) ⟨hn,rfl⟩ (λ j a hj h=>?_);have hc:=Pf (A3 (d:=0) hj);have hlen:=h.len;unfold gst;cases (C6 w).getD j 0==src&&!self
 case true=>exact h
 rw[cond_false]
 cases rch rc j != 1 with
 |true=>exact h
 |false=>exact h.set (by omega) (J7b (h.1.get (by omega)) hl) (Jab _ _)
def Pta {w:Wld} {i:Nat} {rc:List Int} (hn:NS w.2.2.1) (hi:i<w.2.2.1.length):∃ ns,(Sn w i rc).2=wN w ns∧NO w.2.2.1 ns:=by
 have h:=Psa (w:=w) (src:=(i:Int)) (self:=false) (rc:=rc) (Cb.1 (hn.get hi).1).2.2.2.1 hn;have hlen:=h.len;unfold Sn;cases ((w.2.2.1.getD i Ac).2.2.1.length:Int)==0
 case true=>exact⟨w.2.2.1,rfl,hn,rfl⟩
 refine⟨_,rfl,?_⟩;show NO w.2.2.1 (bif (Pg w i rc).2&&_ then (Pg w i rc).1.set i (Aoa ((Pg w i rc).1.getD i Ac)) else (Pg w i rc).1);unfold Pg
 cases (N2 w (i:Int) (w.2.2.1.getD i Ac).2.2.1 false rc).2&&_ with
 |false=>exact h
 |true=>exact h.set (by omega) (Pna (h.1.get (by omega))) rfl
def Pua {w:Wld} {i:Nat} {rc:List Int} (hn:NS w.2.2.1) (hi:i<w.2.2.1.length):∃ ns,(Ug w i rc).2=wN w ns∧NO w.2.2.1 ns:=by
 have hq:=Cb.1 (hn.get hi).1;have h:=Psa (w:=w) (src:=(i:Int)) (self:=true) (rc:=rc) (Ph hq.1) hn;have hlen:=h.len;unfold Ug;cases ((w.2.2.1.getD i Ac).2.2.2.length:Int)==0
 case true=>exact⟨w.2.2.1,rfl,hn,rfl⟩
 refine⟨_,rfl,?_⟩;show NO w.2.2.1 (bif (Qg w i rc).2 then (Qg w i rc).1.set i (Fyb ((Qg w i rc).1.getD i Ac) ((w.2.2.1.getD i Ac).2.2.2.drop 1)) else (Qg w i rc).1);unfold Qg
 cases (N2 w (i:Int) ((w.2.2.1.getD i Ac).2.2.2.take 1) true rc).2 with
 |false=>exact h
 |true=>exact h.set (by omega) (Clb (h.1.get (by omega)) (λ r hr=>hq.1 r (Zr hr)) (by rw[We];omega)) rfl
structure WO (w:Wld):Prop where
 ring:Jd w.2.1 w.1=true
 ids:w.2.2.1.map (·.1)=w.1.map (·.1)
 ns:NS w.2.2.1
 clk:J3 w.2.2.2.1=true
 wlen:w.2.2.2.2.1.length≤200
 wok:Ffa w.2.2.2.2.1
 wge:∀ x∈w.2.2.2.2.1,sle w.2.2.2.1 x.2.1.1=false
 sps:TS w.2.2.2.2.2
 spn:∀ s∈w.2.2.2.2.2,Bi s=true
def WI.wo {w:Wld} (h:WI w):WO w:=⟨h.ring,h.ids,h.ns,h.clk,h.wlen,h.wok,h.wge,h.sps,λ s hs=>by
 obtain⟨x,hx,e⟩:=h.spw s hs;rw[← e]
 exact(h.wok x hx).1⟩
namespace WO
variable {w:Wld}
def nlen (h:WO w):w.2.2.1.length=w.1.length:=by
 have:=congrArg length h.ids;rwa [Wd,Wd]at this
def dlen (h:WO w):1≤w.1.length∧w.1.length≤12:=(Dz.1 (Bh.1 h.ring).1).2.2
def other (h:WO w) {ns:List Nod} (hn:NO w.2.2.1 ns):WO (wN w ns):=⟨h.ring,hn.2.trans h.ids,hn.1,h.clk,h.wlen,h.wok,h.wge,h.sps,h.spn⟩
def other' (h:WO w) {r:Bool×Wld} (hr:∃ ns,r.2=wN w ns∧NO w.2.2.1 ns):WO r.2:=by
 obtain⟨ns,e,hn⟩:=hr;rw[e];exact h.other hn
def write (h:WO w) {s:ByteArray} {f:Fil} {rc:List Int} (hs:Bi s=true) (hf:Hf f=true) (hb:An f.2.2) (hc:sle w.2.2.2.1 f.1=true) (hl:w.2.2.2.2.1.length<200):WO (Dka (w.1,w.2.1,w.2.2.1,f.1,w.2.2.2.2) s f rc).2:=by
 have g:=Hyb (w:=(w.1,w.2.1,w.2.2.1,f.1,w.2.2.2.2)) (rc:=rc) h.ns hs hf;unfold Dka;generalize wrN (w.1,w.2.1,w.2.2.1,f.1,w.2.2.2.2) s f rc=a at *
 exact {
  ring:=h.ring
  ids:=g.2.trans h.ids
  ns:=g.1
  clk:=(Lu.1 hf).1
  wlen:=by show (w.2.2.2.2.1++[_]).length≤200;rw[Ve];simp only[Vd,Vk];omega
  wok:=λ x hx=>by
   rcases Vo.1 hx with hx|hx
   ·exact h.wok x hx
   ·rw[Vu.1 hx];exact⟨hs,hf,hb⟩
  wge:=λ x hx=>by
   rcases Vo.1 hx with hx|hx
   ·exact Dla (Xq hc) (h.wge x hx)
   ·rw[Vu.1 hx];exact N0 _
  sps:=h.sps
  spn:=h.spn }
def ask (h:WO w) {s:ByteArray} {f:Fil} {t:Int} {rc:List Int} (hb:An f.2.2) (hd:f.2.1=true→f.2.2=[]):WO (ask w s f t rc).2:=by
 unfold Vf.ask;cases hs:Bi s
 ·exact h
 rw[Yw,cond_false]
 by_cases hl:(f.2.2.length:Int) > 200
 ·rw[decide_eq_true hl];exact h
 ·rw[decide_eq_false hl,cond_false];cases inR t 0 1000000000
  ·exact h
  rw[Yw,cond_false];cases hw:(w.2.2.2.2.1.length:Int)==200
  case true=>exact h
  rw[cond_false];have hw':=beq_eq_false_iff_ne.1 hw;have hwl:=h.wlen;obtain⟨n1,n2⟩:=Hha h.clk t 0;cases he:(P3 w.2.2.2.1 t 0).1==w.2.2.2.1.1&&((P3 w.2.2.2.1 t 0).2.1==w.2.2.2.1.2.1&&(P3 w.2.2.2.1 t 0).2.2==w.2.2.2.1.2.2)
  case true=>exact h
  rw[cond_false]
  have hlt:sle w.2.2.2.1 (P3 w.2.2.2.1 t 0)=true:=by
   rcases n2 with n2|n2
   ·rw[n2,beq_self_eq_true,beq_self_eq_true,beq_self_eq_true]at he;cases he
   ·exact n2
  exact h.write (f:=(P3 w.2.2.2.1 t 0,f.2)) hs (Lu.2 ⟨n1,by show f.2.2.length≤200;omega,hd⟩) hb hlt (by omega)
def rot (h:WO w) {i:Nat} (hi:i<w.2.2.1.length) {s:ByteArray} {b:Int}:WO (F3b w i s b).2:=by
 have hg:=h.ns.get hi;unfold F3b;cases hr:(Mqa (w.2.2.1.getD i Ac) s b).2
 ·exact h
 have hn:NO w.2.2.1 (w.2.2.1.set i (Mqa (w.2.2.1.getD i Ac) s b).1):=NO.set ⟨h.ns,rfl⟩ hi (Ccb hg) (Feb _ _ _)
 have hs:Bi s=true:=by
  unfold Mqa at hr;cases hc:Po (w.2.2.1.getD i Ac)&&((lkD (w.2.2.1.getD i Ac).2.1 s).2==0&&(Kua (w.2.2.1.getD i Ac).2.1 s b).2)
  ·rw[hc]at hr;cases hr
  rw[Va,Va,beq_iff_eq]at hc;obtain⟨b,hb,_⟩:=Qe.1 (show lkD (w.2.2.1.getD i Ac).2.1 s=((lkD (w.2.2.1.getD i Ac).2.1 s).1,0) from by rw[← hc.2.1]);exact Rba hg.g.1 (by rw[hb];rfl)
 exact⟨h.ring,hn.2.trans h.ids,hn.1,h.clk,h.wlen,h.wok,h.wge,Fea h.sps,λ t ht=>by
  rcases Hja.1 ht with rfl|ht
  ·exact hs
  ·exact h.spn t ht⟩
def node (h:WO w) {i:Nat} (hi:i<w.2.2.1.length) {e:Evt}:WO (E9a w e i).2:=by
 have hg:=h.ns.get hi;unfold E9a;cases e.1==3
 case true=>exact h.other' (Pra h.ns hi)
 cases e.1==4
 case true=>exact h.other' (Pta h.ns hi)
 cases e.1==5
 case true=>exact h.other' (Pua h.ns hi)
 cases e.1==6
 case true=>exact h.other (NO.set ⟨h.ns,rfl⟩ hi (Pka hg) rfl)
 cases e.1==7 with
 |true=>exact h.other (NO.set ⟨h.ns,rfl⟩ hi (Hob hg) rfl)
 |false=>exact h.rot hi
def weigh (h:WO w) {i t:Int}:WO (Uh w i t).2:=by
 unfold Uh;cases h1:inR i 0 ((w.1.length:Int)-1)
 ·exact h
 cases h2:inR t 1 1000
 ·exact h
 obtain⟨i0,i1⟩:=Dt.1 h1;obtain⟨w0,w1⟩:=Dt.1 h2;exact⟨(Xm (Ua h.ring (by omega) w0 w1)).1,h.ids.trans (H3a _ _ _).symm,h.ns,h.clk,h.wlen,h.wok,h.wge,h.sps,h.spn⟩
def ev (h:WO w) {e:Evt} (hb:An e.2.2.2.1):WO (doW w e).2:=by
 have ae:∀ {q:Int×Wld},WO q.2→WO (Xwa q).2:=λ {q} hq=>by
  unfold Xwa
  cases q.1 != 2<;>exact hq
 unfold doW;cases e.1==1
 case true=>exact ae (h.ask hb (λ c=>by cases c))
 cases e.1==2
 case true=>exact ae (h.ask Pn (λ _=>rfl))
 cases e.1==3||(e.1==4||(e.1==5||(e.1==6||(e.1==7||e.1==8)))) with
 |true=>
  cases hi:inR e.2.1 0 ((w.2.2.1.length:Int)-1)
  ·exact h
  have:=Dt.1 hi;exact h.node (by omega)
 |false=>
  cases e.1==9 with
  |true=>exact h.weigh
  |false=>exact h
def nods (h:WO w):Us w.1 w.2.2.1=true:=by
 have hl:=h.nlen;unfold Us;rw[show ((w.2.2.1.length:Int)==(w.1.length:Int))=true by rw[beq_iff_eq];omega,Vw,Wj];intro j hj;have hj':=Zc.1 hj;rw[Va,beq_iff_eq];refine⟨?_,(h.ns.get hj').1⟩
 have e1:(w.2.2.1.getD j Ac).1=(w.2.2.1.map (·.1)).getD j 0:=by
  rw[Vb,Vb,K7b,Vj hj'];rfl
 have e2:(w.1.getD j P4).1=(w.1.map (·.1)).getD j 0:=by
  rw[Vb,Vb,K7b,Vj (by omega)];rfl
 rw[e1,e2,h.ids]
def ok (h:WO w):A7a w=true:=by
 unfold A7a
 have a2:Asb w.2.2.2.1 w.2.2.2.2.1=true:=by
  unfold Asb;rw[Va,Wj];refine⟨λ x hx=>?_,decide_eq_true (by have:=h.wlen;omega)⟩;unfold Mwa;rw[(h.wok x hx).1,(h.wok x hx).2.1,h.wge x hx];rfl
 have a3:Xo w.2.2.2.2.2=true:=by
  unfold Xo;rw[Wj];intro j hj;have hj':=Zc.1 hj;rw[Va,Zy];refine⟨h.spn _ (A3 hj'),?_⟩
  by_cases h0:j=0
  ·exact .inl (decide_eq_true h0)
  ·right;have:=Zj.1 h.sps (j-1) j (by omega) hj' (by omega);rwa [Vb,Vb,Vj hj',Vj (by omega)]
 rw[h.ring,h.nods,h.clk,a2,a3];rfl
end WO
def Jbb {l:List ByteArray} (h:∀ j,0<j→j<l.length→tlt (l.getD (j-1) Oz) (l.getD j Oz)=true):TS l:=by
 induction l with
 |nil=>exact List.Pairwise.nil
 |cons x l ih=>
  have ht:TS l:=ih (λ j h0 hj=>by
   have:=h (j+1) (by omega) (by simpa using hj);obtain⟨m,rfl⟩:∃ m,j=m+1:=⟨j-1,by omega⟩
   simpa using this)
  refine Wh.2 ⟨λ y hy=>?_,ht⟩
  cases l with
  |nil=>cases hy
  |cons z l=>
   have hz:tlt x z=true:=by have:=h 1 (by omega) (by simp);simpa using this
   rcases Vl.1 hy with rfl|hy
   ·exact hz
   ·exact Oe hz ((Wh.1 ht).1 y hy)
def Jcb {w:Wld} (h:A7a w=true) (hn:∀ n∈w.2.2.1,DB n.2.1) (hb:∀ x∈w.2.2.2.2.1,An x.2.1.2.2):WO w:=by
 unfold A7a at h;simp only[Va]at h;obtain⟨h1,h2,h3,h4,h5⟩:=h;unfold Us at h2;rw[Va,beq_iff_eq,Wj]at h2;obtain⟨hl,h2⟩:=h2;have hd:=(Dz.1 (Bh.1 h1).1).2.2
 have hnode:∀ j,j<w.2.2.1.length→(w.2.2.1.getD j Ac).1=(w.1.getD j P4).1∧Po (w.2.2.1.getD j Ac)=true:=λ j hj=>by
  have:=h2 j (Zc.2 hj);rwa [Va,beq_iff_eq]at this
 unfold Asb at h4;rw[Va,Wj,decide_eq_true_iff]at h4;unfold Xo at h5;rw[Wj]at h5
 have hsp:∀ j,j<w.2.2.2.2.2.length→Bi (w.2.2.2.2.2.getD j Oz)=true∧(j=0∨tlt (w.2.2.2.2.2.getD (j-1) Oz) (w.2.2.2.2.2.getD j Oz)=true):=λ j hj=>by
  have:=h5 j (Zc.2 hj);rwa [Va,Zy,decide_eq_true_iff]at this
 have hx:∀ x∈w.2.2.2.2.1,Bi x.1=true∧Hf x.2.1=true∧sle w.2.2.2.1 x.2.1.1=false:=λ x hx=>by
  have:=h4.1 x hx;unfold Mwa at this;rwa [Va,Va,Vx]at this
 refine⟨h1,?_,⟨by omega,λ n hm=>?_⟩,h3,by omega,λ x hm=>⟨(hx x hm).1,(hx x hm).2.1,hb x hm⟩,λ x hm=>(hx x hm).2.2,Jbb (λ j h0 hj=>?_),λ s hs=>?_⟩
 ·refine N1b (by rw[Wd,Wd];omega) (λ j a b=>?_);rw[Wd]at a b;have:=(hnode j a).1;rw[Vb,Vb,Vj a,Vj b]at this;rw[Mcb,Mcb];exact this
 ·obtain⟨j,hj,rfl⟩:=Zf.1 hm;have:=(hnode j hj).2;rw[Vb,Vj hj]at this;exact⟨this,hn _ hm⟩
 ·rcases (hsp j hj).2 with h|h
  ·omega
  ·exact h
 ·obtain⟨j,hj,rfl⟩:=Zf.1 hs;have:=(hsp j hj).1;rwa [Vb,Vj hj]at this

def X7a (w:Wld) (i t:Int) (hr:Jd w.2.1 w.1=true) (hi:inR i 0 ((w.1.length:Int)-1)=true):Tot (λ k=>Ds k w i t) (λ r=>r=Uh w i t):=by
 unfold Ds Uh;rw[hi];simp only[Sq,Vp];cases h2:inR t 1 1000
 ·exact Jub rfl (Jrb rfl)
 refine Jtb rfl ?_;obtain⟨i0,i1⟩:=Dt.1 hi;obtain⟨w0,w1⟩:=Dt.1 h2;simp (disch:=omega) only [dT];have hg:=Ua (r:=w.2.1) hr (i:=i.toNat) (by omega) w0 w1;refine K3b (W7a (r:=w.2.1) (l:=wgt w.1 i.toNat t) hg) ?_;refine Jrb ?_;rw[decide_eq_true (show (B2a w.2.1 (wgt w.1 i.toNat t)).2≥0 from (Xm hg).2.2.2)];rfl

section
open Go
end

def WIm.wo {m:Nat} {w:Wld} (h:WIm m w) (hk:A7a w=true):WO w:=Jcb hk (λ n hn=>(h.2.2.1.2 n hn).1.2) (λ x hx=>(h.2.2.2.1.2 x hx).2.2)
def WO.wim {w:Wld} (h:WO w) {m:Nat} (h2:200≤m) (hs:w.2.2.2.2.2.length≤m):WIm m w:=
 ⟨N1 h.ring,by have:=h.dlen;omega,⟨h.ns.1,λ n hn=>Aya (h.ns.2 n hn)⟩,⟨by have:=h.wlen;omega,λ x hx=>⟨K6 (h.wok x hx).1,by have:=(Lu.1 (h.wok x hx).2.1).2.1;omega,(h.wok x hx).2.2⟩⟩,hs,λ s hs=>K6 (h.spn s hs)⟩
def Kja {m:Nat} {w:Wld} (h:WIm m w) (hm:m≤2000000):Tot (λ k=>Az k w) (λ r=>r=w):=by
 obtain⟨h1,h2,⟨h3,h4⟩,⟨h5,h6⟩,h7,h8⟩:=h;unfold Az;refine Jzb (by rw[Vk];omega) (K3b (Ala w.2.1 h1) ?_);refine Jzb (by rw[Vk];omega) ?_;rw[Wa,Wa];refine Jsb (Q:=λ r=>r=(w,Rsa,(w.1,w.2.1,w.2.2.1,w.2.2.2.1,[],w.2.2.2.2.2))) ?_ ?_
 ·refine K0b (L:=λ k i (s:List Nod)=>Eg k w.2.2.1 (w.2.2.1.length:Int) i w Rsa (w.1,w.2.1,s,w.2.2.2.1,[],w.2.2.2.2.2)) (Q:=λ r=>r=(w,Rsa,(w.1,w.2.1,w.2.2.1,w.2.2.2.1,[],w.2.2.2.2.2))) w.2.2.1.length (λ j s=>s=w.2.2.1.take j) ?_ ?_ 0 [] (Vq _) rfl
  ·rintro s rfl;simp (disch:=omega) only [Eg,dF];exact Jrb (by rw[Yp])
  ·rintro j s hj rfl next;have hm:=h4 _ (A3 (d:=Ac) hj);have e0:w.2.2.1.getD j ((0:Int),(([],[]),([],[])))=w.2.2.1.getD j Ac:=rfl
   have hl:(w.2.2.1.take j).length=j:=by rw[Vt];omega
   simp (disch:=omega) only [Eg,dT,Vc,w64,e0];refine K3b (Qt _ hm) ?_;refine Jzb (by rw[hl];simp only[Vd,Vk];omega) (next _ ?_);rw[Wi hj,Vb,Vj hj];rfl
 ·rintro r rfl;refine Jsb (Q:=λ r=>r=(Rsa,w)) ?_ (by rintro r rfl;exact Jrb rfl);refine K0b (L:=λ k i (s:List Wri)=>Ef k w.2.2.2.2.1 (w.2.2.2.2.1.length:Int) i Rsa (w.1,w.2.1,w.2.2.1,w.2.2.2.1,s,w.2.2.2.2.2)) (Q:=λ r=>r=(Rsa,w)) w.2.2.2.2.1.length (λ j s=>s=w.2.2.2.2.1.take j) ?_ ?_ 0 [] (Vq _) rfl
  ·rintro s rfl;simp (disch:=omega) only [Ef,dF];exact Jrb (by rw[Yp])
  ·rintro j s hj rfl next;have hm:=(h6 _ (A3 (d:=Haa) hj)).2.1;have e0:w.2.2.2.2.1.getD j ((⟨#[]⟩:ByteArray),((((0:Int),((0:Int),(0:Int))),(false,[])),false))=w.2.2.2.2.1.getD j Haa:=rfl
   have hl:(w.2.2.2.2.1.take j).length=j:=by rw[Vt];omega
   simp (disch:=omega) only [Ef,dT,Vc,w64,e0,Kha (f:=(w.2.2.2.2.1.getD j Haa).2.1) (by omega),Vp];refine Jzb (by rw[hl];simp only[Vd,Vk];omega) (next _ ?_);rw[Wi hj,Vb,Vj hj];rfl

def B6b (s:ByteArray) (a:Bool×Fil) (n:Nod):Bool×Fil:=bif (lkD n.2.1 s).2==0 then (bif !a.1||sle a.2.1 (lkD n.2.1 s).1.1 then (true,(lkD n.2.1 s).1) else a) else a
def lat (ns:List Nod) (s:ByteArray):Bool×Fil:=ns.foldl (B6b s) (false,Xua)
def Kka {s:ByteArray} {a:Bool×Fil} {n:Nod} (h:a.1=true∨((lkD n.2.1 s).2==0)=true):(B6b s a n).1=true:=by
 unfold B6b
 cases hc:(lkD n.2.1 s).2==0 with
 |false=>
  rw[hc]at h;rcases h with h|h
  ·exact h
  ·cases h
 |true=>
  rw[cond_true]
  cases ha:a.1 with
  |false=>rfl
  |true=>cases hs:sle a.2.1 (lkD n.2.1 s).1.1<;>simp[ha]
def Pva {s:ByteArray}:∀ (ns:List Nod) (a:Bool×Fil),(a.1=true∨∃ n∈ns,((lkD n.2.1 s).2==0)=true)→(ns.foldl (B6b s) a).1=true
 |[],a,h=>by
  rcases h with h|⟨n,hn,_⟩
  ·exact h
  ·cases hn
 |n::ns,a,h=>by
  rw[Ye];refine Pva ns _ ?_;rcases h with h|⟨m,hm,hg⟩
  ·exact .inl (Kka (.inl h))
  ·rcases Vl.1 hm with rfl|hm
   ·exact .inl (Kka (.inr hg))
   ·exact .inr ⟨m,hm,hg⟩
def Rva (w:Wld) (hw:WIn w) (s:ByteArray):Tot (λ k=>Ec k w s) (λ r=>r=((lat w.2.2.1 s).2,(lat w.2.2.1 s).1)):=by
 obtain⟨_,_,⟨h1,h2⟩,_⟩:=hw;unfold Ec;refine Jsb (Q:=λ r=>r=((lat w.2.2.1 s).1,Xua,(lat w.2.2.1 s).2)) ?_ (by rintro r rfl;exact Jrb rfl);refine K0b (L:=λ k i (a:Bool×Fil)=>Ck k s a.1 w.2.2.1 (w.2.2.1.length:Int) i Xua a.2) (Q:=λ r=>r=((lat w.2.2.1 s).1,Xua,(lat w.2.2.1 s).2)) w.2.2.1.length (λ j a=>(w.2.2.1.drop j).foldl (B6b s) a=lat w.2.2.1 s) ?_ ?_ 0 (false,Xua) (Vq _) rfl
 ·rintro a h;rw[Vz]at h;simp (disch:=omega) only [Ck,dF];exact Jrb (by rw[← h];rfl)
 ·rintro j ⟨b,f⟩ hj h next;rw[Aj (d:=Ac) hj,Ye]at h;have nx:=next _ h;have hm:=h2 _ (A3 (d:=Ac) hj);obtain⟨n,en⟩:∃ n:Nod,w.2.2.1.getD j Ac=n:=⟨_,rfl⟩;rw[en]at hm nx;have e0:w.2.2.1.getD j ((0:Int),(([],[]),([],[])))=n:=en;simp (disch:=omega) only [Ck,dT,Vc,w64,e0];refine K3b (Bja hm.1.1.1.1.1 hm.1.2.1 s) ?_;unfold B6b at nx;cases hc:(lkD n.2.1 s).2==0
  ·rw[hc]at nx;exact Jtb rfl nx
  rw[hc]at nx;refine Jub rfl ?_;cases b
  ·exact Jub rfl nx
  refine Jtb rfl ?_;simp only[Joa,Option.bind_some];dsimp only at nx ⊢
  cases hs:sle f.1 (lkD n.2.1 s).1.1 with
  |true=>rw[hs]at nx;exact Jub rfl nx
  |false=>rw[hs]at nx;exact Jtb rfl nx
def lvE (s:ByteArray) (p:List Int) (f:Fil) (n:Nod):Bool:=bif M7 p n.1 then ((lkD n.2.1 s).2==0)&&Dia (lkD n.2.1 s).1 f else !((lkD n.2.1 s).2==0)
def lvN (w:Wld) (s:ByteArray):Bool:=w.2.2.1.all (lvE s (Sr w.2.1 s) (lat w.2.2.1 s).2)
def Rwa (w:Wld) (hw:WIn w) (s:ByteArray) (hs:s.size≤1000000000):Tot (λ k=>D6 k w s) (λ r=>r=lvN w s):=by
 have hw':=hw;obtain⟨hr,_,⟨h1,h2⟩,_⟩:=hw';unfold D6 lvN;refine K3b (Rva w hw s) ?_
 refine Jsb (Q:=λ r=>r=bif w.2.2.1.all (lvE s (Sr w.2.1 s) (lat w.2.2.1 s).2) then .inr () else .inl false) ?_ (by
  rintro r rfl
  cases w.2.2.1.all (lvE s (Sr w.2.1 s) (lat w.2.2.1 s).2)<;>exact Jrb rfl)
 generalize (lat w.2.2.1 s).2=f;rw[Qf _ Ac];refine K1b (L:=λ k i=>Dh k s w.2.2.1 (w.2.2.1.length:Int) i w f) _ _ () ?_ ?_
 ·simp (disch:=omega) only [Dh,dF];exact Jrb rfl
 ·intro j hj Q no yes;have hm:=h2 _ (A3 (d:=Ac) hj);obtain⟨n,en⟩:∃ n:Nod,w.2.2.1.getD j Ac=n:=⟨_,rfl⟩;rw[en]at hm no yes;have e0:w.2.2.1.getD j ((0:Int),(([],[]),([],[])))=n:=en;simp (disch:=omega) only [Dh,dT,Vc,w64,e0];refine K3b (Bja hm.1.1.1.1.1 hm.1.2.1 s) ?_;refine K3b (Rma _ s _ hr hs) ?_;unfold lvE at no yes
  cases hp:M7 (Sr w.2.1 s) n.1 with
  |false=>
   rw[hp]at no yes;refine Jub rfl ?_
   cases hc:(lkD n.2.1 s).2==0 with
   |true=>rw[hc]at no;exact Jub rfl (Jrb (no rfl))
   |false=>rw[hc]at yes;exact Jtb rfl (yes rfl)
  |true=>
   rw[hp]at no yes;refine Jtb rfl ?_;cases hc:(lkD n.2.1 s).2==0
   ·rw[hc]at no;exact Jub (by rw[bne,hc];rfl) (Jrb (no rfl))
   rw[hc]at no yes;refine Jtb (by rw[bne,hc];rfl) ?_;simp only[Kaa,Vp]
   cases hf:Dia (lkD n.2.1 s).1 f with
   |false=>rw[hf]at no;exact Jub rfl (Jrb (no rfl))
   |true=>rw[hf]at yes;exact Jtb rfl (yes rfl)
def B7b {ns:List Nod} {p:List Int} {j:Nat} (hj:j<ns.length):M7 (whr ns p) (j:Int)=M7 p (ns.getD j Ac).1:=by
 rw[Lcb,Nc,Nc,A8a];constructor
 ·rintro⟨i,h1,h2,h3⟩
  obtain rfl:j=i:=by omega
  exact h2
 ·intro h;exact⟨j,hj,h,rfl⟩
def Eca (d:Dsk) (s:ByteArray):Prop:=((lkD d s).2==0)=true
def Pwa {d:Dsk} {s:ByteArray}:Eca d s↔∃ i,fnd d.1 s=some i∧(O6 (d.1.getD i Dy).2).isSome=true:=by
 unfold Eca lkD gt
 cases h:fnd d.1 s with
 |none=>simp
 |some i=>
  simp only[Vg];constructor
  ·intro hg;refine⟨i,rfl,?_⟩
   cases hf:O6 (d.1.getD i Dy).2 with
   |none=>simp only[hf]at hg;cases hg
   |some f=>rfl
  ·rintro⟨j,rfl,hg⟩
   cases hf:O6 (d.1.getD i Dy).2 with
   |none=>rw[hf]at hg;cases hg
   |some f=>rfl
def Dma {d:Dsk} {s:ByteArray}:s∈Qk d↔Eca d s:=by
 have key:∀ (l:List Nmd) (out:List ByteArray),s∈l.foldl (hI d) out↔s∈out∨∃ x∈l,x.1=s∧Eca d s:=by
  intro l
  induction l with
  |nil=>intro out;simp
  |cons x l ih=>
   intro out;rw[Ye,ih]
   have hx:s∈hI d out x↔s∈out∨(x.1=s∧Eca d s):=by
    unfold hI
    cases hc:(lkD d x.1).2==0 with
    |false=>
     rw[cond_false];refine⟨.inl,?_⟩;rintro (h|⟨rfl,h⟩)
     ·exact h
     ·unfold Eca at h;rw[hc]at h;cases h
    |true=>
     rw[cond_true,Jma];constructor
     ·rintro (rfl|h)
      ·exact .inr ⟨rfl,hc⟩
      ·exact .inl h
     ·rintro (h|⟨h,_⟩)
      ·exact .inr h
      ·exact .inl h.symm
   rw[hx];constructor
   ·rintro ((h|h)|⟨y,hy,h⟩)
    ·exact .inl h
    ·exact .inr ⟨x,Ya,h⟩
    ·exact .inr ⟨y,Vh _ hy,h⟩
   ·rintro (h|⟨y,hy,h⟩)
    ·exact .inl (.inl h)
    ·rcases Vl.1 hy with rfl|hy
     ·exact .inl (.inr h)
     ·exact .inr ⟨y,hy,h⟩
 unfold Qk;rw[key];constructor
 ·rintro (h|⟨x,_,_,h⟩)
  ·cases h
  ·exact h
 ·intro h;obtain⟨i,hi,_⟩:=Pwa.1 h;have:=Pm hi;exact .inr ⟨_,A3 (d:=Dy) this.1,this.2,h⟩
def I0b (a b:Row):Bool:=(a.1==b.1)&&((a.2.1.1==b.2.1.1)&&((a.2.1.2.1==b.2.1.2.1)&&((a.2.1.2.2==b.2.1.2.2)&&((a.2.2.1==b.2.2.1)&&(a.2.2.2==b.2.2.2)))))
def N7a (a b:List Row):Bool:=((a.length:Int)==(b.length:Int))&&(List.range a.length).all λ j=>I0b (a.getD j Xva) (b.getD j Xva)
def Kla (a b:List Row) (ha:a.length≤1000000000):Tot (λ k=>Iz k a b) (λ r=>r=N7a a b):=by
 unfold Iz N7a;cases hl:(a.length:Int)==(b.length:Int)
 ·exact Jub (by rw[bne,hl];rfl) (Jrb rfl)
 have hl':=eq_of_beq hl;rw[Vw]
 refine Jtb (by rw[bne,hl];rfl) (Jsb (Q:=λ r=>r=bif (List.range a.length).all (λ j=>I0b (a.getD j Xva) (b.getD j Xva)) then .inr () else .inl false) ?_ (by
  rintro r rfl
  cases (List.range a.length).all (λ j=>I0b (a.getD j Xva) (b.getD j Xva))<;>exact Jrb rfl))
 refine K1b (L:=λ k i=>Fy k a b (a.length:Int) i) _ _ () ?_ ?_
 ·simp (disch:=omega) only [Fy,dF];exact Jrb rfl
 ·intro j hj Q no yes;have e0:∀ l:List Row,l.getD j ((⟨#[]⟩:ByteArray),(((0:Int),((0:Int),(0:Int))),(false,(0:Int))))=l.getD j Xva:=λ _=>rfl;simp (disch:=omega) only [Fy,dT,Vc,w64,e0];unfold I0b at no yes;refine Jxb (λ hc=>Jrb (no ?_)) (λ hc=>yes ?_)
  ·rw[Vx]at hc;exact hc
  ·rw[Wl]at hc;exact hc
def X8a (w:Wld) (j:Nat):List Row:=bif M7 (C6 w) (j:Int) then (w.2.2.1.getD ((C6 w).getD 0 0).toNat Ac).2.2.1 else []
def Ffb (w:Wld) (j:Nat):Bool := !(decide (((w.2.2.1.getD j Ac).2.2.2.length:Int) > 0))&&N7a (w.2.2.1.getD j Ac).2.2.1 (X8a w j)
def I1b (w:Wld) (j:Nat):Bool:=(Qk (w.2.2.1.getD j Ac).2.1).all (lvN w)
def Imb (w:Wld):Bool:=(List.range w.2.2.1.length).all (I1b w)&&(List.range w.2.2.1.length).all (Ffb w)
def Kma (a:List Row):N7a a [] = !(decide ((a.length:Int) > 0)):=by
 unfold N7a
 cases a with
 |nil=>rfl
 |cons x l=>
  rw[decide_eq_true (show ((x::l).length:Int) > 0 by rw[Vd];omega),show (((x::l).length:Int)==(([]:List Row).length:Int))=false by rw[beq_eq_false_iff_ne,Vd,Vk];omega];rfl
def Kna {w:Wld} {j:Int} (h:M7 (C6 w) j=true):0<(C6 w).length∧0≤(C6 w).getD 0 0∧(C6 w).getD 0 0<(w.2.2.1.length:Int):=by
 have hm:=Nc.1 h;have h0:=Kob hm;obtain⟨i,h1,_,h3⟩:=A8a.1 (show (C6 w).getD 0 0∈whr w.2.2.1 (Sr w.2.1 R5) from A3 h0);exact⟨h0,by omega,by omega⟩
def Jdb (w:Wld):Prop:=∀ n∈w.2.2.1,∀ x∈n.2.1.1,x.1.size≤1000000000
def Rxa {w:Wld} (hn:Jdb w) {n:Nod} (hm:n∈w.2.2.1) {s:ByteArray} (hs:Eca n.2.1 s):s.size≤1000000000:=by
 obtain⟨i,h1,_⟩:=Pwa.1 hs;obtain⟨h2,h3⟩:=Pm h1;rw[← h3];exact hn n hm _ (A3 h2)
def Hna (w:Wld) (hw:WIn w):Tot (λ k=>D7 k w) (λ r=>r=(List.range w.2.2.1.length).all (Ffb w)):=by
 have hw':=hw;obtain⟨hr,_,⟨h1,h2⟩,_⟩:=hw';have hwl:=Qv h1 (Si hr R5);rw[show whr w.2.2.1 (Sr w.2.1 R5)=C6 w from rfl]at hwl;unfold D7;refine K3b (W2 w hr h1) ?_
 refine Jsb (Q:=λ r=>r=bif (List.range w.2.2.1.length).all (Ffb w) then .inr () else .inl false) ?_ (by
  rintro r rfl
  cases (List.range w.2.2.1.length).all (Ffb w)<;>exact Jrb rfl)
 refine K1b (L:=λ k i=>Di k (C6 w) w.2.2.1 (w.2.2.1.length:Int) i w) _ _ () ?_ ?_
 ·simp (disch:=omega) only [Di,dF];exact Jrb rfl
 ·intro j hj Q no yes;have hm:=h2 _ (A3 (d:=Ac) hj);have e1:∀ i,w.2.2.1.getD i ((0:Int),(([],[]),([],[])))=w.2.2.1.getD i Ac:=λ _=>rfl;simp (disch:=omega) only [Di,dT,Vc,w64,e1];unfold Ffb X8a at no yes;refine Jxb (λ hc=>Jrb (no (by rw[hc];rfl))) (λ hc=>?_);rw[hc,Zk,Vw]at no yes;refine K3b (Tj _ (j:Int) (by omega)) ?_
  cases hh:M7 (C6 w) (j:Int) with
  |false=>
   rw[hh,cond_false,Kma]at no yes;refine Jub rfl (Jxb (λ hc=>Jrb (no (by rw[hc];rfl))) (λ hc=>yes (by rw[hc];rfl)))
  |true=>
   rw[hh,cond_true]at no yes;obtain⟨l0,l1,l2⟩:=Kna hh;refine Jtb rfl (Jvb (by omega) ?_);rw[show toNat 0=0 from rfl];refine Jvb l1 (Jvb l2 (K3b (Kla _ _ (by have:=hm.2.1.1;omega)) ?_));refine Jxb (λ hc=>Jrb (no ?_)) (λ hc=>yes ?_)
   ·rw[Vx]at hc;exact hc
   ·rw[Wl]at hc;exact hc
def X9a (w:Wld) (hw:WIn w) (hn:Jdb w):Tot (λ k=>I0 k w) (λ r=>r=Imb w):=by
 have hw':=hw;obtain⟨hr,_,⟨h1,h2⟩,_⟩:=hw';unfold I0 Imb;refine Jsb (Q:=λ r=>r=bif (List.range w.2.2.1.length).all (I1b w) then .inr w else .inl false) ?_ ?_
 ·refine K1b (L:=λ k i=>Js k w.2.2.1 (w.2.2.1.length:Int) i w) _ _ w ?_ ?_
  ·simp (disch:=omega) only [Js,dF];exact Jrb rfl
  ·intro j hj Q no yes;have hmem:=A3 (d:=Ac) hj;have hm:=h2 _ hmem;have e1:∀ i,w.2.2.1.getD i ((0:Int),(([],[]),([],[])))=w.2.2.1.getD i Ac:=λ _=>rfl;simp (disch:=omega) only [Js,dT,Vc,w64,e1];refine K3b (Pia _ hm.1.1 hm.1.2) ?_;unfold I1b at no yes
   have hlen:(Qk (w.2.2.1.getD j Ac).2.1).length≤2000000:=by
    have:=Wga (w.2.2.1.getD j Ac).2.1 (w.2.2.1.getD j Ac).2.1.1 [];rw[Vk]at this;have:=hm.1.1.2.1;unfold Qk;omega
   have hsm:∀ s∈Qk (w.2.2.1.getD j Ac).2.1,s.size≤1000000000:=λ s hs=>Rxa hn hmem (Dma.1 hs);generalize Qk (w.2.2.1.getD j Ac).2.1=l at *;refine Jsb (Q:=λ r=>r=bif l.all (lvN w) then .inr (w.2.2.1,(w.2.2.1.length:Int),(j:Int),w) else .inl false) ?_ ?_
   ·rw[Qf _ Oz];refine K1b (L:=λ k i=>Jr k w.2.2.1 (w.2.2.1.length:Int) (j:Int) l (l.length:Int) i w) _ _ (w.2.2.1,(w.2.2.1.length:Int),(j:Int),w) ?_ ?_
    ·simp (disch:=omega) only [Jr,dF];exact Jrb rfl
    ·intro i hi Q no yes;have e0:l.getD i (⟨#[]⟩:ByteArray)=l.getD i Oz:=rfl;simp (disch:=omega) only [Jr,dT,Vc,w64,e0];refine K3b (Rwa w hw _ (hsm _ (A3 hi))) ?_;exact K4b (λ hc=>Jrb (no hc)) yes
   ·rintro r rfl;cases hc:l.all (lvN w)
    ·exact Jrb (no hc)
    simp (disch:=omega) only [cond_true,Kgb,w64];exact yes hc
 ·rintro r rfl;cases (List.range w.2.2.1.length).all (I1b w)
  ·exact Jrb rfl
  refine K3b (Hna w hw) ?_;exact Jrb rfl

def Xaa {s:ByteArray} (h:Bi s=true):s.size≤1000000000:=by
 have:=Dt.1 (Va _ _ ▸ h:_∧_).2;omega

section
open Go
end

end Go.Proofs.YtiiekghlhfbmmaaGreat.Vf
