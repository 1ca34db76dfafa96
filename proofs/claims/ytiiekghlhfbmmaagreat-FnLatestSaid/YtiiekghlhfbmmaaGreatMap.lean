import Derived.Test.YtiiekghlhfbmmaaGreatMao
set_option linter.all false
namespace Go.Proofs.YtiiekghlhfbmmaaGreat.Vf
open Go
open List (length getD)
open Int (toNat)
open Go.IntKind (wrap)
open BitVec (ofInt)
def Jfb:=@List.getElem_map

def Xn {a b c:Stp} (h1:sle a b=false) (h2:sle b c=false):sle a c=false:=by
 cases h:sle a c
 ·rfl
 have n1:¬ _:=λ k=>by rw[Qo.2 k]at h1;cases h1
 have n2:¬ _:=λ k=>by rw[Qo.2 k]at h2;cases h2
 have h3:=Qo.1 h;omega
def S9 {a b:Stp} (h:sle a b=true):sle b a=false:=by
 cases h':sle b a
 ·rfl
 have h1:=Qo.1 h;have h2:=Qo.1 h';omega
def Ira (ws:List Wri):Prop:=∀ x∈ws,B1 x.1=true∧Ej x.2.1=true∧Aj x.2.1.2.2
def IsW (ws:List Wri) (s:ByteArray) (f:Fil):Prop:=∃ x∈ws,x.1=s∧x.2.1=f
def EO (ws:List Wri) (sp:List ByteArray) (s:ByteArray) (b:List Int):Prop:=∃ f,IsW ws s f∧(b=M3 f∨(s∈sp∧∃ n,n<8*(M3 f).length∧b=O6 (M3 f) n))
def ED (ws:List Wri) (sp:List ByteArray) (d:Dsk) (s:ByteArray):Prop:=
 (∀ b,gt d.1 s=some b→EO ws sp s b)∧(∀ b,gt d.2 s=some b→EO ws sp s b)∧
 (s∉sp→∀ b f,gt d.2 s=some b→Oe b=some f→∃ b' f',gt d.1 s=some b'∧Oe b'=some f'∧sle f'.1 f.1=false)
def DI (ws:List Wri) (sp:List ByteArray) (d:Dsk):Prop:=∀ s,ED ws sp d s
def HD (d:Dsk) (s:ByteArray) (st:Stp):Prop:=∃ b f,gt d.2 s=some b∧Oe b=some f∧sle f.1 st=false
def MO (sp:List ByteArray) (d d':Dsk):Prop:=∀ s,s∉sp→∀ st,HD d s st→HD d' s st
def IsW.good {ws:List Wri} (hw:Ira ws) {s:ByteArray} {f:Fil} (h:IsW ws s f):B1 s=true∧Ej f=true∧Aj f.2.2:=by
 obtain⟨x,hx,rfl,rfl⟩:=h;exact hw x hx
def EO.get {ws:List Wri} {sp:List ByteArray} (hw:Ira ws) {s:ByteArray} {b:List Int} (h:EO ws sp s b) {f:Fil} (hf:Oe b=some f):IsW ws s f∧b=M3 f:=by
 obtain⟨g,h1,h2⟩:=h;obtain⟨_,g2,g3⟩:=h1.good hw;rcases h2 with rfl|⟨_,n,hn,rfl⟩
 ·rw[Uw g2 g3]at hf;cases hf;exact⟨h1,rfl⟩
 ·rw[Yda g2 hn]at hf;cases hf
def EO.fine {ws:List Wri} {sp:List ByteArray} (hw:Ira ws) {s:ByteArray} {b:List Int} (h:EO ws sp s b) (hs:s∉sp):∃ f,Oe b=some f∧IsW ws s f:=by
 obtain⟨g,h1,h2⟩:=h;obtain⟨_,g2,g3⟩:=h1.good hw;rcases h2 with rfl|⟨h,_⟩
 ·exact⟨g,Uw g2 g3,h1⟩
 ·exact absurd h hs
def EO.mono {ws ws':List Wri} {sp sp':List ByteArray} (h1:∀ x∈ws,x∈ws') (h2:∀ s∈sp,s∈sp') {s:ByteArray} {b:List Int} (h:EO ws sp s b):EO ws' sp' s b:=by
 obtain⟨g,⟨x,hx,e⟩,h3⟩:=h;refine⟨g,⟨x,h1 x hx,e⟩,?_⟩;rcases h3 with h3|⟨h3,h4⟩
 ·exact .inl h3
 ·exact .inr ⟨h2 s h3,h4⟩
def ED.mono {ws ws':List Wri} {sp sp':List ByteArray} (h1:∀ x∈ws,x∈ws') (h2:∀ s∈sp,s∈sp') {d:Dsk} {s:ByteArray} (h:ED ws sp d s):ED ws' sp' d s:=
 ⟨λ b hb=>(h.1 b hb).mono h1 h2,λ b hb=>(h.2.1 b hb).mono h1 h2,λ hs=>h.2.2 (λ c=>hs (h2 s c))⟩
def DI.mono {ws ws':List Wri} {sp sp':List ByteArray} (h1:∀ x∈ws,x∈ws') (h2:∀ s∈sp,s∈sp') {d:Dsk} (h:DI ws sp d):DI ws' sp' d:=λ s=>(h s).mono h1 h2
def ED.same {ws:List Wri} {sp:List ByteArray} {d d':Dsk} {s:ByteArray} (h:ED ws sp d s) (e1:gt d'.1 s=gt d.1 s) (e2:gt d'.2 s=gt d.2 s):ED ws sp d' s:=by
 unfold ED;rw[e1,e2];exact h
def HD.same {d d':Dsk} {s:ByteArray} {st:Stp} (h:HD d s st) (e2:gt d'.2 s=gt d.2 s):HD d' s st:=by
 unfold HD;rw[e2];exact h
def MO.refl (sp:List ByteArray) (d:Dsk):MO sp d d:=λ _ _ _ h=>h
def MO.trans {sp:List ByteArray} {a b c:Dsk} (h1:MO sp a b) (h2:MO sp b c):MO sp a c:=λ s hs st h=>h2 s hs st (h1 s hs st h)
section
variable {ws:List Wri} {sp:List ByteArray} {d:Dsk} {s:ByteArray}
def ED.ge (h:ED ws sp d s) (hs:s∉sp) {st:Stp} (hh:HD d s st):∃ b f,gt d.1 s=some b∧Oe b=some f∧sle f.1 st=false:=by
 obtain⟨b,f,h1,h2,h3⟩:=hh;obtain⟨b',f',h4,h5,h6⟩:=h.2.2 hs b f h1 h2;exact⟨b',f',h4,h5,Xn h6 h3⟩
def Cwb (hd:Al d=true) (h:DI ws sp d):DI ws sp (d.1,sy d s):=by
 intro t
 by_cases ht:s=t
 ·subst ht
  have e:gt (sy d s) s=gt d.1 s:=by rw[L2a hd,if_pos rfl]
  refine⟨(h s).1,λ b hb=>(h s).1 b (by rw[← e];exact hb),λ hs b f hb hf=>⟨b,f,by rw[← e];exact hb,hf,Kr _⟩⟩
 ·exact(h t).same rfl (by show gt (sy d s) t=_;rw[L2a hd,if_neg ht])
def Ffb (hd:Al d=true) (h:DI ws sp d):MO sp d (d.1,sy d s):=by
 intro t ht st hh
 by_cases hst:s=t
 ·subst hst;obtain⟨b,f,h1,h2,h3⟩:=(h s).ge ht hh;exact⟨b,f,by show gt (sy d s) s=_;rw[L2a hd,if_pos rfl,h1],h2,h3⟩
 ·exact hh.same (by show gt (sy d s) t=_;rw[L2a hd,if_neg hst])
def Gmb (hw:Ira ws) (hd:Al d=true) (h:DI ws sp d) {f:Fil} (hf:IsW ws s f) (hn:∀ o,old d s=some o→sle o.1 f.1=true):DI ws sp (wr d.1 s (M3 f),d.2):=by
 intro t
 by_cases ht:s=t
 ·subst ht
  have e:gt (wr d.1 s (M3 f)) s=some (M3 f):=by rw[I3a (Mq hd),if_pos rfl]
  obtain⟨_,g2,g3⟩:=hf.good hw;refine⟨λ b hb=>?_,(h s).2.1,λ hs b g hb hg=>⟨M3 f,f,e,Uw g2 g3,?_⟩⟩
  ·rw[show gt (wr d.1 s (M3 f)) s=some b from hb]at e;cases e;exact⟨f,hf,.inl rfl⟩
  ·obtain⟨b',f',k1,k2,k3⟩:=(h s).2.2 hs b g hb hg;have:=hn f' (by unfold old;rw[k1];exact k2);exact Xn (S9 this) k3
 ·exact(h t).same (by show gt (wr d.1 s (M3 f)) t=_;rw[I3a (Mq hd),if_neg ht]) rfl
def Vea (hw:Ira ws) (hd:DG d) (h:DI ws sp d) {f:Fil} {sure:Bool} (hf:IsW ws s f):DI ws sp (keep d s f sure).1∧MO sp d (keep d s f sure).1:=by
 obtain⟨g1,g2,g3⟩:=hf.good hw;rw[Bha hd.1 g1 g2];rcases Wy (f:=f) (sure:=sure) hd g1 with k|⟨o,_,_,k,hg,h3⟩|⟨h1,h2,k,hg,h3⟩
 ·rw[k];exact⟨h,MO.refl _ _⟩
 ·rcases h3 with⟨_,h3⟩|⟨_,h3⟩
  ·rw[h3];exact⟨h,MO.refl _ _⟩
  ·rw[h3];exact⟨Cwb hd.1 h,Ffb hd.1 h⟩
 ·have hw':=Gmb hw hd.1 h hf h1;rcases h3 with⟨_,h3⟩|⟨_,h3⟩
  ·rw[h3];exact⟨hw',λ t _ st hh=>hh.same rfl⟩
  ·rw[h3];exact⟨Cwb h2.1 hw',(show MO sp d (wr d.1 s (M3 f),d.2) from λ t _ st hh=>hh.same rfl).trans (Ffb h2.1 hw')⟩
def Vfa (hw:Ira ws) (hd:DG d) {f:Fil} (hf:IsW ws s f) (hc:(keep d s f true).2=0∨(keep d s f true).2=1):HD (keep d s f true).1 s f.1:=by
 obtain⟨g1,g2,g3⟩:=hf.good hw;rw[Bha hd.1 g1 g2]at hc ⊢;obtain⟨o,g,b,ho,_,e,h1,h2,h3⟩:=U5a hd g1 g2 g3 hc;rw[e];exact⟨b,g,by show gt (sy o s) s=_;rw[L2a ho.1,if_pos rfl,h1],h2,h3⟩
def Cxb (hd:DG d) (h:DI ws sp d) (kp:List Bool):DI ws sp (Tv d kp):=by
 intro t;rcases Ura (d:=d) (kp:=kp) t with e|⟨e1,e2⟩
 ·rw[e];exact h t
 ·unfold ED;rw[e1]
  have eo:∀ b,gt (Tv d kp).1 t=some b→EO ws sp t b:=by
   intro b hb;rcases e2 with e2|e2
   ·exact(h t).1 b (by rw[← e2];exact hb)
   ·exact(h t).2.1 b (by rw[← e2];exact hb)
  exact⟨eo,eo,λ _ b f hb hf=>⟨b,f,hb,hf,Kr _⟩⟩
def Cyb (hd:DG d) (h:DI ws sp d) (kp:List Bool):MO sp d (Tv d kp):=by
 intro t ht st hh;rcases Ura (d:=d) (kp:=kp) t with e|⟨e1,e2⟩
 ·rw[e];exact hh
 ·unfold HD;rw[e1];rcases e2 with e2|e2
  ·rw[e2];exact(h t).ge ht hh
  ·rw[e2];exact hh
def Yva (hw:Ira ws) (hd:DG d) (h:DI ws sp d):DI ws sp (Mh d).1∧MO sp d (Mh d).1:=by
 obtain⟨_,hc⟩:=Tw d.1 (d,0) hd;have hc':∀ t,(t∈Fba d.1→gt (Mh d).1.1 t=none∧gt (Mh d).1.2 t=none)∧(t∉Fba d.1→gt (Mh d).1.1 t=gt d.1 t∧gt (Mh d).1.2 t=gt d.2 t):=hc
 have hb:∀ t,t∈Fba d.1→t∈sp:=by
  intro t ht;obtain⟨b,h1,h2⟩:=(O4a hd.1).1 ht
  by_cases hs:t∈sp
  ·exact hs
  ·obtain⟨f,hf,_⟩:=((h t).1 b h1).fine hw hs;rw[hf]at h2;cases h2
 constructor
 ·intro t
  by_cases ht:t∈Fba d.1
  ·obtain⟨e1,e2⟩:=(hc' t).1 ht;unfold ED;rw[e1,e2];exact⟨λ b hb=>(by cases hb),λ b hb=>(by cases hb),λ _ b f hb=>(by cases hb)⟩
  ·obtain⟨e1,e2⟩:=(hc' t).2 ht;exact(h t).same e1 e2
 ·intro t ht st hh;exact hh.same ((hc' t).2 (λ c=>ht (hb t c))).2
def Fgb (hd:DG d) (h:DI ws sp d) (hs:B1 s=true):DI ws sp (syD (rmD d s).1 s).1∧∀ t,t≠s→∀ st,HD d t st→HD (syD (rmD d s).1 s).1 t st:=by
 have hr:DI ws sp (rmD d s).1∨True := .inr trivial;unfold rmD
 cases hg:gt d.1 s with
 |none=>
  have e:(bif (none:Option (List Int)).isSome then ((cut d.1 s,d.2),true) else (d,false)).1=d:=rfl;rw[e];unfold syD
  by_cases hl:(sy d s).length≤60
  ·rw[decide_eq_true hl];exact⟨Cwb hd.1 h,λ t ht st hh=>hh.same (by show gt (sy d s) t=_;rw[L2a hd.1,if_neg (Itb ht)])⟩
  ·rw[decide_eq_false hl];exact⟨h,λ t ht st hh=>hh⟩
 |some b=>
  have e:(bif (some b:Option (List Int)).isSome then ((cut d.1 s,d.2),true) else (d,false)).1=(cut d.1 s,d.2):=rfl;rw[e];have hd':Al (cut d.1 s,d.2)=true:=Df.2 ⟨Xh (Df.1 hd.1).1,(Df.1 hd.1).2⟩
  have e1:∀ t,gt (cut d.1 s) t=if s=t then none else gt d.1 t:=λ t=>T5 (Mq hd.1)
  have e2:∀ t,gt (sy (cut d.1 s,d.2) s) t=if s=t then none else gt d.2 t:=λ t=>by
   rw[L2a hd']
   by_cases hst:s=t
   ·rw[if_pos hst,if_pos hst];show gt (cut d.1 s) s=none;rw[e1,if_pos rfl]
   ·rw[if_neg hst,if_neg hst]
  have hlen:(sy (cut d.1 s,d.2) s).length≤60:=by
   have:sy (cut d.1 s,d.2) s=cut d.2 s:=by
    unfold sy;have:=e1 s;rw[if_pos rfl]at this;rw[show gt (cut d.1 s,d.2).1 s=none from this]
   rw[this];exact Zt P8.length_le (Ae.1 (Df.1 hd.1).2).2.2
  unfold syD;rw[decide_eq_true hlen];constructor
  ·intro t;show ED ws sp (cut d.1 s,sy (cut d.1 s,d.2) s) t
   by_cases hst:s=t
   ·unfold ED;dsimp only;rw[e1,e2,if_pos hst,if_pos hst];exact⟨λ b hb=>(by cases hb),λ b hb=>(by cases hb),λ _ b f hb=>(by cases hb)⟩
   ·exact(h t).same (by show gt (cut d.1 s) t=_;rw[e1,if_neg hst]) (by show gt (sy (cut d.1 s,d.2) s) t=_;rw[e2,if_neg hst])
  ·intro t ht st hh;exact hh.same (by show gt (sy (cut d.1 s,d.2) s) t=_;rw[e2,if_neg (Itb ht)])
def Fhb (hw:Ira ws) (hd:DG d) (h:DI ws sp d) {n:Int} (hl:(lkD d s).2=0) (hr:(J5a d s n).2=true) (sp':List ByteArray) (hsp:∀ t,t∈sp'↔t=s∨t∈sp):DI ws sp' (J5a d s n).1∧MO sp' d (J5a d s n).1∧∃ f,IsW ws s f:=by
 obtain⟨b,hb,hf⟩:=Pa.1 (show lkD d s=((lkD d s).1,0) by rw[← hl]);obtain⟨hW,e⟩:=((h s).1 b hb).get hw hf;have hsub:∀ t∈sp,t∈sp':=λ t ht=>(hsp t).2 (.inr ht);generalize (lkD d s).1=f at *;unfold J5a at hr ⊢;rw[hb]at hr ⊢;dsimp only at hr ⊢;cases hin:inR n 0 (8*(b.length:Int)-1)
 ·rw[hin]at hr;cases hr
 rw[cond_true];obtain⟨n0,n1⟩:=Et.1 hin
 have hn:n.toNat<8*(M3 f).length:=by rw[← e];omega
 have e1:∀ t,gt (wr d.1 s (O6 b n.toNat)) t=if s=t then some (O6 b n.toNat) else gt d.1 t:=λ t=>I3a (Mq hd.1)
 have e2:∀ t,gt (bif decide (gt d.2 s=some b) then wr d.2 s (O6 b n.toNat) else d.2) t=if s=t∧gt d.2 s=some b then some (O6 b n.toNat) else gt d.2 t:=by
  intro t
  by_cases hg:gt d.2 s=some b
  ·rw[decide_eq_true hg,cond_true,I3a (R3 hd.1)]
   by_cases hst:s=t
   ·rw[if_pos hst,if_pos ⟨hst,hg⟩]
   ·rw[if_neg hst,if_neg (λ c=>hst c.1)]
  ·rw[decide_eq_false hg,cond_false,if_neg (λ c=>hg c.2)]
 have hflip:EO ws sp' s (O6 b n.toNat):=⟨f,hW,.inr ⟨(hsp s).2 (.inl rfl),n.toNat,hn,by rw[e]⟩⟩;refine⟨λ t=>?_,λ t ht st hh=>?_,f,hW⟩
 ·by_cases hst:s=t
  ·subst hst;refine⟨λ x hx=>?_,λ x hx=>?_,λ c=>absurd ((hsp s).2 (.inl rfl)) c⟩
   ·have:=e1 s;rw[if_pos rfl]at this;rw[show gt (wr d.1 s (O6 b n.toNat)) s=some x from hx]at this;cases this;exact hflip
   ·have:=e2 s;rw[show gt (bif decide (gt d.2 s=some b) then wr d.2 s (O6 b n.toNat) else d.2) s=some x from hx]at this
    by_cases hg:gt d.2 s=some b
    ·rw[if_pos ⟨rfl,hg⟩]at this;cases this;exact hflip
    ·rw[if_neg (λ c=>hg c.2)]at this;exact((h s).2.1 x this.symm).mono (λ _ h=>h) hsub
  ·refine((h t).mono (λ _ h=>h) hsub).same ?_ ?_
   ·show gt (wr d.1 s (O6 b n.toNat)) t=_;rw[e1,if_neg hst]
   ·show gt (bif decide (gt d.2 s=some b) then wr d.2 s (O6 b n.toNat) else d.2) t=_;rw[e2,if_neg (λ c=>hst c.1)]
 ·have hst:s≠t:=λ c=>ht ((hsp t).2 (.inl c.symm));exact hh.same (by show gt (bif decide (gt d.2 s=some b) then wr d.2 s (O6 b n.toNat) else d.2) t=_;rw[e2,if_neg (λ c=>hst c.1)])
end

def NI (ws:List Wri) (sp:List ByteArray) (n:Nod):Prop:=NG n∧DI ws sp n.2.1∧(∀ r∈n.2.2.1,Cja ws r=true)∧∀ r∈n.2.2.2,Cja ws r=true
def KN (ns:List Nod) (s:ByteArray) (st:Stp):Prop:=∃ i,i<ns.length∧HD (ns.getD i Au).2.1 s st
def MS (sp:List ByteArray) (ns ns':List Nod):Prop:=∀ s,s∉sp→∀ st,KN ns s st→KN ns' s st
def Bxa {ws:List Wri} {r:Row}:Cja ws r=true↔∃ x∈ws,Bka x.1 x.2.1=r:=by
 unfold Cja;rw[Ikb];exact⟨λ ⟨x,h1,h2⟩=>⟨x,h1,Ina.1 h2⟩,λ ⟨x,h1,h2⟩=>⟨x,h1,Ina.2 h2⟩⟩
def Dsa {ws ws':List Wri} (h:∀ x∈ws,x∈ws') {r:Row} (hr:Cja ws r=true):Cja ws' r=true:=by
 obtain⟨x,h1,h2⟩:=Bxa.1 hr;exact Bxa.2 ⟨x,h x h1,h2⟩
def Ywa {ws:List Wri} {s:ByteArray} {f:Fil} (h:IsW ws s f):Cja ws (Bka s f)=true:=by
 obtain⟨x,h1,rfl,rfl⟩:=h;exact Bxa.2 ⟨x,h1,rfl⟩
def NI.mono {ws ws':List Wri} {sp sp':List ByteArray} (h1:∀ x∈ws,x∈ws') (h2:∀ s∈sp,s∈sp') {n:Nod} (h:NI ws sp n):NI ws' sp' n:=
 ⟨h.1,h.2.1.mono h1 h2,λ r hr=>Dsa h1 (h.2.2.1 r hr),λ r hr=>Dsa h1 (h.2.2.2 r hr)⟩
def NR (ws:List Wri) (sp:List ByteArray) (ns ns':List Nod):Prop:=(∀ n∈ns',NI ws sp n)∧ns'.map (·.1)=ns.map (·.1)∧MS sp ns ns'
def NR.refl {ws:List Wri} {sp:List ByteArray} {ns:List Nod} (h:∀ n∈ns,NI ws sp n):NR ws sp ns ns:=⟨h,rfl,λ _ _ _ h=>h⟩
def NR.len {ws:List Wri} {sp:List ByteArray} {ns ns':List Nod} (h:NR ws sp ns ns'):ns'.length=ns.length:=by
 have:=congrArg length h.2.1;rwa [Wh,Wh]at this
def Lk {α:Type} {l:List α} {i j:Nat} {x d:α} (hj:j<l.length):(l.set i x).getD j d=if i=j then x else l.getD j d:=by
 rw[Vb,List.getElem?_set]
 by_cases h:i=j
 ·subst h;rw[if_pos rfl,if_pos rfl,if_pos hj];rfl
 ·rw[if_neg h,if_neg h,Vb]
def Lea {ns:List Nod} {i:Nat} {n:Nod} (hi:i<ns.length) (h:n.1=(ns.getD i Au).1):(ns.set i n).map (·.1)=ns.map (·.1):=by
 refine K4b (by simp) (λ j h1 h2=>?_);rw[Wh,Vw]at h1;rw[Jfb,Jfb,K5b]
 by_cases hij:i=j
 ·subst hij;rw[if_pos rfl,h,Vb,Vk hi];rfl
 ·rw[if_neg hij]
def NR.set {ws:List Wri} {sp:List ByteArray} {ns ns':List Nod} (h:NR ws sp ns ns') {i:Nat} (hi:i<ns'.length) {n:Nod} (h1:NI ws sp n) (h2:n.1=(ns'.getD i Au).1) (h3:MO sp (ns'.getD i Au).2.1 n.2.1):NR ws sp ns (ns'.set i n):=by
 obtain⟨g1,g2,g3⟩:=h;refine⟨λ m hm=>?_,by rw[Lea hi h2,g2],λ s hs st hk=>?_⟩
 ·rcases Yc hm with hm|rfl
  ·exact g1 m hm
  ·exact h1
 ·obtain⟨j,hj,hd⟩:=g3 s hs st hk;refine⟨j,by rw[Vw];exact hj,?_⟩;rw[Lk hj]
  by_cases hij:i=j
  ·subst hij;rw[if_pos rfl];exact h3 s hs st hd
  ·rw[if_neg hij];exact hd
section
variable {ws:List Wri} {sp:List ByteArray} {n:Nod} {s:ByteArray} {f:Fil}
def Czb (hw:Ira ws) (h:NI ws sp n) (hf:IsW ws s f) (sure:Bool):NI ws sp (Xi n s f sure).1∧(Xi n s f sure).1.1=n.1∧MO sp n.2.1 (Xi n s f sure).1.2.1:=by
 obtain⟨g1,g2,g3⟩:=hf.good hw;obtain⟨h1,h2,h3,h4⟩:=h;have hg:=Nqa (sure:=sure) h1 g1 g2;obtain⟨k1,k2⟩:=Vea (sure:=sure) hw h1.g h2 hf;unfold Xi at hg ⊢;cases hq:(n.2.2.2.length:Int)==60
 case true=>exact⟨⟨h1,h2,h3,h4⟩,rfl,MO.refl _ _⟩
 rw[hq]at hg;refine⟨⟨hg,k1,h3,?_⟩,rfl,k2⟩
 show ∀ r∈bif (keep n.2.1 s f sure).2==0&&sure then n.2.2.2++[Bka s f] else n.2.2.2,Cja ws r=true
 cases (keep n.2.1 s f sure).2==0&&sure
 ·exact h4
 intro r hr;rcases Vp.1 hr with hr|hr
 ·exact h4 r hr
 ·rw[Vu.1 hr];exact Ywa hf
def D0b (hw:Ira ws) (h:NI ws sp n) (hf:IsW ws s f) (hc:(Xi n s f true).2=0∨(Xi n s f true).2=1):HD (Xi n s f true).1.2.1 s f.1:=by
 unfold Xi at hc ⊢
 cases hq:((n.2.2.2.length:Int)==60) with
 |true=>rw[hq]at hc;rcases hc with hc|hc<;>cases hc
 |false=>rw[hq]at hc;exact Vfa hw h.1.g hf hc
def Gnb (h:NI ws sp n) {l:List Row} (hl:Ko l=true) (hr:∀ r∈l,Cja ws r=true):NI ws sp (tk n l).2∧(tk n l).2.1=n.1∧(tk n l).2.2.1=n.2.1:=by
 obtain⟨h1,h2,h3,h4⟩:=h;have hg:=Glb h1 hl;unfold tk at hg ⊢;cases hq:decide ((Tl n.2.2.1 l).length > 60)
 case true=>exact⟨⟨h1,h2,h3,h4⟩,rfl,rfl⟩
 rw[hq]at hg;exact⟨⟨hg,h2,λ r hr'=>(N2a hr').elim (h3 r) (hr r),h4⟩,rfl,rfl⟩
end
def Fib {ws:List Wri} {sp:List ByteArray} {ns:List Nod} {R:Int} {rc:List Int} {s:ByteArray} {f:Fil} {cs:List Int} {a:List Nod×Int×Int} {j:Nat} (hw:Ira ws) (hf:IsW ws s f)
  (h:NR ws sp ns a.1∧(s∉sp→a.2.2≥1→KN a.1 s f.1)∧a.2.2≥0) (hc:(cs.getD j 0).toNat<ns.length):
  NR ws sp ns (wst R rc s f cs a j).1∧(s∉sp→(wst R rc s f cs a j).2.2≥1→KN (wst R rc s f cs a j).1 s f.1)∧(wst R rc s f cs a j).2.2≥0:=by
 obtain⟨h1,h2,h3⟩:=h;unfold wst;cases decide (a.2.1<R)
 ·exact⟨h1,h2,h3⟩
 cases rch rc j==0
 case true=>exact⟨h1,h2,h3⟩
 rw[cond_true,cond_false]
 have hi:(cs.getD j 0).toNat<a.1.length:=by rw[h1.len];exact hc
 generalize (cs.getD j 0).toNat=i at *;have hn:=h1.1 _ (A4 (d:=Au) hi);obtain⟨p1,p2,p3⟩:=Czb hw hn hf (rch rc j != 3);refine⟨h1.set hi p1 p2 p3,λ hs hg=>?_,?_⟩
 ·cases hr:rch rc j==1&&((Xi (a.1.getD i Au) s f (rch rc j != 3)).2==0||(Xi (a.1.getD i Au) s f (rch rc j != 3)).2==1) with
  |true=>
   rw[Va,Hlb,beq_iff_eq,beq_iff_eq,beq_iff_eq]at hr
   have e:(rch rc j != 3)=true:=by rw[hr.1];rfl
   rw[e]at hr ⊢;refine⟨i,by rw[Vw];exact hi,?_⟩;rw[Lk hi,if_pos rfl];exact D0b hw hn hf hr.2
  |false=>
   rw[hr]at hg;obtain⟨m,hm,hd⟩:=h2 hs hg;refine⟨m,by rw[Vw];exact hm,?_⟩;rw[Lk hm]
   by_cases hij:i=m
   ·subst hij;rw[if_pos rfl];exact p3 s hs _ hd
   ·rw[if_neg hij];exact hd
 ·dsimp only;cases rch rc j==1&&((Xi (a.1.getD i Au) s f (rch rc j != 3)).2==0||(Xi (a.1.getD i Au) s f (rch rc j != 3)).2==1)
  ·exact h3
  ·rw[cond_true];omega
def Fjb {ws:List Wri} {sp:List ByteArray} {w:Wld} {rc:List Int} {s:ByteArray} {f:Fil} (hw:Ira ws) (hf:IsW ws s f) (hn:∀ n∈w.2.2.1,NI ws sp n):
  NR ws sp w.2.2.1 (wrN w s f rc).1∧(s∉sp→(wrN w s f rc).2.2≥1→KN (wrN w s f rc).1 s f.1)∧(wrN w s f rc).2.2≥0:=
 Ms (λ _ (a:List Nod×Int×Int)=>NR ws sp w.2.2.1 a.1∧(s∉sp→a.2.2≥1→KN a.1 s f.1)∧a.2.2≥0) ⟨NR.refl hn,λ _ h=>absurd h (show ¬ (0:Int)≥1 by omega),Hmb _⟩
  (λ j b hj hb=>Fib hw hf hb (by have:=Tx (A4 (d:=0) hj);omega))
def Fkb {ws:List Wri} {sp:List ByteArray} {ns:List Nod} {rc:List Int} {s:ByteArray} {f:Fil} {ps:List Int} {a:List Nod×Bool×Bool} {src j:Nat} (hw:Ira ws) (hf:IsW ws s f) (hsrc:src<ns.length)
  (h:NR ws sp ns a.1∧(a.2.1=false→a.1.getD src Au=ns.getD src Au∧(a.2.2=true→0<j→∃ i,i≠src∧i<ns.length∧HD (a.1.getD i Au).2.1 s f.1))) (hc:(ps.getD j 0).toNat<ns.length) (hc0:0≤ps.getD j 0):
  NR ws sp ns (pst (src:Int) s f rc ps a j).1∧((pst (src:Int) s f rc ps a j).2.1=false→(pst (src:Int) s f rc ps a j).1.getD src Au=ns.getD src Au∧((pst (src:Int) s f rc ps a j).2.2=true→0<j+1→∃ i,i≠src∧i<ns.length∧HD ((pst (src:Int) s f rc ps a j).1.getD i Au).2.1 s f.1)):=by
 obtain⟨h1,h2⟩:=h;unfold pst;cases hz:ps.getD j 0==(src:Int)
 case true=>exact⟨h1,λ c=>by cases c⟩
 have hne:(ps.getD j 0).toNat≠src:=by
  have:=beq_eq_false_iff_ne.1 hz;omega
 cases hr:rch rc j != 1
 case true=>exact⟨h1,λ c=>⟨(h2 c).1,λ c'=>by cases c'⟩⟩
 rw[cond_false,cond_false]
 have hi:(ps.getD j 0).toNat<a.1.length:=by rw[h1.len];exact hc
 generalize (ps.getD j 0).toNat=i at *;have hn:=h1.1 _ (A4 (d:=Au) hi);obtain⟨k1,k2⟩:=Vea (sure:=true) hw hn.1.g hn.2.1 hf;refine⟨h1.set hi ⟨Fla hn.1,k1,hn.2.2⟩ rfl k2,λ c=>⟨?_,λ c' _=>?_⟩⟩
 ·show (a.1.set i _).getD src Au=_;rw[Lk (by rw[h1.len];exact hsrc),if_neg hne];exact(h2 c).1
 ·refine⟨i,hne,hc,?_⟩;show HD ((a.1.set i _).getD i Au).2.1 s f.1;rw[Lk hi,if_pos rfl];refine Vfa hw hn.1.g hf ?_
  cases hk:(keep (a.1.getD i Au).2.1 s f true).2 != 0&&(keep (a.1.getD i Au).2.1 s f true).2 != 1 with
  |true=>
   have:(bif (keep (a.1.getD i Au).2.1 s f true).2 != 0&&(keep (a.1.getD i Au).2.1 s f true).2 != 1 then false else a.2.2)=true:=c';rw[hk]at this;cases this
  |false=>
   rw[J9b,bne,bne,Wi,Wi,beq_iff_eq,beq_iff_eq]at hk;exact hk
def Flb {ws:List Wri} {sp:List ByteArray} {w:Wld} {rc:List Int} {s:ByteArray} {i:Nat} (hw:Ira ws) (hn:∀ n∈w.2.2.1,NI ws sp n) (hi:i<w.2.2.1.length) (hf:IsW ws s (lkD (w.2.2.1.getD i Au).2.1 s).1):
  NR ws sp w.2.2.1 (puN w i s rc).1∧((puN w i s rc).2.1=false→(puN w i s rc).1.getD i Au=w.2.2.1.getD i Au∧((puN w i s rc).2.2=true→0<(O8 w s).length→∃ j,j≠i∧j<w.2.2.1.length∧HD ((puN w i s rc).1.getD j Au).2.1 s (lkD (w.2.2.1.getD i Au).2.1 s).1.1)):=
 Ms (λ n (a:List Nod×Bool×Bool)=>NR ws sp w.2.2.1 a.1∧(a.2.1=false→a.1.getD i Au=w.2.2.1.getD i Au∧(a.2.2=true→0<n→∃ j,j≠i∧j<w.2.2.1.length∧HD (a.1.getD j Au).2.1 s (lkD (w.2.2.1.getD i Au).2.1 s).1.1))) ⟨NR.refl hn,λ _=>⟨rfl,λ _ c=>absurd c (Nat.lt_irrefl _)⟩⟩
  (λ j b hj hb=>Fkb hw hf hi hb (by have:=Pn (A4 (d:=0) hj);omega) (Pn (A4 (d:=0) hj)).1)
def Isa {w:Wld} {s:ByteArray} (hr:Jf w.2.1 w.1=true) (hid:w.2.2.1.map (·.1)=w.1.map (·.1)):0<(O8 w s).length:=by
 obtain⟨_,p2,p3⟩:=Fda hr s;have h5:=(D6.1 hr).2.1;obtain⟨id,hidm⟩:=I9b (l:=X4 w.2.1 s) (by omega);have:=S7.1 (p3 id hidm);rw[← hid]at this;obtain⟨n,hn,rfl⟩:=Zc.1 this;obtain⟨j,hj,rfl⟩:=Zl.1 hn;have hm:(j:Int)∈O8 w s:=Fja.2 ⟨j,hj,by rw[Vb,Vk hj];exact hidm,rfl⟩;exact Icb hm
def Oca {ws:List Wri} {sp:List ByteArray} {w:Wld} {rc:List Int} {s:ByteArray} {i:Nat} (hw:Ira ws) (hn:∀ n∈w.2.2.1,NI ws sp n) (hi:i<w.2.2.1.length) (hr:Jf w.2.1 w.1=true) (hid:w.2.2.1.map (·.1)=w.1.map (·.1)):
  ∃ ns,(V1 w i s rc).2=wN w ns∧NR ws sp w.2.2.1 ns:=by
 have hni:=hn _ (A4 (d:=Au) hi);unfold V1;cases hl:(lkD (w.2.2.1.getD i Au).2.1 s).2 != 0
 case true=>exact⟨w.2.2.1,rfl,NR.refl hn⟩
 rw[bne,Wi,beq_iff_eq]at hl;obtain⟨b,hb,hg⟩:=Pa.1 (show lkD (w.2.2.1.getD i Au).2.1 s=((lkD (w.2.2.1.getD i Au).2.1 s).1,0) from by rw[← hl]);have hf:IsW ws s (lkD (w.2.2.1.getD i Au).2.1 s).1:=(((hni.2.1 s).1 b hb).get hw hg).1;obtain⟨h1,h2⟩:=Flb (rc:=rc) hw hn hi hf;refine⟨_,rfl,?_⟩;cases hc:(puN w i s rc).2.2&&!(puN w i s rc).2.1
 ·exact h1
 rw[Va,Vv]at hc;obtain⟨h3,h4⟩:=h2 hc.2;obtain⟨j,hj,hjl,hd⟩:=h4 hc.1 (Isa hr hid);rw[cond_true,h3];obtain⟨g1,_,_⟩:=hf.good hw
 have hi':i<(puN w i s rc).1.length:=by rw[h1.len];exact hi
 obtain⟨o1,o2⟩:=Fgb (s:=s) hni.1.g hni.2.1 g1;refine⟨λ m hm=>?_,by rw[Lea hi' (by rw[h3];rfl),h1.2.1],λ t ht st hk=>?_⟩
 ·rcases Yc hm with hm|rfl
  ·exact h1.1 m hm
  ·exact⟨Ajb hni.1 g1,o1,hni.2.2⟩
 ·obtain⟨m,hm,hh⟩:=h1.2.2 t ht st hk
  by_cases hmi:m=i
  ·subst hmi;rw[h3]at hh
   by_cases hts:t=s
   ·subst hts;obtain⟨b',f',e1,e2,e3⟩:=(hni.2.1 t).ge ht hh;rw[hb]at e1;cases e1;rw[hg]at e2;cases e2;obtain⟨c,g,k1,k2,k3⟩:=hd;refine⟨j,by rw[Vw,h1.len];exact hjl,?_⟩;rw[Lk (by rw[h1.len];exact hjl),if_neg (Itb hj)];exact⟨c,g,k1,k2,Xn k3 e3⟩
   ·refine⟨m,by rw[Vw];exact hm,?_⟩;rw[Lk hm,if_pos rfl];exact o2 t hts st hh
  ·refine⟨m,by rw[Vw];exact hm,?_⟩;rw[Lk hm,if_neg (Itb hmi)];exact hh
def Oda {ws:List Wri} {sp:List ByteArray} {w:Wld} {src:Int} {l:List Row} {self:Bool} {rc:List Int} (hn:∀ n∈w.2.2.1,NI ws sp n) (hl:Ko l=true) (hr:∀ r∈l,Cja ws r=true):NR ws sp w.2.2.1 (Me w src l self rc).1:=by
 refine Ms (λ _ (a:List Nod×Bool)=>NR ws sp w.2.2.1 a.1) (NR.refl hn) (λ j b hj hb=>?_);have hc:=Ow (A4 (d:=0) hj);unfold gst;cases (Fv w).getD j 0==src&&!self
 case true=>exact hb
 cases rch rc j != 1
 case true=>exact hb
 have hi:((Fv w).getD j 0).toNat<b.1.length:=by rw[hb.len];omega
 obtain⟨t1,t2,t3⟩:=Gnb (hb.1 _ (A4 (d:=Au) hi)) hl hr;exact hb.set hi t1 t2 (by rw[t3];exact MO.refl _ _)
def Yxa {ws:List Wri} {sp:List ByteArray} {w:Wld} {rc:List Int} {i:Nat} (hn:∀ n∈w.2.2.1,NI ws sp n) (hi:i<w.2.2.1.length):∃ ns,(X6 w i rc).2=wN w ns∧NR ws sp w.2.2.1 ns:=by
 have hni:=hn _ (A4 (d:=Au) hi);have hl:=(Bw.1 hni.1.1).2.2.2.1;unfold X6;cases ((w.2.2.1.getD i Au).2.2.1.length:Int)==0
 case true=>exact⟨w.2.2.1,rfl,NR.refl hn⟩
 refine⟨_,rfl,?_⟩;have hg:NR ws sp w.2.2.1 (Om w i rc).1:=Oda hn hl hni.2.2.1;cases (Om w i rc).2&&!(O7 (Fv (wN w (Om w i rc).1)) (i:Int))
 ·exact hg
 have hi':i<(Om w i rc).1.length:=by rw[hg.len];exact hi
 have hm:=hg.1 _ (A4 (d:=Au) hi');exact hg.set hi' ⟨Oba hm.1,hm.2.1,(λ _ h=>nomatch h),hm.2.2.2⟩ rfl (MO.refl _ _)
def Yya {ws:List Wri} {sp:List ByteArray} {w:Wld} {rc:List Int} {i:Nat} (hn:∀ n∈w.2.2.1,NI ws sp n) (hi:i<w.2.2.1.length):∃ ns,(X7 w i rc).2=wN w ns∧NR ws sp w.2.2.1 ns:=by
 have hni:=hn _ (A4 (d:=Au) hi);obtain⟨hq,_,_,_,hq60⟩:=Bw.1 hni.1.1;unfold X7;cases ((w.2.2.1.getD i Au).2.2.2.length:Int)==0
 case true=>exact⟨w.2.2.1,rfl,NR.refl hn⟩
 refine⟨_,rfl,?_⟩;have hg:NR ws sp w.2.2.1 (Pc w i rc).1:=Oda hn (R7 hq) (λ r hr=>hni.2.2.2 r (Hnb hr));cases (Pc w i rc).2
 ·exact hg
 have hi':i<(Pc w i rc).1.length:=by rw[hg.len];exact hi
 have hm:=hg.1 _ (A4 (d:=Au) hi');exact hg.set hi' ⟨Alb hm.1 (λ r hr=>hq r (Zk hr)) (by rw[Wc];omega),hm.2.1,hm.2.2.1,λ r hr=>hni.2.2.2 r (Zk hr)⟩ rfl (MO.refl _ _)

structure WI (w:Wld):Prop where
 ring:Jf w.2.1 w.1=true
 ids:w.2.2.1.map (·.1)=w.1.map (·.1)
 nodes:∀ n∈w.2.2.1,NI w.2.2.2.2.1 w.2.2.2.2.2 n
 clk:Gz w.2.2.2.1=true
 wlen:w.2.2.2.2.1.length≤200
 wok:Ira w.2.2.2.2.1
 wge:∀ x∈w.2.2.2.2.1,sle w.2.2.2.1 x.2.1.1=false
 asc:w.2.2.2.2.1.Pairwise (λ a b=>sle a.2.1.1 b.2.1.1=true)
 kept:∀ x∈w.2.2.2.2.1,x.2.2=true→x.1∉w.2.2.2.2.2→KN w.2.2.1 x.1 x.2.1.1
 sps:TS w.2.2.2.2.2
 spw:∀ s∈w.2.2.2.2.2,∃ x∈w.2.2.2.2.1,x.1=s
theorem Gob:LawfulBEq ByteArray := { eq_of_beq:=λ {a b} h=>Km.1 (by rw[← Ewa];exact h),rfl:=λ {a}=>by rw[Ewa];exact Km.2 rfl }
def Ita:∀ (p q:List ByteArray),p.Nodup→(∀ x∈p,x∈q)→p.length≤q.length
 |[],_,_,_=>Vq _
 |x::p,q,h,hs=>by
  haveI:=Gob;obtain⟨h1,h2⟩:=Yu.1 h;have hx:=hs x Yv;have hlen:(q.erase x).length=q.length-1:=Iqb hx;have hpos:=Icb hx;have:=Ita p (q.erase x) h2 (λ y hy=>(Jhb (λ c=>by subst c;exact h1 hy)).2 (hs y (Vi _ hy)));rw[Vd];omega
namespace WI
variable {w:Wld}
def splen (h:WI w):w.2.2.2.2.2.length≤200:=by
 have hn:w.2.2.2.2.2.Nodup:=h.sps.imp (λ {a b} hab e=>by subst e;rw[M0]at hab;cases hab)
 have:=Ita _ (w.2.2.2.2.1.map (·.1)) hn (λ s hs=>by
  obtain⟨x,hx,e⟩:=h.spw s hs
  exact Zc.2 ⟨x,hx,e⟩)
 rw[Wh]at this;have:=h.wlen;omega
def nlen (h:WI w):w.2.2.1.length=w.1.length:=by
 have:=congrArg length h.ids;rwa [Wh,Wh]at this
def dlen (h:WI w):1≤w.1.length∧w.1.length≤12:=(H1.1 (D6.1 h.ring).1).2.2
def ns (h:WI w):NS w.2.2.1:=⟨by have:=h.nlen;have:=h.dlen;omega,λ n hn=>(h.nodes n hn).1⟩
def win (h:WI w):WIn w:=by
 have h1:=h.nlen;have h2:=h.dlen;have h3:=h.wlen;have h4:=h.splen;refine⟨N6 h.ring,by omega,⟨by omega,λ n hn=>Sy (h.nodes n hn).1⟩,⟨by omega,λ x hx=>Jc (h.wok x hx).1⟩,by omega,λ s hs=>?_⟩;obtain⟨x,hx,e⟩:=h.spw s hs;rw[← e];exact Jc (h.wok x hx).1
def other (h:WI w) {ns:List Nod} (hn:NR w.2.2.2.2.1 w.2.2.2.2.2 w.2.2.1 ns):WI (wN w ns):=
 ⟨h.ring,hn.2.1.trans h.ids,hn.1,h.clk,h.wlen,h.wok,h.wge,h.asc,λ x hx hk hs=>hn.2.2 _ hs _ (h.kept x hx hk hs),h.sps,h.spw⟩
def other' (h:WI w) {r:Bool×Wld} (hr:∃ ns,r.2=wN w ns∧NR w.2.2.2.2.1 w.2.2.2.2.2 w.2.2.1 ns):WI r.2:=by
 obtain⟨ns,e,hn⟩:=hr;rw[e];exact h.other hn
def write (h:WI w) {s:ByteArray} {f:Fil} {rc:List Int} (hs:B1 s=true) (hf:Ej f=true) (hb:Aj f.2.2) (hc:sle w.2.2.2.1 f.1=true) (hl:w.2.2.2.2.1.length<200):WI (Bwa (w.1,w.2.1,w.2.2.1,f.1,w.2.2.2.2) s f rc).2:=by
 obtain⟨g1,g2,g3⟩:=Fjb (ws:=w.2.2.2.2.1++[(s,f,decide ((wrN (w.1,w.2.1,w.2.2.1,f.1,w.2.2.2.2) s f rc).2.2≥quo w.2.1.1))]) (sp:=w.2.2.2.2.2) (w:=(w.1,w.2.1,w.2.2.1,f.1,w.2.2.2.2)) (rc:=rc) (s:=s) (f:=f)
  (λ x hx=>by
   rcases Vp.1 hx with hx|hx
   ·exact h.wok x hx
   ·rw[Vu.1 hx];exact⟨hs,hf,hb⟩)
  ⟨_,Vp.2 (.inr (Vu.2 rfl)),rfl,rfl⟩
  (λ n hn=>(h.nodes n hn).mono (λ x hx=>Vp.2 (.inl hx)) (λ _ h=>h))
 unfold Bwa;generalize wrN (w.1,w.2.1,w.2.2.1,f.1,w.2.2.2.2) s f rc=a at *
 have hq:quo w.2.1.1≥1:=by
  have:=(D6.1 h.ring).2.1;unfold quo;omega
 exact {
  ring:=h.ring
  ids:=g1.2.1.trans h.ids
  nodes:=g1.1
  clk:=(Kg.1 hf).1
  wlen:=by show (w.2.2.2.2.1++[_]).length≤200;rw[Ve];simp only[Vd,Vj];omega
  wok:=λ x hx=>by
   rcases Vp.1 hx with hx|hx
   ·exact h.wok x hx
   ·rw[Vu.1 hx];exact⟨hs,hf,hb⟩
  wge:=λ x hx=>by
   rcases Vp.1 hx with hx|hx
   ·exact Xn (S9 hc) (h.wge x hx)
   ·rw[Vu.1 hx];exact Kr _
  asc:=Ze.2 ⟨h.asc,J0b _ _,λ x hx y hy=>by
   rw[Vu.1 hy];have:=h.wge x hx;cases hxy:sle x.2.1.1 f.1
   case true=>rfl
   have:=Xn this hxy;rw[this]at hc
   cases hc⟩
  kept:=λ x hx hk hsp=>by
   rcases Vp.1 hx with hx|hx
   ·exact g1.2.2 _ hsp _ (h.kept x hx hk hsp)
   ·rw[Vu.1 hx]at hk hsp ⊢;have hk':a.2.2≥quo w.2.1.1:=of_decide_eq_true hk;exact g2 hsp (by omega)
  sps:=h.sps
  spw:=λ s hs=>by
   obtain⟨x,hx,e⟩:=h.spw s hs
   exact⟨x,Vp.2 (.inl hx),e⟩ }
def ask (h:WI w) {s:ByteArray} {f:Fil} {t:Int} {rc:List Int} (hb:Aj f.2.2) (hd:f.2.1=true→f.2.2=[]):WI (ask w s f t rc).2:=by
 unfold Vf.ask;cases hs:B1 s
 ·exact h
 rw[Zh,cond_false]
 by_cases hl:(f.2.2.length:Int) > 200
 ·rw[decide_eq_true hl];exact h
 ·rw[decide_eq_false hl,cond_false];cases inR t 0 1000000000
  ·exact h
  rw[Zh,cond_false];cases hw:(w.2.2.2.2.1.length:Int)==200
  case true=>exact h
  rw[cond_false];have hw':=beq_eq_false_iff_ne.1 hw;have hwl:=h.wlen;obtain⟨n1,n2⟩:=Fka h.clk t 0;cases he:(Oh w.2.2.2.1 t 0).1==w.2.2.2.1.1&&((Oh w.2.2.2.1 t 0).2.1==w.2.2.2.1.2.1&&(Oh w.2.2.2.1 t 0).2.2==w.2.2.2.1.2.2)
  case true=>exact h
  rw[cond_false]
  have hlt:sle w.2.2.2.1 (Oh w.2.2.2.1 t 0)=true:=by
   rcases n2 with n2|n2
   ·rw[n2,beq_self_eq_true,beq_self_eq_true,beq_self_eq_true]at he;cases he
   ·exact n2
  exact h.write (f:=(Oh w.2.2.2.1 t 0,f.2)) hs (Kg.2 ⟨n1,by show f.2.2.length≤200;omega,hd⟩) hb hlt (by omega)
def rot (h:WI w) {i:Nat} (hi:i<w.2.2.1.length) {s:ByteArray} {b:Int}:WI (Dpb w i s b).2:=by
 have hni:=h.nodes _ (A4 (d:=Au) hi);unfold Dpb;cases hr:(Nra (w.2.2.1.getD i Au) s b).2
 ·exact h
 have hg:=U7a (s:=s) (b:=b) hni.1;unfold Nra at hr hg ⊢;cases hc:N1 (w.2.2.1.getD i Au)&&((lkD (w.2.2.1.getD i Au).2.1 s).2==0&&(J5a (w.2.2.1.getD i Au).2.1 s b).2)
 ·rw[hc]at hr;cases hr
 rw[hc]at hg;rw[Va,Va,beq_iff_eq]at hc;obtain⟨d1,d2,f,hf⟩:=Fhb h.wok hni.1.g hni.2.1 hc.2.1 hc.2.2 (spl w.2.2.2.2.2 s) (λ t=>Fma);have hsub:∀ t∈w.2.2.2.2.2,t∈spl w.2.2.2.2.2 s:=λ t ht=>Fma.2 (.inr ht)
 have hN:NR w.2.2.2.2.1 (spl w.2.2.2.2.2 s) w.2.2.1 (w.2.2.1.set i ((w.2.2.1.getD i Au).1,(J5a (w.2.2.1.getD i Au).2.1 s b).1,(w.2.2.1.getD i Au).2.2)):=
  (NR.refl (λ n hn=>(h.nodes n hn).mono (λ _ h=>h) hsub)).set hi ⟨hg,d1,hni.2.2⟩ rfl d2
 exact {
  ring:=h.ring
  ids:=hN.2.1.trans h.ids
  nodes:=hN.1
  clk:=h.clk
  wlen:=h.wlen
  wok:=h.wok
  wge:=h.wge
  asc:=h.asc
  kept:=λ x hx hk hs=>hN.2.2 _ hs _ (h.kept x hx hk (λ c=>hs (hsub _ c)))
  sps:=Dra h.sps
  spw:=λ t ht=>by
   rcases Fma.1 ht with rfl|ht
   ·obtain⟨x,hx,e,_⟩:=hf;exact⟨x,hx,e⟩
   ·exact h.spw t ht }
def node (h:WI w) {i:Nat} (hi:i<w.2.2.1.length) {e:Evt}:WI (Iqa w e i).2:=by
 have hni:=h.nodes _ (A4 (d:=Au) hi);unfold Iqa;cases e.1==3
 case true=>exact h.other' (Oca h.wok h.nodes hi h.ring h.ids)
 cases e.1==4
 case true=>exact h.other' (Yxa h.nodes hi)
 cases e.1==5
 case true=>exact h.other' (Yya h.nodes hi)
 cases e.1==6 with
 |true=>
  obtain⟨c1,c2⟩:=Yva h.wok hni.1.g hni.2.1;exact h.other ((NR.refl h.nodes).set hi ⟨Uxa hni.1,c1,hni.2.2⟩ rfl c2)
 |false=>
  cases e.1==7 with
  |true=>exact h.other ((NR.refl h.nodes).set hi ⟨Fdb hni.1,Cxb hni.1.g hni.2.1 _,hni.2.2⟩ rfl (Cyb hni.1.g hni.2.1 _))
  |false=>exact h.rot hi
def weigh (h:WI w) {i t:Int}:WI (Lda w i t).2:=by
 unfold Lda;cases h1:inR i 0 ((w.1.length:Int)-1)
 ·exact h
 cases h2:inR t 1 1000
 ·exact h
 obtain⟨i0,i1⟩:=Et.1 h1;obtain⟨w0,w1⟩:=Et.1 h2;exact⟨(O1a (F8a h.ring (by omega) w0 w1)).1,h.ids.trans (F7a _ _ _).symm,h.nodes,h.clk,h.wlen,h.wok,h.wge,h.asc,h.kept,h.sps,h.spw⟩
def ev (h:WI w) {e:Evt} (hb:Aj e.2.2.2.1):WI (doW w e).2:=by
 have ae:∀ {q:Int×Wld},WI q.2→WI (Amb q).2:=λ {q} hq=>by
  unfold Amb
  cases q.1 != 2<;>exact hq
 unfold doW;cases e.1==1
 case true=>exact ae (h.ask hb (λ c=>by cases c))
 cases e.1==2
 case true=>exact ae (h.ask Ns (λ _=>rfl))
 cases e.1==3||(e.1==4||(e.1==5||(e.1==6||(e.1==7||e.1==8)))) with
 |true=>
  cases hi:inR e.2.1 0 ((w.2.2.1.length:Int)-1)
  ·exact h
  have:=Et.1 hi;exact h.node (by omega)
 |false=>
  cases e.1==9 with
  |true=>exact h.weigh
  |false=>exact h
end WI

def Gxb (l:List Dev) (last:Int):Prop:=l.Pairwise (λ a b=>a.1<b.1)∧∀ d∈l,(0≤d.1∧d.1≤last)∧(0≤d.2.1∧d.2.1≤20)∧1≤d.2.2∧d.2.2≤1000
def Vga (z:Int) (hz:1≤z∧z≤20):∀ (n:Nat) (i:Int) (l:List Dev) (last:Int) (c:Cur),i=n→n≤6→Dc c→Gxb l last→0≤last→last+2*n≤12→l.length+n≤6→
  Tot (λ k=>Hg k l z last i c) (λ r=>(∃ last,Gxb r.1 last∧last≤20)∧r.1.length=l.length+n∧Dc r.2):=by
 intro n
 induction n with
 |zero=>
  rintro i l last c rfl _ hc h h0 h1 _;refine Tot.succ ?_;simp (disch:=omega) only [Hg,dF];exact H4b ⟨⟨last,h,by omega⟩,rfl,hc⟩
 |succ n ih=>
  rintro i l last c rfl hn hc h h0 h1 hl;refine Tot.succ ?_;simp (disch:=omega) only [Hg,dT];obtain⟨x,c1,e1,hx,k1⟩:=M8 c hc [1,1,2] (by decide) (by decide);obtain⟨y,c2,e2,y0,y1,_,k2⟩:=B0 c1 k1 z (by omega);obtain⟨v,c3,e3,hv,k3⟩:=M8 c2 k2 [1,1,1,2,10,100] (by decide) (by decide);have y1:=y1 (by omega)
  have hx':1≤x∧x≤2:=by
   simp only[Vl,Zq,or_false]at hx;omega
  have hv':1≤v∧v≤1000:=by
   simp only[Vl,Zq,or_false]at hv;omega
  refine Hfb (Hgb (Q:=λ r=>r=(x,c1)) e1 rfl) ?_;refine Hfb (Hgb (Q:=λ r=>r=(y,c2)) e2 rfl) ?_;refine Hfb (Hgb (Q:=λ r=>r=(v,c3)) e3 rfl) ?_;simp (disch:=omega) only [w64];refine Hcb (by simp only[Vd,Vj];omega) ?_;refine(ih _ (l++[(last+x,y,v)]) (last+x) c3 (by omega) (by omega) k3 ⟨?_,?_⟩ (by omega) (by omega) (by rw[Ve];simp only[Vd,Vj];omega)).mono ?_
  ·refine Ze.2 ⟨h.1,J0b _ _,λ a ha b hb=>?_⟩;rw[Vu.1 hb];have:=(h.2 a ha).1.2;show a.1<last+x;omega
  ·intro d hd;rcases Vp.1 hd with hd|hd
   ·obtain⟨⟨a1,a2⟩,a3⟩:=h.2 d hd;exact⟨⟨a1,by omega⟩,a3⟩
   ·rw[Vu.1 hd];exact⟨⟨by show 0≤last+x;omega,Hmb _⟩,⟨y0,by show y≤20;omega⟩,hv'⟩
  ·rintro r ⟨g1,g2,g3⟩;refine⟨g1,?_,g3⟩;rw[g2,Ve];simp only[Vd,Vj];omega
def Q9a (c:Cur) (hc:Dc c):Tot (λ k=>H3 k c) (λ r=>Md r.1=true∧(2≤r.1.length∧r.1.length≤6)∧Dc r.2):=by
 unfold H3;obtain⟨x,c1,e1,x0,x1,_,k1⟩:=B0 c hc 4 (by decide);obtain⟨y,c2,e2,y0,y1,_,k2⟩:=B0 c1 k1 5 (by decide);have x1:=x1 (by decide);have y1:=y1 (by decide);refine Hfb (Hgb (Q:=λ r=>r=(x,c1)) e1 rfl) ?_;refine Hfb (Hgb (Q:=λ r=>r=(y,c2)) e2 rfl) ?_;simp (disch:=omega) only [w64];refine H5b (Vga (1+x) (by omega) (2+y).toNat (2+y) [] 0 c2 (by omega) (by omega) k2 ⟨List.Pairwise.nil,λ d hd=>(nomatch hd)⟩ (Int.le_refl _) (by omega) (by simp only[List.length_nil];omega)) ?_;rintro r ⟨⟨last,g1,g2⟩,g3,g4⟩;rw[List.length_nil]at g3;exact H4b ⟨H1.2 ⟨g1.1,λ d hd=>Og.2 ⟨⟨(g1.2 d hd).1.1,by have:=(g1.2 d hd).1.2;omega⟩,(g1.2 d hd).2⟩,by dsimp only;omega,by dsimp only;omega⟩,⟨by dsimp only;omega,by dsimp only;omega⟩,g4⟩
abbrev J7a:Wld:=(([]:List Dev),((0:Int),([]:List (List Int))),([]:List Nod),((0:Int),((0:Int),(0:Int))),([]:List Wri),([]:List ByteArray))
def Anb (d:Dev):Nod:=(d.1,([],[]),[],[])
def D1b (l:List Dev) (parts reps:Int):Wld:=(l,(build l parts reps).1,l.map Anb,(0,0,0),[],[])
def D2b {ws:List Wri} {sp:List ByteArray} {l:List Dev} (h:Md l=true) {d:Dev} (hd:d∈l):NI ws sp (Anb d):=by
 obtain⟨⟨i0,i1⟩,_⟩:=Og.1 ((H1.1 h).2.1 d hd);refine⟨⟨Bw.2 ⟨(λ r hr=>nomatch hr),⟨i0,i1⟩,dg0.1,X5,Vq _⟩,dg0.2⟩,λ s=>⟨λ b hb=>?_,λ b hb=>?_,λ _ b f hb=>?_⟩,(λ r hr=>nomatch hr),(λ r hr=>nomatch hr)⟩
 ·rw[show gt (Anb d).2.1.1 s=none from rfl]at hb;cases hb
 ·rw[show gt (Anb d).2.1.2 s=none from rfl]at hb;cases hb
 ·rw[show gt (Anb d).2.1.2 s=none from rfl]at hb;cases hb
def D3b {l:List Dev} {parts reps:Int} (hb:(build l parts reps).2=true):WI (D1b l parts reps):=by
 obtain⟨h1,h2,_,_⟩:=Nxa hb
 exact {
  ring:=h2
  ids:=by show (l.map Anb).map (·.1)=_;rw[Idb];rfl
  nodes:=λ n hn=>by
   obtain⟨d,hd,rfl⟩:=Zc.1 hn;exact D2b h1 hd
  clk:=rfl
  wlen:=Vq _
  wok:=λ x hx=>nomatch hx
  wge:=λ x hx=>nomatch hx
  asc:=List.Pairwise.nil
  kept:=λ x hx=>nomatch hx
  sps:=List.Pairwise.nil
  spw:=λ s hs=>nomatch hs }
def Iua (l:List Dev) (parts reps:Int) (hb:(build l parts reps).2=true):Tot (λ k=>Cn k l parts reps) (λ r=>r=D1b l parts reps):=by
 obtain⟨h1,_,_,_⟩:=Nxa hb;have h12:=(H1.1 h1).2.2.2;unfold Cn;refine Hfb (Uja l parts reps (by omega)) ?_;refine Hcb (by rw[Vj];omega) (H6b (by rw[hb];rfl) ?_);rw[Wa];refine H5b (Q:=λ r=>r=(J7a,D1b l parts reps)) ?_ (by rintro r rfl;exact H4b rfl);refine Hdb (L:=λ k i (s:List Nod)=>Eu k l i J7a (l,(build l parts reps).1,s,(0,0,0),[],[])) (Q:=λ r=>r=(J7a,D1b l parts reps)) l.length (λ j s=>s=(l.take j).map Anb) ?_ ?_ 0 [] (Vq _) rfl
 ·rintro s rfl;simp (disch:=omega) only [Eu,dF];exact H4b (by rw[Yn];rfl)
 ·rintro j s hj rfl next;have hd:=A4 (d:=Nu) hj;obtain⟨d,ed⟩:∃ d:Dev,l.getD j Nu=d:=⟨_,rfl⟩;rw[ed]at hd;have e0:l.getD j ((0:Int),((0:Int),(0:Int)))=d:=ed
  have e1:l[j]=d:=by rw[← ed,Vb,Vk hj];rfl
  have hid:=(Og.1 ((H1.1 h1).2.1 d hd)).1;simp (disch:=omega) only [Eu,dT,Vc,w64,e0,Bma,Vn]
  have hl:((l.take j).map Anb).length=j:=by rw[Wh,Vt];omega
  rw[Et.2 hid,cond_true];refine Hcb (by rw[hl];simp only[Vd,Vj];omega) (next _ ?_);rw[We hj,Hrb,e1];rfl
def Lfa (c:Cur) (hc:Dc c):Tot (λ k=>Kx k c) (λ r=>(∃ l p n,(build l p n).2=true∧r.1=D1b l p n)∧Dc r.2):=by
 unfold Kx;refine H5b (Q9a c hc) ?_;rintro⟨l,c1⟩ ⟨hl,hn,k1⟩;dsimp only at hl hn k1 ⊢;obtain⟨x,c2,e2,hx,k2⟩:=M8 c1 k1 [3,2,3,1] (by decide) (by decide);obtain⟨y,c3,e3,hy,k3⟩:=M8 c2 k2 [4,2,8] (by decide) (by decide)
 have hx':1≤x∧x≤3:=by
  simp only[Vl,Zq,or_false]at hx;omega
 have hy':1≤y∧y≤8:=by
  simp only[Vl,Zq,or_false]at hy;omega
 have one:∀ n:Int,1≤n→n≤5→n≤(l.length:Int)→Tot (λ k=>(Ac c2 [4,2,8]).bind λ r3=>(Cn k l r3.1 n).bind λ r4=>some (r4,r3.2)) (λ r=>(∃ l p n,(build l p n).2=true∧r.1=D1b l p n)∧Dc r.2):=by
  intro n n0 n5 nl
  have hb:(build l y n).2=true:=by
   unfold build;rw[hl,Et.2 (show 1≤y∧y≤64 by omega),Et.2 (show 1≤n∧n≤5 by omega),decide_eq_false (show ¬ n > (l.length:Int) by omega)];rfl
  refine Hfb (Hgb (Q:=λ r=>r=(y,c3)) e3 rfl) ?_;refine Hfb (Iua l y n hb) ?_;exact H4b ⟨⟨l,y,n,hb,rfl⟩,k3⟩
 refine Hfb (Hgb (Q:=λ r=>r=(x,c2)) e2 rfl) ?_;exact Hbb (λ h=>one (l.length:Int) (by omega) (by dsimp only at h;omega) (Int.le_refl _)) (λ h=>one x (by omega) (by omega) (by dsimp only at h;omega))
def Iva (c:Cur) (hc:Dc c):Tot (λ k=>Eg k c) (λ r=>r.1.length=6∧Dc r.2):=by
 unfold Eg;refine H5b (Q:=λ r=>r.1.length=6∧Dc r.2) ?_ (λ r h=>H4b h);refine Hdb (L:=λ k i (s:List Int×Cur)=>G8 k s.1 i s.2) (Q:=λ r=>r.1.length=6∧Dc r.2) 6 (λ j s=>s.1.length=j∧Dc s.2) ?_ ?_ 0 ([],c) (Vq _) ⟨rfl,hc⟩
 ·rintro s ⟨h1,h2⟩;simp (disch:=omega) only [G8,dF];exact H4b ⟨h1,h2⟩
 ·rintro j s hj ⟨h1,h2⟩ next;obtain⟨x,c1,e1,_,k1⟩:=M8 s.2 h2 [1,1,1,1,0,2,3] (by decide) (by decide);simp (disch:=omega) only [G8,dT,w64];refine Hfb (Hgb (Q:=λ r=>r=(x,c1)) e1 rfl) ?_;exact Hcb (by simp only[Vd,Vj];omega) (next (s.1++[x],c1) ⟨by rw[Ve,h1];rfl,k1⟩)
def Lga (c:Cur) (hc:Dc c):Tot (λ k=>Eg k c) (λ r=>r.1.length≤6∧Dc r.2):=(Iva c hc).mono λ r h=>⟨by have:=h.1;omega,h.2⟩
def Aob (r:Evt×Cur×Wld) (w:Wld):Prop:=Fxb r.1∧Aj r.1.2.2.2.1∧Dc r.2.1∧r.2.2=w
def D4b {d:Dsk} (hd:DIn d) (hb:DB d):Tot (λ k=>H2 k d) (λ r=>r.length≤2000000∧∀ t∈r,Lc t):=by
 refine(Yka d hd hb).mono ?_;rintro r rfl;obtain⟨a1,a2⟩:=Fab d.1 hd.1.2.1 d.1 0 [] (λ x hx=>hx) (λ y hy=>nomatch hy);have:=hd.2.1;rw[Vj]at a1;exact⟨by unfold Q5a;omega,a2⟩
def Vza (e:Evt):Prop:=e.1=1∨e.1=2→e.2.2.1∈Nj
def Fna (c:Cur) (w:Wld) (hc:Dc c) (hn1:1≤w.2.2.1.length) (hnl:w.2.2.1.length≤2000000) (hnn:∀ n∈w.2.2.1,NIn n):Tot (λ k=>F4 k c w w) (λ r=>Aob r w∧Vza r.1):=by
 unfold F4;obtain⟨i,c1,e1,i0,i1,_,k1⟩:=B0 c hc (w.2.2.1.length:Int) (by omega);have i1:=i1 (by omega);obtain⟨s,c2,e2,hs,k2⟩:=Od c1 k1;have hsn:=hs;have hs:=(Mp s hs).1;refine Hfb (Hgb (Q:=λ r=>r=(i,c1)) e1 rfl) ?_;refine Hfb (Hgb (Q:=λ r=>r=(s,c2)) e2 rfl) ?_;refine H5b (Lga c2 k2) ?_;rintro⟨rc,c3⟩ ⟨hrc,k3⟩;dsimp only at hrc k3 ⊢;obtain⟨n,c4,e4,_,_,_,k4⟩:=B0 c3 k3 20 (by decide);refine Hfb (Hgb (Q:=λ r=>r=(n,c4)) e4 rfl) ?_;dsimp only;have ok:∀ (kd:Int) (s:ByteArray) (l:List Int) (x:Int) (c:Cur),Lc s→Aj l→l.length≤2000000 → -9223372036854775808≤x→x≤9223372036854775807→Dc c→(kd=1∨kd=2→s∈Nj)→Aob ((kd,i,s,l,x,rc),c,w) w∧Vza (kd,i,s,l,x,rc):=λ kd s l x c h1 h2 h3 h4 h5 h6 h7=>⟨⟨⟨h1,by show l.length≤_;omega,⟨h4,h5⟩,by show rc.length≤_;omega⟩,h2,h6,rfl⟩,h7⟩;have plain:∀ kd:Int,Tot (λ _=>some ((kd,i,s,([]:List Int),(0:Int),rc),c4,w)) (λ r=>Aob r w∧Vza r.1):=λ kd=>H4b (ok kd s [] 0 c4 hs Ns (Nat.zero_le _) (by decide) (by decide) k4 λ _=>hsn)
 have put:Tot (λ k=>(A3 c4 2).bind λ r5=>(Dy k r5.2).bind λ r6=>some ((1,i,s,r6.1,wrap .i64 (w.2.2.2.1.1+r5.1),rc),r6.2,w)) (λ r=>Aob r w∧Vza r.1):=by
  obtain⟨x,c5,e5,x0,x1,_,k5⟩:=B0 c4 k4 2 (by decide);have x1:=x1 (by decide);refine Hfb (Hgb (Q:=λ r=>r=(x,c5)) e5 rfl) ?_;refine H5b (D7a c5 k5) ?_;rintro⟨l,c6⟩ ⟨g1,g2,g3⟩;dsimp only at g1 g2 g3 ⊢;have hw:=D6a (w.2.2.2.1.1+x);exact H4b (ok 1 s l _ c6 hs g2 (by omega) hw.1 hw.2 g1 λ _=>hsn)
 have drop:Tot (λ k=>(A3 c4 2).bind λ r17=>some ((2,i,s,([]:List Int),wrap .i64 (w.2.2.2.1.1+r17.1),rc),r17.2,w)) (λ r=>Aob r w∧Vza r.1):=by
  obtain⟨x,c5,e5,x0,x1,_,k5⟩:=B0 c4 k4 2 (by decide);have x1:=x1 (by decide);refine Hfb (Hgb (Q:=λ r=>r=(x,c5)) e5 rfl) ?_;have hw:=D6a (w.2.2.2.1.1+x);exact H4b (ok 2 s [] _ c5 hs Ns (Vq _) hw.1 hw.2 k5 λ _=>hsn)
 have rot:Tot (λ k=>(A3 c4 60).bind λ r31=>some ((8,i,s,([]:List Int),r31.1,rc),r31.2,w)) (λ r=>Aob r w∧Vza r.1):=by
  obtain⟨x,c5,e5,x0,x1,_,k5⟩:=B0 c4 k4 60 (by decide);have x1:=x1 (by decide);refine Hfb (Hgb (Q:=λ r=>r=(x,c5)) e5 rfl) ?_;exact H4b (ok 8 s [] x c5 hs Ns (Vq _) (by omega) (by omega) k5 λ _=>hsn)
 have ring:Tot (λ k=>(Ac c4 [1,2,10,1000]).bind λ r33=>some ((9,i,s,([]:List Int),r33.1,rc),r33.2,w)) (λ r=>Aob r w∧Vza r.1):=by
  obtain⟨x,c5,e5,hx,k5⟩:=M8 c4 k4 [1,2,10,1000] (by decide) (by decide);refine Hfb (Hgb (Q:=λ r=>r=(x,c5)) e5 rfl) ?_
  have hx':1≤x∧x≤1000:=by
   simp only[Vl,Zq,or_false]at hx;omega
  exact H4b (ok 9 s [] x c5 hs Ns (Vq _) (by omega) (by omega) k5 λ _=>hsn)
 have push:Tot (λ k=>cond (decide ((0:Int)≤i)) (cond (decide (i<(length w.2.2.1:Int))) ((H2 k (getD w.2.2.1 (toNat i) ((0:Int),(([],[]),([],[])))).2.1).bind λ r20=>cond (decide ((length r20:Int) > 0)) ((A3 c4 (length r20:Int)).bind λ r21=>cond (decide ((0:Int)≤r21.1)) (cond (decide (r21.1<(length r20:Int))) (some ((3,i,(getD r20 (toNat r21.1) (⟨#[]⟩:ByteArray)),([]:List Int),0,rc),r21.2,w)) none) none) (some ((3,i,s,([]:List Int),0,rc),c4,w))) none) none) (λ r=>Aob r w∧Vza r.1):=by
  refine H8b i0 (H8b i1 ?_);have hm:=hnn _ (A4 (d:=Au) (show i.toNat<w.2.2.1.length by omega));refine H5b (D4b hm.1.1 hm.1.2) ?_;rintro l ⟨hl,hl'⟩;refine Hbb (λ h0=>?_) (λ h0=>plain 3);obtain⟨x,c5,e5,x0,x1,_,k5⟩:=B0 c4 k4 (l.length:Int) (by omega);have x1:=x1 (by omega);refine Hfb (Hgb (Q:=λ r=>r=(x,c5)) e5 rfl) ?_;exact H8b x0 (H8b x1 (H4b (ok 3 _ [] 0 c5 (hl' _ (A4 (d:=Nw) (show x.toNat<l.length by omega))) Ns (Vq _) (by decide) (by decide) k5 (by omega))))
 refine Hab (λ _=>put) (λ _=>?_);refine Hab (λ _=>put) (λ _=>?_);refine Hab (λ _=>put) (λ _=>?_);refine Hab (λ _=>put) (λ _=>?_);refine Hab (λ _=>put) (λ _=>?_);refine Hab (λ _=>put) (λ _=>?_);refine Hab (λ _=>drop) (λ _=>?_);refine Hab (λ _=>drop) (λ _=>?_);refine Hab (λ _=>push) (λ _=>?_);refine Hab (λ _=>push) (λ _=>?_);refine Hab (λ _=>push) (λ _=>?_);refine Hab (λ _=>plain 5) (λ _=>?_);refine Hab (λ _=>plain 5) (λ _=>?_);refine Hab (λ _=>plain 4) (λ _=>?_);refine Hab (λ _=>plain 6) (λ _=>?_);refine Hab (λ _=>plain 7) (λ _=>?_);refine Hab (λ _=>plain 7) (λ _=>?_);refine Hab (λ _=>rot) (λ _=>?_);exact Hab (λ _=>rot) (λ _=>ring)
def D5b {w:Wld} (h:WI w) {e:Evt} (he:Fxb e):Tot (λ k=>Jd k w e) (λ r=>r=doW w e):=
 Feb w e he h.ring h.ns h.clk (by have:=h.wlen;omega) (by have:=h.splen;omega)
def Qaa {I:Wld→Prop} (hI:∀ w,I w→WI w) (hE:∀ w e,I w→Aj e.2.2.2.1→Vza e→I (doW w e).2):∀ (n:Nat) (i:Int) (c:Cur) (w:Wld),i=n→n≤1000→Dc c→I w→Tot (λ k=>Gb k i c J7a w) (λ r=>I r.2.1∧Dc r.2.2):=by
 intro n
 induction n with
 |zero=>
  rintro i c w rfl _ hc h;refine Tot.succ ?_;simp (disch:=omega) only [Gb,dF];exact H4b ⟨h,hc⟩
 |succ n ih=>
  rintro i c w rfl hn hc h;refine Tot.succ ?_;simp (disch:=omega) only [Gb,dT];have hw:=hI w h;refine H5b (Fna c w hc (by have:=hw.nlen;have:=hw.dlen;omega) hw.ns.1 hw.win.2.2.1.2) ?_;rintro⟨e,c1,w1⟩ ⟨⟨g1,g2,g3,g4⟩,g5⟩;dsimp only at g1 g2 g3 g4 g5 ⊢;subst g4;refine Hfb (D5b hw g1) ?_;rw[w64 (n:=((n+1:Nat):Int)-1) (by omega) (by omega)];exact ih _ c1 _ (by omega) (by omega) g3 (hE _ _ h g2 g5)
def Iwa {I:Wld→Prop} (hI:∀ w,I w→WI w) (hE:∀ w e,I w→Aj e.2.2.2.1→Vza e→I (doW w e).2) (hN:∀ l p n,(build l p n).2=true→I (D1b l p n)) (c:Cur) (hc:Dc c) (n:Int) (hn:n≤1000):Tot (λ k=>Eh k c n) (λ r=>I r.1∧Dc r.2):=by
 unfold Eh;refine H5b (Lfa c hc) ?_;rintro⟨w,c1⟩ ⟨⟨l,p,m,hb,e⟩,k1⟩;dsimp only at e k1 ⊢
 have h:I w:=by rw[e];exact hN l p m hb
 obtain⟨x,c2,e2,x0,x1,x2,k2⟩:=B0 c1 k1 n (by omega);refine Hfb (Hgb (Q:=λ r=>r=(x,c2)) e2 rfl) ?_
 refine H5b (Qaa hI hE x.toNat x c2 w (by omega) (by by_cases h:0<n<;>omega) k2 h) ?_
 rintro r hr;exact H4b hr
def Lha (c:Cur) (hc:Dc c) (n:Int) (hn:n≤1000):Tot (λ k=>Eh k c n) (λ r=>WI r.1∧Dc r.2):=Iwa (λ _ h=>h) (λ _ _ h hb _=>h.ev hb) (λ _ _ _ hb=>D3b hb) c hc n hn
def Yza (a:List Int) (hb:(a.length:Int)≤1048576) (m:Int) (hm:3≤m∧m≤1000):∃ n,Kw a m=some n∧3≤n∧n≤m:=by
 unfold Kw;rw[Htb (by omega),w64 (n:=(a.length:Int)/12) (by omega) (by omega),w64 (n:=3+(a.length:Int)/12) (by omega) (by omega)]
 by_cases h:3+(a.length:Int)/12 > m
 ·exact⟨m,by rw[decide_eq_true h];rfl,hm.1,Hmb _⟩
 ·exact⟨_,by rw[decide_eq_false h];rfl,by omega,by omega⟩

def WIm (m:Nat) (w:Wld):Prop:=RBd w.2.1∧w.1.length≤2000000∧(w.2.2.1.length≤2000000∧∀ n∈w.2.2.1,NIn n)∧(w.2.2.2.2.1.length≤m∧∀ x∈w.2.2.2.2.1,Lc x.1∧x.2.1.2.2.length≤2000000∧Aj x.2.1.2.2)∧(w.2.2.2.2.2.length≤m∧∀ s∈w.2.2.2.2.2,Lc s)
def WIm.win {m:Nat} {w:Wld} (h:WIm m w) (hm:m≤2000000):WIn w:=by
 obtain⟨h1,h2,⟨h3,h4⟩,⟨h5,h6⟩,h7,h8⟩:=h;exact⟨h1,h2,⟨h3,h4⟩,⟨by omega,λ x hx=>(h6 x hx).1⟩,by omega,h8⟩
def WIm.more {m n:Nat} {w:Wld} (h:WIm m w) (hm:m≤n):WIm n w:=by
 obtain⟨h1,h2,h3,⟨h5,h6⟩,h7,h8⟩:=h;exact⟨h1,h2,h3,⟨by omega,h6⟩,by omega,h8⟩
def WI.wim {w:Wld} (h:WI w):WIm 200 w:=by
 have hi:=h.win;have h2:=h.dlen;have h1:=h.nlen;exact⟨hi.1,hi.2.1,hi.2.2.1,⟨h.wlen,λ x hx=>⟨Jc (h.wok x hx).1,by have:=(Kg.1 (h.wok x hx).2.1).2.1;omega,(h.wok x hx).2.2⟩⟩,h.splen,hi.2.2.2.2.2⟩
def Ixa {f:Fil} (h:f.2.2.length≤2000000):Bs f=some f:=by
 unfold Bs;rw[bT (by simp only[Vj];omega),Wa]
def Vha {m:Nat} {w:Wld} (h:WIm m w) (hm:m≤2000000):Tot (λ k=>Dh k w) (λ r=>r=w):=by
 obtain⟨h1,h2,⟨h3,h4⟩,⟨h5,h6⟩,h7,h8⟩:=h;unfold Dh;refine Hcb (by rw[Vj];omega) (Hfb (Xk w.2.1 h1) ?_);refine Hcb (by rw[Vj];omega) ?_;rw[Wa,Wa];refine H5b (Q:=λ r=>r=(w,J7a,(w.1,w.2.1,w.2.2.1,w.2.2.2.1,[],w.2.2.2.2.2))) ?_ ?_
 ·refine Hdb (L:=λ k i (s:List Nod)=>Gd k i w J7a (w.1,w.2.1,s,w.2.2.2.1,[],w.2.2.2.2.2)) (Q:=λ r=>r=(w,J7a,(w.1,w.2.1,w.2.2.1,w.2.2.2.1,[],w.2.2.2.2.2))) w.2.2.1.length (λ j s=>s=w.2.2.1.take j) ?_ ?_ 0 [] (Vq _) rfl
  ·rintro s rfl;simp (disch:=omega) only [Gd,dF];exact H4b (by rw[Yn])
  ·rintro j s hj rfl next;have hm:=h4 _ (A4 (d:=Au) hj);have e0:w.2.2.1.getD j ((0:Int),(([],[]),([],[])))=w.2.2.1.getD j Au:=rfl
   have hl:(w.2.2.1.take j).length=j:=by rw[Vt];omega
   simp (disch:=omega) only [Gd,dT,Vc,w64,e0];refine Hfb (Of _ hm) ?_;refine Hcb (by rw[hl];simp only[Vd,Vj];omega) (next _ ?_);rw[We hj,Vb,Vk hj];rfl
 ·rintro r rfl;refine H5b (Q:=λ r=>r=(J7a,w)) ?_ (by rintro r rfl;exact H4b rfl);refine Hdb (L:=λ k i (s:List Wri)=>Gc k i w J7a (w.1,w.2.1,w.2.2.1,w.2.2.2.1,s,w.2.2.2.2.2)) (Q:=λ r=>r=(J7a,w)) w.2.2.2.2.1.length (λ j s=>s=w.2.2.2.2.1.take j) ?_ ?_ 0 [] (Vq _) rfl
  ·rintro s rfl;simp (disch:=omega) only [Gc,dF];exact H4b (by rw[Yn])
  ·rintro j s hj rfl next;have hm:=(h6 _ (A4 (d:=V0a) hj)).2.1;have e0:w.2.2.2.2.1.getD j ((⟨#[]⟩:ByteArray),((((0:Int),((0:Int),(0:Int))),(false,[])),false))=w.2.2.2.2.1.getD j V0a:=rfl
   have hl:(w.2.2.2.2.1.take j).length=j:=by rw[Vt];omega
   simp (disch:=omega) only [Gc,dT,Vc,w64,e0,Ixa hm,Vn];refine Hcb (by rw[hl];simp only[Vd,Vj];omega) (next _ ?_);rw[We hj,Vb,Vk hj];rfl
def WIp (m:Nat) (w:Wld):Prop:=WIm m w∧1≤w.2.2.1.length
def Oea {m:Nat} {w:Wld} (h:WIp m w) {i:Nat} {n:Nod} (hn:NIn n):WIp m (w.1,w.2.1,w.2.2.1.set i n,w.2.2.2):=by
 obtain⟨⟨h1,h2,⟨h3,h4⟩,h5⟩,h0⟩:=h;refine⟨⟨h1,h2,⟨by rw[Vw];exact h3,λ x hx=>?_⟩,h5⟩,by show 1≤(w.2.2.1.set i n).length;rw[Vw];exact h0⟩;rcases Yc hx with hx|rfl
 ·exact h4 x hx
 ·exact hn
def Z0a {m:Nat} {w:Wld} {c:Cur} (hc:Dc c) (h:WIp m w) (hm:m≤900):Tot (λ k=>Gj k c w w) (λ r=>WIp (m+1) r.1∧Dc r.2.1):=by
 have h':=h;obtain⟨⟨h1,h2,⟨h3,h4⟩,⟨h5,h6⟩,h7,h8⟩,h0⟩:=h';have hw:WIp (m+1) w:=⟨h.1.more (Nat.le_succ m),h.2⟩;unfold Gj;refine H5b (Vha (w:=w) h.1 (by omega)) ?_;rintro r rfl;refine H8b (by omega) ?_;obtain⟨i,c1,e1,i0,i1,_,k1⟩:=B0 c hc (r.2.2.1.length:Int) (by omega);have i1:=i1 (by omega);refine H5b (Hgb (Q:=λ r=>r=(i,c1)) e1 rfl) ?_;rintro _ rfl;obtain⟨x,c2,e2,_,_,_,k2⟩:=B0 c1 k1 10 (by decide);refine H5b (Hgb (Q:=λ r=>r=(x,c2)) e2 rfl) ?_;rintro _ rfl;dsimp only;refine Hab (λ _=>?_) (λ _=>?_)
 ·obtain⟨y,c3,e3,_,k3⟩:=M8 c2 k2 [0,1,2,6] (by decide) (by decide);refine H5b (Hgb (Q:=λ r=>r=(y,c3)) e3 rfl) ?_;rintro _ rfl;exact H4b ⟨⟨⟨h1,hw.1.2⟩,h0⟩,k3⟩
 refine Hab (λ _=>?_) (λ _=>?_)
 ·refine H8b (by omega) (H5b (Uaa c2 k2) ?_);rintro⟨n,c3⟩ ⟨g1,g2⟩;exact H8b i0 (H8b i1 (H4b ⟨Oea hw g1,g2⟩))
 refine Hab (λ _=>?_) (λ _=>?_)
 ·obtain⟨y,c3,e3,k3⟩:=Noa c2 k2;refine H5b (Hgb (Q:=λ r=>r=(y,c3)) e3 rfl) ?_;rintro _ rfl;exact H4b ⟨hw,k3⟩
 refine Hab (λ _=>?_) (λ _=>?_)
 ·refine Hbb (λ _=>H8b (by omega) (H4b ⟨⟨⟨h1,h2,⟨h3,h4⟩,⟨by dsimp only;rw[List.length_drop];omega,λ x hx=>h6 x (List.mem_of_mem_drop hx)⟩,by dsimp only;omega,h8⟩,h0⟩,k2⟩)) (λ _=>H4b ⟨hw,k2⟩)
 refine Hab (λ _=>?_) (λ _=>?_)
 ·obtain⟨s,c3,e3,hs,k3⟩:=Qw c2 k2;refine H5b (Hgb (Q:=λ r=>r=(s,c3)) e3 rfl) ?_;rintro _ rfl;refine H5b (U3a c3 k3) ?_;rintro⟨f,c4⟩ ⟨⟨g0,g1⟩,k4⟩;refine Hcb (by simp only[List.length_cons,List.length_nil];omega) (H4b ⟨⟨⟨h1,h2,⟨h3,h4⟩,⟨by dsimp only;rw[List.length_append];simp only[List.length_cons,List.length_nil];omega,λ x hx=>?_⟩,by dsimp only;omega,h8⟩,h0⟩,k4⟩);rcases List.mem_append.1 hx with hx|hx
  ·exact h6 x hx
  ·rw[Vu.1 hx];exact⟨hs,g1,g0⟩
 refine Hab (λ _=>?_) (λ _=>?_)
 ·obtain⟨s,c3,e3,hs,k3⟩:=Qw c2 k2;refine H5b (Hgb (Q:=λ r=>r=(s,c3)) e3 rfl) ?_;rintro _ rfl;refine Hcb (by simp only[List.length_cons,List.length_nil];omega) (H4b ⟨⟨⟨h1,h2,⟨h3,h4⟩,⟨by dsimp only;omega,h6⟩,by dsimp only;rw[List.length_append];simp only[List.length_cons,List.length_nil];omega,λ x hx=>?_⟩,h0⟩,k3⟩);rcases List.mem_append.1 hx with hx|hx
  ·exact h8 x hx
  ·rw[Vu.1 hx];exact hs
 refine Hab (λ _=>?_) (λ _=>?_)
 ·have hm:=h4 _ (A4 (d:=Au) (show i.toNat<r.2.2.1.length by omega));refine H8b (by omega) (H8b i0 (H8b i1 (H4b ⟨Oea hw ⟨⟨Nk dg0.1,dg0.2⟩,hm.2⟩,k2⟩)))
 refine Hab (λ _=>?_) (λ _=>H4b ⟨hw,k2⟩);refine Hbb (λ hd=>?_) (λ _=>H4b ⟨hw,k2⟩);obtain⟨y,c3,e3,_,k3⟩:=M8 c2 k2 [0,5,21] (by decide) (by decide);refine H5b (Hgb (Q:=λ r=>r=(y,c3)) e3 rfl) ?_;rintro _ rfl;exact H8b (by omega) (H4b ⟨⟨⟨h1,by dsimp only;rw[List.length_set];exact h2,hw.1.2.2⟩,h0⟩,k3⟩)
def Qba (c:Cur) (hc:Dc c) (n:Int) (hn:n≤1000):Tot (λ k=>L7 k c n) (λ r=>WIp 201 r.1∧Dc r.2):=by
 unfold L7;refine H5b (Lha c hc n hn) ?_;rintro⟨w,c1⟩ ⟨h,k1⟩;dsimp only at h k1 ⊢;obtain⟨b,c2,e2,k2⟩:=P4 c1 k1 8 (by decide);refine Hfb (Hgb (Q:=λ r=>r=(b,c2)) e2 rfl) ?_;refine Hab (λ _=>?_) (λ _=>H4b ⟨⟨h.wim.more (by decide),by show 1≤w.2.2.1.length;have:=h.nlen;have:=h.dlen;omega⟩,k2⟩);refine H5b (Z0a k2 (m:=200) ⟨h.wim,by have:=h.nlen;have:=h.dlen;omega⟩ (by decide)) ?_;rintro r ⟨g1,g2⟩;exact H4b ⟨g1,g2⟩

def Iya {f:Fil} (h:f.2.2.length≤1000000000):J1 f=some f:=by
 unfold J1;rw[Nr _ (by omega)];rfl

def Z1a (w:Wld) (i:Nat) (s:ByteArray) (rc:List Int) (hr:Jf w.2.1 w.1=true) (hn:NS w.2.2.1) (hi:i<w.2.2.1.length):Tot (λ k=>Ai k w (i:Int) s rc) (λ r=>r=V1 w i s rc):=by
 have hni:=hn.get hi;unfold Ai V1;have e0:w.2.2.1.getD i ((0:Int),(([],[]),([],[])))=w.2.2.1.getD i Au:=rfl;simp (disch:=omega) only [dT,Vc,e0];have hin:=(Sy hni).1;refine Hfb (Z3 hin.1.1.1.1 hin.2.1 s) ?_;cases hl:(lkD (w.2.2.1.getD i Au).2.1 s).2 != 0
 case true=>exact H7b rfl (H4b rfl)
 refine H6b rfl ?_;rw[cond_false]
 have hlk:∃ b,gt (w.2.2.1.getD i Au).2.1.1 s=some b:=by
  rw[bne,Wi,beq_iff_eq]at hl;obtain⟨b,hb,_⟩:=Pa.1 (show lkD (w.2.2.1.getD i Au).2.1 s=((lkD (w.2.2.1.getD i Au).2.1 s).1,0) from by rw[← hl]);exact⟨b,hb⟩
 have hs:B1 s=true:=Pta hni.g.1 (by obtain⟨b,hb⟩:=hlk;rw[hb];rfl)
 have hsz:s.size≤1000000000:=by
  have:=Et.1 (Va _ _ ▸ hs:_∧_).2;omega
 refine Hfb (O7a _ s (N6 hr) hsz) ?_;refine Hfb (Bta w _ hn.1 (Sw (N6 hr) s)) ?_;have hpl:=Ioa (s:=s) hr hn.1;have hc:=λ x=>Pn (w:=w) (s:=s) (x:=x);have hrun:puN w i s rc=run (pst (i:Int) s (lkD (w.2.2.1.getD i Au).2.1 s).1 rc (O8 w s)) (O8 w s).length (w.2.2.1,false,true):=rfl;obtain⟨p1,p2⟩:=Akb (w:=w) (i:=i) (s:=s) (rc:=rc) hn
 have inv:∀ n,n≤(O8 w s).length→NS (run (pst (i:Int) s (lkD (w.2.2.1.getD i Au).2.1 s).1 rc (O8 w s)) n (w.2.2.1,false,true)).1∧(run (pst (i:Int) s (lkD (w.2.2.1.getD i Au).2.1 s).1 rc (O8 w s)) n (w.2.2.1,false,true)).1.length=w.2.2.1.length:=λ n hn'=>
  Ms (λ _ (b:List Nod×Bool×Bool)=>NS b.1∧b.1.length=w.2.2.1.length) ⟨hn,rfl⟩ (λ j b hj hb=>V6a hb (by have:=hc _ (A4 (d:=0) (show j<(O8 w s).length by omega));omega))
 rw[show whr w.2.2.1 (X4 w.2.1 s)=O8 w s from rfl];generalize (lkD (w.2.2.1.getD i Au).2.1 s).1=f at *;generalize O8 w s=ps at *;refine H5b (Q:=λ r=>r=((i:Int),s,(puN w i s rc).2.2,(puN w i s rc).2.1,wN w (puN w i s rc).1)) ?_ ?_
 ·refine Hdb (L:=λ k j (a:List Nod×Bool×Bool)=>Ad k (i:Int) s rc a.2.2 a.2.1 ps (ps.length:Int) j (wN w a.1) f) (Q:=λ r=>r=((i:Int),s,(puN w i s rc).2.2,(puN w i s rc).2.1,wN w (puN w i s rc).1)) ps.length (λ j a=>a=run (pst (i:Int) s f rc ps) j (w.2.2.1,false,true)) ?_ ?_ 0 (w.2.2.1,false,true) (Vq _) rfl
  ·rintro a rfl;simp (disch:=omega) only [Ad,dF];exact H4b (by rw[hrun])
  ·rintro j a hj rfl next;obtain⟨i1,i2⟩:=inv j (by omega);rw[Nt]at next;generalize run (pst (i:Int) s f rc ps) j (w.2.2.1,false,true)=a at *;obtain⟨ns,o,g⟩:=a;dsimp only at i1 i2;have hci:=hc _ (A4 (d:=0) hj);obtain⟨m,em⟩:∃ m:Nat,ps.getD j 0=(m:Int):=⟨(ps.getD j 0).toNat,by omega⟩;rw[em]at hci;unfold pst at next;rw[em,Int.toNat_natCast]at next;have e0:ns.getD m ((0:Int),(([],[]),([],[])))=ns.getD m Au:=rfl;simp (disch:=omega) only [Ad,dT,Int.toNat_natCast,w64,em,wN,e0]
   cases hz:(m:Int)==(i:Int) with
   |true=>
    rw[hz]at next;exact H7b rfl (next _ rfl)
   |false=>
    rw[hz]at next;refine H6b rfl ?_;simp only[V3a,Vn]
    cases h1:rch rc j != 1 with
    |true=>
     rw[h1]at next;exact H7b rfl (next _ rfl)
    |false=>
     rw[h1]at next;refine H6b rfl ?_;have hm:=Sy (i1.get (i:=m) (by omega));refine Hfb (Xza (ns.getD m Au).2.1 s f true hm.1.1 hm.1.2.1 (Jc hs)) ?_;dsimp only at next ⊢;generalize keep (ns.getD m Au).2.1 s f true=q at *
     cases g with
     |false=>
      refine H6b rfl (next (ns.set m ((ns.getD m Au).1,q.1,(ns.getD m Au).2.2),o,false) ?_)
      cases q.2 != 0&&q.2 != 1<;>rfl
     |true=>
      refine H7b rfl ?_;cases h2:q.2==0
      case true=>rw[bne,h2]at next;exact H7b rfl (next _ rfl)
      rw[bne,h2]at next;refine H6b rfl ?_
      cases h3:q.2==1 with
      |true=>rw[bne,h3]at next;exact next _ rfl
      |false=>rw[bne,h3]at next;exact next _ rfl
 ·rintro r rfl;dsimp only[wN];generalize puN w i s rc=a at *;obtain⟨ns,o,g⟩:=a;dsimp only at p1 p2 ⊢
  cases o with
  |true=>
   refine H6b rfl (H4b ?_);rw[Zh,Yj];rfl
  |false=>
   refine H7b rfl ?_;cases g
   ·exact H6b rfl (H4b rfl)
   refine H7b rfl ?_;have e0:ns.getD i ((0:Int),(([],[]),([],[])))=ns.getD i Au:=rfl;simp (disch:=omega) only [dT,Vc,e0];have hg:=(p1.get (i:=i) (by omega)).g;refine Hfb (L0a hg.1) ?_;refine Hfb (Hxa (U0a hg).1 hs) ?_;exact H4b rfl
def Z2a {n:Nod} {l:List Row} (hn:NG n) (hl:Ko l=true):I4a n l=((tk n l).2,(tk n l).1):=by
 unfold I4a tk;rw[hn.1,hl]
 cases decide ((Tl n.2.2.1 l).length > 60)<;>rfl
def Iza (w:Wld) (src:Int) (l:List Row) (rc:List Int) (hr:RBd w.2.1) (hn:NS w.2.2.1) (hl:Ko l=true):
  Tot (λ k=>As k w l rc src) (λ r=>r=((Me w src l false rc).2,wN w (Me w src l false rc).1)):=by
 have hll:=Bia hl;unfold As;refine Hfb (Bua w hr hn.1) ?_;have hpl:=R6 hr hn.1;have hc:=λ x=>Ow (w:=w) (x:=x);have hrun:Me w src l false rc=run (gst src l false rc (Fv w)) (Fv w).length (w.2.2.1,true):=rfl
 have inv:∀ n,n≤(Fv w).length→NS (run (gst src l false rc (Fv w)) n (w.2.2.1,true)).1∧(run (gst src l false rc (Fv w)) n (w.2.2.1,true)).1.length=w.2.2.1.length:=λ n hn'=>
  Ms (λ _ (b:List Nod×Bool)=>NS b.1∧b.1.length=w.2.2.1.length) ⟨hn,rfl⟩ (λ j b hj hb=>V7a hl hb (by have:=hc _ (A4 (d:=0) (show j<(Fv w).length by omega));omega))
 generalize Fv w=ls at *;refine H5b (Q:=λ r=>r=((Me w src l false rc).2,wN w (Me w src l false rc).1)) ?_ (by rintro r rfl;exact H4b rfl);refine Hdb (L:=λ k j (a:List Nod×Bool)=>B2 k l rc src a.2 ls (ls.length:Int) j (wN w a.1)) (Q:=λ r=>r=((Me w src l false rc).2,wN w (Me w src l false rc).1)) ls.length (λ j a=>a=run (gst src l false rc ls) j (w.2.2.1,true)) ?_ ?_ 0 (w.2.2.1,true) (Vq _) rfl
 ·rintro a rfl;simp (disch:=omega) only [B2,dF];exact H4b (by rw[hrun])
 ·rintro j a hj rfl next;obtain⟨i1,i2⟩:=inv j (by omega);rw[Nt]at next;generalize run (gst src l false rc ls) j (w.2.2.1,true)=a at *;obtain⟨ns,g⟩:=a;dsimp only at i1 i2;have hci:=hc _ (A4 (d:=0) hj);obtain⟨m,em⟩:∃ m:Nat,ls.getD j 0=(m:Int):=⟨(ls.getD j 0).toNat,by omega⟩;rw[em]at hci;unfold gst at next;rw[em,Int.toNat_natCast,Bool.not_false,Bool.and_true]at next;have e0:ns.getD m ((0:Int),(([],[]),([],[])))=ns.getD m Au:=rfl;have hm:=i1.get (i:=m) (by omega);simp (disch:=omega) only [B2,dT,Int.toNat_natCast,w64,em,e0,wN]
  cases hz:(m:Int)==src with
  |true=>
   rw[hz]at next;exact H7b rfl (next _ rfl)
  |false=>
   rw[hz]at next;refine H6b rfl ?_;simp only[V3a,Vn]
   cases h1:rch rc j != 1 with
   |true=>
    rw[h1]at next;exact H7b rfl (next _ rfl)
   |false=>
    rw[h1]at next;refine H6b rfl (Hfb (Y2a (ns.getD m Au) l (Sy hm) hll) ?_);rw[Z2a hm hl];dsimp only at next ⊢;generalize tk (ns.getD m Au) l=q at *
    cases g with
    |false=>
     refine H6b rfl (next (ns.set m q.2,false) ?_)
     cases q.1<;>rfl
    |true=>
     refine H7b rfl (next (ns.set m q.2,q.1) ?_)
     cases q.1<;>rfl

def Sa {l:List Row} (h:l.length≤2000000000):Ao l=some l:=by
 unfold Ao;rw[bT (by simp only[Vj];omega),Wa]
def Qca (w:Wld) (src:Int) (l:List Row) (rc:List Int):Me w (-1) l false rc=Me w src l true rc:=by
 unfold Me;refine Ms (λ n (a:List Nod×Bool)=>a=run (gst src l true rc (Fv w)) n (w.2.2.1,true)) rfl (λ j b hj hb=>?_);rw[Nt,← hb];have:=(Ow (A4 (d:=0) hj)).1;unfold gst;rw[show ((Fv w).getD j 0 == -1)=false by rw[beq_eq_false_iff_ne];omega,Zh,Yj,Zr]
def Lia (w:Wld) (src:Int) (l:List Row) (self:Bool) (rc:List Int) (m:Nat):((Me w src l self rc).1.getD m Au).2.2.2=(w.2.2.1.getD m Au).2.2.2:=by
 unfold Me;refine Ms (λ n (a:List Nod×Bool)=>(a.1.getD m Au).2.2.2=(w.2.2.1.getD m Au).2.2.2) rfl (λ j b hj hb=>?_);unfold gst;cases (Fv w).getD j 0==src&&!self
 case true=>exact hb
 cases rch rc j != 1
 case true=>exact hb
 rw[cond_false,cond_false];generalize ((Fv w).getD j 0).toNat=i;show ((b.1.set i (tk (b.1.getD i Au) l).2).getD m Au).2.2.2=_
 by_cases hm:m<b.1.length
 ·rw[Lk hm]
  by_cases hi:i=m
  ·subst hi;rw[if_pos rfl,← hb];unfold tk
   cases decide ((Tl (b.1.getD i Au).2.2.1 l).length > 60)<;>rfl
  ·rw[if_neg hi];exact hb
 ·rw[Vb,Zb (by rw[Vw];omega)];rw[Vb,Zb (by omega)]at hb;exact hb
def Via (w:Wld) (i:Nat) (rc:List Int) (hr:RBd w.2.1) (hn:NS w.2.2.1) (hi:i<w.2.2.1.length):Tot (λ k=>C0 k w (i:Int) rc) (λ r=>r=X6 w i rc):=by
 have hni:=hn.get hi;have e0:w.2.2.1.getD i ((0:Int),(([],[]),([],[])))=w.2.2.1.getD i Au:=rfl;have hl:=(Bw.1 hni.1).2.2.2.1;have hll:=(Bia hl).1;unfold C0 X6;simp (disch:=omega) only [dT,Vc,e0,Sa (show (w.2.2.1.getD i Au).2.2.1.length≤2000000000 by omega),Vn];cases hz:((w.2.2.1.getD i Au).2.2.1.length:Int)==0
 case true=>exact H7b rfl (H4b rfl)
 refine H6b rfl (Hfb (Iza w (i:Int) _ rc hr hn hl) ?_);obtain⟨p1,p2⟩:=Z8 (w:=w) (src:=(i:Int)) (self:=false) (rc:=rc) hl hn;rw[show Me w (i:Int) (w.2.2.1.getD i Au).2.2.1 false rc=Om w i rc from rfl]at p1 p2 ⊢;generalize Om w i rc=a at *;obtain⟨ns,g⟩:=a;dsimp only at p1 p2 ⊢;cases g
 ·exact H6b rfl (H4b rfl)
 refine H7b rfl (Hfb (Bua (wN w ns) hr p1.1) ?_);refine Hfb (Uba _ _ (by have:=R6 (w:=wN w ns) hr p1.1;omega)) ?_;cases O7 (Fv (wN w ns)) (i:Int)
 case true=>exact H6b rfl (H4b rfl)
 have e1:ns.getD i ((0:Int),(([],[]),([],[])))=ns.getD i Au:=rfl;refine H7b rfl ?_;simp (disch:=omega) only [dT,Vc,e1];exact H4b rfl
def Vja (w:Wld) (i:Nat) (rc:List Int) (hr:RBd w.2.1) (hn:NS w.2.2.1) (hi:i<w.2.2.1.length):Tot (λ k=>C8 k w (i:Int) rc) (λ r=>r=X7 w i rc):=by
 have hni:=hn.get hi;have e0:w.2.2.1.getD i ((0:Int),(([],[]),([],[])))=w.2.2.1.getD i Au:=rfl;obtain⟨hq,_,_,_,hq60⟩:=Bw.1 hni.1;have hl:=R7 hq;unfold C8 X7;simp (disch:=omega) only [dT,Vc,e0];cases hz:((w.2.2.1.getD i Au).2.2.2.length:Int)==0
 case true=>exact H7b rfl (H4b rfl)
 have h1:=beq_eq_false_iff_ne.1 hz;refine H6b rfl (H8b (by omega) ?_);rw[show List.take (toNat 1) (w.2.2.1.getD i Au).2.2.2=List.take 1 (w.2.2.1.getD i Au).2.2.2 from rfl,Sa (by rw[List.length_take];omega)];simp only[Option.bind_some];refine Hfb (Iza w (-1) _ rc hr hn hl) ?_;rw[Qca w (i:Int)];obtain⟨p1,p2⟩:=Z8 (w:=w) (src:=(i:Int)) (self:=true) (rc:=rc) hl hn;have hqu:=Lia w (i:Int) ((w.2.2.1.getD i Au).2.2.2.take 1) true rc i;rw[show Me w (i:Int) ((w.2.2.1.getD i Au).2.2.2.take 1) true rc=Pc w i rc from rfl]at p1 p2 hqu ⊢;generalize Pc w i rc=a at *;obtain⟨ns,g⟩:=a;dsimp only at p1 p2 hqu ⊢;cases g
 ·exact H6b rfl (H4b rfl)
 have e1:ns.getD i ((0:Int),(([],[]),([],[])))=ns.getD i Au:=rfl;refine H7b rfl ?_;simp (disch:=omega) only [dT,Vc,e1,hqu];rw[show List.drop (toNat 1) (w.2.2.1.getD i Au).2.2.2=List.drop 1 (w.2.2.1.getD i Au).2.2.2 from rfl,Sa (by rw[Wc];omega)];exact H4b rfl

def NO (ns ms:List Nod):Prop:=NS ms∧ms.map (·.1)=ns.map (·.1)
def NO.len {ns ms:List Nod} (h:NO ns ms):ms.length=ns.length:=by
 have:=congrArg length h.2;rwa [Wh,Wh]at this
def NO.set {ns ms:List Nod} (h:NO ns ms) {i:Nat} {n:Nod} (hi:i<ms.length) (hn:NG n) (e:n.1=(ms.getD i Au).1):NO ns (ms.set i n):=⟨h.1.set hn,(Lea hi e).trans h.2⟩
def D6b (n:Nod) (s:ByteArray) (f:Fil) (sure:Bool):(Xi n s f sure).1.1=n.1:=by
 unfold Xi
 cases (n.2.2.2.length:Int)==60 with
 |true=>rfl
 |false=>rfl
def Gpb (n:Nod) (l:List Row):(tk n l).2.1=n.1:=by
 unfold tk
 cases decide ((Tl n.2.2.1 l).length > 60)<;>rfl
def D7b (n:Nod) (s:ByteArray) (b:Int):(Nra n s b).1.1=n.1:=by
 unfold Nra
 cases N1 n&&((lkD n.2.1 s).2==0&&(J5a n.2.1 s b).2)<;>rfl
def Fmb {w:Wld} {s:ByteArray} {f:Fil} {rc:List Int} (hn:NS w.2.2.1) (hs:B1 s=true) (hf:Ej f=true):NO w.2.2.1 (wrN w s f rc).1:=by
 unfold wrN;refine Ms (λ _ (a:List Nod×Int×Int)=>NO w.2.2.1 a.1) ⟨hn,rfl⟩ (λ j a hj h=>?_);have hc:=Tx (A4 (d:=0) hj);have hl:=h.len;unfold wst;cases decide (a.2.1<w.2.1.1)
 ·exact h
 rw[cond_true]
 cases rch rc j==0 with
 |true=>exact h
 |false=>exact h.set (by omega) (Nqa (h.1.get (by omega)) hs hf) (D6b _ _ _ _)
def Fnb {w:Wld} {i:Nat} {s:ByteArray} {rc:List Int} (hn:NS w.2.2.1):NO w.2.2.1 (puN w i s rc).1:=by
 unfold puN;refine Ms (λ _ (a:List Nod×Bool×Bool)=>NO w.2.2.1 a.1) ⟨hn,rfl⟩ (λ j a hj h=>?_);have hc:=Pn (A4 (d:=0) hj);have hl:=h.len;unfold pst;cases (O8 w s).getD j 0==(i:Int)
 case true=>exact h
 rw[cond_false]
 cases rch rc j != 1 with
 |true=>exact h
 |false=>exact h.set (by omega) (Fla (h.1.get (by omega))) rfl
def Ofa {w:Wld} {i:Nat} {s:ByteArray} {rc:List Int} (hn:NS w.2.2.1) (hi:i<w.2.2.1.length):∃ ns,(V1 w i s rc).2=wN w ns∧NO w.2.2.1 ns:=by
 unfold V1;cases hl:(lkD (w.2.2.1.getD i Au).2.1 s).2 != 0
 case true=>exact⟨w.2.2.1,rfl,hn,rfl⟩
 have h:=Fnb (i:=i) (s:=s) (rc:=rc) hn;have hlen:=h.len
 have hs:B1 s=true:=by
  rw[bne,Wi,beq_iff_eq]at hl;obtain⟨b,hb,_⟩:=Pa.1 (show lkD (w.2.2.1.getD i Au).2.1 s=((lkD (w.2.2.1.getD i Au).2.1 s).1,0) from by rw[← hl]);exact Pta (hn.get hi).g.1 (by rw[hb];rfl)
 refine⟨_,rfl,?_⟩
 cases (puN w i s rc).2.2&&!(puN w i s rc).2.1 with
 |false=>exact h
 |true=>exact h.set (by omega) (Ajb (h.1.get (by omega)) hs) rfl
def Oga {w:Wld} {src:Int} {l:List Row} {self:Bool} {rc:List Int} (hl:Ko l=true) (hn:NS w.2.2.1):NO w.2.2.1 (Me w src l self rc).1:=by
 unfold Me;refine Ms (λ _ (a:List Nod×Bool)=>NO w.2.2.1 a.1) ⟨hn,rfl⟩ (λ j a hj h=>?_);have hc:=Ow (A4 (d:=0) hj);have hlen:=h.len;unfold gst;cases (Fv w).getD j 0==src&&!self
 case true=>exact h
 rw[cond_false]
 cases rch rc j != 1 with
 |true=>exact h
 |false=>exact h.set (by omega) (Glb (h.1.get (by omega)) hl) (Gpb _ _)
def Oha {w:Wld} {i:Nat} {rc:List Int} (hn:NS w.2.2.1) (hi:i<w.2.2.1.length):∃ ns,(X6 w i rc).2=wN w ns∧NO w.2.2.1 ns:=by
 have h:=Oga (w:=w) (src:=(i:Int)) (self:=false) (rc:=rc) (Bw.1 (hn.get hi).1).2.2.2.1 hn;have hlen:=h.len;unfold X6;cases ((w.2.2.1.getD i Au).2.2.1.length:Int)==0
 case true=>exact⟨w.2.2.1,rfl,hn,rfl⟩
 refine⟨_,rfl,?_⟩;show NO w.2.2.1 (bif (Om w i rc).2&&_ then (Om w i rc).1.set i (Oaa ((Om w i rc).1.getD i Au)) else (Om w i rc).1);unfold Om
 cases (Me w (i:Int) (w.2.2.1.getD i Au).2.2.1 false rc).2&&_ with
 |false=>exact h
 |true=>exact h.set (by omega) (Oba (h.1.get (by omega))) rfl
def Oia {w:Wld} {i:Nat} {rc:List Int} (hn:NS w.2.2.1) (hi:i<w.2.2.1.length):∃ ns,(X7 w i rc).2=wN w ns∧NO w.2.2.1 ns:=by
 have hq:=Bw.1 (hn.get hi).1;have h:=Oga (w:=w) (src:=(i:Int)) (self:=true) (rc:=rc) (R7 hq.1) hn;have hlen:=h.len;unfold X7;cases ((w.2.2.1.getD i Au).2.2.2.length:Int)==0
 case true=>exact⟨w.2.2.1,rfl,hn,rfl⟩
 refine⟨_,rfl,?_⟩;show NO w.2.2.1 (bif (Pc w i rc).2 then (Pc w i rc).1.set i (Fwb ((Pc w i rc).1.getD i Au) ((w.2.2.1.getD i Au).2.2.2.drop 1)) else (Pc w i rc).1);unfold Pc
 cases (Me w (i:Int) ((w.2.2.1.getD i Au).2.2.2.take 1) true rc).2 with
 |false=>exact h
 |true=>exact h.set (by omega) (Alb (h.1.get (by omega)) (λ r hr=>hq.1 r (Zk hr)) (by rw[Wc];omega)) rfl
structure WO (w:Wld):Prop where
 ring:Jf w.2.1 w.1=true
 ids:w.2.2.1.map (·.1)=w.1.map (·.1)
 ns:NS w.2.2.1
 clk:Gz w.2.2.2.1=true
 wlen:w.2.2.2.2.1.length≤200
 wok:Ira w.2.2.2.2.1
 wge:∀ x∈w.2.2.2.2.1,sle w.2.2.2.1 x.2.1.1=false
 sps:TS w.2.2.2.2.2
 spn:∀ s∈w.2.2.2.2.2,B1 s=true
def WI.wo {w:Wld} (h:WI w):WO w:=⟨h.ring,h.ids,h.ns,h.clk,h.wlen,h.wok,h.wge,h.sps,λ s hs=>by
 obtain⟨x,hx,e⟩:=h.spw s hs;rw[← e]
 exact(h.wok x hx).1⟩
namespace WO
variable {w:Wld}
def nlen (h:WO w):w.2.2.1.length=w.1.length:=by
 have:=congrArg length h.ids;rwa [Wh,Wh]at this
def dlen (h:WO w):1≤w.1.length∧w.1.length≤12:=(H1.1 (D6.1 h.ring).1).2.2
def other (h:WO w) {ns:List Nod} (hn:NO w.2.2.1 ns):WO (wN w ns):=⟨h.ring,hn.2.trans h.ids,hn.1,h.clk,h.wlen,h.wok,h.wge,h.sps,h.spn⟩
def other' (h:WO w) {r:Bool×Wld} (hr:∃ ns,r.2=wN w ns∧NO w.2.2.1 ns):WO r.2:=by
 obtain⟨ns,e,hn⟩:=hr;rw[e];exact h.other hn
def write (h:WO w) {s:ByteArray} {f:Fil} {rc:List Int} (hs:B1 s=true) (hf:Ej f=true) (hb:Aj f.2.2) (hc:sle w.2.2.2.1 f.1=true) (hl:w.2.2.2.2.1.length<200):WO (Bwa (w.1,w.2.1,w.2.2.1,f.1,w.2.2.2.2) s f rc).2:=by
 have g:=Fmb (w:=(w.1,w.2.1,w.2.2.1,f.1,w.2.2.2.2)) (rc:=rc) h.ns hs hf;unfold Bwa;generalize wrN (w.1,w.2.1,w.2.2.1,f.1,w.2.2.2.2) s f rc=a at *
 exact {
  ring:=h.ring
  ids:=g.2.trans h.ids
  ns:=g.1
  clk:=(Kg.1 hf).1
  wlen:=by show (w.2.2.2.2.1++[_]).length≤200;rw[Ve];simp only[Vd,Vj];omega
  wok:=λ x hx=>by
   rcases Vp.1 hx with hx|hx
   ·exact h.wok x hx
   ·rw[Vu.1 hx];exact⟨hs,hf,hb⟩
  wge:=λ x hx=>by
   rcases Vp.1 hx with hx|hx
   ·exact Xn (S9 hc) (h.wge x hx)
   ·rw[Vu.1 hx];exact Kr _
  sps:=h.sps
  spn:=h.spn }
def ask (h:WO w) {s:ByteArray} {f:Fil} {t:Int} {rc:List Int} (hb:Aj f.2.2) (hd:f.2.1=true→f.2.2=[]):WO (ask w s f t rc).2:=by
 unfold Vf.ask;cases hs:B1 s
 ·exact h
 rw[Zh,cond_false]
 by_cases hl:(f.2.2.length:Int) > 200
 ·rw[decide_eq_true hl];exact h
 ·rw[decide_eq_false hl,cond_false];cases inR t 0 1000000000
  ·exact h
  rw[Zh,cond_false];cases hw:(w.2.2.2.2.1.length:Int)==200
  case true=>exact h
  rw[cond_false];have hw':=beq_eq_false_iff_ne.1 hw;have hwl:=h.wlen;obtain⟨n1,n2⟩:=Fka h.clk t 0;cases he:(Oh w.2.2.2.1 t 0).1==w.2.2.2.1.1&&((Oh w.2.2.2.1 t 0).2.1==w.2.2.2.1.2.1&&(Oh w.2.2.2.1 t 0).2.2==w.2.2.2.1.2.2)
  case true=>exact h
  rw[cond_false]
  have hlt:sle w.2.2.2.1 (Oh w.2.2.2.1 t 0)=true:=by
   rcases n2 with n2|n2
   ·rw[n2,beq_self_eq_true,beq_self_eq_true,beq_self_eq_true]at he;cases he
   ·exact n2
  exact h.write (f:=(Oh w.2.2.2.1 t 0,f.2)) hs (Kg.2 ⟨n1,by show f.2.2.length≤200;omega,hd⟩) hb hlt (by omega)
def rot (h:WO w) {i:Nat} (hi:i<w.2.2.1.length) {s:ByteArray} {b:Int}:WO (Dpb w i s b).2:=by
 have hg:=h.ns.get hi;unfold Dpb;cases hr:(Nra (w.2.2.1.getD i Au) s b).2
 ·exact h
 have hn:NO w.2.2.1 (w.2.2.1.set i (Nra (w.2.2.1.getD i Au) s b).1):=NO.set ⟨h.ns,rfl⟩ hi (U7a hg) (D7b _ _ _)
 have hs:B1 s=true:=by
  unfold Nra at hr;cases hc:N1 (w.2.2.1.getD i Au)&&((lkD (w.2.2.1.getD i Au).2.1 s).2==0&&(J5a (w.2.2.1.getD i Au).2.1 s b).2)
  ·rw[hc]at hr;cases hr
  rw[Va,Va,beq_iff_eq]at hc;obtain⟨b,hb,_⟩:=Pa.1 (show lkD (w.2.2.1.getD i Au).2.1 s=((lkD (w.2.2.1.getD i Au).2.1 s).1,0) from by rw[← hc.2.1]);exact Pta hg.g.1 (by rw[hb];rfl)
 exact⟨h.ring,hn.2.trans h.ids,hn.1,h.clk,h.wlen,h.wok,h.wge,Dra h.sps,λ t ht=>by
  rcases Fma.1 ht with rfl|ht
  ·exact hs
  ·exact h.spn t ht⟩
def node (h:WO w) {i:Nat} (hi:i<w.2.2.1.length) {e:Evt}:WO (Iqa w e i).2:=by
 have hg:=h.ns.get hi;unfold Iqa;cases e.1==3
 case true=>exact h.other' (Ofa h.ns hi)
 cases e.1==4
 case true=>exact h.other' (Oha h.ns hi)
 cases e.1==5
 case true=>exact h.other' (Oia h.ns hi)
 cases e.1==6
 case true=>exact h.other (NO.set ⟨h.ns,rfl⟩ hi (Uxa hg) rfl)
 cases e.1==7 with
 |true=>exact h.other (NO.set ⟨h.ns,rfl⟩ hi (Fdb hg) rfl)
 |false=>exact h.rot hi
def weigh (h:WO w) {i t:Int}:WO (Lda w i t).2:=by
 unfold Lda;cases h1:inR i 0 ((w.1.length:Int)-1)
 ·exact h
 cases h2:inR t 1 1000
 ·exact h
 obtain⟨i0,i1⟩:=Et.1 h1;obtain⟨w0,w1⟩:=Et.1 h2;exact⟨(O1a (F8a h.ring (by omega) w0 w1)).1,h.ids.trans (F7a _ _ _).symm,h.ns,h.clk,h.wlen,h.wok,h.wge,h.sps,h.spn⟩
def ev (h:WO w) {e:Evt} (hb:Aj e.2.2.2.1):WO (doW w e).2:=by
 have ae:∀ {q:Int×Wld},WO q.2→WO (Amb q).2:=λ {q} hq=>by
  unfold Amb
  cases q.1 != 2<;>exact hq
 unfold doW;cases e.1==1
 case true=>exact ae (h.ask hb (λ c=>by cases c))
 cases e.1==2
 case true=>exact ae (h.ask Ns (λ _=>rfl))
 cases e.1==3||(e.1==4||(e.1==5||(e.1==6||(e.1==7||e.1==8)))) with
 |true=>
  cases hi:inR e.2.1 0 ((w.2.2.1.length:Int)-1)
  ·exact h
  have:=Et.1 hi;exact h.node (by omega)
 |false=>
  cases e.1==9 with
  |true=>exact h.weigh
  |false=>exact h
def nods (h:WO w):S8 w.1 w.2.2.1=true:=by
 have hl:=h.nlen;unfold S8;rw[show ((w.2.2.1.length:Int)==(w.1.length:Int))=true by rw[beq_iff_eq];omega,Vz,Yt];intro j hj;have hj':=I2b.1 hj;rw[Va,beq_iff_eq];refine⟨?_,(h.ns.get hj').1⟩
 have e1:(w.2.2.1.getD j Au).1=(w.2.2.1.map (·.1)).getD j 0:=by
  rw[Vb,Vb,Hob,Vk hj'];rfl
 have e2:(w.1.getD j Nu).1=(w.1.map (·.1)).getD j 0:=by
  rw[Vb,Vb,Hob,Vk (by omega)];rfl
 rw[e1,e2,h.ids]
def ok (h:WO w):Xz w=true:=by
 unfold Xz
 have a2:Yqa w.2.2.2.1 w.2.2.2.2.1=true:=by
  unfold Yqa;rw[Va,Yt];refine⟨λ x hx=>?_,decide_eq_true (by have:=h.wlen;omega)⟩;unfold Ffa;rw[(h.wok x hx).1,(h.wok x hx).2.1,h.wge x hx];rfl
 have a3:T7 w.2.2.2.2.2=true:=by
  unfold T7;rw[Yt];intro j hj;have hj':=I2b.1 hj;rw[Va,Hlb];refine⟨h.spn _ (A4 hj'),?_⟩
  by_cases h0:j=0
  ·exact .inl (decide_eq_true h0)
  ·right;have:=Hkb.1 h.sps (j-1) j (by omega) hj' (by omega);rwa [Vb,Vb,Vk hj',Vk (by omega)]
 rw[h.ring,h.nods,h.clk,a2,a3];rfl
end WO
def Gqb {l:List ByteArray} (h:∀ j,0<j→j<l.length→tlt (l.getD (j-1) Nw) (l.getD j Nw)=true):TS l:=by
 induction l with
 |nil=>exact List.Pairwise.nil
 |cons x l ih=>
  have ht:TS l:=ih (λ j h0 hj=>by
   have:=h (j+1) (by omega) (by simpa using hj);obtain⟨m,rfl⟩:∃ m,j=m+1:=⟨j-1,by omega⟩
   simpa using this)
  refine Wk.2 ⟨λ y hy=>?_,ht⟩
  cases l with
  |nil=>cases hy
  |cons z l=>
   have hz:tlt x z=true:=by have:=h 1 (by omega) (by simp);simpa using this
   rcases Vl.1 hy with rfl|hy
   ·exact hz
   ·exact Nb hz ((Wk.1 ht).1 y hy)
def Grb {w:Wld} (h:Xz w=true) (hn:∀ n∈w.2.2.1,DB n.2.1) (hb:∀ x∈w.2.2.2.2.1,Aj x.2.1.2.2):WO w:=by
 unfold Xz at h;simp only[Va]at h;obtain⟨h1,h2,h3,h4,h5⟩:=h;unfold S8 at h2;rw[Va,beq_iff_eq,Yt]at h2;obtain⟨hl,h2⟩:=h2;have hd:=(H1.1 (D6.1 h1).1).2.2
 have hnode:∀ j,j<w.2.2.1.length→(w.2.2.1.getD j Au).1=(w.1.getD j Nu).1∧N1 (w.2.2.1.getD j Au)=true:=λ j hj=>by
  have:=h2 j (I2b.2 hj);rwa [Va,beq_iff_eq]at this
 unfold Yqa at h4;rw[Va,Yt,decide_eq_true_iff]at h4;unfold T7 at h5;rw[Yt]at h5
 have hsp:∀ j,j<w.2.2.2.2.2.length→B1 (w.2.2.2.2.2.getD j Nw)=true∧(j=0∨tlt (w.2.2.2.2.2.getD (j-1) Nw) (w.2.2.2.2.2.getD j Nw)=true):=λ j hj=>by
  have:=h5 j (I2b.2 hj);rwa [Va,Hlb,decide_eq_true_iff]at this
 have hx:∀ x∈w.2.2.2.2.1,B1 x.1=true∧Ej x.2.1=true∧sle w.2.2.2.1 x.2.1.1=false:=λ x hx=>by
  have:=h4.1 x hx;unfold Ffa at this;rwa [Va,Va,Vv]at this
 refine⟨h1,?_,⟨by omega,λ n hm=>?_⟩,h3,by omega,λ x hm=>⟨(hx x hm).1,(hx x hm).2.1,hb x hm⟩,λ x hm=>(hx x hm).2.2,Gqb (λ j h0 hj=>?_),λ s hs=>?_⟩
 ·refine K4b (by rw[Wh,Wh];omega) (λ j a b=>?_);rw[Wh]at a b;have:=(hnode j a).1;rw[Vb,Vb,Vk a,Vk b]at this;rw[Jfb,Jfb];exact this
 ·obtain⟨j,hj,rfl⟩:=Zl.1 hm;have:=(hnode j hj).2;rw[Vb,Vk hj]at this;exact⟨this,hn _ hm⟩
 ·rcases (hsp j hj).2 with h|h
  ·omega
  ·exact h
 ·obtain⟨j,hj,rfl⟩:=Zl.1 hs;have:=(hsp j hj).1;rwa [Vb,Vk hj]at this

section
open Go
end

section
open Go
end

def WIm.wo {m:Nat} {w:Wld} (h:WIm m w) (hk:Xz w=true):WO w:=Grb hk (λ n hn=>(h.2.2.1.2 n hn).1.2) (λ x hx=>(h.2.2.2.1.2 x hx).2.2)
def WO.wim {w:Wld} (h:WO w) {m:Nat} (h2:200≤m) (hs:w.2.2.2.2.2.length≤m):WIm m w:=
 ⟨N6 h.ring,by have:=h.dlen;omega,⟨h.ns.1,λ n hn=>Sy (h.ns.2 n hn)⟩,⟨by have:=h.wlen;omega,λ x hx=>⟨Jc (h.wok x hx).1,by have:=(Kg.1 (h.wok x hx).2.1).2.1;omega,(h.wok x hx).2.2⟩⟩,hs,λ s hs=>Jc (h.spn s hs)⟩
def Vka {m:Nat} {w:Wld} (h:WIm m w) (hm:m≤2000000):Tot (λ k=>C3 k w) (λ r=>r=w):=by
 obtain⟨h1,h2,⟨h3,h4⟩,⟨h5,h6⟩,h7,h8⟩:=h;unfold C3;refine Hcb (by rw[Vj];omega) (Hfb (Ica w.2.1 h1) ?_);refine Hcb (by rw[Vj];omega) ?_;rw[Wa,Wa];refine H5b (Q:=λ r=>r=(w,J7a,(w.1,w.2.1,w.2.2.1,w.2.2.2.1,[],w.2.2.2.2.2))) ?_ ?_
 ·refine Hdb (L:=λ k i (s:List Nod)=>E6 k w.2.2.1 (w.2.2.1.length:Int) i w J7a (w.1,w.2.1,s,w.2.2.2.1,[],w.2.2.2.2.2)) (Q:=λ r=>r=(w,J7a,(w.1,w.2.1,w.2.2.1,w.2.2.2.1,[],w.2.2.2.2.2))) w.2.2.1.length (λ j s=>s=w.2.2.1.take j) ?_ ?_ 0 [] (Vq _) rfl
  ·rintro s rfl;simp (disch:=omega) only [E6,dF];exact H4b (by rw[Yn])
  ·rintro j s hj rfl next;have hm:=h4 _ (A4 (d:=Au) hj);have e0:w.2.2.1.getD j ((0:Int),(([],[]),([],[])))=w.2.2.1.getD j Au:=rfl
   have hl:(w.2.2.1.take j).length=j:=by rw[Vt];omega
   simp (disch:=omega) only [E6,dT,Vc,w64,e0];refine Hfb (Pm _ hm) ?_;refine Hcb (by rw[hl];simp only[Vd,Vj];omega) (next _ ?_);rw[We hj,Vb,Vk hj];rfl
 ·rintro r rfl;refine H5b (Q:=λ r=>r=(J7a,w)) ?_ (by rintro r rfl;exact H4b rfl);refine Hdb (L:=λ k i (s:List Wri)=>E5 k w.2.2.2.2.1 (w.2.2.2.2.1.length:Int) i J7a (w.1,w.2.1,w.2.2.1,w.2.2.2.1,s,w.2.2.2.2.2)) (Q:=λ r=>r=(J7a,w)) w.2.2.2.2.1.length (λ j s=>s=w.2.2.2.2.1.take j) ?_ ?_ 0 [] (Vq _) rfl
  ·rintro s rfl;simp (disch:=omega) only [E5,dF];exact H4b (by rw[Yn])
  ·rintro j s hj rfl next;have hm:=(h6 _ (A4 (d:=V0a) hj)).2.1;have e0:w.2.2.2.2.1.getD j ((⟨#[]⟩:ByteArray),((((0:Int),((0:Int),(0:Int))),(false,[])),false))=w.2.2.2.2.1.getD j V0a:=rfl
   have hl:(w.2.2.2.2.1.take j).length=j:=by rw[Vt];omega
   simp (disch:=omega) only [E5,dT,Vc,w64,e0,Iya (f:=(w.2.2.2.2.1.getD j V0a).2.1) (by omega),Vn];refine Hcb (by rw[hl];simp only[Vd,Vj];omega) (next _ ?_);rw[We hj,Vb,Vk hj];rfl

def U1 (s:ByteArray) (a:Bool×Fil) (n:Nod):Bool×Fil:=bif (lkD n.2.1 s).2==0 then (bif !a.1||sle a.2.1 (lkD n.2.1 s).1.1 then (true,(lkD n.2.1 s).1) else a) else a
def lat (ns:List Nod) (s:ByteArray):Bool×Fil:=ns.foldl (U1 s) (false,Z1)
def J0a {s:ByteArray} {a:Bool×Fil} {n:Nod} (h:a.1=true∨((lkD n.2.1 s).2==0)=true):(U1 s a n).1=true:=by
 unfold U1
 cases hc:(lkD n.2.1 s).2==0 with
 |false=>
  rw[hc]at h;rcases h with h|h
  ·exact h
  ·cases h
 |true=>
  rw[cond_true]
  cases ha:a.1 with
  |false=>rfl
  |true=>cases hs:sle a.2.1 (lkD n.2.1 s).1.1<;>simp[ha]
def Oja {s:ByteArray}:∀ (ns:List Nod) (a:Bool×Fil),(a.1=true∨∃ n∈ns,((lkD n.2.1 s).2==0)=true)→(ns.foldl (U1 s) a).1=true
 |[],a,h=>by
  rcases h with h|⟨n,hn,_⟩
  ·exact h
  ·cases hn
 |n::ns,a,h=>by
  rw[Ym];refine Oja ns _ ?_;rcases h with h|⟨m,hm,hg⟩
  ·exact .inl (J0a (.inl h))
  ·rcases Vl.1 hm with rfl|hm
   ·exact .inl (J0a (.inr hg))
   ·exact .inr ⟨m,hm,hg⟩
def X8 (w:Wld) (hw:WIn w) (s:ByteArray):Tot (λ k=>D8 k w s) (λ r=>r=((lat w.2.2.1 s).2,(lat w.2.2.1 s).1)):=by
 obtain⟨_,_,⟨h1,h2⟩,_⟩:=hw;unfold D8;refine H5b (Q:=λ r=>r=((lat w.2.2.1 s).1,Z1,(lat w.2.2.1 s).2)) ?_ (by rintro r rfl;exact H4b rfl);refine Hdb (L:=λ k i (a:Bool×Fil)=>Cg k s a.1 w.2.2.1 (w.2.2.1.length:Int) i Z1 a.2) (Q:=λ r=>r=((lat w.2.2.1 s).1,Z1,(lat w.2.2.1 s).2)) w.2.2.1.length (λ j a=>(w.2.2.1.drop j).foldl (U1 s) a=lat w.2.2.1 s) ?_ ?_ 0 (false,Z1) (Vq _) rfl
 ·rintro a h;rw[Wd]at h;simp (disch:=omega) only [Cg,dF];exact H4b (by rw[← h];rfl)
 ·rintro j ⟨b,f⟩ hj h next;rw[Ah (d:=Au) hj,Ym]at h;have nx:=next _ h;have hm:=h2 _ (A4 (d:=Au) hj);obtain⟨n,en⟩:∃ n:Nod,w.2.2.1.getD j Au=n:=⟨_,rfl⟩;rw[en]at hm nx;have e0:w.2.2.1.getD j ((0:Int),(([],[]),([],[])))=n:=en;simp (disch:=omega) only [Cg,dT,Vc,w64,e0];refine Hfb (Z3 hm.1.1.1.1.1 hm.1.2.1 s) ?_;unfold U1 at nx;cases hc:(lkD n.2.1 s).2==0
  ·rw[hc]at nx;exact H6b rfl nx
  rw[hc]at nx;refine H7b rfl ?_;cases b
  ·exact H7b rfl nx
  refine H6b rfl ?_;simp only[Bba,Option.bind_some];dsimp only at nx ⊢
  cases hs:sle f.1 (lkD n.2.1 s).1.1 with
  |true=>rw[hs]at nx;exact H7b rfl nx
  |false=>rw[hs]at nx;exact H6b rfl nx
def Qda (w:Wld) (hw:WIn w) (s:ByteArray):Tot (λ k=>Dm k w s) (λ r=>r=((lat w.2.2.1 s).2,(lat w.2.2.1 s).1)):=by
 obtain⟨_,_,⟨h1,h2⟩,_⟩:=hw;unfold Dm;refine H5b (Q:=λ r=>r=((lat w.2.2.1 s).1,Z1,(lat w.2.2.1 s).2)) ?_ (by rintro r rfl;exact H4b rfl);refine Hdb (L:=λ k i (a:Bool×Fil)=>Cj k s a.1 i w Z1 a.2) (Q:=λ r=>r=((lat w.2.2.1 s).1,Z1,(lat w.2.2.1 s).2)) w.2.2.1.length (λ j a=>(w.2.2.1.drop j).foldl (U1 s) a=lat w.2.2.1 s) ?_ ?_ 0 (false,Z1) (Vq _) rfl
 ·rintro a h;rw[Wd]at h;simp (disch:=omega) only [Cj,dF];exact H4b (by rw[← h];rfl)
 ·rintro j ⟨b,f⟩ hj h next;rw[Ah (d:=Au) hj,Ym]at h;have nx:=next _ h;have hm:=h2 _ (A4 (d:=Au) hj);obtain⟨n,en⟩:∃ n:Nod,w.2.2.1.getD j Au=n:=⟨_,rfl⟩;rw[en]at hm nx;have e0:w.2.2.1.getD j ((0:Int),(([],[]),([],[])))=n:=en;simp (disch:=omega) only [Cj,dT,Vc,w64,e0];refine H5b (Uy hm.1.1.1.1.1 hm.1.2.1 s) ?_;rintro r rfl;unfold U1 at nx
  cases hc:(lkD n.2.1 s).2==0 with
  |false=>rw[hc]at nx;exact H6b rfl nx
  |true=>
   rw[hc]at nx;refine H7b rfl ?_
   cases b with
   |false=>exact H7b rfl nx
   |true=>
    refine H6b rfl ?_;simp only[Hva,Option.bind_some];dsimp only at nx ⊢
    cases hs:sle f.1 (lkD n.2.1 s).1.1 with
    |true=>rw[hs]at nx;exact H7b rfl nx
    |false=>rw[hs]at nx;exact H6b rfl nx

section
open Go
end

section
open Go
end

def Oi:List Int:=[1,1,1,1,1,1,1,1,1,1,1,1]
def Tz (w:Wld) (i:Nat) (l:List ByteArray):Wld:=l.foldl (λ w s=>(V1 w i s Oi).2) w
def R8 (w:Wld) (i:Nat):Nat→Wld
 |0=>w
 |n+1=>(X7 (R8 w i n) i Oi).2
def qtA (w:Wld) (i:Nat):Wld:=wN w (w.2.2.1.set i (Dob (w.2.2.1.getD i Au)).1)
def qtP (w:Wld) (i:Nat):Wld:=Tz (qtA w i) i (Cfa ((qtA w i).2.2.1.getD i Au).2.1)
def qtT (w:Wld) (i:Nat):Wld:=R8 (qtP w i) i ((qtP w i).2.2.1.getD i Au).2.2.2.length
def qtN (w:Wld) (i:Nat):Wld:=(X6 (qtT w i) i Oi).2
def T8 (w:Wld):Wld:=run qtN w.2.2.1.length w
def J1a:Tot (λ k=>I6 k) (λ r=>r=Oi):=by
 unfold I6;refine H5b (Q:=λ r=>r=Oi) ?_ (by rintro r rfl;exact H4b rfl);refine Hdb (L:=λ k i (s:List Int)=>Fc k s i) (Q:=λ r=>r=Oi) 12 (λ j s=>s=List.replicate j 1) ?_ ?_ 0 [] (Vq _) rfl
 ·rintro s rfl;simp (disch:=omega) only [Fc,dF];exact H4b rfl
 ·rintro j s hj rfl next;simp (disch:=omega) only [Fc,dT,w64];refine Hcb (by rw[J8b];simp only[Vd,Vj];omega) (next _ ?_);rw[List.replicate_succ']
def NW (w v:Wld):Prop:=∃ ns,v=wN w ns∧NO w.2.2.1 ns
def NW.refl {w:Wld} (h:WO w):NW w w:=⟨w.2.2.1,rfl,h.ns,rfl⟩
def NW.trans {u v w:Wld} (h1:NW u v) (h2:NW v w):NW u w:=by
 obtain⟨a,rfl,ha⟩:=h1;obtain⟨b,rfl,hb⟩:=h2;exact⟨b,rfl,hb.1,hb.2.trans ha.2⟩
def NW.wo {w v:Wld} (h:NW w v) (hw:WO w):WO v:=by
 obtain⟨ns,rfl,hn⟩:=h;exact hw.other hn
def NW.len {w v:Wld} (h:NW w v):v.2.2.1.length=w.2.2.1.length:=by
 obtain⟨ns,rfl,hn⟩:=h;exact hn.len
def Vla {w:Wld} (h:WO w) {i:Nat} (hi:i<w.2.2.1.length) (s:ByteArray) (rc:List Int):NW w (V1 w i s rc).2:=Ofa h.ns hi
def Vma {w:Wld} (h:WO w) {i:Nat} (hi:i<w.2.2.1.length) (rc:List Int):NW w (X7 w i rc).2:=Oia h.ns hi
def Vna {w:Wld} (h:WO w) {i:Nat} (hi:i<w.2.2.1.length) (rc:List Int):NW w (X6 w i rc).2:=Oha h.ns hi
def Oka {w:Wld} (h:WO w) {i:Nat} (hi:i<w.2.2.1.length):NW w (qtA w i):=⟨_,rfl,NO.set ⟨h.ns,rfl⟩ hi (Uxa (h.ns.get hi)) rfl⟩
def X9 {i:Nat}:∀ (l:List ByteArray) {w:Wld},WO w→i<w.2.2.1.length→NW w (Tz w i l)
 |[],w,h,_=>NW.refl h
 |s::l,w,h,hi=>by
  have h1:=Vla h hi s Oi;exact h1.trans (X9 l (h1.wo h) (by rw[h1.len];exact hi))
def Qa {i:Nat} {w:Wld} (h:WO w) (hi:i<w.2.2.1.length):∀ n,NW w (R8 w i n)
 |0=>NW.refl h
 |n+1=>by
  have h1:=Qa h hi n;exact h1.trans (Vma (h1.wo h) (by rw[h1.len];exact hi) Oi)
def Voa {w:Wld} (h:WO w) {i:Nat} (hi:i<w.2.2.1.length):NW w (qtP w i):=by
 have h1:=Oka h hi;exact h1.trans (X9 _ (h1.wo h) (by rw[h1.len];exact hi))
def Apb {w:Wld} (h:WO w) {i:Nat} (hi:i<w.2.2.1.length):NW w (qtT w i):=by
 have h1:=Voa h hi;exact h1.trans (Qa (h1.wo h) (by rw[h1.len];exact hi) _)
def Fob {w:Wld} (h:WO w) {i:Nat} (hi:i<w.2.2.1.length):NW w (qtN w i):=by
 have h1:=Apb h hi;exact h1.trans (Vna (h1.wo h) (by rw[h1.len];exact hi) Oi)
def Ola {w:Wld} (h:WO w):∀ n,n≤w.2.2.1.length→NW w (run qtN n w)
 |0,_=>NW.refl h
 |n+1,hn=>by
  have h1:=Ola h n (by omega);rw[Nt];exact h1.trans (Fob (h1.wo h) (by rw[h1.len];omega))
def Z3a {w:Wld} (h:WO w):NW w (T8 w):=Ola h _ (Vx _)
def NW.sp {w v:Wld} (h:NW w v):v.2.2.2.2.2=w.2.2.2.2.2:=by obtain⟨ns,rfl,_⟩:=h;rfl
def Qea {w:Wld} (h:WO w):Tot (λ k=>Af k w) (λ r=>r=T8 w):=by
 have hnl:=h.ns.1;unfold Af;refine H5b J1a ?_;rintro _ rfl;refine H5b (Q:=λ r=>r=T8 w) ?_ (by rintro r rfl;exact H4b rfl);refine Hdb (L:=λ k i (v:Wld)=>C1 k Oi (w.2.2.1.length:Int) i v) (Q:=λ r=>r=T8 w) w.2.2.1.length (λ j v=>v=run qtN j w) ?_ ?_ 0 w (Vq _) rfl
 ·rintro v rfl;simp (disch:=omega) only [C1,dF];exact H4b rfl
 ·rintro j v hj rfl next;rw[Nt]at next;have hn:=Ola h j (by omega);have hv:=hn.wo h;have hl:=hn.len;generalize run qtN j w=v at *
  have hj':j<v.2.2.1.length:=by omega
  have e0:v.2.2.1.getD j ((0:Int),(([],[]),([],[])))=v.2.2.1.getD j Au:=rfl;simp (disch:=omega) only [C1,dT,Vc,e0];refine H5b (Uya _ (hv.ns.get hj')) ?_;rintro _ rfl;have e1:∀ ns:List Nod,ns.getD j ((0:Int),(([],[]),([],[])))=ns.getD j Au:=λ _=>rfl;have hsl:(v.2.2.1.set j (Dob (v.2.2.1.getD j Au)).1).length=v.2.2.1.length:=Vw ..;have hA:=Oka hv hj';have hAo:=hA.wo hv;have hAl:=hA.len;refine H8b (by rw[hsl];omega) ?_;show Tot (λ k=>(K6 k ((qtA v j).2.2.1.getD j Au).2.1).bind λ r6=>(Bd k Oi (j:Int) (w.2.2.1.length:Int) (j:Int) r6 (length r6:Int) 0 (qtA v j)).bind _) _;have hg:=Sy (hAo.ns.get (i:=j) (by omega));refine H5b (Yha _ hg.1.1 hg.1.2) ?_;rintro _ rfl
  have hpl:(Cfa ((qtA v j).2.2.1.getD j Au).2.1).length≤2000000:=by
   have a:=Ahb ((qtA v j).2.2.1.getD j Au).2.1 ((qtA v j).2.2.1.getD j Au).2.1.1 [];rw[Vj]at a;have:=hg.1.1.2.1;unfold Cfa;omega
  have hP:=Voa hv hj';have hPo:=hP.wo hv;have hPl:=hP.len;refine H5b (Q:=λ r=>r=(Oi,(j:Int),(w.2.2.1.length:Int),(j:Int),qtP v j)) ?_ ?_
  ·have hfull:qtP v j=Tz (qtA v j) j (Cfa ((qtA v j).2.2.1.getD j Au).2.1):=rfl;rw[hfull];generalize Cfa ((qtA v j).2.2.1.getD j Au).2.1=l at *;refine Hdb (L:=λ k i (u:Wld)=>Bd k Oi (j:Int) (w.2.2.1.length:Int) (j:Int) l (l.length:Int) i u) (Q:=λ r=>r=(Oi,(j:Int),(w.2.2.1.length:Int),(j:Int),Tz (qtA v j) j l)) l.length (λ i u=>u=Tz (qtA v j) j (l.take i)) ?_ ?_ 0 _ (Vq _) rfl
   ·rintro u rfl;simp (disch:=omega) only [Bd,dF];exact H4b (by rw[Yn])
   ·rintro i u hi rfl next;have hq:=X9 (i:=j) (l.take i) hAo (by omega);have hqo:=hq.wo hAo;have hql:=hq.len;have e2:l.getD i (⟨#[]⟩:ByteArray)=l.getD i Nw:=rfl;simp (disch:=omega) only [Bd,dT,Vc,w64,e2];refine H5b (Z1a _ j _ Oi hqo.ring hqo.ns (by omega)) ?_;rintro _ rfl;refine next _ ?_;unfold Tz;rw[We hi,I6b,Vb,Vk hi];rfl
  ·rintro _ rfl;simp (disch:=omega) only [dT,Vc,e1];have hT:=Apb hv hj';have hTo:=hT.wo hv;have hTl:=hT.len;have hq60:=(Bw.1 (hPo.ns.get (i:=j) (by omega)).1).2.2.2.2;refine H5b (Q:=λ r=>r=(Oi,(j:Int),(w.2.2.1.length:Int),(j:Int),qtT v j)) ?_ ?_
   ·have hfull:qtT v j=R8 (qtP v j) j ((qtP v j).2.2.1.getD j Au).2.2.2.length:=rfl;rw[hfull];generalize ((qtP v j).2.2.1.getD j Au).2.2.2.length=q at *;refine Hdb (L:=λ k i (u:Wld)=>Bl k Oi (j:Int) (w.2.2.1.length:Int) (j:Int) (q:Int) i u) (Q:=λ r=>r=(Oi,(j:Int),(w.2.2.1.length:Int),(j:Int),R8 (qtP v j) j q)) q (λ i u=>u=R8 (qtP v j) j i) ?_ ?_ 0 _ (Vq _) rfl
    ·rintro u rfl;simp (disch:=omega) only [Bl,dF];exact H4b rfl
    ·rintro i u hi rfl next;have hq:=Qa hPo (i:=j) (by omega) i;have hqo:=hq.wo hPo;have hql:=hq.len;simp (disch:=omega) only [Bl,dT,w64];refine H5b (Vja _ j Oi (N6 hqo.ring) hqo.ns (by omega)) ?_;rintro _ rfl;exact next _ rfl
   ·rintro _ rfl;refine H5b (Via (qtT v j) j Oi (N6 hTo.ring) hTo.ns (by omega)) ?_;rintro _ rfl;simp (disch:=omega) only [w64];exact next _ rfl
def Dta (w:Wld):Wld:=bif Xz w then T8 w else w
def Qfa {m:Nat} {w:Wld} (h:WIm m w) (hm:m≤1999000):Tot (λ k=>Lv k w) (λ r=>r=Dta w):=by
 have hw:=h.win (by omega);unfold Lv Dta;refine H5b (Vka h (by omega)) ?_;rintro w rfl;refine H5b (V1a w hw) ?_;rintro b rfl
 cases hk:Xz w with
 |false=>exact H6b rfl (H4b rfl)
 |true=>
  refine H7b rfl (H5b (Qea (h.wo hk)) ?_);rintro _ rfl;exact H4b rfl

section
variable {nm:List ByteArray} {ws:List Wri} {sp:List ByteArray} {d:Dsk} {s:ByteArray} {f:Fil}
end
def D8b {d:Dsk} {s:ByteArray} (hd:DG d) (hg:(gt d.1 s).isSome=true) (t:ByteArray):old (syD (rmD d s).1 s).1 t=if s=t then none else old d t:=by
 have e1:(syD (rmD d s).1 s).1.1=cut d.1 s:=by
  have e:(rmD d s).1=(cut d.1 s,d.2):=by unfold rmD;rw[hg];rfl
  rw[e];unfold syD
  cases decide ((sy (cut d.1 s,d.2) s).length≤60)<;>rfl
 unfold old;rw[e1,T5 (Mq hd.1)]
 by_cases h:s=t
 ·rw[if_pos h,if_pos h];rfl
 ·rw[if_neg h,if_neg h]
def Vpa {d:Dsk} (hd:DG d) (t:ByteArray):old (Mh d).1 t=old d t:=by
 obtain⟨_,h⟩:=Tw d.1 (d,0) hd;unfold old
 by_cases hb:t∈Fba d.1
 ·obtain⟨b,h1,h2⟩:=(O4a hd.1).1 hb;rw[show gt (Mh d).1.1 t=none from ((h t).1 hb).1,h1,Vn,h2];rfl
 ·rw[show gt (Mh d).1.1 t=gt d.1 t from ((h t).2 hb).1]
def Aqb {d:Dsk} {s:ByteArray}:((lkD d s).2 != 0)=(old d s).isNone:=by
 unfold lkD old
 cases gt d.1 s with
 |none=>rfl
 |some b=>cases h:Oe b<;>simp[h]
def Foa {d:Dsk} {s:ByteArray} {f:Fil} (h:old d s=some f):lkD d s=(f,0):=by
 unfold old at h
 cases hg:gt d.1 s with
 |none=>rw[hg]at h;cases h
 |some b=>rw[hg]at h;exact Pa.2 ⟨b,hg,h⟩
def oN (ns:List Nod) (m:Nat) (t:ByteArray):Option Fil:=old (ns.getD m Au).2.1 t
def inP (w:Wld) (t:ByteArray) (m:Nat):Bool:=O7 (O8 w t) (m:Int)
def WI.push {w:Wld} (h:WI w) {i:Nat} (hi:i<w.2.2.1.length) (s:ByteArray) (rc:List Int):WI (V1 w i s rc).2:=h.other' (Oca h.wok h.nodes hi h.ring h.ids)

section
variable {α:Type} {bs:Option α→α→α} {le:α→α→Prop} {P:Nat→Bool} {c c':Nat→Option α} {k n:Nat}
end
def NR.trans {ws:List Wri} {sp:List ByteArray} {a b c:List Nod} (h1:NR ws sp a b) (h2:NR ws sp b c):NR ws sp a c:=⟨h2.1,h2.2.1.trans h1.2.1,λ s hs st h=>h2.2.2 s hs st (h1.2.2 s hs st h)⟩
section
variable {w v u:Wld}
end

def NI.rows {ws:List Wri} {sp:List ByteArray} {n:Nod} (h:NI ws sp n):Jb n.2.2.1:=(My.1 (Bw.1 h.1.1).2.2.2.1).1
def WI.give {w:Wld} (h:WI w) (m:Nat) (hm:m<w.2.2.1.length):Jb (w.2.2.1.getD m Au).2.2.1:=(h.nodes _ (A4 (d:=Au) hm)).rows

def NG.rows {n:Nod} (h:NG n):Jb n.2.2.1:=(My.1 (Bw.1 h.1).2.2.2.1).1

section
open Go
end

def Arb {a b:Stp} (h1:sle a b=false) (h2:sle b a=false):a=b:=by
 have n1:¬ sle a b=true:=by rw[h1];decide
 have n2:¬ sle b a=true:=by rw[h2];decide
 rw[Qo]at n1 n2;obtain⟨a1,a2,a3⟩:=a;obtain⟨b1,b2,b3⟩:=b;dsimp only at n1 n2
 obtain rfl:a1=b1:=by omega
 obtain rfl:a2=b2:=by omega
 obtain rfl:a3=b3:=by omega
 rfl
def Z4a {d:Dsk} {s:ByteArray}:((lkD d s).2==0)=(old d s).isSome:=by
 have:=Aqb (d:=d) (s:=s);unfold bne at this
 cases h:(lkD d s).2==0<;>cases h2:old d s<;>simp[h,h2]at this ⊢
section
variable {nm:List ByteArray} {w:Wld}
end

end Go.Proofs.YtiiekghlhfbmmaaGreat.Vf
