import Derived.Test.YtcpligincipmhaaMal
set_option linter.all false
namespace Go.Proofs.Ytcpligincipmhaa.Vf
open Go
open List (length getD)
open Int (toNat)
open Go.IntKind (wrap)
open BitVec (ofInt)
def Czb:=@List.getElem_map
def D0b:=@List.exists_mem_of_length_pos

def R4 {a b c:Stp} (h1:sle a b=false) (h2:sle b c=false):sle a c=false:=by
 cases h:sle a c
 ·rfl
 have n1:¬ _:=λ k=>by rw[Ki.2 k]at h1;cases h1
 have n2:¬ _:=λ k=>by rw[Ki.2 k]at h2;cases h2
 have h3:=Ki.1 h;omega
def N4 {a b:Stp} (h:sle a b=true):sle b a=false:=by
 cases h':sle b a
 ·rfl
 have h1:=Ki.1 h;have h2:=Ki.1 h';omega
def A0a (ws:List Wri):Prop:=∀ x∈ws,B2 x.1=true∧De x.2.1=true∧Av x.2.1.2.2
def IsW (ws:List Wri) (s:ByteArray) (f:Fil):Prop:=∃ x∈ws,x.1=s∧x.2.1=f
def EO (ws:List Wri) (sp:List ByteArray) (s:ByteArray) (b:List Int):Prop:=∃ f,IsW ws s f∧(b=Gc f∨(s∈sp∧∃ n,n<8*(Gc f).length∧b=Js (Gc f) n))
def ED (ws:List Wri) (sp:List ByteArray) (d:Dsk) (s:ByteArray):Prop:=
 (∀ b,gt d.1 s=some b→EO ws sp s b)∧(∀ b,gt d.2 s=some b→EO ws sp s b)∧
 (s∉sp→∀ b f,gt d.2 s=some b→Je b=some f→∃ b' f',gt d.1 s=some b'∧Je b'=some f'∧sle f'.1 f.1=false)
def DI (ws:List Wri) (sp:List ByteArray) (d:Dsk):Prop:=∀ s,ED ws sp d s
def HD (d:Dsk) (s:ByteArray) (st:Stp):Prop:=∃ b f,gt d.2 s=some b∧Je b=some f∧sle f.1 st=false
def MO (sp:List ByteArray) (d d':Dsk):Prop:=∀ s,s∉sp→∀ st,HD d s st→HD d' s st
def IsW.good {ws:List Wri} (hw:A0a ws) {s:ByteArray} {f:Fil} (h:IsW ws s f):B2 s=true∧De f=true∧Av f.2.2:=by
 obtain⟨x,hx,rfl,rfl⟩:=h;exact hw x hx
def EO.get {ws:List Wri} {sp:List ByteArray} (hw:A0a ws) {s:ByteArray} {b:List Int} (h:EO ws sp s b) {f:Fil} (hf:Je b=some f):IsW ws s f∧b=Gc f:=by
 obtain⟨g,h1,h2⟩:=h;obtain⟨_,g2,g3⟩:=h1.good hw;rcases h2 with rfl|⟨_,n,hn,rfl⟩
 ·rw[M2 g2 g3]at hf;cases hf;exact⟨h1,rfl⟩
 ·rw[Rha g2 hn]at hf;cases hf
def EO.fine {ws:List Wri} {sp:List ByteArray} (hw:A0a ws) {s:ByteArray} {b:List Int} (h:EO ws sp s b) (hs:s∉sp):∃ f,Je b=some f∧IsW ws s f:=by
 obtain⟨g,h1,h2⟩:=h;obtain⟨_,g2,g3⟩:=h1.good hw;rcases h2 with rfl|⟨h,_⟩
 ·exact⟨g,M2 g2 g3,h1⟩
 ·exact absurd h hs
def EO.mono {ws ws':List Wri} {sp sp':List ByteArray} (h1:∀ x∈ws,x∈ws') (h2:∀ s∈sp,s∈sp') {s:ByteArray} {b:List Int} (h:EO ws sp s b):EO ws' sp' s b:=by
 obtain⟨g,⟨x,hx,e⟩,h3⟩:=h;refine⟨g,⟨x,h1 x hx,e⟩,?_⟩;rcases h3 with h3|⟨h3,h4⟩
 ·exact .inl h3
 ·exact .inr ⟨h2 s h3,h4⟩
def ED.mono {ws ws':List Wri} {sp sp':List ByteArray} (h1:∀ x∈ws,x∈ws') (h2:∀ s∈sp,s∈sp') {d:Dsk} {s:ByteArray} (h:ED ws sp d s):ED ws' sp' d s:=
 ⟨λ b hb=>(h.1 b hb).mono h1 h2,λ b hb=>(h.2.1 b hb).mono h1 h2,λ hs=>h.2.2 (λ c=>hs (h2 s c))⟩
def DI.mono {ws ws':List Wri} {sp sp':List ByteArray} (h1:∀ x∈ws,x∈ws') (h2:∀ s∈sp,s∈sp') {d:Dsk} (h:DI ws sp d):DI ws' sp' d:=λ s=>(h s).mono h1 h2
def ED.same {ws:List Wri} {sp:List ByteArray} {d d':Dsk} {s:ByteArray} (h:ED ws sp d s) (e1:gt d'.1 s=gt d.1 s) (e2:gt d'.2 s=gt d.2 s):ED ws sp d' s:=by
 unfold ED;rw[e1,e2];exact h
def HD.same {d d':Dsk} {s:ByteArray} {st:Stp} (h:HD d s st) (e2:gt d'.2 s=gt d.2 s):HD d' s st:=by
 unfold HD;rw[e2];exact h
def MO.refl (sp:List ByteArray) (d:Dsk):MO sp d d:=λ _ _ _ h=>h
def MO.trans {sp:List ByteArray} {a b c:Dsk} (h1:MO sp a b) (h2:MO sp b c):MO sp a c:=λ s hs st h=>h2 s hs st (h1 s hs st h)
section
variable {ws:List Wri} {sp:List ByteArray} {d:Dsk} {s:ByteArray}
def ED.now (hw:A0a ws) (h:ED ws sp d s) {f:Fil} (ho:old d s=some f):IsW ws s f:=by
 unfold old at ho
 cases hg:gt d.1 s with
 |none=>rw[hg]at ho;cases ho
 |some b=>rw[hg]at ho;exact((h.1 b hg).get hw ho).1
def ED.ge (h:ED ws sp d s) (hs:s∉sp) {st:Stp} (hh:HD d s st):∃ b f,gt d.1 s=some b∧Je b=some f∧sle f.1 st=false:=by
 obtain⟨b,f,h1,h2,h3⟩:=hh;obtain⟨b',f',h4,h5,h6⟩:=h.2.2 hs b f h1 h2;exact⟨b',f',h4,h5,R4 h6 h3⟩
def W3a (hd:Bx d=true) (h:DI ws sp d):DI ws sp (d.1,sy d s):=by
 intro t
 by_cases ht:s=t
 ·subst ht
  have e:gt (sy d s) s=gt d.1 s:=by rw[Eva hd,if_pos rfl]
  refine⟨(h s).1,λ b hb=>(h s).1 b (by rw[← e];exact hb),λ hs b f hb hf=>⟨b,f,by rw[← e];exact hb,hf,Fx _⟩⟩
 ·exact(h t).same rfl (by show gt (sy d s) t=_;rw[Eva hd,if_neg ht])
def Ysa (hd:Bx d=true) (h:DI ws sp d):MO sp d (d.1,sy d s):=by
 intro t ht st hh
 by_cases hst:s=t
 ·subst hst;obtain⟨b,f,h1,h2,h3⟩:=(h s).ge ht hh;exact⟨b,f,by show gt (sy d s) s=_;rw[Eva hd,if_pos rfl,h1],h2,h3⟩
 ·exact hh.same (by show gt (sy d s) t=_;rw[Eva hd,if_neg hst])
def A5b (hw:A0a ws) (hd:Bx d=true) (h:DI ws sp d) {f:Fil} (hf:IsW ws s f) (hn:∀ o,old d s=some o→sle o.1 f.1=true):DI ws sp (wr d.1 s (Gc f),d.2):=by
 intro t
 by_cases ht:s=t
 ·subst ht
  have e:gt (wr d.1 s (Gc f)) s=some (Gc f):=by rw[Y7 (H6 hd),if_pos rfl]
  obtain⟨_,g2,g3⟩:=hf.good hw;refine⟨λ b hb=>?_,(h s).2.1,λ hs b g hb hg=>⟨Gc f,f,e,M2 g2 g3,?_⟩⟩
  ·rw[show gt (wr d.1 s (Gc f)) s=some b from hb]at e;cases e;exact⟨f,hf,.inl rfl⟩
  ·obtain⟨b',f',k1,k2,k3⟩:=(h s).2.2 hs b g hb hg;have:=hn f' (by unfold old;rw[k1];exact k2);exact R4 (N4 this) k3
 ·exact(h t).same (by show gt (wr d.1 s (Gc f)) t=_;rw[Y7 (H6 hd),if_neg ht]) rfl
def F6a (hw:A0a ws) (hd:DG d) (h:DI ws sp d) {f:Fil} {sure:Bool} (hf:IsW ws s f):DI ws sp (keep d s f sure).1∧MO sp d (keep d s f sure).1:=by
 obtain⟨g1,g2,g3⟩:=hf.good hw;rw[N2 hd.1 g1 g2];rcases Np (f:=f) (sure:=sure) hd g1 with k|⟨o,_,_,k,hg,h3⟩|⟨h1,h2,k,hg,h3⟩
 ·rw[k];exact⟨h,MO.refl _ _⟩
 ·rcases h3 with⟨_,h3⟩|⟨_,h3⟩
  ·rw[h3];exact⟨h,MO.refl _ _⟩
  ·rw[h3];exact⟨W3a hd.1 h,Ysa hd.1 h⟩
 ·have hw':=A5b hw hd.1 h hf h1;rcases h3 with⟨_,h3⟩|⟨_,h3⟩
  ·rw[h3];exact⟨hw',λ t _ st hh=>hh.same rfl⟩
  ·rw[h3];exact⟨W3a h2.1 hw',(show MO sp d (wr d.1 s (Gc f),d.2) from λ t _ st hh=>hh.same rfl).trans (Ysa h2.1 hw')⟩
def Nua (hw:A0a ws) (hd:DG d) {f:Fil} (hf:IsW ws s f) (hc:(keep d s f true).2=0∨(keep d s f true).2=1):HD (keep d s f true).1 s f.1:=by
 obtain⟨g1,g2,g3⟩:=hf.good hw;rw[N2 hd.1 g1 g2]at hc ⊢;obtain⟨o,g,b,ho,_,e,h1,h2,h3⟩:=N6a hd g1 g2 g3 hc;rw[e];exact⟨b,g,by show gt (sy o s) s=_;rw[Eva ho.1,if_pos rfl,h1],h2,h3⟩
def W4a (hd:DG d) (h:DI ws sp d) (kp:List Bool):DI ws sp (Re d kp):=by
 intro t;rcases Nla (d:=d) (kp:=kp) t with e|⟨e1,e2⟩
 ·rw[e];exact h t
 ·unfold ED;rw[e1]
  have eo:∀ b,gt (Re d kp).1 t=some b→EO ws sp t b:=by
   intro b hb;rcases e2 with e2|e2
   ·exact(h t).1 b (by rw[← e2];exact hb)
   ·exact(h t).2.1 b (by rw[← e2];exact hb)
  exact⟨eo,eo,λ _ b f hb hf=>⟨b,f,hb,hf,Fx _⟩⟩
def W5a (hd:DG d) (h:DI ws sp d) (kp:List Bool):MO sp d (Re d kp):=by
 intro t ht st hh;rcases Nla (d:=d) (kp:=kp) t with e|⟨e1,e2⟩
 ·rw[e];exact hh
 ·unfold HD;rw[e1];rcases e2 with e2|e2
  ·rw[e2];exact(h t).ge ht hh
  ·rw[e2];exact hh
def Hha (hw:A0a ws) (hd:DG d) (h:DI ws sp d):DI ws sp (It d).1∧MO sp d (It d).1:=by
 obtain⟨_,hc⟩:=Oj d.1 (d,0) hd;have hc':∀ t,(t∈Z1 d.1→gt (It d).1.1 t=none∧gt (It d).1.2 t=none)∧(t∉Z1 d.1→gt (It d).1.1 t=gt d.1 t∧gt (It d).1.2 t=gt d.2 t):=hc
 have hb:∀ t,t∈Z1 d.1→t∈sp:=by
  intro t ht;obtain⟨b,h1,h2⟩:=(Hda hd.1).1 ht
  by_cases hs:t∈sp
  ·exact hs
  ·obtain⟨f,hf,_⟩:=((h t).1 b h1).fine hw hs;rw[hf]at h2;cases h2
 constructor
 ·intro t
  by_cases ht:t∈Z1 d.1
  ·obtain⟨e1,e2⟩:=(hc' t).1 ht;unfold ED;rw[e1,e2];exact⟨λ b hb=>(by cases hb),λ b hb=>(by cases hb),λ _ b f hb=>(by cases hb)⟩
  ·obtain⟨e1,e2⟩:=(hc' t).2 ht;exact(h t).same e1 e2
 ·intro t ht st hh;exact hh.same ((hc' t).2 (λ c=>ht (hb t c))).2
def Yta (hd:DG d) (h:DI ws sp d) (hs:B2 s=true):DI ws sp (syD (rmD d s).1 s).1∧∀ t,t≠s→∀ st,HD d t st→HD (syD (rmD d s).1 s).1 t st:=by
 have hr:DI ws sp (rmD d s).1∨True := .inr trivial;unfold rmD
 cases hg:gt d.1 s with
 |none=>
  have e:(bif (none:Option (List Int)).isSome then ((cut d.1 s,d.2),true) else (d,false)).1=d:=rfl;rw[e];unfold syD
  by_cases hl:(sy d s).length≤60
  ·rw[decide_eq_true hl];exact⟨W3a hd.1 h,λ t ht st hh=>hh.same (by show gt (sy d s) t=_;rw[Eva hd.1,if_neg (C9b ht)])⟩
  ·rw[decide_eq_false hl];exact⟨h,λ t ht st hh=>hh⟩
 |some b=>
  have e:(bif (some b:Option (List Int)).isSome then ((cut d.1 s,d.2),true) else (d,false)).1=(cut d.1 s,d.2):=rfl;rw[e];have hd':Bx (cut d.1 s,d.2)=true:=Dv.2 ⟨Qy (Dv.1 hd.1).1,(Dv.1 hd.1).2⟩
  have e1:∀ t,gt (cut d.1 s) t=if s=t then none else gt d.1 t:=λ t=>Pl (H6 hd.1)
  have e2:∀ t,gt (sy (cut d.1 s,d.2) s) t=if s=t then none else gt d.2 t:=λ t=>by
   rw[Eva hd']
   by_cases hst:s=t
   ·rw[if_pos hst,if_pos hst];show gt (cut d.1 s) s=none;rw[e1,if_pos rfl]
   ·rw[if_neg hst,if_neg hst]
  have hlen:(sy (cut d.1 s,d.2) s).length≤60:=by
   have:sy (cut d.1 s,d.2) s=cut d.2 s:=by
    unfold sy;have:=e1 s;rw[if_pos rfl]at this;rw[show gt (cut d.1 s,d.2).1 s=none from this]
   rw[this];exact Zv Tf.length_le (B3.1 (Dv.1 hd.1).2).2.2
  unfold syD;rw[decide_eq_true hlen];constructor
  ·intro t;show ED ws sp (cut d.1 s,sy (cut d.1 s,d.2) s) t
   by_cases hst:s=t
   ·unfold ED;dsimp only;rw[e1,e2,if_pos hst,if_pos hst];exact⟨λ b hb=>(by cases hb),λ b hb=>(by cases hb),λ _ b f hb=>(by cases hb)⟩
   ·exact(h t).same (by show gt (cut d.1 s) t=_;rw[e1,if_neg hst]) (by show gt (sy (cut d.1 s,d.2) s) t=_;rw[e2,if_neg hst])
  ·intro t ht st hh;exact hh.same (by show gt (sy (cut d.1 s,d.2) s) t=_;rw[e2,if_neg (C9b ht)])
def Yua (hw:A0a ws) (hd:DG d) (h:DI ws sp d) {n:Int} (hl:(lkD d s).2=0) (hr:(J3a d s n).2=true) (sp':List ByteArray) (hsp:∀ t,t∈sp'↔t=s∨t∈sp):DI ws sp' (J3a d s n).1∧MO sp' d (J3a d s n).1∧∃ f,IsW ws s f:=by
 obtain⟨b,hb,hf⟩:=La.1 (show lkD d s=((lkD d s).1,0) by rw[← hl]);obtain⟨hW,e⟩:=((h s).1 b hb).get hw hf;have hsub:∀ t∈sp,t∈sp':=λ t ht=>(hsp t).2 (.inr ht);generalize (lkD d s).1=f at *;unfold J3a at hr ⊢;rw[hb]at hr ⊢;dsimp only at hr ⊢;cases hin:inR n 0 (8*(b.length:Int)-1)
 ·rw[hin]at hr;cases hr
 rw[cond_true];obtain⟨n0,n1⟩:=Fk.1 hin
 have hn:n.toNat<8*(Gc f).length:=by rw[← e];omega
 have e1:∀ t,gt (wr d.1 s (Js b n.toNat)) t=if s=t then some (Js b n.toNat) else gt d.1 t:=λ t=>Y7 (H6 hd.1)
 have e2:∀ t,gt (bif decide (gt d.2 s=some b) then wr d.2 s (Js b n.toNat) else d.2) t=if s=t∧gt d.2 s=some b then some (Js b n.toNat) else gt d.2 t:=by
  intro t
  by_cases hg:gt d.2 s=some b
  ·rw[decide_eq_true hg,cond_true,Y7 (Kl hd.1)]
   by_cases hst:s=t
   ·rw[if_pos hst,if_pos ⟨hst,hg⟩]
   ·rw[if_neg hst,if_neg (λ c=>hst c.1)]
  ·rw[decide_eq_false hg,cond_false,if_neg (λ c=>hg c.2)]
 have hflip:EO ws sp' s (Js b n.toNat):=⟨f,hW,.inr ⟨(hsp s).2 (.inl rfl),n.toNat,hn,by rw[e]⟩⟩;refine⟨λ t=>?_,λ t ht st hh=>?_,f,hW⟩
 ·by_cases hst:s=t
  ·subst hst;refine⟨λ x hx=>?_,λ x hx=>?_,λ c=>absurd ((hsp s).2 (.inl rfl)) c⟩
   ·have:=e1 s;rw[if_pos rfl]at this;rw[show gt (wr d.1 s (Js b n.toNat)) s=some x from hx]at this;cases this;exact hflip
   ·have:=e2 s;rw[show gt (bif decide (gt d.2 s=some b) then wr d.2 s (Js b n.toNat) else d.2) s=some x from hx]at this
    by_cases hg:gt d.2 s=some b
    ·rw[if_pos ⟨rfl,hg⟩]at this;cases this;exact hflip
    ·rw[if_neg (λ c=>hg c.2)]at this;exact((h s).2.1 x this.symm).mono (λ _ h=>h) hsub
  ·refine((h t).mono (λ _ h=>h) hsub).same ?_ ?_
   ·show gt (wr d.1 s (Js b n.toNat)) t=_;rw[e1,if_neg hst]
   ·show gt (bif decide (gt d.2 s=some b) then wr d.2 s (Js b n.toNat) else d.2) t=_;rw[e2,if_neg (λ c=>hst c.1)]
 ·have hst:s≠t:=λ c=>ht ((hsp t).2 (.inl c.symm));exact hh.same (by show gt (bif decide (gt d.2 s=some b) then wr d.2 s (Js b n.toNat) else d.2) t=_;rw[e2,if_neg (λ c=>hst c.1)])
end

def NI (ws:List Wri) (sp:List ByteArray) (n:Nod):Prop:=NG n∧DI ws sp n.2.1∧(∀ r∈n.2.2.1,Qo ws r=true)∧∀ r∈n.2.2.2,Qo ws r=true
def KN (ns:List Nod) (s:ByteArray) (st:Stp):Prop:=∃ i,i<ns.length∧HD (ns.getD i Ae).2.1 s st
def MS (sp:List ByteArray) (ns ns':List Nod):Prop:=∀ s,s∉sp→∀ st,KN ns s st→KN ns' s st
def Pq {ws:List Wri} {r:Row}:Qo ws r=true↔∃ x∈ws,Rd x.1 x.2.1=r:=by
 unfold Qo;rw[Cvb];exact⟨λ ⟨x,h1,h2⟩=>⟨x,h1,Cpa.1 h2⟩,λ ⟨x,h1,h2⟩=>⟨x,h1,Cpa.2 h2⟩⟩
def W4 {ws ws':List Wri} (h:∀ x∈ws,x∈ws') {r:Row} (hr:Qo ws r=true):Qo ws' r=true:=by
 obtain⟨x,h1,h2⟩:=Pq.1 hr;exact Pq.2 ⟨x,h x h1,h2⟩
def Rsa {ws:List Wri} {s:ByteArray} {f:Fil} (h:IsW ws s f):Qo ws (Rd s f)=true:=by
 obtain⟨x,h1,rfl,rfl⟩:=h;exact Pq.2 ⟨x,h1,rfl⟩
def NI.mono {ws ws':List Wri} {sp sp':List ByteArray} (h1:∀ x∈ws,x∈ws') (h2:∀ s∈sp,s∈sp') {n:Nod} (h:NI ws sp n):NI ws' sp' n:=
 ⟨h.1,h.2.1.mono h1 h2,λ r hr=>W4 h1 (h.2.2.1 r hr),λ r hr=>W4 h1 (h.2.2.2 r hr)⟩
def NR (ws:List Wri) (sp:List ByteArray) (ns ns':List Nod):Prop:=(∀ n∈ns',NI ws sp n)∧ns'.map (·.1)=ns.map (·.1)∧MS sp ns ns'
def NR.refl {ws:List Wri} {sp:List ByteArray} {ns:List Nod} (h:∀ n∈ns,NI ws sp n):NR ws sp ns ns:=⟨h,rfl,λ _ _ _ h=>h⟩
def NR.len {ws:List Wri} {sp:List ByteArray} {ns ns':List Nod} (h:NR ws sp ns ns'):ns'.length=ns.length:=by
 have:=congrArg length h.2.1;rwa [Vz,Vz]at this
def Dx {α:Type} {l:List α} {i j:Nat} {x d:α} (hj:j<l.length):(l.set i x).getD j d=if i=j then x else l.getD j d:=by
 rw[Vb,List.getElem?_set]
 by_cases h:i=j
 ·subst h;rw[if_pos rfl,if_pos rfl,if_pos hj];rfl
 ·rw[if_neg h,if_neg h,Vb]
def F7a {ns:List Nod} {i:Nat} {n:Nod} (hi:i<ns.length) (h:n.1=(ns.getD i Ae).1):(ns.set i n).map (·.1)=ns.map (·.1):=by
 refine Dnb (by simp) (λ j h1 h2=>?_);rw[Vz,Vu]at h1;rw[Czb,Czb,Dob]
 by_cases hij:i=j
 ·subst hij;rw[if_pos rfl,h,Vb,Vg hi];rfl
 ·rw[if_neg hij]
def NR.set {ws:List Wri} {sp:List ByteArray} {ns ns':List Nod} (h:NR ws sp ns ns') {i:Nat} (hi:i<ns'.length) {n:Nod} (h1:NI ws sp n) (h2:n.1=(ns'.getD i Ae).1) (h3:MO sp (ns'.getD i Ae).2.1 n.2.1):NR ws sp ns (ns'.set i n):=by
 obtain⟨g1,g2,g3⟩:=h;refine⟨λ m hm=>?_,by rw[F7a hi h2,g2],λ s hs st hk=>?_⟩
 ·rcases Yw hm with hm|rfl
  ·exact g1 m hm
  ·exact h1
 ·obtain⟨j,hj,hd⟩:=g3 s hs st hk;refine⟨j,by rw[Vu];exact hj,?_⟩;rw[Dx hj]
  by_cases hij:i=j
  ·subst hij;rw[if_pos rfl];exact h3 s hs st hd
  ·rw[if_neg hij];exact hd
section
variable {ws:List Wri} {sp:List ByteArray} {n:Nod} {s:ByteArray} {f:Fil}
def W6a (hw:A0a ws) (h:NI ws sp n) (hf:IsW ws s f) (sure:Bool):NI ws sp (Oo n s f sure).1∧(Oo n s f sure).1.1=n.1∧MO sp n.2.1 (Oo n s f sure).1.2.1:=by
 obtain⟨g1,g2,g3⟩:=hf.good hw;obtain⟨h1,h2,h3,h4⟩:=h;have hg:=N7a (sure:=sure) h1 g1 g2;obtain⟨k1,k2⟩:=F6a (sure:=sure) hw h1.g h2 hf;unfold Oo at hg ⊢;cases hq:(n.2.2.2.length:Int)==60
 case true=>exact⟨⟨h1,h2,h3,h4⟩,rfl,MO.refl _ _⟩
 rw[hq]at hg;refine⟨⟨hg,k1,h3,?_⟩,rfl,k2⟩
 show ∀ r∈bif (keep n.2.1 s f sure).2==0&&sure then n.2.2.2++[Rd s f] else n.2.2.2,Qo ws r=true
 cases (keep n.2.1 s f sure).2==0&&sure
 ·exact h4
 intro r hr;rcases Vl.1 hr with hr|hr
 ·exact h4 r hr
 ·rw[Vp.1 hr];exact Rsa hf
def W7a (hw:A0a ws) (h:NI ws sp n) (hf:IsW ws s f) (hc:(Oo n s f true).2=0∨(Oo n s f true).2=1):HD (Oo n s f true).1.2.1 s f.1:=by
 unfold Oo at hc ⊢
 cases hq:((n.2.2.2.length:Int)==60) with
 |true=>rw[hq]at hc;rcases hc with hc|hc<;>cases hc
 |false=>rw[hq]at hc;exact Nua hw h.1.g hf hc
def Yva (h:NI ws sp n) {l:List Row} (hl:Hb l=true) (hr:∀ r∈l,Qo ws r=true):NI ws sp (tk n l).2∧(tk n l).2.1=n.1∧(tk n l).2.2.1=n.2.1:=by
 obtain⟨h1,h2,h3,h4⟩:=h;have hg:=A3b h1 hl;unfold tk at hg ⊢;cases hq:decide ((Mb n.2.2.1 l).length > 60)
 case true=>exact⟨⟨h1,h2,h3,h4⟩,rfl,rfl⟩
 rw[hq]at hg;exact⟨⟨hg,h2,λ r hr'=>(Xy hr').elim (h3 r) (hr r),h4⟩,rfl,rfl⟩
end
def Ywa {ws:List Wri} {sp:List ByteArray} {ns:List Nod} {R:Int} {rc:List Int} {s:ByteArray} {f:Fil} {cs:List Int} {a:List Nod×Int×Int} {j:Nat} (hw:A0a ws) (hf:IsW ws s f)
  (h:NR ws sp ns a.1∧(s∉sp→a.2.2≥1→KN a.1 s f.1)∧a.2.2≥0) (hc:(cs.getD j 0).toNat<ns.length):
  NR ws sp ns (wst R rc s f cs a j).1∧(s∉sp→(wst R rc s f cs a j).2.2≥1→KN (wst R rc s f cs a j).1 s f.1)∧(wst R rc s f cs a j).2.2≥0:=by
 obtain⟨h1,h2,h3⟩:=h;unfold wst;cases decide (a.2.1<R)
 ·exact⟨h1,h2,h3⟩
 cases rch rc j==0
 case true=>exact⟨h1,h2,h3⟩
 rw[cond_true,cond_false]
 have hi:(cs.getD j 0).toNat<a.1.length:=by rw[h1.len];exact hc
 generalize (cs.getD j 0).toNat=i at *;have hn:=h1.1 _ (A3 (d:=Ae) hi);obtain⟨p1,p2,p3⟩:=W6a hw hn hf (rch rc j != 3);refine⟨h1.set hi p1 p2 p3,λ hs hg=>?_,?_⟩
 ·cases hr:rch rc j==1&&((Oo (a.1.getD i Ae) s f (rch rc j != 3)).2==0||(Oo (a.1.getD i Ae) s f (rch rc j != 3)).2==1) with
  |true=>
   rw[Va,Zz,beq_iff_eq,beq_iff_eq,beq_iff_eq]at hr
   have e:(rch rc j != 3)=true:=by rw[hr.1];rfl
   rw[e]at hr ⊢;refine⟨i,by rw[Vu];exact hi,?_⟩;rw[Dx hi,if_pos rfl];exact W7a hw hn hf hr.2
  |false=>
   rw[hr]at hg;obtain⟨m,hm,hd⟩:=h2 hs hg;refine⟨m,by rw[Vu];exact hm,?_⟩;rw[Dx hm]
   by_cases hij:i=m
   ·subst hij;rw[if_pos rfl];exact p3 s hs _ hd
   ·rw[if_neg hij];exact hd
 ·dsimp only;cases rch rc j==1&&((Oo (a.1.getD i Ae) s f (rch rc j != 3)).2==0||(Oo (a.1.getD i Ae) s f (rch rc j != 3)).2==1)
  ·exact h3
  ·rw[cond_true];omega
def Yxa {ws:List Wri} {sp:List ByteArray} {w:Wld} {rc:List Int} {s:ByteArray} {f:Fil} (hw:A0a ws) (hf:IsW ws s f) (hn:∀ n∈w.2.2.1,NI ws sp n):
  NR ws sp w.2.2.1 (wrN w s f rc).1∧(s∉sp→(wrN w s f rc).2.2≥1→KN (wrN w s f rc).1 s f.1)∧(wrN w s f rc).2.2≥0:=
 H7 (λ _ (a:List Nod×Int×Int)=>NR ws sp w.2.2.1 a.1∧(s∉sp→a.2.2≥1→KN a.1 s f.1)∧a.2.2≥0) ⟨NR.refl hn,λ _ h=>absurd h (show ¬ (0:Int)≥1 by omega),Zza _⟩
  (λ j b hj hb=>Ywa hw hf hb (by have:=H8 (A3 (d:=0) hj);omega))
def Yya {ws:List Wri} {sp:List ByteArray} {ns:List Nod} {rc:List Int} {s:ByteArray} {f:Fil} {ps:List Int} {a:List Nod×Bool×Bool} {src j:Nat} (hw:A0a ws) (hf:IsW ws s f) (hsrc:src<ns.length)
  (h:NR ws sp ns a.1∧(a.2.1=false→a.1.getD src Ae=ns.getD src Ae∧(a.2.2=true→0<j→∃ i,i≠src∧i<ns.length∧HD (a.1.getD i Ae).2.1 s f.1))) (hc:(ps.getD j 0).toNat<ns.length) (hc0:0≤ps.getD j 0):
  NR ws sp ns (pst (src:Int) s f rc ps a j).1∧((pst (src:Int) s f rc ps a j).2.1=false→(pst (src:Int) s f rc ps a j).1.getD src Ae=ns.getD src Ae∧((pst (src:Int) s f rc ps a j).2.2=true→0<j+1→∃ i,i≠src∧i<ns.length∧HD ((pst (src:Int) s f rc ps a j).1.getD i Ae).2.1 s f.1)):=by
 obtain⟨h1,h2⟩:=h;unfold pst;cases hz:ps.getD j 0==(src:Int)
 case true=>exact⟨h1,λ c=>by cases c⟩
 have hne:(ps.getD j 0).toNat≠src:=by
  have:=beq_eq_false_iff_ne.1 hz;omega
 cases hr:rch rc j != 1
 case true=>exact⟨h1,λ c=>⟨(h2 c).1,λ c'=>by cases c'⟩⟩
 rw[cond_false,cond_false]
 have hi:(ps.getD j 0).toNat<a.1.length:=by rw[h1.len];exact hc
 generalize (ps.getD j 0).toNat=i at *;have hn:=h1.1 _ (A3 (d:=Ae) hi);obtain⟨k1,k2⟩:=F6a (sure:=true) hw hn.1.g hn.2.1 hf;refine⟨h1.set hi ⟨Tu hn.1,k1,hn.2.2⟩ rfl k2,λ c=>⟨?_,λ c' _=>?_⟩⟩
 ·show (a.1.set i _).getD src Ae=_;rw[Dx (by rw[h1.len];exact hsrc),if_neg hne];exact(h2 c).1
 ·refine⟨i,hne,hc,?_⟩;show HD ((a.1.set i _).getD i Ae).2.1 s f.1;rw[Dx hi,if_pos rfl];refine Nua hw hn.1.g hf ?_
  cases hk:(keep (a.1.getD i Ae).2.1 s f true).2 != 0&&(keep (a.1.getD i Ae).2.1 s f true).2 != 1 with
  |true=>
   have:(bif (keep (a.1.getD i Ae).2.1 s f true).2 != 0&&(keep (a.1.getD i Ae).2.1 s f true).2 != 1 then false else a.2.2)=true:=c';rw[hk]at this;cases this
  |false=>
   rw[Ctb,bne,bne,Yg,Yg,beq_iff_eq,beq_iff_eq]at hk;exact hk
def Yza {ws:List Wri} {sp:List ByteArray} {w:Wld} {rc:List Int} {s:ByteArray} {i:Nat} (hw:A0a ws) (hn:∀ n∈w.2.2.1,NI ws sp n) (hi:i<w.2.2.1.length) (hf:IsW ws s (lkD (w.2.2.1.getD i Ae).2.1 s).1):
  NR ws sp w.2.2.1 (puN w i s rc).1∧((puN w i s rc).2.1=false→(puN w i s rc).1.getD i Ae=w.2.2.1.getD i Ae∧((puN w i s rc).2.2=true→0<(Hs w s).length→∃ j,j≠i∧j<w.2.2.1.length∧HD ((puN w i s rc).1.getD j Ae).2.1 s (lkD (w.2.2.1.getD i Ae).2.1 s).1.1)):=
 H7 (λ n (a:List Nod×Bool×Bool)=>NR ws sp w.2.2.1 a.1∧(a.2.1=false→a.1.getD i Ae=w.2.2.1.getD i Ae∧(a.2.2=true→0<n→∃ j,j≠i∧j<w.2.2.1.length∧HD (a.1.getD j Ae).2.1 s (lkD (w.2.2.1.getD i Ae).2.1 s).1.1))) ⟨NR.refl hn,λ _=>⟨rfl,λ _ c=>absurd c (Nat.lt_irrefl _)⟩⟩
  (λ j b hj hb=>Yya hw hf hi hb (by have:=Ke (A3 (d:=0) hj);omega) (Ke (A3 (d:=0) hj)).1)
def Cqa {w:Wld} {s:ByteArray} (hr:Ga w.2.1 w.1=true) (hid:w.2.2.1.map (·.1)=w.1.map (·.1)):0<(Hs w s).length:=by
 obtain⟨_,p2,p3⟩:=M6 hr s;have h5:=(C2.1 hr).2.1;obtain⟨id,hidm⟩:=D0b (l:=Km w.2.1 s) (by omega);have:=Kd.1 (p3 id hidm);rw[← hid]at this;obtain⟨n,hn,rfl⟩:=Ys.1 this;obtain⟨j,hj,rfl⟩:=Yr.1 hn;have hm:(j:Int)∈Hs w s:=Om.2 ⟨j,hj,by rw[Vb,Vg hj];exact hidm,rfl⟩;exact B6b hm
def A1a {ws:List Wri} {sp:List ByteArray} {w:Wld} {rc:List Int} {s:ByteArray} {i:Nat} (hw:A0a ws) (hn:∀ n∈w.2.2.1,NI ws sp n) (hi:i<w.2.2.1.length) (hr:Ga w.2.1 w.1=true) (hid:w.2.2.1.map (·.1)=w.1.map (·.1)):
  ∃ ns,(Md w i s rc).2=wN w ns∧NR ws sp w.2.2.1 ns:=by
 have hni:=hn _ (A3 (d:=Ae) hi);unfold Md;cases hl:(lkD (w.2.2.1.getD i Ae).2.1 s).2 != 0
 case true=>exact⟨w.2.2.1,rfl,NR.refl hn⟩
 rw[bne,Yg,beq_iff_eq]at hl;obtain⟨b,hb,hg⟩:=La.1 (show lkD (w.2.2.1.getD i Ae).2.1 s=((lkD (w.2.2.1.getD i Ae).2.1 s).1,0) from by rw[← hl]);have hf:IsW ws s (lkD (w.2.2.1.getD i Ae).2.1 s).1:=(((hni.2.1 s).1 b hb).get hw hg).1;obtain⟨h1,h2⟩:=Yza (rc:=rc) hw hn hi hf;refine⟨_,rfl,?_⟩;cases hc:(puN w i s rc).2.2&&!(puN w i s rc).2.1
 ·exact h1
 rw[Va,Wa]at hc;obtain⟨h3,h4⟩:=h2 hc.2;obtain⟨j,hj,hjl,hd⟩:=h4 hc.1 (Cqa hr hid);rw[cond_true,h3];obtain⟨g1,_,_⟩:=hf.good hw
 have hi':i<(puN w i s rc).1.length:=by rw[h1.len];exact hi
 obtain⟨o1,o2⟩:=Yta (s:=s) hni.1.g hni.2.1 g1;refine⟨λ m hm=>?_,by rw[F7a hi' (by rw[h3];rfl),h1.2.1],λ t ht st hk=>?_⟩
 ·rcases Yw hm with hm|rfl
  ·exact h1.1 m hm
  ·exact⟨Tqa hni.1 g1,o1,hni.2.2⟩
 ·obtain⟨m,hm,hh⟩:=h1.2.2 t ht st hk
  by_cases hmi:m=i
  ·subst hmi;rw[h3]at hh
   by_cases hts:t=s
   ·subst hts;obtain⟨b',f',e1,e2,e3⟩:=(hni.2.1 t).ge ht hh;rw[hb]at e1;cases e1;rw[hg]at e2;cases e2;obtain⟨c,g,k1,k2,k3⟩:=hd;refine⟨j,by rw[Vu,h1.len];exact hjl,?_⟩;rw[Dx (by rw[h1.len];exact hjl),if_neg (C9b hj)];exact⟨c,g,k1,k2,R4 k3 e3⟩
   ·refine⟨m,by rw[Vu];exact hm,?_⟩;rw[Dx hm,if_pos rfl];exact o2 t hts st hh
  ·refine⟨m,by rw[Vu];exact hm,?_⟩;rw[Dx hm,if_neg (C9b hmi)];exact hh
def A2a {ws:List Wri} {sp:List ByteArray} {w:Wld} {src:Int} {l:List Row} {self:Bool} {rc:List Int} (hn:∀ n∈w.2.2.1,NI ws sp n) (hl:Hb l=true) (hr:∀ r∈l,Qo ws r=true):NR ws sp w.2.2.1 (Ia w src l self rc).1:=by
 refine H7 (λ _ (a:List Nod×Bool)=>NR ws sp w.2.2.1 a.1) (NR.refl hn) (λ j b hj hb=>?_);have hc:=Jl (A3 (d:=0) hj);unfold gst;cases (C9 w).getD j 0==src&&!self
 case true=>exact hb
 cases rch rc j != 1
 case true=>exact hb
 have hi:((C9 w).getD j 0).toNat<b.1.length:=by rw[hb.len];omega
 obtain⟨t1,t2,t3⟩:=Yva (hb.1 _ (A3 (d:=Ae) hi)) hl hr;exact hb.set hi t1 t2 (by rw[t3];exact MO.refl _ _)
def Hia {ws:List Wri} {sp:List ByteArray} {w:Wld} {rc:List Int} {i:Nat} (hn:∀ n∈w.2.2.1,NI ws sp n) (hi:i<w.2.2.1.length):∃ ns,(Me w i rc).2=wN w ns∧NR ws sp w.2.2.1 ns:=by
 have hni:=hn _ (A3 (d:=Ae) hi);have hl:=(Bn.1 hni.1.1).2.2.2.1;unfold Me;cases ((w.2.2.1.getD i Ae).2.2.1.length:Int)==0
 case true=>exact⟨w.2.2.1,rfl,NR.refl hn⟩
 refine⟨_,rfl,?_⟩;have hg:NR ws sp w.2.2.1 (I6 w i rc).1:=A2a hn hl hni.2.2.1;cases (I6 w i rc).2&&!(Hc (C9 (wN w (I6 w i rc).1)) (i:Int))
 ·exact hg
 have hi':i<(I6 w i rc).1.length:=by rw[hg.len];exact hi
 have hm:=hg.1 _ (A3 (d:=Ae) hi');exact hg.set hi' ⟨Hga hm.1,hm.2.1,(λ _ h=>nomatch h),hm.2.2.2⟩ rfl (MO.refl _ _)
def Hja {ws:List Wri} {sp:List ByteArray} {w:Wld} {rc:List Int} {i:Nat} (hn:∀ n∈w.2.2.1,NI ws sp n) (hi:i<w.2.2.1.length):∃ ns,(On w i rc).2=wN w ns∧NR ws sp w.2.2.1 ns:=by
 have hni:=hn _ (A3 (d:=Ae) hi);obtain⟨hq,_,_,_,hq60⟩:=Bn.1 hni.1.1;unfold On;cases ((w.2.2.1.getD i Ae).2.2.2.length:Int)==0
 case true=>exact⟨w.2.2.1,rfl,NR.refl hn⟩
 refine⟨_,rfl,?_⟩;have hg:NR ws sp w.2.2.1 (Jb w i rc).1:=A2a hn (Jt hq) (λ r hr=>hni.2.2.2 r (B3b hr));cases (Jb w i rc).2
 ·exact hg
 have hi':i<(Jb w i rc).1.length:=by rw[hg.len];exact hi
 have hm:=hg.1 _ (A3 (d:=Ae) hi');exact hg.set hi' ⟨Tta hm.1 (λ r hr=>hq r (Zp hr)) (by rw[We];omega),hm.2.1,hm.2.2.1,λ r hr=>hni.2.2.2 r (Zp hr)⟩ rfl (MO.refl _ _)

structure WI (w:Wld):Prop where
 ring:Ga w.2.1 w.1=true
 ids:w.2.2.1.map (·.1)=w.1.map (·.1)
 nodes:∀ n∈w.2.2.1,NI w.2.2.2.2.1 w.2.2.2.2.2 n
 clk:Fz w.2.2.2.1=true
 wlen:w.2.2.2.2.1.length≤200
 wok:A0a w.2.2.2.2.1
 wge:∀ x∈w.2.2.2.2.1,sle w.2.2.2.1 x.2.1.1=false
 asc:w.2.2.2.2.1.Pairwise (λ a b=>sle a.2.1.1 b.2.1.1=true)
 kept:∀ x∈w.2.2.2.2.1,x.2.2=true→x.1∉w.2.2.2.2.2→KN w.2.2.1 x.1 x.2.1.1
 sps:TS w.2.2.2.2.2
 spw:∀ s∈w.2.2.2.2.2,∃ x∈w.2.2.2.2.1,x.1=s
theorem A6b:LawfulBEq ByteArray := { eq_of_beq:=λ {a b} h=>C8.1 (by rw[← Rr];exact h),rfl:=λ {a}=>by rw[Rr];exact C8.2 rfl }
def Pr:∀ (p q:List ByteArray),p.Nodup→(∀ x∈p,x∈q)→p.length≤q.length
 |[],_,_,_=>Vw _
 |x::p,q,h,hs=>by
  haveI:=A6b;obtain⟨h1,h2⟩:=Yl.1 h;have hx:=hs x Wo;have hlen:(q.erase x).length=q.length-1:=Chb hx;have hpos:=B6b hx;have:=Pr p (q.erase x) h2 (λ y hy=>(D2b (λ c=>by subst c;exact h1 hy)).2 (hs y (Vd _ hy)));rw[Vh];omega
namespace WI
variable {w:Wld}
def splen (h:WI w):w.2.2.2.2.2.length≤200:=by
 have hn:w.2.2.2.2.2.Nodup:=h.sps.imp (λ {a b} hab e=>by subst e;rw[Eu]at hab;cases hab)
 have:=Pr _ (w.2.2.2.2.1.map (·.1)) hn (λ s hs=>by
  obtain⟨x,hx,e⟩:=h.spw s hs
  exact Ys.2 ⟨x,hx,e⟩)
 rw[Vz]at this;have:=h.wlen;omega
def nlen (h:WI w):w.2.2.1.length=w.1.length:=by
 have:=congrArg length h.ids;rwa [Vz,Vz]at this
def dlen (h:WI w):1≤w.1.length∧w.1.length≤12:=(Dl.1 (C2.1 h.ring).1).2.2
def ns (h:WI w):NS w.2.2.1:=⟨by have:=h.nlen;have:=h.dlen;omega,λ n hn=>(h.nodes n hn).1⟩
def win (h:WI w):WIn w:=by
 have h1:=h.nlen;have h2:=h.dlen;have h3:=h.wlen;have h4:=h.splen;refine⟨M4 h.ring,by omega,⟨by omega,λ n hn=>Caa (h.nodes n hn).1⟩,⟨by omega,λ x hx=>Gg (h.wok x hx).1⟩,by omega,λ s hs=>?_⟩;obtain⟨x,hx,e⟩:=h.spw s hs;rw[← e];exact Gg (h.wok x hx).1
def other (h:WI w) {ns:List Nod} (hn:NR w.2.2.2.2.1 w.2.2.2.2.2 w.2.2.1 ns):WI (wN w ns):=
 ⟨h.ring,hn.2.1.trans h.ids,hn.1,h.clk,h.wlen,h.wok,h.wge,h.asc,λ x hx hk hs=>hn.2.2 _ hs _ (h.kept x hx hk hs),h.sps,h.spw⟩
def other' (h:WI w) {r:Bool×Wld} (hr:∃ ns,r.2=wN w ns∧NR w.2.2.2.2.1 w.2.2.2.2.2 w.2.2.1 ns):WI r.2:=by
 obtain⟨ns,e,hn⟩:=hr;rw[e];exact h.other hn
def write (h:WI w) {s:ByteArray} {f:Fil} {rc:List Int} (hs:B2 s=true) (hf:De f=true) (hb:Av f.2.2) (hc:sle w.2.2.2.1 f.1=true) (hl:w.2.2.2.2.1.length<200):WI (Nz (w.1,w.2.1,w.2.2.1,f.1,w.2.2.2.2) s f rc).2:=by
 obtain⟨g1,g2,g3⟩:=Yxa (ws:=w.2.2.2.2.1++[(s,f,decide ((wrN (w.1,w.2.1,w.2.2.1,f.1,w.2.2.2.2) s f rc).2.2≥quo w.2.1.1))]) (sp:=w.2.2.2.2.2) (w:=(w.1,w.2.1,w.2.2.1,f.1,w.2.2.2.2)) (rc:=rc) (s:=s) (f:=f)
  (λ x hx=>by
   rcases Vl.1 hx with hx|hx
   ·exact h.wok x hx
   ·rw[Vp.1 hx];exact⟨hs,hf,hb⟩)
  ⟨_,Vl.2 (.inr (Vp.2 rfl)),rfl,rfl⟩
  (λ n hn=>(h.nodes n hn).mono (λ x hx=>Vl.2 (.inl hx)) (λ _ h=>h))
 unfold Nz;generalize wrN (w.1,w.2.1,w.2.2.1,f.1,w.2.2.2.2) s f rc=a at *
 have hq:quo w.2.1.1≥1:=by
  have:=(C2.1 h.ring).2.1;unfold quo;omega
 exact {
  ring:=h.ring
  ids:=g1.2.1.trans h.ids
  nodes:=g1.1
  clk:=(Gf.1 hf).1
  wlen:=by show (w.2.2.2.2.1++[_]).length≤200;rw[Vi];simp only[Vh,Vs];omega
  wok:=λ x hx=>by
   rcases Vl.1 hx with hx|hx
   ·exact h.wok x hx
   ·rw[Vp.1 hx];exact⟨hs,hf,hb⟩
  wge:=λ x hx=>by
   rcases Vl.1 hx with hx|hx
   ·exact R4 (N4 hc) (h.wge x hx)
   ·rw[Vp.1 hx];exact Fx _
  asc:=Zg.2 ⟨h.asc,Bub _ _,λ x hx y hy=>by
   rw[Vp.1 hy];have:=h.wge x hx;cases hxy:sle x.2.1.1 f.1
   case true=>rfl
   have:=R4 this hxy;rw[this]at hc
   cases hc⟩
  kept:=λ x hx hk hsp=>by
   rcases Vl.1 hx with hx|hx
   ·exact g1.2.2 _ hsp _ (h.kept x hx hk hsp)
   ·rw[Vp.1 hx]at hk hsp ⊢;have hk':a.2.2≥quo w.2.1.1:=of_decide_eq_true hk;exact g2 hsp (by omega)
  sps:=h.sps
  spw:=λ s hs=>by
   obtain⟨x,hx,e⟩:=h.spw s hs
   exact⟨x,Vl.2 (.inl hx),e⟩ }
def ask (h:WI w) {s:ByteArray} {f:Fil} {t:Int} {rc:List Int} (hb:Av f.2.2) (hd:f.2.1=true→f.2.2=[]):WI (ask w s f t rc).2:=by
 unfold Vf.ask;cases hs:B2 s
 ·exact h
 rw[Za,cond_false]
 by_cases hl:(f.2.2.length:Int) > 200
 ·rw[decide_eq_true hl];exact h
 ·rw[decide_eq_false hl,cond_false];cases inR t 0 1000000000
  ·exact h
  rw[Za,cond_false];cases hw:(w.2.2.2.2.1.length:Int)==200
  case true=>exact h
  rw[cond_false];have hw':=beq_eq_false_iff_ne.1 hw;have hwl:=h.wlen;obtain⟨n1,n2⟩:=Z7 h.clk t 0;cases he:(Ik w.2.2.2.1 t 0).1==w.2.2.2.1.1&&((Ik w.2.2.2.1 t 0).2.1==w.2.2.2.1.2.1&&(Ik w.2.2.2.1 t 0).2.2==w.2.2.2.1.2.2)
  case true=>exact h
  rw[cond_false]
  have hlt:sle w.2.2.2.1 (Ik w.2.2.2.1 t 0)=true:=by
   rcases n2 with n2|n2
   ·rw[n2,beq_self_eq_true,beq_self_eq_true,beq_self_eq_true]at he;cases he
   ·exact n2
  exact h.write (f:=(Ik w.2.2.2.1 t 0,f.2)) hs (Gf.2 ⟨n1,by show f.2.2.length≤200;omega,hd⟩) hb hlt (by omega)
def rot (h:WI w) {i:Nat} (hi:i<w.2.2.1.length) {s:ByteArray} {b:Int}:WI (Yra w i s b).2:=by
 have hni:=h.nodes _ (A3 (d:=Ae) hi);unfold Yra;cases hr:(N8a (w.2.2.1.getD i Ae) s b).2
 ·exact h
 have hg:=Tha (s:=s) (b:=b) hni.1;unfold N8a at hr hg ⊢;cases hc:Jg (w.2.2.1.getD i Ae)&&((lkD (w.2.2.1.getD i Ae).2.1 s).2==0&&(J3a (w.2.2.1.getD i Ae).2.1 s b).2)
 ·rw[hc]at hr;cases hr
 rw[hc]at hg;rw[Va,Va,beq_iff_eq]at hc;obtain⟨d1,d2,f,hf⟩:=Yua h.wok hni.1.g hni.2.1 hc.2.1 hc.2.2 (spl w.2.2.2.2.2 s) (λ t=>Z9);have hsub:∀ t∈w.2.2.2.2.2,t∈spl w.2.2.2.2.2 s:=λ t ht=>Z9.2 (.inr ht)
 have hN:NR w.2.2.2.2.1 (spl w.2.2.2.2.2 s) w.2.2.1 (w.2.2.1.set i ((w.2.2.1.getD i Ae).1,(J3a (w.2.2.1.getD i Ae).2.1 s b).1,(w.2.2.1.getD i Ae).2.2)):=
  (NR.refl (λ n hn=>(h.nodes n hn).mono (λ _ h=>h) hsub)).set hi ⟨hg,d1,hni.2.2⟩ rfl d2
 exact {
  ring:=h.ring
  ids:=hN.2.1.trans h.ids
  nodes:=hN.1
  clk:=h.clk
  wlen:=h.wlen
  wok:=h.wok
  wge:=h.wge
  asc:=h.asc
  kept:=λ x hx hk hs=>hN.2.2 _ hs _ (h.kept x hx hk (λ c=>hs (hsub _ c)))
  sps:=W3 h.sps
  spw:=λ t ht=>by
   rcases Z9.1 ht with rfl|ht
   ·obtain⟨x,hx,e,_⟩:=hf;exact⟨x,hx,e⟩
   ·exact h.spw t ht }
def node (h:WI w) {i:Nat} (hi:i<w.2.2.1.length) {e:Evt}:WI (Nsa w e i).2:=by
 have hni:=h.nodes _ (A3 (d:=Ae) hi);unfold Nsa;cases e.1==3
 case true=>exact h.other' (A1a h.wok h.nodes hi h.ring h.ids)
 cases e.1==4
 case true=>exact h.other' (Hia h.nodes hi)
 cases e.1==5
 case true=>exact h.other' (Hja h.nodes hi)
 cases e.1==6 with
 |true=>
  obtain⟨c1,c2⟩:=Hha h.wok hni.1.g hni.2.1;exact h.other ((NR.refl h.nodes).set hi ⟨Hea hni.1,c1,hni.2.2⟩ rfl c2)
 |false=>
  cases e.1==7 with
  |true=>exact h.other ((NR.refl h.nodes).set hi ⟨Yqa hni.1,W4a hni.1.g hni.2.1 _,hni.2.2⟩ rfl (W5a hni.1.g hni.2.1 _))
  |false=>exact h.rot hi
def weigh (h:WI w) {i t:Int}:WI (Nta w i t).2:=by
 unfold Nta;cases h1:inR i 0 ((w.1.length:Int)-1)
 ·exact h
 cases h2:inR t 1 1000
 ·exact h
 obtain⟨i0,i1⟩:=Fk.1 h1;obtain⟨w0,w1⟩:=Fk.1 h2;exact⟨(H8a (H9a h.ring (by omega) w0 w1)).1,h.ids.trans (Z0 _ _ _).symm,h.nodes,h.clk,h.wlen,h.wok,h.wge,h.asc,h.kept,h.sps,h.spw⟩
def ev (h:WI w) {e:Evt} (hb:Av e.2.2.2.1):WI (doW w e).2:=by
 have ae:∀ {q:Int×Wld},WI q.2→WI (X0a q).2:=λ {q} hq=>by
  unfold X0a
  cases q.1 != 2<;>exact hq
 unfold doW;cases e.1==1
 case true=>exact ae (h.ask hb (λ c=>by cases c))
 cases e.1==2
 case true=>exact ae (h.ask Tk (λ _=>rfl))
 cases e.1==3||(e.1==4||(e.1==5||(e.1==6||(e.1==7||e.1==8)))) with
 |true=>
  cases hi:inR e.2.1 0 ((w.2.2.1.length:Int)-1)
  ·exact h
  have:=Fk.1 hi;exact h.node (by omega)
 |false=>
  cases e.1==9 with
  |true=>exact h.weigh
  |false=>exact h
def rightB (h:WI w):Nr w=true:=by
 have h2:=h.dlen;have hl:=h.nlen;unfold Nr
 have a1:Ny w.1 w.2.2.1=true:=by
  unfold Ny;rw[show ((w.2.2.1.length:Int)==(w.1.length:Int))=true by rw[beq_iff_eq];omega,Wf,Yb];intro j hj;have hj':=Zx.1 hj;rw[Va,beq_iff_eq];refine⟨?_,(h.nodes _ (A3 (d:=Ae) hj')).1.1⟩
  have e1:(w.2.2.1.getD j Ae).1=(w.2.2.1.map (·.1)).getD j 0:=by
   rw[Vb,Vb,Zw,Vg hj'];rfl
  have e2:(w.1.getD j Ju).1=(w.1.map (·.1)).getD j 0:=by
   rw[Vb,Vb,Zw,Vg (by omega)];rfl
  rw[e1,e2,h.ids]
 have a2:Rqa w.2.2.2.1 w.2.2.2.2.1=true:=by
  unfold Rqa;rw[Va,Yb];refine⟨λ x hx=>?_,decide_eq_true (by have:=h.wlen;omega)⟩;unfold F2a;rw[(h.wok x hx).1,(h.wok x hx).2.1,h.wge x hx];rfl
 have a3:Pm w.2.2.2.2.2=true:=by
  unfold Pm;rw[Yb];intro j hj;have hj':=Zx.1 hj;rw[Va,Zz];refine⟨?_,?_⟩
  ·obtain⟨x,hx,e⟩:=h.spw _ (A3 (d:=Li) hj');rw[← e];exact(h.wok x hx).1
  ·by_cases h0:j=0
   ·exact .inl (decide_eq_true h0)
   ·right;have:=Yq.1 h.sps (j-1) j (by omega) hj' (by omega);rwa [Vb,Vb,Vg hj',Vg (by omega)]
 rw[h.ring,a1,h.clk,a2,a3];rfl
end WI

def Afb (l:List Dev) (last:Int):Prop:=l.Pairwise (λ a b=>a.1<b.1)∧∀ d∈l,(0≤d.1∧d.1≤last)∧(0≤d.2.1∧d.2.1≤20)∧1≤d.2.2∧d.2.2≤1000
def Nva (z:Int) (hz:1≤z∧z≤20):∀ (n:Nat) (i:Int) (l:List Dev) (last:Int) (c:Cur),i=n→n≤6→T4 c→Afb l last→0≤last→last+2*n≤12→l.length+n≤6→
  Tot (λ k=>E7 k l z last i c) (λ r=>(∃ last,Afb r.1 last∧last≤20)∧r.1.length=l.length+n∧T4 r.2):=by
 intro n
 induction n with
 |zero=>
  rintro i l last c rfl _ hc h h0 h1 _;refine Tot.succ ?_;simp (disch:=omega) only [E7,dF];exact Aqb ⟨⟨last,h,by omega⟩,rfl,hc⟩
 |succ n ih=>
  rintro i l last c rfl hn hc h h0 h1 hl;refine Tot.succ ?_;simp (disch:=omega) only [E7,dT];obtain⟨x,c1,e1,hx,k1⟩:=Xr c hc [1,1,2] (by decide) (by decide);obtain⟨y,c2,e2,y0,y1,_,k2⟩:=Nk c1 k1 z (by omega);obtain⟨v,c3,e3,hv,k3⟩:=Xr c2 k2 [1,1,1,2,10,100] (by decide) (by decide);have y1:=y1 (by omega)
  have hx':1≤x∧x≤2:=by
   simp only[Vk,C8b,or_false]at hx;omega
  have hv':1≤v∧v≤1000:=by
   simp only[Vk,C8b,or_false]at hv;omega
  refine B1b (B2b (Q:=λ r=>r=(x,c1)) e1 rfl) ?_;refine B1b (B2b (Q:=λ r=>r=(y,c2)) e2 rfl) ?_;refine B1b (B2b (Q:=λ r=>r=(v,c3)) e3 rfl) ?_;simp (disch:=omega) only [w64];refine Ayb (by simp only[Vh,Vs];omega) ?_;refine(ih _ (l++[(last+x,y,v)]) (last+x) c3 (by omega) (by omega) k3 ⟨?_,?_⟩ (by omega) (by omega) (by rw[Vi];simp only[Vh,Vs];omega)).mono ?_
  ·refine Zg.2 ⟨h.1,Bub _ _,λ a ha b hb=>?_⟩;rw[Vp.1 hb];have:=(h.2 a ha).1.2;show a.1<last+x;omega
  ·intro d hd;rcases Vl.1 hd with hd|hd
   ·obtain⟨⟨a1,a2⟩,a3⟩:=h.2 d hd;exact⟨⟨a1,by omega⟩,a3⟩
   ·rw[Vp.1 hd];exact⟨⟨by show 0≤last+x;omega,Zza _⟩,⟨y0,by show y≤20;omega⟩,hv'⟩
  ·rintro r ⟨g1,g2,g3⟩;refine⟨g1,?_,g3⟩;rw[g2,Vi];simp only[Vh,Vs];omega
def Jfa (c:Cur) (hc:T4 c):Tot (λ k=>Dy k c) (λ r=>Gk r.1=true∧(2≤r.1.length∧r.1.length≤6)∧T4 r.2):=by
 unfold Dy;obtain⟨x,c1,e1,x0,x1,_,k1⟩:=Nk c hc 4 (by decide);obtain⟨y,c2,e2,y0,y1,_,k2⟩:=Nk c1 k1 5 (by decide);have x1:=x1 (by decide);have y1:=y1 (by decide);refine B1b (B2b (Q:=λ r=>r=(x,c1)) e1 rfl) ?_;refine B1b (B2b (Q:=λ r=>r=(y,c2)) e2 rfl) ?_;simp (disch:=omega) only [w64];refine Arb (Nva (1+x) (by omega) (2+y).toNat (2+y) [] 0 c2 (by omega) (by omega) k2 ⟨List.Pairwise.nil,λ d hd=>(nomatch hd)⟩ (Int.le_refl _) (by omega) (by simp only[List.length_nil];omega)) ?_;rintro r ⟨⟨last,g1,g2⟩,g3,g4⟩;rw[List.length_nil]at g3;exact Aqb ⟨Dl.2 ⟨g1.1,λ d hd=>I5.2 ⟨⟨(g1.2 d hd).1.1,by have:=(g1.2 d hd).1.2;omega⟩,(g1.2 d hd).2⟩,by dsimp only;omega,by dsimp only;omega⟩,⟨by dsimp only;omega,by dsimp only;omega⟩,g4⟩
abbrev P0a:Wld:=(([]:List Dev),((0:Int),([]:List (List Int))),([]:List Nod),((0:Int),((0:Int),(0:Int))),([]:List Wri),([]:List ByteArray))
def Ps (d:Dev):Nod:=(d.1,([],[]),[],[])
def Pw (l:List Dev) (parts reps:Int):Wld:=(l,(build l parts reps).1,l.map Ps,(0,0,0),[],[])
def W8a {ws:List Wri} {sp:List ByteArray} {l:List Dev} (h:Gk l=true) {d:Dev} (hd:d∈l):NI ws sp (Ps d):=by
 obtain⟨⟨i0,i1⟩,_⟩:=I5.1 ((Dl.1 h).2.1 d hd);refine⟨⟨Bn.2 ⟨(λ r hr=>nomatch hr),⟨i0,i1⟩,dg0.1,Qp,Vw _⟩,dg0.2⟩,λ s=>⟨λ b hb=>?_,λ b hb=>?_,λ _ b f hb=>?_⟩,(λ r hr=>nomatch hr),(λ r hr=>nomatch hr)⟩
 ·rw[show gt (Ps d).2.1.1 s=none from rfl]at hb;cases hb
 ·rw[show gt (Ps d).2.1.2 s=none from rfl]at hb;cases hb
 ·rw[show gt (Ps d).2.1.2 s=none from rfl]at hb;cases hb
def F8a {l:List Dev} {parts reps:Int} (hb:(build l parts reps).2=true):WI (Pw l parts reps):=by
 obtain⟨h1,h2,_,_⟩:=Rv hb
 exact {
  ring:=h2
  ids:=by show (l.map Ps).map (·.1)=_;rw[Byb];rfl
  nodes:=λ n hn=>by
   obtain⟨d,hd,rfl⟩:=Ys.1 hn;exact W8a h1 hd
  clk:=rfl
  wlen:=Vw _
  wok:=λ x hx=>nomatch hx
  wge:=λ x hx=>nomatch hx
  asc:=List.Pairwise.nil
  kept:=λ x hx=>nomatch hx
  sps:=List.Pairwise.nil
  spw:=λ s hs=>nomatch hs }

def WIm (m:Nat) (w:Wld):Prop:=RBd w.2.1∧w.1.length≤2000000∧(w.2.2.1.length≤2000000∧∀ n∈w.2.2.1,NIn n)∧(w.2.2.2.2.1.length≤m∧∀ x∈w.2.2.2.2.1,Kj x.1∧x.2.1.2.2.length≤2000000∧Av x.2.1.2.2)∧(w.2.2.2.2.2.length≤m∧∀ s∈w.2.2.2.2.2,Kj s)
def WIm.win {m:Nat} {w:Wld} (h:WIm m w) (hm:m≤2000000):WIn w:=by
 obtain⟨h1,h2,⟨h3,h4⟩,⟨h5,h6⟩,h7,h8⟩:=h;exact⟨h1,h2,⟨h3,h4⟩,⟨by omega,λ x hx=>(h6 x hx).1⟩,by omega,h8⟩
def WIm.more {m n:Nat} {w:Wld} (h:WIm m w) (hm:m≤n):WIm n w:=by
 obtain⟨h1,h2,h3,⟨h5,h6⟩,h7,h8⟩:=h;exact⟨h1,h2,h3,⟨by omega,h6⟩,by omega,h8⟩
def WI.wim {w:Wld} (h:WI w):WIm 200 w:=by
 have hi:=h.win;have h2:=h.dlen;have h1:=h.nlen;exact⟨hi.1,hi.2.1,hi.2.2.1,⟨h.wlen,λ x hx=>⟨Gg (h.wok x hx).1,by have:=(Gf.1 (h.wok x hx).2.1).2.1;omega,(h.wok x hx).2.2⟩⟩,h.splen,hi.2.2.2.2.2⟩

def Nwa {c:Stp} (hc:Fz c=true) (t d:Int):Ed c t d=some (Ik c t d):=by
 have h2:0≤c.2.1∧c.2.1≤1000000:=by
  unfold Fz at hc;rw[Va,Va,Fk,Fk]at hc;exact hc.2.1
 unfold Ed Ik;rw[w64 (n:=c.2.1+1) (by omega) (by omega)];simp only[Pi,Vt]
 cases decide (t≤c.1) with
 |true=>cases Fz (c.1,c.2.1+1,d)<;>rfl
 |false=>cases Fz (t,0,d)<;>rfl
def R5 {f:Fil} (h:f.2.2.length≤1000000000):Di f=some f:=by
 unfold Di;rw[Hq _ (by omega)];rfl
def Nxa {n:Nod} {s:ByteArray} {f:Fil} {sure:Bool} (hn:NG n) (hs:B2 s=true) (hf:De f=true):Zea n s f sure=Oo n s f sure:=by
 unfold Zea;rw[hn.1,hs,hf];rfl
def Jga {n:Nod} (r:Int) (s:ByteArray) (f:Fil) (g:Int) (hn:NG n) (hs:B2 s=true) (hf:De f=true) (h0:0≤g) (h1:g≤9000000000000):
  Tot (λ k=>C6 k n r s f g) (λ x=>x=((Oo n s f (r != 3)).1,s,f,bif r==1&&((Oo n s f (r != 3)).2==0||(Oo n s f (r != 3)).2==1) then g+1 else g)):=by
 unfold C6;refine B1b (F1a n s f (r != 3) (Caa hn) (Gg hs)) ?_;rw[Nxa hn hs hf,w64 (n:=g+1) (by omega) (by omega)];generalize Oo n s f (r != 3)=p;cases r==1
 ·exact Asb rfl (Aqb rfl)
 refine Atb rfl ?_;cases p.2==0
 case true=>exact Atb rfl (Aqb rfl)
 refine Asb rfl ?_
 cases p.2==1 with
 |true=>exact Atb rfl (Aqb rfl)
 |false=>exact Asb rfl (Aqb rfl)
def Rta (w:Wld) (s:ByteArray) (f:Fil) (rc:List Int) (hr:Ga w.2.1 w.1=true) (hn:NS w.2.2.1) (hs:B2 s=true) (hf:De f=true):
  Tot (λ k=>A9 k w s rc true s f 0) (λ r=>r=(wN w (wrN w s f rc).1,s,f,(wrN w s f rc).2.2)):=by
 have hsz:s.size≤1000000000:=by
  have:=Fk.1 (Va _ _ ▸ hs:_∧_).2;omega
 obtain⟨_,hR,_⟩:=C2.1 hr;unfold A9;refine B1b (R3 w s hr hn.1 hsz) ?_;have hc:=λ x=>H8 (w:=w) (s:=s) (x:=x)
 have hcl:(contacts w s).length≤4000000000000:=by
  unfold contacts;refine Pn hn.1 ?_;have h5:=(C2.1 hr).2.1;have p2:=(M6 hr s).2.1;have h12:=(Dl.1 (C2.1 hr).1).2.2.2;have hh:=N3 w.2.1 w.1 s;rw[Vi];omega
 have hrun:wrN w s f rc=run (wst w.2.1.1 rc s f (contacts w s)) (contacts w s).length (w.2.2.1,0,0):=rfl
 have inv:∀ n,n≤(contacts w s).length→NS (run (wst w.2.1.1 rc s f (contacts w s)) n (w.2.2.1,0,0)).1∧(run (wst w.2.1.1 rc s f (contacts w s)) n (w.2.2.1,0,0)).1.length=w.2.2.1.length∧(0≤(run (wst w.2.1.1 rc s f (contacts w s)) n (w.2.2.1,0,0)).2.1∧(run (wst w.2.1.1 rc s f (contacts w s)) n (w.2.2.1,0,0)).2.1≤n)∧0≤(run (wst w.2.1.1 rc s f (contacts w s)) n (w.2.2.1,0,0)).2.2∧(run (wst w.2.1.1 rc s f (contacts w s)) n (w.2.2.1,0,0)).2.2≤n:=by
  intro n hn';refine H7 (λ j (b:List Nod×Int×Int)=>NS b.1∧b.1.length=w.2.2.1.length∧(0≤b.2.1∧b.2.1≤(j:Int))∧0≤b.2.2∧b.2.2≤(j:Int)) ⟨hn,rfl,⟨Zza _,Zza _⟩,Zza _,Zza _⟩ (λ j b hj hb=>Yoa hs hf hb ?_);have:=hc _ (A3 (d:=0) (show j<(contacts w s).length by omega));omega
 generalize hcs:contacts w s=cs at *;refine Arb (Q:=λ r=>r=(wN w (wrN w s f rc).1,s,f,(wrN w s f rc).2.2)) ?_ (by rintro r rfl;exact Aqb rfl);refine Azb (L:=λ k i (a:List Nod×Int×Int)=>Ad k rc a.2.1 cs (cs.length:Int) i (wN w a.1) s f a.2.2) (Q:=λ r=>r=(wN w (wrN w s f rc).1,s,f,(wrN w s f rc).2.2)) cs.length (λ j a=>a=run (wst w.2.1.1 rc s f cs) j (w.2.2.1,0,0)) ?_ ?_ 0 (w.2.2.1,0,0) (Vw _) rfl
 ·rintro a rfl;simp (disch:=omega) only [Ad,dF];exact Aqb (by rw[hrun])
 ·rintro j a hj rfl next;obtain⟨i1,i2,i3,i4,i5⟩:=inv j (by omega);rw[Gt]at next;generalize run (wst w.2.1.1 rc s f cs) j (w.2.2.1,0,0)=a at *;obtain⟨ns,o,g⟩:=a;dsimp only at i1 i2 i3 i4 i5;have hci:=hc _ (A3 (d:=0) hj);obtain⟨i,ei⟩:∃ i:Nat,cs.getD j 0=(i:Int):=⟨(cs.getD j 0).toNat,by omega⟩;rw[ei]at hci;unfold wst at next;rw[ei,Int.toNat_natCast]at next;dsimp only at next;have e0:ns.getD i ((0:Int),(([],[]),([],[])))=ns.getD i Ae:=rfl;simp (disch:=omega) only [Ad,dT,wN,Int.toNat_natCast,w64,ei,e0,Z4,Option.bind_some]
  cases h0:rch rc j==0 with
  |true=>
   refine Asb (by rw[bne,h0];rfl) ?_;rw[h0]at next;refine next (ns,o,g) ?_
   cases decide (o<w.2.1.1)<;>rfl
  |false=>
   refine Atb (by rw[bne,h0];rfl) ?_;rw[h0]at next;refine Axb (λ hR'=>?_) (λ hR'=>?_)
   ·rw[decide_eq_true hR']at next;refine B1b (Jga (rch rc j) s f g (i1.get (by omega)) hs hf i4 (by omega)) ?_;exact next _ rfl
   ·rw[decide_eq_false hR']at next;exact next _ rfl
def W9a (w:Wld) (s:ByteArray) (f:Fil) (t:Int) (rc:List Int) (hr:Ga w.2.1 w.1=true) (hn:NS w.2.2.1) (hst:Fz w.2.2.2.1=true) (hs:Kj s) (hd:f.2.1=true→f.2.2=[]) (hw:w.2.2.2.2.1.length≤200):
  Tot (λ k=>C7 k w s f t rc) (λ r=>r=ask w s f t rc):=by
 unfold C7 ask;refine B1b (J4 s hs) ?_;cases hs':B2 s
 ·exact Atb rfl (Aqb rfl)
 refine Asb rfl ?_;rw[Za,cond_false]
 by_cases hl:(f.2.2.length:Int) > 200
 ·rw[decide_eq_true hl];exact Atb rfl (Aqb rfl)
 ·rw[decide_eq_false hl,cond_false];refine Asb rfl ?_;simp only[My,Nwa hst,Vt];cases inR t 0 1000000000
  ·exact Atb rfl (Aqb rfl)
  refine Asb rfl ?_;rw[Za,cond_false]
  by_cases h200:w.2.2.2.2.1.length=200
  ·rw[show ((w.2.2.2.2.1.length:Int)==200)=true by rw[beq_iff_eq];omega];exact Aub (by omega) (Aqb rfl)
  ·rw[show ((w.2.2.2.2.1.length:Int)==200)=false by rw[beq_eq_false_iff_ne];omega,cond_false];refine Avb (by omega) ?_;cases (Ik w.2.2.2.1 t 0).1==w.2.2.2.1.1&&((Ik w.2.2.2.1 t 0).2.1==w.2.2.2.1.2.1&&(Ik w.2.2.2.1 t 0).2.2==w.2.2.2.1.2.2)
   case true=>exact Atb rfl (Aqb rfl)
   rw[cond_false];have hfo:De (Ik w.2.2.2.1 t 0,f.2)=true:=Gf.2 ⟨(Z7 hst t 0).1,by show f.2.2.length≤200;omega,hd⟩;refine Asb rfl (B1b (Rta (w.1,w.2.1,w.2.2.1,Ik w.2.2.2.1 t 0,w.2.2.2.2) s (Ik w.2.2.2.1 t 0,f.2) rc hr hn hs' hfo) ?_);have h5:=(C2.1 hr).2.1;dsimp only[wN];rw[Vza (by omega) (by omega),R5 (f:=(Ik w.2.2.2.1 t 0,f.2)) (show f.2.2.length≤_ by omega)];simp only[Option.bind_some];refine Ayb (by simp only[List.length_cons,List.length_nil];omega) ?_;unfold Nz
   cases decide ((wrN (w.1,w.2.1,w.2.2.1,Ik w.2.2.2.1 t 0,w.2.2.2.2) s (Ik w.2.2.2.1 t 0,f.2) rc).2.2≥quo w.2.1.1) with
   |true=>exact Aqb rfl
   |false=>exact Aqb rfl

def Rua (w:Wld) (i:Nat) (s:ByteArray) (rc:List Int) (hr:Ga w.2.1 w.1=true) (hn:NS w.2.2.1) (hi:i<w.2.2.1.length):Tot (λ k=>Ai k w (i:Int) s rc) (λ r=>r=Md w i s rc):=by
 have hni:=hn.get hi;unfold Ai Md;have e0:w.2.2.1.getD i ((0:Int),(([],[]),([],[])))=w.2.2.1.getD i Ae:=rfl;simp (disch:=omega) only [dT,Vm,e0];have hin:=(Caa hni).1;refine B1b (Y6 hin.1.1.1.1 hin.2.1 s) ?_;cases hl:(lkD (w.2.2.1.getD i Ae).2.1 s).2 != 0
 case true=>exact Atb rfl (Aqb rfl)
 refine Asb rfl ?_;rw[cond_false]
 have hlk:∃ b,gt (w.2.2.1.getD i Ae).2.1.1 s=some b:=by
  rw[bne,Yg,beq_iff_eq]at hl;obtain⟨b,hb,_⟩:=La.1 (show lkD (w.2.2.1.getD i Ae).2.1 s=((lkD (w.2.2.1.getD i Ae).2.1 s).1,0) from by rw[← hl]);exact⟨b,hb⟩
 have hs:B2 s=true:=R3a hni.g.1 (by obtain⟨b,hb⟩:=hlk;rw[hb];rfl)
 have hsz:s.size≤1000000000:=by
  have:=Fk.1 (Va _ _ ▸ hs:_∧_).2;omega
 refine B1b (Rw _ s (M4 hr) hsz) ?_;refine B1b (Ol w _ hn.1 (Rx (M4 hr) s)) ?_;have hpl:=Nqa (s:=s) hr hn.1;have hc:=λ x=>Ke (w:=w) (s:=s) (x:=x);have hrun:puN w i s rc=run (pst (i:Int) s (lkD (w.2.2.1.getD i Ae).2.1 s).1 rc (Hs w s)) (Hs w s).length (w.2.2.1,false,true):=rfl;obtain⟨p1,p2⟩:=Ypa (w:=w) (i:=i) (s:=s) (rc:=rc) hn
 have inv:∀ n,n≤(Hs w s).length→NS (run (pst (i:Int) s (lkD (w.2.2.1.getD i Ae).2.1 s).1 rc (Hs w s)) n (w.2.2.1,false,true)).1∧(run (pst (i:Int) s (lkD (w.2.2.1.getD i Ae).2.1 s).1 rc (Hs w s)) n (w.2.2.1,false,true)).1.length=w.2.2.1.length:=λ n hn'=>
  H7 (λ _ (b:List Nod×Bool×Bool)=>NS b.1∧b.1.length=w.2.2.1.length) ⟨hn,rfl⟩ (λ j b hj hb=>Tra hb (by have:=hc _ (A3 (d:=0) (show j<(Hs w s).length by omega));omega))
 rw[show whr w.2.2.1 (Km w.2.1 s)=Hs w s from rfl];generalize (lkD (w.2.2.1.getD i Ae).2.1 s).1=f at *;generalize Hs w s=ps at *;refine Arb (Q:=λ r=>r=((i:Int),s,(puN w i s rc).2.2,(puN w i s rc).2.1,wN w (puN w i s rc).1)) ?_ ?_
 ·refine Azb (L:=λ k j (a:List Nod×Bool×Bool)=>Af k (i:Int) s rc a.2.2 a.2.1 ps (ps.length:Int) j (wN w a.1) f) (Q:=λ r=>r=((i:Int),s,(puN w i s rc).2.2,(puN w i s rc).2.1,wN w (puN w i s rc).1)) ps.length (λ j a=>a=run (pst (i:Int) s f rc ps) j (w.2.2.1,false,true)) ?_ ?_ 0 (w.2.2.1,false,true) (Vw _) rfl
  ·rintro a rfl;simp (disch:=omega) only [Af,dF];exact Aqb (by rw[hrun])
  ·rintro j a hj rfl next;obtain⟨i1,i2⟩:=inv j (by omega);rw[Gt]at next;generalize run (pst (i:Int) s f rc ps) j (w.2.2.1,false,true)=a at *;obtain⟨ns,o,g⟩:=a;dsimp only at i1 i2;have hci:=hc _ (A3 (d:=0) hj);obtain⟨m,em⟩:∃ m:Nat,ps.getD j 0=(m:Int):=⟨(ps.getD j 0).toNat,by omega⟩;rw[em]at hci;unfold pst at next;rw[em,Int.toNat_natCast]at next;have e0:ns.getD m ((0:Int),(([],[]),([],[])))=ns.getD m Ae:=rfl;simp (disch:=omega) only [Af,dT,Int.toNat_natCast,w64,em,wN,e0]
   cases hz:(m:Int)==(i:Int) with
   |true=>
    rw[hz]at next;exact Atb rfl (next _ rfl)
   |false=>
    rw[hz]at next;refine Asb rfl ?_;simp only[Z4,Vt]
    cases h1:rch rc j != 1 with
    |true=>
     rw[h1]at next;exact Atb rfl (next _ rfl)
    |false=>
     rw[h1]at next;refine Asb rfl ?_;have hm:=Caa (i1.get (i:=m) (by omega));refine B1b (H1a (ns.getD m Ae).2.1 s f true hm.1.1 hm.1.2.1 (Gg hs)) ?_;dsimp only at next ⊢;generalize keep (ns.getD m Ae).2.1 s f true=q at *
     cases g with
     |false=>
      refine Asb rfl (next (ns.set m ((ns.getD m Ae).1,q.1,(ns.getD m Ae).2.2),o,false) ?_)
      cases q.2 != 0&&q.2 != 1<;>rfl
     |true=>
      refine Atb rfl ?_;cases h2:q.2==0
      case true=>rw[bne,h2]at next;exact Atb rfl (next _ rfl)
      rw[bne,h2]at next;refine Asb rfl ?_
      cases h3:q.2==1 with
      |true=>rw[bne,h3]at next;exact next _ rfl
      |false=>rw[bne,h3]at next;exact next _ rfl
 ·rintro r rfl;dsimp only[wN];generalize puN w i s rc=a at *;obtain⟨ns,o,g⟩:=a;dsimp only at p1 p2 ⊢
  cases o with
  |true=>
   refine Asb rfl (Aqb ?_);rw[Za,Yn];rfl
  |false=>
   refine Atb rfl ?_;cases g
   ·exact Asb rfl (Aqb rfl)
   refine Atb rfl ?_;have e0:ns.getD i ((0:Int),(([],[]),([],[])))=ns.getD i Ae:=rfl;simp (disch:=omega) only [dT,Vm,e0];have hg:=(p1.get (i:=i) (by omega)).g;refine B1b (Esa hg.1) ?_;refine B1b (C5a (Yfa hg).1 hs) ?_;exact Aqb rfl
def Rva {n:Nod} {l:List Row} (hn:NG n) (hl:Hb l=true):R7a n l=((tk n l).2,(tk n l).1):=by
 unfold R7a tk;rw[hn.1,hl]
 cases decide ((Mb n.2.2.1 l).length > 60)<;>rfl
def Cra (w:Wld) (src:Int) (l:List Row) (rc:List Int) (hr:RBd w.2.1) (hn:NS w.2.2.1) (hl:Hb l=true):
  Tot (λ k=>An k w l rc src) (λ r=>r=((Ia w src l false rc).2,wN w (Ia w src l false rc).1)):=by
 have hll:=Ewa hl;unfold An;refine B1b (Tt w hr hn.1) ?_;have hpl:=Tv hr hn.1;have hc:=λ x=>Jl (w:=w) (x:=x);have hrun:Ia w src l false rc=run (gst src l false rc (C9 w)) (C9 w).length (w.2.2.1,true):=rfl
 have inv:∀ n,n≤(C9 w).length→NS (run (gst src l false rc (C9 w)) n (w.2.2.1,true)).1∧(run (gst src l false rc (C9 w)) n (w.2.2.1,true)).1.length=w.2.2.1.length:=λ n hn'=>
  H7 (λ _ (b:List Nod×Bool)=>NS b.1∧b.1.length=w.2.2.1.length) ⟨hn,rfl⟩ (λ j b hj hb=>Tsa hl hb (by have:=hc _ (A3 (d:=0) (show j<(C9 w).length by omega));omega))
 generalize C9 w=ls at *;refine Arb (Q:=λ r=>r=((Ia w src l false rc).2,wN w (Ia w src l false rc).1)) ?_ (by rintro r rfl;exact Aqb rfl);refine Azb (L:=λ k j (a:List Nod×Bool)=>Ar k l rc src a.2 ls (ls.length:Int) j (wN w a.1)) (Q:=λ r=>r=((Ia w src l false rc).2,wN w (Ia w src l false rc).1)) ls.length (λ j a=>a=run (gst src l false rc ls) j (w.2.2.1,true)) ?_ ?_ 0 (w.2.2.1,true) (Vw _) rfl
 ·rintro a rfl;simp (disch:=omega) only [Ar,dF];exact Aqb (by rw[hrun])
 ·rintro j a hj rfl next;obtain⟨i1,i2⟩:=inv j (by omega);rw[Gt]at next;generalize run (gst src l false rc ls) j (w.2.2.1,true)=a at *;obtain⟨ns,g⟩:=a;dsimp only at i1 i2;have hci:=hc _ (A3 (d:=0) hj);obtain⟨m,em⟩:∃ m:Nat,ls.getD j 0=(m:Int):=⟨(ls.getD j 0).toNat,by omega⟩;rw[em]at hci;unfold gst at next;rw[em,Int.toNat_natCast,Bool.not_false,Bool.and_true]at next;have e0:ns.getD m ((0:Int),(([],[]),([],[])))=ns.getD m Ae:=rfl;have hm:=i1.get (i:=m) (by omega);simp (disch:=omega) only [Ar,dT,Int.toNat_natCast,w64,em,e0,wN]
  cases hz:(m:Int)==src with
  |true=>
   rw[hz]at next;exact Atb rfl (next _ rfl)
  |false=>
   rw[hz]at next;refine Asb rfl ?_;simp only[Z4,Vt]
   cases h1:rch rc j != 1 with
   |true=>
    rw[h1]at next;exact Atb rfl (next _ rfl)
   |false=>
    rw[h1]at next;refine Asb rfl (B1b (R8a (ns.getD m Ae) l (Caa hm) hll) ?_);rw[Rva hm hl];dsimp only at next ⊢;generalize tk (ns.getD m Ae) l=q at *
    cases g with
    |false=>
     refine Asb rfl (next (ns.set m q.2,false) ?_)
     cases q.1<;>rfl
    |true=>
     refine Atb rfl (next (ns.set m q.2,q.1) ?_)
     cases q.1<;>rfl

def N5 {l:List Row} (h:l.length≤2000000000):Al l=some l:=by
 unfold Al;rw[bT (by simp only[Vs];omega),Wl]
def Jha (w:Wld) (src:Int) (l:List Row) (rc:List Int):Ia w (-1) l false rc=Ia w src l true rc:=by
 unfold Ia;refine H7 (λ n (a:List Nod×Bool)=>a=run (gst src l true rc (C9 w)) n (w.2.2.1,true)) rfl (λ j b hj hb=>?_);rw[Gt,← hb];have:=(Jl (A3 (d:=0) hj)).1;unfold gst;rw[show ((C9 w).getD j 0 == -1)=false by rw[beq_eq_false_iff_ne];omega,Za,Yn,Ze]
def F9a (w:Wld) (src:Int) (l:List Row) (self:Bool) (rc:List Int) (m:Nat):((Ia w src l self rc).1.getD m Ae).2.2.2=(w.2.2.1.getD m Ae).2.2.2:=by
 unfold Ia;refine H7 (λ n (a:List Nod×Bool)=>(a.1.getD m Ae).2.2.2=(w.2.2.1.getD m Ae).2.2.2) rfl (λ j b hj hb=>?_);unfold gst;cases (C9 w).getD j 0==src&&!self
 case true=>exact hb
 cases rch rc j != 1
 case true=>exact hb
 rw[cond_false,cond_false];generalize ((C9 w).getD j 0).toNat=i;show ((b.1.set i (tk (b.1.getD i Ae) l).2).getD m Ae).2.2.2=_
 by_cases hm:m<b.1.length
 ·rw[Dx hm]
  by_cases hi:i=m
  ·subst hi;rw[if_pos rfl,← hb];unfold tk
   cases decide ((Mb (b.1.getD i Ae).2.2.1 l).length > 60)<;>rfl
  ·rw[if_neg hi];exact hb
 ·rw[Vb,Zd (by rw[Vu];omega)];rw[Vb,Zd (by omega)]at hb;exact hb
def Nya (w:Wld) (i:Nat) (rc:List Int) (hr:RBd w.2.1) (hn:NS w.2.2.1) (hi:i<w.2.2.1.length):Tot (λ k=>Bc k w (i:Int) rc) (λ r=>r=Me w i rc):=by
 have hni:=hn.get hi;have e0:w.2.2.1.getD i ((0:Int),(([],[]),([],[])))=w.2.2.1.getD i Ae:=rfl;have hl:=(Bn.1 hni.1).2.2.2.1;have hll:=(Ewa hl).1;unfold Bc Me;simp (disch:=omega) only [dT,Vm,e0,N5 (show (w.2.2.1.getD i Ae).2.2.1.length≤2000000000 by omega),Vt];cases hz:((w.2.2.1.getD i Ae).2.2.1.length:Int)==0
 case true=>exact Atb rfl (Aqb rfl)
 refine Asb rfl (B1b (Cra w (i:Int) _ rc hr hn hl) ?_);obtain⟨p1,p2⟩:=Z8 (w:=w) (src:=(i:Int)) (self:=false) (rc:=rc) hl hn;rw[show Ia w (i:Int) (w.2.2.1.getD i Ae).2.2.1 false rc=I6 w i rc from rfl]at p1 p2 ⊢;generalize I6 w i rc=a at *;obtain⟨ns,g⟩:=a;dsimp only at p1 p2 ⊢;cases g
 ·exact Asb rfl (Aqb rfl)
 refine Atb rfl (B1b (Tt (wN w ns) hr p1.1) ?_);refine B1b (Oh _ _ (by have:=Tv (w:=wN w ns) hr p1.1;omega)) ?_;cases Hc (C9 (wN w ns)) (i:Int)
 case true=>exact Asb rfl (Aqb rfl)
 have e1:ns.getD i ((0:Int),(([],[]),([],[])))=ns.getD i Ae:=rfl;refine Atb rfl ?_;simp (disch:=omega) only [dT,Vm,e1];exact Aqb rfl
def Nza (w:Wld) (i:Nat) (rc:List Int) (hr:RBd w.2.1) (hn:NS w.2.2.1) (hi:i<w.2.2.1.length):Tot (λ k=>Bg k w (i:Int) rc) (λ r=>r=On w i rc):=by
 have hni:=hn.get hi;have e0:w.2.2.1.getD i ((0:Int),(([],[]),([],[])))=w.2.2.1.getD i Ae:=rfl;obtain⟨hq,_,_,_,hq60⟩:=Bn.1 hni.1;have hl:=Jt hq;unfold Bg On;simp (disch:=omega) only [dT,Vm,e0];cases hz:((w.2.2.1.getD i Ae).2.2.2.length:Int)==0
 case true=>exact Atb rfl (Aqb rfl)
 have h1:=beq_eq_false_iff_ne.1 hz;refine Asb rfl (Aub (by omega) ?_);rw[show List.take (toNat 1) (w.2.2.1.getD i Ae).2.2.2=List.take 1 (w.2.2.1.getD i Ae).2.2.2 from rfl,N5 (by rw[List.length_take];omega)];simp only[Option.bind_some];refine B1b (Cra w (-1) _ rc hr hn hl) ?_;rw[Jha w (i:Int)];obtain⟨p1,p2⟩:=Z8 (w:=w) (src:=(i:Int)) (self:=true) (rc:=rc) hl hn;have hqu:=F9a w (i:Int) ((w.2.2.1.getD i Ae).2.2.2.take 1) true rc i;rw[show Ia w (i:Int) ((w.2.2.1.getD i Ae).2.2.2.take 1) true rc=Jb w i rc from rfl]at p1 p2 hqu ⊢;generalize Jb w i rc=a at *;obtain⟨ns,g⟩:=a;dsimp only at p1 p2 hqu ⊢;cases g
 ·exact Asb rfl (Aqb rfl)
 have e1:ns.getD i ((0:Int),(([],[]),([],[])))=ns.getD i Ae:=rfl;refine Atb rfl ?_;simp (disch:=omega) only [dT,Vm,e1,hqu];rw[show List.drop (toNat 1) (w.2.2.1.getD i Ae).2.2.2=List.drop 1 (w.2.2.1.getD i Ae).2.2.2 from rfl,N5 (by rw[We];omega)];exact Aqb rfl

def NO (ns ms:List Nod):Prop:=NS ms∧ms.map (·.1)=ns.map (·.1)
def NO.len {ns ms:List Nod} (h:NO ns ms):ms.length=ns.length:=by
 have:=congrArg length h.2;rwa [Vz,Vz]at this
def NO.set {ns ms:List Nod} (h:NO ns ms) {i:Nat} {n:Nod} (hi:i<ms.length) (hn:NG n) (e:n.1=(ms.getD i Ae).1):NO ns (ms.set i n):=⟨h.1.set hn,(F7a hi e).trans h.2⟩
def Waa (n:Nod) (s:ByteArray) (f:Fil) (sure:Bool):(Oo n s f sure).1.1=n.1:=by
 unfold Oo
 cases (n.2.2.2.length:Int)==60 with
 |true=>rfl
 |false=>rfl
def A7b (n:Nod) (l:List Row):(tk n l).2.1=n.1:=by
 unfold tk
 cases decide ((Mb n.2.2.1 l).length > 60)<;>rfl
def Wba (n:Nod) (s:ByteArray) (b:Int):(N8a n s b).1.1=n.1:=by
 unfold N8a
 cases Jg n&&((lkD n.2.1 s).2==0&&(J3a n.2.1 s b).2)<;>rfl
def Tua {w:Wld} {s:ByteArray} {f:Fil} {rc:List Int} (hn:NS w.2.2.1) (hs:B2 s=true) (hf:De f=true):NO w.2.2.1 (wrN w s f rc).1:=by
 unfold wrN;refine H7 (λ _ (a:List Nod×Int×Int)=>NO w.2.2.1 a.1) ⟨hn,rfl⟩ (λ j a hj h=>?_);have hc:=H8 (A3 (d:=0) hj);have hl:=h.len;unfold wst;cases decide (a.2.1<w.2.1.1)
 ·exact h
 rw[cond_true]
 cases rch rc j==0 with
 |true=>exact h
 |false=>exact h.set (by omega) (N7a (h.1.get (by omega)) hs hf) (Waa _ _ _ _)
def Z0a {w:Wld} {i:Nat} {s:ByteArray} {rc:List Int} (hn:NS w.2.2.1):NO w.2.2.1 (puN w i s rc).1:=by
 unfold puN;refine H7 (λ _ (a:List Nod×Bool×Bool)=>NO w.2.2.1 a.1) ⟨hn,rfl⟩ (λ j a hj h=>?_);have hc:=Ke (A3 (d:=0) hj);have hl:=h.len;unfold pst;cases (Hs w s).getD j 0==(i:Int)
 case true=>exact h
 rw[cond_false]
 cases rch rc j != 1 with
 |true=>exact h
 |false=>exact h.set (by omega) (Tu (h.1.get (by omega))) rfl
def Hka {w:Wld} {i:Nat} {s:ByteArray} {rc:List Int} (hn:NS w.2.2.1) (hi:i<w.2.2.1.length):∃ ns,(Md w i s rc).2=wN w ns∧NO w.2.2.1 ns:=by
 unfold Md;cases hl:(lkD (w.2.2.1.getD i Ae).2.1 s).2 != 0
 case true=>exact⟨w.2.2.1,rfl,hn,rfl⟩
 have h:=Z0a (i:=i) (s:=s) (rc:=rc) hn;have hlen:=h.len
 have hs:B2 s=true:=by
  rw[bne,Yg,beq_iff_eq]at hl;obtain⟨b,hb,_⟩:=La.1 (show lkD (w.2.2.1.getD i Ae).2.1 s=((lkD (w.2.2.1.getD i Ae).2.1 s).1,0) from by rw[← hl]);exact R3a (hn.get hi).g.1 (by rw[hb];rfl)
 refine⟨_,rfl,?_⟩
 cases (puN w i s rc).2.2&&!(puN w i s rc).2.1 with
 |false=>exact h
 |true=>exact h.set (by omega) (Tqa (h.1.get (by omega)) hs) rfl
def Hla {w:Wld} {src:Int} {l:List Row} {self:Bool} {rc:List Int} (hl:Hb l=true) (hn:NS w.2.2.1):NO w.2.2.1 (Ia w src l self rc).1:=by
 unfold Ia;refine H7 (λ _ (a:List Nod×Bool)=>NO w.2.2.1 a.1) ⟨hn,rfl⟩ (λ j a hj h=>?_);have hc:=Jl (A3 (d:=0) hj);have hlen:=h.len;unfold gst;cases (C9 w).getD j 0==src&&!self
 case true=>exact h
 rw[cond_false]
 cases rch rc j != 1 with
 |true=>exact h
 |false=>exact h.set (by omega) (A3b (h.1.get (by omega)) hl) (A7b _ _)
def Hma {w:Wld} {i:Nat} {rc:List Int} (hn:NS w.2.2.1) (hi:i<w.2.2.1.length):∃ ns,(Me w i rc).2=wN w ns∧NO w.2.2.1 ns:=by
 have h:=Hla (w:=w) (src:=(i:Int)) (self:=false) (rc:=rc) (Bn.1 (hn.get hi).1).2.2.2.1 hn;have hlen:=h.len;unfold Me;cases ((w.2.2.1.getD i Ae).2.2.1.length:Int)==0
 case true=>exact⟨w.2.2.1,rfl,hn,rfl⟩
 refine⟨_,rfl,?_⟩;show NO w.2.2.1 (bif (I6 w i rc).2&&_ then (I6 w i rc).1.set i (Pp ((I6 w i rc).1.getD i Ae)) else (I6 w i rc).1);unfold I6
 cases (Ia w (i:Int) (w.2.2.1.getD i Ae).2.2.1 false rc).2&&_ with
 |false=>exact h
 |true=>exact h.set (by omega) (Hga (h.1.get (by omega))) rfl
def Hna {w:Wld} {i:Nat} {rc:List Int} (hn:NS w.2.2.1) (hi:i<w.2.2.1.length):∃ ns,(On w i rc).2=wN w ns∧NO w.2.2.1 ns:=by
 have hq:=Bn.1 (hn.get hi).1;have h:=Hla (w:=w) (src:=(i:Int)) (self:=true) (rc:=rc) (Jt hq.1) hn;have hlen:=h.len;unfold On;cases ((w.2.2.1.getD i Ae).2.2.2.length:Int)==0
 case true=>exact⟨w.2.2.1,rfl,hn,rfl⟩
 refine⟨_,rfl,?_⟩;show NO w.2.2.1 (bif (Jb w i rc).2 then (Jb w i rc).1.set i (W2a ((Jb w i rc).1.getD i Ae) ((w.2.2.1.getD i Ae).2.2.2.drop 1)) else (Jb w i rc).1);unfold Jb
 cases (Ia w (i:Int) ((w.2.2.1.getD i Ae).2.2.2.take 1) true rc).2 with
 |false=>exact h
 |true=>exact h.set (by omega) (Tta (h.1.get (by omega)) (λ r hr=>hq.1 r (Zp hr)) (by rw[We];omega)) rfl
structure WO (w:Wld):Prop where
 ring:Ga w.2.1 w.1=true
 ids:w.2.2.1.map (·.1)=w.1.map (·.1)
 ns:NS w.2.2.1
 clk:Fz w.2.2.2.1=true
 wlen:w.2.2.2.2.1.length≤200
 wok:A0a w.2.2.2.2.1
 wge:∀ x∈w.2.2.2.2.1,sle w.2.2.2.1 x.2.1.1=false
 sps:TS w.2.2.2.2.2
 spn:∀ s∈w.2.2.2.2.2,B2 s=true
def WI.wo {w:Wld} (h:WI w):WO w:=⟨h.ring,h.ids,h.ns,h.clk,h.wlen,h.wok,h.wge,h.sps,λ s hs=>by
 obtain⟨x,hx,e⟩:=h.spw s hs;rw[← e]
 exact(h.wok x hx).1⟩
namespace WO
variable {w:Wld}
def nlen (h:WO w):w.2.2.1.length=w.1.length:=by
 have:=congrArg length h.ids;rwa [Vz,Vz]at this
def dlen (h:WO w):1≤w.1.length∧w.1.length≤12:=(Dl.1 (C2.1 h.ring).1).2.2
def other (h:WO w) {ns:List Nod} (hn:NO w.2.2.1 ns):WO (wN w ns):=⟨h.ring,hn.2.trans h.ids,hn.1,h.clk,h.wlen,h.wok,h.wge,h.sps,h.spn⟩
def other' (h:WO w) {r:Bool×Wld} (hr:∃ ns,r.2=wN w ns∧NO w.2.2.1 ns):WO r.2:=by
 obtain⟨ns,e,hn⟩:=hr;rw[e];exact h.other hn
def write (h:WO w) {s:ByteArray} {f:Fil} {rc:List Int} (hs:B2 s=true) (hf:De f=true) (hb:Av f.2.2) (hc:sle w.2.2.2.1 f.1=true) (hl:w.2.2.2.2.1.length<200):WO (Nz (w.1,w.2.1,w.2.2.1,f.1,w.2.2.2.2) s f rc).2:=by
 have g:=Tua (w:=(w.1,w.2.1,w.2.2.1,f.1,w.2.2.2.2)) (rc:=rc) h.ns hs hf;unfold Nz;generalize wrN (w.1,w.2.1,w.2.2.1,f.1,w.2.2.2.2) s f rc=a at *
 exact {
  ring:=h.ring
  ids:=g.2.trans h.ids
  ns:=g.1
  clk:=(Gf.1 hf).1
  wlen:=by show (w.2.2.2.2.1++[_]).length≤200;rw[Vi];simp only[Vh,Vs];omega
  wok:=λ x hx=>by
   rcases Vl.1 hx with hx|hx
   ·exact h.wok x hx
   ·rw[Vp.1 hx];exact⟨hs,hf,hb⟩
  wge:=λ x hx=>by
   rcases Vl.1 hx with hx|hx
   ·exact R4 (N4 hc) (h.wge x hx)
   ·rw[Vp.1 hx];exact Fx _
  sps:=h.sps
  spn:=h.spn }
def ask (h:WO w) {s:ByteArray} {f:Fil} {t:Int} {rc:List Int} (hb:Av f.2.2) (hd:f.2.1=true→f.2.2=[]):WO (ask w s f t rc).2:=by
 unfold Vf.ask;cases hs:B2 s
 ·exact h
 rw[Za,cond_false]
 by_cases hl:(f.2.2.length:Int) > 200
 ·rw[decide_eq_true hl];exact h
 ·rw[decide_eq_false hl,cond_false];cases inR t 0 1000000000
  ·exact h
  rw[Za,cond_false];cases hw:(w.2.2.2.2.1.length:Int)==200
  case true=>exact h
  rw[cond_false];have hw':=beq_eq_false_iff_ne.1 hw;have hwl:=h.wlen;obtain⟨n1,n2⟩:=Z7 h.clk t 0;cases he:(Ik w.2.2.2.1 t 0).1==w.2.2.2.1.1&&((Ik w.2.2.2.1 t 0).2.1==w.2.2.2.1.2.1&&(Ik w.2.2.2.1 t 0).2.2==w.2.2.2.1.2.2)
  case true=>exact h
  rw[cond_false]
  have hlt:sle w.2.2.2.1 (Ik w.2.2.2.1 t 0)=true:=by
   rcases n2 with n2|n2
   ·rw[n2,beq_self_eq_true,beq_self_eq_true,beq_self_eq_true]at he;cases he
   ·exact n2
  exact h.write (f:=(Ik w.2.2.2.1 t 0,f.2)) hs (Gf.2 ⟨n1,by show f.2.2.length≤200;omega,hd⟩) hb hlt (by omega)
def rot (h:WO w) {i:Nat} (hi:i<w.2.2.1.length) {s:ByteArray} {b:Int}:WO (Yra w i s b).2:=by
 have hg:=h.ns.get hi;unfold Yra;cases hr:(N8a (w.2.2.1.getD i Ae) s b).2
 ·exact h
 have hn:NO w.2.2.1 (w.2.2.1.set i (N8a (w.2.2.1.getD i Ae) s b).1):=NO.set ⟨h.ns,rfl⟩ hi (Tha hg) (Wba _ _ _)
 have hs:B2 s=true:=by
  unfold N8a at hr;cases hc:Jg (w.2.2.1.getD i Ae)&&((lkD (w.2.2.1.getD i Ae).2.1 s).2==0&&(J3a (w.2.2.1.getD i Ae).2.1 s b).2)
  ·rw[hc]at hr;cases hr
  rw[Va,Va,beq_iff_eq]at hc;obtain⟨b,hb,_⟩:=La.1 (show lkD (w.2.2.1.getD i Ae).2.1 s=((lkD (w.2.2.1.getD i Ae).2.1 s).1,0) from by rw[← hc.2.1]);exact R3a hg.g.1 (by rw[hb];rfl)
 exact⟨h.ring,hn.2.trans h.ids,hn.1,h.clk,h.wlen,h.wok,h.wge,W3 h.sps,λ t ht=>by
  rcases Z9.1 ht with rfl|ht
  ·exact hs
  ·exact h.spn t ht⟩
def node (h:WO w) {i:Nat} (hi:i<w.2.2.1.length) {e:Evt}:WO (Nsa w e i).2:=by
 have hg:=h.ns.get hi;unfold Nsa;cases e.1==3
 case true=>exact h.other' (Hka h.ns hi)
 cases e.1==4
 case true=>exact h.other' (Hma h.ns hi)
 cases e.1==5
 case true=>exact h.other' (Hna h.ns hi)
 cases e.1==6
 case true=>exact h.other (NO.set ⟨h.ns,rfl⟩ hi (Hea hg) rfl)
 cases e.1==7 with
 |true=>exact h.other (NO.set ⟨h.ns,rfl⟩ hi (Yqa hg) rfl)
 |false=>exact h.rot hi
def weigh (h:WO w) {i t:Int}:WO (Nta w i t).2:=by
 unfold Nta;cases h1:inR i 0 ((w.1.length:Int)-1)
 ·exact h
 cases h2:inR t 1 1000
 ·exact h
 obtain⟨i0,i1⟩:=Fk.1 h1;obtain⟨w0,w1⟩:=Fk.1 h2;exact⟨(H8a (H9a h.ring (by omega) w0 w1)).1,h.ids.trans (Z0 _ _ _).symm,h.ns,h.clk,h.wlen,h.wok,h.wge,h.sps,h.spn⟩
def ev (h:WO w) {e:Evt} (hb:Av e.2.2.2.1):WO (doW w e).2:=by
 have ae:∀ {q:Int×Wld},WO q.2→WO (X0a q).2:=λ {q} hq=>by
  unfold X0a
  cases q.1 != 2<;>exact hq
 unfold doW;cases e.1==1
 case true=>exact ae (h.ask hb (λ c=>by cases c))
 cases e.1==2
 case true=>exact ae (h.ask Tk (λ _=>rfl))
 cases e.1==3||(e.1==4||(e.1==5||(e.1==6||(e.1==7||e.1==8)))) with
 |true=>
  cases hi:inR e.2.1 0 ((w.2.2.1.length:Int)-1)
  ·exact h
  have:=Fk.1 hi;exact h.node (by omega)
 |false=>
  cases e.1==9 with
  |true=>exact h.weigh
  |false=>exact h
def nods (h:WO w):Ny w.1 w.2.2.1=true:=by
 have hl:=h.nlen;unfold Ny;rw[show ((w.2.2.1.length:Int)==(w.1.length:Int))=true by rw[beq_iff_eq];omega,Wf,Yb];intro j hj;have hj':=Zx.1 hj;rw[Va,beq_iff_eq];refine⟨?_,(h.ns.get hj').1⟩
 have e1:(w.2.2.1.getD j Ae).1=(w.2.2.1.map (·.1)).getD j 0:=by
  rw[Vb,Vb,Zw,Vg hj'];rfl
 have e2:(w.1.getD j Ju).1=(w.1.map (·.1)).getD j 0:=by
  rw[Vb,Vb,Zw,Vg (by omega)];rfl
 rw[e1,e2,h.ids]
def ok (h:WO w):Nr w=true:=by
 unfold Nr
 have a2:Rqa w.2.2.2.1 w.2.2.2.2.1=true:=by
  unfold Rqa;rw[Va,Yb];refine⟨λ x hx=>?_,decide_eq_true (by have:=h.wlen;omega)⟩;unfold F2a;rw[(h.wok x hx).1,(h.wok x hx).2.1,h.wge x hx];rfl
 have a3:Pm w.2.2.2.2.2=true:=by
  unfold Pm;rw[Yb];intro j hj;have hj':=Zx.1 hj;rw[Va,Zz];refine⟨h.spn _ (A3 hj'),?_⟩
  by_cases h0:j=0
  ·exact .inl (decide_eq_true h0)
  ·right;have:=Yq.1 h.sps (j-1) j (by omega) hj' (by omega);rwa [Vb,Vb,Vg hj',Vg (by omega)]
 rw[h.ring,h.nods,h.clk,a2,a3];rfl
end WO
def A8b {l:List ByteArray} (h:∀ j,0<j→j<l.length→tlt (l.getD (j-1) Li) (l.getD j Li)=true):TS l:=by
 induction l with
 |nil=>exact List.Pairwise.nil
 |cons x l ih=>
  have ht:TS l:=ih (λ j h0 hj=>by
   have:=h (j+1) (by omega) (by simpa using hj);obtain⟨m,rfl⟩:∃ m,j=m+1:=⟨j-1,by omega⟩
   simpa using this)
  refine Wd.2 ⟨λ y hy=>?_,ht⟩
  cases l with
  |nil=>cases hy
  |cons z l=>
   have hz:tlt x z=true:=by have:=h 1 (by omega) (by simp);simpa using this
   rcases Vk.1 hy with rfl|hy
   ·exact hz
   ·exact I3 hz ((Wd.1 ht).1 y hy)
def A9b {w:Wld} (h:Nr w=true) (hn:∀ n∈w.2.2.1,DB n.2.1) (hb:∀ x∈w.2.2.2.2.1,Av x.2.1.2.2):WO w:=by
 unfold Nr at h;simp only[Va]at h;obtain⟨h1,h2,h3,h4,h5⟩:=h;unfold Ny at h2;rw[Va,beq_iff_eq,Yb]at h2;obtain⟨hl,h2⟩:=h2;have hd:=(Dl.1 (C2.1 h1).1).2.2
 have hnode:∀ j,j<w.2.2.1.length→(w.2.2.1.getD j Ae).1=(w.1.getD j Ju).1∧Jg (w.2.2.1.getD j Ae)=true:=λ j hj=>by
  have:=h2 j (Zx.2 hj);rwa [Va,beq_iff_eq]at this
 unfold Rqa at h4;rw[Va,Yb,decide_eq_true_iff]at h4;unfold Pm at h5;rw[Yb]at h5
 have hsp:∀ j,j<w.2.2.2.2.2.length→B2 (w.2.2.2.2.2.getD j Li)=true∧(j=0∨tlt (w.2.2.2.2.2.getD (j-1) Li) (w.2.2.2.2.2.getD j Li)=true):=λ j hj=>by
  have:=h5 j (Zx.2 hj);rwa [Va,Zz,decide_eq_true_iff]at this
 have hx:∀ x∈w.2.2.2.2.1,B2 x.1=true∧De x.2.1=true∧sle w.2.2.2.1 x.2.1.1=false:=λ x hx=>by
  have:=h4.1 x hx;unfold F2a at this;rwa [Va,Va,Wa]at this
 refine⟨h1,?_,⟨by omega,λ n hm=>?_⟩,h3,by omega,λ x hm=>⟨(hx x hm).1,(hx x hm).2.1,hb x hm⟩,λ x hm=>(hx x hm).2.2,A8b (λ j h0 hj=>?_),λ s hs=>?_⟩
 ·refine Dnb (by rw[Vz,Vz];omega) (λ j a b=>?_);rw[Vz]at a b;have:=(hnode j a).1;rw[Vb,Vb,Vg a,Vg b]at this;rw[Czb,Czb];exact this
 ·obtain⟨j,hj,rfl⟩:=Yr.1 hm;have:=(hnode j hj).2;rw[Vb,Vg hj]at this;exact⟨this,hn _ hm⟩
 ·rcases (hsp j hj).2 with h|h
  ·omega
  ·exact h
 ·obtain⟨j,hj,rfl⟩:=Yr.1 hs;have:=(hsp j hj).1;rwa [Vb,Vg hj]at this

section
open Go
end

section
open Go
end

def WIm.wo {m:Nat} {w:Wld} (h:WIm m w) (hk:Nr w=true):WO w:=A9b hk (λ n hn=>(h.2.2.1.2 n hn).1.2) (λ x hx=>(h.2.2.2.1.2 x hx).2.2)
def WO.wim {w:Wld} (h:WO w) {m:Nat} (h2:200≤m) (hs:w.2.2.2.2.2.length≤m):WIm m w:=
 ⟨M4 h.ring,by have:=h.dlen;omega,⟨h.ns.1,λ n hn=>Caa (h.ns.2 n hn)⟩,⟨by have:=h.wlen;omega,λ x hx=>⟨Gg (h.wok x hx).1,by have:=(Gf.1 (h.wok x hx).2.1).2.1;omega,(h.wok x hx).2.2⟩⟩,hs,λ s hs=>Gg (h.spn s hs)⟩
def Csa {m:Nat} {w:Wld} (h:WIm m w) (hm:m≤2000000):Tot (λ k=>Ax k w) (λ r=>r=w):=by
 obtain⟨h1,h2,⟨h3,h4⟩,⟨h5,h6⟩,h7,h8⟩:=h;unfold Ax;refine Ayb (by rw[Vs];omega) (B1b (Cfa w.2.1 h1) ?_);refine Ayb (by rw[Vs];omega) ?_;rw[Wl,Wl];refine Arb (Q:=λ r=>r=(w,P0a,(w.1,w.2.1,w.2.2.1,w.2.2.2.1,[],w.2.2.2.2.2))) ?_ ?_
 ·refine Azb (L:=λ k i (s:List Nod)=>Ch k w.2.2.1 (w.2.2.1.length:Int) i w P0a (w.1,w.2.1,s,w.2.2.2.1,[],w.2.2.2.2.2)) (Q:=λ r=>r=(w,P0a,(w.1,w.2.1,w.2.2.1,w.2.2.2.1,[],w.2.2.2.2.2))) w.2.2.1.length (λ j s=>s=w.2.2.1.take j) ?_ ?_ 0 [] (Vw _) rfl
  ·rintro s rfl;simp (disch:=omega) only [Ch,dF];exact Aqb (by rw[Zf])
  ·rintro j s hj rfl next;have hm:=h4 _ (A3 (d:=Ae) hj);have e0:w.2.2.1.getD j ((0:Int),(([],[]),([],[])))=w.2.2.1.getD j Ae:=rfl
   have hl:(w.2.2.1.take j).length=j:=by rw[Vq];omega
   simp (disch:=omega) only [Ch,dT,Vm,w64,e0];refine B1b (J7 _ hm) ?_;refine Ayb (by rw[hl];simp only[Vh,Vs];omega) (next _ ?_);rw[Wi hj,Vb,Vg hj];rfl
 ·rintro r rfl;refine Arb (Q:=λ r=>r=(P0a,w)) ?_ (by rintro r rfl;exact Aqb rfl);refine Azb (L:=λ k i (s:List Wri)=>Cg k w.2.2.2.2.1 (w.2.2.2.2.1.length:Int) i P0a (w.1,w.2.1,w.2.2.1,w.2.2.2.1,s,w.2.2.2.2.2)) (Q:=λ r=>r=(P0a,w)) w.2.2.2.2.1.length (λ j s=>s=w.2.2.2.2.1.take j) ?_ ?_ 0 [] (Vw _) rfl
  ·rintro s rfl;simp (disch:=omega) only [Cg,dF];exact Aqb (by rw[Zf])
  ·rintro j s hj rfl next;have hm:=(h6 _ (A3 (d:=Wya) hj)).2.1;have e0:w.2.2.2.2.1.getD j ((⟨#[]⟩:ByteArray),((((0:Int),((0:Int),(0:Int))),(false,[])),false))=w.2.2.2.2.1.getD j Wya:=rfl
   have hl:(w.2.2.2.2.1.take j).length=j:=by rw[Vq];omega
   simp (disch:=omega) only [Cg,dT,Vm,w64,e0,R5 (f:=(w.2.2.2.2.1.getD j Wya).2.1) (by omega),Vt];refine Ayb (by rw[hl];simp only[Vh,Vs];omega) (next _ ?_);rw[Wi hj,Vb,Vg hj];rfl

def Ud (s:ByteArray) (a:Bool×Fil) (n:Nod):Bool×Fil:=bif (lkD n.2.1 s).2==0 then (bif !a.1||sle a.2.1 (lkD n.2.1 s).1.1 then (true,(lkD n.2.1 s).1) else a) else a
def lat (ns:List Nod) (s:ByteArray):Bool×Fil:=ns.foldl (Ud s) (false,Pv)
def Cta {s:ByteArray} {a:Bool×Fil} {n:Nod} (h:a.1=true∨((lkD n.2.1 s).2==0)=true):(Ud s a n).1=true:=by
 unfold Ud
 cases hc:(lkD n.2.1 s).2==0 with
 |false=>
  rw[hc]at h;rcases h with h|h
  ·exact h
  ·cases h
 |true=>
  rw[cond_true]
  cases ha:a.1 with
  |false=>rfl
  |true=>cases hs:sle a.2.1 (lkD n.2.1 s).1.1<;>simp[ha]
def Hoa {s:ByteArray}:∀ (ns:List Nod) (a:Bool×Fil),(a.1=true∨∃ n∈ns,((lkD n.2.1 s).2==0)=true)→(ns.foldl (Ud s) a).1=true
 |[],a,h=>by
  rcases h with h|⟨n,hn,_⟩
  ·exact h
  ·cases hn
 |n::ns,a,h=>by
  rw[Yx];refine Hoa ns _ ?_;rcases h with h|⟨m,hm,hg⟩
  ·exact .inl (Cta (.inl h))
  ·rcases Vk.1 hm with rfl|hm
   ·exact .inl (Cta (.inr hg))
   ·exact .inr ⟨m,hm,hg⟩
def lvE (s:ByteArray) (p:List Int) (f:Fil) (n:Nod):Bool:=bif Hc p n.1 then ((lkD n.2.1 s).2==0)&&W0a (lkD n.2.1 s).1 f else !((lkD n.2.1 s).2==0)
def lvN (w:Wld) (s:ByteArray):Bool:=w.2.2.1.all (lvE s (Km w.2.1 s) (lat w.2.2.1 s).2)
def Rwa {ns:List Nod} {p:List Int} {j:Nat} (hj:j<ns.length):Hc (whr ns p) (j:Int)=Hc p (ns.getD j Ae).1:=by
 rw[C1b,Hr,Hr,Om];constructor
 ·rintro⟨i,h1,h2,h3⟩
  obtain rfl:j=i:=by omega
  exact h2
 ·intro h;exact⟨j,hj,h,rfl⟩
def Cua (d:Dsk) (s:ByteArray):Prop:=((lkD d s).2==0)=true
def Rxa {d:Dsk} {s:ByteArray}:Cua d s↔∃ i,fnd d.1 s=some i∧(Je (d.1.getD i Il).2).isSome=true:=by
 unfold Cua lkD gt
 cases h:fnd d.1 s with
 |none=>simp
 |some i=>
  simp only[Vc];constructor
  ·intro hg;refine⟨i,rfl,?_⟩
   cases hf:Je (d.1.getD i Il).2 with
   |none=>simp only[hf]at hg;cases hg
   |some f=>rfl
  ·rintro⟨j,rfl,hg⟩
   cases hf:Je (d.1.getD i Il).2 with
   |none=>rw[hf]at hg;cases hg
   |some f=>rfl
def O0a {d:Dsk} {s:ByteArray}:s∈Mc d↔Cua d s:=by
 have key:∀ (l:List Nmd) (out:List ByteArray),s∈l.foldl (hI d) out↔s∈out∨∃ x∈l,x.1=s∧Cua d s:=by
  intro l
  induction l with
  |nil=>intro out;simp
  |cons x l ih=>
   intro out;rw[Yx,ih]
   have hx:s∈hI d out x↔s∈out∨(x.1=s∧Cua d s):=by
    unfold hI
    cases hc:(lkD d x.1).2==0 with
    |false=>
     rw[cond_false];refine⟨.inl,?_⟩;rintro (h|⟨rfl,h⟩)
     ·exact h
     ·unfold Cua at h;rw[hc]at h;cases h
    |true=>
     rw[cond_true,T7a];constructor
     ·rintro (rfl|h)
      ·exact .inr ⟨rfl,hc⟩
      ·exact .inl h
     ·rintro (h|⟨h,_⟩)
      ·exact .inr h
      ·exact .inl h.symm
   rw[hx];constructor
   ·rintro ((h|h)|⟨y,hy,h⟩)
    ·exact .inl h
    ·exact .inr ⟨x,Wo,h⟩
    ·exact .inr ⟨y,Vd _ hy,h⟩
   ·rintro (h|⟨y,hy,h⟩)
    ·exact .inl (.inl h)
    ·rcases Vk.1 hy with rfl|hy
     ·exact .inl (.inr h)
     ·exact .inr ⟨y,hy,h⟩
 unfold Mc;rw[key];constructor
 ·rintro (h|⟨x,_,_,h⟩)
  ·cases h
  ·exact h
 ·intro h;obtain⟨i,hi,_⟩:=Rxa.1 h;have:=Qw hi;exact .inr ⟨_,A3 (d:=Il) this.1,this.2,h⟩
def Agb (a b:Row):Bool:=(a.1==b.1)&&((a.2.1.1==b.2.1.1)&&((a.2.1.2.1==b.2.1.2.1)&&((a.2.1.2.2==b.2.1.2.2)&&((a.2.2.1==b.2.2.1)&&(a.2.2.2==b.2.2.2)))))
def O1a (a b:List Row):Bool:=((a.length:Int)==(b.length:Int))&&(List.range a.length).all λ j=>Agb (a.getD j Aeb) (b.getD j Aeb)
def Tva (w:Wld) (j:Nat):List Row:=bif Hc (C9 w) (j:Int) then (w.2.2.1.getD ((C9 w).getD 0 0).toNat Ae).2.2.1 else []
def Ahb (w:Wld) (j:Nat):Bool := !(decide (((w.2.2.1.getD j Ae).2.2.2.length:Int) > 0))&&O1a (w.2.2.1.getD j Ae).2.2.1 (Tva w j)
def O2a (a:List Row):O1a a [] = !(decide ((a.length:Int) > 0)):=by
 unfold O1a
 cases a with
 |nil=>rfl
 |cons x l=>
  rw[decide_eq_true (show ((x::l).length:Int) > 0 by rw[Vh];omega),show (((x::l).length:Int)==(([]:List Row).length:Int))=false by rw[beq_eq_false_iff_ne,Vh,Vs];omega];rfl
def O3a {w:Wld} {j:Int} (h:Hc (C9 w) j=true):0<(C9 w).length∧0≤(C9 w).getD 0 0∧(C9 w).getD 0 0<(w.2.2.1.length:Int):=by
 have hm:=Hr.1 h;have h0:=B6b hm;obtain⟨i,h1,_,h3⟩:=Om.1 (show (C9 w).getD 0 0∈whr w.2.2.1 (Km w.2.1 Lj) from A3 h0);exact⟨h0,by omega,by omega⟩

def Cva (R:Int) (rc:List Int) (s:ByteArray) (ns:List Nod) (cs:List Int) (a:Int×Int×Bool×Fil) (j:Nat):Int×Int×Bool×Fil:=
 bif decide (a.1<R) then (bif rch rc j==0 then a else (a.1+1,bif rch rc j==1 then (a.2.1+1,Ud s a.2.2 (ns.getD (cs.getD j 0).toNat Ae)) else a.2)) else a
def gtR (w:Wld) (s:ByteArray) (rc:List Int):Int×Int×Bool×Fil:=run (Cva w.2.1.1 rc s w.2.2.1 (contacts w s)) (contacts w s).length (0,0,false,Pv)
def gtW (r:Int×Int×Bool×Fil):Fil×Int:=bif r.2.1==0 then (Pv,1) else bif !r.2.2.1 then (Pv,4) else bif r.2.2.2.2.1 then (Pv,5) else (r.2.2.2,0)
def P1a (w:Wld) (s:ByteArray) (rc:List Int):Fil×Int:=bif Nr w&&B2 s then gtW (gtR w s rc) else (Pv,2)
def Wca {R:Int} {rc:List Int} {s:ByteArray} {ns:List Nod} {cs:List Int} {a:Int×Int×Bool×Fil} {j:Nat} (h:(0≤a.1∧a.1≤j)∧0≤a.2.1∧a.2.1≤j):let b:=Cva R rc s ns cs a j
  (0≤b.1∧b.1≤((j+1:Nat):Int))∧0≤b.2.1∧b.2.1≤((j+1:Nat):Int):=by
 obtain⟨⟨h1,h2⟩,h3,h4⟩:=h;intro b;have hb:b=Cva R rc s ns cs a j:=rfl;unfold Cva at hb;cases hR:decide (a.1<R)
 ·rw[hR,cond_false]at hb;rw[hb];exact⟨⟨h1,by omega⟩,h3,by omega⟩
 rw[hR,cond_true]at hb;cases hr:rch rc j==0
 case true=>rw[hr,cond_true]at hb;rw[hb];exact⟨⟨h1,by omega⟩,h3,by omega⟩
 rw[hr,cond_false]at hb;rw[hb]
 cases rch rc j==1 with
 |true=>exact⟨⟨by dsimp only;omega,by dsimp only;omega⟩,by rw[cond_true];dsimp only;omega,by rw[cond_true];dsimp only;omega⟩
 |false=>exact⟨⟨by dsimp only;omega,by dsimp only;omega⟩,by rw[cond_false];exact h3,by rw[cond_false];dsimp only;omega⟩
def Wda (w:Wld) (s:ByteArray) (rc:List Int) (n:Nat):let b:=run (Cva w.2.1.1 rc s w.2.2.1 (contacts w s)) n (0,0,false,Pv)
  (0≤b.1∧b.1≤(n:Int))∧0≤b.2.1∧b.2.1≤(n:Int):=
 H7 (λ j (b:Int×Int×Bool×Fil)=>(0≤b.1∧b.1≤(j:Int))∧0≤b.2.1∧b.2.1≤(j:Int)) ⟨⟨Zza _,Zza _⟩,Zza _,Zza _⟩ (λ j b _ hb=>Wca hb)
def Cwa {w:Wld} {s:ByteArray} (hr:Ga w.2.1 w.1=true) (hn:w.2.2.1.length≤2000000):(contacts w s).length≤4000000000000:=by
 unfold contacts;refine Pn hn ?_;have h5:=(C2.1 hr).2.1;have p2:=(M6 hr s).2.1;have h12:=(Dl.1 (C2.1 hr).1).2.2.2;have hh:=N3 w.2.1 w.1 s;rw[Vi];omega
def O4a {s:ByteArray} (h:B2 s=true):s.size≤1000000000:=by
 have:=Fk.1 (Va _ _ ▸ h:_∧_).2;omega
def Rya {n:Nod} (hn:NIn n) (how g:Int) (s:ByteArray) (a:Bool×Fil) (h0:0≤g) (h1:g≤9000000000000):
  Tot (λ k=>Bo k n how g s a.1 a.2) (λ r=>r=bif how==1 then (g+1,s,(Ud s a n).1,(Ud s a n).2) else (g,s,a.1,a.2)):=by
 unfold Bo Ud;cases hh:how==1
 ·exact Atb (by rw[bne,hh];rfl) (Aqb rfl)
 refine Asb (by rw[bne,hh];rfl) (B1b (Y6 hn.1.1.1.1.1 hn.1.2.1 s) ?_);rw[w64 (n:=g+1) (by omega) (by omega)];cases (lkD n.2.1 s).2==0
 ·exact Asb rfl (Aqb rfl)
 refine Atb rfl ?_;obtain⟨b,f⟩:=a;cases b
 ·exact Atb rfl (Aqb rfl)
 refine Asb rfl ?_;simp only[C0a,Vt]
 cases sle f.1 (lkD n.2.1 s).1.1 with
 |true=>exact Atb rfl (Aqb rfl)
 |false=>exact Asb rfl (Aqb rfl)
def Jia (w:Wld) (s:ByteArray) (rc:List Int) (hr:Ga w.2.1 w.1=true) (hn:w.2.2.1.length≤2000000) (hni:∀ n∈w.2.2.1,NIn n) (hs:B2 s=true):
  Tot (λ k=>A7 k w s rc true 0 s false Pv) (λ r=>r=(w,(gtR w s rc).2.1,s,(gtR w s rc).2.2.1,(gtR w s rc).2.2.2)):=by
 have hcl:=Cwa (s:=s) hr hn;have h5:=(C2.1 hr).2.1;unfold A7;refine B1b (R3 w s hr hn (O4a hs)) ?_;have hc:=λ x=>H8 (w:=w) (s:=s) (x:=x);have hrun:gtR w s rc=run (Cva w.2.1.1 rc s w.2.2.1 (contacts w s)) (contacts w s).length (0,0,false,Pv):=rfl;have inv:=Wda w s rc;generalize hcs:contacts w s=cs at *;refine Arb (Q:=λ r=>r=(w,(gtR w s rc).2.1,s,(gtR w s rc).2.2.1,(gtR w s rc).2.2.2)) ?_ (by rintro r rfl;exact Aqb rfl);refine Azb (L:=λ k i (a:Int×Int×Bool×Fil)=>A8 k rc a.1 cs (cs.length:Int) i w a.2.1 s a.2.2.1 a.2.2.2) (Q:=λ r=>r=(w,(gtR w s rc).2.1,s,(gtR w s rc).2.2.1,(gtR w s rc).2.2.2)) cs.length (λ j a=>a=run (Cva w.2.1.1 rc s w.2.2.1 cs) j (0,0,false,Pv)) ?_ ?_ 0 (0,0,false,Pv) (Vw _) rfl
 ·rintro a rfl;simp (disch:=omega) only [A8,dF];exact Aqb (by rw[hrun])
 ·rintro j a hj rfl next;obtain⟨⟨i1,i2⟩,i3,i4⟩:=inv j;rw[Gt]at next;generalize run (Cva w.2.1.1 rc s w.2.2.1 cs) j (0,0,false,Pv)=a at *;obtain⟨o,g,a⟩:=a;dsimp only at i1 i2 i3 i4;have hci:=hc _ (A3 (d:=0) hj);obtain⟨i,ei⟩:∃ i:Nat,cs.getD j 0=(i:Int):=⟨(cs.getD j 0).toNat,by omega⟩;rw[ei]at hci;unfold Cva at next;rw[ei,Int.toNat_natCast]at next;dsimp only at next;have e0:w.2.2.1.getD i ((0:Int),(([],[]),([],[])))=w.2.2.1.getD i Ae:=rfl;simp (disch:=omega) only [A8,dT,Int.toNat_natCast,w64,ei,e0,Z4,Option.bind_some]
  cases h0:rch rc j==0 with
  |true=>
   refine Asb (by rw[bne,h0];rfl) ?_;rw[h0]at next;refine next (o,g,a) ?_
   cases decide (o<w.2.1.1)<;>rfl
  |false=>
   refine Atb (by rw[bne,h0];rfl) ?_;rw[h0]at next;refine Axb (λ hR'=>?_) (λ hR'=>?_)
   ·rw[decide_eq_true hR']at next;refine B1b (Rya (hni _ (A3 (d:=Ae) (show i<w.2.2.1.length by omega))) (rch rc j) g s a i3 (by omega)) ?_
    cases h1:rch rc j==1 with
    |true=>rw[h1]at next;exact next _ rfl
    |false=>rw[h1]at next;exact next _ rfl
   ·rw[decide_eq_false hR']at next;exact next _ rfl
def Ry (w:Wld) (s:ByteArray) (rc:List Int) (hw:WIn w) (hs:Kj s):Tot (λ k=>Cs k w s rc) (λ r=>r=P1a w s rc):=by
 unfold Cs P1a;refine B1b (Tr w hw) ?_;cases hk:Nr w
 ·exact Atb rfl (Aqb rfl)
 refine Asb rfl (B1b (J4 s hs) ?_);cases hn:B2 s
 ·exact Atb rfl (Aqb rfl)
 have hr:Ga w.2.1 w.1=true:=by
  unfold Nr at hk;exact(Va _ _ ▸ hk:_∧_).1
 refine Asb rfl (B1b (Jia w s rc hr hw.2.2.1.1 hw.2.2.1.2 hn) ?_);unfold gtW;dsimp only;cases (gtR w s rc).2.1==0
 case true=>exact Atb rfl (Aqb rfl)
 refine Asb rfl ?_;cases (gtR w s rc).2.2.1
 ·exact Atb rfl (Aqb rfl)
 refine Asb rfl ?_
 cases (gtR w s rc).2.2.2.2.1 with
 |true=>exact Atb rfl (Aqb rfl)
 |false=>exact Asb rfl (Aqb rfl)

def Zga (w:Wld) (s:ByteArray) (f:Fil) (t:Int) (rc:List Int):Wld×Int:=bif Nr w then ((ask w s f t rc).2,(ask w s f t rc).1) else (w,2)
def Rza {m:Nat} {w:Wld} (h:WIm m w) (hm:m≤1999000) (s:ByteArray) (l:List Int) (t:Int) (rc:List Int) (hs:Kj s) (hl:l.length≤1000000000):Tot (λ k=>Eg k w s l t rc) (λ r=>r=Zga w s ((0,0,0),false,l) t rc):=by
 have hw:=h.win (by omega);unfold Eg Zga;refine Arb (Csa h (by omega)) ?_;rintro r rfl;refine Arb (Tr r hw) ?_;rintro b rfl;cases hk:Nr r
 ·exact Atb rfl (Aqb rfl)
 have ho:=h.wo hk;rw[Hq l (by omega)];simp only[Vt];refine Asb rfl (Arb (W9a r s ((0,0,0),false,l) t rc ho.ring ho.ns ho.clk hs (λ c=>by cases c) ho.wlen) ?_);rintro _ rfl;exact Aqb rfl

def Cy:List Int:=[1,1,1,1,1,1,1,1,1,1,1,1]
def Jc (w:Wld) (i:Nat) (l:List ByteArray):Wld:=l.foldl (λ w s=>(Md w i s Cy).2) w
def Iz (w:Wld) (i:Nat):Nat→Wld
 |0=>w
 |n+1=>(On (Iz w i n) i Cy).2
def qtA (w:Wld) (i:Nat):Wld:=wN w (w.2.2.1.set i (Toa (w.2.2.1.getD i Ae)).1)
def qtP (w:Wld) (i:Nat):Wld:=Jc (qtA w i) i (Mc ((qtA w i).2.2.1.getD i Ae).2.1)
def qtT (w:Wld) (i:Nat):Wld:=Iz (qtP w i) i ((qtP w i).2.2.1.getD i Ae).2.2.2.length
def qtN (w:Wld) (i:Nat):Wld:=(Me (qtT w i) i Cy).2
def Hv (w:Wld):Wld:=run qtN w.2.2.1.length w
def Cxa:Tot (λ k=>Ej k) (λ r=>r=Cy):=by
 unfold Ej;refine Arb (Q:=λ r=>r=Cy) ?_ (by rintro r rfl;exact Aqb rfl);refine Azb (L:=λ k i (s:List Int)=>D8 k s i) (Q:=λ r=>r=Cy) 12 (λ j s=>s=List.replicate j 1) ?_ ?_ 0 [] (Vw _) rfl
 ·rintro s rfl;simp (disch:=omega) only [D8,dF];exact Aqb rfl
 ·rintro j s hj rfl next;simp (disch:=omega) only [D8,dT,w64];refine Ayb (by rw[Drb];simp only[Vh,Vs];omega) (next _ ?_);rw[List.replicate_succ']
def NW (w v:Wld):Prop:=∃ ns,v=wN w ns∧NO w.2.2.1 ns
def NW.refl {w:Wld} (h:WO w):NW w w:=⟨w.2.2.1,rfl,h.ns,rfl⟩
def NW.trans {u v w:Wld} (h1:NW u v) (h2:NW v w):NW u w:=by
 obtain⟨a,rfl,ha⟩:=h1;obtain⟨b,rfl,hb⟩:=h2;exact⟨b,rfl,hb.1,hb.2.trans ha.2⟩
def NW.wo {w v:Wld} (h:NW w v) (hw:WO w):WO v:=by
 obtain⟨ns,rfl,hn⟩:=h;exact hw.other hn
def NW.len {w v:Wld} (h:NW w v):v.2.2.1.length=w.2.2.1.length:=by
 obtain⟨ns,rfl,hn⟩:=h;exact hn.len
def O5a {w:Wld} (h:WO w) {i:Nat} (hi:i<w.2.2.1.length) (s:ByteArray) (rc:List Int):NW w (Md w i s rc).2:=Hka h.ns hi
def O6a {w:Wld} (h:WO w) {i:Nat} (hi:i<w.2.2.1.length) (rc:List Int):NW w (On w i rc).2:=Hna h.ns hi
def O7a {w:Wld} (h:WO w) {i:Nat} (hi:i<w.2.2.1.length) (rc:List Int):NW w (Me w i rc).2:=Hma h.ns hi
def Hpa {w:Wld} (h:WO w) {i:Nat} (hi:i<w.2.2.1.length):NW w (qtA w i):=⟨_,rfl,NO.set ⟨h.ns,rfl⟩ hi (Hea (h.ns.get hi)) rfl⟩
def Qq {i:Nat}:∀ (l:List ByteArray) {w:Wld},WO w→i<w.2.2.1.length→NW w (Jc w i l)
 |[],w,h,_=>NW.refl h
 |s::l,w,h,hi=>by
  have h1:=O5a h hi s Cy;exact h1.trans (Qq l (h1.wo h) (by rw[h1.len];exact hi))
def Lc {i:Nat} {w:Wld} (h:WO w) (hi:i<w.2.2.1.length):∀ n,NW w (Iz w i n)
 |0=>NW.refl h
 |n+1=>by
  have h1:=Lc h hi n;exact h1.trans (O6a (h1.wo h) (by rw[h1.len];exact hi) Cy)
def O8a {w:Wld} (h:WO w) {i:Nat} (hi:i<w.2.2.1.length):NW w (qtP w i):=by
 have h1:=Hpa h hi;exact h1.trans (Qq _ (h1.wo h) (by rw[h1.len];exact hi))
def Twa {w:Wld} (h:WO w) {i:Nat} (hi:i<w.2.2.1.length):NW w (qtT w i):=by
 have h1:=O8a h hi;exact h1.trans (Lc (h1.wo h) (by rw[h1.len];exact hi) _)
def Z1a {w:Wld} (h:WO w) {i:Nat} (hi:i<w.2.2.1.length):NW w (qtN w i):=by
 have h1:=Twa h hi;exact h1.trans (O7a (h1.wo h) (by rw[h1.len];exact hi) Cy)
def O9a {w:Wld} (h:WO w):∀ n,n≤w.2.2.1.length→NW w (run qtN n w)
 |0,_=>NW.refl h
 |n+1,hn=>by
  have h1:=O9a h n (by omega);rw[Gt];exact h1.trans (Z1a (h1.wo h) (by rw[h1.len];omega))
def NW.sp {w v:Wld} (h:NW w v):v.2.2.2.2.2=w.2.2.2.2.2:=by obtain⟨ns,rfl,_⟩:=h;rfl
def Jja {w:Wld} (h:WO w):Tot (λ k=>Ah k w) (λ r=>r=Hv w):=by
 have hnl:=h.ns.1;unfold Ah;refine Arb Cxa ?_;rintro _ rfl;refine Arb (Q:=λ r=>r=Hv w) ?_ (by rintro r rfl;exact Aqb rfl);refine Azb (L:=λ k i (v:Wld)=>Bd k Cy (w.2.2.1.length:Int) i v) (Q:=λ r=>r=Hv w) w.2.2.1.length (λ j v=>v=run qtN j w) ?_ ?_ 0 w (Vw _) rfl
 ·rintro v rfl;simp (disch:=omega) only [Bd,dF];exact Aqb rfl
 ·rintro j v hj rfl next;rw[Gt]at next;have hn:=O9a h j (by omega);have hv:=hn.wo h;have hl:=hn.len;generalize run qtN j w=v at *
  have hj':j<v.2.2.1.length:=by omega
  have e0:v.2.2.1.getD j ((0:Int),(([],[]),([],[])))=v.2.2.1.getD j Ae:=rfl;simp (disch:=omega) only [Bd,dT,Vm,e0];refine Arb (Nna _ (hv.ns.get hj')) ?_;rintro _ rfl;have e1:∀ ns:List Nod,ns.getD j ((0:Int),(([],[]),([],[])))=ns.getD j Ae:=λ _=>rfl;have hsl:(v.2.2.1.set j (Toa (v.2.2.1.getD j Ae)).1).length=v.2.2.1.length:=Vu ..;have hA:=Hpa hv hj';have hAo:=hA.wo hv;have hAl:=hA.len;refine Aub (by rw[hsl];omega) ?_;show Tot (λ k=>(Ft k ((qtA v j).2.2.1.getD j Ae).2.1).bind λ r6=>(B1 k Cy (j:Int) (w.2.2.1.length:Int) (j:Int) r6 (length r6:Int) 0 (qtA v j)).bind _) _;have hg:=Caa (hAo.ns.get (i:=j) (by omega));refine Arb (Rja _ hg.1.1 hg.1.2) ?_;rintro _ rfl
  have hpl:(Mc ((qtA v j).2.2.1.getD j Ae).2.1).length≤2000000:=by
   have a:=Tna ((qtA v j).2.2.1.getD j Ae).2.1 ((qtA v j).2.2.1.getD j Ae).2.1.1 [];rw[Vs]at a;have:=hg.1.1.2.1;unfold Mc;omega
  have hP:=O8a hv hj';have hPo:=hP.wo hv;have hPl:=hP.len;refine Arb (Q:=λ r=>r=(Cy,(j:Int),(w.2.2.1.length:Int),(j:Int),qtP v j)) ?_ ?_
  ·have hfull:qtP v j=Jc (qtA v j) j (Mc ((qtA v j).2.2.1.getD j Ae).2.1):=rfl;rw[hfull];generalize Mc ((qtA v j).2.2.1.getD j Ae).2.1=l at *;refine Azb (L:=λ k i (u:Wld)=>B1 k Cy (j:Int) (w.2.2.1.length:Int) (j:Int) l (l.length:Int) i u) (Q:=λ r=>r=(Cy,(j:Int),(w.2.2.1.length:Int),(j:Int),Jc (qtA v j) j l)) l.length (λ i u=>u=Jc (qtA v j) j (l.take i)) ?_ ?_ 0 _ (Vw _) rfl
   ·rintro u rfl;simp (disch:=omega) only [B1,dF];exact Aqb (by rw[Zf])
   ·rintro i u hi rfl next;have hq:=Qq (i:=j) (l.take i) hAo (by omega);have hqo:=hq.wo hAo;have hql:=hq.len;have e2:l.getD i (⟨#[]⟩:ByteArray)=l.getD i Li:=rfl;simp (disch:=omega) only [B1,dT,Vm,w64,e2];refine Arb (Rua _ j _ Cy hqo.ring hqo.ns (by omega)) ?_;rintro _ rfl;refine next _ ?_;unfold Jc;rw[Wi hi,Bsb,Vb,Vg hi];rfl
  ·rintro _ rfl;simp (disch:=omega) only [dT,Vm,e1];have hT:=Twa hv hj';have hTo:=hT.wo hv;have hTl:=hT.len;have hq60:=(Bn.1 (hPo.ns.get (i:=j) (by omega)).1).2.2.2.2;refine Arb (Q:=λ r=>r=(Cy,(j:Int),(w.2.2.1.length:Int),(j:Int),qtT v j)) ?_ ?_
   ·have hfull:qtT v j=Iz (qtP v j) j ((qtP v j).2.2.1.getD j Ae).2.2.2.length:=rfl;rw[hfull];generalize ((qtP v j).2.2.1.getD j Ae).2.2.2.length=q at *;refine Azb (L:=λ k i (u:Wld)=>B4 k Cy (j:Int) (w.2.2.1.length:Int) (j:Int) (q:Int) i u) (Q:=λ r=>r=(Cy,(j:Int),(w.2.2.1.length:Int),(j:Int),Iz (qtP v j) j q)) q (λ i u=>u=Iz (qtP v j) j i) ?_ ?_ 0 _ (Vw _) rfl
    ·rintro u rfl;simp (disch:=omega) only [B4,dF];exact Aqb rfl
    ·rintro i u hi rfl next;have hq:=Lc hPo (i:=j) (by omega) i;have hqo:=hq.wo hPo;have hql:=hq.len;simp (disch:=omega) only [B4,dT,w64];refine Arb (Nza _ j Cy (M4 hqo.ring) hqo.ns (by omega)) ?_;rintro _ rfl;exact next _ rfl
   ·rintro _ rfl;refine Arb (Nya (qtT v j) j Cy (M4 hTo.ring) hTo.ns (by omega)) ?_;rintro _ rfl;simp (disch:=omega) only [w64];exact next _ rfl
def Hqa (w:Wld):Wld:=bif Nr w then Hv w else w
def Jka {m:Nat} {w:Wld} (h:WIm m w) (hm:m≤1999000):Tot (λ k=>Gw k w) (λ r=>r=Hqa w):=by
 have hw:=h.win (by omega);unfold Gw Hqa;refine Arb (Csa h (by omega)) ?_;rintro w rfl;refine Arb (Tr w hw) ?_;rintro b rfl
 cases hk:Nr w with
 |false=>exact Asb rfl (Aqb rfl)
 |true=>
  refine Atb rfl (Arb (Jja (h.wo hk)) ?_);rintro _ rfl;exact Aqb rfl

end Go.Proofs.Ytcpligincipmhaa.Vf
