import Derived.Test.YtiiekghlhfbmmaaGreatMao
set_option linter.all false
namespace Go.Proofs.YtiiekghlhfbmmaaGreat.Vf
open Go
open List (length getD)
open Int (toNat)
open Go.IntKind (wrap)
open BitVec (ofInt)
def Kxb:=@List.getElem_map

def Xi {a b c:Stp} (h1:sle a b=false) (h2:sle b c=false):sle a c=false:=by
 cases h:sle a c
 ·rfl
 have n1:¬ _:=λ k=>by rw[Om.2 k]at h1;cases h1
 have n2:¬ _:=λ k=>by rw[Om.2 k]at h2;cases h2
 have h3:=Om.1 h
 omega
def Ut {a b:Stp} (h:sle a b=true):sle b a=false:=by
 cases h':sle b a
 ·rfl
 have h1:=Om.1 h
 have h2:=Om.1 h'
 omega
def Fna (ws:List Wri):Prop:=∀ x∈ws,As x.1=true∧D9 x.2.1=true∧Ai x.2.1.2.2
def IsW (ws:List Wri) (s:ByteArray) (f:Fil):Prop:=∃ x∈ws,x.1=s∧x.2.1=f
def EO (ws:List Wri) (sp:List ByteArray) (s:ByteArray) (b:List Int):Prop:=∃ f,IsW ws s f∧(b=Kh f∨(s∈sp∧∃ n,n<8*(Kh f).length∧b=Mw (Kh f) n))
def ED (ws:List Wri) (sp:List ByteArray) (d:Dsk) (s:ByteArray):Prop:=
 (∀ b,gt d.1 s=some b→EO ws sp s b)∧(∀ b,gt d.2 s=some b→EO ws sp s b)∧
 (s∉sp→∀ b f,gt d.2 s=some b→Mz b=some f→∃ b' f',gt d.1 s=some b'∧Mz b'=some f'∧sle f'.1 f.1=false)
def DI (ws:List Wri) (sp:List ByteArray) (d:Dsk):Prop:=∀ s,ED ws sp d s
def HD (d:Dsk) (s:ByteArray) (st:Stp):Prop:=∃ b f,gt d.2 s=some b∧Mz b=some f∧sle f.1 st=false
def MO (sp:List ByteArray) (d d':Dsk):Prop:=∀ s,s∉sp→∀ st,HD d s st→HD d' s st
def IsW.good {ws:List Wri} (hw:Fna ws) {s:ByteArray} {f:Fil} (h:IsW ws s f):As s=true∧D9 f=true∧Ai f.2.2:=by
 obtain⟨x,hx,rfl,rfl⟩:=h
 exact hw x hx
def EO.get {ws:List Wri} {sp:List ByteArray} (hw:Fna ws) {s:ByteArray} {b:List Int} (h:EO ws sp s b) {f:Fil} (hf:Mz b=some f):IsW ws s f∧b=Kh f:=by
 obtain⟨g,h1,h2⟩:=h
 obtain⟨_,g2,g3⟩:=h1.good hw
 rcases h2 with rfl|⟨_,n,hn,rfl⟩
 ·rw[Si g2 g3]at hf
  cases hf
  exact⟨h1,rfl⟩
 ·rw[Yoa g2 hn]at hf;cases hf
def EO.fine {ws:List Wri} {sp:List ByteArray} (hw:Fna ws) {s:ByteArray} {b:List Int} (h:EO ws sp s b) (hs:s∉sp):∃ f,Mz b=some f∧IsW ws s f:=by
 obtain⟨g,h1,h2⟩:=h
 obtain⟨_,g2,g3⟩:=h1.good hw
 rcases h2 with rfl|⟨h,_⟩
 ·exact⟨g,Si g2 g3,h1⟩
 ·exact absurd h hs
def EO.mono {ws ws':List Wri} {sp sp':List ByteArray} (h1:∀ x∈ws,x∈ws') (h2:∀ s∈sp,s∈sp') {s:ByteArray} {b:List Int} (h:EO ws sp s b):EO ws' sp' s b:=by
 obtain⟨g,⟨x,hx,e⟩,h3⟩:=h
 refine⟨g,⟨x,h1 x hx,e⟩,?_⟩
 rcases h3 with h3|⟨h3,h4⟩
 ·exact .inl h3
 ·exact .inr ⟨h2 s h3,h4⟩
def ED.mono {ws ws':List Wri} {sp sp':List ByteArray} (h1:∀ x∈ws,x∈ws') (h2:∀ s∈sp,s∈sp') {d:Dsk} {s:ByteArray} (h:ED ws sp d s):ED ws' sp' d s:=
 ⟨λ b hb=>(h.1 b hb).mono h1 h2,λ b hb=>(h.2.1 b hb).mono h1 h2,λ hs=>h.2.2 (λ c=>hs (h2 s c))⟩
def DI.mono {ws ws':List Wri} {sp sp':List ByteArray} (h1:∀ x∈ws,x∈ws') (h2:∀ s∈sp,s∈sp') {d:Dsk} (h:DI ws sp d):DI ws' sp' d:=λ s=>(h s).mono h1 h2
def ED.same {ws:List Wri} {sp:List ByteArray} {d d':Dsk} {s:ByteArray} (h:ED ws sp d s) (e1:gt d'.1 s=gt d.1 s) (e2:gt d'.2 s=gt d.2 s):ED ws sp d' s:=by
 unfold ED
 rw[e1,e2]
 exact h
def HD.same {d d':Dsk} {s:ByteArray} {st:Stp} (h:HD d s st) (e2:gt d'.2 s=gt d.2 s):HD d' s st:=by
 unfold HD
 rw[e2]
 exact h
def MO.refl (sp:List ByteArray) (d:Dsk):MO sp d d:=λ _ _ _ h=>h
def MO.trans {sp:List ByteArray} {a b c:Dsk} (h1:MO sp a b) (h2:MO sp b c):MO sp a c:=λ s hs st h=>h2 s hs st (h1 s hs st h)
section
variable {ws:List Wri} {sp:List ByteArray} {d:Dsk} {s:ByteArray}
def ED.now (hw:Fna ws) (h:ED ws sp d s) {f:Fil} (ho:old d s=some f):IsW ws s f:=by
 unfold old at ho
 cases hg:gt d.1 s with
 |none=>rw[hg]at ho;cases ho
 |some b=>rw[hg]at ho;exact((h.1 b hg).get hw ho).1
def ED.ge (h:ED ws sp d s) (hs:s∉sp) {st:Stp} (hh:HD d s st):∃ b f,gt d.1 s=some b∧Mz b=some f∧sle f.1 st=false:=by
 obtain⟨b,f,h1,h2,h3⟩:=hh
 obtain⟨b',f',h4,h5,h6⟩:=h.2.2 hs b f h1 h2
 exact⟨b',f',h4,h5,Xi h6 h3⟩
def Dgb (hd:Al d=true) (h:DI ws sp d):DI ws sp (d.1,sy d s):=by
 intro t
 by_cases ht:s=t
 ·subst ht
  have e:gt (sy d s) s=gt d.1 s:=by rw[L0a hd,if_pos rfl]
  refine⟨(h s).1,λ b hb=>(h s).1 b (by rw[← e];exact hb),λ hs b f hb hf=>⟨b,f,by rw[← e];exact hb,hf,Jt _⟩⟩
 ·exact(h t).same rfl (by show gt (sy d s) t=_;rw[L0a hd,if_neg ht])
def Gfb (hd:Al d=true) (h:DI ws sp d):MO sp d (d.1,sy d s):=by
 intro t ht st hh
 by_cases hst:s=t
 ·subst hst
  obtain⟨b,f,h1,h2,h3⟩:=(h s).ge ht hh
  exact⟨b,f,by show gt (sy d s) s=_;rw[L0a hd,if_pos rfl,h1],h2,h3⟩
 ·exact hh.same (by show gt (sy d s) t=_;rw[L0a hd,if_neg hst])
def Htb (hw:Fna ws) (hd:Al d=true) (h:DI ws sp d) {f:Fil} (hf:IsW ws s f) (hn:∀ o,old d s=some o→sle o.1 f.1=true):DI ws sp (wr d.1 s (Kh f),d.2):=by
 intro t
 by_cases ht:s=t
 ·subst ht
  have e:gt (wr d.1 s (Kh f)) s=some (Kh f):=by rw[C6a (Kk hd),if_pos rfl]
  obtain⟨_,g2,g3⟩:=hf.good hw
  refine⟨λ b hb=>?_,(h s).2.1,λ hs b g hb hg=>⟨Kh f,f,e,Si g2 g3,?_⟩⟩
  ·rw[show gt (wr d.1 s (Kh f)) s=some b from hb]at e
   cases e
   exact⟨f,hf,.inl rfl⟩
  ·obtain⟨b',f',k1,k2,k3⟩:=(h s).2.2 hs b g hb hg
   have:=hn f' (by unfold old;rw[k1];exact k2)
   exact Xi (Ut this) k3
 ·exact(h t).same (by show gt (wr d.1 s (Kh f)) t=_;rw[C6a (Kk hd),if_neg ht]) rfl
def Lba (hw:Fna ws) (hd:DG d) (h:DI ws sp d) {f:Fil} {sure:Bool} (hf:IsW ws s f):DI ws sp (keep d s f sure).1∧MO sp d (keep d s f sure).1:=by
 obtain⟨g1,g2,g3⟩:=hf.good hw
 rw[Uo hd.1 g1 g2]
 rcases Px (f:=f) (sure:=sure) hd g1 with k|⟨o,_,_,k,hg,h3⟩|⟨h1,h2,k,hg,h3⟩
 ·rw[k];exact⟨h,MO.refl _ _⟩
 ·rcases h3 with⟨_,h3⟩|⟨_,h3⟩
  ·rw[h3];exact⟨h,MO.refl _ _⟩
  ·rw[h3];exact⟨Dgb hd.1 h,Gfb hd.1 h⟩
 ·have hw':=Htb hw hd.1 h hf h1
  rcases h3 with⟨_,h3⟩|⟨_,h3⟩
  ·rw[h3];exact⟨hw',λ t _ st hh=>hh.same rfl⟩
  ·rw[h3];exact⟨Dgb h2.1 hw',(show MO sp d (wr d.1 s (Kh f),d.2) from λ t _ st hh=>hh.same rfl).trans (Gfb h2.1 hw')⟩
def Vaa (hw:Fna ws) (hd:DG d) {f:Fil} (hf:IsW ws s f) (hc:(keep d s f true).2=0∨(keep d s f true).2=1):HD (keep d s f true).1 s f.1:=by
 obtain⟨g1,g2,g3⟩:=hf.good hw
 rw[Uo hd.1 g1 g2]at hc ⊢
 obtain⟨o,g,b,ho,_,e,h1,h2,h3⟩:=U9a hd g1 g2 g3 hc
 rw[e]
 exact⟨b,g,by show gt (sy o s) s=_;rw[L0a ho.1,if_pos rfl,h1],h2,h3⟩
def Dhb (hd:DG d) (h:DI ws sp d) (kp:List Bool):DI ws sp (Tl d kp):=by
 intro t
 rcases Ura (d:=d) (kp:=kp) t with e|⟨e1,e2⟩
 ·rw[e];exact h t
 ·unfold ED
  rw[e1]
  have eo:∀ b,gt (Tl d kp).1 t=some b→EO ws sp t b:=by
   intro b hb
   rcases e2 with e2|e2
   ·exact(h t).1 b (by rw[← e2];exact hb)
   ·exact(h t).2.1 b (by rw[← e2];exact hb)
  exact⟨eo,eo,λ _ b f hb hf=>⟨b,f,hb,hf,Jt _⟩⟩
def Dib (hd:DG d) (h:DI ws sp d) (kp:List Bool):MO sp d (Tl d kp):=by
 intro t ht st hh
 rcases Ura (d:=d) (kp:=kp) t with e|⟨e1,e2⟩
 ·rw[e];exact hh
 ·unfold HD
  rw[e1]
  rcases e2 with e2|e2
  ·rw[e2];exact(h t).ge ht hh
  ·rw[e2];exact hh
def Oaa (hw:Fna ws) (hd:DG d) (h:DI ws sp d):DI ws sp (Nk d).1∧MO sp d (Nk d).1:=by
 obtain⟨_,hc⟩:=Tm d.1 (d,0) hd
 have hc':∀ t,(t∈F9a d.1→gt (Nk d).1.1 t=none∧gt (Nk d).1.2 t=none)∧(t∉F9a d.1→gt (Nk d).1.1 t=gt d.1 t∧gt (Nk d).1.2 t=gt d.2 t):=hc
 have hb:∀ t,t∈F9a d.1→t∈sp:=by
  intro t ht
  obtain⟨b,h1,h2⟩:=(O3a hd.1).1 ht
  by_cases hs:t∈sp
  ·exact hs
  ·obtain⟨f,hf,_⟩:=((h t).1 b h1).fine hw hs
   rw[hf]at h2;cases h2
 constructor
 ·intro t
  by_cases ht:t∈F9a d.1
  ·obtain⟨e1,e2⟩:=(hc' t).1 ht
   unfold ED
   rw[e1,e2]
   exact⟨λ b hb=>(by cases hb),λ b hb=>(by cases hb),λ _ b f hb=>(by cases hb)⟩
  ·obtain⟨e1,e2⟩:=(hc' t).2 ht
   exact(h t).same e1 e2
 ·intro t ht st hh
  exact hh.same ((hc' t).2 (λ c=>ht (hb t c))).2
def Ggb (hd:DG d) (h:DI ws sp d) (hs:As s=true):DI ws sp (syD (rmD d s).1 s).1∧∀ t,t≠s→∀ st,HD d t st→HD (syD (rmD d s).1 s).1 t st:=by
 have hr:DI ws sp (rmD d s).1∨True := .inr trivial
 unfold rmD
 cases hg:gt d.1 s with
 |none=>
  have e:(bif (none:Option (List Int)).isSome then ((cut d.1 s,d.2),true) else (d,false)).1=d:=rfl
  rw[e]
  unfold syD
  by_cases hl:(sy d s).length≤60
  ·rw[decide_eq_true hl]
   exact⟨Dgb hd.1 h,λ t ht st hh=>hh.same (by show gt (sy d s) t=_;rw[L0a hd.1,if_neg (K3b ht)])⟩
  ·rw[decide_eq_false hl];exact⟨h,λ t ht st hh=>hh⟩
 |some b=>
  have e:(bif (some b:Option (List Int)).isSome then ((cut d.1 s,d.2),true) else (d,false)).1=(cut d.1 s,d.2):=rfl
  rw[e]
  have hd':Al (cut d.1 s,d.2)=true:=Df.2 ⟨Xb (Df.1 hd.1).1,(Df.1 hd.1).2⟩
  have e1:∀ t,gt (cut d.1 s) t=if s=t then none else gt d.1 t:=λ t=>Sy (Kk hd.1)
  have e2:∀ t,gt (sy (cut d.1 s,d.2) s) t=if s=t then none else gt d.2 t:=λ t=>by
   rw[L0a hd']
   by_cases hst:s=t
   ·rw[if_pos hst,if_pos hst];show gt (cut d.1 s) s=none;rw[e1,if_pos rfl]
   ·rw[if_neg hst,if_neg hst]
  have hlen:(sy (cut d.1 s,d.2) s).length≤60:=by
   have:sy (cut d.1 s,d.2) s=cut d.2 s:=by
    unfold sy
    have:=e1 s
    rw[if_pos rfl]at this
    rw[show gt (cut d.1 s,d.2).1 s=none from this]
   rw[this]
   exact Zv Nc.length_le (Aj.1 (Df.1 hd.1).2).2.2
  unfold syD
  rw[decide_eq_true hlen]
  constructor
  ·intro t
   show ED ws sp (cut d.1 s,sy (cut d.1 s,d.2) s) t
   by_cases hst:s=t
   ·unfold ED
    dsimp only
    rw[e1,e2,if_pos hst,if_pos hst]
    exact⟨λ b hb=>(by cases hb),λ b hb=>(by cases hb),λ _ b f hb=>(by cases hb)⟩
   ·exact(h t).same (by show gt (cut d.1 s) t=_;rw[e1,if_neg hst]) (by show gt (sy (cut d.1 s,d.2) s) t=_;rw[e2,if_neg hst])
  ·intro t ht st hh
   exact hh.same (by show gt (sy (cut d.1 s,d.2) s) t=_;rw[e2,if_neg (K3b ht)])
def Ghb (hw:Fna ws) (hd:DG d) (h:DI ws sp d) {n:Int} (hl:(lkD d s).2=0) (hr:(F0a d s n).2=true) (sp':List ByteArray) (hsp:∀ t,t∈sp'↔t=s∨t∈sp):DI ws sp' (F0a d s n).1∧MO sp' d (F0a d s n).1∧∃ f,IsW ws s f:=by
 obtain⟨b,hb,hf⟩:=Ot.1 (show lkD d s=((lkD d s).1,0) by rw[← hl])
 obtain⟨hW,e⟩:=((h s).1 b hb).get hw hf
 have hsub:∀ t∈sp,t∈sp':=λ t ht=>(hsp t).2 (.inr ht)
 generalize (lkD d s).1=f at *
 unfold F0a at hr ⊢
 rw[hb]at hr ⊢
 dsimp only at hr ⊢
 cases hin:inR n 0 (8*(b.length:Int)-1)
 ·rw[hin]at hr;cases hr
 rw[cond_true]
 obtain⟨n0,n1⟩:=Co.1 hin
 have hn:n.toNat<8*(Kh f).length:=by rw[← e];omega
 have e1:∀ t,gt (wr d.1 s (Mw b n.toNat)) t=if s=t then some (Mw b n.toNat) else gt d.1 t:=λ t=>C6a (Kk hd.1)
 have e2:∀ t,gt (bif decide (gt d.2 s=some b) then wr d.2 s (Mw b n.toNat) else d.2) t=if s=t∧gt d.2 s=some b then some (Mw b n.toNat) else gt d.2 t:=by
  intro t
  by_cases hg:gt d.2 s=some b
  ·rw[decide_eq_true hg,cond_true,C6a (Oq hd.1)]
   by_cases hst:s=t
   ·rw[if_pos hst,if_pos ⟨hst,hg⟩]
   ·rw[if_neg hst,if_neg (λ c=>hst c.1)]
  ·rw[decide_eq_false hg,cond_false,if_neg (λ c=>hg c.2)]
 have hflip:EO ws sp' s (Mw b n.toNat):=⟨f,hW,.inr ⟨(hsp s).2 (.inl rfl),n.toNat,hn,by rw[e]⟩⟩
 refine⟨λ t=>?_,λ t ht st hh=>?_,f,hW⟩
 ·by_cases hst:s=t
  ·subst hst
   refine⟨λ x hx=>?_,λ x hx=>?_,λ c=>absurd ((hsp s).2 (.inl rfl)) c⟩
   ·have:=e1 s
    rw[if_pos rfl]at this
    rw[show gt (wr d.1 s (Mw b n.toNat)) s=some x from hx]at this
    cases this
    exact hflip
   ·have:=e2 s
    rw[show gt (bif decide (gt d.2 s=some b) then wr d.2 s (Mw b n.toNat) else d.2) s=some x from hx]at this
    by_cases hg:gt d.2 s=some b
    ·rw[if_pos ⟨rfl,hg⟩]at this
     cases this
     exact hflip
    ·rw[if_neg (λ c=>hg c.2)]at this
     exact((h s).2.1 x this.symm).mono (λ _ h=>h) hsub
  ·refine((h t).mono (λ _ h=>h) hsub).same ?_ ?_
   ·show gt (wr d.1 s (Mw b n.toNat)) t=_
    rw[e1,if_neg hst]
   ·show gt (bif decide (gt d.2 s=some b) then wr d.2 s (Mw b n.toNat) else d.2) t=_
    rw[e2,if_neg (λ c=>hst c.1)]
 ·have hst:s≠t:=λ c=>ht ((hsp t).2 (.inl c.symm))
  exact hh.same (by show gt (bif decide (gt d.2 s=some b) then wr d.2 s (Mw b n.toNat) else d.2) t=_;rw[e2,if_neg (λ c=>hst c.1)])
end

def NI (ws:List Wri) (sp:List ByteArray) (n:Nod):Prop:=NG n∧DI ws sp n.2.1∧(∀ r∈n.2.2.1,Us ws r=true)∧∀ r∈n.2.2.2,Us ws r=true
def KN (ns:List Nod) (s:ByteArray) (st:Stp):Prop:=∃ i,i<ns.length∧HD (ns.getD i Ae).2.1 s st
def MS (sp:List ByteArray) (ns ns':List Nod):Prop:=∀ s,s∉sp→∀ st,KN ns s st→KN ns' s st
def Rw {ws:List Wri} {r:Row}:Us ws r=true↔∃ x∈ws,B7a x.1 x.2.1=r:=by
 unfold Us
 rw[Jeb]
 exact⟨λ ⟨x,h1,h2⟩=>⟨x,h1,Ima.1 h2⟩,λ ⟨x,h1,h2⟩=>⟨x,h1,Ima.2 h2⟩⟩
def Dka {ws ws':List Wri} (h:∀ x∈ws,x∈ws') {r:Row} (hr:Us ws r=true):Us ws' r=true:=by
 obtain⟨x,h1,h2⟩:=Rw.1 hr
 exact Rw.2 ⟨x,h x h1,h2⟩
def Z3a {ws:List Wri} {s:ByteArray} {f:Fil} (h:IsW ws s f):Us ws (B7a s f)=true:=by
 obtain⟨x,h1,rfl,rfl⟩:=h
 exact Rw.2 ⟨x,h1,rfl⟩
def NI.mono {ws ws':List Wri} {sp sp':List ByteArray} (h1:∀ x∈ws,x∈ws') (h2:∀ s∈sp,s∈sp') {n:Nod} (h:NI ws sp n):NI ws' sp' n:=
 ⟨h.1,h.2.1.mono h1 h2,λ r hr=>Dka h1 (h.2.2.1 r hr),λ r hr=>Dka h1 (h.2.2.2 r hr)⟩
def NR (ws:List Wri) (sp:List ByteArray) (ns ns':List Nod):Prop:=(∀ n∈ns',NI ws sp n)∧ns'.map (·.1)=ns.map (·.1)∧MS sp ns ns'
def NR.refl {ws:List Wri} {sp:List ByteArray} {ns:List Nod} (h:∀ n∈ns,NI ws sp n):NR ws sp ns ns:=⟨h,rfl,λ _ _ _ h=>h⟩
def NR.len {ws:List Wri} {sp:List ByteArray} {ns ns':List Nod} (h:NR ws sp ns ns'):ns'.length=ns.length:=by
 have:=congrArg length h.2.1
 rwa [Wc,Wc]at this
def Hs {α:Type} {l:List α} {i j:Nat} {x d:α} (hj:j<l.length):(l.set i x).getD j d=if i=j then x else l.getD j d:=by
 rw[Vb,List.getElem?_set]
 by_cases h:i=j
 ·subst h
  rw[if_pos rfl,if_pos rfl,if_pos hj]
  rfl
 ·rw[if_neg h,if_neg h,Vb]
def Lca {ns:List Nod} {i:Nat} {n:Nod} (hi:i<ns.length) (h:n.1=(ns.getD i Ae).1):(ns.set i n).map (·.1)=ns.map (·.1):=by
 refine Lpb (by simp) (λ j h1 h2=>?_)
 rw[Wc,Vy]at h1
 rw[Kxb,Kxb,Lqb]
 by_cases hij:i=j
 ·subst hij
  rw[if_pos rfl,h,Vb,Vk hi]
  rfl
 ·rw[if_neg hij]
def NR.set {ws:List Wri} {sp:List ByteArray} {ns ns':List Nod} (h:NR ws sp ns ns') {i:Nat} (hi:i<ns'.length) {n:Nod} (h1:NI ws sp n) (h2:n.1=(ns'.getD i Ae).1) (h3:MO sp (ns'.getD i Ae).2.1 n.2.1):NR ws sp ns (ns'.set i n):=by
 obtain⟨g1,g2,g3⟩:=h
 refine⟨λ m hm=>?_,by rw[Lca hi h2,g2],λ s hs st hk=>?_⟩
 ·rcases Xs hm with hm|rfl
  ·exact g1 m hm
  ·exact h1
 ·obtain⟨j,hj,hd⟩:=g3 s hs st hk
  refine⟨j,by rw[Vy];exact hj,?_⟩
  rw[Hs hj]
  by_cases hij:i=j
  ·subst hij;rw[if_pos rfl];exact h3 s hs st hd
  ·rw[if_neg hij];exact hd
section
variable {ws:List Wri} {sp:List ByteArray} {n:Nod} {s:ByteArray} {f:Fil}
def Djb (hw:Fna ws) (h:NI ws sp n) (hf:IsW ws s f) (sure:Bool):NI ws sp (Wu n s f sure).1∧(Wu n s f sure).1.1=n.1∧MO sp n.2.1 (Wu n s f sure).1.2.1:=by
 obtain⟨g1,g2,g3⟩:=hf.good hw
 obtain⟨h1,h2,h3,h4⟩:=h
 have hg:=Npa (sure:=sure) h1 g1 g2
 obtain⟨k1,k2⟩:=Lba (sure:=sure) hw h1.g h2 hf
 unfold Wu at hg ⊢
 cases hq:(n.2.2.2.length:Int)==60
 case true=>exact⟨⟨h1,h2,h3,h4⟩,rfl,MO.refl _ _⟩
 rw[hq]at hg
 refine⟨⟨hg,k1,h3,?_⟩,rfl,k2⟩
 show ∀ r∈bif (keep n.2.1 s f sure).2==0&&sure then n.2.2.2++[B7a s f] else n.2.2.2,Us ws r=true
 cases (keep n.2.1 s f sure).2==0&&sure
 ·exact h4
 intro r hr
 rcases Vo.1 hr with hr|hr
 ·exact h4 r hr
 ·rw[Vt.1 hr];exact Z3a hf
def Dkb (hw:Fna ws) (h:NI ws sp n) (hf:IsW ws s f) (hc:(Wu n s f true).2=0∨(Wu n s f true).2=1):HD (Wu n s f true).1.2.1 s f.1:=by
 unfold Wu at hc ⊢
 cases hq:((n.2.2.2.length:Int)==60) with
 |true=>rw[hq]at hc;rcases hc with hc|hc<;>cases hc
 |false=>rw[hq]at hc;exact Vaa hw h.1.g hf hc
def Gib (h:NI ws sp n) {l:List Row} (hl:Jq l=true) (hr:∀ r∈l,Us ws r=true):NI ws sp (tk n l).2∧(tk n l).2.1=n.1∧(tk n l).2.2.1=n.2.1:=by
 obtain⟨h1,h2,h3,h4⟩:=h
 have hg:=Hsb h1 hl
 unfold tk at hg ⊢
 cases hq:decide ((O9 n.2.2.1 l).length > 60)
 case true=>exact⟨⟨h1,h2,h3,h4⟩,rfl,rfl⟩
 rw[hq]at hg
 exact⟨⟨hg,h2,λ r hr'=>(Eqa hr').elim (h3 r) (hr r),h4⟩,rfl,rfl⟩
end
def Gjb {ws:List Wri} {sp:List ByteArray} {ns:List Nod} {R:Int} {rc:List Int} {s:ByteArray} {f:Fil} {cs:List Int} {a:List Nod×Int×Int} {j:Nat} (hw:Fna ws) (hf:IsW ws s f)
  (h:NR ws sp ns a.1∧(s∉sp→a.2.2≥1→KN a.1 s f.1)∧a.2.2≥0) (hc:(cs.getD j 0).toNat<ns.length):
  NR ws sp ns (wst R rc s f cs a j).1∧(s∉sp→(wst R rc s f cs a j).2.2≥1→KN (wst R rc s f cs a j).1 s f.1)∧(wst R rc s f cs a j).2.2≥0:=by
 obtain⟨h1,h2,h3⟩:=h
 unfold wst
 cases decide (a.2.1<R)
 ·exact⟨h1,h2,h3⟩
 cases rch rc j==0
 case true=>exact⟨h1,h2,h3⟩
 rw[cond_true,cond_false]
 have hi:(cs.getD j 0).toNat<a.1.length:=by rw[h1.len];exact hc
 generalize (cs.getD j 0).toNat=i at *
 have hn:=h1.1 _ (A4 (d:=Ae) hi)
 obtain⟨p1,p2,p3⟩:=Djb hw hn hf (rch rc j != 3)
 refine⟨h1.set hi p1 p2 p3,λ hs hg=>?_,?_⟩
 ·cases hr:rch rc j==1&&((Wu (a.1.getD i Ae) s f (rch rc j != 3)).2==0||(Wu (a.1.getD i Ae) s f (rch rc j != 3)).2==1) with
  |true=>
   rw[Va,J2b,beq_iff_eq,beq_iff_eq,beq_iff_eq]at hr
   have e:(rch rc j != 3)=true:=by rw[hr.1];rfl
   rw[e]at hr ⊢
   refine⟨i,by rw[Vy];exact hi,?_⟩
   rw[Hs hi,if_pos rfl]
   exact Dkb hw hn hf hr.2
  |false=>
   rw[hr]at hg
   obtain⟨m,hm,hd⟩:=h2 hs hg
   refine⟨m,by rw[Vy];exact hm,?_⟩
   rw[Hs hm]
   by_cases hij:i=m
   ·subst hij;rw[if_pos rfl];exact p3 s hs _ hd
   ·rw[if_neg hij];exact hd
 ·dsimp only
  cases rch rc j==1&&((Wu (a.1.getD i Ae) s f (rch rc j != 3)).2==0||(Wu (a.1.getD i Ae) s f (rch rc j != 3)).2==1)
  ·exact h3
  ·rw[cond_true];omega
def Gkb {ws:List Wri} {sp:List ByteArray} {w:Wld} {rc:List Int} {s:ByteArray} {f:Fil} (hw:Fna ws) (hf:IsW ws s f) (hn:∀ n∈w.2.2.1,NI ws sp n):
  NR ws sp w.2.2.1 (wrN w s f rc).1∧(s∉sp→(wrN w s f rc).2.2≥1→KN (wrN w s f rc).1 s f.1)∧(wrN w s f rc).2.2≥0:=
 Mo (λ _ (a:List Nod×Int×Int)=>NR ws sp w.2.2.1 a.1∧(s∉sp→a.2.2≥1→KN a.1 s f.1)∧a.2.2≥0) ⟨NR.refl hn,λ _ h=>absurd h (show ¬ (0:Int)≥1 by omega),J3b _⟩
  (λ j b hj hb=>Gjb hw hf hb (by have:=Tn (A4 (d:=0) hj);omega))
def Glb {ws:List Wri} {sp:List ByteArray} {ns:List Nod} {rc:List Int} {s:ByteArray} {f:Fil} {ps:List Int} {a:List Nod×Bool×Bool} {src j:Nat} (hw:Fna ws) (hf:IsW ws s f) (hsrc:src<ns.length)
  (h:NR ws sp ns a.1∧(a.2.1=false→a.1.getD src Ae=ns.getD src Ae∧(a.2.2=true→0<j→∃ i,i≠src∧i<ns.length∧HD (a.1.getD i Ae).2.1 s f.1))) (hc:(ps.getD j 0).toNat<ns.length) (hc0:0≤ps.getD j 0):
  NR ws sp ns (pst (src:Int) s f rc ps a j).1∧((pst (src:Int) s f rc ps a j).2.1=false→(pst (src:Int) s f rc ps a j).1.getD src Ae=ns.getD src Ae∧((pst (src:Int) s f rc ps a j).2.2=true→0<j+1→∃ i,i≠src∧i<ns.length∧HD ((pst (src:Int) s f rc ps a j).1.getD i Ae).2.1 s f.1)):=by
 obtain⟨h1,h2⟩:=h
 unfold pst
 cases hz:ps.getD j 0==(src:Int)
 case true=>exact⟨h1,λ c=>by cases c⟩
 have hne:(ps.getD j 0).toNat≠src:=by
  have:=beq_eq_false_iff_ne.1 hz
  omega
 cases hr:rch rc j != 1
 case true=>exact⟨h1,λ c=>⟨(h2 c).1,λ c'=>by cases c'⟩⟩
 rw[cond_false,cond_false]
 have hi:(ps.getD j 0).toNat<a.1.length:=by rw[h1.len];exact hc
 generalize (ps.getD j 0).toNat=i at *
 have hn:=h1.1 _ (A4 (d:=Ae) hi)
 obtain⟨k1,k2⟩:=Lba (sure:=true) hw hn.1.g hn.2.1 hf
 refine⟨h1.set hi ⟨Bka hn.1,k1,hn.2.2⟩ rfl k2,λ c=>⟨?_,λ c' _=>?_⟩⟩
 ·show (a.1.set i _).getD src Ae=_
  rw[Hs (by rw[h1.len];exact hsrc),if_neg hne]
  exact(h2 c).1
 ·refine⟨i,hne,hc,?_⟩
  show HD ((a.1.set i _).getD i Ae).2.1 s f.1
  rw[Hs hi,if_pos rfl]
  refine Vaa hw hn.1.g hf ?_
  cases hk:(keep (a.1.getD i Ae).2.1 s f true).2 != 0&&(keep (a.1.getD i Ae).2.1 s f true).2 != 1 with
  |true=>
   have:(bif (keep (a.1.getD i Ae).2.1 s f true).2 != 0&&(keep (a.1.getD i Ae).2.1 s f true).2 != 1 then false else a.2.2)=true:=c'
   rw[hk]at this
   cases this
  |false=>
   rw[Lub,bne,bne,Wj,Wj,beq_iff_eq,beq_iff_eq]at hk
   exact hk
def Gmb {ws:List Wri} {sp:List ByteArray} {w:Wld} {rc:List Int} {s:ByteArray} {i:Nat} (hw:Fna ws) (hn:∀ n∈w.2.2.1,NI ws sp n) (hi:i<w.2.2.1.length) (hf:IsW ws s (lkD (w.2.2.1.getD i Ae).2.1 s).1):
  NR ws sp w.2.2.1 (puN w i s rc).1∧((puN w i s rc).2.1=false→(puN w i s rc).1.getD i Ae=w.2.2.1.getD i Ae∧((puN w i s rc).2.2=true→0<(Mp w s).length→∃ j,j≠i∧j<w.2.2.1.length∧HD ((puN w i s rc).1.getD j Ae).2.1 s (lkD (w.2.2.1.getD i Ae).2.1 s).1.1)):=
 Mo (λ n (a:List Nod×Bool×Bool)=>NR ws sp w.2.2.1 a.1∧(a.2.1=false→a.1.getD i Ae=w.2.2.1.getD i Ae∧(a.2.2=true→0<n→∃ j,j≠i∧j<w.2.2.1.length∧HD (a.1.getD j Ae).2.1 s (lkD (w.2.2.1.getD i Ae).2.1 s).1.1))) ⟨NR.refl hn,λ _=>⟨rfl,λ _ c=>absurd c (Nat.lt_irrefl _)⟩⟩
  (λ j b hj hb=>Glb hw hf hi hb (by have:=P8 (A4 (d:=0) hj);omega) (P8 (A4 (d:=0) hj)).1)
def Vba {w:Wld} {s:ByteArray} (hr:Il w.2.1 w.1=true) (hid:w.2.2.1.map (·.1)=w.1.map (·.1)):0<(Mp w s).length:=by
 obtain⟨_,p2,p3⟩:=Bea hr s
 have h5:=(Cb.1 hr).2.1
 obtain⟨id,hidm⟩:=Kub (l:=Sp w.2.1 s) (by omega)
 have:=Ru.1 (p3 id hidm)
 rw[← hid]at this
 obtain⟨n,hn,rfl⟩:=Yw.1 this
 obtain⟨j,hj,rfl⟩:=Zd.1 hn
 have hm:(j:Int)∈Mp w s:=Wz.2 ⟨j,hj,by rw[Vb,Vk hj];exact hidm,rfl⟩
 exact Jab hm
def Foa {ws:List Wri} {sp:List ByteArray} {w:Wld} {rc:List Int} {s:ByteArray} {i:Nat} (hw:Fna ws) (hn:∀ n∈w.2.2.1,NI ws sp n) (hi:i<w.2.2.1.length) (hr:Il w.2.1 w.1=true) (hid:w.2.2.1.map (·.1)=w.1.map (·.1)):
  ∃ ns,(Lu w i s rc).2=wN w ns∧NR ws sp w.2.2.1 ns:=by
 have hni:=hn _ (A4 (d:=Ae) hi)
 unfold Lu
 cases hl:(lkD (w.2.2.1.getD i Ae).2.1 s).2 != 0
 case true=>exact⟨w.2.2.1,rfl,NR.refl hn⟩
 rw[bne,Wj,beq_iff_eq]at hl
 obtain⟨b,hb,hg⟩:=Ot.1 (show lkD (w.2.2.1.getD i Ae).2.1 s=((lkD (w.2.2.1.getD i Ae).2.1 s).1,0) from by rw[← hl])
 have hf:IsW ws s (lkD (w.2.2.1.getD i Ae).2.1 s).1:=(((hni.2.1 s).1 b hb).get hw hg).1
 obtain⟨h1,h2⟩:=Gmb (rc:=rc) hw hn hi hf
 refine⟨_,rfl,?_⟩
 cases hc:(puN w i s rc).2.2&&!(puN w i s rc).2.1
 ·exact h1
 rw[Va,Vx]at hc
 obtain⟨h3,h4⟩:=h2 hc.2
 obtain⟨j,hj,hjl,hd⟩:=h4 hc.1 (Vba hr hid)
 rw[cond_true,h3]
 obtain⟨g1,_,_⟩:=hf.good hw
 have hi':i<(puN w i s rc).1.length:=by rw[h1.len];exact hi
 obtain⟨o1,o2⟩:=Ggb (s:=s) hni.1.g hni.2.1 g1
 refine⟨λ m hm=>?_,by rw[Lca hi' (by rw[h3];rfl),h1.2.1],λ t ht st hk=>?_⟩
 ·rcases Xs hm with hm|rfl
  ·exact h1.1 m hm
  ·exact⟨Asb hni.1 g1,o1,hni.2.2⟩
 ·obtain⟨m,hm,hh⟩:=h1.2.2 t ht st hk
  by_cases hmi:m=i
  ·subst hmi
   rw[h3]at hh
   by_cases hts:t=s
   ·subst hts
    obtain⟨b',f',e1,e2,e3⟩:=(hni.2.1 t).ge ht hh
    rw[hb]at e1
    cases e1
    rw[hg]at e2
    cases e2
    obtain⟨c,g,k1,k2,k3⟩:=hd
    refine⟨j,by rw[Vy,h1.len];exact hjl,?_⟩
    rw[Hs (by rw[h1.len];exact hjl),if_neg (K3b hj)]
    exact⟨c,g,k1,k2,Xi k3 e3⟩
   ·refine⟨m,by rw[Vy];exact hm,?_⟩
    rw[Hs hm,if_pos rfl]
    exact o2 t hts st hh
  ·refine⟨m,by rw[Vy];exact hm,?_⟩
   rw[Hs hm,if_neg (K3b hmi)]
   exact hh
def Fpa {ws:List Wri} {sp:List ByteArray} {w:Wld} {src:Int} {l:List Row} {self:Bool} {rc:List Int} (hn:∀ n∈w.2.2.1,NI ws sp n) (hl:Jq l=true) (hr:∀ r∈l,Us ws r=true):NR ws sp w.2.2.1 (Ns w src l self rc).1:=by
 refine Mo (λ _ (a:List Nod×Bool)=>NR ws sp w.2.2.1 a.1) (NR.refl hn) (λ j b hj hb=>?_)
 have hc:=Q0 (A4 (d:=0) hj)
 unfold gst
 cases (Fa w).getD j 0==src&&!self
 case true=>exact hb
 cases rch rc j != 1
 case true=>exact hb
 have hi:((Fa w).getD j 0).toNat<b.1.length:=by rw[hb.len];omega
 obtain⟨t1,t2,t3⟩:=Gib (hb.1 _ (A4 (d:=Ae) hi)) hl hr
 exact hb.set hi t1 t2 (by rw[t3];exact MO.refl _ _)
def Oba {ws:List Wri} {sp:List ByteArray} {w:Wld} {rc:List Int} {i:Nat} (hn:∀ n∈w.2.2.1,NI ws sp n) (hi:i<w.2.2.1.length):∃ ns,(Sq w i rc).2=wN w ns∧NR ws sp w.2.2.1 ns:=by
 have hni:=hn _ (A4 (d:=Ae) hi)
 have hl:=(Bp.1 hni.1.1).2.2.2.1
 unfold Sq
 cases ((w.2.2.1.getD i Ae).2.2.1.length:Int)==0
 case true=>exact⟨w.2.2.1,rfl,NR.refl hn⟩
 refine⟨_,rfl,?_⟩
 have hg:NR ws sp w.2.2.1 (O5 w i rc).1:=Fpa hn hl hni.2.2.1
 cases (O5 w i rc).2&&!(Lh (Fa (wN w (O5 w i rc).1)) (i:Int))
 ·exact hg
 have hi':i<(O5 w i rc).1.length:=by rw[hg.len];exact hi
 have hm:=hg.1 _ (A4 (d:=Ae) hi')
 exact hg.set hi' ⟨O9a hm.1,hm.2.1,(λ _ h=>nomatch h),hm.2.2.2⟩ rfl (MO.refl _ _)
def Oca {ws:List Wri} {sp:List ByteArray} {w:Wld} {rc:List Int} {i:Nat} (hn:∀ n∈w.2.2.1,NI ws sp n) (hi:i<w.2.2.1.length):∃ ns,(X2 w i rc).2=wN w ns∧NR ws sp w.2.2.1 ns:=by
 have hni:=hn _ (A4 (d:=Ae) hi)
 obtain⟨hq,_,_,_,hq60⟩:=Bp.1 hni.1.1
 unfold X2
 cases ((w.2.2.1.getD i Ae).2.2.2.length:Int)==0
 case true=>exact⟨w.2.2.1,rfl,NR.refl hn⟩
 refine⟨_,rfl,?_⟩
 have hg:NR ws sp w.2.2.1 (Pf w i rc).1:=Fpa hn (Ou hq) (λ r hr=>hni.2.2.2 r (J4b hr))
 cases (Pf w i rc).2
 ·exact hg
 have hi':i<(Pf w i rc).1.length:=by rw[hg.len];exact hi
 have hm:=hg.1 _ (A4 (d:=Ae) hi')
 exact hg.set hi' ⟨Avb hm.1 (λ r hr=>hq r (Zo hr)) (by rw[We];omega),hm.2.1,hm.2.2.1,λ r hr=>hni.2.2.2 r (Zo hr)⟩ rfl (MO.refl _ _)

structure WI (w:Wld):Prop where
 ring:Il w.2.1 w.1=true
 ids:w.2.2.1.map (·.1)=w.1.map (·.1)
 nodes:∀ n∈w.2.2.1,NI w.2.2.2.2.1 w.2.2.2.2.2 n
 clk:G9 w.2.2.2.1=true
 wlen:w.2.2.2.2.1.length≤200
 wok:Fna w.2.2.2.2.1
 wge:∀ x∈w.2.2.2.2.1,sle w.2.2.2.1 x.2.1.1=false
 asc:w.2.2.2.2.1.Pairwise (λ a b=>sle a.2.1.1 b.2.1.1=true)
 kept:∀ x∈w.2.2.2.2.1,x.2.2=true→x.1∉w.2.2.2.2.2→KN w.2.2.1 x.1 x.2.1.1
 sps:TS w.2.2.2.2.2
 spw:∀ s∈w.2.2.2.2.2,∃ x∈w.2.2.2.2.1,x.1=s
theorem Hub:LawfulBEq ByteArray := { eq_of_beq:=λ {a b} h=>Cy.1 (by rw[← Y7];exact h),rfl:=λ {a}=>by rw[Y7];exact Cy.2 rfl }
def Q1:∀ (p q:List ByteArray),p.Nodup→(∀ x∈p,x∈q)→p.length≤q.length
 |[],_,_,_=>Vs _
 |x::p,q,h,hs=>by
  haveI:=Hub
  obtain⟨h1,h2⟩:=Yt.1 h
  have hx:=hs x Yc
  have hlen:(q.erase x).length=q.length-1:=Kab hx
  have hpos:=Jab hx
  have:=Q1 p (q.erase x) h2 (λ y hy=>(Kzb (λ c=>by subst c;exact h1 hy)).2 (hs y (Vh _ hy)))
  rw[Vc]
  omega
namespace WI
variable {w:Wld}
def splen (h:WI w):w.2.2.2.2.2.length≤200:=by
 have hn:w.2.2.2.2.2.Nodup:=h.sps.imp (λ {a b} hab e=>by subst e;rw[G8]at hab;cases hab)
 have:=Q1 _ (w.2.2.2.2.1.map (·.1)) hn (λ s hs=>by
  obtain⟨x,hx,e⟩:=h.spw s hs
  exact Yw.2 ⟨x,hx,e⟩)
 rw[Wc]at this
 have:=h.wlen
 omega
def nlen (h:WI w):w.2.2.1.length=w.1.length:=by
 have:=congrArg length h.ids
 rwa [Wc,Wc]at this
def dlen (h:WI w):1≤w.1.length∧w.1.length≤12:=(Fc.1 (Cb.1 h.ring).1).2.2
def ns (h:WI w):NS w.2.2.1:=⟨by have:=h.nlen;have:=h.dlen;omega,λ n hn=>(h.nodes n hn).1⟩
def win (h:WI w):WIn w:=by
 have h1:=h.nlen
 have h2:=h.dlen
 have h3:=h.wlen
 have h4:=h.splen
 refine⟨Mn h.ring,by omega,⟨by omega,λ n hn=>Py (h.nodes n hn).1⟩,⟨by omega,λ x hx=>Ij (h.wok x hx).1⟩,by omega,λ s hs=>?_⟩
 obtain⟨x,hx,e⟩:=h.spw s hs
 rw[← e]
 exact Ij (h.wok x hx).1
def other (h:WI w) {ns:List Nod} (hn:NR w.2.2.2.2.1 w.2.2.2.2.2 w.2.2.1 ns):WI (wN w ns):=
 ⟨h.ring,hn.2.1.trans h.ids,hn.1,h.clk,h.wlen,h.wok,h.wge,h.asc,λ x hx hk hs=>hn.2.2 _ hs _ (h.kept x hx hk hs),h.sps,h.spw⟩
def other' (h:WI w) {r:Bool×Wld} (hr:∃ ns,r.2=wN w ns∧NR w.2.2.2.2.1 w.2.2.2.2.2 w.2.2.1 ns):WI r.2:=by
 obtain⟨ns,e,hn⟩:=hr
 rw[e]
 exact h.other hn
def write (h:WI w) {s:ByteArray} {f:Fil} {rc:List Int} (hs:As s=true) (hf:D9 f=true) (hb:Ai f.2.2) (hc:sle w.2.2.2.1 f.1=true) (hl:w.2.2.2.2.1.length<200):WI (Bja (w.1,w.2.1,w.2.2.1,f.1,w.2.2.2.2) s f rc).2:=by
 obtain⟨g1,g2,g3⟩:=Gkb (ws:=w.2.2.2.2.1++[(s,f,decide ((wrN (w.1,w.2.1,w.2.2.1,f.1,w.2.2.2.2) s f rc).2.2≥quo w.2.1.1))]) (sp:=w.2.2.2.2.2) (w:=(w.1,w.2.1,w.2.2.1,f.1,w.2.2.2.2)) (rc:=rc) (s:=s) (f:=f)
  (λ x hx=>by
   rcases Vo.1 hx with hx|hx
   ·exact h.wok x hx
   ·rw[Vt.1 hx];exact⟨hs,hf,hb⟩)
  ⟨_,Vo.2 (.inr (Vt.2 rfl)),rfl,rfl⟩
  (λ n hn=>(h.nodes n hn).mono (λ x hx=>Vo.2 (.inl hx)) (λ _ h=>h))
 unfold Bja
 generalize wrN (w.1,w.2.1,w.2.2.1,f.1,w.2.2.2.2) s f rc=a at *
 have hq:quo w.2.1.1≥1:=by
  have:=(Cb.1 h.ring).2.1
  unfold quo
  omega
 exact {
  ring:=h.ring
  ids:=g1.2.1.trans h.ids
  nodes:=g1.1
  clk:=(Ju.1 hf).1
  wlen:=by show (w.2.2.2.2.1++[_]).length≤200;rw[Ve];simp only[Vc,Vi];omega
  wok:=λ x hx=>by
   rcases Vo.1 hx with hx|hx
   ·exact h.wok x hx
   ·rw[Vt.1 hx];exact⟨hs,hf,hb⟩
  wge:=λ x hx=>by
   rcases Vo.1 hx with hx|hx
   ·exact Xi (Ut hc) (h.wge x hx)
   ·rw[Vt.1 hx];exact Jt _
  asc:=Zj.2 ⟨h.asc,Khb _ _,λ x hx y hy=>by
   rw[Vt.1 hy]
   have:=h.wge x hx
   cases hxy:sle x.2.1.1 f.1
   case true=>rfl
   have:=Xi this hxy
   rw[this]at hc
   cases hc⟩
  kept:=λ x hx hk hsp=>by
   rcases Vo.1 hx with hx|hx
   ·exact g1.2.2 _ hsp _ (h.kept x hx hk hsp)
   ·rw[Vt.1 hx]at hk hsp ⊢
    have hk':a.2.2≥quo w.2.1.1:=of_decide_eq_true hk
    exact g2 hsp (by omega)
  sps:=h.sps
  spw:=λ s hs=>by
   obtain⟨x,hx,e⟩:=h.spw s hs
   exact⟨x,Vo.2 (.inl hx),e⟩ }
def ask (h:WI w) {s:ByteArray} {f:Fil} {t:Int} {rc:List Int} (hb:Ai f.2.2) (hd:f.2.1=true→f.2.2=[]):WI (ask w s f t rc).2:=by
 unfold Vf.ask
 cases hs:As s
 ·exact h
 rw[Yq,cond_false]
 by_cases hl:(f.2.2.length:Int) > 200
 ·rw[decide_eq_true hl];exact h
 ·rw[decide_eq_false hl,cond_false]
  cases inR t 0 1000000000
  ·exact h
  rw[Yq,cond_false]
  cases hw:(w.2.2.2.2.1.length:Int)==200
  case true=>exact h
  rw[cond_false]
  have hw':=beq_eq_false_iff_ne.1 hw
  have hwl:=h.wlen
  obtain⟨n1,n2⟩:=Fka h.clk t 0
  cases he:(Ng w.2.2.2.1 t 0).1==w.2.2.2.1.1&&((Ng w.2.2.2.1 t 0).2.1==w.2.2.2.1.2.1&&(Ng w.2.2.2.1 t 0).2.2==w.2.2.2.1.2.2)
  case true=>exact h
  rw[cond_false]
  have hlt:sle w.2.2.2.1 (Ng w.2.2.2.1 t 0)=true:=by
   rcases n2 with n2|n2
   ·rw[n2,beq_self_eq_true,beq_self_eq_true,beq_self_eq_true]at he;cases he
   ·exact n2
  exact h.write (f:=(Ng w.2.2.2.1 t 0,f.2)) hs (Ju.2 ⟨n1,by show f.2.2.length≤200;omega,hd⟩) hb hlt (by omega)
def rot (h:WI w) {i:Nat} (hi:i<w.2.2.1.length) {s:ByteArray} {b:Int}:WI (Dfb w i s b).2:=by
 have hni:=h.nodes _ (A4 (d:=Ae) hi)
 unfold Dfb
 cases hr:(I4a (w.2.2.1.getD i Ae) s b).2
 ·exact h
 have hg:=Nqa (s:=s) (b:=b) hni.1
 unfold I4a at hr hg ⊢
 cases hc:Ly (w.2.2.1.getD i Ae)&&((lkD (w.2.2.1.getD i Ae).2.1 s).2==0&&(F0a (w.2.2.1.getD i Ae).2.1 s b).2)
 ·rw[hc]at hr;cases hr
 rw[hc]at hg
 rw[Va,Va,beq_iff_eq]at hc
 obtain⟨d1,d2,f,hf⟩:=Ghb h.wok hni.1.g hni.2.1 hc.2.1 hc.2.2 (spl w.2.2.2.2.2 s) (λ t=>Fma)
 have hsub:∀ t∈w.2.2.2.2.2,t∈spl w.2.2.2.2.2 s:=λ t ht=>Fma.2 (.inr ht)
 have hN:NR w.2.2.2.2.1 (spl w.2.2.2.2.2 s) w.2.2.1 (w.2.2.1.set i ((w.2.2.1.getD i Ae).1,(F0a (w.2.2.1.getD i Ae).2.1 s b).1,(w.2.2.1.getD i Ae).2.2)):=
  (NR.refl (λ n hn=>(h.nodes n hn).mono (λ _ h=>h) hsub)).set hi ⟨hg,d1,hni.2.2⟩ rfl d2
 exact {
  ring:=h.ring
  ids:=hN.2.1.trans h.ids
  nodes:=hN.1
  clk:=h.clk
  wlen:=h.wlen
  wok:=h.wok
  wge:=h.wge
  asc:=h.asc
  kept:=λ x hx hk hs=>hN.2.2 _ hs _ (h.kept x hx hk (λ c=>hs (hsub _ c)))
  sps:=Dja h.sps
  spw:=λ t ht=>by
   rcases Fma.1 ht with rfl|ht
   ·obtain⟨x,hx,e,_⟩:=hf
    exact⟨x,hx,e⟩
   ·exact h.spw t ht }
def node (h:WI w) {i:Nat} (hi:i<w.2.2.1.length) {e:Evt}:WI (Cea w e i).2:=by
 have hni:=h.nodes _ (A4 (d:=Ae) hi)
 unfold Cea
 cases e.1==3
 case true=>exact h.other' (Foa h.wok h.nodes hi h.ring h.ids)
 cases e.1==4
 case true=>exact h.other' (Oba h.nodes hi)
 cases e.1==5
 case true=>exact h.other' (Oca h.nodes hi)
 cases e.1==6 with
 |true=>
  obtain⟨c1,c2⟩:=Oaa h.wok hni.1.g hni.2.1
  exact h.other ((NR.refl h.nodes).set hi ⟨Uva hni.1,c1,hni.2.2⟩ rfl c2)
 |false=>
  cases e.1==7 with
  |true=>exact h.other ((NR.refl h.nodes).set hi ⟨Gdb hni.1,Dhb hni.1.g hni.2.1 _,hni.2.2⟩ rfl (Dib hni.1.g hni.2.1 _))
  |false=>exact h.rot hi
def weigh (h:WI w) {i t:Int}:WI (Ipa w i t).2:=by
 unfold Ipa
 cases h1:inR i 0 ((w.1.length:Int)-1)
 ·exact h
 cases h2:inR t 1 1000
 ·exact h
 obtain⟨i0,i1⟩:=Co.1 h1
 obtain⟨w0,w1⟩:=Co.1 h2
 exact⟨(O0a (F6a h.ring (by omega) w0 w1)).1,h.ids.trans (F5a _ _ _).symm,h.nodes,h.clk,h.wlen,h.wok,h.wge,h.asc,h.kept,h.sps,h.spw⟩
def ev (h:WI w) {e:Evt} (hb:Ai e.2.2.2.1):WI (doW w e).2:=by
 have ae:∀ {q:Int×Wld},WI q.2→WI (W8a q).2:=λ {q} hq=>by
  unfold W8a
  cases q.1 != 2<;>exact hq
 unfold doW
 cases e.1==1
 case true=>exact ae (h.ask hb (λ c=>by cases c))
 cases e.1==2
 case true=>exact ae (h.ask Nf (λ _=>rfl))
 cases e.1==3||(e.1==4||(e.1==5||(e.1==6||(e.1==7||e.1==8)))) with
 |true=>
  cases hi:inR e.2.1 0 ((w.2.2.1.length:Int)-1)
  ·exact h
  have:=Co.1 hi
  exact h.node (by omega)
 |false=>
  cases e.1==9 with
  |true=>exact h.weigh
  |false=>exact h
end WI

def I6b (l:List Dev) (last:Int):Prop:=l.Pairwise (λ a b=>a.1<b.1)∧∀ d∈l,(0≤d.1∧d.1≤last)∧(0≤d.2.1∧d.2.1≤20)∧1≤d.2.2∧d.2.2≤1000
def Vca (z:Int) (hz:1≤z∧z≤20):∀ (n:Nat) (i:Int) (l:List Dev) (last:Int) (c:Cur),i=n→n≤6→Bj c→I6b l last→0≤last→last+2*n≤12→l.length+n≤6→
  Tot (λ k=>Gr k l z last i c) (λ r=>(∃ last,I6b r.1 last∧last≤20)∧r.1.length=l.length+n∧Bj r.2):=by
 intro n
 induction n with
 |zero=>
  rintro i l last c rfl _ hc h h0 h1 _
  refine Tot.succ ?_
  simp (disch:=omega) only [Gr,dF]
  exact Igb ⟨⟨last,h,by omega⟩,rfl,hc⟩
 |succ n ih=>
  rintro i l last c rfl hn hc h h0 h1 hl
  refine Tot.succ ?_
  simp (disch:=omega) only [Gr,dT]
  obtain⟨x,c1,e1,hx,k1⟩:=Jh c hc [1,1,2] (by decide) (by decide)
  obtain⟨y,c2,e2,y0,y1,_,k2⟩:=Ad c1 k1 z (by omega)
  obtain⟨v,c3,e3,hv,k3⟩:=Jh c2 k2 [1,1,1,2,10,100] (by decide) (by decide)
  have y1:=y1 (by omega)
  have hx':1≤x∧x≤2:=by
   simp only[Vl,Zt,or_false]at hx
   omega
  have hv':1≤v∧v≤1000:=by
   simp only[Vl,Zt,or_false]at hv
   omega
  refine Isb (Itb (Q:=λ r=>r=(x,c1)) e1 rfl) ?_
  refine Isb (Itb (Q:=λ r=>r=(y,c2)) e2 rfl) ?_
  refine Isb (Itb (Q:=λ r=>r=(v,c3)) e3 rfl) ?_
  simp (disch:=omega) only [w64]
  refine Iob (by simp only[Vc,Vi];omega) ?_
  refine(ih _ (l++[(last+x,y,v)]) (last+x) c3 (by omega) (by omega) k3 ⟨?_,?_⟩ (by omega) (by omega) (by rw[Ve];simp only[Vc,Vi];omega)).mono ?_
  ·refine Zj.2 ⟨h.1,Khb _ _,λ a ha b hb=>?_⟩
   rw[Vt.1 hb]
   have:=(h.2 a ha).1.2
   show a.1<last+x
   omega
  ·intro d hd
   rcases Vo.1 hd with hd|hd
   ·obtain⟨⟨a1,a2⟩,a3⟩:=h.2 d hd
    exact⟨⟨a1,by omega⟩,a3⟩
   ·rw[Vt.1 hd]
    exact⟨⟨by show 0≤last+x;omega,J3b _⟩,⟨y0,by show y≤20;omega⟩,hv'⟩
  ·rintro r ⟨g1,g2,g3⟩
   refine⟨g1,?_,g3⟩
   rw[g2,Ve]
   simp only[Vc,Vi]
   omega
def Qaa (c:Cur) (hc:Bj c):Tot (λ k=>Ga k c) (λ r=>Lt r.1=true∧(2≤r.1.length∧r.1.length≤6)∧Bj r.2):=by
 unfold Ga
 obtain⟨x,c1,e1,x0,x1,_,k1⟩:=Ad c hc 4 (by decide)
 obtain⟨y,c2,e2,y0,y1,_,k2⟩:=Ad c1 k1 5 (by decide)
 have x1:=x1 (by decide)
 have y1:=y1 (by decide)
 refine Isb (Itb (Q:=λ r=>r=(x,c1)) e1 rfl) ?_
 refine Isb (Itb (Q:=λ r=>r=(y,c2)) e2 rfl) ?_
 simp (disch:=omega) only [w64]
 refine Ihb (Vca (1+x) (by omega) (2+y).toNat (2+y) [] 0 c2 (by omega) (by omega) k2 ⟨List.Pairwise.nil,λ d hd=>(nomatch hd)⟩ (J3b _) (by omega) (by simp only[Vi];omega)) ?_
 rintro r ⟨⟨last,g1,g2⟩,g3,g4⟩
 rw[Vi]at g3
 exact Igb ⟨Fc.2 ⟨g1.1,λ d hd=>Nz.2 ⟨⟨(g1.2 d hd).1.1,by have:=(g1.2 d hd).1.2;omega⟩,(g1.2 d hd).2⟩,by dsimp only;omega,by dsimp only;omega⟩,⟨by dsimp only;omega,by dsimp only;omega⟩,g4⟩
abbrev J3a:Wld:=(([]:List Dev),((0:Int),([]:List (List Int))),([]:List Nod),((0:Int),((0:Int),(0:Int))),([]:List Wri),([]:List ByteArray))
def Awb (d:Dev):Nod:=(d.1,([],[]),[],[])
def Dlb (l:List Dev) (parts reps:Int):Wld:=(l,(build l parts reps).1,l.map Awb,(0,0,0),[],[])
def Dmb {ws:List Wri} {sp:List ByteArray} {l:List Dev} (h:Lt l=true) {d:Dev} (hd:d∈l):NI ws sp (Awb d):=by
 obtain⟨⟨i0,i1⟩,_⟩:=Nz.1 ((Fc.1 h).2.1 d hd)
 refine⟨⟨Bp.2 ⟨(λ r hr=>nomatch hr),⟨i0,i1⟩,dg0.1,X1,Vs _⟩,dg0.2⟩,λ s=>⟨λ b hb=>?_,λ b hb=>?_,λ _ b f hb=>?_⟩,(λ r hr=>nomatch hr),(λ r hr=>nomatch hr)⟩
 ·rw[show gt (Awb d).2.1.1 s=none from rfl]at hb;cases hb
 ·rw[show gt (Awb d).2.1.2 s=none from rfl]at hb;cases hb
 ·rw[show gt (Awb d).2.1.2 s=none from rfl]at hb;cases hb
def Vda {l:List Dev} {parts reps:Int} (hb:(build l parts reps).2=true):WI (Dlb l parts reps):=by
 obtain⟨h1,h2,_,_⟩:=Nwa hb
 exact {
  ring:=h2
  ids:=by show (l.map Awb).map (·.1)=_;rw[Jvb];rfl
  nodes:=λ n hn=>by
   obtain⟨d,hd,rfl⟩:=Yw.1 hn
   exact Dmb h1 hd
  clk:=rfl
  wlen:=Vs _
  wok:=λ x hx=>nomatch hx
  wge:=λ x hx=>nomatch hx
  asc:=List.Pairwise.nil
  kept:=λ x hx=>nomatch hx
  sps:=List.Pairwise.nil
  spw:=λ s hs=>nomatch hs }
def Iqa (l:List Dev) (parts reps:Int) (hb:(build l parts reps).2=true):Tot (λ k=>Cg k l parts reps) (λ r=>r=Dlb l parts reps):=by
 obtain⟨h1,_,_,_⟩:=Nwa hb
 have h12:=(Fc.1 h1).2.2.2
 unfold Cg
 refine Isb (Uja l parts reps (by omega)) ?_
 refine Iob (by rw[Vi];omega) (Iib (by rw[hb];rfl) ?_)
 rw[Vz]
 refine Ihb (Q:=λ r=>r=(J3a,Dlb l parts reps)) ?_ (by rintro r rfl;exact Igb rfl)
 refine Ipb (L:=λ k i (s:List Nod)=>Ef k l i J3a (l,(build l parts reps).1,s,(0,0,0),[],[])) (Q:=λ r=>r=(J3a,Dlb l parts reps)) l.length (λ j s=>s=(l.take j).map Awb) ?_ ?_ 0 [] (Vs _) rfl
 ·rintro s rfl
  simp (disch:=omega) only [Ef,dF]
  exact Igb (by rw[Yi];rfl)
 ·rintro j s hj rfl next
  have hd:=A4 (d:=Nh) hj
  obtain⟨d,ed⟩:∃ d:Dev,l.getD j Nh=d:=⟨_,rfl⟩
  rw[ed]at hd
  have e0:l.getD j ((0:Int),((0:Int),(0:Int)))=d:=ed
  have e1:l[j]=d:=by rw[← ed,Vb,Vk hj];rfl
  have hid:=(Nz.1 ((Fc.1 h1).2.1 d hd)).1
  simp (disch:=omega) only [Ef,dT,Vd,w64,e0,Ti,Vm]
  have hl:((l.take j).map Awb).length=j:=by rw[Wc,Vu];omega
  rw[Co.2 hid,cond_true]
  refine Iob (by rw[hl];simp only[Vc,Vi];omega) (next _ ?_)
  rw[Wi hj,J8b,e1]
  rfl
def WD (w:Wld):Prop:=WI w∧∀ x∈w.2.2.2.2.1,x.1∈Ld
def Lda (c:Cur) (hc:Bj c):Tot (λ k=>Jz k c) (λ r=>(∃ l p n,(build l p n).2=true∧r.1=Dlb l p n)∧Bj r.2):=by
 unfold Jz
 refine Ihb (Qaa c hc) ?_
 rintro⟨l,c1⟩ ⟨hl,hn,k1⟩
 dsimp only at hl hn k1 ⊢
 obtain⟨x,c2,e2,hx,k2⟩:=Jh c1 k1 [3,2,3,1] (by decide) (by decide)
 obtain⟨y,c3,e3,hy,k3⟩:=Jh c2 k2 [4,2,8] (by decide) (by decide)
 have hx':1≤x∧x≤3:=by
  simp only[Vl,Zt,or_false]at hx
  omega
 have hy':1≤y∧y≤8:=by
  simp only[Vl,Zt,or_false]at hy
  omega
 have one:∀ n:Int,1≤n→n≤5→n≤(l.length:Int)→Tot (λ k=>(Aa c2 [4,2,8]).bind λ r3=>(Cg k l r3.1 n).bind λ r4=>some (r4,r3.2)) (λ r=>(∃ l p n,(build l p n).2=true∧r.1=Dlb l p n)∧Bj r.2):=by
  intro n n0 n5 nl
  have hb:(build l y n).2=true:=by
   unfold build
   rw[hl,Co.2 (show 1≤y∧y≤64 by omega),Co.2 (show 1≤n∧n≤5 by omega),decide_eq_false (show ¬ n > (l.length:Int) by omega)]
   rfl
  refine Isb (Itb (Q:=λ r=>r=(y,c3)) e3 rfl) ?_
  refine Isb (Iqa l y n hb) ?_
  exact Igb ⟨⟨l,y,n,hb,rfl⟩,k3⟩
 refine Isb (Itb (Q:=λ r=>r=(x,c2)) e2 rfl) ?_
 exact Inb (λ h=>one (l.length:Int) (by omega) (by dsimp only at h;omega) (Int.le_refl _)) (λ h=>one x (by omega) (by omega) (by dsimp only at h;omega))
def Xj (c:Cur) (hc:Bj c):Tot (λ k=>Cl k c) (λ r=>r.1.length=6∧Bj r.2):=by
 unfold Cl
 refine Ihb (Q:=λ r=>r.1.length=6∧Bj r.2) ?_ (λ r h=>Igb h)
 refine Ipb (L:=λ k i (s:List Int×Cur)=>Fl k s.1 i s.2) (Q:=λ r=>r.1.length=6∧Bj r.2) 6 (λ j s=>s.1.length=j∧Bj s.2) ?_ ?_ 0 ([],c) (Vs _) ⟨rfl,hc⟩
 ·rintro s ⟨h1,h2⟩
  simp (disch:=omega) only [Fl,dF]
  exact Igb ⟨h1,h2⟩
 ·rintro j s hj ⟨h1,h2⟩ next
  obtain⟨x,c1,e1,_,k1⟩:=Jh s.2 h2 [1,1,1,1,0,2,3] (by decide) (by decide)
  simp (disch:=omega) only [Fl,dT,w64]
  refine Isb (Itb (Q:=λ r=>r=(x,c1)) e1 rfl) ?_
  exact Iob (by simp only[Vc,Vi];omega) (next (s.1++[x],c1) ⟨by rw[Ve,h1];rfl,k1⟩)
def Lea (c:Cur) (hc:Bj c):Tot (λ k=>Cl k c) (λ r=>r.1.length≤6∧Bj r.2):=(Xj c hc).mono λ r h=>⟨by have:=h.1;omega,h.2⟩
def Axb (r:Evt×Cur×Wld) (w:Wld):Prop:=H6b r.1∧Ai r.1.2.2.2.1∧Bj r.2.1∧r.2.2=w
def Dnb {d:Dsk} (hd:DIn d) (hb:DB d):Tot (λ k=>El k d) (λ r=>r.length≤2000000∧∀ t∈r,Kf t):=by
 refine(O5a d hd hb).mono ?_
 rintro r rfl
 obtain⟨a1,a2⟩:=G8b d.1 hd.1.2.1 d.1 0 [] (λ x hx=>hx) (λ y hy=>nomatch hy)
 have:=hd.2.1
 rw[Vi]at a1
 exact⟨by unfold Fba;omega,a2⟩
def Vea (e:Evt):Prop:=e.1=1∨e.1=2→e.2.2.1∈Ld
def Fqa (c:Cur) (w:Wld) (hc:Bj c) (hn1:1≤w.2.2.1.length) (hnl:w.2.2.1.length≤2000000) (hnn:∀ n∈w.2.2.1,NIn n):Tot (λ k=>Em k c w w) (λ r=>Axb r w∧Vea r.1):=by
 unfold Em
 obtain⟨i,c1,e1,i0,i1,_,k1⟩:=Ad c hc (w.2.2.1.length:Int) (by omega)
 have i1:=i1 (by omega)
 obtain⟨s,c2,e2,hs,k2⟩:=M5 c1 k1
 have hsn:=hs
 have hs:=(Ky s hs).1
 refine Isb (Itb (Q:=λ r=>r=(i,c1)) e1 rfl) ?_
 refine Isb (Itb (Q:=λ r=>r=(s,c2)) e2 rfl) ?_
 refine Ihb (Lea c2 k2) ?_
 rintro⟨rc,c3⟩ ⟨hrc,k3⟩
 dsimp only at hrc k3 ⊢
 obtain⟨n,c4,e4,_,_,_,k4⟩:=Ad c3 k3 20 (by decide)
 refine Isb (Itb (Q:=λ r=>r=(n,c4)) e4 rfl) ?_
 dsimp only
 have ok:∀ (kd:Int) (s:ByteArray) (l:List Int) (x:Int) (c:Cur),Kf s→Ai l→l.length≤2000000 → -9223372036854775808≤x→x≤9223372036854775807→Bj c→(kd=1∨kd=2→s∈Ld)→Axb ((kd,i,s,l,x,rc),c,w) w∧Vea (kd,i,s,l,x,rc):=λ kd s l x c h1 h2 h3 h4 h5 h6 h7=>⟨⟨⟨h1,by show l.length≤_;omega,⟨h4,h5⟩,by show rc.length≤_;omega⟩,h2,h6,rfl⟩,h7⟩
 have plain:∀ kd:Int,Tot (λ _=>some ((kd,i,s,([]:List Int),(0:Int),rc),c4,w)) (λ r=>Axb r w∧Vea r.1):=λ kd=>Igb (ok kd s [] 0 c4 hs Nf (Vs _) (by decide) (by decide) k4 λ _=>hsn)
 have put:Tot (λ k=>(A3 c4 2).bind λ r5=>(Dn k r5.2).bind λ r6=>some ((1,i,s,r6.1,wrap .i64 (w.2.2.2.1.1+r5.1),rc),r6.2,w)) (λ r=>Axb r w∧Vea r.1):=by
  obtain⟨x,c5,e5,x0,x1,_,k5⟩:=Ad c4 k4 2 (by decide)
  have x1:=x1 (by decide)
  refine Isb (Itb (Q:=λ r=>r=(x,c5)) e5 rfl) ?_
  refine Ihb (D1a c5 k5) ?_
  rintro⟨l,c6⟩ ⟨g1,g2,g3⟩
  dsimp only at g1 g2 g3 ⊢
  have hw:=D0a (w.2.2.2.1.1+x)
  exact Igb (ok 1 s l _ c6 hs g2 (by omega) hw.1 hw.2 g1 λ _=>hsn)
 have drop:Tot (λ k=>(A3 c4 2).bind λ r17=>some ((2,i,s,([]:List Int),wrap .i64 (w.2.2.2.1.1+r17.1),rc),r17.2,w)) (λ r=>Axb r w∧Vea r.1):=by
  obtain⟨x,c5,e5,x0,x1,_,k5⟩:=Ad c4 k4 2 (by decide)
  have x1:=x1 (by decide)
  refine Isb (Itb (Q:=λ r=>r=(x,c5)) e5 rfl) ?_
  have hw:=D0a (w.2.2.2.1.1+x)
  exact Igb (ok 2 s [] _ c5 hs Nf (Vs _) hw.1 hw.2 k5 λ _=>hsn)
 have rot:Tot (λ k=>(A3 c4 60).bind λ r31=>some ((8,i,s,([]:List Int),r31.1,rc),r31.2,w)) (λ r=>Axb r w∧Vea r.1):=by
  obtain⟨x,c5,e5,x0,x1,_,k5⟩:=Ad c4 k4 60 (by decide)
  have x1:=x1 (by decide)
  refine Isb (Itb (Q:=λ r=>r=(x,c5)) e5 rfl) ?_
  exact Igb (ok 8 s [] x c5 hs Nf (Vs _) (by omega) (by omega) k5 λ _=>hsn)
 have ring:Tot (λ k=>(Aa c4 [1,2,10,1000]).bind λ r33=>some ((9,i,s,([]:List Int),r33.1,rc),r33.2,w)) (λ r=>Axb r w∧Vea r.1):=by
  obtain⟨x,c5,e5,hx,k5⟩:=Jh c4 k4 [1,2,10,1000] (by decide) (by decide)
  refine Isb (Itb (Q:=λ r=>r=(x,c5)) e5 rfl) ?_
  have hx':1≤x∧x≤1000:=by
   simp only[Vl,Zt,or_false]at hx
   omega
  exact Igb (ok 9 s [] x c5 hs Nf (Vs _) (by omega) (by omega) k5 λ _=>hsn)
 have push:Tot (λ k=>cond (decide ((0:Int)≤i)) (cond (decide (i<(length w.2.2.1:Int))) ((El k (getD w.2.2.1 (toNat i) ((0:Int),(([],[]),([],[])))).2.1).bind λ r20=>cond (decide ((length r20:Int) > 0)) ((A3 c4 (length r20:Int)).bind λ r21=>cond (decide ((0:Int)≤r21.1)) (cond (decide (r21.1<(length r20:Int))) (some ((3,i,(getD r20 (toNat r21.1) (⟨#[]⟩:ByteArray)),([]:List Int),0,rc),r21.2,w)) none) none) (some ((3,i,s,([]:List Int),0,rc),c4,w))) none) none) (λ r=>Axb r w∧Vea r.1):=by
  refine Ikb i0 (Ikb i1 ?_)
  have hm:=hnn _ (A4 (d:=Ae) (show i.toNat<w.2.2.1.length by omega))
  refine Ihb (Dnb hm.1.1 hm.1.2) ?_
  rintro l ⟨hl,hl'⟩
  refine Inb (λ h0=>?_) (λ h0=>plain 3)
  obtain⟨x,c5,e5,x0,x1,_,k5⟩:=Ad c4 k4 (l.length:Int) (by omega)
  have x1:=x1 (by omega)
  refine Isb (Itb (Q:=λ r=>r=(x,c5)) e5 rfl) ?_
  exact Ikb x0 (Ikb x1 (Igb (ok 3 _ [] 0 c5 (hl' _ (A4 (d:=Ov) (show x.toNat<l.length by omega))) Nf (Vs _) (by decide) (by decide) k5 (by omega))))
 refine Imb (λ _=>put) (λ _=>?_)
 refine Imb (λ _=>put) (λ _=>?_)
 refine Imb (λ _=>put) (λ _=>?_)
 refine Imb (λ _=>put) (λ _=>?_)
 refine Imb (λ _=>put) (λ _=>?_)
 refine Imb (λ _=>put) (λ _=>?_)
 refine Imb (λ _=>drop) (λ _=>?_)
 refine Imb (λ _=>drop) (λ _=>?_)
 refine Imb (λ _=>push) (λ _=>?_)
 refine Imb (λ _=>push) (λ _=>?_)
 refine Imb (λ _=>push) (λ _=>?_)
 refine Imb (λ _=>plain 5) (λ _=>?_)
 refine Imb (λ _=>plain 5) (λ _=>?_)
 refine Imb (λ _=>plain 4) (λ _=>?_)
 refine Imb (λ _=>plain 6) (λ _=>?_)
 refine Imb (λ _=>plain 7) (λ _=>?_)
 refine Imb (λ _=>plain 7) (λ _=>?_)
 refine Imb (λ _=>rot) (λ _=>?_)
 exact Imb (λ _=>rot) (λ _=>ring)
def Dob {w:Wld} (h:WI w) {e:Evt} (he:H6b e):Tot (λ k=>Ik k w e) (λ r=>r=doW w e):=
 Geb w e he h.ring h.ns h.clk (by have:=h.wlen;omega) (by have:=h.splen;omega)
def Z4a (w:Wld) (e:Evt) (i:Nat):(Cea w e i).2.2.2.2.2.1=w.2.2.2.2.1:=by
 unfold Cea Lu Sq X2 Dfb
 cases e.1==3
 case true=>cases (lkD (w.2.2.1.getD i Ae).2.1 e.2.2.1).2 != 0<;>rfl
 cases e.1==4
 case true=>cases ((w.2.2.1.getD i Ae).2.2.1.length:Int)==0<;>rfl
 cases e.1==5
 case true=>cases ((w.2.2.1.getD i Ae).2.2.2.length:Int)==0<;>rfl
 cases e.1==6
 case true=>rfl
 cases e.1==7
 case true=>rfl
 rw[cond_false,cond_false,cond_false,cond_false,cond_false]
 cases (I4a (w.2.2.1.getD i Ae) e.2.2.1 e.2.2.2.2.1).2<;>rfl
def Ayb (w:Wld) (s:ByteArray) (f:Fil) (t:Int) (rc:List Int):∀ x∈(ask w s f t rc).2.2.2.2.2.1,x∈w.2.2.2.2.1∨x.1=s:=by
 intro x
 unfold ask
 cases !(As s)
 case true=>exact .inl
 cases decide ((f.2.2.length:Int) > 200)
 case true=>exact .inl
 cases !(inR t 0 1000000000)
 case true=>exact .inl
 cases (w.2.2.2.2.1.length:Int)==200
 case true=>exact .inl
 cases (Ng w.2.2.2.1 t 0).1==w.2.2.2.1.1&&((Ng w.2.2.2.1 t 0).2.1==w.2.2.2.1.2.1&&(Ng w.2.2.2.1 t 0).2.2==w.2.2.2.1.2.2)
 case true=>exact .inl
 intro hx
 rcases Vo.1 hx with h|h
 ·exact .inl h
 ·rw[Vt.1 h];exact .inr rfl
def WD.ev {w:Wld} (h:WD w) {e:Evt} (hb:Ai e.2.2.2.1) (hn:Vea e):WD (doW w e).2:=by
 refine⟨h.1.ev hb,λ x=>?_⟩
 have ae:∀ q:Int×Wld,(W8a q).2=q.2:=λ q=>by
  unfold W8a
  cases q.1 != 2<;>rfl
 unfold doW
 cases h1:e.1==1 with
 |true=>
  rw[cond_true,ae]
  exact λ hx=>(Ayb _ _ _ _ _ x hx).elim (h.2 x) (λ c=>by rw[c];exact hn (.inl (eq_of_beq h1)))
 |false=>
  cases h2:e.1==2 with
  |true=>
   rw[cond_false,cond_true,ae]
   exact λ hx=>(Ayb _ _ _ _ _ x hx).elim (h.2 x) (λ c=>by rw[c];exact hn (.inr (eq_of_beq h2)))
  |false=>
   rw[cond_false,cond_false]
   cases e.1==3||(e.1==4||(e.1==5||(e.1==6||(e.1==7||e.1==8)))) with
   |true=>
    rw[cond_true]
    cases inR e.2.1 0 ((w.2.2.1.length:Int)-1) with
    |true=>rw[cond_true,Z4a];exact h.2 x
    |false=>exact h.2 x
   |false=>
    rw[cond_false]
    unfold Ipa
    cases e.1==9
    case false=>exact h.2 x
    cases !(inR e.2.1 0 ((w.1.length:Int)-1))
    case true=>exact h.2 x
    cases !(inR e.2.2.2.2.1 1 1000)<;>exact h.2 x
def Qba {I:Wld→Prop} (hI:∀ w,I w→WI w) (hE:∀ w e,I w→Ai e.2.2.2.1→Vea e→I (doW w e).2):∀ (n:Nat) (i:Int) (c:Cur) (w:Wld),i=n→n≤1000→Bj c→I w→Tot (λ k=>Fo k i c J3a w) (λ r=>I r.2.1∧Bj r.2.2):=by
 intro n
 induction n with
 |zero=>
  rintro i c w rfl _ hc h
  refine Tot.succ ?_
  simp (disch:=omega) only [Fo,dF]
  exact Igb ⟨h,hc⟩
 |succ n ih=>
  rintro i c w rfl hn hc h
  refine Tot.succ ?_
  simp (disch:=omega) only [Fo,dT]
  have hw:=hI w h
  refine Ihb (Fqa c w hc (by have:=hw.nlen;have:=hw.dlen;omega) hw.ns.1 hw.win.2.2.1.2) ?_
  rintro⟨e,c1,w1⟩ ⟨⟨g1,g2,g3,g4⟩,g5⟩
  dsimp only at g1 g2 g3 g4 g5 ⊢
  subst g4
  refine Isb (Dob hw g1) ?_
  rw[w64 (n:=((n+1:Nat):Int)-1) (by omega) (by omega)]
  exact ih _ c1 _ (by omega) (by omega) g3 (hE _ _ h g2 g5)
def Xk {I:Wld→Prop} (hI:∀ w,I w→WI w) (hE:∀ w e,I w→Ai e.2.2.2.1→Vea e→I (doW w e).2) (hN:∀ l p n,(build l p n).2=true→I (Dlb l p n)) (c:Cur) (hc:Bj c) (n:Int) (hn:n≤1000):Tot (λ k=>E5 k c n) (λ r=>I r.1∧Bj r.2):=by
 unfold E5
 refine Ihb (Lda c hc) ?_
 rintro⟨w,c1⟩ ⟨⟨l,p,m,hb,e⟩,k1⟩
 dsimp only at e k1 ⊢
 have h:I w:=by rw[e];exact hN l p m hb
 obtain⟨x,c2,e2,x0,x1,x2,k2⟩:=Ad c1 k1 n (by omega)
 refine Isb (Itb (Q:=λ r=>r=(x,c2)) e2 rfl) ?_
 refine Ihb (Qba hI hE x.toNat x c2 w (by omega) (by by_cases h:0<n<;>omega) k2 h) ?_
 rintro r hr
 exact Igb hr
def Lfa (c:Cur) (hc:Bj c) (n:Int) (hn:n≤1000):Tot (λ k=>E5 k c n) (λ r=>WI r.1∧Bj r.2):=Xk (λ _ h=>h) (λ _ _ h hb _=>h.ev hb) (λ _ _ _ hb=>Vda hb) c hc n hn
def Z5a (a:List Int) (hb:(a.length:Int)≤1048576) (m:Int) (hm:3≤m∧m≤1000):∃ n,Jy a m=some n∧3≤n∧n≤m:=by
 unfold Jy
 rw[Jbb (by omega),w64 (n:=(a.length:Int)/12) (by omega) (by omega),w64 (n:=3+(a.length:Int)/12) (by omega) (by omega)]
 by_cases h:3+(a.length:Int)/12 > m
 ·exact⟨m,by rw[decide_eq_true h];rfl,hm.1,J3b _⟩
 ·exact⟨_,by rw[decide_eq_false h];rfl,by omega,by omega⟩

def WIm (m:Nat) (w:Wld):Prop:=RBd w.2.1∧w.1.length≤2000000∧(w.2.2.1.length≤2000000∧∀ n∈w.2.2.1,NIn n)∧(w.2.2.2.2.1.length≤m∧∀ x∈w.2.2.2.2.1,Kf x.1∧x.2.1.2.2.length≤2000000∧Ai x.2.1.2.2)∧(w.2.2.2.2.2.length≤m∧∀ s∈w.2.2.2.2.2,Kf s)
def WIm.win {m:Nat} {w:Wld} (h:WIm m w) (hm:m≤2000000):WIn w:=by
 obtain⟨h1,h2,⟨h3,h4⟩,⟨h5,h6⟩,h7,h8⟩:=h
 exact⟨h1,h2,⟨h3,h4⟩,⟨by omega,λ x hx=>(h6 x hx).1⟩,by omega,h8⟩
def WIm.more {m n:Nat} {w:Wld} (h:WIm m w) (hm:m≤n):WIm n w:=by
 obtain⟨h1,h2,h3,⟨h5,h6⟩,h7,h8⟩:=h
 exact⟨h1,h2,h3,⟨by omega,h6⟩,by omega,h8⟩
def WI.wim {w:Wld} (h:WI w):WIm 200 w:=by
 have hi:=h.win
 have h2:=h.dlen
 have h1:=h.nlen
 exact⟨hi.1,hi.2.1,hi.2.2.1,⟨h.wlen,λ x hx=>⟨Ij (h.wok x hx).1,by have:=(Ju.1 (h.wok x hx).2.1).2.1;omega,(h.wok x hx).2.2⟩⟩,h.splen,hi.2.2.2.2.2⟩
def Ira {f:Fil} (h:f.2.2.length≤2000000):Br f=some f:=by
 unfold Br
 rw[bT (by simp only[Vi];omega),Vz]
def Rx {m:Nat} {w:Wld} (h:WIm m w) (hm:m≤2000000):Tot (λ k=>B3 k w) (λ r=>r=w):=by
 obtain⟨h1,h2,⟨h3,h4⟩,⟨h5,h6⟩,h7,h8⟩:=h
 unfold B3
 refine Iob (by rw[Vi];omega) (Isb (Xe w.2.1 h1) ?_)
 refine Iob (by rw[Vi];omega) ?_
 rw[Vz,Vz]
 refine Ihb (Q:=λ r=>r=(w,J3a,(w.1,w.2.1,w.2.2.1,w.2.2.2.1,[],w.2.2.2.2.2))) ?_ ?_
 ·refine Ipb (L:=λ k i (s:List Nod)=>Fq k i w J3a (w.1,w.2.1,s,w.2.2.2.1,[],w.2.2.2.2.2)) (Q:=λ r=>r=(w,J3a,(w.1,w.2.1,w.2.2.1,w.2.2.2.1,[],w.2.2.2.2.2))) w.2.2.1.length (λ j s=>s=w.2.2.1.take j) ?_ ?_ 0 [] (Vs _) rfl
  ·rintro s rfl
   simp (disch:=omega) only [Fq,dF]
   exact Igb (by rw[Yi])
  ·rintro j s hj rfl next
   have hm:=h4 _ (A4 (d:=Ae) hj)
   have e0:w.2.2.1.getD j ((0:Int),(([],[]),([],[])))=w.2.2.1.getD j Ae:=rfl
   have hl:(w.2.2.1.take j).length=j:=by rw[Vu];omega
   simp (disch:=omega) only [Fq,dT,Vd,w64,e0]
   refine Isb (Ny _ hm) ?_
   refine Iob (by rw[hl];simp only[Vc,Vi];omega) (next _ ?_)
   rw[Wi hj,Vb,Vk hj]
   rfl
 ·rintro r rfl
  refine Ihb (Q:=λ r=>r=(J3a,w)) ?_ (by rintro r rfl;exact Igb rfl)
  refine Ipb (L:=λ k i (s:List Wri)=>Fp k i w J3a (w.1,w.2.1,w.2.2.1,w.2.2.2.1,s,w.2.2.2.2.2)) (Q:=λ r=>r=(J3a,w)) w.2.2.2.2.1.length (λ j s=>s=w.2.2.2.2.1.take j) ?_ ?_ 0 [] (Vs _) rfl
  ·rintro s rfl
   simp (disch:=omega) only [Fp,dF]
   exact Igb (by rw[Yi])
  ·rintro j s hj rfl next
   have hm:=(h6 _ (A4 (d:=Uxa) hj)).2.1
   have e0:w.2.2.2.2.1.getD j ((⟨#[]⟩:ByteArray),((((0:Int),((0:Int),(0:Int))),(false,[])),false))=w.2.2.2.2.1.getD j Uxa:=rfl
   have hl:(w.2.2.2.2.1.take j).length=j:=by rw[Vu];omega
   simp (disch:=omega) only [Fp,dT,Vd,w64,e0,Ira hm,Vm]
   refine Iob (by rw[hl];simp only[Vc,Vi];omega) (next _ ?_)
   rw[Wi hj,Vb,Vk hj]
   rfl
def WIp (m:Nat) (w:Wld):Prop:=WIm m w∧1≤w.2.2.1.length
def Oda {m:Nat} {w:Wld} (h:WIp m w) {i:Nat} {n:Nod} (hn:NIn n):WIp m (w.1,w.2.1,w.2.2.1.set i n,w.2.2.2):=by
 obtain⟨⟨h1,h2,⟨h3,h4⟩,h5⟩,h0⟩:=h
 refine⟨⟨h1,h2,⟨by rw[Vy];exact h3,λ x hx=>?_⟩,h5⟩,by show 1≤(w.2.2.1.set i n).length;rw[Vy];exact h0⟩
 rcases Xs hx with hx|rfl
 ·exact h4 x hx
 ·exact hn
def Z6a {m:Nat} {w:Wld} {c:Cur} (hc:Bj c) (h:WIp m w) (hm:m≤900):Tot (λ k=>Dq k c w w) (λ r=>WIp (m+1) r.1∧Bj r.2.1):=by
 have h':=h
 obtain⟨⟨h1,h2,⟨h3,h4⟩,⟨h5,h6⟩,h7,h8⟩,h0⟩:=h'
 have hw:WIp (m+1) w:=⟨h.1.more (J7b m),h.2⟩
 unfold Dq
 refine Ihb (Rx (w:=w) h.1 (by omega)) ?_
 rintro r rfl
 refine Ikb (by omega) ?_
 obtain⟨i,c1,e1,i0,i1,_,k1⟩:=Ad c hc (r.2.2.1.length:Int) (by omega)
 have i1:=i1 (by omega)
 refine Ihb (Itb (Q:=λ r=>r=(i,c1)) e1 rfl) ?_
 rintro _ rfl
 obtain⟨x,c2,e2,_,_,_,k2⟩:=Ad c1 k1 10 (by decide)
 refine Ihb (Itb (Q:=λ r=>r=(x,c2)) e2 rfl) ?_
 rintro _ rfl
 dsimp only
 refine Imb (λ _=>?_) (λ _=>?_)
 ·obtain⟨y,c3,e3,_,k3⟩:=Jh c2 k2 [0,1,2,6] (by decide) (by decide)
  refine Ihb (Itb (Q:=λ r=>r=(y,c3)) e3 rfl) ?_
  rintro _ rfl
  exact Igb ⟨⟨⟨h1,hw.1.2⟩,h0⟩,k3⟩
 refine Imb (λ _=>?_) (λ _=>?_)
 ·refine Ikb (by omega) (Ihb (Uba c2 k2) ?_)
  rintro⟨n,c3⟩ ⟨g1,g2⟩
  exact Ikb i0 (Ikb i1 (Igb ⟨Oda hw g1,g2⟩))
 refine Imb (λ _=>?_) (λ _=>?_)
 ·obtain⟨y,c3,e3,k3⟩:=F1a c2 k2
  refine Ihb (Itb (Q:=λ r=>r=(y,c3)) e3 rfl) ?_
  rintro _ rfl
  exact Igb ⟨hw,k3⟩
 refine Imb (λ _=>?_) (λ _=>?_)
 ·refine Inb (λ _=>Ikb (by omega) (Igb ⟨⟨⟨h1,h2,⟨h3,h4⟩,⟨by dsimp only;rw[List.length_drop];omega,λ x hx=>h6 x (List.mem_of_mem_drop hx)⟩,by dsimp only;omega,h8⟩,h0⟩,k2⟩)) (λ _=>Igb ⟨hw,k2⟩)
 refine Imb (λ _=>?_) (λ _=>?_)
 ·obtain⟨s,c3,e3,hs,k3⟩:=My c2 k2
  refine Ihb (Itb (Q:=λ r=>r=(s,c3)) e3 rfl) ?_
  rintro _ rfl
  refine Ihb (I0a c3 k3) ?_
  rintro⟨f,c4⟩ ⟨⟨g0,g1⟩,k4⟩
  refine Iob (by simp only[List.length_cons,List.length_nil];omega) (Igb ⟨⟨⟨h1,h2,⟨h3,h4⟩,⟨by dsimp only;rw[List.length_append];simp only[List.length_cons,List.length_nil];omega,λ x hx=>?_⟩,by dsimp only;omega,h8⟩,h0⟩,k4⟩)
  rcases Vo.1 hx with hx|hx
  ·exact h6 x hx
  ·rw[Vt.1 hx];exact⟨hs,g1,g0⟩
 refine Imb (λ _=>?_) (λ _=>?_)
 ·obtain⟨s,c3,e3,hs,k3⟩:=My c2 k2
  refine Ihb (Itb (Q:=λ r=>r=(s,c3)) e3 rfl) ?_
  rintro _ rfl
  refine Iob (by simp only[List.length_cons,List.length_nil];omega) (Igb ⟨⟨⟨h1,h2,⟨h3,h4⟩,⟨by dsimp only;omega,h6⟩,by dsimp only;rw[List.length_append];simp only[List.length_cons,List.length_nil];omega,λ x hx=>?_⟩,h0⟩,k3⟩)
  rcases Vo.1 hx with hx|hx
  ·exact h8 x hx
  ·rw[Vt.1 hx];exact hs
 refine Imb (λ _=>?_) (λ _=>?_)
 ·have hm:=h4 _ (A4 (d:=Ae) (show i.toNat<r.2.2.1.length by omega))
  refine Ikb (by omega) (Ikb i0 (Ikb i1 (Igb ⟨Oda hw ⟨⟨Nd dg0.1,dg0.2⟩,hm.2⟩,k2⟩)))
 refine Imb (λ _=>?_) (λ _=>Igb ⟨hw,k2⟩)
 refine Inb (λ hd=>?_) (λ _=>Igb ⟨hw,k2⟩)
 obtain⟨y,c3,e3,_,k3⟩:=Jh c2 k2 [0,5,21] (by decide) (by decide)
 refine Ihb (Itb (Q:=λ r=>r=(y,c3)) e3 rfl) ?_
 rintro _ rfl
 exact Ikb (by omega) (Igb ⟨⟨⟨h1,by dsimp only;rw[List.length_set];exact h2,hw.1.2.2⟩,h0⟩,k3⟩)
def Qca (c:Cur) (hc:Bj c) (n:Int) (hn:n≤1000):Tot (λ k=>I5 k c n) (λ r=>WIp 201 r.1∧Bj r.2):=by
 unfold I5
 refine Ihb (Lfa c hc n hn) ?_
 rintro⟨w,c1⟩ ⟨h,k1⟩
 dsimp only at h k1 ⊢
 obtain⟨b,c2,e2,k2⟩:=Ks c1 k1 8 (by decide)
 refine Isb (Itb (Q:=λ r=>r=(b,c2)) e2 rfl) ?_
 refine Imb (λ _=>?_) (λ _=>Igb ⟨⟨h.wim.more (by decide),by show 1≤w.2.2.1.length;have:=h.nlen;have:=h.dlen;omega⟩,k2⟩)
 refine Ihb (Z6a k2 (m:=200) ⟨h.wim,by have:=h.nlen;have:=h.dlen;omega⟩ (by decide)) ?_
 rintro r ⟨g1,g2⟩
 exact Igb ⟨g1,g2⟩

def Isa {f:Fil} (h:f.2.2.length≤1000000000):I7 f=some f:=by
 unfold I7
 rw[Nb _ (by omega)]
 rfl

def Z7a (w:Wld) (i:Nat) (s:ByteArray) (rc:List Int) (hr:Il w.2.1 w.1=true) (hn:NS w.2.2.1) (hi:i<w.2.2.1.length):Tot (λ k=>Ah k w (i:Int) s rc) (λ r=>r=Lu w i s rc):=by
 have hni:=hn.get hi
 unfold Ah Lu
 have e0:w.2.2.1.getD i ((0:Int),(([],[]),([],[])))=w.2.2.1.getD i Ae:=rfl
 simp (disch:=omega) only [dT,Vd,e0]
 have hin:=(Py hni).1
 refine Isb (Y9 hin.1.1.1.1 hin.2.1 s) ?_
 cases hl:(lkD (w.2.2.1.getD i Ae).2.1 s).2 != 0
 case true=>exact Ijb rfl (Igb rfl)
 refine Iib rfl ?_
 rw[cond_false]
 have hlk:∃ b,gt (w.2.2.1.getD i Ae).2.1.1 s=some b:=by
  rw[bne,Wj,beq_iff_eq]at hl
  obtain⟨b,hb,_⟩:=Ot.1 (show lkD (w.2.2.1.getD i Ae).2.1 s=((lkD (w.2.2.1.getD i Ae).2.1 s).1,0) from by rw[← hl])
  exact⟨b,hb⟩
 have hs:As s=true:=Pua hni.g.1 (by obtain⟨b,hb⟩:=hlk;rw[hb];rfl)
 have hsz:s.size≤1000000000:=by
  have:=Co.1 (Va _ _ ▸ hs:_∧_).2
  omega
 refine Isb (O6a _ s (Mn hr) hsz) ?_
 refine Isb (L9a w _ hn.1 (Sm (Mn hr) s)) ?_
 have hpl:=Ina (s:=s) hr hn.1
 have hc:=λ x=>P8 (w:=w) (s:=s) (x:=x)
 have hrun:puN w i s rc=run (pst (i:Int) s (lkD (w.2.2.1.getD i Ae).2.1 s).1 rc (Mp w s)) (Mp w s).length (w.2.2.1,false,true):=rfl
 obtain⟨p1,p2⟩:=Atb (w:=w) (i:=i) (s:=s) (rc:=rc) hn
 have inv:∀ n,n≤(Mp w s).length→NS (run (pst (i:Int) s (lkD (w.2.2.1.getD i Ae).2.1 s).1 rc (Mp w s)) n (w.2.2.1,false,true)).1∧(run (pst (i:Int) s (lkD (w.2.2.1.getD i Ae).2.1 s).1 rc (Mp w s)) n (w.2.2.1,false,true)).1.length=w.2.2.1.length:=λ n hn'=>
  Mo (λ _ (b:List Nod×Bool×Bool)=>NS b.1∧b.1.length=w.2.2.1.length) ⟨hn,rfl⟩ (λ j b hj hb=>V3a hb (by have:=hc _ (A4 (d:=0) (show j<(Mp w s).length by omega));omega))
 rw[show whr w.2.2.1 (Sp w.2.1 s)=Mp w s from rfl]
 generalize (lkD (w.2.2.1.getD i Ae).2.1 s).1=f at *
 generalize Mp w s=ps at *
 refine Ihb (Q:=λ r=>r=((i:Int),s,(puN w i s rc).2.2,(puN w i s rc).2.1,wN w (puN w i s rc).1)) ?_ ?_
 ·refine Ipb (L:=λ k j (a:List Nod×Bool×Bool)=>Af k (i:Int) s rc a.2.2 a.2.1 ps (ps.length:Int) j (wN w a.1) f) (Q:=λ r=>r=((i:Int),s,(puN w i s rc).2.2,(puN w i s rc).2.1,wN w (puN w i s rc).1)) ps.length (λ j a=>a=run (pst (i:Int) s f rc ps) j (w.2.2.1,false,true)) ?_ ?_ 0 (w.2.2.1,false,true) (Vs _) rfl
  ·rintro a rfl
   simp (disch:=omega) only [Af,dF]
   exact Igb (by rw[hrun])
  ·rintro j a hj rfl next
   obtain⟨i1,i2⟩:=inv j (by omega)
   rw[Sn]at next
   generalize run (pst (i:Int) s f rc ps) j (w.2.2.1,false,true)=a at *
   obtain⟨ns,o,g⟩:=a
   dsimp only at i1 i2
   have hci:=hc _ (A4 (d:=0) hj)
   obtain⟨m,em⟩:∃ m:Nat,ps.getD j 0=(m:Int):=⟨(ps.getD j 0).toNat,by omega⟩
   rw[em]at hci
   unfold pst at next
   rw[em,Vd]at next
   have e0:ns.getD m ((0:Int),(([],[]),([],[])))=ns.getD m Ae:=rfl
   simp (disch:=omega) only [Af,dT,Vd,w64,em,wN,e0]
   cases hz:(m:Int)==(i:Int) with
   |true=>
    rw[hz]at next
    exact Ijb rfl (next _ rfl)
   |false=>
    rw[hz]at next
    refine Iib rfl ?_
    simp only[Dcb,Vm]
    cases h1:rch rc j != 1 with
    |true=>
     rw[h1]at next
     exact Ijb rfl (next _ rfl)
    |false=>
     rw[h1]at next
     refine Iib rfl ?_
     have hm:=Py (i1.get (i:=m) (by omega))
     refine Isb (Yaa (ns.getD m Ae).2.1 s f true hm.1.1 hm.1.2.1 (Ij hs)) ?_
     dsimp only at next ⊢
     generalize keep (ns.getD m Ae).2.1 s f true=q at *
     cases g with
     |false=>
      refine Iib rfl (next (ns.set m ((ns.getD m Ae).1,q.1,(ns.getD m Ae).2.2),o,false) ?_)
      cases q.2 != 0&&q.2 != 1<;>rfl
     |true=>
      refine Ijb rfl ?_
      cases h2:q.2==0
      case true=>rw[bne,h2]at next;exact Ijb rfl (next _ rfl)
      rw[bne,h2]at next
      refine Iib rfl ?_
      cases h3:q.2==1 with
      |true=>rw[bne,h3]at next;exact next _ rfl
      |false=>rw[bne,h3]at next;exact next _ rfl
 ·rintro r rfl
  dsimp only[wN]
  generalize puN w i s rc=a at *
  obtain⟨ns,o,g⟩:=a
  dsimp only at p1 p2 ⊢
  cases o with
  |true=>
   refine Iib rfl (Igb ?_)
   rw[Yq,Wm]
   rfl
  |false=>
   refine Ijb rfl ?_
   cases g
   ·exact Iib rfl (Igb rfl)
   refine Ijb rfl ?_
   have e0:ns.getD i ((0:Int),(([],[]),([],[])))=ns.getD i Ae:=rfl
   simp (disch:=omega) only [dT,Vd,e0]
   have hg:=(p1.get (i:=i) (by omega)).g
   refine Isb (Kya hg.1) ?_
   refine Isb (Hwa (Pva hg).1 hs) ?_
   exact Igb rfl

section
open Go
end

def NO (ns ms:List Nod):Prop:=NS ms∧ms.map (·.1)=ns.map (·.1)
def NO.len {ns ms:List Nod} (h:NO ns ms):ms.length=ns.length:=by
 have:=congrArg length h.2
 rwa [Wc,Wc]at this
def NO.set {ns ms:List Nod} (h:NO ns ms) {i:Nat} {n:Nod} (hi:i<ms.length) (hn:NG n) (e:n.1=(ms.getD i Ae).1):NO ns (ms.set i n):=⟨h.1.set hn,(Lca hi e).trans h.2⟩
def Dpb (n:Nod) (s:ByteArray) (f:Fil) (sure:Bool):(Wu n s f sure).1.1=n.1:=by
 unfold Wu
 cases (n.2.2.2.length:Int)==60 with
 |true=>rfl
 |false=>rfl
def Hvb (n:Nod) (l:List Row):(tk n l).2.1=n.1:=by
 unfold tk
 cases decide ((O9 n.2.2.1 l).length > 60)<;>rfl
def Dqb (n:Nod) (s:ByteArray) (b:Int):(I4a n s b).1.1=n.1:=by
 unfold I4a
 cases Ly n&&((lkD n.2.1 s).2==0&&(F0a n.2.1 s b).2)<;>rfl
def Gnb {w:Wld} {s:ByteArray} {f:Fil} {rc:List Int} (hn:NS w.2.2.1) (hs:As s=true) (hf:D9 f=true):NO w.2.2.1 (wrN w s f rc).1:=by
 unfold wrN
 refine Mo (λ _ (a:List Nod×Int×Int)=>NO w.2.2.1 a.1) ⟨hn,rfl⟩ (λ j a hj h=>?_)
 have hc:=Tn (A4 (d:=0) hj)
 have hl:=h.len
 unfold wst
 cases decide (a.2.1<w.2.1.1)
 ·exact h
 rw[cond_true]
 cases rch rc j==0 with
 |true=>exact h
 |false=>exact h.set (by omega) (Npa (h.1.get (by omega)) hs hf) (Dpb _ _ _ _)
def Gob {w:Wld} {i:Nat} {s:ByteArray} {rc:List Int} (hn:NS w.2.2.1):NO w.2.2.1 (puN w i s rc).1:=by
 unfold puN
 refine Mo (λ _ (a:List Nod×Bool×Bool)=>NO w.2.2.1 a.1) ⟨hn,rfl⟩ (λ j a hj h=>?_)
 have hc:=P8 (A4 (d:=0) hj)
 have hl:=h.len
 unfold pst
 cases (Mp w s).getD j 0==(i:Int)
 case true=>exact h
 rw[cond_false]
 cases rch rc j != 1 with
 |true=>exact h
 |false=>exact h.set (by omega) (Bka (h.1.get (by omega))) rfl
def Oea {w:Wld} {i:Nat} {s:ByteArray} {rc:List Int} (hn:NS w.2.2.1) (hi:i<w.2.2.1.length):∃ ns,(Lu w i s rc).2=wN w ns∧NO w.2.2.1 ns:=by
 unfold Lu
 cases hl:(lkD (w.2.2.1.getD i Ae).2.1 s).2 != 0
 case true=>exact⟨w.2.2.1,rfl,hn,rfl⟩
 have h:=Gob (i:=i) (s:=s) (rc:=rc) hn
 have hlen:=h.len
 have hs:As s=true:=by
  rw[bne,Wj,beq_iff_eq]at hl
  obtain⟨b,hb,_⟩:=Ot.1 (show lkD (w.2.2.1.getD i Ae).2.1 s=((lkD (w.2.2.1.getD i Ae).2.1 s).1,0) from by rw[← hl])
  exact Pua (hn.get hi).g.1 (by rw[hb];rfl)
 refine⟨_,rfl,?_⟩
 cases (puN w i s rc).2.2&&!(puN w i s rc).2.1 with
 |false=>exact h
 |true=>exact h.set (by omega) (Asb (h.1.get (by omega)) hs) rfl
def Ofa {w:Wld} {src:Int} {l:List Row} {self:Bool} {rc:List Int} (hl:Jq l=true) (hn:NS w.2.2.1):NO w.2.2.1 (Ns w src l self rc).1:=by
 unfold Ns
 refine Mo (λ _ (a:List Nod×Bool)=>NO w.2.2.1 a.1) ⟨hn,rfl⟩ (λ j a hj h=>?_)
 have hc:=Q0 (A4 (d:=0) hj)
 have hlen:=h.len
 unfold gst
 cases (Fa w).getD j 0==src&&!self
 case true=>exact h
 rw[cond_false]
 cases rch rc j != 1 with
 |true=>exact h
 |false=>exact h.set (by omega) (Hsb (h.1.get (by omega)) hl) (Hvb _ _)
def Z8a {w:Wld} {i:Nat} {rc:List Int} (hn:NS w.2.2.1) (hi:i<w.2.2.1.length):∃ ns,(Sq w i rc).2=wN w ns∧NO w.2.2.1 ns:=by
 have h:=Ofa (w:=w) (src:=(i:Int)) (self:=false) (rc:=rc) (Bp.1 (hn.get hi).1).2.2.2.1 hn
 have hlen:=h.len
 unfold Sq
 cases ((w.2.2.1.getD i Ae).2.2.1.length:Int)==0
 case true=>exact⟨w.2.2.1,rfl,hn,rfl⟩
 refine⟨_,rfl,?_⟩
 show NO w.2.2.1 (bif (O5 w i rc).2&&_ then (O5 w i rc).1.set i (Xh ((O5 w i rc).1.getD i Ae)) else (O5 w i rc).1)
 unfold O5
 cases (Ns w (i:Int) (w.2.2.1.getD i Ae).2.2.1 false rc).2&&_ with
 |false=>exact h
 |true=>exact h.set (by omega) (O9a (h.1.get (by omega))) rfl
def Z9a {w:Wld} {i:Nat} {rc:List Int} (hn:NS w.2.2.1) (hi:i<w.2.2.1.length):∃ ns,(X2 w i rc).2=wN w ns∧NO w.2.2.1 ns:=by
 have hq:=Bp.1 (hn.get hi).1
 have h:=Ofa (w:=w) (src:=(i:Int)) (self:=true) (rc:=rc) (Ou hq.1) hn
 have hlen:=h.len
 unfold X2
 cases ((w.2.2.1.getD i Ae).2.2.2.length:Int)==0
 case true=>exact⟨w.2.2.1,rfl,hn,rfl⟩
 refine⟨_,rfl,?_⟩
 show NO w.2.2.1 (bif (Pf w i rc).2 then (Pf w i rc).1.set i (Elb ((Pf w i rc).1.getD i Ae) ((w.2.2.1.getD i Ae).2.2.2.drop 1)) else (Pf w i rc).1)
 unfold Pf
 cases (Ns w (i:Int) ((w.2.2.1.getD i Ae).2.2.2.take 1) true rc).2 with
 |false=>exact h
 |true=>exact h.set (by omega) (Avb (h.1.get (by omega)) (λ r hr=>hq.1 r (Zo hr)) (by rw[We];omega)) rfl
structure WO (w:Wld):Prop where
 ring:Il w.2.1 w.1=true
 ids:w.2.2.1.map (·.1)=w.1.map (·.1)
 ns:NS w.2.2.1
 clk:G9 w.2.2.2.1=true
 wlen:w.2.2.2.2.1.length≤200
 wok:Fna w.2.2.2.2.1
 wge:∀ x∈w.2.2.2.2.1,sle w.2.2.2.1 x.2.1.1=false
 sps:TS w.2.2.2.2.2
 spn:∀ s∈w.2.2.2.2.2,As s=true
def WI.wo {w:Wld} (h:WI w):WO w:=⟨h.ring,h.ids,h.ns,h.clk,h.wlen,h.wok,h.wge,h.sps,λ s hs=>by
 obtain⟨x,hx,e⟩:=h.spw s hs
 rw[← e]
 exact(h.wok x hx).1⟩
namespace WO
variable {w:Wld}
def nlen (h:WO w):w.2.2.1.length=w.1.length:=by
 have:=congrArg length h.ids
 rwa [Wc,Wc]at this
def dlen (h:WO w):1≤w.1.length∧w.1.length≤12:=(Fc.1 (Cb.1 h.ring).1).2.2
def other (h:WO w) {ns:List Nod} (hn:NO w.2.2.1 ns):WO (wN w ns):=⟨h.ring,hn.2.trans h.ids,hn.1,h.clk,h.wlen,h.wok,h.wge,h.sps,h.spn⟩
def other' (h:WO w) {r:Bool×Wld} (hr:∃ ns,r.2=wN w ns∧NO w.2.2.1 ns):WO r.2:=by
 obtain⟨ns,e,hn⟩:=hr
 rw[e]
 exact h.other hn
def write (h:WO w) {s:ByteArray} {f:Fil} {rc:List Int} (hs:As s=true) (hf:D9 f=true) (hb:Ai f.2.2) (hc:sle w.2.2.2.1 f.1=true) (hl:w.2.2.2.2.1.length<200):WO (Bja (w.1,w.2.1,w.2.2.1,f.1,w.2.2.2.2) s f rc).2:=by
 have g:=Gnb (w:=(w.1,w.2.1,w.2.2.1,f.1,w.2.2.2.2)) (rc:=rc) h.ns hs hf
 unfold Bja
 generalize wrN (w.1,w.2.1,w.2.2.1,f.1,w.2.2.2.2) s f rc=a at *
 exact {
  ring:=h.ring
  ids:=g.2.trans h.ids
  ns:=g.1
  clk:=(Ju.1 hf).1
  wlen:=by show (w.2.2.2.2.1++[_]).length≤200;rw[Ve];simp only[Vc,Vi];omega
  wok:=λ x hx=>by
   rcases Vo.1 hx with hx|hx
   ·exact h.wok x hx
   ·rw[Vt.1 hx];exact⟨hs,hf,hb⟩
  wge:=λ x hx=>by
   rcases Vo.1 hx with hx|hx
   ·exact Xi (Ut hc) (h.wge x hx)
   ·rw[Vt.1 hx];exact Jt _
  sps:=h.sps
  spn:=h.spn }
def ask (h:WO w) {s:ByteArray} {f:Fil} {t:Int} {rc:List Int} (hb:Ai f.2.2) (hd:f.2.1=true→f.2.2=[]):WO (ask w s f t rc).2:=by
 unfold Vf.ask
 cases hs:As s
 ·exact h
 rw[Yq,cond_false]
 by_cases hl:(f.2.2.length:Int) > 200
 ·rw[decide_eq_true hl];exact h
 ·rw[decide_eq_false hl,cond_false]
  cases inR t 0 1000000000
  ·exact h
  rw[Yq,cond_false]
  cases hw:(w.2.2.2.2.1.length:Int)==200
  case true=>exact h
  rw[cond_false]
  have hw':=beq_eq_false_iff_ne.1 hw
  have hwl:=h.wlen
  obtain⟨n1,n2⟩:=Fka h.clk t 0
  cases he:(Ng w.2.2.2.1 t 0).1==w.2.2.2.1.1&&((Ng w.2.2.2.1 t 0).2.1==w.2.2.2.1.2.1&&(Ng w.2.2.2.1 t 0).2.2==w.2.2.2.1.2.2)
  case true=>exact h
  rw[cond_false]
  have hlt:sle w.2.2.2.1 (Ng w.2.2.2.1 t 0)=true:=by
   rcases n2 with n2|n2
   ·rw[n2,beq_self_eq_true,beq_self_eq_true,beq_self_eq_true]at he;cases he
   ·exact n2
  exact h.write (f:=(Ng w.2.2.2.1 t 0,f.2)) hs (Ju.2 ⟨n1,by show f.2.2.length≤200;omega,hd⟩) hb hlt (by omega)
def rot (h:WO w) {i:Nat} (hi:i<w.2.2.1.length) {s:ByteArray} {b:Int}:WO (Dfb w i s b).2:=by
 have hg:=h.ns.get hi
 unfold Dfb
 cases hr:(I4a (w.2.2.1.getD i Ae) s b).2
 ·exact h
 have hn:NO w.2.2.1 (w.2.2.1.set i (I4a (w.2.2.1.getD i Ae) s b).1):=NO.set ⟨h.ns,rfl⟩ hi (Nqa hg) (Dqb _ _ _)
 have hs:As s=true:=by
  unfold I4a at hr
  cases hc:Ly (w.2.2.1.getD i Ae)&&((lkD (w.2.2.1.getD i Ae).2.1 s).2==0&&(F0a (w.2.2.1.getD i Ae).2.1 s b).2)
  ·rw[hc]at hr;cases hr
  rw[Va,Va,beq_iff_eq]at hc
  obtain⟨b,hb,_⟩:=Ot.1 (show lkD (w.2.2.1.getD i Ae).2.1 s=((lkD (w.2.2.1.getD i Ae).2.1 s).1,0) from by rw[← hc.2.1])
  exact Pua hg.g.1 (by rw[hb];rfl)
 exact⟨h.ring,hn.2.trans h.ids,hn.1,h.clk,h.wlen,h.wok,h.wge,Dja h.sps,λ t ht=>by
  rcases Fma.1 ht with rfl|ht
  ·exact hs
  ·exact h.spn t ht⟩
def node (h:WO w) {i:Nat} (hi:i<w.2.2.1.length) {e:Evt}:WO (Cea w e i).2:=by
 have hg:=h.ns.get hi
 unfold Cea
 cases e.1==3
 case true=>exact h.other' (Oea h.ns hi)
 cases e.1==4
 case true=>exact h.other' (Z8a h.ns hi)
 cases e.1==5
 case true=>exact h.other' (Z9a h.ns hi)
 cases e.1==6
 case true=>exact h.other (NO.set ⟨h.ns,rfl⟩ hi (Uva hg) rfl)
 cases e.1==7 with
 |true=>exact h.other (NO.set ⟨h.ns,rfl⟩ hi (Gdb hg) rfl)
 |false=>exact h.rot hi
def weigh (h:WO w) {i t:Int}:WO (Ipa w i t).2:=by
 unfold Ipa
 cases h1:inR i 0 ((w.1.length:Int)-1)
 ·exact h
 cases h2:inR t 1 1000
 ·exact h
 obtain⟨i0,i1⟩:=Co.1 h1
 obtain⟨w0,w1⟩:=Co.1 h2
 exact⟨(O0a (F6a h.ring (by omega) w0 w1)).1,h.ids.trans (F5a _ _ _).symm,h.ns,h.clk,h.wlen,h.wok,h.wge,h.sps,h.spn⟩
def ev (h:WO w) {e:Evt} (hb:Ai e.2.2.2.1):WO (doW w e).2:=by
 have ae:∀ {q:Int×Wld},WO q.2→WO (W8a q).2:=λ {q} hq=>by
  unfold W8a
  cases q.1 != 2<;>exact hq
 unfold doW
 cases e.1==1
 case true=>exact ae (h.ask hb (λ c=>by cases c))
 cases e.1==2
 case true=>exact ae (h.ask Nf (λ _=>rfl))
 cases e.1==3||(e.1==4||(e.1==5||(e.1==6||(e.1==7||e.1==8)))) with
 |true=>
  cases hi:inR e.2.1 0 ((w.2.2.1.length:Int)-1)
  ·exact h
  have:=Co.1 hi
  exact h.node (by omega)
 |false=>
  cases e.1==9 with
  |true=>exact h.weigh
  |false=>exact h
def nods (h:WO w):Rv w.1 w.2.2.1=true:=by
 have hl:=h.nlen
 unfold Rv
 rw[show ((w.2.2.1.length:Int)==(w.1.length:Int))=true by rw[beq_iff_eq];omega,Vw,Yr]
 intro j hj
 have hj':=Zy.1 hj
 rw[Va,beq_iff_eq]
 refine⟨?_,(h.ns.get hj').1⟩
 have e1:(w.2.2.1.getD j Ae).1=(w.2.2.1.map (·.1)).getD j 0:=by
  rw[Vb,Vb,J0b,Vk hj'];rfl
 have e2:(w.1.getD j Nh).1=(w.1.map (·.1)).getD j 0:=by
  rw[Vb,Vb,J0b,Vk (by omega)];rfl
 rw[e1,e2,h.ids]
def ok (h:WO w):Pz w=true:=by
 unfold Pz
 have a2:Yza w.2.2.2.1 w.2.2.2.2.1=true:=by
  unfold Yza
  rw[Va,Yr]
  refine⟨λ x hx=>?_,decide_eq_true (by have:=h.wlen;omega)⟩
  unfold Fea
  rw[(h.wok x hx).1,(h.wok x hx).2.1,h.wge x hx]
  rfl
 have a3:T0 w.2.2.2.2.2=true:=by
  unfold T0
  rw[Yr]
  intro j hj
  have hj':=Zy.1 hj
  rw[Va,J2b]
  refine⟨h.spn _ (A4 hj'),?_⟩
  by_cases h0:j=0
  ·exact .inl (decide_eq_true h0)
  ·right
   have:=Zx.1 h.sps (j-1) j (by omega) hj' (by omega)
   rwa [Vb,Vb,Vk hj',Vk (by omega)]
 rw[h.ring,h.nods,h.clk,a2,a3]
 rfl
end WO
def Hwb {l:List ByteArray} (h:∀ j,0<j→j<l.length→tlt (l.getD (j-1) Ov) (l.getD j Ov)=true):TS l:=by
 induction l with
 |nil=>exact List.Pairwise.nil
 |cons x l ih=>
  have ht:TS l:=ih (λ j h0 hj=>by
   have:=h (j+1) (by omega) (by simpa using hj)
   obtain⟨m,rfl⟩:∃ m,j=m+1:=⟨j-1,by omega⟩
   simpa using this)
  refine Wg.2 ⟨λ y hy=>?_,ht⟩
  cases l with
  |nil=>cases hy
  |cons z l=>
   have hz:tlt x z=true:=by have:=h 1 (by omega) (by simp);simpa using this
   rcases Vl.1 hy with rfl|hy
   ·exact hz
   ·exact Mv hz ((Wg.1 ht).1 y hy)
def Hxb {w:Wld} (h:Pz w=true) (hn:∀ n∈w.2.2.1,DB n.2.1) (hb:∀ x∈w.2.2.2.2.1,Ai x.2.1.2.2):WO w:=by
 unfold Pz at h
 simp only[Va]at h
 obtain⟨h1,h2,h3,h4,h5⟩:=h
 unfold Rv at h2
 rw[Va,beq_iff_eq,Yr]at h2
 obtain⟨hl,h2⟩:=h2
 have hd:=(Fc.1 (Cb.1 h1).1).2.2
 have hnode:∀ j,j<w.2.2.1.length→(w.2.2.1.getD j Ae).1=(w.1.getD j Nh).1∧Ly (w.2.2.1.getD j Ae)=true:=λ j hj=>by
  have:=h2 j (Zy.2 hj)
  rwa [Va,beq_iff_eq]at this
 unfold Yza at h4
 rw[Va,Yr,decide_eq_true_iff]at h4
 unfold T0 at h5
 rw[Yr]at h5
 have hsp:∀ j,j<w.2.2.2.2.2.length→As (w.2.2.2.2.2.getD j Ov)=true∧(j=0∨tlt (w.2.2.2.2.2.getD (j-1) Ov) (w.2.2.2.2.2.getD j Ov)=true):=λ j hj=>by
  have:=h5 j (Zy.2 hj)
  rwa [Va,J2b,decide_eq_true_iff]at this
 have hx:∀ x∈w.2.2.2.2.1,As x.1=true∧D9 x.2.1=true∧sle w.2.2.2.1 x.2.1.1=false:=λ x hx=>by
  have:=h4.1 x hx
  unfold Fea at this
  rwa [Va,Va,Vx]at this
 refine⟨h1,?_,⟨by omega,λ n hm=>?_⟩,h3,by omega,λ x hm=>⟨(hx x hm).1,(hx x hm).2.1,hb x hm⟩,λ x hm=>(hx x hm).2.2,Hwb (λ j h0 hj=>?_),λ s hs=>?_⟩
 ·refine Lpb (by rw[Wc,Wc];omega) (λ j a b=>?_)
  rw[Wc]at a b
  have:=(hnode j a).1
  rw[Vb,Vb,Vk a,Vk b]at this
  rw[Kxb,Kxb]
  exact this
 ·obtain⟨j,hj,rfl⟩:=Zd.1 hm
  have:=(hnode j hj).2
  rw[Vb,Vk hj]at this
  exact⟨this,hn _ hm⟩
 ·rcases (hsp j hj).2 with h|h
  ·omega
  ·exact h
 ·obtain⟨j,hj,rfl⟩:=Zd.1 hs
  have:=(hsp j hj).1
  rwa [Vb,Vk hj]at this

section
open Go
end

section
open Go
end

def WIm.wo {m:Nat} {w:Wld} (h:WIm m w) (hk:Pz w=true):WO w:=Hxb hk (λ n hn=>(h.2.2.1.2 n hn).1.2) (λ x hx=>(h.2.2.2.1.2 x hx).2.2)
def WO.wim {w:Wld} (h:WO w) {m:Nat} (h2:200≤m) (hs:w.2.2.2.2.2.length≤m):WIm m w:=
 ⟨Mn h.ring,by have:=h.dlen;omega,⟨h.ns.1,λ n hn=>Py (h.ns.2 n hn)⟩,⟨by have:=h.wlen;omega,λ x hx=>⟨Ij (h.wok x hx).1,by have:=(Ju.1 (h.wok x hx).2.1).2.1;omega,(h.wok x hx).2.2⟩⟩,hs,λ s hs=>Ij (h.spn s hs)⟩
def Bma {m:Nat} {w:Wld} (h:WIm m w) (hm:m≤2000000):Tot (λ k=>Aw k w) (λ r=>r=w):=by
 obtain⟨h1,h2,⟨h3,h4⟩,⟨h5,h6⟩,h7,h8⟩:=h
 unfold Aw
 refine Iob (by rw[Vi];omega) (Isb (Ica w.2.1 h1) ?_)
 refine Iob (by rw[Vi];omega) ?_
 rw[Vz,Vz]
 refine Ihb (Q:=λ r=>r=(w,J3a,(w.1,w.2.1,w.2.2.1,w.2.2.2.1,[],w.2.2.2.2.2))) ?_ ?_
 ·refine Ipb (L:=λ k i (s:List Nod)=>Du k w.2.2.1 (w.2.2.1.length:Int) i w J3a (w.1,w.2.1,s,w.2.2.2.1,[],w.2.2.2.2.2)) (Q:=λ r=>r=(w,J3a,(w.1,w.2.1,w.2.2.1,w.2.2.2.1,[],w.2.2.2.2.2))) w.2.2.1.length (λ j s=>s=w.2.2.1.take j) ?_ ?_ 0 [] (Vs _) rfl
  ·rintro s rfl
   simp (disch:=omega) only [Du,dF]
   exact Igb (by rw[Yi])
  ·rintro j s hj rfl next
   have hm:=h4 _ (A4 (d:=Ae) hj)
   have e0:w.2.2.1.getD j ((0:Int),(([],[]),([],[])))=w.2.2.1.getD j Ae:=rfl
   have hl:(w.2.2.1.take j).length=j:=by rw[Vu];omega
   simp (disch:=omega) only [Du,dT,Vd,w64,e0]
   refine Isb (I2a _ hm) ?_
   refine Iob (by rw[hl];simp only[Vc,Vi];omega) (next _ ?_)
   rw[Wi hj,Vb,Vk hj]
   rfl
 ·rintro r rfl
  refine Ihb (Q:=λ r=>r=(J3a,w)) ?_ (by rintro r rfl;exact Igb rfl)
  refine Ipb (L:=λ k i (s:List Wri)=>Dt k w.2.2.2.2.1 (w.2.2.2.2.1.length:Int) i J3a (w.1,w.2.1,w.2.2.1,w.2.2.2.1,s,w.2.2.2.2.2)) (Q:=λ r=>r=(J3a,w)) w.2.2.2.2.1.length (λ j s=>s=w.2.2.2.2.1.take j) ?_ ?_ 0 [] (Vs _) rfl
  ·rintro s rfl
   simp (disch:=omega) only [Dt,dF]
   exact Igb (by rw[Yi])
  ·rintro j s hj rfl next
   have hm:=(h6 _ (A4 (d:=Uxa) hj)).2.1
   have e0:w.2.2.2.2.1.getD j ((⟨#[]⟩:ByteArray),((((0:Int),((0:Int),(0:Int))),(false,[])),false))=w.2.2.2.2.1.getD j Uxa:=rfl
   have hl:(w.2.2.2.2.1.take j).length=j:=by rw[Vu];omega
   simp (disch:=omega) only [Dt,dT,Vd,w64,e0,Isa (f:=(w.2.2.2.2.1.getD j Uxa).2.1) (by omega),Vm]
   refine Iob (by rw[hl];simp only[Vc,Vi];omega) (next _ ?_)
   rw[Wi hj,Vb,Vk hj]
   rfl
def I7b (w v:Wld):Prop:=v.2.2.1.length=w.2.2.1.length∧w.2.2.2.2.1.length≤v.2.2.2.2.1.length∧sle v.2.2.2.1 w.2.2.2.1=false
def I7b.nodes {w:Wld} {ns:List Nod} (h:ns.length=w.2.2.1.length):I7b w (wN w ns):=⟨h,Vv _,Jt _⟩

def Drb (s:ByteArray) (a:Bool×Fil) (n:Nod):Bool×Fil:=bif (lkD n.2.1 s).2==0 then (bif !a.1||sle a.2.1 (lkD n.2.1 s).1.1 then (true,(lkD n.2.1 s).1) else a) else a
def lat (ns:List Nod) (s:ByteArray):Bool×Fil:=ns.foldl (Drb s) (false,Ejb)
def Ita {s:ByteArray} {a:Bool×Fil} {n:Nod} (h:a.1=true∨((lkD n.2.1 s).2==0)=true):(Drb s a n).1=true:=by
 unfold Drb
 cases hc:(lkD n.2.1 s).2==0 with
 |false=>
  rw[hc]at h
  rcases h with h|h
  ·exact h
  ·cases h
 |true=>
  rw[cond_true]
  cases ha:a.1 with
  |false=>rfl
  |true=>cases hs:sle a.2.1 (lkD n.2.1 s).1.1<;>simp[ha]
def Oga {s:ByteArray}:∀ (ns:List Nod) (a:Bool×Fil),(a.1=true∨∃ n∈ns,((lkD n.2.1 s).2==0)=true)→(ns.foldl (Drb s) a).1=true
 |[],a,h=>by
  rcases h with h|⟨n,hn,_⟩
  ·exact h
  ·cases hn
 |n::ns,a,h=>by
  rw[Zc]
  refine Oga ns _ ?_
  rcases h with h|⟨m,hm,hg⟩
  ·exact .inl (Ita (.inl h))
  ·rcases Vl.1 hm with rfl|hm
   ·exact .inl (Ita (.inr hg))
   ·exact .inr ⟨m,hm,hg⟩
def lvE (s:ByteArray) (p:List Int) (f:Fil) (n:Nod):Bool:=bif Lh p n.1 then ((lkD n.2.1 s).2==0)&&Ddb (lkD n.2.1 s).1 f else !((lkD n.2.1 s).2==0)
def lvN (w:Wld) (s:ByteArray):Bool:=w.2.2.1.all (lvE s (Sp w.2.1 s) (lat w.2.2.1 s).2)
def Oha {ns:List Nod} {p:List Int} {j:Nat} (hj:j<ns.length):Lh (whr ns p) (j:Int)=Lh p (ns.getD j Ae).1:=by
 rw[Jyb,Nw,Nw,Wz]
 constructor
 ·rintro⟨i,h1,h2,h3⟩
  obtain rfl:j=i:=by omega
  exact h2
 ·intro h
  exact⟨j,hj,h,rfl⟩
def Iua (d:Dsk) (s:ByteArray):Prop:=((lkD d s).2==0)=true
def Zaa {d:Dsk} {s:ByteArray}:Iua d s↔∃ i,fnd d.1 s=some i∧(Mz (d.1.getD i Ed).2).isSome=true:=by
 unfold Iua lkD gt
 cases h:fnd d.1 s with
 |none=>simp
 |some i=>
  simp only[Vg]
  constructor
  ·intro hg
   refine⟨i,rfl,?_⟩
   cases hf:Mz (d.1.getD i Ed).2 with
   |none=>simp only[hf]at hg;cases hg
   |some f=>rfl
  ·rintro⟨j,rfl,hg⟩
   cases hf:Mz (d.1.getD i Ed).2 with
   |none=>rw[hf]at hg;cases hg
   |some f=>rfl
def Vfa {d:Dsk} {s:ByteArray}:s∈Faa d↔Iua d s:=by
 have key:∀ (l:List Nmd) (out:List ByteArray),s∈l.foldl (hI d) out↔s∈out∨∃ x∈l,x.1=s∧Iua d s:=by
  intro l
  induction l with
  |nil=>intro out;simp
  |cons x l ih=>
   intro out
   rw[Zc,ih]
   have hx:s∈hI d out x↔s∈out∨(x.1=s∧Iua d s):=by
    unfold hI
    cases hc:(lkD d x.1).2==0 with
    |false=>
     rw[cond_false]
     refine⟨.inl,?_⟩
     rintro (h|⟨rfl,h⟩)
     ·exact h
     ·unfold Iua at h;rw[hc]at h;cases h
    |true=>
     rw[cond_true,Hta]
     constructor
     ·rintro (rfl|h)
      ·exact .inr ⟨rfl,hc⟩
      ·exact .inl h
     ·rintro (h|⟨h,_⟩)
      ·exact .inr h
      ·exact .inl h.symm
   rw[hx]
   constructor
   ·rintro ((h|h)|⟨y,hy,h⟩)
    ·exact .inl h
    ·exact .inr ⟨x,Yc,h⟩
    ·exact .inr ⟨y,Vh _ hy,h⟩
   ·rintro (h|⟨y,hy,h⟩)
    ·exact .inl (.inl h)
    ·rcases Vl.1 hy with rfl|hy
     ·exact .inl (.inr h)
     ·exact .inr ⟨y,hy,h⟩
 unfold Faa
 rw[key]
 constructor
 ·rintro (h|⟨x,_,_,h⟩)
  ·cases h
  ·exact h
 ·intro h
  obtain⟨i,hi,_⟩:=Zaa.1 h
  have:=Oa hi
  exact .inr ⟨_,A4 (d:=Ed) this.1,this.2,h⟩
def I8b (a b:Row):Bool:=(a.1==b.1)&&((a.2.1.1==b.2.1.1)&&((a.2.1.2.1==b.2.1.2.1)&&((a.2.1.2.2==b.2.1.2.2)&&((a.2.2.1==b.2.2.1)&&(a.2.2.2==b.2.2.2)))))
def Vga (a b:List Row):Bool:=((a.length:Int)==(b.length:Int))&&(List.range a.length).all λ j=>I8b (a.getD j I5b) (b.getD j I5b)
def Azb (w:Wld) (j:Nat):List Row:=bif Lh (Fa w) (j:Int) then (w.2.2.1.getD ((Fa w).getD 0 0).toNat Ae).2.2.1 else []
def I9b (w:Wld) (j:Nat):Bool := !(decide (((w.2.2.1.getD j Ae).2.2.2.length:Int) > 0))&&Vga (w.2.2.1.getD j Ae).2.2.1 (Azb w j)
def Vha (a:List Row):Vga a [] = !(decide ((a.length:Int) > 0)):=by
 unfold Vga
 cases a with
 |nil=>rfl
 |cons x l=>
  rw[decide_eq_true (show ((x::l).length:Int) > 0 by rw[Vc];omega),show (((x::l).length:Int)==(([]:List Row).length:Int))=false by rw[beq_eq_false_iff_ne,Vc,Vi];omega]
  rfl
def Via {w:Wld} {j:Int} (h:Lh (Fa w) j=true):0<(Fa w).length∧0≤(Fa w).getD 0 0∧(Fa w).getD 0 0<(w.2.2.1.length:Int):=by
 have hm:=Nw.1 h
 have h0:=Jab hm
 obtain⟨i,h1,_,h3⟩:=Wz.1 (show (Fa w).getD 0 0∈whr w.2.2.1 (Sp w.2.1 Pe) from A4 h0)
 exact⟨h0,by omega,by omega⟩

def Vja {s:ByteArray} (h:As s=true):s.size≤1000000000:=by
 have:=Co.1 (Va _ _ ▸ h:_∧_).2
 omega
def Qda (c:Cur) (hc:Bj c):Tot (λ k=>Hk k c) (λ r=>r.1.length≤6∧Bj r.2):=by
 unfold Hk
 refine Ihb (Xj c hc) ?_
 rintro⟨l,c1⟩ ⟨hl,k1⟩
 dsimp only at hl k1 ⊢
 obtain⟨x,c2,e2,_,_,_,k2⟩:=Ad c1 k1 8 (by decide)
 refine Isb (Itb (Q:=λ r=>r=(x,c2)) e2 rfl) ?_
 dsimp only
 refine Imb (λ _=>?_) (λ _=>Imb (λ _=>?_) (λ _=>Igb ⟨by dsimp only;omega,k2⟩))
 ·obtain⟨y,c3,e3,y0,y1,_,k3⟩:=Ad c2 k2 4 (by decide)
  have y1:=y1 (by decide)
  refine Isb (Itb (Q:=λ r=>r=(y,c3)) e3 rfl) ?_
  exact Ikb y0 (Ikb (by dsimp only;omega) (Igb ⟨by dsimp only;rw[List.length_take];omega,k3⟩))
 ·obtain⟨y,c3,e3,_,k3⟩:=Jh c2 k2 [(-1),4] (by decide) (by decide)
  refine Isb (Itb (Q:=λ r=>r=(y,c3)) e3 rfl) ?_
  exact Ikb (by omega) (Igb ⟨by dsimp only;rw[List.length_set];omega,k3⟩)

section
open Go
end

def Ip:List Int:=[1,1,1,1,1,1,1,1,1,1,1,1]
def X3 (w:Wld) (i:Nat) (l:List ByteArray):Wld:=l.foldl (λ w s=>(Lu w i s Ip).2) w
def X4 (w:Wld) (i:Nat):Nat→Wld
 |0=>w
 |n+1=>(X2 (X4 w i n) i Ip).2
def qtA (w:Wld) (i:Nat):Wld:=wN w (w.2.2.1.set i (G9b (w.2.2.1.getD i Ae)).1)
def qtP (w:Wld) (i:Nat):Wld:=X3 (qtA w i) i (Faa ((qtA w i).2.2.1.getD i Ae).2.1)
def qtT (w:Wld) (i:Nat):Wld:=X4 (qtP w i) i ((qtP w i).2.2.1.getD i Ae).2.2.2.length
def qtN (w:Wld) (i:Nat):Wld:=(Sq (qtT w i) i Ip).2
def NW (w v:Wld):Prop:=∃ ns,v=wN w ns∧NO w.2.2.1 ns
def NW.refl {w:Wld} (h:WO w):NW w w:=⟨w.2.2.1,rfl,h.ns,rfl⟩
def NW.trans {u v w:Wld} (h1:NW u v) (h2:NW v w):NW u w:=by
 obtain⟨a,rfl,ha⟩:=h1
 obtain⟨b,rfl,hb⟩:=h2
 exact⟨b,rfl,hb.1,hb.2.trans ha.2⟩
def NW.wo {w v:Wld} (h:NW w v) (hw:WO w):WO v:=by
 obtain⟨ns,rfl,hn⟩:=h
 exact hw.other hn
def NW.len {w v:Wld} (h:NW w v):v.2.2.1.length=w.2.2.1.length:=by
 obtain⟨ns,rfl,hn⟩:=h
 exact hn.len
def Lga {w:Wld} (h:WO w) {i:Nat} (hi:i<w.2.2.1.length) (s:ByteArray) (rc:List Int):NW w (Lu w i s rc).2:=Oea h.ns hi
def NW.sp {w v:Wld} (h:NW w v):v.2.2.2.2.2=w.2.2.2.2.2:=by obtain⟨ns,rfl,_⟩:=h;rfl

end Go.Proofs.YtiiekghlhfbmmaaGreat.Vf
