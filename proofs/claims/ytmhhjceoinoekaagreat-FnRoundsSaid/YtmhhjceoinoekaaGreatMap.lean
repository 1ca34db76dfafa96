import Derived.Test.YtmhhjceoinoekaaGreatMao
import Derived.Test.YtmhhjceoinoekaaGreatMak
set_option linter.all false
namespace Go.Proofs.YtmhhjceoinoekaaGreat.Vf
open Go
open List (length getD)
open Int (toNat)
open Go.IntKind (wrap)
open BitVec (ofInt)
def Iqb:=@List.getElem_map

def Dna {a b c:Stp} (h1:sle a b=false) (h2:sle b c=false):sle a c=false:=by
 cases h:sle a c
 ·rfl
 have n1:¬ _:=λ k=>by rw[Ru.2 k]at h1;cases h1
 have n2:¬ _:=λ k=>by rw[Ru.2 k]at h2;cases h2
 have h3:=Ru.1 h
 omega
def Bra {a b:Stp} (h:sle a b=true):sle b a=false:=by
 cases h':sle b a
 ·rfl
 have h1:=Ru.1 h
 have h2:=Ru.1 h'
 omega
def Ina (ws:List Wri):Prop:=∀ x∈ws,B1 x.1=true∧Fk x.2.1=true∧Ap x.2.1.2.2
def IsW (ws:List Wri) (s:ByteArray) (f:Fil):Prop:=∃ x∈ws,x.1=s∧x.2.1=f
def EO (ws:List Wri) (sp:List ByteArray) (s:ByteArray) (b:List Int):Prop:=∃ f,IsW ws s f∧(b=M8 f∨(s∈sp∧∃ n,n<8*(M8 f).length∧b=O7 (M8 f) n))
def ED (ws:List Wri) (sp:List ByteArray) (d:Dsk) (s:ByteArray):Prop:=
 (∀ b,gt d.1 s=some b→EO ws sp s b)∧(∀ b,gt d.2 s=some b→EO ws sp s b)∧
 (s∉sp→∀ b f,gt d.2 s=some b→Ol b=some f→∃ b' f',gt d.1 s=some b'∧Ol b'=some f'∧sle f'.1 f.1=false)
def DI (ws:List Wri) (sp:List ByteArray) (d:Dsk):Prop:=∀ s,ED ws sp d s
def HD (d:Dsk) (s:ByteArray) (st:Stp):Prop:=∃ b f,gt d.2 s=some b∧Ol b=some f∧sle f.1 st=false
def MO (sp:List ByteArray) (d d':Dsk):Prop:=∀ s,s∉sp→∀ st,HD d s st→HD d' s st
def IsW.good {ws:List Wri} (hw:Ina ws) {s:ByteArray} {f:Fil} (h:IsW ws s f):B1 s=true∧Fk f=true∧Ap f.2.2:=by
 obtain⟨x,hx,rfl,rfl⟩:=h
 exact hw x hx
def EO.get {ws:List Wri} {sp:List ByteArray} (hw:Ina ws) {s:ByteArray} {b:List Int} (h:EO ws sp s b) {f:Fil} (hf:Ol b=some f):IsW ws s f∧b=M8 f:=by
 obtain⟨g,h1,h2⟩:=h
 obtain⟨_,g2,g3⟩:=h1.good hw
 rcases h2 with rfl|⟨_,n,hn,rfl⟩
 ·rw[Y9 g2 g3]at hf
  cases hf
  exact⟨h1,rfl⟩
 ·rw[Xva g2 hn]at hf;cases hf
def EO.fine {ws:List Wri} {sp:List ByteArray} (hw:Ina ws) {s:ByteArray} {b:List Int} (h:EO ws sp s b) (hs:s∉sp):∃ f,Ol b=some f∧IsW ws s f:=by
 obtain⟨g,h1,h2⟩:=h
 obtain⟨_,g2,g3⟩:=h1.good hw
 rcases h2 with rfl|⟨h,_⟩
 ·exact⟨g,Y9 g2 g3,h1⟩
 ·exact absurd h hs
def EO.mono {ws ws':List Wri} {sp sp':List ByteArray} (h1:∀ x∈ws,x∈ws') (h2:∀ s∈sp,s∈sp') {s:ByteArray} {b:List Int} (h:EO ws sp s b):EO ws' sp' s b:=by
 obtain⟨g,⟨x,hx,e⟩,h3⟩:=h
 refine⟨g,⟨x,h1 x hx,e⟩,?_⟩
 rcases h3 with h3|⟨h3,h4⟩
 ·exact .inl h3
 ·exact .inr ⟨h2 s h3,h4⟩
def ED.mono {ws ws':List Wri} {sp sp':List ByteArray} (h1:∀ x∈ws,x∈ws') (h2:∀ s∈sp,s∈sp') {d:Dsk} {s:ByteArray} (h:ED ws sp d s):ED ws' sp' d s:=
 ⟨λ b hb=>(h.1 b hb).mono h1 h2,λ b hb=>(h.2.1 b hb).mono h1 h2,λ hs=>h.2.2 (λ c=>hs (h2 s c))⟩
def DI.mono {ws ws':List Wri} {sp sp':List ByteArray} (h1:∀ x∈ws,x∈ws') (h2:∀ s∈sp,s∈sp') {d:Dsk} (h:DI ws sp d):DI ws' sp' d:=λ s=>(h s).mono h1 h2
def ED.same {ws:List Wri} {sp:List ByteArray} {d d':Dsk} {s:ByteArray} (h:ED ws sp d s) (e1:gt d'.1 s=gt d.1 s) (e2:gt d'.2 s=gt d.2 s):ED ws sp d' s:=by
 unfold ED
 rw[e1,e2]
 exact h
def HD.same {d d':Dsk} {s:ByteArray} {st:Stp} (h:HD d s st) (e2:gt d'.2 s=gt d.2 s):HD d' s st:=by
 unfold HD
 rw[e2]
 exact h
def MO.refl (sp:List ByteArray) (d:Dsk):MO sp d d:=λ _ _ _ h=>h
def MO.trans {sp:List ByteArray} {a b c:Dsk} (h1:MO sp a b) (h2:MO sp b c):MO sp a c:=λ s hs st h=>h2 s hs st (h1 s hs st h)
section
variable {ws:List Wri} {sp:List ByteArray} {d:Dsk} {s:ByteArray}
def ED.ge (h:ED ws sp d s) (hs:s∉sp) {st:Stp} (hh:HD d s st):∃ b f,gt d.1 s=some b∧Ol b=some f∧sle f.1 st=false:=by
 obtain⟨b,f,h1,h2,h3⟩:=hh
 obtain⟨b',f',h4,h5,h6⟩:=h.2.2 hs b f h1 h2
 exact⟨b',f',h4,h5,Dna h6 h3⟩
def Cab (hd:Aj d=true) (h:DI ws sp d):DI ws sp (d.1,sy d s):=by
 intro t
 by_cases ht:s=t
 ·subst ht
  have e:gt (sy d s) s=gt d.1 s:=by rw[Kya hd,if_pos rfl]
  refine⟨(h s).1,λ b hb=>(h s).1 b (by rw[← e];exact hb),λ hs b f hb hf=>⟨b,f,by rw[← e];exact hb,hf,Ot _⟩⟩
 ·exact(h t).same rfl (by show gt (sy d s) t=_;rw[Kya hd,if_neg ht])
def Erb (hd:Aj d=true) (h:DI ws sp d):MO sp d (d.1,sy d s):=by
 intro t ht st hh
 by_cases hst:s=t
 ·subst hst
  obtain⟨b,f,h1,h2,h3⟩:=(h s).ge ht hh
  exact⟨b,f,by show gt (sy d s) s=_;rw[Kya hd,if_pos rfl,h1],h2,h3⟩
 ·exact hh.same (by show gt (sy d s) t=_;rw[Kya hd,if_neg hst])
def Fyb (hw:Ina ws) (hd:Aj d=true) (h:DI ws sp d) {f:Fil} (hf:IsW ws s f) (hn:∀ o,old d s=some o→sle o.1 f.1=true):DI ws sp (wr d.1 s (M8 f),d.2):=by
 intro t
 by_cases ht:s=t
 ·subst ht
  have e:gt (wr d.1 s (M8 f)) s=some (M8 f):=by rw[Kxa (Na hd),if_pos rfl]
  obtain⟨_,g2,g3⟩:=hf.good hw
  refine⟨λ b hb=>?_,(h s).2.1,λ hs b g hb hg=>⟨M8 f,f,e,Y9 g2 g3,?_⟩⟩
  ·rw[show gt (wr d.1 s (M8 f)) s=some b from hb]at e
   cases e
   exact⟨f,hf,.inl rfl⟩
  ·obtain⟨b',f',k1,k2,k3⟩:=(h s).2.2 hs b g hb hg
   have:=hn f' (by unfold old;rw[k1];exact k2)
   exact Dna (Bra this) k3
 ·exact(h t).same (by show gt (wr d.1 s (M8 f)) t=_;rw[Kxa (Na hd),if_neg ht]) rfl
def V8a (hw:Ina ws) (hd:DG d) (h:DI ws sp d) {f:Fil} {sure:Bool} (hf:IsW ws s f):DI ws sp (keep d s f sure).1∧MO sp d (keep d s f sure).1:=by
 obtain⟨g1,g2,g3⟩:=hf.good hw
 rw[Hza hd.1 g1 g2]
 rcases Dia (f:=f) (sure:=sure) hd g1 with k|⟨o,_,_,k,hg,h3⟩|⟨h1,h2,k,hg,h3⟩
 ·rw[k];exact⟨h,MO.refl _ _⟩
 ·rcases h3 with⟨_,h3⟩|⟨_,h3⟩
  ·rw[h3];exact⟨h,MO.refl _ _⟩
  ·rw[h3];exact⟨Cab hd.1 h,Erb hd.1 h⟩
 ·have hw':=Fyb hw hd.1 h hf h1
  rcases h3 with⟨_,h3⟩|⟨_,h3⟩
  ·rw[h3];exact⟨hw',λ t _ st hh=>hh.same rfl⟩
  ·rw[h3];exact⟨Cab h2.1 hw',(show MO sp d (wr d.1 s (M8 f),d.2) from λ t _ st hh=>hh.same rfl).trans (Erb h2.1 hw')⟩
def V9a (hw:Ina ws) (hd:DG d) {f:Fil} (hf:IsW ws s f) (hc:(keep d s f true).2=0∨(keep d s f true).2=1):HD (keep d s f true).1 s f.1:=by
 obtain⟨g1,g2,g3⟩:=hf.good hw
 rw[Hza hd.1 g1 g2]at hc ⊢
 obtain⟨o,g,b,ho,_,e,h1,h2,h3⟩:=Tya hd g1 g2 g3 hc
 rw[e]
 exact⟨b,g,by show gt (sy o s) s=_;rw[Kya ho.1,if_pos rfl,h1],h2,h3⟩
def Cbb (hd:DG d) (h:DI ws sp d) (kp:List Bool):DI ws sp (Tr d kp):=by
 intro t
 rcases Uka (d:=d) (kp:=kp) t with e|⟨e1,e2⟩
 ·rw[e];exact h t
 ·unfold ED
  rw[e1]
  have eo:∀ b,gt (Tr d kp).1 t=some b→EO ws sp t b:=by
   intro b hb
   rcases e2 with e2|e2
   ·exact(h t).1 b (by rw[← e2];exact hb)
   ·exact(h t).2.1 b (by rw[← e2];exact hb)
  exact⟨eo,eo,λ _ b f hb hf=>⟨b,f,hb,hf,Ot _⟩⟩
def Ccb (hd:DG d) (h:DI ws sp d) (kp:List Bool):MO sp d (Tr d kp):=by
 intro t ht st hh
 rcases Uka (d:=d) (kp:=kp) t with e|⟨e1,e2⟩
 ·rw[e];exact hh
 ·unfold HD
  rw[e1]
  rcases e2 with e2|e2
  ·rw[e2];exact(h t).ge ht hh
  ·rw[e2];exact hh
def Yea (hw:Ina ws) (hd:DG d) (h:DI ws sp d):DI ws sp (N8 d).1∧MO sp d (N8 d).1:=by
 obtain⟨_,hc⟩:=Bja d.1 (d,0) hd
 have hc':∀ t,(t∈Fma d.1→gt (N8 d).1.1 t=none∧gt (N8 d).1.2 t=none)∧(t∉Fma d.1→gt (N8 d).1.1 t=gt d.1 t∧gt (N8 d).1.2 t=gt d.2 t):=hc
 have hb:∀ t,t∈Fma d.1→t∈sp:=by
  intro t ht
  obtain⟨b,h1,h2⟩:=(Xza hd.1).1 ht
  by_cases hs:t∈sp
  ·exact hs
  ·obtain⟨f,hf,_⟩:=((h t).1 b h1).fine hw hs
   rw[hf]at h2;cases h2
 constructor
 ·intro t
  by_cases ht:t∈Fma d.1
  ·obtain⟨e1,e2⟩:=(hc' t).1 ht
   unfold ED
   rw[e1,e2]
   exact⟨λ b hb=>(by cases hb),λ b hb=>(by cases hb),λ _ b f hb=>(by cases hb)⟩
  ·obtain⟨e1,e2⟩:=(hc' t).2 ht
   exact(h t).same e1 e2
 ·intro t ht st hh
  exact hh.same ((hc' t).2 (λ c=>ht (hb t c))).2
def Esb (hd:DG d) (h:DI ws sp d) (hs:B1 s=true):DI ws sp (syD (rmD d s).1 s).1∧∀ t,t≠s→∀ st,HD d t st→HD (syD (rmD d s).1 s).1 t st:=by
 have hr:DI ws sp (rmD d s).1∨True := .inr trivial
 unfold rmD
 cases hg:gt d.1 s with
 |none=>
  have e:(bif (none:Option (List Int)).isSome then ((cut d.1 s,d.2),true) else (d,false)).1=d:=rfl
  rw[e]
  unfold syD
  by_cases hl:(sy d s).length≤60
  ·rw[decide_eq_true hl]
   exact⟨Cab hd.1 h,λ t ht st hh=>hh.same (by show gt (sy d s) t=_;rw[Kya hd.1,if_neg (I3b ht)])⟩
  ·rw[decide_eq_false hl];exact⟨h,λ t ht st hh=>hh⟩
 |some b=>
  have e:(bif (some b:Option (List Int)).isSome then ((cut d.1 s,d.2),true) else (d,false)).1=(cut d.1 s,d.2):=rfl
  rw[e]
  have hd':Aj (cut d.1 s,d.2)=true:=Dm.2 ⟨Xa (Dm.1 hd.1).1,(Dm.1 hd.1).2⟩
  have e1:∀ t,gt (cut d.1 s) t=if s=t then none else gt d.1 t:=λ t=>Ut (Na hd.1)
  have e2:∀ t,gt (sy (cut d.1 s,d.2) s) t=if s=t then none else gt d.2 t:=λ t=>by
   rw[Kya hd']
   by_cases hst:s=t
   ·rw[if_pos hst,if_pos hst];show gt (cut d.1 s) s=none;rw[e1,if_pos rfl]
   ·rw[if_neg hst,if_neg hst]
  have hlen:(sy (cut d.1 s,d.2) s).length≤60:=by
   have:sy (cut d.1 s,d.2) s=cut d.2 s:=by
    unfold sy
    have:=e1 s
    rw[if_pos rfl]at this
    rw[show gt (cut d.1 s,d.2).1 s=none from this]
   rw[this]
   exact Zs P8.length_le (Ah.1 (Dm.1 hd.1).2).2.2
  unfold syD
  rw[decide_eq_true hlen]
  constructor
  ·intro t
   show ED ws sp (cut d.1 s,sy (cut d.1 s,d.2) s) t
   by_cases hst:s=t
   ·unfold ED
    dsimp only
    rw[e1,e2,if_pos hst,if_pos hst]
    exact⟨λ b hb=>(by cases hb),λ b hb=>(by cases hb),λ _ b f hb=>(by cases hb)⟩
   ·exact(h t).same (by show gt (cut d.1 s) t=_;rw[e1,if_neg hst]) (by show gt (sy (cut d.1 s,d.2) s) t=_;rw[e2,if_neg hst])
  ·intro t ht st hh
   exact hh.same (by show gt (sy (cut d.1 s,d.2) s) t=_;rw[e2,if_neg (I3b ht)])
def Etb (hw:Ina ws) (hd:DG d) (h:DI ws sp d) {n:Int} (hl:(lkD d s).2=0) (hr:(J0a d s n).2=true) (sp':List ByteArray) (hsp:∀ t,t∈sp'↔t=s∨t∈sp):DI ws sp' (J0a d s n).1∧MO sp' d (J0a d s n).1∧∃ f,IsW ws s f:=by
 obtain⟨b,hb,hf⟩:=Q8.1 (show lkD d s=((lkD d s).1,0) by rw[← hl])
 obtain⟨hW,e⟩:=((h s).1 b hb).get hw hf
 have hsub:∀ t∈sp,t∈sp':=λ t ht=>(hsp t).2 (.inr ht)
 generalize (lkD d s).1=f at *
 unfold J0a at hr ⊢
 rw[hb]at hr ⊢
 dsimp only at hr ⊢
 cases hin:inR n 0 (8*(b.length:Int)-1)
 ·rw[hin]at hr;cases hr
 rw[cond_true]
 obtain⟨n0,n1⟩:=Eb.1 hin
 have hn:n.toNat<8*(M8 f).length:=by rw[← e];omega
 have e1:∀ t,gt (wr d.1 s (O7 b n.toNat)) t=if s=t then some (O7 b n.toNat) else gt d.1 t:=λ t=>Kxa (Na hd.1)
 have e2:∀ t,gt (bif decide (gt d.2 s=some b) then wr d.2 s (O7 b n.toNat) else d.2) t=if s=t∧gt d.2 s=some b then some (O7 b n.toNat) else gt d.2 t:=by
  intro t
  by_cases hg:gt d.2 s=some b
  ·rw[decide_eq_true hg,cond_true,Kxa (Qy hd.1)]
   by_cases hst:s=t
   ·rw[if_pos hst,if_pos ⟨hst,hg⟩]
   ·rw[if_neg hst,if_neg (λ c=>hst c.1)]
  ·rw[decide_eq_false hg,cond_false,if_neg (λ c=>hg c.2)]
 have hflip:EO ws sp' s (O7 b n.toNat):=⟨f,hW,.inr ⟨(hsp s).2 (.inl rfl),n.toNat,hn,by rw[e]⟩⟩
 refine⟨λ t=>?_,λ t ht st hh=>?_,f,hW⟩
 ·by_cases hst:s=t
  ·subst hst
   refine⟨λ x hx=>?_,λ x hx=>?_,λ c=>absurd ((hsp s).2 (.inl rfl)) c⟩
   ·have:=e1 s
    rw[if_pos rfl]at this
    rw[show gt (wr d.1 s (O7 b n.toNat)) s=some x from hx]at this
    cases this
    exact hflip
   ·have:=e2 s
    rw[show gt (bif decide (gt d.2 s=some b) then wr d.2 s (O7 b n.toNat) else d.2) s=some x from hx]at this
    by_cases hg:gt d.2 s=some b
    ·rw[if_pos ⟨rfl,hg⟩]at this
     cases this
     exact hflip
    ·rw[if_neg (λ c=>hg c.2)]at this
     exact((h s).2.1 x this.symm).mono (λ _ h=>h) hsub
  ·refine((h t).mono (λ _ h=>h) hsub).same ?_ ?_
   ·show gt (wr d.1 s (O7 b n.toNat)) t=_
    rw[e1,if_neg hst]
   ·show gt (bif decide (gt d.2 s=some b) then wr d.2 s (O7 b n.toNat) else d.2) t=_
    rw[e2,if_neg (λ c=>hst c.1)]
 ·have hst:s≠t:=λ c=>ht ((hsp t).2 (.inl c.symm))
  exact hh.same (by show gt (bif decide (gt d.2 s=some b) then wr d.2 s (O7 b n.toNat) else d.2) t=_;rw[e2,if_neg (λ c=>hst c.1)])
end

def NI (ws:List Wri) (sp:List ByteArray) (n:Nod):Prop:=NG n∧DI ws sp n.2.1∧(∀ r∈n.2.2.1,Cca ws r=true)∧∀ r∈n.2.2.2,Cca ws r=true
def KN (ns:List Nod) (s:ByteArray) (st:Stp):Prop:=∃ i,i<ns.length∧HD (ns.getD i Bo).2.1 s st
def MS (sp:List ByteArray) (ns ns':List Nod):Prop:=∀ s,s∉sp→∀ st,KN ns s st→KN ns' s st
def Bsa {ws:List Wri} {r:Row}:Cca ws r=true↔∃ x∈ws,Bca x.1 x.2.1=r:=by
 unfold Cca
 rw[Ilb]
 exact⟨λ ⟨x,h1,h2⟩=>⟨x,h1,Ija.1 h2⟩,λ ⟨x,h1,h2⟩=>⟨x,h1,Ija.2 h2⟩⟩
def Doa {ws ws':List Wri} (h:∀ x∈ws,x∈ws') {r:Row} (hr:Cca ws r=true):Cca ws' r=true:=by
 obtain⟨x,h1,h2⟩:=Bsa.1 hr
 exact Bsa.2 ⟨x,h x h1,h2⟩
def Yfa {ws:List Wri} {s:ByteArray} {f:Fil} (h:IsW ws s f):Cca ws (Bca s f)=true:=by
 obtain⟨x,h1,rfl,rfl⟩:=h
 exact Bsa.2 ⟨x,h1,rfl⟩
def NI.mono {ws ws':List Wri} {sp sp':List ByteArray} (h1:∀ x∈ws,x∈ws') (h2:∀ s∈sp,s∈sp') {n:Nod} (h:NI ws sp n):NI ws' sp' n:=
 ⟨h.1,h.2.1.mono h1 h2,λ r hr=>Doa h1 (h.2.2.1 r hr),λ r hr=>Doa h1 (h.2.2.2 r hr)⟩
def NR (ws:List Wri) (sp:List ByteArray) (ns ns':List Nod):Prop:=(∀ n∈ns',NI ws sp n)∧ns'.map (·.1)=ns.map (·.1)∧MS sp ns ns'
def NR.refl {ws:List Wri} {sp:List ByteArray} {ns:List Nod} (h:∀ n∈ns,NI ws sp n):NR ws sp ns ns:=⟨h,rfl,λ _ _ _ h=>h⟩
def NR.len {ws:List Wri} {sp:List ByteArray} {ns ns':List Nod} (h:NR ws sp ns ns'):ns'.length=ns.length:=by
 have:=congrArg length h.2.1
 rwa [Wh,Wh]at this
def Ns {α:Type} {l:List α} {i j:Nat} {x d:α} (hj:j<l.length):(l.set i x).getD j d=if i=j then x else l.getD j d:=by
 rw[Ve,List.getElem?_set]
 by_cases h:i=j
 ·subst h
  rw[if_pos rfl,if_pos rfl,if_pos hj]
  rfl
 ·rw[if_neg h,if_neg h,Ve]
def Lba {ns:List Nod} {i:Nat} {n:Nod} (hi:i<ns.length) (h:n.1=(ns.getD i Bo).1):(ns.set i n).map (·.1)=ns.map (·.1):=by
 refine Jgb (by simp) (λ j h1 h2=>?_)
 rw[Wh,Vz]at h1
 rw[Iqb,Iqb,Jhb]
 by_cases hij:i=j
 ·subst hij
  rw[if_pos rfl,h,Ve,Vk hi]
  rfl
 ·rw[if_neg hij]
def NR.set {ws:List Wri} {sp:List ByteArray} {ns ns':List Nod} (h:NR ws sp ns ns') {i:Nat} (hi:i<ns'.length) {n:Nod} (h1:NI ws sp n) (h2:n.1=(ns'.getD i Bo).1) (h3:MO sp (ns'.getD i Bo).2.1 n.2.1):NR ws sp ns (ns'.set i n):=by
 obtain⟨g1,g2,g3⟩:=h
 refine⟨λ m hm=>?_,by rw[Lba hi h2,g2],λ s hs st hk=>?_⟩
 ·rcases Xs hm with hm|rfl
  ·exact g1 m hm
  ·exact h1
 ·obtain⟨j,hj,hd⟩:=g3 s hs st hk
  refine⟨j,by rw[Vz];exact hj,?_⟩
  rw[Ns hj]
  by_cases hij:i=j
  ·subst hij;rw[if_pos rfl];exact h3 s hs st hd
  ·rw[if_neg hij];exact hd
section
variable {ws:List Wri} {sp:List ByteArray} {n:Nod} {s:ByteArray} {f:Fil}
def Cdb (hw:Ina ws) (h:NI ws sp n) (hf:IsW ws s f) (sure:Bool):NI ws sp (Xb n s f sure).1∧(Xb n s f sure).1.1=n.1∧MO sp n.2.1 (Xb n s f sure).1.2.1:=by
 obtain⟨g1,g2,g3⟩:=hf.good hw
 obtain⟨h1,h2,h3,h4⟩:=h
 have hg:=Npa (sure:=sure) h1 g1 g2
 obtain⟨k1,k2⟩:=V8a (sure:=sure) hw h1.g h2 hf
 unfold Xb at hg ⊢
 cases hq:(n.2.2.2.length:Int)==60
 case true=>exact⟨⟨h1,h2,h3,h4⟩,rfl,MO.refl _ _⟩
 rw[hq]at hg
 refine⟨⟨hg,k1,h3,?_⟩,rfl,k2⟩
 show ∀ r∈bif (keep n.2.1 s f sure).2==0&&sure then n.2.2.2++[Bca s f] else n.2.2.2,Cca ws r=true
 cases (keep n.2.1 s f sure).2==0&&sure
 ·exact h4
 intro r hr
 rcases Vo.1 hr with hr|hr
 ·exact h4 r hr
 ·rw[Vu.1 hr];exact Yfa hf
def Ceb (hw:Ina ws) (h:NI ws sp n) (hf:IsW ws s f) (hc:(Xb n s f true).2=0∨(Xb n s f true).2=1):HD (Xb n s f true).1.2.1 s f.1:=by
 unfold Xb at hc ⊢
 cases hq:((n.2.2.2.length:Int)==60) with
 |true=>rw[hq]at hc;rcases hc with hc|hc<;>cases hc
 |false=>rw[hq]at hc;exact V9a hw h.1.g hf hc
def Fzb (h:NI ws sp n) {l:List Row} (hl:Kj l=true) (hr:∀ r∈l,Cca ws r=true):NI ws sp (tk n l).2∧(tk n l).2.1=n.1∧(tk n l).2.2.1=n.2.1:=by
 obtain⟨h1,h2,h3,h4⟩:=h
 have hg:=Fwb h1 hl
 unfold tk at hg ⊢
 cases hq:decide ((Tv n.2.2.1 l).length > 60)
 case true=>exact⟨⟨h1,h2,h3,h4⟩,rfl,rfl⟩
 rw[hq]at hg
 exact⟨⟨hg,h2,λ r hr'=>(N0a hr').elim (h3 r) (hr r),h4⟩,rfl,rfl⟩
end
def Eub {ws:List Wri} {sp:List ByteArray} {ns:List Nod} {R:Int} {rc:List Int} {s:ByteArray} {f:Fil} {cs:List Int} {a:List Nod×Int×Int} {j:Nat} (hw:Ina ws) (hf:IsW ws s f)
  (h:NR ws sp ns a.1∧(s∉sp→a.2.2≥1→KN a.1 s f.1)∧a.2.2≥0) (hc:(cs.getD j 0).toNat<ns.length):
  NR ws sp ns (wst R rc s f cs a j).1∧(s∉sp→(wst R rc s f cs a j).2.2≥1→KN (wst R rc s f cs a j).1 s f.1)∧(wst R rc s f cs a j).2.2≥0:=by
 obtain⟨h1,h2,h3⟩:=h
 unfold wst
 cases decide (a.2.1<R)
 ·exact⟨h1,h2,h3⟩
 cases rch rc j==0
 case true=>exact⟨h1,h2,h3⟩
 rw[cond_true,cond_false]
 have hi:(cs.getD j 0).toNat<a.1.length:=by rw[h1.len];exact hc
 generalize (cs.getD j 0).toNat=i at *
 have hn:=h1.1 _ (A4 (d:=Bo) hi)
 obtain⟨p1,p2,p3⟩:=Cdb hw hn hf (rch rc j != 3)
 refine⟨h1.set hi p1 p2 p3,λ hs hg=>?_,?_⟩
 ·cases hr:rch rc j==1&&((Xb (a.1.getD i Bo) s f (rch rc j != 3)).2==0||(Xb (a.1.getD i Bo) s f (rch rc j != 3)).2==1) with
  |true=>
   rw[Va,Gzb,beq_iff_eq,beq_iff_eq,beq_iff_eq]at hr
   have e:(rch rc j != 3)=true:=by rw[hr.1];rfl
   rw[e]at hr ⊢
   refine⟨i,by rw[Vz];exact hi,?_⟩
   rw[Ns hi,if_pos rfl]
   exact Ceb hw hn hf hr.2
  |false=>
   rw[hr]at hg
   obtain⟨m,hm,hd⟩:=h2 hs hg
   refine⟨m,by rw[Vz];exact hm,?_⟩
   rw[Ns hm]
   by_cases hij:i=m
   ·subst hij;rw[if_pos rfl];exact p3 s hs _ hd
   ·rw[if_neg hij];exact hd
 ·dsimp only
  cases rch rc j==1&&((Xb (a.1.getD i Bo) s f (rch rc j != 3)).2==0||(Xb (a.1.getD i Bo) s f (rch rc j != 3)).2==1)
  ·exact h3
  ·rw[cond_true];omega
def Evb {ws:List Wri} {sp:List ByteArray} {w:Wld} {rc:List Int} {s:ByteArray} {f:Fil} (hw:Ina ws) (hf:IsW ws s f) (hn:∀ n∈w.2.2.1,NI ws sp n):
  NR ws sp w.2.2.1 (wrN w s f rc).1∧(s∉sp→(wrN w s f rc).2.2≥1→KN (wrN w s f rc).1 s f.1)∧(wrN w s f rc).2.2≥0:=
 Nb (λ _ (a:List Nod×Int×Int)=>NR ws sp w.2.2.1 a.1∧(s∉sp→a.2.2≥1→KN a.1 s f.1)∧a.2.2≥0) ⟨NR.refl hn,λ _ h=>absurd h (show ¬ (0:Int)≥1 by omega),Gvb _⟩
  (λ j b hj hb=>Eub hw hf hb (by have:=Tt (A4 (d:=0) hj);omega))
def Ewb {ws:List Wri} {sp:List ByteArray} {ns:List Nod} {rc:List Int} {s:ByteArray} {f:Fil} {ps:List Int} {a:List Nod×Bool×Bool} {src j:Nat} (hw:Ina ws) (hf:IsW ws s f) (hsrc:src<ns.length)
  (h:NR ws sp ns a.1∧(a.2.1=false→a.1.getD src Bo=ns.getD src Bo∧(a.2.2=true→0<j→∃ i,i≠src∧i<ns.length∧HD (a.1.getD i Bo).2.1 s f.1))) (hc:(ps.getD j 0).toNat<ns.length) (hc0:0≤ps.getD j 0):
  NR ws sp ns (pst (src:Int) s f rc ps a j).1∧((pst (src:Int) s f rc ps a j).2.1=false→(pst (src:Int) s f rc ps a j).1.getD src Bo=ns.getD src Bo∧((pst (src:Int) s f rc ps a j).2.2=true→0<j+1→∃ i,i≠src∧i<ns.length∧HD ((pst (src:Int) s f rc ps a j).1.getD i Bo).2.1 s f.1)):=by
 obtain⟨h1,h2⟩:=h
 unfold pst
 cases hz:ps.getD j 0==(src:Int)
 case true=>exact⟨h1,λ c=>by cases c⟩
 have hne:(ps.getD j 0).toNat≠src:=by
  have:=beq_eq_false_iff_ne.1 hz
  omega
 cases hr:rch rc j != 1
 case true=>exact⟨h1,λ c=>⟨(h2 c).1,λ c'=>by cases c'⟩⟩
 rw[cond_false,cond_false]
 have hi:(ps.getD j 0).toNat<a.1.length:=by rw[h1.len];exact hc
 generalize (ps.getD j 0).toNat=i at *
 have hn:=h1.1 _ (A4 (d:=Bo) hi)
 obtain⟨k1,k2⟩:=V8a (sure:=true) hw hn.1.g hn.2.1 hf
 refine⟨h1.set hi ⟨Laa hn.1,k1,hn.2.2⟩ rfl k2,λ c=>⟨?_,λ c' _=>?_⟩⟩
 ·show (a.1.set i _).getD src Bo=_
  rw[Ns (by rw[h1.len];exact hsrc),if_neg hne]
  exact(h2 c).1
 ·refine⟨i,hne,hc,?_⟩
  show HD ((a.1.set i _).getD i Bo).2.1 s f.1
  rw[Ns hi,if_pos rfl]
  refine V9a hw hn.1.g hf ?_
  cases hk:(keep (a.1.getD i Bo).2.1 s f true).2 != 0&&(keep (a.1.getD i Bo).2.1 s f true).2 != 1 with
  |true=>
   have:(bif (keep (a.1.getD i Bo).2.1 s f true).2 != 0&&(keep (a.1.getD i Bo).2.1 s f true).2 != 1 then false else a.2.2)=true:=c'
   rw[hk]at this
   cases this
  |false=>
   rw[Jkb,bne,bne,Wj,Wj,beq_iff_eq,beq_iff_eq]at hk
   exact hk
def Exb {ws:List Wri} {sp:List ByteArray} {w:Wld} {rc:List Int} {s:ByteArray} {i:Nat} (hw:Ina ws) (hn:∀ n∈w.2.2.1,NI ws sp n) (hi:i<w.2.2.1.length) (hf:IsW ws s (lkD (w.2.2.1.getD i Bo).2.1 s).1):
  NR ws sp w.2.2.1 (puN w i s rc).1∧((puN w i s rc).2.1=false→(puN w i s rc).1.getD i Bo=w.2.2.1.getD i Bo∧((puN w i s rc).2.2=true→0<(Oq w s).length→∃ j,j≠i∧j<w.2.2.1.length∧HD ((puN w i s rc).1.getD j Bo).2.1 s (lkD (w.2.2.1.getD i Bo).2.1 s).1.1)):=
 Nb (λ n (a:List Nod×Bool×Bool)=>NR ws sp w.2.2.1 a.1∧(a.2.1=false→a.1.getD i Bo=w.2.2.1.getD i Bo∧(a.2.2=true→0<n→∃ j,j≠i∧j<w.2.2.1.length∧HD (a.1.getD j Bo).2.1 s (lkD (w.2.2.1.getD i Bo).2.1 s).1.1))) ⟨NR.refl hn,λ _=>⟨rfl,λ _ c=>absurd c (Nat.lt_irrefl _)⟩⟩
  (λ j b hj hb=>Ewb hw hf hi hb (by have:=Sw (A4 (d:=0) hj);omega) (Sw (A4 (d:=0) hj)).1)
def Vaa {w:Wld} {s:ByteArray} (hr:Jd w.2.1 w.1=true) (hid:w.2.2.1.map (·.1)=w.1.map (·.1)):0<(Oq w s).length:=by
 obtain⟨_,p2,p3⟩:=Faa hr s
 have h5:=(D5.1 hr).2.1
 obtain⟨id,hidm⟩:=Inb (l:=Wx w.2.1 s) (by omega)
 have:=S5.1 (p3 id hidm)
 rw[← hid]at this
 obtain⟨n,hn,rfl⟩:=Yx.1 this
 obtain⟨j,hj,rfl⟩:=Zw.1 hn
 have hm:(j:Int)∈Oq w s:=Fga.2 ⟨j,hj,by rw[Ve,Vk hj];exact hidm,rfl⟩
 exact Hrb hm
def Yga {ws:List Wri} {sp:List ByteArray} {w:Wld} {rc:List Int} {s:ByteArray} {i:Nat} (hw:Ina ws) (hn:∀ n∈w.2.2.1,NI ws sp n) (hi:i<w.2.2.1.length) (hr:Jd w.2.1 w.1=true) (hid:w.2.2.1.map (·.1)=w.1.map (·.1)):
  ∃ ns,(Xq w i s rc).2=wN w ns∧NR ws sp w.2.2.1 ns:=by
 have hni:=hn _ (A4 (d:=Bo) hi)
 unfold Xq
 cases hl:(lkD (w.2.2.1.getD i Bo).2.1 s).2 != 0
 case true=>exact⟨w.2.2.1,rfl,NR.refl hn⟩
 rw[bne,Wj,beq_iff_eq]at hl
 obtain⟨b,hb,hg⟩:=Q8.1 (show lkD (w.2.2.1.getD i Bo).2.1 s=((lkD (w.2.2.1.getD i Bo).2.1 s).1,0) from by rw[← hl])
 have hf:IsW ws s (lkD (w.2.2.1.getD i Bo).2.1 s).1:=(((hni.2.1 s).1 b hb).get hw hg).1
 obtain⟨h1,h2⟩:=Exb (rc:=rc) hw hn hi hf
 refine⟨_,rfl,?_⟩
 cases hc:(puN w i s rc).2.2&&!(puN w i s rc).2.1
 ·exact h1
 rw[Va,Vv]at hc
 obtain⟨h3,h4⟩:=h2 hc.2
 obtain⟨j,hj,hjl,hd⟩:=h4 hc.1 (Vaa hr hid)
 rw[cond_true,h3]
 obtain⟨g1,_,_⟩:=hf.good hw
 have hi':i<(puN w i s rc).1.length:=by rw[h1.len];exact hi
 obtain⟨o1,o2⟩:=Esb (s:=s) hni.1.g hni.2.1 g1
 refine⟨λ m hm=>?_,by rw[Lba hi' (by rw[h3];rfl),h1.2.1],λ t ht st hk=>?_⟩
 ·rcases Xs hm with hm|rfl
  ·exact h1.1 m hm
  ·exact⟨Zwa hni.1 g1,o1,hni.2.2⟩
 ·obtain⟨m,hm,hh⟩:=h1.2.2 t ht st hk
  by_cases hmi:m=i
  ·subst hmi
   rw[h3]at hh
   by_cases hts:t=s
   ·subst hts
    obtain⟨b',f',e1,e2,e3⟩:=(hni.2.1 t).ge ht hh
    rw[hb]at e1
    cases e1
    rw[hg]at e2
    cases e2
    obtain⟨c,g,k1,k2,k3⟩:=hd
    refine⟨j,by rw[Vz,h1.len];exact hjl,?_⟩
    rw[Ns (by rw[h1.len];exact hjl),if_neg (I3b hj)]
    exact⟨c,g,k1,k2,Dna k3 e3⟩
   ·refine⟨m,by rw[Vz];exact hm,?_⟩
    rw[Ns hm,if_pos rfl]
    exact o2 t hts st hh
  ·refine⟨m,by rw[Vz];exact hm,?_⟩
   rw[Ns hm,if_neg (I3b hmi)]
   exact hh
def O8a {ws:List Wri} {sp:List ByteArray} {w:Wld} {src:Int} {l:List Row} {self:Bool} {rc:List Int} (hn:∀ n∈w.2.2.1,NI ws sp n) (hl:Kj l=true) (hr:∀ r∈l,Cca ws r=true):NR ws sp w.2.2.1 (Mo w src l self rc).1:=by
 refine Nb (λ _ (a:List Nod×Bool)=>NR ws sp w.2.2.1 a.1) (NR.refl hn) (λ j b hj hb=>?_)
 have hc:=Ov (A4 (d:=0) hj)
 unfold gst
 cases (I0 w).getD j 0==src&&!self
 case true=>exact hb
 cases rch rc j != 1
 case true=>exact hb
 have hi:((I0 w).getD j 0).toNat<b.1.length:=by rw[hb.len];omega
 obtain⟨t1,t2,t3⟩:=Fzb (hb.1 _ (A4 (d:=Bo) hi)) hl hr
 exact hb.set hi t1 t2 (by rw[t3];exact MO.refl _ _)
def Yha {ws:List Wri} {sp:List ByteArray} {w:Wld} {rc:List Int} {i:Nat} (hn:∀ n∈w.2.2.1,NI ws sp n) (hi:i<w.2.2.1.length):∃ ns,(Xr w i rc).2=wN w ns∧NR ws sp w.2.2.1 ns:=by
 have hni:=hn _ (A4 (d:=Bo) hi)
 have hl:=(C8.1 hni.1.1).2.2.2.1
 unfold Xr
 cases ((w.2.2.1.getD i Bo).2.2.1.length:Int)==0
 case true=>exact⟨w.2.2.1,rfl,NR.refl hn⟩
 refine⟨_,rfl,?_⟩
 have hg:NR ws sp w.2.2.1 (Rb w i rc).1:=O8a hn hl hni.2.2.1
 cases (Rb w i rc).2&&!(Ou (I0 (wN w (Rb w i rc).1)) (i:Int))
 ·exact hg
 have hi':i<(Rb w i rc).1.length:=by rw[hg.len];exact hi
 have hm:=hg.1 _ (A4 (d:=Bo) hi')
 exact hg.set hi' ⟨O7a hm.1,hm.2.1,(λ _ h=>nomatch h),hm.2.2.2⟩ rfl (MO.refl _ _)
def Yia {ws:List Wri} {sp:List ByteArray} {w:Wld} {rc:List Int} {i:Nat} (hn:∀ n∈w.2.2.1,NI ws sp n) (hi:i<w.2.2.1.length):∃ ns,(Xt w i rc).2=wN w ns∧NR ws sp w.2.2.1 ns:=by
 have hni:=hn _ (A4 (d:=Bo) hi)
 obtain⟨hq,_,_,_,hq60⟩:=C8.1 hni.1.1
 unfold Xt
 cases ((w.2.2.1.getD i Bo).2.2.2.length:Int)==0
 case true=>exact⟨w.2.2.1,rfl,NR.refl hn⟩
 refine⟨_,rfl,?_⟩
 have hg:NR ws sp w.2.2.1 (S7 w i rc).1:=O8a hn (R4 hq) (λ r hr=>hni.2.2.2 r (Hgb hr))
 cases (S7 w i rc).2
 ·exact hg
 have hi':i<(S7 w i rc).1.length:=by rw[hg.len];exact hi
 have hm:=hg.1 _ (A4 (d:=Bo) hi')
 exact hg.set hi' ⟨Zya hm.1 (λ r hr=>hq r (Zj hr)) (by rw[Wd];omega),hm.2.1,hm.2.2.1,λ r hr=>hni.2.2.2 r (Zj hr)⟩ rfl (MO.refl _ _)

structure WI (w:Wld):Prop where
 ring:Jd w.2.1 w.1=true
 ids:w.2.2.1.map (·.1)=w.1.map (·.1)
 nodes:∀ n∈w.2.2.1,NI w.2.2.2.2.1 w.2.2.2.2.2 n
 clk:Gw w.2.2.2.1=true
 wlen:w.2.2.2.2.1.length≤200
 wok:Ina w.2.2.2.2.1
 wge:∀ x∈w.2.2.2.2.1,sle w.2.2.2.1 x.2.1.1=false
 asc:w.2.2.2.2.1.Pairwise (λ a b=>sle a.2.1.1 b.2.1.1=true)
 kept:∀ x∈w.2.2.2.2.1,x.2.2=true→x.1∉w.2.2.2.2.2→KN w.2.2.1 x.1 x.2.1.1
 sps:TS w.2.2.2.2.2
 spw:∀ s∈w.2.2.2.2.2,∃ x∈w.2.2.2.2.1,x.1=s
theorem G0b:LawfulBEq ByteArray := { eq_of_beq:=λ {a b} h=>Jl.1 (by rw[← Y6];exact h),rfl:=λ {a}=>by rw[Y6];exact Jl.2 rfl }
def Ioa:∀ (p q:List ByteArray),p.Nodup→(∀ x∈p,x∈q)→p.length≤q.length
 |[],_,_,_=>Vs _
 |x::p,q,h,hs=>by
  haveI:=G0b
  obtain⟨h1,h2⟩:=Yt.1 h
  have hx:=hs x Za
  have hlen:(q.erase x).length=q.length-1:=I1b hx
  have hpos:=Hrb hx
  have:=Ioa p (q.erase x) h2 (λ y hy=>(Isb (λ c=>by subst c;exact h1 hy)).2 (hs y (Vj _ hy)))
  rw[Vc]
  omega
namespace WI
variable {w:Wld}
def splen (h:WI w):w.2.2.2.2.2.length≤200:=by
 have hn:w.2.2.2.2.2.Nodup:=h.sps.imp (λ {a b} hab e=>by subst e;rw[M1]at hab;cases hab)
 have:=Ioa _ (w.2.2.2.2.1.map (·.1)) hn (λ s hs=>by
  obtain⟨x,hx,e⟩:=h.spw s hs
  exact Yx.2 ⟨x,hx,e⟩)
 rw[Wh]at this
 have:=h.wlen
 omega
def nlen (h:WI w):w.2.2.1.length=w.1.length:=by
 have:=congrArg length h.ids
 rwa [Wh,Wh]at this
def dlen (h:WI w):1≤w.1.length∧w.1.length≤12:=(Gy.1 (D5.1 h.ring).1).2.2
def ns (h:WI w):NS w.2.2.1:=⟨by have:=h.nlen;have:=h.dlen;omega,λ n hn=>(h.nodes n hn).1⟩
def win (h:WI w):WIn w:=by
 have h1:=h.nlen
 have h2:=h.dlen
 have h3:=h.wlen
 have h4:=h.splen
 refine⟨N1 h.ring,by omega,⟨by omega,λ n hn=>Sy (h.nodes n hn).1⟩,⟨by omega,λ x hx=>Ja (h.wok x hx).1⟩,by omega,λ s hs=>?_⟩
 obtain⟨x,hx,e⟩:=h.spw s hs
 rw[← e]
 exact Ja (h.wok x hx).1
def other (h:WI w) {ns:List Nod} (hn:NR w.2.2.2.2.1 w.2.2.2.2.2 w.2.2.1 ns):WI (wN w ns):=
 ⟨h.ring,hn.2.1.trans h.ids,hn.1,h.clk,h.wlen,h.wok,h.wge,h.asc,λ x hx hk hs=>hn.2.2 _ hs _ (h.kept x hx hk hs),h.sps,h.spw⟩
def other' (h:WI w) {r:Bool×Wld} (hr:∃ ns,r.2=wN w ns∧NR w.2.2.2.2.1 w.2.2.2.2.2 w.2.2.1 ns):WI r.2:=by
 obtain⟨ns,e,hn⟩:=hr
 rw[e]
 exact h.other hn
def write (h:WI w) {s:ByteArray} {f:Fil} {rc:List Int} (hs:B1 s=true) (hf:Fk f=true) (hb:Ap f.2.2) (hc:sle w.2.2.2.1 f.1=true) (hl:w.2.2.2.2.1.length<200):WI (Bqa (w.1,w.2.1,w.2.2.1,f.1,w.2.2.2.2) s f rc).2:=by
 obtain⟨g1,g2,g3⟩:=Evb (ws:=w.2.2.2.2.1++[(s,f,decide ((wrN (w.1,w.2.1,w.2.2.1,f.1,w.2.2.2.2) s f rc).2.2≥quo w.2.1.1))]) (sp:=w.2.2.2.2.2) (w:=(w.1,w.2.1,w.2.2.1,f.1,w.2.2.2.2)) (rc:=rc) (s:=s) (f:=f)
  (λ x hx=>by
   rcases Vo.1 hx with hx|hx
   ·exact h.wok x hx
   ·rw[Vu.1 hx];exact⟨hs,hf,hb⟩)
  ⟨_,Vo.2 (.inr (Vu.2 rfl)),rfl,rfl⟩
  (λ n hn=>(h.nodes n hn).mono (λ x hx=>Vo.2 (.inl hx)) (λ _ h=>h))
 unfold Bqa
 generalize wrN (w.1,w.2.1,w.2.2.1,f.1,w.2.2.2.2) s f rc=a at *
 have hq:quo w.2.1.1≥1:=by
  have:=(D5.1 h.ring).2.1
  unfold quo
  omega
 exact {
  ring:=h.ring
  ids:=g1.2.1.trans h.ids
  nodes:=g1.1
  clk:=(Km.1 hf).1
  wlen:=by show (w.2.2.2.2.1++[_]).length≤200;rw[Vd];simp only[Vc,Vh];omega
  wok:=λ x hx=>by
   rcases Vo.1 hx with hx|hx
   ·exact h.wok x hx
   ·rw[Vu.1 hx];exact⟨hs,hf,hb⟩
  wge:=λ x hx=>by
   rcases Vo.1 hx with hx|hx
   ·exact Dna (Bra hc) (h.wge x hx)
   ·rw[Vu.1 hx];exact Ot _
  asc:=Zc.2 ⟨h.asc,Iab _ _,λ x hx y hy=>by
   rw[Vu.1 hy]
   have:=h.wge x hx
   cases hxy:sle x.2.1.1 f.1
   case true=>rfl
   have:=Dna this hxy
   rw[this]at hc
   cases hc⟩
  kept:=λ x hx hk hsp=>by
   rcases Vo.1 hx with hx|hx
   ·exact g1.2.2 _ hsp _ (h.kept x hx hk hsp)
   ·rw[Vu.1 hx]at hk hsp ⊢
    have hk':a.2.2≥quo w.2.1.1:=of_decide_eq_true hk
    exact g2 hsp (by omega)
  sps:=h.sps
  spw:=λ s hs=>by
   obtain⟨x,hx,e⟩:=h.spw s hs
   exact⟨x,Vo.2 (.inl hx),e⟩ }
def ask (h:WI w) {s:ByteArray} {f:Fil} {t:Int} {rc:List Int} (hb:Ap f.2.2) (hd:f.2.1=true→f.2.2=[]):WI (ask w s f t rc).2:=by
 unfold Vf.ask
 cases hs:B1 s
 ·exact h
 rw[Zf,cond_false]
 by_cases hl:(f.2.2.length:Int) > 200
 ·rw[decide_eq_true hl];exact h
 ·rw[decide_eq_false hl,cond_false]
  cases inR t 0 1000000000
  ·exact h
  rw[Zf,cond_false]
  cases hw:(w.2.2.2.2.1.length:Int)==200
  case true=>exact h
  rw[cond_false]
  have hw':=beq_eq_false_iff_ne.1 hw
  have hwl:=h.wlen
  obtain⟨n1,n2⟩:=Fha h.clk t 0
  cases he:(Nr w.2.2.2.1 t 0).1==w.2.2.2.1.1&&((Nr w.2.2.2.1 t 0).2.1==w.2.2.2.1.2.1&&(Nr w.2.2.2.1 t 0).2.2==w.2.2.2.1.2.2)
  case true=>exact h
  rw[cond_false]
  have hlt:sle w.2.2.2.1 (Nr w.2.2.2.1 t 0)=true:=by
   rcases n2 with n2|n2
   ·rw[n2,beq_self_eq_true,beq_self_eq_true,beq_self_eq_true]at he;cases he
   ·exact n2
  exact h.write (f:=(Nr w.2.2.2.1 t 0,f.2)) hs (Km.2 ⟨n1,by show f.2.2.length≤200;omega,hd⟩) hb hlt (by omega)
def rot (h:WI w) {i:Nat} (hi:i<w.2.2.1.length) {s:ByteArray} {b:Int}:WI (C9b w i s b).2:=by
 have hni:=h.nodes _ (A4 (d:=Bo) hi)
 unfold C9b
 cases hr:(L0a (w.2.2.1.getD i Bo) s b).2
 ·exact h
 have hg:=U0a (s:=s) (b:=b) hni.1
 unfold L0a at hr hg ⊢
 cases hc:Mx (w.2.2.1.getD i Bo)&&((lkD (w.2.2.1.getD i Bo).2.1 s).2==0&&(J0a (w.2.2.1.getD i Bo).2.1 s b).2)
 ·rw[hc]at hr;cases hr
 rw[hc]at hg
 rw[Va,Va,beq_iff_eq]at hc
 obtain⟨d1,d2,f,hf⟩:=Etb h.wok hni.1.g hni.2.1 hc.2.1 hc.2.2 (spl w.2.2.2.2.2 s) (λ t=>Fia)
 have hsub:∀ t∈w.2.2.2.2.2,t∈spl w.2.2.2.2.2 s:=λ t ht=>Fia.2 (.inr ht)
 have hN:NR w.2.2.2.2.1 (spl w.2.2.2.2.2 s) w.2.2.1 (w.2.2.1.set i ((w.2.2.1.getD i Bo).1,(J0a (w.2.2.1.getD i Bo).2.1 s b).1,(w.2.2.1.getD i Bo).2.2)):=
  (NR.refl (λ n hn=>(h.nodes n hn).mono (λ _ h=>h) hsub)).set hi ⟨hg,d1,hni.2.2⟩ rfl d2
 exact {
  ring:=h.ring
  ids:=hN.2.1.trans h.ids
  nodes:=hN.1
  clk:=h.clk
  wlen:=h.wlen
  wok:=h.wok
  wge:=h.wge
  asc:=h.asc
  kept:=λ x hx hk hs=>hN.2.2 _ hs _ (h.kept x hx hk (λ c=>hs (hsub _ c)))
  sps:=Dma h.sps
  spw:=λ t ht=>by
   rcases Fia.1 ht with rfl|ht
   ·obtain⟨x,hx,e,_⟩:=hf
    exact⟨x,hx,e⟩
   ·exact h.spw t ht }
def node (h:WI w) {i:Nat} (hi:i<w.2.2.1.length) {e:Evt}:WI (Cda w e i).2:=by
 have hni:=h.nodes _ (A4 (d:=Bo) hi)
 unfold Cda
 cases e.1==3
 case true=>exact h.other' (Yga h.wok h.nodes hi h.ring h.ids)
 cases e.1==4
 case true=>exact h.other' (Yha h.nodes hi)
 cases e.1==5
 case true=>exact h.other' (Yia h.nodes hi)
 cases e.1==6 with
 |true=>
  obtain⟨c1,c2⟩:=Yea h.wok hni.1.g hni.2.1
  exact h.other ((NR.refl h.nodes).set hi ⟨Uqa hni.1,c1,hni.2.2⟩ rfl c2)
 |false=>
  cases e.1==7 with
  |true=>exact h.other ((NR.refl h.nodes).set hi ⟨Epb hni.1,Cbb hni.1.g hni.2.1 _,hni.2.2⟩ rfl (Ccb hni.1.g hni.2.1 _))
  |false=>exact h.rot hi
def weigh (h:WI w) {i t:Int}:WI (Ima w i t).2:=by
 unfold Ima
 cases h1:inR i 0 ((w.1.length:Int)-1)
 ·exact h
 cases h2:inR t 1 1000
 ·exact h
 obtain⟨i0,i1⟩:=Eb.1 h1
 obtain⟨w0,w1⟩:=Eb.1 h2
 exact⟨(Nza (F5a h.ring (by omega) w0 w1)).1,h.ids.trans (F4a _ _ _).symm,h.nodes,h.clk,h.wlen,h.wok,h.wge,h.asc,h.kept,h.sps,h.spw⟩
def ev (h:WI w) {e:Evt} (hb:Ap e.2.2.2.1):WI (doW w e).2:=by
 have ae:∀ {q:Int×Wld},WI q.2→WI (Vha q).2:=λ {q} hq=>by
  unfold Vha
  cases q.1 != 2<;>exact hq
 unfold doW
 cases e.1==1
 case true=>exact ae (h.ask hb (λ c=>by cases c))
 cases e.1==2
 case true=>exact ae (h.ask Nq (λ _=>rfl))
 cases e.1==3||(e.1==4||(e.1==5||(e.1==6||(e.1==7||e.1==8)))) with
 |true=>
  cases hi:inR e.2.1 0 ((w.2.2.1.length:Int)-1)
  ·exact h
  have:=Eb.1 hi
  exact h.node (by omega)
 |false=>
  cases e.1==9 with
  |true=>exact h.weigh
  |false=>exact h
end WI

def Gab (l:List Dev) (last:Int):Prop:=l.Pairwise (λ a b=>a.1<b.1)∧∀ d∈l,(0≤d.1∧d.1≤last)∧(0≤d.2.1∧d.2.1≤20)∧1≤d.2.2∧d.2.2≤1000
def Vba (z:Int) (hz:1≤z∧z≤20):∀ (n:Nat) (i:Int) (l:List Dev) (last:Int) (c:Cur),i=n→n≤6→Db c→Gab l last→0≤last→last+2*n≤12→l.length+n≤6→
  Tot (λ k=>Hr k l z last i c) (λ r=>(∃ last,Gab r.1 last∧last≤20)∧r.1.length=l.length+n∧Db r.2):=by
 intro n
 induction n with
 |zero=>
  rintro i l last c rfl _ hc h h0 h1 _
  refine Tot.succ ?_
  simp (disch:=omega) only [Hr,dF]
  exact Gib ⟨⟨last,h,by omega⟩,rfl,hc⟩
 |succ n ih=>
  rintro i l last c rfl hn hc h h0 h1 hl
  refine Tot.succ ?_
  simp (disch:=omega) only [Hr,dT]
  obtain⟨x,c1,e1,hx,k1⟩:=Ls c hc [1,1,2] (by decide) (by decide)
  obtain⟨y,c2,e2,y0,y1,_,k2⟩:=Az c1 k1 z (by omega)
  obtain⟨v,c3,e3,hv,k3⟩:=Ls c2 k2 [1,1,1,2,10,100] (by decide) (by decide)
  have y1:=y1 (by omega)
  have hx':1≤x∧x≤2:=by
   simp only[Vm,Zp,or_false]at hx
   omega
  have hv':1≤v∧v≤1000:=by
   simp only[Vm,Zp,or_false]at hv
   omega
  refine Gtb (Gub (Q:=λ r=>r=(x,c1)) e1 rfl) ?_
  refine Gtb (Gub (Q:=λ r=>r=(y,c2)) e2 rfl) ?_
  refine Gtb (Gub (Q:=λ r=>r=(v,c3)) e3 rfl) ?_
  simp (disch:=omega) only [w64]
  refine Gqb (by simp only[Vc,Vh];omega) ?_
  refine(ih _ (l++[(last+x,y,v)]) (last+x) c3 (by omega) (by omega) k3 ⟨?_,?_⟩ (by omega) (by omega) (by rw[Vd];simp only[Vc,Vh];omega)).mono ?_
  ·refine Zc.2 ⟨h.1,Iab _ _,λ a ha b hb=>?_⟩
   rw[Vu.1 hb]
   have:=(h.2 a ha).1.2
   show a.1<last+x
   omega
  ·intro d hd
   rcases Vo.1 hd with hd|hd
   ·obtain⟨⟨a1,a2⟩,a3⟩:=h.2 d hd
    exact⟨⟨a1,by omega⟩,a3⟩
   ·rw[Vu.1 hd]
    exact⟨⟨by show 0≤last+x;omega,Gvb _⟩,⟨y0,by show y≤20;omega⟩,hv'⟩
  ·rintro r ⟨g1,g2,g3⟩
   refine⟨g1,?_,g3⟩
   rw[g2,Vd]
   simp only[Vc,Vh]
   omega
def Q0a (c:Cur) (hc:Db c):Tot (λ k=>H2 k c) (λ r=>Md r.1=true∧(2≤r.1.length∧r.1.length≤6)∧Db r.2):=by
 unfold H2
 obtain⟨x,c1,e1,x0,x1,_,k1⟩:=Az c hc 4 (by decide)
 obtain⟨y,c2,e2,y0,y1,_,k2⟩:=Az c1 k1 5 (by decide)
 have x1:=x1 (by decide)
 have y1:=y1 (by decide)
 refine Gtb (Gub (Q:=λ r=>r=(x,c1)) e1 rfl) ?_
 refine Gtb (Gub (Q:=λ r=>r=(y,c2)) e2 rfl) ?_
 simp (disch:=omega) only [w64]
 refine Gjb (Vba (1+x) (by omega) (2+y).toNat (2+y) [] 0 c2 (by omega) (by omega) k2 ⟨List.Pairwise.nil,λ d hd=>(nomatch hd)⟩ (Gvb _) (by omega) (by simp only[Vh];omega)) ?_
 rintro r ⟨⟨last,g1,g2⟩,g3,g4⟩
 rw[Vh]at g3
 exact Gib ⟨Gy.2 ⟨g1.1,λ d hd=>Oe.2 ⟨⟨(g1.2 d hd).1.1,by have:=(g1.2 d hd).1.2;omega⟩,(g1.2 d hd).2⟩,by dsimp only;omega,by dsimp only;omega⟩,⟨by dsimp only;omega,by dsimp only;omega⟩,g4⟩
abbrev Fja:Wld:=(([]:List Dev),((0:Int),([]:List (List Int))),([]:List Nod),((0:Int),((0:Int),(0:Int))),([]:List Wri),([]:List ByteArray))
def A0b (d:Dev):Nod:=(d.1,([],[]),[],[])
def F8b (l:List Dev) (parts reps:Int):Wld:=(l,(build l parts reps).1,l.map A0b,(0,0,0),[],[])
def Cfb {ws:List Wri} {sp:List ByteArray} {l:List Dev} (h:Md l=true) {d:Dev} (hd:d∈l):NI ws sp (A0b d):=by
 obtain⟨⟨i0,i1⟩,_⟩:=Oe.1 ((Gy.1 h).2.1 d hd)
 refine⟨⟨C8.2 ⟨(λ r hr=>nomatch hr),⟨i0,i1⟩,dg0.1,Wy,Vs _⟩,dg0.2⟩,λ s=>⟨λ b hb=>?_,λ b hb=>?_,λ _ b f hb=>?_⟩,(λ r hr=>nomatch hr),(λ r hr=>nomatch hr)⟩
 ·rw[show gt (A0b d).2.1.1 s=none from rfl]at hb;cases hb
 ·rw[show gt (A0b d).2.1.2 s=none from rfl]at hb;cases hb
 ·rw[show gt (A0b d).2.1.2 s=none from rfl]at hb;cases hb
def Cgb {l:List Dev} {parts reps:Int} (hb:(build l parts reps).2=true):WI (F8b l parts reps):=by
 obtain⟨h1,h2,_,_⟩:=Nva hb
 exact {
  ring:=h2
  ids:=by show (l.map A0b).map (·.1)=_;rw[Hsb];rfl
  nodes:=λ n hn=>by
   obtain⟨d,hd,rfl⟩:=Yx.1 hn
   exact Cfb h1 hd
  clk:=rfl
  wlen:=Vs _
  wok:=λ x hx=>nomatch hx
  wge:=λ x hx=>nomatch hx
  asc:=List.Pairwise.nil
  kept:=λ x hx=>nomatch hx
  sps:=List.Pairwise.nil
  spw:=λ s hs=>nomatch hs }
def Ipa (l:List Dev) (parts reps:Int) (hb:(build l parts reps).2=true):Tot (λ k=>Cn k l parts reps) (λ r=>r=F8b l parts reps):=by
 obtain⟨h1,_,_,_⟩:=Nva hb
 have h12:=(Gy.1 h1).2.2.2
 unfold Cn
 refine Gtb (Uca l parts reps (by omega)) ?_
 refine Gqb (by rw[Vh];omega) (Gkb (by rw[hb];rfl) ?_)
 rw[Vx]
 refine Gjb (Q:=λ r=>r=(Fja,F8b l parts reps)) ?_ (by rintro r rfl;exact Gib rfl)
 refine Grb (L:=λ k i (s:List Nod)=>F4 k l i Fja (l,(build l parts reps).1,s,(0,0,0),[],[])) (Q:=λ r=>r=(Fja,F8b l parts reps)) l.length (λ j s=>s=(l.take j).map A0b) ?_ ?_ 0 [] (Vs _) rfl
 ·rintro s rfl
  simp (disch:=omega) only [F4,dF]
  exact Gib (by rw[Ys];rfl)
 ·rintro j s hj rfl next
  have hd:=A4 (d:=Nu) hj
  obtain⟨d,ed⟩:∃ d:Dev,l.getD j Nu=d:=⟨_,rfl⟩
  rw[ed]at hd
  have e0:l.getD j ((0:Int),((0:Int),(0:Int)))=d:=ed
  have e1:l[j]=d:=by rw[← ed,Ve,Vk hj];rfl
  have hid:=(Oe.1 ((Gy.1 h1).2.1 d hd)).1
  simp (disch:=omega) only [F4,dT,Vb,w64,e0,Bea,Vn]
  have hl:((l.take j).map A0b).length=j:=by rw[Wh,Vq];omega
  rw[Eb.2 hid,cond_true]
  refine Gqb (by rw[hl];simp only[Vc,Vh];omega) (next _ ?_)
  rw[Wm hj,H4b,e1]
  rfl
def WD (w:Wld):Prop:=WI w∧∀ x∈w.2.2.2.2.1,x.1∈Mu
def Lca (c:Cur) (hc:Db c):Tot (λ k=>Ku k c) (λ r=>WD r.1∧Db r.2):=by
 unfold Ku
 refine Gjb (Q0a c hc) ?_
 rintro⟨l,c1⟩ ⟨hl,hn,k1⟩
 dsimp only at hl hn k1 ⊢
 obtain⟨x,c2,e2,hx,k2⟩:=Ls c1 k1 [3,2,3,1] (by decide) (by decide)
 obtain⟨y,c3,e3,hy,k3⟩:=Ls c2 k2 [4,2,8] (by decide) (by decide)
 have hx':1≤x∧x≤3:=by
  simp only[Vm,Zp,or_false]at hx
  omega
 have hy':1≤y∧y≤8:=by
  simp only[Vm,Zp,or_false]at hy
  omega
 have one:∀ n:Int,1≤n→n≤5→n≤(l.length:Int)→Tot (λ k=>(Ac c2 [4,2,8]).bind λ r3=>(Cn k l r3.1 n).bind λ r4=>some (r4,r3.2)) (λ r=>WD r.1∧Db r.2):=by
  intro n n0 n5 nl
  have hb:(build l y n).2=true:=by
   unfold build
   rw[hl,Eb.2 (show 1≤y∧y≤64 by omega),Eb.2 (show 1≤n∧n≤5 by omega),decide_eq_false (show ¬ n > (l.length:Int) by omega)]
   rfl
  refine Gtb (Gub (Q:=λ r=>r=(y,c3)) e3 rfl) ?_
  refine Gtb (Ipa l y n hb) ?_
  exact Gib ⟨⟨Cgb hb,λ x hx=>nomatch hx⟩,k3⟩
 refine Gtb (Gub (Q:=λ r=>r=(x,c2)) e2 rfl) ?_
 exact Gpb (λ h=>one (l.length:Int) (by omega) (by dsimp only at h;omega) (Int.le_refl _)) (λ h=>one x (by omega) (by omega) (by dsimp only at h;omega))
def Iqa (c:Cur) (hc:Db c):Tot (λ k=>Ee k c) (λ r=>r.1.length=6∧Db r.2):=by
 unfold Ee
 refine Gjb (Q:=λ r=>r.1.length=6∧Db r.2) ?_ (λ r h=>Gib h)
 refine Grb (L:=λ k i (s:List Int×Cur)=>Fy k s.1 i s.2) (Q:=λ r=>r.1.length=6∧Db r.2) 6 (λ j s=>s.1.length=j∧Db s.2) ?_ ?_ 0 ([],c) (Vs _) ⟨rfl,hc⟩
 ·rintro s ⟨h1,h2⟩
  simp (disch:=omega) only [Fy,dF]
  exact Gib ⟨h1,h2⟩
 ·rintro j s hj ⟨h1,h2⟩ next
  obtain⟨x,c1,e1,_,k1⟩:=Ls s.2 h2 [1,1,1,1,0,2,3] (by decide) (by decide)
  simp (disch:=omega) only [Fy,dT,w64]
  refine Gtb (Gub (Q:=λ r=>r=(x,c1)) e1 rfl) ?_
  exact Gqb (by simp only[Vc,Vh];omega) (next (s.1++[x],c1) ⟨by rw[Vd,h1];rfl,k1⟩)
def Lda (c:Cur) (hc:Db c):Tot (λ k=>Ee k c) (λ r=>r.1.length≤6∧Db r.2):=(Iqa c hc).mono λ r h=>⟨by have:=h.1;omega,h.2⟩
def A1b (r:Evt×Cur×Wld) (w:Wld):Prop:=F7b r.1∧Ap r.1.2.2.2.1∧Db r.2.1∧r.2.2=w
def Chb {d:Dsk} (hd:DIn d) (hb:DB d):Tot (λ k=>Gz k d) (λ r=>r.length≤2000000∧∀ t∈r,L9 t):=by
 refine(Y3a d hd hb).mono ?_
 rintro r rfl
 obtain⟨a1,a2⟩:=Elb d.1 hd.1.2.1 d.1 0 [] (λ x hx=>hx) (λ y hy=>nomatch hy)
 have:=hd.2.1
 rw[Vh]at a1
 exact⟨by unfold Pwa;omega,a2⟩
def Yja (e:Evt):Prop:=e.1=1∨e.1=2→e.2.2.1∈Mu
def Fka (c:Cur) (w:Wld) (hc:Db c) (hn1:1≤w.2.2.1.length) (hnl:w.2.2.1.length≤2000000) (hnn:∀ n∈w.2.2.1,NIn n):Tot (λ k=>F5 k c w w) (λ r=>A1b r w∧Yja r.1):=by
 unfold F5
 obtain⟨i,c1,e1,i0,i1,_,k1⟩:=Az c hc (w.2.2.1.length:Int) (by omega)
 have i1:=i1 (by omega)
 obtain⟨s,c2,e2,hs,k2⟩:=P4 c1 k1
 have hsn:=hs
 have hs:=(Mm s hs).1
 refine Gtb (Gub (Q:=λ r=>r=(i,c1)) e1 rfl) ?_
 refine Gtb (Gub (Q:=λ r=>r=(s,c2)) e2 rfl) ?_
 refine Gjb (Lda c2 k2) ?_
 rintro⟨rc,c3⟩ ⟨hrc,k3⟩
 dsimp only at hrc k3 ⊢
 obtain⟨n,c4,e4,_,_,_,k4⟩:=Az c3 k3 20 (by decide)
 refine Gtb (Gub (Q:=λ r=>r=(n,c4)) e4 rfl) ?_
 dsimp only
 have ok:∀ (kd:Int) (s:ByteArray) (l:List Int) (x:Int) (c:Cur),L9 s→Ap l→l.length≤2000000 → -9223372036854775808≤x→x≤9223372036854775807→Db c→(kd=1∨kd=2→s∈Mu)→A1b ((kd,i,s,l,x,rc),c,w) w∧Yja (kd,i,s,l,x,rc):=λ kd s l x c h1 h2 h3 h4 h5 h6 h7=>⟨⟨⟨h1,by show l.length≤_;omega,⟨h4,h5⟩,by show rc.length≤_;omega⟩,h2,h6,rfl⟩,h7⟩
 have plain:∀ kd:Int,Tot (λ _=>some ((kd,i,s,([]:List Int),(0:Int),rc),c4,w)) (λ r=>A1b r w∧Yja r.1):=λ kd=>Gib (ok kd s [] 0 c4 hs Nq (Vs _) (by decide) (by decide) k4 λ _=>hsn)
 have put:Tot (λ k=>(A3 c4 2).bind λ r5=>(Dr k r5.2).bind λ r6=>some ((1,i,s,r6.1,wrap .i64 (w.2.2.2.1.1+r5.1),rc),r6.2,w)) (λ r=>A1b r w∧Yja r.1):=by
  obtain⟨x,c5,e5,x0,x1,_,k5⟩:=Az c4 k4 2 (by decide)
  have x1:=x1 (by decide)
  refine Gtb (Gub (Q:=λ r=>r=(x,c5)) e5 rfl) ?_
  refine Gjb (D1a c5 k5) ?_
  rintro⟨l,c6⟩ ⟨g1,g2,g3⟩
  dsimp only at g1 g2 g3 ⊢
  have hw:=D0a (w.2.2.2.1.1+x)
  exact Gib (ok 1 s l _ c6 hs g2 (by omega) hw.1 hw.2 g1 λ _=>hsn)
 have drop:Tot (λ k=>(A3 c4 2).bind λ r17=>some ((2,i,s,([]:List Int),wrap .i64 (w.2.2.2.1.1+r17.1),rc),r17.2,w)) (λ r=>A1b r w∧Yja r.1):=by
  obtain⟨x,c5,e5,x0,x1,_,k5⟩:=Az c4 k4 2 (by decide)
  have x1:=x1 (by decide)
  refine Gtb (Gub (Q:=λ r=>r=(x,c5)) e5 rfl) ?_
  have hw:=D0a (w.2.2.2.1.1+x)
  exact Gib (ok 2 s [] _ c5 hs Nq (Vs _) hw.1 hw.2 k5 λ _=>hsn)
 have rot:Tot (λ k=>(A3 c4 60).bind λ r31=>some ((8,i,s,([]:List Int),r31.1,rc),r31.2,w)) (λ r=>A1b r w∧Yja r.1):=by
  obtain⟨x,c5,e5,x0,x1,_,k5⟩:=Az c4 k4 60 (by decide)
  have x1:=x1 (by decide)
  refine Gtb (Gub (Q:=λ r=>r=(x,c5)) e5 rfl) ?_
  exact Gib (ok 8 s [] x c5 hs Nq (Vs _) (by omega) (by omega) k5 λ _=>hsn)
 have ring:Tot (λ k=>(Ac c4 [1,2,10,1000]).bind λ r33=>some ((9,i,s,([]:List Int),r33.1,rc),r33.2,w)) (λ r=>A1b r w∧Yja r.1):=by
  obtain⟨x,c5,e5,hx,k5⟩:=Ls c4 k4 [1,2,10,1000] (by decide) (by decide)
  refine Gtb (Gub (Q:=λ r=>r=(x,c5)) e5 rfl) ?_
  have hx':1≤x∧x≤1000:=by
   simp only[Vm,Zp,or_false]at hx
   omega
  exact Gib (ok 9 s [] x c5 hs Nq (Vs _) (by omega) (by omega) k5 λ _=>hsn)
 have push:Tot (λ k=>cond (decide ((0:Int)≤i)) (cond (decide (i<(length w.2.2.1:Int))) ((Gz k (getD w.2.2.1 (toNat i) ((0:Int),(([],[]),([],[])))).2.1).bind λ r20=>cond (decide ((length r20:Int) > 0)) ((A3 c4 (length r20:Int)).bind λ r21=>cond (decide ((0:Int)≤r21.1)) (cond (decide (r21.1<(length r20:Int))) (some ((3,i,(getD r20 (toNat r21.1) (⟨#[]⟩:ByteArray)),([]:List Int),0,rc),r21.2,w)) none) none) (some ((3,i,s,([]:List Int),0,rc),c4,w))) none) none) (λ r=>A1b r w∧Yja r.1):=by
  refine Gmb i0 (Gmb i1 ?_)
  have hm:=hnn _ (A4 (d:=Bo) (show i.toNat<w.2.2.1.length by omega))
  refine Gjb (Chb hm.1.1 hm.1.2) ?_
  rintro l ⟨hl,hl'⟩
  refine Gpb (λ h0=>?_) (λ h0=>plain 3)
  obtain⟨x,c5,e5,x0,x1,_,k5⟩:=Az c4 k4 (l.length:Int) (by omega)
  have x1:=x1 (by omega)
  refine Gtb (Gub (Q:=λ r=>r=(x,c5)) e5 rfl) ?_
  exact Gmb x0 (Gmb x1 (Gib (ok 3 _ [] 0 c5 (hl' _ (A4 (d:=Nw) (show x.toNat<l.length by omega))) Nq (Vs _) (by decide) (by decide) k5 (by omega))))
 refine Gob (λ _=>put) (λ _=>?_)
 refine Gob (λ _=>put) (λ _=>?_)
 refine Gob (λ _=>put) (λ _=>?_)
 refine Gob (λ _=>put) (λ _=>?_)
 refine Gob (λ _=>put) (λ _=>?_)
 refine Gob (λ _=>put) (λ _=>?_)
 refine Gob (λ _=>drop) (λ _=>?_)
 refine Gob (λ _=>drop) (λ _=>?_)
 refine Gob (λ _=>push) (λ _=>?_)
 refine Gob (λ _=>push) (λ _=>?_)
 refine Gob (λ _=>push) (λ _=>?_)
 refine Gob (λ _=>plain 5) (λ _=>?_)
 refine Gob (λ _=>plain 5) (λ _=>?_)
 refine Gob (λ _=>plain 4) (λ _=>?_)
 refine Gob (λ _=>plain 6) (λ _=>?_)
 refine Gob (λ _=>plain 7) (λ _=>?_)
 refine Gob (λ _=>plain 7) (λ _=>?_)
 refine Gob (λ _=>rot) (λ _=>?_)
 exact Gob (λ _=>rot) (λ _=>ring)
def Cib {w:Wld} (h:WI w) {e:Evt} (he:F7b e):Tot (λ k=>Jb k w e) (λ r=>r=doW w e):=
 Eqb w e he h.ring h.ns h.clk (by have:=h.wlen;omega) (by have:=h.splen;omega)
def Yka (w:Wld) (e:Evt) (i:Nat):(Cda w e i).2.2.2.2.2.1=w.2.2.2.2.1:=by
 unfold Cda Xq Xr Xt C9b
 cases e.1==3
 case true=>cases (lkD (w.2.2.1.getD i Bo).2.1 e.2.2.1).2 != 0<;>rfl
 cases e.1==4
 case true=>cases ((w.2.2.1.getD i Bo).2.2.1.length:Int)==0<;>rfl
 cases e.1==5
 case true=>cases ((w.2.2.1.getD i Bo).2.2.2.length:Int)==0<;>rfl
 cases e.1==6
 case true=>rfl
 cases e.1==7
 case true=>rfl
 rw[cond_false,cond_false,cond_false,cond_false,cond_false]
 cases (L0a (w.2.2.1.getD i Bo) e.2.2.1 e.2.2.2.2.1).2<;>rfl
def A2b (w:Wld) (s:ByteArray) (f:Fil) (t:Int) (rc:List Int):∀ x∈(ask w s f t rc).2.2.2.2.2.1,x∈w.2.2.2.2.1∨x.1=s:=by
 intro x
 unfold ask
 cases !(B1 s)
 case true=>exact .inl
 cases decide ((f.2.2.length:Int) > 200)
 case true=>exact .inl
 cases !(inR t 0 1000000000)
 case true=>exact .inl
 cases (w.2.2.2.2.1.length:Int)==200
 case true=>exact .inl
 cases (Nr w.2.2.2.1 t 0).1==w.2.2.2.1.1&&((Nr w.2.2.2.1 t 0).2.1==w.2.2.2.1.2.1&&(Nr w.2.2.2.1 t 0).2.2==w.2.2.2.1.2.2)
 case true=>exact .inl
 intro hx
 rcases Vo.1 hx with h|h
 ·exact .inl h
 ·rw[Vu.1 h];exact .inr rfl
def WD.ev {w:Wld} (h:WD w) {e:Evt} (hb:Ap e.2.2.2.1) (hn:Yja e):WD (doW w e).2:=by
 refine⟨h.1.ev hb,λ x=>?_⟩
 have ae:∀ q:Int×Wld,(Vha q).2=q.2:=λ q=>by
  unfold Vha
  cases q.1 != 2<;>rfl
 unfold doW
 cases h1:e.1==1 with
 |true=>
  rw[cond_true,ae]
  exact λ hx=>(A2b _ _ _ _ _ x hx).elim (h.2 x) (λ c=>by rw[c];exact hn (.inl (eq_of_beq h1)))
 |false=>
  cases h2:e.1==2 with
  |true=>
   rw[cond_false,cond_true,ae]
   exact λ hx=>(A2b _ _ _ _ _ x hx).elim (h.2 x) (λ c=>by rw[c];exact hn (.inr (eq_of_beq h2)))
  |false=>
   rw[cond_false,cond_false]
   cases e.1==3||(e.1==4||(e.1==5||(e.1==6||(e.1==7||e.1==8)))) with
   |true=>
    rw[cond_true]
    cases inR e.2.1 0 ((w.2.2.1.length:Int)-1) with
    |true=>rw[cond_true,Yka];exact h.2 x
    |false=>exact h.2 x
   |false=>
    rw[cond_false]
    unfold Ima
    cases e.1==9
    case false=>exact h.2 x
    cases !(inR e.2.1 0 ((w.1.length:Int)-1))
    case true=>exact h.2 x
    cases !(inR e.2.2.2.2.1 1 1000)<;>exact h.2 x
def Q1a:∀ (n:Nat) (i:Int) (c:Cur) (w:Wld),i=n→n≤1000→Db c→WD w→Tot (λ k=>G7 k i c Fja w) (λ r=>WD r.2.1∧Db r.2.2):=by
 intro n
 induction n with
 |zero=>
  rintro i c w rfl _ hc h
  refine Tot.succ ?_
  simp (disch:=omega) only [G7,dF]
  exact Gib ⟨h,hc⟩
 |succ n ih=>
  rintro i c w rfl hn hc h
  refine Tot.succ ?_
  simp (disch:=omega) only [G7,dT]
  refine Gjb (Fka c w hc (by have:=h.1.nlen;have:=h.1.dlen;omega) h.1.ns.1 h.1.win.2.2.1.2) ?_
  rintro⟨e,c1,w1⟩ ⟨⟨g1,g2,g3,g4⟩,g5⟩
  dsimp only at g1 g2 g3 g4 g5 ⊢
  subst g4
  refine Gtb (Cib h.1 g1) ?_
  rw[w64 (n:=((n+1:Nat):Int)-1) (by omega) (by omega)]
  exact ih _ c1 _ (by omega) (by omega) g3 (h.ev g2 g5)
def Ira (c:Cur) (hc:Db c) (n:Int) (hn:n≤1000):Tot (λ k=>Ef k c n) (λ r=>WD r.1∧Db r.2):=by
 unfold Ef
 refine Gjb (Lca c hc) ?_
 rintro⟨w,c1⟩ ⟨h,k1⟩
 dsimp only at h k1 ⊢
 obtain⟨x,c2,e2,x0,x1,x2,k2⟩:=Az c1 k1 n (by omega)
 refine Gtb (Gub (Q:=λ r=>r=(x,c2)) e2 rfl) ?_
 refine Gjb (Q1a x.toNat x c2 w (by omega) (by by_cases h:0<n<;>omega) k2 h) ?_
 rintro r hr
 exact Gib hr
def Lea (c:Cur) (hc:Db c) (n:Int) (hn:n≤1000):Tot (λ k=>Ef k c n) (λ r=>WI r.1∧Db r.2):=(Ira c hc n hn).mono λ r h=>⟨h.1.1,h.2⟩
def Yla (a:List Int) (hb:(a.length:Int)≤1048576) (m:Int) (hm:3≤m∧m≤1000):∃ n,Ky a m=some n∧3≤n∧n≤m:=by
 unfold Ky
 rw[H6b (by omega),w64 (n:=(a.length:Int)/12) (by omega) (by omega),w64 (n:=3+(a.length:Int)/12) (by omega) (by omega)]
 by_cases h:3+(a.length:Int)/12 > m
 ·exact⟨m,by rw[decide_eq_true h];rfl,hm.1,Gvb _⟩
 ·exact⟨_,by rw[decide_eq_false h];rfl,by omega,by omega⟩

def WIm (m:Nat) (w:Wld):Prop:=RBd w.2.1∧w.1.length≤2000000∧(w.2.2.1.length≤2000000∧∀ n∈w.2.2.1,NIn n)∧(w.2.2.2.2.1.length≤m∧∀ x∈w.2.2.2.2.1,L9 x.1∧x.2.1.2.2.length≤2000000∧Ap x.2.1.2.2)∧(w.2.2.2.2.2.length≤m∧∀ s∈w.2.2.2.2.2,L9 s)
def WIm.win {m:Nat} {w:Wld} (h:WIm m w) (hm:m≤2000000):WIn w:=by
 obtain⟨h1,h2,⟨h3,h4⟩,⟨h5,h6⟩,h7,h8⟩:=h
 exact⟨h1,h2,⟨h3,h4⟩,⟨by omega,λ x hx=>(h6 x hx).1⟩,by omega,h8⟩
def WIm.more {m n:Nat} {w:Wld} (h:WIm m w) (hm:m≤n):WIm n w:=by
 obtain⟨h1,h2,h3,⟨h5,h6⟩,h7,h8⟩:=h
 exact⟨h1,h2,h3,⟨by omega,h6⟩,by omega,h8⟩
def WI.wim {w:Wld} (h:WI w):WIm 200 w:=by
 have hi:=h.win
 have h2:=h.dlen
 have h1:=h.nlen
 exact⟨hi.1,hi.2.1,hi.2.2.1,⟨h.wlen,λ x hx=>⟨Ja (h.wok x hx).1,by have:=(Km.1 (h.wok x hx).2.1).2.1;omega,(h.wok x hx).2.2⟩⟩,h.splen,hi.2.2.2.2.2⟩
def Isa {f:Fil} (h:f.2.2.length≤2000000):Bs f=some f:=by
 unfold Bs
 rw[bT (by simp only[Vh];omega),Vx]
def Vca {m:Nat} {w:Wld} (h:WIm m w) (hm:m≤2000000):Tot (λ k=>Df k w) (λ r=>r=w):=by
 obtain⟨h1,h2,⟨h3,h4⟩,⟨h5,h6⟩,h7,h8⟩:=h
 unfold Df
 refine Gqb (by rw[Vh];omega) (Gtb (Xd w.2.1 h1) ?_)
 refine Gqb (by rw[Vh];omega) ?_
 rw[Vx,Vx]
 refine Gjb (Q:=λ r=>r=(w,Fja,(w.1,w.2.1,w.2.2.1,w.2.2.2.1,[],w.2.2.2.2.2))) ?_ ?_
 ·refine Grb (L:=λ k i (s:List Nod)=>G9 k i w Fja (w.1,w.2.1,s,w.2.2.2.1,[],w.2.2.2.2.2)) (Q:=λ r=>r=(w,Fja,(w.1,w.2.1,w.2.2.1,w.2.2.2.1,[],w.2.2.2.2.2))) w.2.2.1.length (λ j s=>s=w.2.2.1.take j) ?_ ?_ 0 [] (Vs _) rfl
  ·rintro s rfl
   simp (disch:=omega) only [G9,dF]
   exact Gib (by rw[Ys])
  ·rintro j s hj rfl next
   have hm:=h4 _ (A4 (d:=Bo) hj)
   have e0:w.2.2.1.getD j ((0:Int),(([],[]),([],[])))=w.2.2.1.getD j Bo:=rfl
   have hl:(w.2.2.1.take j).length=j:=by rw[Vq];omega
   simp (disch:=omega) only [G9,dT,Vb,w64,e0]
   refine Gtb (Od _ hm) ?_
   refine Gqb (by rw[hl];simp only[Vc,Vh];omega) (next _ ?_)
   rw[Wm hj,Ve,Vk hj]
   rfl
 ·rintro r rfl
  refine Gjb (Q:=λ r=>r=(Fja,w)) ?_ (by rintro r rfl;exact Gib rfl)
  refine Grb (L:=λ k i (s:List Wri)=>G8 k i w Fja (w.1,w.2.1,w.2.2.1,w.2.2.2.1,s,w.2.2.2.2.2)) (Q:=λ r=>r=(Fja,w)) w.2.2.2.2.1.length (λ j s=>s=w.2.2.2.2.1.take j) ?_ ?_ 0 [] (Vs _) rfl
  ·rintro s rfl
   simp (disch:=omega) only [G8,dF]
   exact Gib (by rw[Ys])
  ·rintro j s hj rfl next
   have hm:=(h6 _ (A4 (d:=Uta) hj)).2.1
   have e0:w.2.2.2.2.1.getD j ((⟨#[]⟩:ByteArray),((((0:Int),((0:Int),(0:Int))),(false,[])),false))=w.2.2.2.2.1.getD j Uta:=rfl
   have hl:(w.2.2.2.2.1.take j).length=j:=by rw[Vq];omega
   simp (disch:=omega) only [G8,dT,Vb,w64,e0,Isa hm,Vn]
   refine Gqb (by rw[hl];simp only[Vc,Vh];omega) (next _ ?_)
   rw[Wm hj,Ve,Vk hj]
   rfl
def WIp (m:Nat) (w:Wld):Prop:=WIm m w∧1≤w.2.2.1.length
def O9a {m:Nat} {w:Wld} (h:WIp m w) {i:Nat} {n:Nod} (hn:NIn n):WIp m (w.1,w.2.1,w.2.2.1.set i n,w.2.2.2):=by
 obtain⟨⟨h1,h2,⟨h3,h4⟩,h5⟩,h0⟩:=h
 refine⟨⟨h1,h2,⟨by rw[Vz];exact h3,λ x hx=>?_⟩,h5⟩,by show 1≤(w.2.2.1.set i n).length;rw[Vz];exact h0⟩
 rcases Xs hx with hx|rfl
 ·exact h4 x hx
 ·exact hn
def Yma {m:Nat} {w:Wld} {c:Cur} (hc:Db c) (h:WIp m w) (hm:m≤900):Tot (λ k=>Ge k c w w) (λ r=>WIp (m+1) r.1∧Db r.2.1):=by
 have h':=h
 obtain⟨⟨h1,h2,⟨h3,h4⟩,⟨h5,h6⟩,h7,h8⟩,h0⟩:=h'
 have hw:WIp (m+1) w:=⟨h.1.more (H0b m),h.2⟩
 unfold Ge
 refine Gjb (Vca (w:=w) h.1 (by omega)) ?_
 rintro r rfl
 refine Gmb (by omega) ?_
 obtain⟨i,c1,e1,i0,i1,_,k1⟩:=Az c hc (r.2.2.1.length:Int) (by omega)
 have i1:=i1 (by omega)
 refine Gjb (Gub (Q:=λ r=>r=(i,c1)) e1 rfl) ?_
 rintro _ rfl
 obtain⟨x,c2,e2,_,_,_,k2⟩:=Az c1 k1 10 (by decide)
 refine Gjb (Gub (Q:=λ r=>r=(x,c2)) e2 rfl) ?_
 rintro _ rfl
 dsimp only
 refine Gob (λ _=>?_) (λ _=>?_)
 ·obtain⟨y,c3,e3,_,k3⟩:=Ls c2 k2 [0,1,2,6] (by decide) (by decide)
  refine Gjb (Gub (Q:=λ r=>r=(y,c3)) e3 rfl) ?_
  rintro _ rfl
  exact Gib ⟨⟨⟨h1,hw.1.2⟩,h0⟩,k3⟩
 refine Gob (λ _=>?_) (λ _=>?_)
 ·refine Gmb (by omega) (Gjb (U3a c2 k2) ?_)
  rintro⟨n,c3⟩ ⟨g1,g2⟩
  exact Gmb i0 (Gmb i1 (Gib ⟨O9a hw g1,g2⟩))
 refine Gob (λ _=>?_) (λ _=>?_)
 ·obtain⟨y,c3,e3,k3⟩:=Nna c2 k2
  refine Gjb (Gub (Q:=λ r=>r=(y,c3)) e3 rfl) ?_
  rintro _ rfl
  exact Gib ⟨hw,k3⟩
 refine Gob (λ _=>?_) (λ _=>?_)
 ·refine Gpb (λ _=>Gmb (by omega) (Gib ⟨⟨⟨h1,h2,⟨h3,h4⟩,⟨by dsimp only;rw[List.length_drop];omega,λ x hx=>h6 x (List.mem_of_mem_drop hx)⟩,by dsimp only;omega,h8⟩,h0⟩,k2⟩)) (λ _=>Gib ⟨hw,k2⟩)
 refine Gob (λ _=>?_) (λ _=>?_)
 ·obtain⟨s,c3,e3,hs,k3⟩:=Qu c2 k2
  refine Gjb (Gub (Q:=λ r=>r=(s,c3)) e3 rfl) ?_
  rintro _ rfl
  refine Gjb (Twa c3 k3) ?_
  rintro⟨f,c4⟩ ⟨⟨g0,g1⟩,k4⟩
  refine Gqb (by simp only[List.length_cons,List.length_nil];omega) (Gib ⟨⟨⟨h1,h2,⟨h3,h4⟩,⟨by dsimp only;rw[List.length_append];simp only[List.length_cons,List.length_nil];omega,λ x hx=>?_⟩,by dsimp only;omega,h8⟩,h0⟩,k4⟩)
  rcases Vo.1 hx with hx|hx
  ·exact h6 x hx
  ·rw[Vu.1 hx];exact⟨hs,g1,g0⟩
 refine Gob (λ _=>?_) (λ _=>?_)
 ·obtain⟨s,c3,e3,hs,k3⟩:=Qu c2 k2
  refine Gjb (Gub (Q:=λ r=>r=(s,c3)) e3 rfl) ?_
  rintro _ rfl
  refine Gqb (by simp only[List.length_cons,List.length_nil];omega) (Gib ⟨⟨⟨h1,h2,⟨h3,h4⟩,⟨by dsimp only;omega,h6⟩,by dsimp only;rw[List.length_append];simp only[List.length_cons,List.length_nil];omega,λ x hx=>?_⟩,h0⟩,k3⟩)
  rcases Vo.1 hx with hx|hx
  ·exact h8 x hx
  ·rw[Vu.1 hx];exact hs
 refine Gob (λ _=>?_) (λ _=>?_)
 ·have hm:=h4 _ (A4 (d:=Bo) (show i.toNat<r.2.2.1.length by omega))
  refine Gmb (by omega) (Gmb i0 (Gmb i1 (Gib ⟨O9a hw ⟨⟨Ni dg0.1,dg0.2⟩,hm.2⟩,k2⟩)))
 refine Gob (λ _=>?_) (λ _=>Gib ⟨hw,k2⟩)
 refine Gpb (λ hd=>?_) (λ _=>Gib ⟨hw,k2⟩)
 obtain⟨y,c3,e3,_,k3⟩:=Ls c2 k2 [0,5,21] (by decide) (by decide)
 refine Gjb (Gub (Q:=λ r=>r=(y,c3)) e3 rfl) ?_
 rintro _ rfl
 exact Gmb (by omega) (Gib ⟨⟨⟨h1,by dsimp only;rw[List.length_set];exact h2,hw.1.2.2⟩,h0⟩,k3⟩)
def Q2a (c:Cur) (hc:Db c) (n:Int) (hn:n≤1000):Tot (λ k=>Kx k c n) (λ r=>WIp 201 r.1∧Db r.2):=by
 unfold Kx
 refine Gjb (Lea c hc n hn) ?_
 rintro⟨w,c1⟩ ⟨h,k1⟩
 dsimp only at h k1 ⊢
 obtain⟨b,c2,e2,k2⟩:=P3 c1 k1 8 (by decide)
 refine Gtb (Gub (Q:=λ r=>r=(b,c2)) e2 rfl) ?_
 refine Gob (λ _=>?_) (λ _=>Gib ⟨⟨h.wim.more (by decide),by show 1≤w.2.2.1.length;have:=h.nlen;have:=h.dlen;omega⟩,k2⟩)
 refine Gjb (Yma k2 (m:=200) ⟨h.wim,by have:=h.nlen;have:=h.dlen;omega⟩ (by decide)) ?_
 rintro r ⟨g1,g2⟩
 exact Gib ⟨g1,g2⟩

def Ita {f:Fil} (h:f.2.2.length≤1000000000):Iz f=some f:=by
 unfold Iz
 rw[Np _ (by omega)]
 rfl

def Yna (w:Wld) (i:Nat) (s:ByteArray) (rc:List Int) (hr:Jd w.2.1 w.1=true) (hn:NS w.2.2.1) (hi:i<w.2.2.1.length):Tot (λ k=>Ai k w (i:Int) s rc) (λ r=>r=Xq w i s rc):=by
 have hni:=hn.get hi
 unfold Ai Xq
 have e0:w.2.2.1.getD i ((0:Int),(([],[]),([],[])))=w.2.2.1.getD i Bo:=rfl
 simp (disch:=omega) only [dT,Vb,e0]
 have hin:=(Sy hni).1
 refine Gtb (Nka hin.1.1.1.1 hin.2.1 s) ?_
 cases hl:(lkD (w.2.2.1.getD i Bo).2.1 s).2 != 0
 case true=>exact Glb rfl (Gib rfl)
 refine Gkb rfl ?_
 rw[cond_false]
 have hlk:∃ b,gt (w.2.2.1.getD i Bo).2.1.1 s=some b:=by
  rw[bne,Wj,beq_iff_eq]at hl
  obtain⟨b,hb,_⟩:=Q8.1 (show lkD (w.2.2.1.getD i Bo).2.1 s=((lkD (w.2.2.1.getD i Bo).2.1 s).1,0) from by rw[← hl])
  exact⟨b,hb⟩
 have hs:B1 s=true:=Pka hni.g.1 (by obtain⟨b,hb⟩:=hlk;rw[hb];rfl)
 have hsz:s.size≤1000000000:=by
  have:=Eb.1 (Va _ _ ▸ hs:_∧_).2
  omega
 refine Gtb (O4a _ s (N1 hr) hsz) ?_
 refine Gtb (Bna w _ hn.1 (Su (N1 hr) s)) ?_
 have hpl:=Ika (s:=s) hr hn.1
 have hc:=λ x=>Sw (w:=w) (s:=s) (x:=x)
 have hrun:puN w i s rc=run (pst (i:Int) s (lkD (w.2.2.1.getD i Bo).2.1 s).1 rc (Oq w s)) (Oq w s).length (w.2.2.1,false,true):=rfl
 obtain⟨p1,p2⟩:=Zxa (w:=w) (i:=i) (s:=s) (rc:=rc) hn
 have inv:∀ n,n≤(Oq w s).length→NS (run (pst (i:Int) s (lkD (w.2.2.1.getD i Bo).2.1 s).1 rc (Oq w s)) n (w.2.2.1,false,true)).1∧(run (pst (i:Int) s (lkD (w.2.2.1.getD i Bo).2.1 s).1 rc (Oq w s)) n (w.2.2.1,false,true)).1.length=w.2.2.1.length:=λ n hn'=>
  Nb (λ _ (b:List Nod×Bool×Bool)=>NS b.1∧b.1.length=w.2.2.1.length) ⟨hn,rfl⟩ (λ j b hj hb=>Uza hb (by have:=hc _ (A4 (d:=0) (show j<(Oq w s).length by omega));omega))
 rw[show whr w.2.2.1 (Wx w.2.1 s)=Oq w s from rfl]
 generalize (lkD (w.2.2.1.getD i Bo).2.1 s).1=f at *
 generalize Oq w s=ps at *
 refine Gjb (Q:=λ r=>r=((i:Int),s,(puN w i s rc).2.2,(puN w i s rc).2.1,wN w (puN w i s rc).1)) ?_ ?_
 ·refine Grb (L:=λ k j (a:List Nod×Bool×Bool)=>Ae k (i:Int) s rc a.2.2 a.2.1 ps (ps.length:Int) j (wN w a.1) f) (Q:=λ r=>r=((i:Int),s,(puN w i s rc).2.2,(puN w i s rc).2.1,wN w (puN w i s rc).1)) ps.length (λ j a=>a=run (pst (i:Int) s f rc ps) j (w.2.2.1,false,true)) ?_ ?_ 0 (w.2.2.1,false,true) (Vs _) rfl
  ·rintro a rfl
   simp (disch:=omega) only [Ae,dF]
   exact Gib (by rw[hrun])
  ·rintro j a hj rfl next
   obtain⟨i1,i2⟩:=inv j (by omega)
   rw[Ob]at next
   generalize run (pst (i:Int) s f rc ps) j (w.2.2.1,false,true)=a at *
   obtain⟨ns,o,g⟩:=a
   dsimp only at i1 i2
   have hci:=hc _ (A4 (d:=0) hj)
   obtain⟨m,em⟩:∃ m:Nat,ps.getD j 0=(m:Int):=⟨(ps.getD j 0).toNat,by omega⟩
   rw[em]at hci
   unfold pst at next
   rw[em,Vb]at next
   have e0:ns.getD m ((0:Int),(([],[]),([],[])))=ns.getD m Bo:=rfl
   simp (disch:=omega) only [Ae,dT,Vb,w64,em,wN,e0]
   cases hz:(m:Int)==(i:Int) with
   |true=>
    rw[hz]at next
    exact Glb rfl (next _ rfl)
   |false=>
    rw[hz]at next
    refine Gkb rfl ?_
    simp only[Uwa,Vn]
    cases h1:rch rc j != 1 with
    |true=>
     rw[h1]at next
     exact Glb rfl (next _ rfl)
    |false=>
     rw[h1]at next
     refine Gkb rfl ?_
     have hm:=Sy (i1.get (i:=m) (by omega))
     refine Gtb (Xha (ns.getD m Bo).2.1 s f true hm.1.1 hm.1.2.1 (Ja hs)) ?_
     dsimp only at next ⊢
     generalize keep (ns.getD m Bo).2.1 s f true=q at *
     cases g with
     |false=>
      refine Gkb rfl (next (ns.set m ((ns.getD m Bo).1,q.1,(ns.getD m Bo).2.2),o,false) ?_)
      cases q.2 != 0&&q.2 != 1<;>rfl
     |true=>
      refine Glb rfl ?_
      cases h2:q.2==0
      case true=>rw[bne,h2]at next;exact Glb rfl (next _ rfl)
      rw[bne,h2]at next
      refine Gkb rfl ?_
      cases h3:q.2==1 with
      |true=>rw[bne,h3]at next;exact next _ rfl
      |false=>rw[bne,h3]at next;exact next _ rfl
 ·rintro r rfl
  dsimp only[wN]
  generalize puN w i s rc=a at *
  obtain⟨ns,o,g⟩:=a
  dsimp only at p1 p2 ⊢
  cases o with
  |true=>
   refine Gkb rfl (Gib ?_)
   rw[Zf,Yj]
   rfl
  |false=>
   refine Glb rfl ?_
   cases g
   ·exact Gkb rfl (Gib rfl)
   refine Glb rfl ?_
   have e0:ns.getD i ((0:Int),(([],[]),([],[])))=ns.getD i Bo:=rfl
   simp (disch:=omega) only [dT,Vb,e0]
   have hg:=(p1.get (i:=i) (by omega)).g
   refine Gtb (Kva hg.1) ?_
   refine Gtb (Hva (Tta hg).1 hs) ?_
   exact Gib rfl
def Yoa {n:Nod} {l:List Row} (hn:NG n) (hl:Kj l=true):I1a n l=((tk n l).2,(tk n l).1):=by
 unfold I1a tk
 rw[hn.1,hl]
 cases decide ((Tv n.2.2.1 l).length > 60)<;>rfl
def Iua (w:Wld) (src:Int) (l:List Row) (rc:List Int) (hr:RBd w.2.1) (hn:NS w.2.2.1) (hl:Kj l=true):
  Tot (λ k=>As k w l rc src) (λ r=>r=((Mo w src l false rc).2,wN w (Mo w src l false rc).1)):=by
 have hll:=Baa hl
 unfold As
 refine Gtb (Boa w hr hn.1) ?_
 have hpl:=R3 hr hn.1
 have hc:=λ x=>Ov (w:=w) (x:=x)
 have hrun:Mo w src l false rc=run (gst src l false rc (I0 w)) (I0 w).length (w.2.2.1,true):=rfl
 have inv:∀ n,n≤(I0 w).length→NS (run (gst src l false rc (I0 w)) n (w.2.2.1,true)).1∧(run (gst src l false rc (I0 w)) n (w.2.2.1,true)).1.length=w.2.2.1.length:=λ n hn'=>
  Nb (λ _ (b:List Nod×Bool)=>NS b.1∧b.1.length=w.2.2.1.length) ⟨hn,rfl⟩ (λ j b hj hb=>V0a hl hb (by have:=hc _ (A4 (d:=0) (show j<(I0 w).length by omega));omega))
 generalize I0 w=ls at *
 refine Gjb (Q:=λ r=>r=((Mo w src l false rc).2,wN w (Mo w src l false rc).1)) ?_ (by rintro r rfl;exact Gib rfl)
 refine Grb (L:=λ k j (a:List Nod×Bool)=>B0 k l rc src a.2 ls (ls.length:Int) j (wN w a.1)) (Q:=λ r=>r=((Mo w src l false rc).2,wN w (Mo w src l false rc).1)) ls.length (λ j a=>a=run (gst src l false rc ls) j (w.2.2.1,true)) ?_ ?_ 0 (w.2.2.1,true) (Vs _) rfl
 ·rintro a rfl
  simp (disch:=omega) only [B0,dF]
  exact Gib (by rw[hrun])
 ·rintro j a hj rfl next
  obtain⟨i1,i2⟩:=inv j (by omega)
  rw[Ob]at next
  generalize run (gst src l false rc ls) j (w.2.2.1,true)=a at *
  obtain⟨ns,g⟩:=a
  dsimp only at i1 i2
  have hci:=hc _ (A4 (d:=0) hj)
  obtain⟨m,em⟩:∃ m:Nat,ls.getD j 0=(m:Int):=⟨(ls.getD j 0).toNat,by omega⟩
  rw[em]at hci
  unfold gst at next
  rw[em,Vb,Hqb,Hnb]at next
  have e0:ns.getD m ((0:Int),(([],[]),([],[])))=ns.getD m Bo:=rfl
  have hm:=i1.get (i:=m) (by omega)
  simp (disch:=omega) only [B0,dT,Vb,w64,em,e0,wN]
  cases hz:(m:Int)==src with
  |true=>
   rw[hz]at next
   exact Glb rfl (next _ rfl)
  |false=>
   rw[hz]at next
   refine Gkb rfl ?_
   simp only[Uwa,Vn]
   cases h1:rch rc j != 1 with
   |true=>
    rw[h1]at next
    exact Glb rfl (next _ rfl)
   |false=>
    rw[h1]at next
    refine Gkb rfl (Gtb (Xka (ns.getD m Bo) l (Sy hm) hll) ?_)
    rw[Yoa hm hl]
    dsimp only at next ⊢
    generalize tk (ns.getD m Bo) l=q at *
    cases g with
    |false=>
     refine Gkb rfl (next (ns.set m q.2,false) ?_)
     cases q.1<;>rfl
    |true=>
     refine Glb rfl (next (ns.set m q.2,q.1) ?_)
     cases q.1<;>rfl

def S8 {l:List Row} (h:l.length≤2000000000):An l=some l:=by
 unfold An
 rw[bT (by simp only[Vh];omega),Vx]
def Q3a (w:Wld) (src:Int) (l:List Row) (rc:List Int):Mo w (-1) l false rc=Mo w src l true rc:=by
 unfold Mo
 refine Nb (λ n (a:List Nod×Bool)=>a=run (gst src l true rc (I0 w)) n (w.2.2.1,true)) rfl (λ j b hj hb=>?_)
 rw[Ob,← hb]
 have:=(Ov (A4 (d:=0) hj)).1
 unfold gst
 rw[show ((I0 w).getD j 0 == -1)=false by rw[beq_eq_false_iff_ne];omega,Zf,Yj,Zq]
def Lfa (w:Wld) (src:Int) (l:List Row) (self:Bool) (rc:List Int) (m:Nat):((Mo w src l self rc).1.getD m Bo).2.2.2=(w.2.2.1.getD m Bo).2.2.2:=by
 unfold Mo
 refine Nb (λ n (a:List Nod×Bool)=>(a.1.getD m Bo).2.2.2=(w.2.2.1.getD m Bo).2.2.2) rfl (λ j b hj hb=>?_)
 unfold gst
 cases (I0 w).getD j 0==src&&!self
 case true=>exact hb
 cases rch rc j != 1
 case true=>exact hb
 rw[cond_false,cond_false]
 generalize ((I0 w).getD j 0).toNat=i
 show ((b.1.set i (tk (b.1.getD i Bo) l).2).getD m Bo).2.2.2=_
 by_cases hm:m<b.1.length
 ·rw[Ns hm]
  by_cases hi:i=m
  ·subst hi
   rw[if_pos rfl,← hb]
   unfold tk
   cases decide ((Tv (b.1.getD i Bo).2.2.1 l).length > 60)<;>rfl
  ·rw[if_neg hi];exact hb
 ·rw[Ve,Zh (by rw[Vz];omega)]
  rw[Ve,Zh (by omega)]at hb
  exact hb
def Vda (w:Wld) (i:Nat) (rc:List Int) (hr:RBd w.2.1) (hn:NS w.2.2.1) (hi:i<w.2.2.1.length):Tot (λ k=>C0 k w (i:Int) rc) (λ r=>r=Xr w i rc):=by
 have hni:=hn.get hi
 have e0:w.2.2.1.getD i ((0:Int),(([],[]),([],[])))=w.2.2.1.getD i Bo:=rfl
 have hl:=(C8.1 hni.1).2.2.2.1
 have hll:=(Baa hl).1
 unfold C0 Xr
 simp (disch:=omega) only [dT,Vb,e0,S8 (show (w.2.2.1.getD i Bo).2.2.1.length≤2000000000 by omega),Vn]
 cases hz:((w.2.2.1.getD i Bo).2.2.1.length:Int)==0
 case true=>exact Glb rfl (Gib rfl)
 refine Gkb rfl (Gtb (Iua w (i:Int) _ rc hr hn hl) ?_)
 obtain⟨p1,p2⟩:=Z3 (w:=w) (src:=(i:Int)) (self:=false) (rc:=rc) hl hn
 rw[show Mo w (i:Int) (w.2.2.1.getD i Bo).2.2.1 false rc=Rb w i rc from rfl]at p1 p2 ⊢
 generalize Rb w i rc=a at *
 obtain⟨ns,g⟩:=a
 dsimp only at p1 p2 ⊢
 cases g
 ·exact Gkb rfl (Gib rfl)
 refine Glb rfl (Gtb (Boa (wN w ns) hr p1.1) ?_)
 refine Gtb (U4a _ _ (by have:=R3 (w:=wN w ns) hr p1.1;omega)) ?_
 cases Ou (I0 (wN w ns)) (i:Int)
 case true=>exact Gkb rfl (Gib rfl)
 have e1:ns.getD i ((0:Int),(([],[]),([],[])))=ns.getD i Bo:=rfl
 refine Glb rfl ?_
 simp (disch:=omega) only [dT,Vb,e1]
 exact Gib rfl
def Vea (w:Wld) (i:Nat) (rc:List Int) (hr:RBd w.2.1) (hn:NS w.2.2.1) (hi:i<w.2.2.1.length):Tot (λ k=>C7 k w (i:Int) rc) (λ r=>r=Xt w i rc):=by
 have hni:=hn.get hi
 have e0:w.2.2.1.getD i ((0:Int),(([],[]),([],[])))=w.2.2.1.getD i Bo:=rfl
 obtain⟨hq,_,_,_,hq60⟩:=C8.1 hni.1
 have hl:=R4 hq
 unfold C7 Xt
 simp (disch:=omega) only [dT,Vb,e0]
 cases hz:((w.2.2.1.getD i Bo).2.2.2.length:Int)==0
 case true=>exact Glb rfl (Gib rfl)
 have h1:=beq_eq_false_iff_ne.1 hz
 refine Gkb rfl (Gmb (by omega) ?_)
 rw[show List.take (toNat 1) (w.2.2.1.getD i Bo).2.2.2=List.take 1 (w.2.2.1.getD i Bo).2.2.2 from rfl,S8 (by rw[Vq];omega)]
 simp only[Vn]
 refine Gtb (Iua w (-1) _ rc hr hn hl) ?_
 rw[Q3a w (i:Int)]
 obtain⟨p1,p2⟩:=Z3 (w:=w) (src:=(i:Int)) (self:=true) (rc:=rc) hl hn
 have hqu:=Lfa w (i:Int) ((w.2.2.1.getD i Bo).2.2.2.take 1) true rc i
 rw[show Mo w (i:Int) ((w.2.2.1.getD i Bo).2.2.2.take 1) true rc=S7 w i rc from rfl]at p1 p2 hqu ⊢
 generalize S7 w i rc=a at *
 obtain⟨ns,g⟩:=a
 dsimp only at p1 p2 hqu ⊢
 cases g
 ·exact Gkb rfl (Gib rfl)
 have e1:ns.getD i ((0:Int),(([],[]),([],[])))=ns.getD i Bo:=rfl
 refine Glb rfl ?_
 simp (disch:=omega) only [dT,Vb,e1,hqu]
 rw[show List.drop (toNat 1) (w.2.2.1.getD i Bo).2.2.2=List.drop 1 (w.2.2.1.getD i Bo).2.2.2 from rfl,S8 (by rw[Wd];omega)]
 exact Gib rfl

def NO (ns ms:List Nod):Prop:=NS ms∧ms.map (·.1)=ns.map (·.1)
def NO.len {ns ms:List Nod} (h:NO ns ms):ms.length=ns.length:=by
 have:=congrArg length h.2
 rwa [Wh,Wh]at this
def NO.set {ns ms:List Nod} (h:NO ns ms) {i:Nat} {n:Nod} (hi:i<ms.length) (hn:NG n) (e:n.1=(ms.getD i Bo).1):NO ns (ms.set i n):=⟨h.1.set hn,(Lba hi e).trans h.2⟩
def Cjb (n:Nod) (s:ByteArray) (f:Fil) (sure:Bool):(Xb n s f sure).1.1=n.1:=by
 unfold Xb
 cases (n.2.2.2.length:Int)==60 with
 |true=>rfl
 |false=>rfl
def G1b (n:Nod) (l:List Row):(tk n l).2.1=n.1:=by
 unfold tk
 cases decide ((Tv n.2.2.1 l).length > 60)<;>rfl
def Ckb (n:Nod) (s:ByteArray) (b:Int):(L0a n s b).1.1=n.1:=by
 unfold L0a
 cases Mx n&&((lkD n.2.1 s).2==0&&(J0a n.2.1 s b).2)<;>rfl
def Eyb {w:Wld} {s:ByteArray} {f:Fil} {rc:List Int} (hn:NS w.2.2.1) (hs:B1 s=true) (hf:Fk f=true):NO w.2.2.1 (wrN w s f rc).1:=by
 unfold wrN
 refine Nb (λ _ (a:List Nod×Int×Int)=>NO w.2.2.1 a.1) ⟨hn,rfl⟩ (λ j a hj h=>?_)
 have hc:=Tt (A4 (d:=0) hj)
 have hl:=h.len
 unfold wst
 cases decide (a.2.1<w.2.1.1)
 ·exact h
 rw[cond_true]
 cases rch rc j==0 with
 |true=>exact h
 |false=>exact h.set (by omega) (Npa (h.1.get (by omega)) hs hf) (Cjb _ _ _ _)
def Ezb {w:Wld} {i:Nat} {s:ByteArray} {rc:List Int} (hn:NS w.2.2.1):NO w.2.2.1 (puN w i s rc).1:=by
 unfold puN
 refine Nb (λ _ (a:List Nod×Bool×Bool)=>NO w.2.2.1 a.1) ⟨hn,rfl⟩ (λ j a hj h=>?_)
 have hc:=Sw (A4 (d:=0) hj)
 have hl:=h.len
 unfold pst
 cases (Oq w s).getD j 0==(i:Int)
 case true=>exact h
 rw[cond_false]
 cases rch rc j != 1 with
 |true=>exact h
 |false=>exact h.set (by omega) (Laa (h.1.get (by omega))) rfl
def Oaa {w:Wld} {i:Nat} {s:ByteArray} {rc:List Int} (hn:NS w.2.2.1) (hi:i<w.2.2.1.length):∃ ns,(Xq w i s rc).2=wN w ns∧NO w.2.2.1 ns:=by
 unfold Xq
 cases hl:(lkD (w.2.2.1.getD i Bo).2.1 s).2 != 0
 case true=>exact⟨w.2.2.1,rfl,hn,rfl⟩
 have h:=Ezb (i:=i) (s:=s) (rc:=rc) hn
 have hlen:=h.len
 have hs:B1 s=true:=by
  rw[bne,Wj,beq_iff_eq]at hl
  obtain⟨b,hb,_⟩:=Q8.1 (show lkD (w.2.2.1.getD i Bo).2.1 s=((lkD (w.2.2.1.getD i Bo).2.1 s).1,0) from by rw[← hl])
  exact Pka (hn.get hi).g.1 (by rw[hb];rfl)
 refine⟨_,rfl,?_⟩
 cases (puN w i s rc).2.2&&!(puN w i s rc).2.1 with
 |false=>exact h
 |true=>exact h.set (by omega) (Zwa (h.1.get (by omega)) hs) rfl
def Oba {w:Wld} {src:Int} {l:List Row} {self:Bool} {rc:List Int} (hl:Kj l=true) (hn:NS w.2.2.1):NO w.2.2.1 (Mo w src l self rc).1:=by
 unfold Mo
 refine Nb (λ _ (a:List Nod×Bool)=>NO w.2.2.1 a.1) ⟨hn,rfl⟩ (λ j a hj h=>?_)
 have hc:=Ov (A4 (d:=0) hj)
 have hlen:=h.len
 unfold gst
 cases (I0 w).getD j 0==src&&!self
 case true=>exact h
 rw[cond_false]
 cases rch rc j != 1 with
 |true=>exact h
 |false=>exact h.set (by omega) (Fwb (h.1.get (by omega)) hl) (G1b _ _)
def Oca {w:Wld} {i:Nat} {rc:List Int} (hn:NS w.2.2.1) (hi:i<w.2.2.1.length):∃ ns,(Xr w i rc).2=wN w ns∧NO w.2.2.1 ns:=by
 have h:=Oba (w:=w) (src:=(i:Int)) (self:=false) (rc:=rc) (C8.1 (hn.get hi).1).2.2.2.1 hn
 have hlen:=h.len
 unfold Xr
 cases ((w.2.2.1.getD i Bo).2.2.1.length:Int)==0
 case true=>exact⟨w.2.2.1,rfl,hn,rfl⟩
 refine⟨_,rfl,?_⟩
 show NO w.2.2.1 (bif (Rb w i rc).2&&_ then (Rb w i rc).1.set i (V1a ((Rb w i rc).1.getD i Bo)) else (Rb w i rc).1)
 unfold Rb
 cases (Mo w (i:Int) (w.2.2.1.getD i Bo).2.2.1 false rc).2&&_ with
 |false=>exact h
 |true=>exact h.set (by omega) (O7a (h.1.get (by omega))) rfl
def Oda {w:Wld} {i:Nat} {rc:List Int} (hn:NS w.2.2.1) (hi:i<w.2.2.1.length):∃ ns,(Xt w i rc).2=wN w ns∧NO w.2.2.1 ns:=by
 have hq:=C8.1 (hn.get hi).1
 have h:=Oba (w:=w) (src:=(i:Int)) (self:=true) (rc:=rc) (R4 hq.1) hn
 have hlen:=h.len
 unfold Xt
 cases ((w.2.2.1.getD i Bo).2.2.2.length:Int)==0
 case true=>exact⟨w.2.2.1,rfl,hn,rfl⟩
 refine⟨_,rfl,?_⟩
 show NO w.2.2.1 (bif (S7 w i rc).2 then (S7 w i rc).1.set i (Fxb ((S7 w i rc).1.getD i Bo) ((w.2.2.1.getD i Bo).2.2.2.drop 1)) else (S7 w i rc).1)
 unfold S7
 cases (Mo w (i:Int) ((w.2.2.1.getD i Bo).2.2.2.take 1) true rc).2 with
 |false=>exact h
 |true=>exact h.set (by omega) (Zya (h.1.get (by omega)) (λ r hr=>hq.1 r (Zj hr)) (by rw[Wd];omega)) rfl
structure WO (w:Wld):Prop where
 ring:Jd w.2.1 w.1=true
 ids:w.2.2.1.map (·.1)=w.1.map (·.1)
 ns:NS w.2.2.1
 clk:Gw w.2.2.2.1=true
 wlen:w.2.2.2.2.1.length≤200
 wok:Ina w.2.2.2.2.1
 wge:∀ x∈w.2.2.2.2.1,sle w.2.2.2.1 x.2.1.1=false
 sps:TS w.2.2.2.2.2
 spn:∀ s∈w.2.2.2.2.2,B1 s=true
def WI.wo {w:Wld} (h:WI w):WO w:=⟨h.ring,h.ids,h.ns,h.clk,h.wlen,h.wok,h.wge,h.sps,λ s hs=>by
 obtain⟨x,hx,e⟩:=h.spw s hs
 rw[← e]
 exact(h.wok x hx).1⟩
namespace WO
variable {w:Wld}
def nlen (h:WO w):w.2.2.1.length=w.1.length:=by
 have:=congrArg length h.ids
 rwa [Wh,Wh]at this
def dlen (h:WO w):1≤w.1.length∧w.1.length≤12:=(Gy.1 (D5.1 h.ring).1).2.2
def other (h:WO w) {ns:List Nod} (hn:NO w.2.2.1 ns):WO (wN w ns):=⟨h.ring,hn.2.trans h.ids,hn.1,h.clk,h.wlen,h.wok,h.wge,h.sps,h.spn⟩
def other' (h:WO w) {r:Bool×Wld} (hr:∃ ns,r.2=wN w ns∧NO w.2.2.1 ns):WO r.2:=by
 obtain⟨ns,e,hn⟩:=hr
 rw[e]
 exact h.other hn
def write (h:WO w) {s:ByteArray} {f:Fil} {rc:List Int} (hs:B1 s=true) (hf:Fk f=true) (hb:Ap f.2.2) (hc:sle w.2.2.2.1 f.1=true) (hl:w.2.2.2.2.1.length<200):WO (Bqa (w.1,w.2.1,w.2.2.1,f.1,w.2.2.2.2) s f rc).2:=by
 have g:=Eyb (w:=(w.1,w.2.1,w.2.2.1,f.1,w.2.2.2.2)) (rc:=rc) h.ns hs hf
 unfold Bqa
 generalize wrN (w.1,w.2.1,w.2.2.1,f.1,w.2.2.2.2) s f rc=a at *
 exact {
  ring:=h.ring
  ids:=g.2.trans h.ids
  ns:=g.1
  clk:=(Km.1 hf).1
  wlen:=by show (w.2.2.2.2.1++[_]).length≤200;rw[Vd];simp only[Vc,Vh];omega
  wok:=λ x hx=>by
   rcases Vo.1 hx with hx|hx
   ·exact h.wok x hx
   ·rw[Vu.1 hx];exact⟨hs,hf,hb⟩
  wge:=λ x hx=>by
   rcases Vo.1 hx with hx|hx
   ·exact Dna (Bra hc) (h.wge x hx)
   ·rw[Vu.1 hx];exact Ot _
  sps:=h.sps
  spn:=h.spn }
def ask (h:WO w) {s:ByteArray} {f:Fil} {t:Int} {rc:List Int} (hb:Ap f.2.2) (hd:f.2.1=true→f.2.2=[]):WO (ask w s f t rc).2:=by
 unfold Vf.ask
 cases hs:B1 s
 ·exact h
 rw[Zf,cond_false]
 by_cases hl:(f.2.2.length:Int) > 200
 ·rw[decide_eq_true hl];exact h
 ·rw[decide_eq_false hl,cond_false]
  cases inR t 0 1000000000
  ·exact h
  rw[Zf,cond_false]
  cases hw:(w.2.2.2.2.1.length:Int)==200
  case true=>exact h
  rw[cond_false]
  have hw':=beq_eq_false_iff_ne.1 hw
  have hwl:=h.wlen
  obtain⟨n1,n2⟩:=Fha h.clk t 0
  cases he:(Nr w.2.2.2.1 t 0).1==w.2.2.2.1.1&&((Nr w.2.2.2.1 t 0).2.1==w.2.2.2.1.2.1&&(Nr w.2.2.2.1 t 0).2.2==w.2.2.2.1.2.2)
  case true=>exact h
  rw[cond_false]
  have hlt:sle w.2.2.2.1 (Nr w.2.2.2.1 t 0)=true:=by
   rcases n2 with n2|n2
   ·rw[n2,beq_self_eq_true,beq_self_eq_true,beq_self_eq_true]at he;cases he
   ·exact n2
  exact h.write (f:=(Nr w.2.2.2.1 t 0,f.2)) hs (Km.2 ⟨n1,by show f.2.2.length≤200;omega,hd⟩) hb hlt (by omega)
def rot (h:WO w) {i:Nat} (hi:i<w.2.2.1.length) {s:ByteArray} {b:Int}:WO (C9b w i s b).2:=by
 have hg:=h.ns.get hi
 unfold C9b
 cases hr:(L0a (w.2.2.1.getD i Bo) s b).2
 ·exact h
 have hn:NO w.2.2.1 (w.2.2.1.set i (L0a (w.2.2.1.getD i Bo) s b).1):=NO.set ⟨h.ns,rfl⟩ hi (U0a hg) (Ckb _ _ _)
 have hs:B1 s=true:=by
  unfold L0a at hr
  cases hc:Mx (w.2.2.1.getD i Bo)&&((lkD (w.2.2.1.getD i Bo).2.1 s).2==0&&(J0a (w.2.2.1.getD i Bo).2.1 s b).2)
  ·rw[hc]at hr;cases hr
  rw[Va,Va,beq_iff_eq]at hc
  obtain⟨b,hb,_⟩:=Q8.1 (show lkD (w.2.2.1.getD i Bo).2.1 s=((lkD (w.2.2.1.getD i Bo).2.1 s).1,0) from by rw[← hc.2.1])
  exact Pka hg.g.1 (by rw[hb];rfl)
 exact⟨h.ring,hn.2.trans h.ids,hn.1,h.clk,h.wlen,h.wok,h.wge,Dma h.sps,λ t ht=>by
  rcases Fia.1 ht with rfl|ht
  ·exact hs
  ·exact h.spn t ht⟩
def node (h:WO w) {i:Nat} (hi:i<w.2.2.1.length) {e:Evt}:WO (Cda w e i).2:=by
 have hg:=h.ns.get hi
 unfold Cda
 cases e.1==3
 case true=>exact h.other' (Oaa h.ns hi)
 cases e.1==4
 case true=>exact h.other' (Oca h.ns hi)
 cases e.1==5
 case true=>exact h.other' (Oda h.ns hi)
 cases e.1==6
 case true=>exact h.other (NO.set ⟨h.ns,rfl⟩ hi (Uqa hg) rfl)
 cases e.1==7 with
 |true=>exact h.other (NO.set ⟨h.ns,rfl⟩ hi (Epb hg) rfl)
 |false=>exact h.rot hi
def weigh (h:WO w) {i t:Int}:WO (Ima w i t).2:=by
 unfold Ima
 cases h1:inR i 0 ((w.1.length:Int)-1)
 ·exact h
 cases h2:inR t 1 1000
 ·exact h
 obtain⟨i0,i1⟩:=Eb.1 h1
 obtain⟨w0,w1⟩:=Eb.1 h2
 exact⟨(Nza (F5a h.ring (by omega) w0 w1)).1,h.ids.trans (F4a _ _ _).symm,h.ns,h.clk,h.wlen,h.wok,h.wge,h.sps,h.spn⟩
def ev (h:WO w) {e:Evt} (hb:Ap e.2.2.2.1):WO (doW w e).2:=by
 have ae:∀ {q:Int×Wld},WO q.2→WO (Vha q).2:=λ {q} hq=>by
  unfold Vha
  cases q.1 != 2<;>exact hq
 unfold doW
 cases e.1==1
 case true=>exact ae (h.ask hb (λ c=>by cases c))
 cases e.1==2
 case true=>exact ae (h.ask Nq (λ _=>rfl))
 cases e.1==3||(e.1==4||(e.1==5||(e.1==6||(e.1==7||e.1==8)))) with
 |true=>
  cases hi:inR e.2.1 0 ((w.2.2.1.length:Int)-1)
  ·exact h
  have:=Eb.1 hi
  exact h.node (by omega)
 |false=>
  cases e.1==9 with
  |true=>exact h.weigh
  |false=>exact h
def nods (h:WO w):S6 w.1 w.2.2.1=true:=by
 have hl:=h.nlen
 unfold S6
 rw[show ((w.2.2.1.length:Int)==(w.1.length:Int))=true by rw[beq_iff_eq];omega,Wc,Yr]
 intro j hj
 have hj':=Hfb.1 hj
 rw[Va,beq_iff_eq]
 refine⟨?_,(h.ns.get hj').1⟩
 have e1:(w.2.2.1.getD j Bo).1=(w.2.2.1.map (·.1)).getD j 0:=by
  rw[Ve,Ve,H2b,Vk hj'];rfl
 have e2:(w.1.getD j Nu).1=(w.1.map (·.1)).getD j 0:=by
  rw[Ve,Ve,H2b,Vk (by omega)];rfl
 rw[e1,e2,h.ids]
def ok (h:WO w):Pq w=true:=by
 unfold Pq
 have a2:Y9a w.2.2.2.1 w.2.2.2.2.1=true:=by
  unfold Y9a
  rw[Va,Yr]
  refine⟨λ x hx=>?_,decide_eq_true (by have:=h.wlen;omega)⟩
  unfold Fca
  rw[(h.wok x hx).1,(h.wok x hx).2.1,h.wge x hx]
  rfl
 have a3:T6 w.2.2.2.2.2=true:=by
  unfold T6
  rw[Yr]
  intro j hj
  have hj':=Hfb.1 hj
  rw[Va,Gzb]
  refine⟨h.spn _ (A4 hj'),?_⟩
  by_cases h0:j=0
  ·exact .inl (decide_eq_true h0)
  ·right
   have:=Gyb.1 h.sps (j-1) j (by omega) hj' (by omega)
   rwa [Ve,Ve,Vk hj',Vk (by omega)]
 rw[h.ring,h.nods,h.clk,a2,a3]
 rfl
end WO
def G2b {l:List ByteArray} (h:∀ j,0<j→j<l.length→tlt (l.getD (j-1) Nw) (l.getD j Nw)=true):TS l:=by
 induction l with
 |nil=>exact List.Pairwise.nil
 |cons x l ih=>
  have ht:TS l:=ih (λ j h0 hj=>by
   have:=h (j+1) (by omega) (by simpa using hj)
   obtain⟨m,rfl⟩:∃ m,j=m+1:=⟨j-1,by omega⟩
   simpa using this)
  refine Wk.2 ⟨λ y hy=>?_,ht⟩
  cases l with
  |nil=>cases hy
  |cons z l=>
   have hz:tlt x z=true:=by have:=h 1 (by omega) (by simp);simpa using this
   rcases Vm.1 hy with rfl|hy
   ·exact hz
   ·exact N6 hz ((Wk.1 ht).1 y hy)
def G3b {w:Wld} (h:Pq w=true) (hn:∀ n∈w.2.2.1,DB n.2.1) (hb:∀ x∈w.2.2.2.2.1,Ap x.2.1.2.2):WO w:=by
 unfold Pq at h
 simp only[Va]at h
 obtain⟨h1,h2,h3,h4,h5⟩:=h
 unfold S6 at h2
 rw[Va,beq_iff_eq,Yr]at h2
 obtain⟨hl,h2⟩:=h2
 have hd:=(Gy.1 (D5.1 h1).1).2.2
 have hnode:∀ j,j<w.2.2.1.length→(w.2.2.1.getD j Bo).1=(w.1.getD j Nu).1∧Mx (w.2.2.1.getD j Bo)=true:=λ j hj=>by
  have:=h2 j (Hfb.2 hj)
  rwa [Va,beq_iff_eq]at this
 unfold Y9a at h4
 rw[Va,Yr,decide_eq_true_iff]at h4
 unfold T6 at h5
 rw[Yr]at h5
 have hsp:∀ j,j<w.2.2.2.2.2.length→B1 (w.2.2.2.2.2.getD j Nw)=true∧(j=0∨tlt (w.2.2.2.2.2.getD (j-1) Nw) (w.2.2.2.2.2.getD j Nw)=true):=λ j hj=>by
  have:=h5 j (Hfb.2 hj)
  rwa [Va,Gzb,decide_eq_true_iff]at this
 have hx:∀ x∈w.2.2.2.2.1,B1 x.1=true∧Fk x.2.1=true∧sle w.2.2.2.1 x.2.1.1=false:=λ x hx=>by
  have:=h4.1 x hx
  unfold Fca at this
  rwa [Va,Va,Vv]at this
 refine⟨h1,?_,⟨by omega,λ n hm=>?_⟩,h3,by omega,λ x hm=>⟨(hx x hm).1,(hx x hm).2.1,hb x hm⟩,λ x hm=>(hx x hm).2.2,G2b (λ j h0 hj=>?_),λ s hs=>?_⟩
 ·refine Jgb (by rw[Wh,Wh];omega) (λ j a b=>?_)
  rw[Wh]at a b
  have:=(hnode j a).1
  rw[Ve,Ve,Vk a,Vk b]at this
  rw[Iqb,Iqb]
  exact this
 ·obtain⟨j,hj,rfl⟩:=Zw.1 hm
  have:=(hnode j hj).2
  rw[Ve,Vk hj]at this
  exact⟨this,hn _ hm⟩
 ·rcases (hsp j hj).2 with h|h
  ·omega
  ·exact h
 ·obtain⟨j,hj,rfl⟩:=Zw.1 hs
  have:=(hsp j hj).1
  rwa [Ve,Vk hj]at this

section
open Go
end

section
open Go
end

def WIm.wo {m:Nat} {w:Wld} (h:WIm m w) (hk:Pq w=true):WO w:=G3b hk (λ n hn=>(h.2.2.1.2 n hn).1.2) (λ x hx=>(h.2.2.2.1.2 x hx).2.2)
def WO.wim {w:Wld} (h:WO w) {m:Nat} (h2:200≤m) (hs:w.2.2.2.2.2.length≤m):WIm m w:=
 ⟨N1 h.ring,by have:=h.dlen;omega,⟨h.ns.1,λ n hn=>Sy (h.ns.2 n hn)⟩,⟨by have:=h.wlen;omega,λ x hx=>⟨Ja (h.wok x hx).1,by have:=(Km.1 (h.wok x hx).2.1).2.1;omega,(h.wok x hx).2.2⟩⟩,hs,λ s hs=>Ja (h.spn s hs)⟩
def Iva {m:Nat} {w:Wld} (h:WIm m w) (hm:m≤2000000):Tot (λ k=>B6 k w) (λ r=>r=w):=by
 obtain⟨h1,h2,⟨h3,h4⟩,⟨h5,h6⟩,h7,h8⟩:=h
 unfold B6
 refine Gqb (by rw[Vh];omega) (Gtb (I9a w.2.1 h1) ?_)
 refine Gqb (by rw[Vh];omega) ?_
 rw[Vx,Vx]
 refine Gjb (Q:=λ r=>r=(w,Fja,(w.1,w.2.1,w.2.2.1,w.2.2.2.1,[],w.2.2.2.2.2))) ?_ ?_
 ·refine Grb (L:=λ k i (s:List Nod)=>E3 k w.2.2.1 (w.2.2.1.length:Int) i w Fja (w.1,w.2.1,s,w.2.2.2.1,[],w.2.2.2.2.2)) (Q:=λ r=>r=(w,Fja,(w.1,w.2.1,w.2.2.1,w.2.2.2.1,[],w.2.2.2.2.2))) w.2.2.1.length (λ j s=>s=w.2.2.1.take j) ?_ ?_ 0 [] (Vs _) rfl
  ·rintro s rfl
   simp (disch:=omega) only [E3,dF]
   exact Gib (by rw[Ys])
  ·rintro j s hj rfl next
   have hm:=h4 _ (A4 (d:=Bo) hj)
   have e0:w.2.2.1.getD j ((0:Int),(([],[]),([],[])))=w.2.2.1.getD j Bo:=rfl
   have hl:(w.2.2.1.take j).length=j:=by rw[Vq];omega
   simp (disch:=omega) only [E3,dT,Vb,w64,e0]
   refine Gtb (Pk _ hm) ?_
   refine Gqb (by rw[hl];simp only[Vc,Vh];omega) (next _ ?_)
   rw[Wm hj,Ve,Vk hj]
   rfl
 ·rintro r rfl
  refine Gjb (Q:=λ r=>r=(Fja,w)) ?_ (by rintro r rfl;exact Gib rfl)
  refine Grb (L:=λ k i (s:List Wri)=>Dz k w.2.2.2.2.1 (w.2.2.2.2.1.length:Int) i Fja (w.1,w.2.1,w.2.2.1,w.2.2.2.1,s,w.2.2.2.2.2)) (Q:=λ r=>r=(Fja,w)) w.2.2.2.2.1.length (λ j s=>s=w.2.2.2.2.1.take j) ?_ ?_ 0 [] (Vs _) rfl
  ·rintro s rfl
   simp (disch:=omega) only [Dz,dF]
   exact Gib (by rw[Ys])
  ·rintro j s hj rfl next
   have hm:=(h6 _ (A4 (d:=Uta) hj)).2.1
   have e0:w.2.2.2.2.1.getD j ((⟨#[]⟩:ByteArray),((((0:Int),((0:Int),(0:Int))),(false,[])),false))=w.2.2.2.2.1.getD j Uta:=rfl
   have hl:(w.2.2.2.2.1.take j).length=j:=by rw[Vq];omega
   simp (disch:=omega) only [Dz,dT,Vb,w64,e0,Ita (f:=(w.2.2.2.2.1.getD j Uta).2.1) (by omega),Vn]
   refine Gqb (by rw[hl];simp only[Vc,Vh];omega) (next _ ?_)
   rw[Wm hj,Ve,Vk hj]
   rfl
def Gbb (w v:Wld):Prop:=v.2.2.1.length=w.2.2.1.length∧w.2.2.2.2.1.length≤v.2.2.2.2.1.length∧sle v.2.2.2.1 w.2.2.2.1=false
def Gbb.nodes {w:Wld} {ns:List Nod} (h:ns.length=w.2.2.1.length):Gbb w (wN w ns):=⟨h,Vw _,Ot _⟩

section
open Go
end

section
open Go
end

section
open Go
end

def Q9:List Int:=[1,1,1,1,1,1,1,1,1,1,1,1]
def Wz (w:Wld) (i:Nat) (l:List ByteArray):Wld:=l.foldl (λ w s=>(Xq w i s Q9).2) w
def X1 (w:Wld) (i:Nat):Nat→Wld
 |0=>w
 |n+1=>(Xt (X1 w i n) i Q9).2
def qtA (w:Wld) (i:Nat):Wld:=wN w (w.2.2.1.set i (Emb (w.2.2.1.getD i Bo)).1)
def qtP (w:Wld) (i:Nat):Wld:=Wz (qtA w i) i (F8a ((qtA w i).2.2.1.getD i Bo).2.1)
def qtT (w:Wld) (i:Nat):Wld:=X1 (qtP w i) i ((qtP w i).2.2.1.getD i Bo).2.2.2.length
def qtN (w:Wld) (i:Nat):Wld:=(Xr (qtT w i) i Q9).2
def Dpa (w:Wld):Wld:=run qtN w.2.2.1.length w
def Tu (w:Wld):Nat→Wld
 |0=>w
 |n+1=>Dpa (Tu w n)
def Iwa:Tot (λ k=>I6 k) (λ r=>r=Q9):=by
 unfold I6
 refine Gjb (Q:=λ r=>r=Q9) ?_ (by rintro r rfl;exact Gib rfl)
 refine Grb (L:=λ k i (s:List Int)=>F8 k s i) (Q:=λ r=>r=Q9) 12 (λ j s=>s=List.replicate j 1) ?_ ?_ 0 [] (Vs _) rfl
 ·rintro s rfl
  simp (disch:=omega) only [F8,dF]
  exact Gib rfl
 ·rintro j s hj rfl next
  simp (disch:=omega) only [F8,dT,w64]
  refine Gqb (by rw[Iib];simp only[Vc,Vh];omega) (next _ ?_)
  rw[List.replicate_succ']
def NW (w v:Wld):Prop:=∃ ns,v=wN w ns∧NO w.2.2.1 ns
def NW.refl {w:Wld} (h:WO w):NW w w:=⟨w.2.2.1,rfl,h.ns,rfl⟩
def NW.trans {u v w:Wld} (h1:NW u v) (h2:NW v w):NW u w:=by
 obtain⟨a,rfl,ha⟩:=h1
 obtain⟨b,rfl,hb⟩:=h2
 exact⟨b,rfl,hb.1,hb.2.trans ha.2⟩
def NW.wo {w v:Wld} (h:NW w v) (hw:WO w):WO v:=by
 obtain⟨ns,rfl,hn⟩:=h
 exact hw.other hn
def NW.len {w v:Wld} (h:NW w v):v.2.2.1.length=w.2.2.1.length:=by
 obtain⟨ns,rfl,hn⟩:=h
 exact hn.len
def Clb {w:Wld} (h:WO w) {i:Nat} (hi:i<w.2.2.1.length) (s:ByteArray) (rc:List Int):NW w (Xq w i s rc).2:=Oaa h.ns hi
def Cmb {w:Wld} (h:WO w) {i:Nat} (hi:i<w.2.2.1.length) (rc:List Int):NW w (Xt w i rc).2:=Oda h.ns hi
def Cnb {w:Wld} (h:WO w) {i:Nat} (hi:i<w.2.2.1.length) (rc:List Int):NW w (Xr w i rc).2:=Oca h.ns hi
def A3b {w:Wld} (h:WO w) {i:Nat} (hi:i<w.2.2.1.length):NW w (qtA w i):=⟨_,rfl,NO.set ⟨h.ns,rfl⟩ hi (Uqa (h.ns.get hi)) rfl⟩
def X2 {i:Nat}:∀ (l:List ByteArray) {w:Wld},WO w→i<w.2.2.1.length→NW w (Wz w i l)
 |[],w,h,_=>NW.refl h
 |s::l,w,h,hi=>by
  have h1:=Clb h hi s Q9
  exact h1.trans (X2 l (h1.wo h) (by rw[h1.len];exact hi))
def X3 {i:Nat} {w:Wld} (h:WO w) (hi:i<w.2.2.1.length):∀ n,NW w (X1 w i n)
 |0=>NW.refl h
 |n+1=>by
  have h1:=X3 h hi n
  exact h1.trans (Cmb (h1.wo h) (by rw[h1.len];exact hi) Q9)
def A4b {w:Wld} (h:WO w) {i:Nat} (hi:i<w.2.2.1.length):NW w (qtP w i):=by
 have h1:=A3b h hi
 exact h1.trans (X2 _ (h1.wo h) (by rw[h1.len];exact hi))
def A5b {w:Wld} (h:WO w) {i:Nat} (hi:i<w.2.2.1.length):NW w (qtT w i):=by
 have h1:=A4b h hi
 exact h1.trans (X3 (h1.wo h) (by rw[h1.len];exact hi) _)
def F0b {w:Wld} (h:WO w) {i:Nat} (hi:i<w.2.2.1.length):NW w (qtN w i):=by
 have h1:=A5b h hi
 exact h1.trans (Cnb (h1.wo h) (by rw[h1.len];exact hi) Q9)
def Vfa {w:Wld} (h:WO w):∀ n,n≤w.2.2.1.length→NW w (run qtN n w)
 |0,_=>NW.refl h
 |n+1,hn=>by
  have h1:=Vfa h n (by omega)
  rw[Ob]
  exact h1.trans (F0b (h1.wo h) (by rw[h1.len];omega))
def Fla {w:Wld} (h:WO w):NW w (Dpa w):=Vfa h _ (Vw _)
def Ixa {w:Wld} (h:WO w):∀ n,NW w (Tu w n)
 |0=>NW.refl h
 |n+1=>by
  have h1:=Ixa h n
  exact h1.trans (Fla (h1.wo h))
def NW.sp {w v:Wld} (h:NW w v):v.2.2.2.2.2=w.2.2.2.2.2:=by obtain⟨ns,rfl,_⟩:=h;rfl
def Dqa {w:Wld} (h:WO w):Tot (λ k=>Ad k w) (λ r=>r=Dpa w):=by
 have hnl:=h.ns.1
 unfold Ad
 refine Gjb Iwa ?_
 rintro _ rfl
 refine Gjb (Q:=λ r=>r=Dpa w) ?_ (by rintro r rfl;exact Gib rfl)
 refine Grb (L:=λ k i (v:Wld)=>C1 k Q9 (w.2.2.1.length:Int) i v) (Q:=λ r=>r=Dpa w) w.2.2.1.length (λ j v=>v=run qtN j w) ?_ ?_ 0 w (Vs _) rfl
 ·rintro v rfl
  simp (disch:=omega) only [C1,dF]
  exact Gib rfl
 ·rintro j v hj rfl next
  rw[Ob]at next
  have hn:=Vfa h j (by omega)
  have hv:=hn.wo h
  have hl:=hn.len
  generalize run qtN j w=v at *
  have hj':j<v.2.2.1.length:=by omega
  have e0:v.2.2.1.getD j ((0:Int),(([],[]),([],[])))=v.2.2.1.getD j Bo:=rfl
  simp (disch:=omega) only [C1,dT,Vb,e0]
  refine Gjb (Ura _ (hv.ns.get hj')) ?_
  rintro _ rfl
  have e1:∀ ns:List Nod,ns.getD j ((0:Int),(([],[]),([],[])))=ns.getD j Bo:=λ _=>rfl
  have hsl:(v.2.2.1.set j (Emb (v.2.2.1.getD j Bo)).1).length=v.2.2.1.length:=Vz ..
  have hA:=A3b hv hj'
  have hAo:=hA.wo hv
  have hAl:=hA.len
  refine Gmb (by rw[hsl];omega) ?_
  show Tot (λ k=>(K5 k ((qtA v j).2.2.1.getD j Bo).2.1).bind λ r6=>(Bb k Q9 (j:Int) (w.2.2.1.length:Int) (j:Int) r6 (length r6:Int) 0 (qtA v j)).bind _) _
  have hg:=Sy (hAo.ns.get (i:=j) (by omega))
  refine Gjb (Y0a _ hg.1.1 hg.1.2) ?_
  rintro _ rfl
  have hpl:(F8a ((qtA v j).2.2.1.getD j Bo).2.1).length≤2000000:=by
   have a:=Zua ((qtA v j).2.2.1.getD j Bo).2.1 ((qtA v j).2.2.1.getD j Bo).2.1.1 []
   rw[Vh]at a
   have:=hg.1.1.2.1
   unfold F8a
   omega
  have hP:=A4b hv hj'
  have hPo:=hP.wo hv
  have hPl:=hP.len
  refine Gjb (Q:=λ r=>r=(Q9,(j:Int),(w.2.2.1.length:Int),(j:Int),qtP v j)) ?_ ?_
  ·have hfull:qtP v j=Wz (qtA v j) j (F8a ((qtA v j).2.2.1.getD j Bo).2.1):=rfl
   rw[hfull]
   generalize F8a ((qtA v j).2.2.1.getD j Bo).2.1=l at *
   refine Grb (L:=λ k i (u:Wld)=>Bb k Q9 (j:Int) (w.2.2.1.length:Int) (j:Int) l (l.length:Int) i u) (Q:=λ r=>r=(Q9,(j:Int),(w.2.2.1.length:Int),(j:Int),Wz (qtA v j) j l)) l.length (λ i u=>u=Wz (qtA v j) j (l.take i)) ?_ ?_ 0 _ (Vs _) rfl
   ·rintro u rfl
    simp (disch:=omega) only [Bb,dF]
    exact Gib (by rw[Ys])
   ·rintro i u hi rfl next
    have hq:=X2 (i:=j) (l.take i) hAo (by omega)
    have hqo:=hq.wo hAo
    have hql:=hq.len
    have e2:l.getD i (⟨#[]⟩:ByteArray)=l.getD i Nw:=rfl
    simp (disch:=omega) only [Bb,dT,Vb,w64,e2]
    refine Gjb (Yna _ j _ Q9 hqo.ring hqo.ns (by omega)) ?_
    rintro _ rfl
    refine next _ ?_
    unfold Wz
    rw[Wm hi,Hkb,Ve,Vk hi]
    rfl
  ·rintro _ rfl
   simp (disch:=omega) only [dT,Vb,e1]
   have hT:=A5b hv hj'
   have hTo:=hT.wo hv
   have hTl:=hT.len
   have hq60:=(C8.1 (hPo.ns.get (i:=j) (by omega)).1).2.2.2.2
   refine Gjb (Q:=λ r=>r=(Q9,(j:Int),(w.2.2.1.length:Int),(j:Int),qtT v j)) ?_ ?_
   ·have hfull:qtT v j=X1 (qtP v j) j ((qtP v j).2.2.1.getD j Bo).2.2.2.length:=rfl
    rw[hfull]
    generalize ((qtP v j).2.2.1.getD j Bo).2.2.2.length=q at *
    refine Grb (L:=λ k i (u:Wld)=>Bi k Q9 (j:Int) (w.2.2.1.length:Int) (j:Int) (q:Int) i u) (Q:=λ r=>r=(Q9,(j:Int),(w.2.2.1.length:Int),(j:Int),X1 (qtP v j) j q)) q (λ i u=>u=X1 (qtP v j) j i) ?_ ?_ 0 _ (Vs _) rfl
    ·rintro u rfl
     simp (disch:=omega) only [Bi,dF]
     exact Gib rfl
    ·rintro i u hi rfl next
     have hq:=X3 hPo (i:=j) (by omega) i
     have hqo:=hq.wo hPo
     have hql:=hq.len
     simp (disch:=omega) only [Bi,dT,w64]
     refine Gjb (Vea _ j Q9 (N1 hqo.ring) hqo.ns (by omega)) ?_
     rintro _ rfl
     exact next _ rfl
   ·rintro _ rfl
    refine Gjb (Vda (qtT v j) j Q9 (N1 hTo.ring) hTo.ns (by omega)) ?_
    rintro _ rfl
    simp (disch:=omega) only [w64]
    exact next _ rfl
def Nt (w:Wld):Wld:=bif Pq w then Dpa w else w
def Dra {m:Nat} {w:Wld} (h:WIm m w) (hm:m≤1999000):Tot (λ k=>Le k w) (λ r=>r=Nt w):=by
 have hw:=h.win (by omega)
 unfold Le Nt
 refine Gjb (Iva h (by omega)) ?_
 rintro w rfl
 refine Gjb (Bma w hw) ?_
 rintro b rfl
 cases hk:Pq w with
 |false=>exact Gkb rfl (Gib rfl)
 |true=>
  refine Glb rfl (Gjb (Dqa (h.wo hk)) ?_)
  rintro _ rfl
  exact Gib rfl
def Lga {m:Nat} {w:Wld} (h:WIm m w) (hm:m≤1999000) (n:Nat) (hn:n≤20):Tot (λ k=>H3 k w (n:Int)) (λ r=>r=bif Pq w then Tu w n else w):=by
 have hw:=h.win (by omega)
 unfold H3
 refine Gjb (Iva h (by omega)) ?_
 rintro w rfl
 simp only[Uk,Vn]
 refine Glb (Eb.2 ⟨by omega,by omega⟩) (Gjb (Bma w hw) ?_)
 rintro b rfl
 cases hk:Pq w with
 |false=>exact Gkb rfl (Gib rfl)
 |true=>
  have ho:=h.wo hk
  refine Glb rfl (Gjb (Q:=λ r=>r=(Fja,Tu w n)) ?_ (by rintro _ rfl;exact Gib rfl))
  refine Grb (L:=λ k i (v:Wld)=>Hv k (n:Int) i Fja v) (Q:=λ r=>r=(Fja,Tu w n)) n (λ j v=>v=Tu w j) ?_ ?_ 0 w (Vs _) rfl
  ·rintro v rfl
   simp (disch:=omega) only [Hv,dF]
   exact Gib rfl
  ·rintro j v hj rfl next
   simp (disch:=omega) only [Hv,dT,w64]
   refine Gjb (Dqa ((Ixa ho j).wo ho)) ?_
   rintro _ rfl
   exact next _ rfl

end Go.Proofs.YtmhhjceoinoekaaGreat.Vf

section
set_option linter.unusedVariables false
set_option linter.unusedSimpArgs false
namespace Go.Proofs.YtmhhjceoinoekaaGreat.Pure
open Go Go.RowKit Go.Proofs.YtmhhjceoinoekaaGreat.Vf
theorem Cea (a:List Int) (hb:(a.length:Int)≤1048576):Tot (λ k=>Gf k a) (λ r=>WIp 201 r.1):=by
 unfold Gf
 refine Gjb (H4a a hb) ?_
 intro c hc
 refine Gjb (Q:=λ w=>WIp 201 w) ?_ ?_
 ·unfold Ll
  refine Gjb (H4a a hb) ?_
  intro c hc
  obtain⟨n,e,n0,n1⟩:=Yla a hb 24 (by decide)
  refine Gjb (Gub (Q:=λ r=>r=n) e rfl) ?_
  rintro n rfl
  refine Gjb (Q2a c hc _ (by omega)) ?_
  intro r hr
  exact Gib hr.1
 ·intro w hw
  obtain⟨y,c3,e3,_,_⟩:=Ls c hc [0,1,2,3,(-1),21] (by decide) (by decide)
  refine Gjb (Gub (Q:=λ r=>r=(y,c3)) e3 rfl) ?_
  rintro _ rfl
  exact Gib hw
theorem Q4a {v:Wld} (hl:v.2.2.1.length≤2000000) (hn:∀ n∈v.2.2.1,NIn n):Tot (λ k=>Dn k 0 v v) (λ r=>r = .inr ()):=by
 refine Grb (L:=λ k i (_:Unit)=>Dn k i v v) (Q:=λ r=>r = .inr ()) v.2.2.1.length (λ _ _=>True) ?_ ?_ 0 () (Vs _) trivial
 ·intro _ _
  simp (disch:=omega) only [Dn,dF]
  exact Gib rfl
 ·intro j _ hj _ next
  have hm:=hn _ (A4 (d:=Bo) hj)
  have e0:v.2.2.1.getD j ((0:Int),(([],[]),([],[])))=v.2.2.1.getD j Bo:=rfl
  simp (disch:=omega) only [Dn,dT,Vb,w64,e0]
  refine Gjb (Eya _ _ hm.1.1.1.1.1) ?_
  rintro _ rfl
  have f1:Few (v.2.2.1.getD j Bo).2.2.1:=by have:=hm.2.1.1;unfold Few;omega
  refine Gkb (by rw[decide_eq_true rfl];rfl) (Gjb (Hca _ _ f1 f1) ?_)
  rintro _ rfl
  exact Gkb (by rw[decide_eq_true rfl];rfl) (next () trivial)
theorem FnRounds:∀ (a0:List Int),Ty.fit ti (.sl 5 (.i .u8)) a0→∃ k,Eo k a0=some true:=by
 intro a0 _
 refine Tot.law (f:=λ k=>Eo k a0) ?_
 unfold Eo O8
 refine Gjb (Gib (Q:=λ b=>b=decide ((List.length a0:Int) > 1048576)) rfl) ?_
 rintro b rfl
 refine Gpb (λ _=>Gib rfl) (λ hb=>?_)
 refine Gjb (Cea a0 (by omega)) ?_
 rintro⟨w,z⟩ h
 dsimp only at h ⊢
 have hm:=h.1
 refine Gjb (Dra hm (by decide)) ?_
 rintro _ rfl
 have key:WIm 201 (Nt w)∧Pq (Nt w)=Pq w∧(Nt w).2.2.1.length=w.2.2.1.length:=by
  unfold Nt
  cases hk:Pq w with
  |false=>exact⟨hm,hk,rfl⟩
  |true=>
   have ho:=hm.wo hk
   have hn:=Fla ho
   have ho':=hn.wo ho
   exact⟨ho'.wim (by decide) (by rw[hn.sp];exact hm.2.2.2.2.1),ho'.ok,hn.len⟩
 obtain⟨k1,k2,k3⟩:=key
 refine Gjb (Dra k1 (by decide)) ?_
 rintro _ rfl
 refine Gjb (Lga hm (by decide) 2 (by decide)) ?_
 have e:(bif Pq w then Tu w 2 else w)=Nt (Nt w):=by
  unfold Nt at k2 ⊢
  cases hk:Pq w with
  |false=>simp only[cond_false,hk]
  |true=>
   rw[hk,cond_true]at k2
   rw[cond_true,cond_true,k2]
   rfl
 rintro _ rfl
 rw[e]
 have key2:WIm 201 (Nt (Nt w))∧Pq (Nt (Nt w))=Pq w∧(Nt (Nt w)).2.2.1.length=w.2.2.1.length:=by
  generalize Nt w=v at *
  unfold Nt
  cases hk:Pq v with
  |false=>exact⟨k1,by rw[cond_false,k2],k3⟩
  |true=>
   have ho:=k1.wo hk
   have hn:=Fla ho
   have ho':=hn.wo ho
   refine⟨ho'.wim (by decide) (by rw[hn.sp];exact k1.2.2.2.2.1),?_,hn.len.trans k3⟩
   rw[cond_true,ho'.ok,← k2,hk]
 obtain⟨q1,q2,q3⟩:=key2
 generalize Nt (Nt w)=v at *
 refine Gkb (by rw[bne,q3,beq_self_eq_true];rfl) (Gkb (by rw[bne,q3,beq_self_eq_true];rfl) (Gjb (Bma v (q1.win (by decide))) ?_))
 rintro _ rfl
 refine Gjb (Uua w (hm.win (by decide))) ?_
 rintro _ rfl
 refine Gkb (by rw[q2,beq_self_eq_true];rfl) (Gjb (Q4a q1.2.2.1.1 q1.2.2.1.2) ?_)
 rintro _ rfl
 exact Gib rfl
end Go.Proofs.YtmhhjceoinoekaaGreat.Pure
end
