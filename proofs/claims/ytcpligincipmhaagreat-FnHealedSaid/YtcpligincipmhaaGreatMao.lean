import Derived.Test.YtcpligincipmhaaGreatMan
import Derived.Test.YtcpligincipmhaaGreatMaj
set_option linter.all false
namespace Go.Proofs.YtcpligincipmhaaGreat.Vf
open Go
open List (length getD)
open Int (toNat)
open Go.IntKind (wrap)
open BitVec (ofInt)

def Eba {p zs:List Int} {z:Bool} {l:List Dev} (h:(l.map (·.1)).Nodup):(hoA p zs z l).Nodup:=by
 unfold hoA;exact h.sublist (E3b.map _)
def Pya:∀ {l:List Dev} {a b:Dev},(l.map (·.1)).Nodup→a∈l→b∈l→a.1=b.1→a=b
 |[],_,_,_,h,_,_=>nomatch h
 |x::l,a,b,hn,ha,hb,e=>by
  rw[Ya,Yl]at hn;rcases Vk.1 ha with ea|ha'
  ·rcases Vk.1 hb with eb|hb'
   ·rw[ea,eb]
   ·exact absurd (by rw[← ea,e];exact Ym hb') hn.1
  ·rcases Vk.1 hb with eb|hb'
   ·exact absurd (by rw[← eb,← e];exact Ym ha') hn.1
   ·exact Pya hn.2 ha' hb' e
def X2 {r:Rng} {l:List Dev} {x:ByteArray} (h:(l.map (·.1)).Nodup) (hp:(O5 r x).Nodup):(O5 r x++Li r l x).Nodup:=by
 have mem:∀ {z:Bool} {i:Int},i∈hoA (O5 r x) (Fj (O5 r x) l) z l→Hr (O5 r x) i=false∧∃ d∈l,d.1=i∧Hr (Fj (O5 r x) l) d.2.1=z:=by
  intro z i hi;unfold hoA at hi;obtain⟨d,hd,rfl⟩:=Yt.1 hi;obtain⟨h1,h2⟩:=Dfb.1 hd;rw[Va,Wb,beq_iff_eq]at h2;exact⟨h2.1,d,h1,rfl,h2.2⟩
 unfold Li;rw[Xs,Xs];refine⟨hp,⟨Eba h,Eba h,λ a ha b hb e=>?_⟩,λ a ha b hb e=>?_⟩
 ·subst e;obtain⟨_,d,hd,e1,z1⟩:=mem ha;obtain⟨_,d',hd',e2,z2⟩:=mem hb;rw[Pya h hd hd' (e1.trans e2.symm)]at z1;rw[z1]at z2;cases z2
 ·subst e;rcases Vm.1 hb with hb|hb
  ·have:=(mem hb).1;rw[Hy.2 ha]at this;cases this
  ·have:=(mem hb).1;rw[Hy.2 ha]at this;cases this
def Eca {ns:List Nod} (h:(ns.map (·.1)).Nodup):∀ {ids:List Int},ids.Nodup→(whr ns ids).Nodup
 |[],_=>Frb
 |id::ids,hi=>by
  obtain⟨h1,h2⟩:=Yl.1 hi;rw[Ti,Xs];refine⟨?_,Eca h h2,λ a ha b hb e=>?_⟩
  ·have:=Gma id ns 0 h
   match hq:atN ns id 0 with
   |[]=>exact Frb
   |[x]=>exact Dkb _ _
   |x::y::l=>rw[hq,Vh,Vh]at this;omega
  ·subst e;obtain⟨j,hj1,hj2,hj3⟩:=(Rx id ns 0 a).1 ha;obtain⟨i,hi1,hi2,hi3⟩:=Pw.1 hb
   have:i=j:=by omega
   subst this;rw[hj2]at hi2;exact h1 hi2
def WO.contacts_nodup {w:Wld} (h:WO w) (s:ByteArray):(contacts w s).Nodup:=by
 have hd:(w.1.map (·.1)).Nodup:=by rw[← h.ids];exact h.nodup
 exact Eca h.nodup (X2 hd (O6 h.ring s).1)
def NG.rows {n:Nod} (h:NG n):Bq n.2.2.1:=(Im.1 (Bx.1 h.1).2.2.2.1).1

section
open Go
end

def Pza {w:Wld} (h:WI w) {s t:ByteArray} {f g:Fil} (hf:IsW w.2.2.2.2.1 s f) (hg:IsW w.2.2.2.2.1 t g) (e:f.1=g.1):f=g:=by
 obtain⟨x,hx,_,rfl⟩:=hf;obtain⟨y,hy,_,rfl⟩:=hg;obtain⟨i,hi,rfl⟩:=Yn.1 hx;obtain⟨j,hj,rfl⟩:=Yn.1 hy;have ha:=Ys.1 h.asc;rcases Nat.lt_trichotomy i j with c|c|c
 ·have:=ha i j hi hj c;rw[e,Gu]at this;cases this
 ·subst c;rfl
 ·have:=ha j i hj hi c;rw[e,Gu]at this;cases this
def Vka {a b:Stp} (h1:sle a b=false) (h2:sle b a=false):a=b:=by
 have n1:¬ sle a b=true:=by rw[h1];decide
 have n2:¬ sle b a=true:=by rw[h2];decide
 rw[Ln]at n1 n2;obtain⟨a1,a2,a3⟩:=a;obtain⟨b1,b2,b3⟩:=b;dsimp only at n1 n2
 obtain rfl:a1=b1:=by omega
 obtain rfl:a2=b2:=by omega
 obtain rfl:a3=b3:=by omega
 rfl
def Q0a {s:ByteArray} {f:Fil}:∀ (ns:List Nod) (a:Bool×Fil),(∀ n∈ns,((lkD n.2.1 s).2==0)=true→(lkD n.2.1 s).1=f)→(a.1=true→a.2=f)→(ns.foldl (X1 s) a).1=true→(ns.foldl (X1 s) a).2=f
 |[],a,_,h,h1=>h h1
 |n::ns,a,hn,h,h1=>by
  rw[Za]at h1 ⊢;refine Q0a ns _ (λ m hm=>hn m (Vd _ hm)) ?_ h1;have k:=hn n Wj;unfold X1
  cases hc:(lkD n.2.1 s).2==0 with
  |false=>exact h
  |true=>
   rw[cond_true]
   cases !a.1||sle a.2.1 (lkD n.2.1 s).1.1 with
   |true=>exact λ _=>k hc
   |false=>exact h
def Ayb {d:Dsk} {s:ByteArray}:((lkD d s).2==0)=(old d s).isSome:=by
 have:=J7a (d:=d) (s:=s);unfold bne at this
 cases h:(lkD d s).2==0<;>cases h2:old d s<;>simp[h,h2]at this ⊢
section
variable {nm:List ByteArray} {w:Wld}
def RI.names (h:RI nm w.2.2.1.length w) {j:Nat} (hj:j<w.2.2.1.length) {s:ByteArray} (hs:(oN w.2.2.1 j s).isSome=true):lvN w s=true:=by
 obtain⟨f,hf⟩:=Zl.1 hs
 have hP:inP w s j=true:=by
  cases hp:inP w s j with
  |true=>rfl
  |false=>
   have e:oN w.2.2.1 j s=none:=h.fo s j hj hp;rw[e]at hf;cases hf
 have isw:∀ m,m<w.2.2.1.length→∀ g,oN w.2.2.1 m s=some g→IsW w.2.2.2.2.1 s g:=λ m hm g hg=>ED.now h.wi.wok ((h.wi.nodes _ (A3 (d:=A8) hm)).2.1 s) hg
 have all:∀ m,m<w.2.2.1.length→oN w.2.2.1 m s=bif inP w s m then some f else none:=λ m hm=>by
  cases hp:inP w s m with
  |false=>exact h.fo s m hm hp
  |true=>
   obtain⟨y,h1,h2⟩:=h.fi s j hj hP f hf m hm hp;obtain⟨z,h3,h4⟩:=h.fi s m hm hp y h1 j hj hP;have h3':oN w.2.2.1 j s=some z:=h3;rw[hf]at h3';obtain rfl:=Deb h3';have h1':oN w.2.2.1 m s=some y:=h1;rw[h1',Pza h.wi (isw j hj f hf) (isw m hm y h1') (Vka h4 h2)];rfl
 unfold lvN
 have hlk:∀ m,m<w.2.2.1.length→((lkD (w.2.2.1.getD m A8).2.1 s).2==0)=inP w s m∧(inP w s m=true→(lkD (w.2.2.1.getD m A8).2.1 s).1=f):=λ m hm=>by
  have a:=all m hm;unfold oN at a;refine⟨?_,λ hp=>?_⟩
  ·rw[Ayb,a]
   cases inP w s m<;>rfl
  ·rw[hp]at a;rw[Px a]
 have hl:(lat w.2.2.1 s).2=f:=by
  unfold lat;refine Q0a _ _ (λ n hn hc=>?_) (λ c=>by cases c) (J1a _ _ (.inr ⟨_,A3 (d:=A8) hj,by rw[(hlk j hj).1];exact hP⟩));obtain⟨m,hm,rfl⟩:=Yn.1 hn
  have e:w.2.2.1[m]=w.2.2.1.getD m A8:=by rw[Vb,Vg hm];rfl
  rw[e]at hc ⊢;rw[(hlk m hm).1]at hc;exact(hlk m hm).2 hc
 rw[hl,Dxa _ A8,Yc];intro m hm;have hm':=Zy.1 hm;obtain⟨k1,k2⟩:=hlk m hm';have hb:=((isw j hj f hf).good h.wi.wok).2.2;unfold lvE;rw[← Tda hm',k1,show Hr (whr w.2.2.1 (O5 w.2.1 s)) (m:Int)=inP w s m from rfl]
 cases hp:inP w s m with
 |false=>rfl
 |true=>
  rw[k2 hp,(P6a hb hb).2 rfl];rfl
def RI.rows (h:RI nm w.2.2.1.length w) {j:Nat} (hj:j<w.2.2.1.length):C7b w j=true:=by
 unfold C7b Vda;rw[h.qe j hj]
 have refl:∀ l:List Row,Pia l l=true:=λ l=>by
  unfold Pia;rw[beq_self_eq_true,Wf,Yc];intro i _;unfold C6b;rw[T8,Cn.2 rfl,beq_self_eq_true,beq_self_eq_true,beq_self_eq_true,beq_self_eq_true,beq_self_eq_true];rfl
 show (true&&_)=true;rw[Wf];have hp:Hr (Cm w) (j:Int)=inP w Md j:=rfl
 cases hL:inP w Md j with
 |false=>
  rw[hp,hL,cond_false,Pja]
  have e:(w.2.2.1.getD j A8).2.2.1=[]:=by
   cases hr:(w.2.2.1.getD j A8).2.2.1 with
   |nil=>rfl
   |cons r l=>
    have h1:rN w.2.2.1 j r.1=none:=h.ro r.1 j hj hL;have h2:=Iz (h.wi.give j hj) (r:=r) (by rw[hr];exact Wj);unfold rN at h1;rw[h1]at h2;cases h2
  rw[e];rfl
 |true=>
  rw[hp,hL,cond_true];obtain⟨l0,l1,l2⟩:=Pka (hp.trans hL);obtain⟨p,ep⟩:∃ p:Nat,(Cm w).getD 0 0=(p:Int):=⟨((Cm w).getD 0 0).toNat,by omega⟩
  have hpP:inP w Md p=true:=by
   show Hr (Cm w) (p:Int)=true;rw[← ep];exact Hy.2 (A3 l0)
  rw[ep,Vj]
  have hpn:p<w.2.2.1.length:=by omega
  have e:(w.2.2.1.getD j A8).2.2.1=(w.2.2.1.getD p A8).2.2.1:=by
   refine Uq (h.wi.give j hj) (h.wi.give p hpn) λ t=>?_
   have one:∀ a b,a<w.2.2.1.length→b<w.2.2.1.length→inP w Md a=true→inP w Md b=true→∀ x,rN w.2.2.1 a t=some x→rN w.2.2.1 b t=some x:=λ a b ha hb pa pb x hx=>by
    obtain⟨y,h1,h2⟩:=h.ri t a ha pa x hx b hb pb;obtain⟨z,h3,h4⟩:=h.ri t b hb pb y h1 a ha pa;have h3':rN w.2.2.1 a t=some z:=h3;rw[hx]at h3';obtain rfl:=Deb h3';have h1':rN w.2.2.1 b t=some y:=h1;rw[h1',O0a ((Xp _ hx).trans (Xp _ h1').symm) h4 h2]
   show rN w.2.2.1 j t=rN w.2.2.1 p t
   cases h1:rN w.2.2.1 j t with
   |some x=>exact(one j p hj hpn hL hpP x h1).symm
   |none=>
    cases h2:rN w.2.2.1 p t with
    |none=>rfl
    |some x=>rw[one p j hpn hj hpP hL x h2]at h1;cases h1
  rw[e];exact refl _
end

section
open Go
end

section
open Go
end

def Q1a {b:List Int} {f:Fil} (h:Ka b=some f):Ds f=true∧Ax f.2.2:=⟨(Aya h).1,(Aya h).2.1⟩

section
open Go
end

def Eda {l:List Dev} {parts reps:Int} {m:Nat} (hm:m<(Y3 l parts reps).2.2.1.length):((Y3 l parts reps).2.2.1.getD m A8).2=(([],[]),[],[]):=by
 obtain⟨d,_,e⟩:=Yt.1 (show (Y3 l parts reps).2.2.1.getD m A8∈l.map Wz from A3 hm);rw[← e];rfl
def Qka (ns:List Nod) (s:ByteArray) (T:Stp):Prop:=(∀ m,m<ns.length→∀ o,oN ns m s=some o→sle T o.1=false)∧∃ m,m<ns.length∧∃ o,oN ns m s=some o∧o.1=T
def Toa {d:Dsk} {s:ByteArray} {f:Fil} (hd:DG d) (g1:B8 s=true) (g2:Ds f=true) (g3:Ax f.2.2):
  (∀ t,t≠s→old (keep d s f true).1 t=old d t)∧(old (keep d s f true).1 s=old d s∨(old (keep d s f true).1 s=some f∧∀ o,old d s=some o→sle o.1 f.1=true))∧
  ((keep d s f true).2=0∨(keep d s f true).2=1→∃ o,old (keep d s f true).1 s=some o∧sle o.1 f.1=false):=by
 rw[O3 hd.1 g1 g2];rcases Oz (f:=f) (sure:=true) hd g1 with k|⟨o,h1,h2,h3,_,h5⟩|⟨h1,_,h3,_,h5⟩
 ·rw[k]
  exact⟨λ _ _=>rfl,.inl rfl,λ h=>by rcases h with h|h<;>cases h⟩
 ·rcases h5 with⟨c,_⟩|⟨_,e⟩
  ·cases c
  ·rw[e];exact⟨λ _ _=>rfl,.inl rfl,λ _=>⟨o,h1,h2⟩⟩
 ·rcases h5 with⟨c,_⟩|⟨_,e⟩
  ·cases c
  ·have ho:∀ t,old (Jc d s f true).1 t=if s=t then some f else old d t:=λ t=>by
    rw[e];show (gt (wr d.1 s (G5 f)) t).bind Ka=_;rw[Wv (Hq hd.1)]
    by_cases hst:s=t
    ·rw[if_pos hst,if_pos hst,Vt,Mx g2 g3]
    ·rw[if_neg hst,if_neg hst];rfl
   exact⟨λ t ht=>by rw[ho t,if_neg (λ e=>ht e.symm)],.inr ⟨by rw[ho s,if_pos rfl],h1⟩,λ _=>⟨f,by rw[ho s,if_pos rfl],Gu _⟩⟩
def Qka.set {ns:List Nod} {s:ByteArray} {T:Stp} (h:Qka ns s T) {p:Nat} (hp:p<ns.length) {x:Nod} (hx:old x.2.1 s=oN ns p s∨∃ f,old x.2.1 s=some f∧sle T f.1=false∧∀ o,oN ns p s=some o→sle o.1 f.1=true):Qka (ns.set p x) s T:=by
 have e:∀ m,m<ns.length→oN (ns.set p x) m s=if p=m then old x.2.1 s else oN ns m s:=λ m hm=>by
  unfold oN;rw[E5 hm]
  by_cases h:p=m
  ·rw[if_pos h,if_pos h]
  ·rw[if_neg h,if_neg h]
 obtain⟨h1,m,hm,o,h2,h3⟩:=h;refine⟨λ m hm o ho=>?_,m,by rw[Vv];exact hm,?_⟩
 ·rw[Vv]at hm;rw[e m hm]at ho
  by_cases hpm:p=m
  ·rw[if_pos hpm]at ho;rcases hx with hx|⟨f,hx,hf,_⟩
   ·rw[hx]at ho;exact h1 p hp o ho
   ·rw[hx]at ho;cases ho;exact hf
  ·rw[if_neg hpm]at ho;exact h1 m hm o ho
 ·rw[e m hm]
  by_cases hpm:p=m
  ·subst hpm;rw[if_pos rfl];rcases hx with hx|⟨f,hx,hf,hl⟩
   ·rw[hx];exact⟨o,h2,h3⟩
   ·have:=hl o h2;rw[h3,hf]at this;cases this
  ·rw[if_neg hpm];exact⟨o,h2,h3⟩

def Eea (l:List Dev) (parts reps:Int) (z:Rng) (hl:H7 l=true) (h0:0≤reps) (h5:reps≤5) (ps:List (List Int)) (hps:ps.length≤100) (hq:∀ q∈ps,q.length≤100):∀ (n:Nat) (p:List Int),p.length+n=reps.toNat→
  Tot (λ k=>Fq k l reps (ps.length:Int) parts (ps.length:Int) reps (p.length:Int) z (reps,ps++[p])) (λ x=>x=(l,reps,parts,(ps.length:Int),z,(reps,ps++[Doa l reps ps n p]))):=by
 intro n
 induction n with
 |zero=>
  intro p hp;refine Tot.succ ?_;simp (disch:=omega) only [Fq,dF];exact Cfb rfl
 |succ n ih=>
  intro p hp;refine Tot.succ ?_
  have hrb:RBd (reps,ps++[p]):=⟨by simp only[Vi,Vh,Vs];omega,λ q hq'=>by
   rcases Vm.1 hq' with h|h
   ·have:=hq q h;omega
   ·rw[Vp.1 h];omega⟩
  have hlen:(ps++[p]).length=ps.length+1:=by simp
  simp (disch:=omega) only [Fq,dT,Vj,w64,hlen,Ora,Sva];refine Cqb (Iga (reps,ps++[p]) p l hrb (by omega) hl) ?_;refine Cnb (by simp only[Vh,Vs];omega) ?_;have:=ih (p++[Td (reps,ps++[p]) p l]) (by simp only[Vi,Vh,Vs];omega);rw[show (((p++[Td (reps,ps++[p]) p l]).length:Nat):Int)=(p.length:Int)+1 by simp]at this;exact this
def Q2a (l:List Dev) (parts reps:Int) (hll:l.length≤5000000):Tot (λ k=>Et k l parts reps) (λ x=>x=build l parts reps):=by
 unfold Et build;refine Cqb (Tc l (by omega)) ?_;cases hl:H7 l
 ·exact Cib rfl (Cfb rfl)
 simp only[Zb,cond_false,Lc,Vt,Wf];cases hp:inR parts 1 64
 ·exact Cib rfl (Cfb rfl)
 refine Chb rfl ?_;cases hr:inR reps 1 5
 ·exact Cib rfl (Cfb rfl)
 obtain⟨r1,r2⟩:=Dg.1 hr;obtain⟨p1,p2⟩:=Dg.1 hp;refine Chb rfl ?_;cases hc:decide (reps > (l.length:Int))
 case true=>exact Cib rfl (Cfb rfl)
 refine Chb rfl (Cgb (Q:=λ x=>x=(((0:Int),([]:List (List Int))),(reps,L6a l reps parts.toNat []))) ?_ (by rintro x rfl;exact Cfb rfl));obtain⟨n,rfl⟩:∃ n:Nat,parts=(n:Int):=⟨parts.toNat,by omega⟩;refine Cob (L:=λ k i (s:Rng)=>Fs k l reps (n:Int) i (0,[]) s) (Q:=λ x=>x=(((0:Int),([]:List (List Int))),(reps,L6a l reps n []))) n (λ j s=>∃ ps,s=(reps,ps)∧ps.length=j∧(∀ q∈ps,q.length≤100)∧L6a l reps (n-j) ps=L6a l reps n []) ?_ ?_ 0 (reps,[]) (Vu _) ⟨[],rfl,rfl,λ q h=>(by cases h),rfl⟩
 ·rintro s ⟨ps,rfl,hps,_,h⟩;rw[E6b]at h;simp (disch:=omega) only [Fs,dF];exact Cfb (by rw[← h];rfl)
 ·rintro j s hj ⟨ps,rfl,hps,hq,h⟩ next;simp (disch:=omega) only [Fs,dT];refine Cnb (by simp only[Vh,Vs];omega) ?_;have h9:=Eea l (n:Int) reps (0,[]) hl (by omega) r2 ps (by omega) hq reps.toNat [] (by simp);rw[hps]at h9;refine Cgb h9 ?_;rintro x rfl;simp (disch:=omega) only [w64];refine next _ ⟨ps++[Doa l reps ps reps.toNat []],rfl,by rw[Vi,hps];rfl,λ q hq'=>?_,?_⟩
  ·rcases Vm.1 hq' with h'|h'
   ·exact hq q h'
   ·rw[Vp.1 h',Dpa,Vs];omega
  ·rw[show n-j=(n-(j+1))+1 by omega]at h;exact h
def Gpa (i:Int):Gj i=some (bif inR i 0 20 then (i,([],[]),[],[]) else A8):=by
 unfold Gj;rw[Lc];simp only[Vt]
 cases inR i 0 20<;>rfl
def Efa (l:List Dev) (parts reps:Int) (hll:l.length≤5000000):Tot (λ k=>Cp k l parts reps) (λ r=>r=bif (build l parts reps).2 then Y3 l parts reps else Qja):=by
 unfold Cp;refine Cqb (Q2a l parts reps hll) ?_
 cases hb:(build l parts reps).2 with
 |false=>exact Cib rfl (Cfb rfl)
 |true=>
 obtain⟨h1,_,_,_⟩:=Te hb;have h12:=(D7.1 h1).2.2.2;refine Chb rfl (Cnb (by rw[Vs];omega) ?_);rw[Wn,cond_true];refine Cgb (Q:=λ r=>r=(Qja,Y3 l parts reps)) ?_ (by rintro r rfl;exact Cfb rfl);refine Cob (L:=λ k i (s:List Nod)=>Dl k l (l.length:Int) i Qja (l,(build l parts reps).1,s,(0,0,0),[],[])) (Q:=λ r=>r=(Qja,Y3 l parts reps)) l.length (λ j s=>s=(l.take j).map Wz) ?_ ?_ 0 [] (Vu _) rfl
 ·rintro s rfl;simp (disch:=omega) only [Dl,dF];exact Cfb (by rw[Zf];rfl)
 ·rintro j s hj rfl next;have hd:=A3 (d:=Kw) hj;obtain⟨d,ed⟩:∃ d:Dev,l.getD j Kw=d:=⟨_,rfl⟩;rw[ed]at hd;have e0:l.getD j ((0:Int),((0:Int),(0:Int)))=d:=ed
  have e1:l[j]=d:=by rw[← ed,Vb,Vg hj];rfl
  have hid:=(J1.1 ((D7.1 h1).2.1 d hd)).1;simp (disch:=omega) only [Dl,dT,Vj,w64,e0,Gpa,Vt]
  have hl:((l.take j).map Wz).length=j:=by rw[Vz,Vq];omega
  rw[Dg.2 hid,cond_true];refine Cnb (by rw[hl];simp only[Vh,Vs];omega) (next _ ?_);rw[Wg hj,D2b,e1];rfl

def Q3a {cs:List Int} (h:cs.Nodup) {i j:Nat} (hi:i<cs.length) (hj:j<cs.length) (hij:i≠j) (h0:∀ x∈cs,0≤x):(cs.getD i 0).toNat≠(cs.getD j 0).toNat:=λ e=>by
 have a:=h0 _ (A3 (d:=0) hi);have b:=h0 _ (A3 (d:=0) hj)
 have e':cs.getD i 0=cs.getD j 0:=by omega
 rw[Vb,Vb,Vg hi,Vg hj]at e';rw[Wm,Wm]at e';rcases Nat.lt_or_gt_of_ne hij with hl|hl
 ·exact(Ys.1 h i j hi hj hl) e'
 ·exact(Ys.1 h j i hj hi hl) e'.symm

def Vla (i:Int) (s:ByteArray) (f:Fil) (sure:Bool):Nod:=(i,([(s,G5 f)],bif sure then [(s,G5 f)] else []),[],bif sure then [Su s f] else [])
def Kya (i:Int) {s:ByteArray} {f:Fil} (sure:Bool) (g1:B8 s=true) (g2:Ds f=true):Py (i,([],[]),[],[]) s f sure=(Vla i s f sure,0):=by
 have e1:wr [] s (G5 f)=[(s,G5 f)]:=rfl
 have e2:wrD ([],[]) s (G5 f)=(([(s,G5 f)],[]),true):=by
  unfold wrD;rw[decide_eq_true (show (G5 f).length≤400 by have:=Tb f;omega)];rfl
 have e3:sy (([(s,G5 f)],[]):Dsk) s=[(s,G5 f)]:=by
  unfold sy;rw[show gt (([(s,G5 f)],[]):Dsk).1 s=some (G5 f) by rw[Ru,if_pos rfl]];rfl
 have e5:kp1 ([],[]) s f=some ((([(s,G5 f)],[]):Dsk),0):=by
  unfold kp1;rw[e2];rfl
 have e6:keep ([],[]) s f sure=(([(s,G5 f)],bif sure then [(s,G5 f)] else []),0):=by
  rw[O3 dg0.1 g1 g2];unfold Jc;rw[e5];show kp2 ([],[]) s sure (([(s,G5 f)],[]),0)=_;cases sure
  ·rfl
  ·unfold kp2 syD;rw[e3];rfl
 unfold Py Vla;dsimp only;rw[e6]
 cases sure<;>rfl
def Tpa {i:Int} {s:ByteArray} {f:Fil} {sure:Bool} (g2:Ds f=true) (g3:Ax f.2.2) (t:ByteArray):old (Vla i s f sure).2.1 t=if s=t then some f else none:=by
 unfold Vla old;show (gt [(s,G5 f)] t).bind Ka=_;rw[Ru]
 by_cases h:s=t
 ·rw[if_pos h,if_pos h,Vt,Mx g2 g3]
 ·rw[if_neg h,if_neg h];rfl
def Y5a {R:Int} {rc:List Int} {s:ByteArray} {f:Fil} {cs:List Int} {ns:List Nod} {q g v:Int} {j:Nat} (hq:q<R) (hv:rch rc j=v) (hv0:v≠0) (g1:B8 s=true) (g2:Ds f=true) (he:(ns.getD (cs.getD j 0).toNat A8).2=(([],[]),[],[])):
  wst R rc s f cs (ns,q,g) j=(ns.set (cs.getD j 0).toNat (Vla (ns.getD (cs.getD j 0).toNat A8).1 s f (v != 3)),q+1,bif v==1 then g+1 else g):=by
 unfold wst;dsimp only;rw[decide_eq_true hq,hv,cond_true,show (v==0)=false from beq_eq_false_iff_ne.2 hv0,cond_false];have e:ns.getD (cs.getD j 0).toNat A8=((ns.getD (cs.getD j 0).toNat A8).1,([],[]),[],[]):=Prod.ext rfl he;generalize ns.getD (cs.getD j 0).toNat A8=n at *;rw[e,Kya n.1 (v != 3) g1 g2]
 cases v==1<;>rfl
def Q4a {cs:List Int} {j:Nat} (hj:j<cs.length) (m:Int):Hr (cs.take (j+1)) m=(Hr (cs.take j) m||cs.getD j 0==m):=by
 rw[Dhb,Zw,Hy,Hy,Wg hj,Vm,Vp,beq_iff_eq,Vb,Vg hj,Wm];exact⟨λ h=>h.imp id Eq.symm,λ h=>h.imp id Eq.symm⟩
def Q5a {w:Wld} {s:ByteArray} {f:Fil} {rc:List Int} {v:Int} {K:Nat} (hK:w.2.1.1=(K:Int)) (hcs:(contacts w s).Nodup) (hKl:K≤(contacts w s).length) (hv0:v≠0) (hv:∀ j,j<K→rch rc j=v) (g1:B8 s=true) (g2:Ds f=true) (he:∀ m,m<w.2.2.1.length→(w.2.2.1.getD m A8).2=(([],[]),[],[])):
  (wrN w s f rc).2=((K:Int),bif v==1 then (K:Int) else 0)∧(wrN w s f rc).1.length=w.2.2.1.length∧
  ∀ m,m<w.2.2.1.length→(wrN w s f rc).1.getD m A8=bif Hr ((contacts w s).take K) (m:Int) then Vla (w.2.2.1.getD m A8).1 s f (v != 3) else w.2.2.1.getD m A8:=by
 have hat:=λ x=>I0 (w:=w) (s:=s) (x:=x);unfold wrN;generalize contacts w s=cs at *;have h0:∀ x∈cs,0≤x:=λ x hx=>(hat x hx).1
 have hN:∀ j,j<cs.length→(cs.getD j 0).toNat<w.2.2.1.length:=λ j hj=>by have:=hat _ (A3 (d:=0) hj);omega
 have key:∀ j,j≤K→(run (wst w.2.1.1 rc s f cs) j (w.2.2.1,0,0)).2=((j:Int),bif v==1 then (j:Int) else 0)∧(run (wst w.2.1.1 rc s f cs) j (w.2.2.1,0,0)).1.length=w.2.2.1.length∧
   ∀ m,m<w.2.2.1.length→(run (wst w.2.1.1 rc s f cs) j (w.2.2.1,0,0)).1.getD m A8=bif Hr (cs.take j) (m:Int) then Vla (w.2.2.1.getD m A8).1 s f (v != 3) else w.2.2.1.getD m A8:=by
  intro j
  induction j with
  |zero=>intro _;exact⟨by cases v==1<;>rfl,rfl,λ m _=>rfl⟩
  |succ j ih=>
   intro hj;obtain⟨i1,i2,i3⟩:=ih (by omega);rw[I7];generalize run (wst w.2.1.1 rc s f cs) j (w.2.2.1,0,0)=a at *;obtain⟨ns,q,g⟩:=a;dsimp only at i1 i2 i3;obtain⟨rfl,rfl⟩:=Prod.mk.inj i1;have hp:=hN j (by omega);have hc0:=h0 _ (A3 (d:=0) (show j<cs.length by omega))
   have hni:Hr (cs.take j) (((cs.getD j 0).toNat:Nat):Int)=false:=by
    cases hh:Hr (cs.take j) (((cs.getD j 0).toNat:Nat):Int) with
    |false=>rfl
    |true=>
     rw[Hy,show (((cs.getD j 0).toNat:Nat):Int)=cs.getD j 0 by omega]at hh;obtain⟨i,hi,e⟩:=Yn.1 hh;rw[Vq]at hi;rw[Dub]at e;exact absurd (show (cs.getD i 0).toNat=(cs.getD j 0).toNat by rw[← e,Vb (i:=i),Vg (by omega),Wm]) (Q3a hcs (by omega) (by omega) (by omega) h0)
   have hcur:=i3 _ hp;rw[hni,cond_false]at hcur;rw[Y5a (v:=v) (by rw[hK];omega) (hv j (by omega)) hv0 g1 g2 (by rw[hcur];exact he _ hp)]
   refine⟨by cases v==1<;>simp,by show (ns.set _ _).length=_;rw[Vv];exact i2,λ m hm=>?_⟩
   show (ns.set (cs.getD j 0).toNat _).getD m A8=_;rw[E5 (show m<ns.length by omega),Q4a (by omega)]
   by_cases e:(cs.getD j 0).toNat=m
   ·rw[if_pos e,hcur,e,show (cs.getD j 0==(m:Int))=true from beq_iff_eq.2 (by omega),Bool.or_true];rfl
   ·rw[if_neg e,i3 m hm,show (cs.getD j 0==(m:Int))=false from beq_eq_false_iff_ne.2 (by omega),Czb]
 obtain⟨k1,k2,k3⟩:=key K (Vw _)
 have hst:=Ira (st:=wst w.2.1.1 rc s f cs) (a:=(w.2.2.1,(0:Int),(0:Int))) (j:=K) (n:=cs.length) hKl (λ i=>by
  have hs0:∀ a:List Nod×Int×Int,a.2.1=(K:Int)→wst w.2.1.1 rc s f cs a i=a:=λ a ha=>by
   unfold wst;rw[ha,hK,decide_eq_false (show ¬ (K:Int)<(K:Int) by omega)];rfl
  exact hs0 _ (by rw[k1]))
 rw[hst];exact⟨k1,k2,k3⟩
def Y6a {ns:List Nod} {id:Int} (h:id∈ns.map (·.1)):1≤(atN ns id 0).length:=by
 obtain⟨n,hn,rfl⟩:=Yt.1 h;obtain⟨j,hj,e⟩:=Yn.1 hn;have:=(Rx n.1 ns 0 ((0+j:Nat):Int)).2 ⟨j,hj,by rw[Vb,Vg hj,Wm,e],rfl⟩;exact Cwb this
def Q6a {ns:List Nod}:∀ {ids:List Int},(∀ i∈ids,i∈ns.map (·.1))→ids.length≤(whr ns ids).length
 |[],_=>Vu _
 |i::ids,h=>by
  rw[Ti,Vi,Vh];have:=Y6a (h i Wj);have:=Q6a (ids:=ids) (λ x hx=>h x (Vd _ hx));omega
def WO.prims {w:Wld} (h:WO w) (s:ByteArray):((I1 w s).length:Int)=w.2.1.1∧(contacts w s).take (I1 w s).length=I1 w s∧(I1 w s).length≤(contacts w s).length:=by
 have p:=O6 h.ring s;have h1:=Gna h.nodup (O5 w.2.1 s);have h2:=Q6a (ns:=w.2.2.1) (ids:=O5 w.2.1 s) (λ i hi=>by rw[h.ids];exact Lh.1 (p.2.2 i hi));have e:contacts w s=I1 w s++whr w.2.2.1 (Li w.2.1 w.1 s):=Xla _ _ _;refine⟨?_,by rw[e,Eab  rfl],by rw[e,Vi];omega⟩;have:=p.2.1;unfold I1;omega

def Tqa {d:Dsk} {s:ByteArray} {f:Fil} (hd:DG d) (h:old d s=some f):B8 s=true∧Ds f=true∧Ax f.2.2:=by
 unfold old at h
 cases hg:gt d.1 s with
 |none=>rw[hg]at h;cases h
 |some b=>
  rw[hg]at h;have h1:=(B5.1 (E4.1 hd.1).1).2.1 _ (Kd hg);unfold nOk at h1;rw[Va]at h1;exact⟨h1.1,Q1a h⟩
def Gqa {w:Wld} (h:WO w) {i:Nat} (hi:i<w.2.2.1.length) {s:ByteArray} {f:Fil} {rc:List Int} (hf:oN w.2.2.1 i s=some f) {T:Stp} (ht:Qka w.2.2.1 s T):
  NS (puN w i s rc).1∧(puN w i s rc).1.length=w.2.2.1.length∧Qka (puN w i s rc).1 s T∧(∀ t,t≠s→∀ m,m<w.2.2.1.length→oN (puN w i s rc).1 m t=oN w.2.2.1 m t)∧oN (puN w i s rc).1 i s=some f∧
  (puN w i s rc).2.1=inP w s i∧((puN w i s rc).2.2=true→∀ x∈I1 w s,x≠(i:Int)→∃ o,oN (puN w i s rc).1 x.toNat s=some o∧sle o.1 f.1=false):=by
 obtain⟨g1,g2,g3⟩:=Tqa (h.ns.get hi).g hf
 have hlk:(lkD (w.2.2.1.getD i A8).2.1 s).1=f:=by rw[Px hf]
 have hat:=λ x=>Lj (w:=w) (s:=s) (x:=x);have hns:=h.ns;have hT:=ht.1 i hi f hf;unfold puN inP;rw[hlk];generalize I1 w s=ps at *
 have key:=Hz (st:=pst (i:Int) s f rc ps) (n:=ps.length) (a:=(w.2.2.1,false,true)) (λ j (a:List Nod×Bool×Bool)=>NS a.1∧a.1.length=w.2.2.1.length∧Qka a.1 s T∧(∀ t,t≠s→∀ m,m<w.2.2.1.length→oN a.1 m t=oN w.2.2.1 m t)∧oN a.1 i s=some f∧
  a.2.1=Hr (ps.take j) (i:Int)∧(a.2.2=true→∀ x∈ps.take j,x≠(i:Int)→∃ o,oN a.1 x.toNat s=some o∧sle o.1 f.1=false)) ⟨hns,rfl,ht,λ _ _ _ _=>rfl,hf,rfl,λ _ x hx=>by rw[Cxb]at hx;cases hx⟩ ?_
 ·rw[Zf]at key;exact key
 ·rintro j ⟨ns,o,g⟩ hj ⟨a1,a2,a3,a4,a5,a6,a7⟩;dsimp only at a1 a2 a3 a4 a5 a6 a7;have hpx:=hat _ (A3 (d:=0) hj);obtain⟨p,hp⟩:∃ p:Nat,ps.getD j 0=(p:Int):=⟨(ps.getD j 0).toNat,by omega⟩
  have e:ps[j]=(p:Int):=by rw[← hp,Vb,Vg hj];rfl
  have htk:∀ x:Int,Hr (ps.take (j+1)) x=(Hr (ps.take j) x||(p:Int)==x):=λ x=>by
   unfold Hr;rw[Wg hj,Fob,e,Eub,Fvb,Czb]
  have hmem:∀ x,x∈ps.take (j+1)→x∈ps.take j∨x=(p:Int):=λ x hx=>by
   rw[Wg hj,Vm,Vp,e]at hx;exact hx
  unfold pst;rw[hp,Vj]
  cases hpi:(p:Int)==(i:Int) with
  |true=>
   refine⟨a1,a2,a3,a4,a5,?_,λ hg x hx hne=>?_⟩
   ·show true=_;rw[htk,hpi,Bool.or_true]
   ·rcases hmem x hx with h|rfl
    ·exact a7 hg x h hne
    ·exact absurd (eq_of_beq hpi) hne
  |false=>
   rw[cond_false]
   cases rch rc j != 1 with
   |true=>
    refine⟨a1,a2,a3,a4,a5,?_,λ c=>by cases c⟩;show o=_;rw[a6,htk,hpi,Czb]
   |false=>
    have ne:p≠i:=by intro e;rw[e,beq_self_eq_true]at hpi;cases hpi
    have hpn:p<ns.length:=by omega
    have hni:=a1.get hpn;obtain⟨k1,k2,k3⟩:=Toa hni.g g1 g2 g3
    have eo:∀ m,m<w.2.2.1.length→∀ t,oN (ns.set p ((ns.getD p A8).1,(keep (ns.getD p A8).2.1 s f true).1,(ns.getD p A8).2.2)) m t=if p=m then old (keep (ns.getD p A8).2.1 s f true).1 t else oN ns m t:=λ m hm t=>by
     unfold oN;rw[E5 (by omega)]
     by_cases h:p=m
     ·rw[if_pos h,if_pos h]
     ·rw[if_neg h,if_neg h]
    refine⟨a1.set (V8 hni),by show (ns.set _ _).length=_;rw[Vv];exact a2,a3.set hpn (k2.imp id λ ⟨q1,q2⟩=>⟨f,q1,hT,q2⟩),λ t hts m hm=>?_,?_,?_,λ hg x hx hne=>?_⟩
    ·show oN (ns.set p _) m t=_;rw[eo m hm t]
     by_cases h:p=m
     ·subst h;rw[if_pos rfl,k1 t hts];exact a4 t hts p hm
     ·rw[if_neg h];exact a4 t hts m hm
    ·show oN (ns.set p _) i s=_;rw[eo i hi s,if_neg ne];exact a5
    ·show o=_;rw[a6,htk,hpi,Czb]
    ·have hg':(bif (keep (ns.getD p A8).2.1 s f true).2 != 0&&(keep (ns.getD p A8).2.1 s f true).2 != 1 then false else g)=true:=hg
     have hg2:((keep (ns.getD p A8).2.1 s f true).2=0∨(keep (ns.getD p A8).2.1 s f true).2=1)∧g=true:=by
      cases hk:(keep (ns.getD p A8).2.1 s f true).2 != 0&&(keep (ns.getD p A8).2.1 s f true).2 != 1 with
      |true=>rw[hk]at hg';cases hg'
      |false=>
       rw[hk]at hg';rw[Ekb,bne,bne,Yg,Yg,beq_iff_eq,beq_iff_eq]at hk;exact⟨hk,hg'⟩
     show ∃ o,oN (ns.set p _) x.toNat s=some o∧_
     by_cases hxp:x=(p:Int)
     ·subst hxp;rw[Vj,eo p (by omega) s,if_pos rfl];exact k3 hg2.1
     ·have hxj:=(hmem x hx).resolve_right hxp;have hxa:=hat x (Csb hxj);obtain⟨y,y1,y2⟩:=a7 hg2.2 x hxj hne;rw[eo x.toNat (by omega) s,if_neg (λ c=>hxp (by omega))];exact⟨y,y1,y2⟩
def Q7a (ns:List Nod) (s:ByteArray) (h:∃ i,i<ns.length∧∃ f,oN ns i s=some f):∃ T,Qka ns s T:=by
 have key:∀ k,k≤ns.length→(∃ i,i<k∧∃ f,oN ns i s=some f)→∃ T,(∀ m,m<k→∀ o,oN ns m s=some o→sle T o.1=false)∧∃ m,m<k∧∃ o,oN ns m s=some o∧o.1=T:=by
  intro k
  induction k with
  |zero=>rintro _ ⟨i,hi,_⟩;omega
  |succ k ih=>
   rintro hk ⟨i,hi,f,hf⟩
   by_cases hp:∃ i,i<k∧∃ f,oN ns i s=some f
   ·obtain⟨T,h1,m,hm,o,h2,h3⟩:=ih (by omega) hp
    cases hq:oN ns k s with
    |none=>exact⟨T,λ m hm o ho=>by
      by_cases e:m=k
      ·rw[e,hq]at ho;cases ho
      ·exact h1 m (by omega) o ho,m,by omega,o,h2,h3⟩
    |some g=>
     cases hs:sle T g.1 with
     |false=>exact⟨T,λ m hm o ho=>by
       by_cases e:m=k
       ·rw[e,hq]at ho;cases ho;exact hs
       ·exact h1 m (by omega) o ho,m,by omega,o,h2,h3⟩
     |true=>exact⟨g.1,λ m hm o ho=>by
       by_cases e:m=k
       ·rw[e,hq]at ho;cases ho;exact Gu _
       ·exact Sj (Oa hs) (h1 m (by omega) o ho),k,by omega,g,hq,rfl⟩
   ·have e:i=k:=by
     by_cases c:i=k
     ·exact c
     ·exact absurd ⟨i,by omega,f,hf⟩ hp
    subst e
    exact⟨f.1,λ m hm o ho=>by
     by_cases c:m=i
     ·subst c;rw[hf]at ho;cases ho;exact Gu _
     ·exact absurd ⟨m,by omega,o,ho⟩ hp,i,by omega,f,hf,rfl⟩
 exact key _ (Vw _) h
def Lat (ns ms:List Nod) (s:ByteArray):Prop:=(∀ T,Qka ns s T→Qka ms s T)∧((∀ m,m<ns.length→oN ns m s=none)→∀ m,m<ms.length→oN ms m s=none)
def Lat.refl (ns:List Nod) (s:ByteArray):Lat ns ns s:=⟨λ _ h=>h,λ h=>h⟩
def Lat.trans {a b c:List Nod} {s:ByteArray} (h1:Lat a b s) (h2:Lat b c s):Lat a c s:=⟨λ T h=>h2.1 T (h1.1 T h),λ h=>h2.2 (h1.2 h)⟩
def Lat.same {ns ms:List Nod} {s:ByteArray} (hl:ms.length=ns.length) (h:∀ m,m<ns.length→oN ms m s=oN ns m s):Lat ns ms s:=
 ⟨λ T ⟨h1,m,hm,o,h2,h3⟩=>⟨λ m hm o ho=>h1 m (by omega) o (by rw[← h m (by omega)];exact ho),m,by omega,o,by rw[h m hm];exact h2,h3⟩,λ hn m hm=>by rw[h m (by omega)];exact hn m (by omega)⟩
def Q8a {w:Wld} (h:WO w) {i:Nat} (hi:i<w.2.2.1.length) (s:ByteArray) (rc:List Int) (t:ByteArray):Lat w.2.2.1 (N2 w i s rc).2.2.2.1 t:=by
 unfold N2;rw[J7a]
 cases ho:oN w.2.2.1 i s with
 |none=>
  have e1:old (w.2.2.1.getD i A8).2.1 s=none:=ho;rw[e1];exact Lat.refl _ _
 |some f=>
  have e1:old (w.2.2.1.getD i A8).2.1 s=some f:=ho;rw[e1];show Lat w.2.2.1 (bif (puN w i s rc).2.2&&!(puN w i s rc).2.1 then (puN w i s rc).1.set i (Yqa ((puN w i s rc).1.getD i A8) s) else (puN w i s rc).1) t
  have out:∀ ns:List Nod,NS ns→i<ns.length→oN ns i s=some f→∀ m,m<ns.length→∀ t,oN (ns.set i (Yqa (ns.getD i A8) s)) m t=if i=m∧s=t then none else oN ns m t:=λ ns hns hin hs m hm t=>by
   unfold oN;rw[E5 hm]
   by_cases e:i=m
   ·subst e;rw[if_pos rfl];have hg:=(hns.get hin).g
    have hgs:(gt (ns.getD i A8).2.1.1 s).isSome=true:=by
     have hs':old (ns.getD i A8).2.1 s=some f:=hs;unfold old at hs'
     cases hq:gt (ns.getD i A8).2.1.1 s with
     |none=>rw[hq]at hs';cases hs'
     |some b=>rfl
    show old (syD (rmD (ns.getD i A8).2.1 s).1 s).1 t=_;rw[Pra hg hgs t]
    by_cases hst:s=t
    ·rw[if_pos hst,if_pos ⟨rfl,hst⟩]
    ·rw[if_neg hst,if_neg (λ c=>hst c.2)]
   ·rw[if_neg e,if_neg (λ c=>e c.1)]
  refine⟨λ T hT=>?_,λ hn=>?_⟩
  ·by_cases hts:t=s
   ·subst hts;obtain⟨p1,p2,p3,p4,p5,p6,p7⟩:=Gqa (rc:=rc) h hi ho hT
    cases hc:(puN w i t rc).2.2&&!(puN w i t rc).2.1 with
    |false=>exact p3
    |true=>
     rw[Va,Wb]at hc;rw[cond_true];have eo:=out _ p1 (by omega) p5;obtain⟨h1,m,hm,o,h2,h3⟩:=p3;refine⟨λ m hm o hq=>?_,?_⟩
     ·rw[Vv]at hm;rw[eo m hm t]at hq
      by_cases c:i=m∧t=t
      ·rw[if_pos c]at hq;cases hq
      ·rw[if_neg c]at hq;exact h1 m hm o hq
     ·by_cases him:i=m
      ·subst him;rw[p5]at h2;obtain rfl:=Deb h2;obtain⟨x,hx⟩:=Dlb (E1a (s:=t) h.ring h.ids);have hxa:=Lj hx
       have hne:x≠(i:Int):=λ e=>by
        subst e;have:inP w t i=true:=Hy.2 hx;rw[p6,this]at hc;cases hc.2
       obtain⟨y,y1,y2⟩:=p7 hc.1 x hx hne;refine⟨x.toNat,by rw[Vv];omega,y,?_,?_⟩
       ·rw[eo x.toNat (by omega) t,if_neg (λ c=>hne (by omega))];exact y1
       ·rw[h3]at y2;exact Vka y2 (h1 x.toNat (by omega) y y1)
      ·refine⟨m,by rw[Vv];exact hm,o,?_,h3⟩;rw[eo m hm t,if_neg (λ c=>him c.1)];exact h2
   ·have hTs:∃ S,Qka w.2.2.1 s S:=Q7a _ s ⟨i,hi,f,ho⟩;obtain⟨S,hS⟩:=hTs;obtain⟨p1,p2,p3,p4,p5,p6,p7⟩:=Gqa (rc:=rc) h hi ho hS;refine(Lat.same (ns:=w.2.2.1) ?_ λ m hm=>?_).1 T hT
    ·cases (puN w i s rc).2.2&&!(puN w i s rc).2.1 with
     |false=>exact p2
     |true=>rw[cond_true,Vv];exact p2
    ·cases (puN w i s rc).2.2&&!(puN w i s rc).2.1 with
     |false=>exact p4 t hts m hm
     |true=>
      rw[cond_true,out _ p1 (by omega) p5 m (by omega) t,if_neg (λ c=>hts c.2.symm)];exact p4 t hts m hm
  ·by_cases hts:t=s
   ·subst hts;rw[hn i hi]at ho;cases ho
   ·obtain⟨S,hS⟩:=Q7a w.2.2.1 s ⟨i,hi,f,ho⟩;obtain⟨p1,p2,p3,p4,p5,p6,p7⟩:=Gqa (rc:=rc) h hi ho hS;refine(Lat.same (ns:=w.2.2.1) ?_ λ m hm=>?_).2 hn
    ·cases (puN w i s rc).2.2&&!(puN w i s rc).2.1 with
     |false=>exact p2
     |true=>rw[cond_true,Vv];exact p2
    ·cases (puN w i s rc).2.2&&!(puN w i s rc).2.1 with
     |false=>exact p4 t hts m hm
     |true=>
      rw[cond_true,out _ p1 (by omega) p5 m (by omega) t,if_neg (λ c=>hts c.2.symm)];exact p4 t hts m hm

def DS (ns ms:List Nod):Prop:=∀ m,(ms.getD m A8).2.1=(ns.getD m A8).2.1
def DS.set {ns ms:List Nod} (h:DS ns ms) {p:Nat} {x:Nod} (hx:x.2.1=(ms.getD p A8).2.1):DS ns (ms.set p x):=λ m=>by
 rw[← h m]
 by_cases hm:m<ms.length
 ·rw[E5 hm]
  by_cases e:p=m
  ·rw[if_pos e,hx,e]
  ·rw[if_neg e]
 ·rw[Vb,Vb,Yx (by rw[Vv];omega),Yx (by omega)]
def Jba (w:Wld) (src:Int) (l:List Row) (self:Bool) (rc:List Int):DS w.2.2.1 (J5 w src l self rc).1:=by
 unfold J5;refine Hz (λ _ (a:List Nod×Bool)=>DS w.2.2.1 a.1) (λ _=>rfl) λ j b hj hb=>?_;unfold gst
 cases (Cm w).getD j 0==src&&!self with
 |true=>exact hb
 |false=>
  cases rch rc j != 1 with
  |true=>exact hb
  |false=>
   refine hb.set ?_;unfold tk
   cases decide ((N8 (b.1.getD ((Cm w).getD j 0).toNat A8).2.2.1 l).length > 60)<;>rfl
def Tra (w:Wld) (i:Nat) (rc:List Int):DS w.2.2.1 (P3 w i rc).2.2.2.1:=by
 have h:=Jba w (i:Int) ((w.2.2.1.getD i A8).2.2.2.take 1) true rc;unfold P3
 cases ((w.2.2.1.getD i A8).2.2.2.length:Int)==0 with
 |true=>exact λ _=>rfl
 |false=>
  show DS w.2.2.1 (bif (K6 w i rc).2 then (K6 w i rc).1.set i (Xpa ((K6 w i rc).1.getD i A8) ((w.2.2.1.getD i A8).2.2.2.drop 1)) else (K6 w i rc).1)
  cases (K6 w i rc).2 with
  |true=>exact DS.set h rfl
  |false=>exact h
def Tsa (w:Wld) (i:Nat) (rc:List Int):DS w.2.2.1 (N3 w i rc).2.2.2.1:=by
 have h:=Jba w (i:Int) (w.2.2.1.getD i A8).2.2.1 false rc;unfold N3
 cases ((w.2.2.1.getD i A8).2.2.1.length:Int)==0 with
 |true=>exact λ _=>rfl
 |false=>
  show DS w.2.2.1 (bif (J2 w i rc).2&&!(Hr (Cm (wN w (J2 w i rc).1)) (i:Int)) then (J2 w i rc).1.set i (Qv ((J2 w i rc).1.getD i A8)) else (J2 w i rc).1)
  cases (J2 w i rc).2&&!(Hr (Cm (wN w (J2 w i rc).1)) (i:Int)) with
  |true=>exact DS.set h rfl
  |false=>exact h
def DS.lat {ns ms:List Nod} (h:DS ns ms) (hl:ms.length=ns.length) (s:ByteArray):Lat ns ms s:=Lat.same hl λ m _=>by unfold oN;rw[h m]
def Y7a {w:Wld} (h:WO w) {i:Nat} (hi:i<w.2.2.1.length) (s:ByteArray):Lat w.2.2.1 (qtA w i).2.2.1 s:=Lat.same (J3a h hi).len λ m hm=>by
 show oN (w.2.2.1.set i (V5a (w.2.2.1.getD i A8)).1) m s=_;unfold oN;rw[E5 hm]
 by_cases e:i=m
 ·subst e;rw[if_pos rfl];exact E9a (h.ns.get hi).g s
 ·rw[if_neg e]
def W2 {i:Nat} (t:ByteArray):∀ (l:List ByteArray) {w:Wld},WO w→i<w.2.2.1.length→Lat w.2.2.1 (K7 w i l).2.2.1 t
 |[],w,_,_=>Lat.refl _ _
 |s::l,w,h,hi=>by
  have h1:=Pma h hi s Dh;exact(Q8a h hi s Dh t).trans (W2 t l (h1.wo h) (by rw[h1.len];exact hi))
def W3 {w:Wld} (h:WO w) {i:Nat} (hi:i<w.2.2.1.length) (t:ByteArray):∀ n,Lat w.2.2.1 (Jq w i n).2.2.1 t
 |0=>Lat.refl _ _
 |n+1=>by
  have h1:=M9 h hi n;have h2:=Pna (h1.wo h) (i:=i) (by rw[h1.len];exact hi) Dh;exact(W3 h hi t n).trans ((Tra (Jq w i n) i Dh).lat h2.len t)
def Y8a {w:Wld} (h:WO w) {i:Nat} (hi:i<w.2.2.1.length) (t:ByteArray):Lat w.2.2.1 (qtP w i).2.2.1 t:=by
 have h1:=J3a h hi;have a1:=Y7a h hi t;have h1o:=h1.wo h;have h1l:=h1.len;unfold qtP;generalize N9 ((qtA w i).2.2.1.getD i A8).2.1=l;generalize qtA w i=u at *;exact a1.trans (W2 t l h1o (by omega))
def Y9a {w:Wld} (h:WO w) {i:Nat} (hi:i<w.2.2.1.length) (t:ByteArray):Lat w.2.2.1 (qtN w i).2.2.1 t:=by
 have h2:=Ppa h hi;have a2:=Y8a h hi t;have h2o:=h2.wo h;have h2l:=h2.len;unfold qtN qtT;generalize qtP w i=u at *;generalize (u.2.2.1.getD i A8).2.2.2.length=n;have h3:=M9 h2o (i:=i) (by omega) n;have a3:=W3 h2o (i:=i) (by omega) t n;have h3o:=h3.wo h2o;have h3l:=h3.len;generalize Jq u i n=v at *;have h4:=Poa h3o (i:=i) (by omega) Dh;exact(a2.trans a3).trans ((Tsa v i Dh).lat h4.len t)
def Q9a {w:Wld} (h:WO w) (t:ByteArray):∀ k,k≤w.2.2.1.length→Lat w.2.2.1 (run qtN k w).2.2.1 t
 |0,_=>Lat.refl _ _
 |k+1,hk=>by
  have h1:=J4a h k (by omega);have:=Y9a (h1.wo h) (i:=k) (by rw[h1.len];omega) t;rw[I7];exact(Q9a h t k (by omega)).trans this
def Qaa {w:Wld} (h:WO w) (t:ByteArray):Lat w.2.2.1 (J3 w).2.2.1 t:=Q9a h t _ (Vw _)

def Qba {l:List Dev} {p n:Int} {s:ByteArray} {d:List Int} {rc:List Int} (hs:B8 s=true) (hd:d.length≤200):
  ask (Y3 l p n) s ((0,0,0),false,d) 5 rc=Pc (l,(build l p n).1,l.map Wz,(5,0,0),[],[]) s ((5,0,0),false,d) rc:=by
 unfold ask;rw[hs];dsimp only;rw[decide_eq_false (show ¬ (d.length:Int) > 200 by omega)];rfl
def Qca {w:Wld} (h:WO w) {s:ByteArray} (hex:∃ m,m<w.2.2.1.length∧∃ f,oN w.2.2.1 m s=some f):∃ m,m<(J3 w).2.2.1.length∧∃ f,oN (J3 w).2.2.1 m s=some f:=by
 obtain⟨T,hT⟩:=Q7a w.2.2.1 s hex;obtain⟨_,m,hm,o,h2,_⟩:=(Qaa h s).1 T hT;exact⟨m,hm,o,h2⟩
def RI.only {nm:List ByteArray} {z:Wld} (h:RI nm z.2.2.1.length z) {s:ByteArray} {f:Fil} {b:Bool} (hw:z.2.2.2.2.1=[(s,f,b)]) (hex:∃ m,m<z.2.2.1.length∧∃ f,oN z.2.2.1 m s=some f) {p:Nat} (hp:p<z.2.2.1.length):oN z.2.2.1 p s=bif inP z s p then some f else none:=by
 have isf:∀ m,m<z.2.2.1.length→∀ o,oN z.2.2.1 m s=some o→o=f:=λ m hm o ho=>by
  obtain⟨x,hx,_,e⟩:=ED.now h.wi.wok ((h.wi.nodes _ (A3 (d:=A8) hm)).2.1 s) ho;rw[hw,Vp]at hx;rw[hx]at e;exact e.symm
 cases hP:inP z s p with
 |false=>exact h.fo s p hp hP
 |true=>
  obtain⟨m,hm,o,ho⟩:=hex
  have hm':inP z s m=true:=by
   cases hq:inP z s m with
   |true=>rfl
   |false=>
    have:oN z.2.2.1 m s=none:=h.fo s m hm hq;rw[ho]at this;cases this
  obtain⟨y,hy,_⟩:=h.fi s m hm hm' o ho p hp hP;have hy':oN z.2.2.1 p s=some y:=hy;rw[hy',isf p hp y hy'];rfl
def Kza {w:Wld} (h:WI w) {s:ByteArray} {f:Fil} {b:Bool} (hw:w.2.2.2.2.1=[(s,f,b)]) (hex:∃ m,m<w.2.2.1.length∧∃ f,oN w.2.2.1 m s=some f):
  RI [s] (J3 w).2.2.1.length (J3 w)∧SW w (J3 w)∧∀ p,p<w.2.2.1.length→oN (J3 w).2.2.1 p s=bif inP w s p then some f else none:=by
 have hN:Y5 [s] w.2.2.2.2.1:=⟨by simp only[Vh,Vs];omega,λ x hx=>by rw[hw,Vp]at hx;rw[hx];exact Vp.2 rfl⟩;obtain⟨r,sw⟩:=Tna h hN;refine⟨r,sw,λ p hp=>?_⟩;rw[r.only (by rw[sw.ws];exact hw) (Qca h.wo hex) (by rw[sw.len];exact hp),sw.inP]
def SW.contacts {w v:Wld} (h:SW w v) (s:ByteArray):contacts v s=contacts w s:=by
 obtain⟨ns,rfl,hn⟩:=h;exact S6 hn.2.1 _
def Qda {s:ByteArray} {n:Nod} {f:Fil} (h:old n.2.1 s=some f) (a:Bool×Fil):X1 s a n=bif !a.1||sle a.2.1 f.1 then (true,f) else a:=by
 unfold X1;rw[Px h];rfl
def Ega {s:ByteArray} {n:Nod} (h:old n.2.1 s=none) (a:Bool×Fil):X1 s a n=a:=by
 unfold X1;rw[Ayb,h];rfl
def Qea {R:Int} {rc:List Int} {s:ByteArray} {ns:List Nod} {cs:List Int} {a:Int×Int×Bool×Fil} (h:¬ a.1<R) (i:Nat):J2a R rc s ns cs a i=a:=by
 unfold J2a;rw[decide_eq_false h];rfl
def Jca {R:Int} {rc:List Int} {s:ByteArray} {ns:List Nod} {cs:List Int} {a:Int×Int×Bool×Fil} {i:Nat} (h:a.1<R) (hr:rch rc i=1):J2a R rc s ns cs a i=(a.1+1,a.2.1+1,X1 s a.2.2 (ns.getD (cs.getD i 0).toNat A8)):=by
 unfold J2a;rw[decide_eq_true h,hr];rfl
def Yaa {w:Wld} {s:ByteArray} {rc:List Int} (hR:w.2.1.1=2) (hl:2≤(contacts w s).length) (hr0:rch rc 0=1) (hr:rch rc 1=1):gtR w s rc=(2,2,X1 s (X1 s (false,Xy) (w.2.2.1.getD ((contacts w s).getD 0 0).toNat A8)) (w.2.2.1.getD ((contacts w s).getD 1 0).toNat A8)):=by
 unfold gtR;generalize contacts w s=cs at *
 have e:run (J2a w.2.1.1 rc s w.2.2.1 cs) 2 (0,0,false,Xy)=(2,2,X1 s (X1 s (false,Xy) (w.2.2.1.getD (cs.getD 0 0).toNat A8)) (w.2.2.1.getD (cs.getD 1 0).toNat A8)):=by
  rw[I7,I7,T9a,Jca (by rw[hR];dsimp only;omega) hr0,Jca (by rw[hR];dsimp only;omega) hr];rfl
 rw[Ira (j:=2) hl (λ i=>by rw[e];exact Qea (by rw[hR];dsimp only;omega) i),e]
def WO.inP_at {w:Wld} (h:WO w) {s:ByteArray} {j:Nat} (hj:j<(contacts w s).length):inP w s ((contacts w s).getD j 0).toNat=decide ((j:Int)<w.2.1.1):=by
 obtain⟨p1,p2,p3⟩:=h.prims s;have hn:=h.contacts_nodup s;have h0:=(I0 (A3 (d:=0) hj)).1;unfold inP;rw[show ((((contacts w s).getD j 0).toNat:Nat):Int)=(contacts w s).getD j 0 by omega,← p2,Dhb,Hy,decide_eq_true_iff];generalize (contacts w s)=cs at *;generalize (I1 w s).length=K at *;constructor
 ·intro hm;obtain⟨i,hi,e⟩:=Yn.1 hm;rw[Vq]at hi;rw[Dub,Vb,Vg hj,Wm]at e
  have hji:i=j:=F6b λ c=>by
   rcases Nat.lt_or_gt_of_ne c with hl|hl
   ·exact(Ys.1 hn i j (by omega) hj hl) e
   ·exact(Ys.1 hn j i hj (by omega) hl) e.symm
  omega
 ·intro hlt;refine Yn.2 ⟨j,by rw[Vq];omega,?_⟩;rw[Dub,Vb,Vg hj,Wm]

def Nc (l:List Dev) (p n:Int) (s:ByteArray) (d:List Int) (rc:List Int):Wld:=(ask (Y3 l p n) s ((0,0,0),false,d) 5 rc).2
section
variable {l:List Dev} {p n:Int} {s:ByteArray} {d rc:List Int}
def Bfa (hd:d.length≤200):Ds ((5,0,0),false,d)=true:=Ha.2 ⟨rfl,hd,λ c=>by cases c⟩
def Qfa (hb:(build l p n).2=true) (hs:B8 s=true) (hd:d.length≤200) (hdb:Ax d):
  WI (Nc l p n s d rc)∧(Nc l p n s d rc).2.1.1=n∧(Nc l p n s d rc).1=l∧(Nc l p n s d rc).2.1=(build l p n).1∧(Nc l p n s d rc).2.2.1.length=l.length∧contacts (Nc l p n s d rc) s=contacts (Y3 l p n) s∧(Nc l p n s d rc).2.2.2.2.2=[]:=by
 have hw:=Gga hb;have h1:=hw.ask (s:=s) (f:=((0,0,0),false,d)) (t:=5) (rc:=rc) hdb (λ c=>by cases c);have hr:=(Te hb).2.2.1;unfold Nc;have hno:=Vca (w:=((l,(build l p n).1,l.map Wz,(5,0,0),[],[]):Wld)) (s:=s) (f:=((5,0,0),false,d)) (rc:=rc) hw.ns hs (Bfa hd)
 have hl:(wrN (l,(build l p n).1,l.map Wz,(5,0,0),[],[]) s ((5,0,0),false,d) rc).1.length=l.length:=by
  have:=congrArg length hno.2;rw[Vz,Vz]at this;rw[this];exact Vz ..
 refine⟨h1,?_⟩;rw[Qba hs hd];exact⟨hr,rfl,rfl,hl,S6 hno.2 _,rfl⟩
def Jda {v:Int} (hb:(build l p n).2=true) (hs:B8 s=true) (hd:d.length≤200) (hdb:Ax d) (hv0:v≠0) (hv:∀ j:Nat,(j:Int)<n→rch rc j=v):
  (ask (Y3 l p n) s ((0,0,0),false,d) 5 rc).1=(bif v==1 then 0 else 1)∧(Nc l p n s d rc).2.2.2.2.1=[(s,((5,0,0),false,d),v==1)]∧
  ∀ m,m<(Nc l p n s d rc).2.2.1.length→(Nc l p n s d rc).2.2.1.getD m A8=bif inP (Nc l p n s d rc) s m then Vla ((Nc l p n s d rc).2.2.1.getD m A8).1 s ((5,0,0),false,d) (v != 3) else (((Nc l p n s d rc).2.2.1.getD m A8).1,([],[]),[],[]):=by
 have hw:=Gga hb;obtain⟨hd1,hring,hr,_⟩:=Te hb;obtain⟨i1,i2,_,i4,i5,i6,_⟩:=Qfa (rc:=rc) hb hs hd hdb;have hR:=(Bl.1 hring).2.1;rw[hr]at hR;obtain⟨q1,q2,q3⟩:=hw.wo.prims s;obtain⟨q1',q2',_⟩:=i1.wo.prims s;have q1r:((I1 (Y3 l p n) s).length:Int)=n:=q1.trans hr;have hcn:=hw.wo.contacts_nodup s;obtain⟨k1,k2,k3⟩:=Q5a (w:=((l,(build l p n).1,l.map Wz,(5,0,0),[],[]):Wld)) (s:=s) (f:=((5,0,0),false,d)) (rc:=rc) (v:=v) (K:=(I1 (Y3 l p n) s).length) (by rw[q1r];exact hr) hcn q3 hv0 (λ j hj=>hv j (by omega)) hs (Bfa hd) (λ m hm=>Eda (l:=l) (parts:=p) (reps:=n) hm)
 have hq:quo n≤n∧1≤quo n:=by unfold quo;omega
 have e:Pc (l,(build l p n).1,l.map Wz,(5,0,0),[],[]) s ((5,0,0),false,d) rc=(bif v==1 then 0 else 1,(l,(build l p n).1,(wrN (l,(build l p n).1,l.map Wz,(5,0,0),[],[]) s ((5,0,0),false,d) rc).1,(5,0,0),[(s,((5,0,0),false,d),v==1)],[])):=by
  unfold Pc
  have hdec:decide ((wrN (l,(build l p n).1,l.map Wz,(5,0,0),[],[]) s ((5,0,0),false,d) rc).2.2≥quo (build l p n).1.1)=(v==1):=by
   rw[k1,hr,q1r]
   cases v==1 with
   |true=>exact decide_eq_true hq.1
   |false=>exact decide_eq_false (show ¬ (0:Int)≥quo n by omega)
  dsimp only;rw[hdec];rfl
 have hask:=Qba (l:=l) (p:=p) (n:=n) (rc:=rc) hs hd
 have hin:∀ m,inP (Nc l p n s d rc) s m=Hr ((contacts (Y3 l p n) s).take (I1 (Y3 l p n) s).length) (m:Int):=λ m=>by
  unfold inP;rw[← q2',i6];congr 2
  have:((I1 (Nc l p n s d rc) s).length:Int)=n:=by rw[q1',i2]
  omega
 have hf:Nc l p n s d rc=(l,(build l p n).1,(wrN (l,(build l p n).1,l.map Wz,(5,0,0),[],[]) s ((5,0,0),false,d) rc).1,(5,0,0),[(s,((5,0,0),false,d),v==1)],[]):=by
  unfold Nc;rw[hask,e]
 refine⟨by rw[hask,e],by rw[hf],λ m hm=>?_⟩;rw[hin m];rw[i5]at hm;have h3:=k3 m (by show m<(l.map Wz).length;rw[Vz];exact hm);have hnn:=Eda (l:=l) (parts:=p) (reps:=n) (m:=m) (by show m<(l.map Wz).length;rw[Vz];exact hm)
 have hfm:(Nc l p n s d rc).2.2.1.getD m A8=(wrN (l,(build l p n).1,l.map Wz,(5,0,0),[],[]) s ((5,0,0),false,d) rc).1.getD m A8:=by rw[hf]
 rw[hfm,h3];have hc:contacts ((l,(build l p n).1,l.map Wz,(5,0,0),[],[]):Wld) s=contacts (Y3 l p n) s:=rfl;rw[hc]
 cases Hr ((contacts (Y3 l p n) s).take (I1 (Y3 l p n) s).length) (m:Int) with
 |true=>rfl
 |false=>exact Prod.ext rfl hnn
def Yba {v:Int} (hb:(build l p n).2=true) (hs:B8 s=true) (hd:d.length≤200) (hdb:Ax d) (hv0:v≠0) (hv:∀ j:Nat,(j:Int)<n→rch rc j=v) {m:Nat} (hm:m<(Nc l p n s d rc).2.2.1.length) (t:ByteArray):
  oN (Nc l p n s d rc).2.2.1 m t=bif inP (Nc l p n s d rc) s m then (if s=t then some ((5,0,0),false,d) else none) else none:=by
 obtain⟨_,_,k⟩:=Jda (rc:=rc) hb hs hd hdb hv0 hv;unfold oN;rw[k m hm]
 cases inP (Nc l p n s d rc) s m with
 |true=>exact Tpa (Bfa hd) hdb t
 |false=>rfl
end

abbrev El:ByteArray:=⟨#[100,111,103]⟩
abbrev Lq:List Int:=[119,111,111,102]
abbrev Pd:Fil:=((5,0,0),false,Lq)
def Qz:B8 El=true:=by decide
def S7:Ax Lq:=by unfold Ax;decide
def Yca:Ds Pd=true:=Bfa (by decide)
section
variable {l:List Dev} {p:Int} {rc:List Int}
def Tta {w:Wld} {rc:List Int} (h:WI w) {s:ByteArray} (hs:B8 s=true) {q:Int} {f:Fil} (hq:q≠0) (hr:gtR w s rc=(q,q,true,f)) (hd:f.2.1=false):Aqb w s rc=(f,0):=by
 unfold Aqb;rw[h.rightB,hs,Bool.and_self,cond_true,hr];unfold gtW;dsimp only;rw[beq_eq_false_iff_ne.2 hq,hd];rfl
def Vma {s:ByteArray} {n:Nod} {f:Fil} (h:old n.2.1 s=some f):X1 s (false,Xy) n=(true,f):=by
 rw[Qda h];rfl
def Tua:40≤8*(G5 Pd).length:=by decide
def Tva {N:Int} (h0:0≤N) (h1:N<40):(Qq ([(El,G5 Pd)],[(El,G5 Pd)]) El N).2=true∧old (Qq ([(El,G5 Pd)],[(El,G5 Pd)]) El N).1 El=none:=by
 have hl:=Tua
 have hg:gt [(El,G5 Pd)] El=some (G5 Pd):=by rw[Ru,if_pos rfl]
 unfold Qq;dsimp only;rw[hg];dsimp only;rw[Dg.2 ⟨h0,by omega⟩,cond_true];refine⟨rfl,?_⟩;unfold old;dsimp only;rw[Wv (List.pairwise_singleton _ _),if_pos rfl,Option.bind_some,Ila Yca (by omega)]
def Twa (hb:(build l p 2).2=true) (hr:∀ j:Nat,(j:Int)<2→rch rc j=1) {k:Nat} (hk:k<2) {N:Int} (h0:0≤N) (h1:N<40):
  (ask (Y3 l p 2) El ((0,0,0),false,Lq) 5 rc).1=0∧WI (Nc l p 2 El Lq rc)∧2≤(contacts (Nc l p 2 El Lq rc) El).length∧
  ∀ e:Evt,e=(8,(contacts (Nc l p 2 El Lq rc) El).getD k 0,El,[],N,[])→(doW (Nc l p 2 El Lq rc) e).1=true∧WI (doW (Nc l p 2 El Lq rc) e).2∧
  Aqb (doW (Nc l p 2 El Lq rc) e).2 El rc=(Pd,0)∧(doW (Nc l p 2 El Lq rc) e).2.2.2.2.2.2=[El]∧
  ∀ j,j<2→((contacts (Nc l p 2 El Lq rc) El).getD j 0).toNat<(J3 (doW (Nc l p 2 El Lq rc) e).2).2.2.1.length∧oN (J3 (doW (Nc l p 2 El Lq rc) e).2).2.2.1 ((contacts (Nc l p 2 El Lq rc) El).getD j 0).toNat El=some Pd:=by
 obtain⟨i1,i2,_,i4,i5,i6,i7⟩:=Qfa (rc:=rc) (d:=Lq) (s:=El) hb Qz (by decide) S7;obtain⟨k1,k2,k3⟩:=Jda (rc:=rc) (d:=Lq) (s:=El) (v:=1) hb Qz (by decide) S7 (by decide) hr;have k4:=λ m hm=>Yba (rc:=rc) (d:=Lq) (s:=El) (v:=1) hb Qz (by decide) S7 (by decide) hr (m:=m) hm El;refine⟨k1,i1,?_⟩;generalize Nc l p 2 El Lq rc=x at *;have hp:=i1.wo.prims El;rw[i2]at hp
 have hc:2≤(contacts x El).length:=by omega
 refine⟨hc,?_⟩;rintro e rfl;have hat:=λ j (hj:j<(contacts x El).length)=>I0 (A3 (d:=0) hj);have ck:=hat k (by omega);have pk':=i1.wo.inP_at (s:=El) (j:=k) (by omega);rw[i2,decide_eq_true (by omega)]at pk';have hev:=i1.ev (e:=(8,(contacts x El).getD k 0,El,[],N,[])) (λ y hy=>nomatch hy);have nk:=k3 ((contacts x El).getD k 0).toNat (by omega);rw[pk',cond_true]at nk;obtain⟨q1,q2⟩:=Tva h0 h1;have hni:=(i1.nodes _ (A3 (d:=A8) (show ((contacts x El).getD k 0).toNat<x.2.2.1.length by omega))).1;have hok:J0 (x.2.2.1.getD ((contacts x El).getD k 0).toNat A8)=true:=hni.1
 have hlk:lkD (x.2.2.1.getD ((contacts x El).getD k 0).toNat A8).2.1 El=(Pd,0):=by
  have:=k4 ((contacts x El).getD k 0).toNat (by omega);rw[pk']at this;exact Px this
 have hdk:(x.2.2.1.getD ((contacts x El).getD k 0).toNat A8).2.1=([(El,G5 Pd)],[(El,G5 Pd)]):=by rw[nk];rfl
 have hrot:Aza (x.2.2.1.getD ((contacts x El).getD k 0).toNat A8) El N=(((x.2.2.1.getD ((contacts x El).getD k 0).toNat A8).1,(Qq ([(El,G5 Pd)],[(El,G5 Pd)]) El N).1,(x.2.2.1.getD ((contacts x El).getD k 0).toNat A8).2.2),true):=by
  unfold Aza;rw[hok,hlk,hdk,q1];rfl
 have hdo:doW x (8,(contacts x El).getD k 0,El,[],N,[])=(true,(x.1,x.2.1,x.2.2.1.set ((contacts x El).getD k 0).toNat ((x.2.2.1.getD ((contacts x El).getD k 0).toNat A8).1,(Qq ([(El,G5 Pd)],[(El,G5 Pd)]) El N).1,(x.2.2.1.getD ((contacts x El).getD k 0).toNat A8).2.2),x.2.2.2.1,x.2.2.2.2.1,[El])):=by
  unfold doW Nb Qia;dsimp only;rw[Dg.2 ⟨ck.1,by omega⟩,hrot,i7];rfl
 rw[hdo]at hev ⊢
 have hyo:∀ m,m<x.2.2.1.length→oN (x.2.2.1.set ((contacts x El).getD k 0).toNat ((x.2.2.1.getD ((contacts x El).getD k 0).toNat A8).1,(Qq ([(El,G5 Pd)],[(El,G5 Pd)]) El N).1,(x.2.2.1.getD ((contacts x El).getD k 0).toNat A8).2.2)) m El=if ((contacts x El).getD k 0).toNat=m then none else bif inP x El m then some Pd else none:=λ m hm=>by
  by_cases e:((contacts x El).getD k 0).toNat=m
  ·unfold oN;rw[E5 hm,if_pos e,if_pos e];exact q2
  ·rw[if_neg e];have:=k4 m hm;unfold oN at this ⊢;rw[E5 hm,if_neg e,this];rfl
 have hlen:(x.2.2.1.set ((contacts x El).getD k 0).toNat ((x.2.2.1.getD ((contacts x El).getD k 0).toNat A8).1,(Qq ([(El,G5 Pd)],[(El,G5 Pd)]) El N).1,(x.2.2.1.getD ((contacts x El).getD k 0).toNat A8).2.2)).length=x.2.2.1.length:=Vv;have hids:contacts ((x.1,x.2.1,x.2.2.1.set ((contacts x El).getD k 0).toNat ((x.2.2.1.getD ((contacts x El).getD k 0).toNat A8).1,(Qq ([(El,G5 Pd)],[(El,G5 Pd)]) El N).1,(x.2.2.1.getD ((contacts x El).getD k 0).toNat A8).2.2),x.2.2.2.1,x.2.2.2.2.1,[El]):Wld) El=contacts x El:=S6 (hev.ids.trans i1.ids.symm) _
 have hinP:∀ m,inP ((x.1,x.2.1,x.2.2.1.set ((contacts x El).getD k 0).toNat ((x.2.2.1.getD ((contacts x El).getD k 0).toNat A8).1,(Qq ([(El,G5 Pd)],[(El,G5 Pd)]) El N).1,(x.2.2.1.getD ((contacts x El).getD k 0).toNat A8).2.2),x.2.2.2.1,x.2.2.2.2.1,[El]):Wld) El m=inP x El m:=λ m=>by
  unfold inP I1;dsimp only;rw[S6 (hev.ids.trans i1.ids.symm)]
 generalize x.2.2.1.set ((contacts x El).getD k 0).toNat ((x.2.2.1.getD ((contacts x El).getD k 0).toNat A8).1,(Qq ([(El,G5 Pd)],[(El,G5 Pd)]) El N).1,(x.2.2.1.getD ((contacts x El).getD k 0).toNat A8).2.2)=ns at *;have hne:=Q3a (i1.wo.contacts_nodup El) (i:=0) (j:=1) (by omega) (by omega) (by decide) (λ y hy=>(I0 hy).1);have a0:=hat 0 (by omega);have a1:=hat 1 (by omega);have p0:=i1.wo.inP_at (s:=El) (j:=0) (by omega);have p1:=i1.wo.inP_at (s:=El) (j:=1) (by omega);rw[i2]at p0 p1;have o0:=hyo ((contacts x El).getD 0 0).toNat (by omega);have o1:=hyo ((contacts x El).getD 1 0).toNat (by omega);rw[p0]at o0;rw[p1]at o1
 have hex:∃ m,m<ns.length∧∃ f,oN ns m El=some f:=by
  by_cases hk0:k=0
  ·subst hk0;rw[if_neg hne]at o1;exact⟨_,by omega,_,o1⟩
  ·obtain rfl:k=1:=by omega
   rw[if_neg (λ c=>hne c.symm)]at o0;exact⟨_,by omega,_,o0⟩
 refine⟨rfl,hev,Tta hev Qz (q:=2) (by decide) ?_ rfl,rfl,?_⟩
 ·show gtR ((x.1,x.2.1,ns,x.2.2.2.1,x.2.2.2.2.1,[El]):Wld) El rc=_;rw[Yaa (w:=(x.1,x.2.1,ns,x.2.2.2.1,x.2.2.2.2.1,[El])) i2 (by rw[hids];exact hc) (hr 0 (by decide)) (hr 1 (by decide)),hids];dsimp only
  by_cases hk0:k=0
  ·subst hk0;rw[if_pos rfl]at o0;rw[if_neg hne]at o1;rw[Ega o0,Vma o1]
  ·obtain rfl:k=1:=by omega
   rw[if_neg (λ c=>hne c.symm)]at o0;rw[if_pos rfl]at o1;rw[Vma o0,Ega o1]
 ·obtain⟨_,r2,r3⟩:=Kza hev k2 hex;intro j hj;have hj':=hat j (by omega);have pj:=i1.wo.inP_at (s:=El) (j:=j) (by omega);rw[i2,decide_eq_true (by omega)]at pj;refine⟨by rw[r2.len];show _<ns.length;omega,?_⟩;rw[r3 _ (by show _<ns.length;omega),hinP,pj];rfl
end

def Yda {l:List Dev} {i:Nat} {z w:Int} (h:H7 l=true) (hi:i<l.length) (z0:0≤z) (z1:z≤20) (h1:1≤w) (h2:w≤1000):H7 (l.set i ((l.getD i Kw).1,z,w))=true:=by
 obtain⟨g1,g2,g3,g4⟩:=D7.1 h
 have e0:(l.set i ((l.getD i Kw).1,z,w)).map (·.1)=l.map (·.1):=by
  rw[Fub]
  have:(l.getD i Kw).1=(l.map (·.1)).getD i 0:=by
   simp only[Vb,Zx,Vg hi,Dpb,Wm]
  rw[this,Vb,Vg (by simpa using hi),Wm];exact Emb _
 refine D7.2 ⟨?_,λ d hd=>?_,?_⟩
 ·have e:(l.map (·.1)).Pairwise (· < ·):=Zi.2 g1;rw[← e0]at e;exact Zi.1 e
 ·rcases Yw hd with hd|hd
  ·exact g2 d hd
  ·obtain⟨e1,e2,_⟩:=J1.1 (g2 _ (A3 (d:=Kw) hi));subst hd;exact J1.2 ⟨e1,⟨z0,z1⟩,h1,h2⟩
 ·rw[Vv];exact⟨g3,g4⟩
def Bga (a:List Int) (hb:(a.length:Int)≤1048576):Tot (λ k=>C6 k a) (λ l=>H7 l=true∧2≤l.length∧l.length≤6):=by
 unfold C6;refine Cgb (Nua a hb) ?_;intro c hc;refine Cgb (Kqa c hc) ?_;rintro⟨l,c1⟩ ⟨hl,hn,k1⟩;dsimp only at hl hn k1 ⊢;obtain⟨w,c2,e2,hw,_⟩:=Ama c1 k1 [1,7,1000] (by decide) (by decide);refine Cgb (Crb (Q:=λ r=>r=(w,c2)) e2 rfl) ?_;rintro _ rfl
 have hw1:1≤w∧w≤1000:=by
  simp only[Vk,E0b,or_false]at hw;omega
 refine Cgb (Q:=λ l=>H7 l=true∧2≤l.length∧l.length≤6) ?_ (λ r hr=>Cfb hr);obtain⟨n,en⟩:∃ n,l.length=n:=⟨_,rfl⟩;refine Cob (L:=λ k i (s:List Dev)=>D0 k s w i) (Q:=λ l=>H7 l=true∧2≤l.length∧l.length≤6) n (λ j s=>H7 s=true∧s.length=n) ?_ ?_ 0 l (Vu _) ⟨hl,en⟩
 ·rintro s ⟨h1,h2⟩;simp (disch:=omega) only [D0,dF];exact Cfb ⟨h1,by omega,by omega⟩
 ·rintro j s hj ⟨h1,h2⟩ next
  have hjs:j<s.length:=by omega
  have e0:s.getD j ((0:Int),((0:Int),(0:Int)))=s.getD j Kw:=rfl
  have hl2:(s.set j ((s.getD j Kw).1,3,(s.getD j Kw).2.2)).length=n:=by rw[Vv];exact h2
  have e1:(s.set j ((s.getD j Kw).1,3,(s.getD j Kw).2.2)).getD j ((0:Int),((0:Int),(0:Int)))=((s.getD j Kw).1,3,(s.getD j Kw).2.2):=by
   rw[Vb,Dnb hjs];rfl
  simp (disch:=omega) only [D0,dT,Vj,w64,e0,hl2,e1,List.set_set];exact next _ ⟨Yda h1 hjs (by decide) (by decide) hw1.1 hw1.2,by rw[Vv];exact h2⟩
def L0a {l:List Dev} {r:Int} (hl:H7 l=true) (h0:1≤r) (h1:r≤5) (h2:r≤(l.length:Int)):(build l 4 r).2=true:=by
 unfold build;rw[hl,Dg.2 ⟨h0,h1⟩,decide_eq_false (show ¬ r > (l.length:Int) by omega)];rfl
def R3 (f:Fil) (h:f.2.2.length≤1000000000000):Tot (λ k=>Ej k f f) (λ r=>r=true):=by
 refine(Dia f f h).mono ?_;rintro r rfl;exact decide_eq_true rfl

end Go.Proofs.YtcpligincipmhaaGreat.Vf

section
set_option linter.unusedVariables false
set_option linter.unusedSimpArgs false
namespace Go.Proofs.YtcpligincipmhaaGreat.Pure
open Go Go.RowKit Go.Proofs.YtcpligincipmhaaGreat.Vf
theorem Azb {a:List Int} (h:Ax a) (hb:(a.length:Int)≤1048576) (i:Nat) (hi:i≤100):∃ v,Jy a (i:Int)=some v∧0≤v∧v≤255:=by
 unfold Jy
 by_cases hl:i<a.length
 ·have hx:=h _ (A3 (d:=0) hl);refine⟨a.getD i 0,?_,hx⟩;simp (disch:=omega) only [dT,Vj,w64]
 ·refine⟨Int.tmod ((i:Int)*31+(a.length:Int)*7) 256,?_,Int.tmod_nonneg _ (by omega),by have:=Int.tmod_lt_of_pos ((i:Int)*31+(a.length:Int)*7) (show (0:Int)<256 by decide);omega⟩;simp (disch:=omega) only [dF,w64]
theorem FnHealed:∀ (a0:List Int),Ty.fit ti (.sl 5 (.i .u8)) a0→∃ k,Gd k a0=some true:=by
 intro a0 hfit
 have hby:Ax a0:=λ x hx=>by
  have:=hfit.2 x hx;have h1:(decide (IntKind.min .u8≤x)&&decide (x≤IntKind.max .u8))=true:=this;rw[Va,decide_eq_true_iff,decide_eq_true_iff]at h1;exact h1
 refine Tot.law (f:=λ k=>Gd k a0) ?_;unfold Gd Jr;refine Cgb (Cfb (Q:=λ b=>b=decide ((List.length a0:Int) > 1048576)) rfl) ?_;rintro b rfl;refine Cmb (λ _=>Cfb rfl) (λ hb=>?_);refine Cgb (Bga a0 (by omega)) ?_;rintro l ⟨hl,h2,h6⟩;have hbd:(build l 4 2).2=true:=L0a hl (by decide) (by decide) (by omega);refine Cgb (Efa l 4 2 (by omega)) ?_;rintro _ rfl;rw[hbd,cond_true];have hw:=Gga hbd;have hd:Ky El:=Hb Qz;refine Cgb (Tha (hw.wo.wim (m:=200) (by decide) hw.splen) (by decide) El Lq 5 [1,1] hd (by decide)) ?_;rintro _ rfl
 have hrc:∀ j:Nat,(j:Int)<2→rch [1,1] j=1:=λ j hj=>by
  match j,hj with
  |0,_=>rfl
  |1,_=>rfl
  |j+2,h=>exact absurd h (by omega)
 obtain⟨u,eu,u0,u1⟩:=Azb hby (by omega) 2 (by decide);obtain⟨v,ev,v0,v1⟩:=Azb hby (by omega) 3 (by decide);have s0:=Int.tmod_nonneg 2 u0;have s1:=Int.tmod_lt_of_pos u (show (0:Int)<2 by decide);have N0:=Int.tmod_nonneg 40 v0;have N1:=Int.tmod_lt_of_pos v (show (0:Int)<40 by decide);obtain⟨k,ek⟩:∃ k:Nat,Int.tmod u 2=(k:Int):=⟨(Int.tmod u 2).toNat,by omega⟩;obtain⟨t1,i1,t2,t3⟩:=Twa (rc:=[1,1]) hbd hrc (k:=k) (by omega) N0 N1;obtain⟨x,e⟩:∃ x,x=Nc l 4 2 El Lq [1,1]:=⟨_,rfl⟩
 have hput:B8b (Y3 l 4 2) El ((0,0,0),false,Lq) 5 [1,1]=(x,0):=by
  unfold B8b;rw[hw.rightB,cond_true,t1,e];rfl
 rw[← e]at i1 t2 t3;rw[hput];have hpc:=i1.wo.dlen;refine Cgb (Q:=λ r=>r=contacts x El) ?_ ?_
 ·unfold Gc;refine Cgb (O7 x i1.win) ?_;rintro _ rfl;refine Chb (by rw[i1.rightB];rfl) (Cgb (O9 x El i1.ring i1.ns.1 (by decide)) ?_);rintro _ rfl;exact Cfb rfl
 rintro _ rfl;refine Chb rfl (Chb (decide_eq_false (by omega)) (Cgb (Crb (Q:=λ r=>r=u) eu rfl) ?_));rintro u rfl;rw[ek];refine Cjb (by omega) (Cjb (by omega) (Cgb (Crb (Q:=λ r=>r=v) ev rfl) ?_));rintro v rfl;rw[Int.toNat_natCast];have hat:=λ j (hj:j<(contacts x El).length)=>I0 (A3 (d:=0) hj);have ck:=hat k (by omega);have hnl:=i1.ns.1;obtain⟨q1,q2,q3,q4,q5⟩:=t3 _ rfl;have hev:B7b (8,(contacts x El).getD k 0,El,([]:List Int),Int.tmod v 40,([]:List Int)):=⟨hd,by simp,⟨by dsimp only;omega,by dsimp only;omega⟩,by simp⟩;refine Cgb (Xza (i1.wo.wim (m:=200) (by decide) i1.splen) (by decide) hev) ?_;rintro _ rfl
 have hdo:doA x (8,(contacts x El).getD k 0,El,[],Int.tmod v 40,[])=((doW x (8,(contacts x El).getD k 0,El,[],Int.tmod v 40,[])).2,true):=by
  unfold doA;rw[i1.rightB,cond_true,q1]
 dsimp only;rw[hdo];generalize (doW x (8,(contacts x El).getD k 0,El,[],Int.tmod v 40,[])).2=y at *;refine Cgb (Tga y El _ q2.win hd) ?_;rintro _ rfl;refine Cgb (Kva (q2.wo.wim (m:=200) (by decide) q2.splen) (by decide)) ?_;rintro _ rfl
 have hr:J6a y=J3 y:=by unfold J6a;rw[q2.rightB];rfl
 rw[hr,q3];have hzo:=(J5a q2.wo).wo q2.wo;have hzs:=(J5a q2.wo).sp;rw[q4]at hzs;obtain⟨z0,z1⟩:=q5 0 (by decide);obtain⟨z2,z3⟩:=q5 1 (by decide);have c0:=hat 0 (by omega);have c1:=hat 1 (by omega);have n0:=St (hzo.ns.get z0);have n1:=St (hzo.ns.get z2);have t0:Int.toNat 0=0:=rfl;have t1':Int.toNat 1=1:=rfl;rw[t0,t1'];refine Cjb (by omega) (Cjb (by omega) (Cjb (by omega) (Cgb (Oy n0.1.1.1.1.1 n0.1.2.1 El) ?_)));rintro _ rfl;refine Cjb (by omega) (Cjb (by omega) (Cjb (by omega) (Cgb (Oy n1.1.1.1.1.1 n1.1.2.1 El) ?_)));rintro _ rfl;rw[Px (show old ((J3 y).2.2.1.getD ((contacts x El).getD 0 0).toNat A8).2.1 El=some Pd from z1),Px (show old ((J3 y).2.2.1.getD ((contacts x El).getD 1 0).toNat A8).2.1 El=some Pd from z3)];refine Cib rfl (Cib rfl (Cib rfl (Cib rfl (Cgb (R3 Pd (by decide)) ?_))));rintro _ rfl;refine Cib rfl (Cgb (R3 Pd (by decide)) ?_);rintro _ rfl;exact Cib rfl (Cfb (by rw[hzs];rfl))
end Go.Proofs.YtcpligincipmhaaGreat.Pure
end
