import Derived.Test.YtiiekghlhfbmmaaGreatMam
import Derived.Test.YtiiekghlhfbmmaaGreatMal
set_option linter.all false
namespace Go.Proofs.YtiiekghlhfbmmaaGreat.Vf
open Go
open List (length getD)
open Int (toNat)
open Go.IntKind (wrap)
open BitVec (ofInt)
def Wi:=@List.take_succ_eq_append_getElem
def Jab:=@List.length_pos_of_mem
def Job:=@List.foldl_append
def Kab:=@List.length_erase_of_mem
def Kub:=@List.exists_mem_of_length_pos
def Kzb:=@List.mem_erase_of_ne
def L6b:=@List.range_succ
def L8b:=@BitVec.getLsbD_ushiftRight
def Lxb:=@BitVec.eq_of_toNat_eq
def Lyb:=@List.set_append_right
def M0b:=@Nat.mod_lt

def DG (d:Dsk):Prop:=Al d=true∧DB d
def Agb {d:Dsk} {s:ByteArray} {b:List Int} (hd:Al d=true) (h:gt d.1 s=some b):b.length≤400:=(Ql.1 ((Aj.1 (Df.1 hd).1).2.1 _ (Ob h))).2
def Ahb {d:Dsk} {s:ByteArray} {b:List Int} (h:DB d) (hb:Ai b):DB (wrD d s b).1:=by
 unfold wrD
 cases decide (b.length≤400)&&decide ((wr d.1 s b).length≤60) with
 |false=>exact h
 |true=>exact⟨(h.1.cut s).ins hb,h.2⟩
def Hob {d:Dsk} {s:ByteArray} (h:DB d):LB (sy d s):=by
 unfold sy
 cases hg:gt d.1 s with
 |none=>exact h.2.cut s
 |some b=>exact(h.2.cut s).ins (h.1.gt hg)
def Fwb {d:Dsk} {s:ByteArray} (h:DB d):DB (syD d s).1:=by
 unfold syD
 cases decide ((sy d s).length≤60) with
 |false=>exact h
 |true=>exact⟨h.1,Hob h⟩
def Fxb {d:Dsk} {s:ByteArray} (h:DB d):DB (rmD d s).1:=by
 unfold rmD
 cases (gt d.1 s).isSome with
 |false=>exact h
 |true=>exact⟨h.1.cut s,h.2⟩
def Fyb {d:Dsk} {s:ByteArray} {b:List Int} (h:DG d) (hs:As s=true) (hb:Ai b):DG (wrD d s b).1:=⟨Nla h.1 hs,Ahb h.2 hb⟩
def Yba {d:Dsk} {s:ByteArray} (h:DG d) (hs:As s=true):DG (syD d s).1:=⟨Fsb h.1 hs,Fwb h.2⟩
def Pva {d:Dsk} {s:ByteArray} (h:DG d):DG (rmD d s).1:=⟨Afb h.1,Fxb h.2⟩
def Fzb {d:Dsk} {s:ByteArray} {f:Fil} (hd:DG d) (hs:As s=true) {x:Dsk×Int} (h:kp1 d s f=some x):DG x.1:=by
 refine⟨Ftb hd.1 hs h,?_⟩
 have hw:∀ x,(bif (wrD d s (Kh f)).2 then some ((wrD d s (Kh f)).1,(0:Int)) else none)=some x→DB x.1:=by
  intro x h
  cases hc:(wrD d s (Kh f)).2 with
  |false=>rw[hc]at h;cases h
  |true=>rw[hc]at h;cases h;exact Ahb hd.2 (Of f)
 unfold kp1 at h
 simp only at h
 split at h
 ·rename_i o _
  cases hc:sle o.1 f.1 with
  |false=>rw[hc]at h;cases h;exact hd.2
  |true=>rw[hc]at h;exact hw _ h
 ·exact hw _ h
def Hpb {d:Dsk} {s:ByteArray} {sure:Bool} (hd:DG d) (hs:As s=true) {x:Dsk×Int} (hx:DG x.1):DG (kp2 d s sure x).1:=by
 unfold kp2
 cases sure
 ·exact hx
 rw[cond_true]
 cases (syD x.1 s).2 with
 |false=>exact hd
 |true=>exact Yba hx hs
def U6a {d:Dsk} {s:ByteArray} {f:Fil} {sure:Bool} (hd:DG d) (hs:As s=true):DG (Mh d s f sure).1:=by
 unfold Mh
 cases h:kp1 d s f with
 |none=>exact hd
 |some x=>exact Hpb hd hs (Fzb hd hs h)
def Aib {d:Dsk} {s:ByteArray} {f:Fil} {sure:Bool} (hd:DG d):DG (keep d s f sure).1:=by
 unfold keep
 cases h:As s
 ·rw[hd.1];exact hd
 cases D9 f with
 |false=>rw[hd.1];exact hd
 |true=>rw[hd.1];exact U6a hd h
def C5a (b:Int) (j:Nat):Int:=((ofInt 8 b ^^^ BitVec.twoPow 8 j).toNat:Int)
def Nna (b:Int) (j:Nat):0≤C5a b j∧C5a b j≤255:=by
 unfold C5a
 have:=(ofInt 8 b ^^^ BitVec.twoPow 8 j).isLt
 omega
def Cvb (b:Int):∀ j,j<8→wrap .u8 ((ofInt (IntKind.bits .u8) b ^^^ ofInt (IntKind.bits .u8) (wrap .u8 ((1:Int)*2 ^ (min j (IntKind.bits .u8))))).toNat)=C5a b j:=by
 intro j hj
 have h1:∀ j,j<8→ofInt 8 (wrap .u8 ((1:Int)*2 ^ (min j 8)))=BitVec.twoPow 8 j:=by decide
 show wrap .u8 (((ofInt 8 b ^^^ ofInt 8 (wrap .u8 ((1:Int)*2 ^ (min j 8)))).toNat:Nat):Int)=_
 rw[h1 j hj]
 have:=(ofInt 8 b ^^^ BitVec.twoPow 8 j).isLt
 rw[Hia _ (by omega)]
 rfl
def Yca {b:Int} (hb:0≤b∧b≤255) {j:Nat} (hj:j<8):C5a b j≠b:=by
 intro h
 unfold C5a at h
 have h1:b=((ofInt 8 b).toNat:Int):=by rw[Kdb];omega
 have h2:(ofInt 8 b ^^^ BitVec.twoPow 8 j).toNat=(ofInt 8 b).toNat:=by omega
 have h3:=Lxb h2
 have h4:BitVec.twoPow 8 j=0#8:=by
  have:=congrArg (λ x=>ofInt 8 b ^^^ x) h3
  simpa[← BitVec.xor_assoc] using this
 have h5:∀ j,j<8→BitVec.twoPow 8 j≠0#8:=by decide
 exact h5 j hj h4
def Mw (l:List Int) (n:Nat):List Int:=l.set (n/8) (C5a (l.getD (n/8) 0) (n % 8))
def Hxa (l:List Int) (n:Nat):(Mw l n).length=l.length:=by unfold Mw;rw[Vy]
def Kza {l:List Int} (h:Ai l) (n:Nat):Ai (Mw l n):=λ x hx=>by
 rcases Xs hx with h'|rfl
 ·exact h x h'
 ·exact Nna _ _
def F0a (d:Dsk) (s:ByteArray) (n:Int):Dsk×Bool:=match gt d.1 s with
 |none=>(d,false)
 |some b=>bif inR n 0 (8*(b.length:Int)-1) then ((wr d.1 s (Mw b n.toNat),bif decide (gt d.2 s=some b) then wr d.2 s (Mw b n.toNat) else d.2),true) else (d,false)
def U7a {l:List Nmd} (hs:D5 l) {s:ByteArray} {i:Nat} (h:fnd l s=some i) (b:List Int):l.set i (s,b)=wr l s b:=by
 obtain⟨hi,hn⟩:=Oa h
 have hm:(l.set i (s,b)).map Prod.fst=l.map Prod.fst:=by
  rw[List.map_set]
  apply Jzb
  intro j
  by_cases hj:i=j
  ·subst hj
   rw[Kkb (by rw[Wc];exact hi),J0b,Vk hi]
   rw[Vb,Vk hi]at hn
   exact congrArg some hn.symm
  ·rw[K0b hj]
 have h1:D5 (l.set i (s,b)):=by
  have e:∀ m:List Nmd,D5 m↔(m.map Prod.fst).Pairwise (λ a b=>tlt a b=true):=λ m=>by
   unfold D5
   rw[Zh]
  rw[e,hm,← e]
  exact hs
 refine Aeb h1 (Pv (Mg hs) Xc) λ t=>?_
 have h2:=Adb (x:=(s,b)) (t:=t) (Mg hs (s:=s)) Xc
 unfold wr
 rw[h2]
 by_cases ht:s=t
 ·subst ht
  rw[if_pos rfl,Hva h1]
  exact List.mem_set hi _
 ·rw[if_neg ht,Sy hs,if_neg ht]
  cases hg:gt l t with
  |none=>
   refine Nr.2 λ x hx=>?_
   rcases Xs hx with h'|rfl
   ·exact Nr.1 hg x h'
   ·exact ht
  |some c=>
   rw[Hva h1]
   obtain⟨j,hj,e⟩:=Zd.1 (Ob hg)
   have hij:i≠j:=by
    rintro rfl
    rw[Vb,Vk hi,Yv,e]at hn
    exact ht hn.symm
   refine Zd.2 ⟨j,by rw[Vy];exact hj,?_⟩
   rw[List.getElem_set_ne hij]
   exact e
def Hya {l:List Nmd} {s:ByteArray} {b:List Int} (hs:D5 l) (h:(gt l s).isSome=true):(wr l s b).length=l.length:=by
 rw[B5a]at h
 obtain⟨i,hi⟩:=Zi.1 h
 rw[← U7a hs hi,Vy]
def G0b {d:Dsk} {s:ByteArray} {n:Int} (h:DG d):DG (F0a d s n).1:=by
 unfold F0a
 cases hg:gt d.1 s with
 |none=>exact h
 |some b=>
  simp only
  cases inR n 0 (8*(b.length:Int)-1)
  ·exact h
  have hn:=Pua h.1 (s:=s) (by rw[hg];rfl)
  have hb:=Agb h.1 hg
  have hbb:=Kza (h.2.1.gt hg) n.toNat
  have l1:=Hya (b:=Mw b n.toNat) (Kk h.1) (s:=s) (by rw[hg];rfl)
  have q1:=Cub h.1 hn (b:=Mw b n.toNat) (by rw[Hxa];exact hb) (by rw[l1];exact(Aj.1 (Df.1 h.1).1).2.2)
  rw[cond_true]
  cases hc:decide (gt d.2 s=some b)
  ·exact⟨q1,(h.2.1.cut s).ins hbb,h.2.2⟩
  have hg2:=of_decide_eq_true hc
  have l2:=Hya (b:=Mw b n.toNat) (Oq h.1) (s:=s) (by rw[hg2];rfl)
  have h':Al (d.2,d.1)=true:=Df.2 ⟨(Df.1 h.1).2,(Df.1 h.1).1⟩
  have q2:=Cub h' hn (b:=Mw b n.toNat) (by rw[Hxa];exact hb) (by show (wr d.2 s _).length≤60;rw[l2];exact(Aj.1 (Df.1 h.1).2).2.2)
  exact⟨Df.2 ⟨(Df.1 q1).1,(Df.1 q2).1⟩,(h.2.1.cut s).ins hbb,(h.2.2.cut s).ins hbb⟩
def Cwb {d:Dsk} {s:ByteArray} {n:Int} (h:DG d) (hn:n≤9223372036854775807) (hn0 : -9223372036854775808≤n):Tot (λ k=>K7 k d s n) (λ r=>r=F0a d s n):=by
 have hin:=Nd h.1
 unfold K7
 refine Isb (Lx d hin.1.1) ?_
 refine Isb (Daa d.1 s hin.1.1.1.1) ?_
 refine Isb (Qk d hin.1.1 hin.1.2) ?_
 rw[h.1]
 refine Iib rfl ?_
 unfold F0a
 unfold Hja
 cases hf:fnd d.1 s with
 |none=>
  have hg:gt d.1 s=none:=by unfold gt;rw[hf]
  rw[hg]
  exact Ikb (by decide) (Igb rfl)
 |some i=>
  have hg:gt d.1 s=some (d.1.getD i Ed).2:=by unfold gt;rw[hf]
  have hi:=(Oa hf).1
  have hnm:=(Oa hf).2
  have hb:=Agb h.1 hg
  rw[hg]
  have e0:d.1.getD i ((⟨#[]⟩:ByteArray),([]:List Int))=d.1.getD i Ed:=rfl
  simp only[Vd,e0]
  refine Ilb (by omega) (Ikb (by omega) (Ikb (by omega) ?_))
  rw[w64 (n:=8*((d.1.getD i Ed).2.length:Int)) (by omega) (by omega),w64 (n:=8*((d.1.getD i Ed).2.length:Int)-1) (by omega) (by omega)]
  refine Isb (Itb (Q:=λ b=>b=inR n 0 (8*((d.1.getD i Ed).2.length:Int)-1)) (Nj _ _ _) rfl) ?_
  cases hr:inR n 0 (8*((d.1.getD i Ed).2.length:Int)-1)
  ·exact Ijb rfl (Igb rfl)
  obtain⟨n0,n1⟩:=Co.1 hr
  obtain⟨m,rfl⟩:∃ m:Nat,n=(m:Int):=⟨n.toNat,by omega⟩
  have hm8:m/8<(d.1.getD i Ed).2.length:=by omega
  have et:wrap .i64 (Int.tdiv (m:Int) 8)=((m/8:Nat):Int):=by
   rw[Jbb (by omega),w64 (by omega) (by omega)]
   omega
  have eu:wrap .u64 (Int.tmod (m:Int) 8)=((m % 8:Nat):Int):=by
   have h8:∀ j:Nat,j<8→wrap .u64 (j:Int)=(j:Int):=by decide
   rw[Iyb (by omega),← h8 (m % 8) (by omega)]
   congr 1
  refine Iib rfl (Isb (Daa d.2 s hin.1.1.2.1) ?_)
  simp only[et,eu,Vd,Cvb _ _ (M0b m (show 0<8 by omega))]
  have ew:d.1.set i ((d.1.getD i Ed).1,Mw (d.1.getD i Ed).2 m)=wr d.1 s (Mw (d.1.getD i Ed).2 m):=by rw[hnm];exact U7a (Kk h.1) hf _
  have ew':d.1.set i ((d.1.getD i Ed).1,(d.1.getD i Ed).2.set (m/8) (C5a ((d.1.getD i Ed).2.getD (m/8) 0) (m % 8)))=wr d.1 s (Mw (d.1.getD i Ed).2 m):=ew
  unfold Hja
  cases hf2:fnd d.2 s with
  |none=>
   have hg2:gt d.2 s=none:=by unfold gt;rw[hf2]
   rw[hg2]
   refine Ilb (by decide) (Ikb (by omega) (Ikb (by omega) (Ikb (by omega) (Ikb (by omega) (Ilb (by omega) (Ikb (by omega) (Ikb (by omega) (Igb ?_))))))))
   rw[ew']
   rfl
  |some j=>
   have hg2:gt d.2 s=some (d.2.getD j Ed).2:=by unfold gt;rw[hf2]
   have hj:=(Oa hf2).1
   have hjn:=(Oa hf2).2
   have e1:d.2.getD j ((⟨#[]⟩:ByteArray),([]:List Int))=d.2.getD j Ed:=rfl
   rw[hg2]
   simp only[Vd,e1]
   refine Ikb (by omega) (Ikb (by omega) (Ikb (by omega) (Ikb (by omega) (Ikb (by omega) (Ikb (by omega) (Ikb (by omega) (Ikb (by omega) (Ikb (by omega) (Ilb (by omega) (Ikb (by omega) (Ikb (by omega) ?_)))))))))))
   rw[Un (h.2.2.gt hg2) (h.2.1.gt hg)]
   refine Inb (λ he=>?_) (λ he=>?_)
   ·have hl2:(d.2.getD j Ed).2.length=(d.1.getD i Ed).2.length:=by rw[he]
    refine Ikb (by omega) (Ikb (by omega) (Ikb (by omega) (Ikb (by omega) (Ilb (by omega) (Ikb (by omega) (Ikb (by omega) (Igb ?_)))))))
    have ew2:d.2.set j ((d.2.getD j Ed).1,(d.2.getD j Ed).2.set (m/8) (C5a ((d.2.getD j Ed).2.getD (m/8) 0) (m % 8)))=wr d.2 s (Mw (d.1.getD i Ed).2 m):=by
     rw[hjn,he]
     exact U7a (Oq h.1) hf2 _
    rw[ew',ew2,he,decide_eq_true rfl]
    rfl
   ·refine Igb ?_
    rw[ew',decide_eq_false (λ c=>he (Jwb c))]
    rfl
def Pwa:∀ (n:Nat) (i:Int) (c:Cur) (a0 a1:List Nmd) (d:Dsk),i=n→n≤6→Bj c→DG d→
  Tot (λ k=>Am k i c.1 c.2.1 c.2.2 a0 a1 d.1 d.2) (λ r=>DG (r.2.2.1,r.2.2.2.1)∧Bj r.2.2.2.2):=by
 intro n
 induction n with
 |zero=>
  intro i c a0 a1 d hi h6 hc hd
  refine Tot.succ ?_
  simp only[Am]
  exact Ilb (by omega) (Igb ⟨hd,hc⟩)
 |succ n ih=>
  intro i c a0 a1 d hi h6 hc hd
  refine Tot.succ ?_
  simp only[Am]
  refine Ikb (by omega) ?_
  rw[w64 (n:=i-1) (by omega) (by omega)]
  obtain⟨s,c1,e1,hs,k1⟩:=M5 c hc
  refine Isb (Itb (Q:=λ r=>r=(s,c1)) e1 rfl) ?_
  obtain⟨x,c2,e2,_,_,_,k2⟩:=Ad c1 k1 6 (by decide)
  refine Isb (Itb (Q:=λ r=>r=(x,c2)) e2 rfl) ?_
  dsimp only
  obtain⟨hsh,hsn⟩:=Ky s hs
  have wr:Tot (λ k=>(C4 k c2).bind λ r5=>(Bb k r5.1).bind λ r6=>(B5 k (d.1,d.2) s r6).bind λ r7=>Am k (i-1) r5.2.1 r5.2.2.1 r5.2.2.2 a0 a1 r7.1.1 r7.1.2) (λ r=>DG (r.2.2.1,r.2.2.2.1)∧Bj r.2.2.2.2):=by
   refine Ihb (No c2 k2) (λ f hf=>?_)
   refine Isb (Qp f.1) ?_
   refine Isb (Wt hd.1 hsn (by have:=Qn f.1;omega)) ?_
   exact ih (i-1) f.2 a0 a1 _ (by omega) (by omega) hf.2 (Fyb hd hsn (Of _))
  have sy:Tot (λ k=>(An k (d.1,d.2) s).bind λ r4=>Am k (i-1) c2.1 c2.2.1 c2.2.2 a0 a1 r4.1.1 r4.1.2) (λ r=>DG (r.2.2.1,r.2.2.2.1)∧Bj r.2.2.2.2):=by
   refine Isb (Rr hd.1 hsn) ?_
   exact ih (i-1) c2 a0 a1 _ (by omega) (by omega) k2 (Yba hd hsn)
  refine Imb (λ _=>?_) (λ _=>Imb (λ h=>Imb (λ _=>sy) (λ _=>wr)) (λ _=>Imb (λ _=>sy) (λ _=>wr)))
  refine Isb (Qq hd.1 hsh) ?_
  exact ih (i-1) c2 a0 a1 _ (by omega) (by omega) k2 (Pva hd)
def lb0:LB []:=λ x hx=>by cases hx
def dg0:DG ([],[]):=⟨by decide,⟨lb0,lb0⟩⟩
def Cxb (c:Cur) (hc:Bj c):Tot (λ k=>Dp k c) (λ r=>DG r.1∧Bj r.2):=by
 unfold Dp
 obtain⟨x,c2,e2,h0,h1,_,k2⟩:=Ad c hc 7 (by decide)
 have h1:=h1 (by decide)
 refine Isb (Itb (Q:=λ r=>r=(x,c2)) e2 rfl) ?_
 exact Ihb (Pwa x.toNat x c2 [] [] ([],[]) (by omega) (by omega) k2 dg0) (λ r hr=>Igb hr)
def Ajb {l:List Nmd} {x:Nmd} (h:LB l) (hx:Ai x.2):LB (l++[x]):=λ y hy=>by
 rcases Vo.1 hy with hy|hy
 ·exact h y hy
 ·rw[Vt.1 hy];exact hx
def Hza (n:Nat):Ai (List.replicate n 0):=λ x hx=>by
 rw[List.eq_of_mem_replicate hx]
 omega
def G1b (c:Cur) (hc:Bj c):Tot (λ k=>Ih k c) (λ r=>(DIn r.1∧DB r.1)∧Bj r.2):=by
 have h0:=Y4a c hc
 have h1:Tot (λ k=>Ih k c) (λ r=>DB r.1):=by
  unfold Ih
  refine Ihb (Cxb c hc) (λ d hd=>?_)
  obtain⟨hd,k0⟩:=hd
  have hin:=Nd hd.1
  have g1:=(Aj.1 (Df.1 hd.1).1).2.2
  have g2:=(Aj.1 (Df.1 hd.1).2).2.2
  obtain⟨x,c2,e2,_,_,_,k2⟩:=Ad d.2 k0 12 (by decide)
  refine Isb (Itb (Q:=λ r=>r=(x,c2)) e2 rfl) ?_
  refine Imb (λ _=>?_) (λ _=>Imb (λ _=>?_) (λ _=>Igb hd.2))
  ·obtain⟨s,c3,e3,hs,k3⟩:=My c2 k2
   refine Isb (Itb (Q:=λ r=>r=(s,c3)) e3 rfl) ?_
   exact Iob (by simp only[Vc,Vi];omega) (Igb ⟨Ajb hd.2.1 Nf,hd.2.2⟩)
  ·obtain⟨s,c3,e3,hs,k3⟩:=My c2 k2
   refine Isb (Itb (Q:=λ r=>r=(s,c3)) e3 rfl) ?_
   obtain⟨y,c4,e4,y0,y1,_,k4⟩:=Ad c3 k3 2 (by decide)
   have y1:=y1 (by decide)
   refine Isb (Itb (Q:=λ r=>r=(y,c4)) e4 rfl) ?_
   dsimp only
   rw[w64 (n:=400+y) (by omega) (by omega)]
   exact Ikb rfl (Ikb (by omega) (Ikb (by omega) (Iob (by simp only[Vc,Vi];omega) (Igb ⟨hd.2.1,Ajb hd.2.2 (Hza _)⟩))))
 exact(h0.and h1).mono λ r h=>⟨⟨h.1.1,h.2⟩,h.1.2⟩
def F1a (c:Cur) (hc:Bj c):∃ x c',It c=some (x,c')∧Bj c':=by
 obtain⟨s,c1,e1,hs,k1⟩:=Haa c hc
 obtain⟨x,c2,e2,_,_,_,k2⟩:=Ad c1 k1 10 (by decide)
 unfold It
 simp only[e1,e2,Vm]
 cases x==0 with
 |true=>
  obtain⟨y,c3,e3,_,k3⟩:=Jh c2 k2 [(-1),1000000001] (by decide) (by decide)
  exact⟨(y,s.2),c3,by simp only[e3,Vm,cond_true],k3⟩
 |false=>
  cases x==1 with
  |true=>
   obtain⟨y,c3,e3,_,k3⟩:=Jh c2 k2 [(-1),1000000,1000001] (by decide) (by decide)
   exact⟨(s.1,y,s.2.2),c3,by simp only[e3,Vm,cond_true,cond_false],k3⟩
  |false=>
   cases x==2 with
   |true=>
    obtain⟨y,c3,e3,_,k3⟩:=Jh c2 k2 [(-1),20,21] (by decide) (by decide)
    exact⟨(s.1,s.2.1,y),c3,by simp only[e3,Vm,cond_true,cond_false],k3⟩
   |false=>exact⟨s,c2,by simp only[cond_false],k2⟩
def I0a (c:Cur) (hc:Bj c):Tot (λ k=>Ko k c) (λ r=>(Ai r.1.2.2∧r.1.2.2.length≤2000000)∧Bj r.2):=by
 unfold Ko
 refine Ihb (No c hc) ?_
 rintro⟨f,c1⟩ ⟨hf,k1⟩
 have hl:f.2.2.length≤9:=by have:=hf.2.2.1;dsimp only at this;omega
 obtain⟨x,c2,e2,_,_,_,k2⟩:=Ad c1 k1 12 (by decide)
 refine Isb (Itb (Q:=λ r=>r=(x,c2)) e2 rfl) ?_
 refine Imb (λ _=>?_) (λ _=>Imb (λ _=>Igb ⟨⟨hf.2.1,by dsimp only;omega⟩,k2⟩) (λ _=>Imb (λ _=>?_) (λ _=>Igb ⟨⟨hf.2.1,by dsimp only;omega⟩,k2⟩)))
 ·obtain⟨y,c3,e3,k3⟩:=F1a c2 k2
  refine Isb (Itb (Q:=λ r=>r=(y,c3)) e3 rfl) ?_
  exact Igb ⟨⟨hf.2.1,by dsimp only;omega⟩,k3⟩
 ·obtain⟨y,c4,e4,y0,y1,_,k4⟩:=Ad c2 k2 2 (by decide)
  have y1:=y1 (by decide)
  refine Isb (Itb (Q:=λ r=>r=(y,c4)) e4 rfl) ?_
  dsimp only
  rw[w64 (n:=200+y) (by omega) (by omega)]
  exact Ikb rfl (Ikb (by omega) (Ikb (by omega) (Igb ⟨⟨Hza _,by dsimp only;rw[List.length_replicate];omega⟩,k4⟩)))

section
variable {d:Dsk} {s:ByteArray} {f:Fil} {sure:Bool}
def Yda (a:Stp):sle a a=false:=Jt a
def Uo (h1:Al d=true) (h2:As s=true) (h3:D9 f=true):keep d s f sure=Mh d s f sure:=by unfold keep;rw[h1,h2,h3];rfl
def I1a {x:Dsk} {c:Int}:(kp2 d s sure (x,c)=(d,3))∨(sure=false∧kp2 d s sure (x,c)=(x,c))∨(sure=true∧(sy x s).length≤60∧kp2 d s sure (x,c)=((x.1,sy x s),c)):=by
 unfold kp2 syD
 cases sure
 ·exact .inr (.inl ⟨rfl,rfl⟩)
 rw[cond_true]
 by_cases h:(sy x s).length≤60
 ·rw[decide_eq_true h]
  exact .inr (.inr ⟨rfl,h,rfl⟩)
 ·rw[decide_eq_false h]
  exact .inl rfl
def U8a (hd:DG d) (hs:As s=true):kp1 d s f=none∨(∃ o,old d s=some o∧sle o.1 f.1=false∧kp1 d s f=some (d,1))∨((∀ o,old d s=some o→sle o.1 f.1=true)∧(wr d.1 s (Kh f)).length≤60∧kp1 d s f=some ((wr d.1 s (Kh f),d.2),0)):=by
 have hl:(Kh f).length≤400:=by have:=Qn f;omega
 have w:(bif (wrD d s (Kh f)).2 then some ((wrD d s (Kh f)).1,(0:Int)) else none)=none∨((wr d.1 s (Kh f)).length≤60∧(bif (wrD d s (Kh f)).2 then some ((wrD d s (Kh f)).1,(0:Int)) else none)=some ((wr d.1 s (Kh f),d.2),0)):=by
  unfold wrD
  rw[decide_eq_true hl,Vw]
  by_cases h:(wr d.1 s (Kh f)).length≤60
  ·rw[decide_eq_true h];exact .inr ⟨h,rfl⟩
  ·rw[decide_eq_false h];exact .inl rfl
 unfold kp1
 cases ho:old d s with
 |none=>
  rcases w with h|⟨h1,h2⟩
  ·exact .inl h
  ·exact .inr (.inr ⟨λ o h=>(by cases h),h1,h2⟩)
 |some o=>
  simp only
  cases hc:sle o.1 f.1
  ·exact .inr (.inl ⟨o,rfl,hc,rfl⟩)
  rcases w with h|⟨h1,h2⟩
  ·exact .inl h
  ·exact .inr (.inr ⟨λ o' h=>(by cases h;exact hc),h1,h2⟩)
def Px (hd:DG d) (hs:As s=true):Mh d s f sure=(d,3)∨
  (∃ o,old d s=some o∧sle o.1 f.1=false∧(Mh d s f sure).2=1∧DG (Mh d s f sure).1∧((sure=false∧(Mh d s f sure).1=d)∨(sure=true∧(Mh d s f sure).1=(d.1,sy d s))))∨
  ((∀ o,old d s=some o→sle o.1 f.1=true)∧DG (wr d.1 s (Kh f),d.2)∧(Mh d s f sure).2=0∧DG (Mh d s f sure).1∧((sure=false∧(Mh d s f sure).1=(wr d.1 s (Kh f),d.2))∨(sure=true∧(Mh d s f sure).1=(wr d.1 s (Kh f),sy (wr d.1 s (Kh f),d.2) s)))):=by
 have hg:=U6a (f:=f) (sure:=sure) hd hs
 rcases U8a (f:=f) hd hs with h|⟨o,h1,h2,h⟩|⟨h1,h2,h⟩
 ·exact .inl (by unfold Mh;rw[h])
 ·have e:Mh d s f sure=kp2 d s sure (d,1):=by unfold Mh;rw[h]
  rcases I1a (d:=d) (s:=s) (sure:=sure) (x:=d) (c:=1) with k|⟨k0,k⟩|⟨k0,k1,k⟩
  ·exact .inl (e.trans k)
  ·rw[← e]at k
   exact .inr (.inl ⟨o,h1,h2,by rw[k],hg,.inl ⟨k0,by rw[k]⟩⟩)
  ·rw[← e]at k
   exact .inr (.inl ⟨o,h1,h2,by rw[k],hg,.inr ⟨k0,by rw[k]⟩⟩)
 ·have e:Mh d s f sure=kp2 d s sure ((wr d.1 s (Kh f),d.2),0):=by unfold Mh;rw[h]
  have hw:=Fzb hd hs h
  rcases I1a (d:=d) (s:=s) (sure:=sure) (x:=(wr d.1 s (Kh f),d.2)) (c:=0) with k|⟨k0,k⟩|⟨k0,k1,k⟩
  ·exact .inl (e.trans k)
  ·rw[← e]at k
   exact .inr (.inr ⟨h1,hw,by rw[k],hg,.inl ⟨k0,by rw[k]⟩⟩)
  ·rw[← e]at k
   exact .inr (.inr ⟨h1,hw,by rw[k],hg,.inr ⟨k0,by rw[k]⟩⟩)
def C6a {l:List Nmd} (hs:D5 l) {s t:ByteArray} {b:List Int}:gt (wr l s b) t=if s=t then some b else gt l t:=by
 unfold wr
 rw[Adb (x:=(s,b)) (Mg hs) Xc]
 by_cases h:s=t
 ·rw[if_pos h,if_pos h]
 ·rw[if_neg h,if_neg h,Sy hs,if_neg h]
def L0a (hd:Al d=true) {t:ByteArray}:gt (sy d s) t=if s=t then gt d.1 s else gt d.2 t:=by
 unfold sy
 cases h:gt d.1 s with
 |none=>rw[Sy (Oq hd)]
 |some b=>rw[C6a (Oq hd)]
def U9a (hd:DG d) (hs:As s=true) (hf:D9 f=true) (hb:Ai f.2.2) (h:(Mh d s f true).2=0∨(Mh d s f true).2=1):
  ∃ o g b,DG o∧DG (Mh d s f true).1∧(Mh d s f true).1=(o.1,sy o s)∧gt o.1 s=some b∧Mz b=some g∧sle g.1 f.1=false:=by
 rcases Px (f:=f) (sure:=true) hd hs with k|⟨o,h1,h2,k,hg,h3⟩|⟨h1,h2,k,hg,h3⟩
 ·rw[k]at h;rcases h with h|h<;>cases h
 ·rcases h3 with⟨h3,_⟩|⟨_,h3⟩
  ·cases h3
  ·have ho:(gt d.1 s).bind Mz=some o:=h1
   cases hg1:gt d.1 s with
   |none=>rw[hg1]at ho;cases ho
   |some b=>
    rw[hg1]at ho
    exact⟨d,o,b,hd,hg,h3,hg1,ho,h2⟩
 ·rcases h3 with⟨h3,_⟩|⟨_,h3⟩
  ·cases h3
  ·exact⟨(wr d.1 s (Kh f),d.2),f,Kh f,h2,hg,h3,by show gt (wr d.1 s (Kh f)) s=_;rw[C6a (Kk hd.1),if_pos rfl],Si hf hb,Yda _⟩
end

abbrev Nod:=Int×Dsk×List Row×List Row
def qOk (l:List Row):Bool:=l.all Na
def Ly (n:Nod):Bool:=qOk n.2.2.2&&(inR n.1 0 20&&(Al n.2.1&&(Jq n.2.2.1&&decide ((n.2.2.2.length:Int)≤60))))
def RF (l:List Row):Prop:=l.length≤2000000∧Qi l
def NIn (n:Nod):Prop:=(DIn n.2.1∧DB n.2.1)∧RF n.2.2.1∧RF n.2.2.2
def NG (n:Nod):Prop:=Ly n=true∧DB n.2.1
def Bp {n:Nod}:Ly n=true↔(∀ r∈n.2.2.2,Na r=true)∧(0≤n.1∧n.1≤20)∧Al n.2.1=true∧Jq n.2.2.1=true∧n.2.2.2.length≤60:=by
 unfold Ly qOk
 simp only[Va,Yr,Co,decide_eq_true_iff]
 constructor
 ·rintro⟨h1,h2,h3,h4,h5⟩;exact⟨h1,h2,h3,h4,by omega⟩
 ·rintro⟨h1,h2,h3,h4,h5⟩;exact⟨h1,h2,h3,h4,by omega⟩
def F2a {l:List Row} (h:Jq l=true):RF l:=by
 obtain⟨_,h2,h3⟩:=Lv.1 h
 exact⟨by omega,λ r hr=>Ij (D9a (h2 r hr))⟩
def Py {n:Nod} (h:NG n):NIn n:=by
 obtain⟨h1,_,h3,h4,h5⟩:=Bp.1 h.1
 exact⟨⟨Nd h3,h.2⟩,F2a h4,by omega,λ r hr=>Ij (D9a (h1 r hr))⟩
def NG.g {n:Nod} (h:NG n):DG n.2.1:=⟨(Bp.1 h.1).2.2.1,h.2⟩
def Yea (n:Nod) (hn:NIn n):Tot (λ k=>Ge k n) (λ r=>r=Ly n):=by
 obtain⟨i,⟨a,b⟩,ro,q⟩:=n
 obtain⟨⟨hd,_⟩,hr,hq⟩:=hn
 dsimp only at hd hr hq
 unfold Ge
 have hl:=hq.1
 refine Ihb (Q:=λ r=>r=bif qOk q then .inr (i,a,b,ro,q) else .inl false) ?_ ?_
 ·refine Ipb (L:=λ k i' (_:Unit)=>H6 k q (q.length:Int) i' i a b ro q) (Q:=λ r=>r=bif qOk q then .inr (i,a,b,ro,q) else .inl false) q.length (λ j _=>(q.drop j).all Na=q.all Na) ?_ ?_ 0 () (Vs _) (by rw[Ya])
  ·intro _ hj
   rw[Wh]at hj
   simp only[H6]
   exact Ilb (by omega) (Igb (by unfold qOk;rw[← hj];rfl))
  ·intro j _ hj hi next
   simp only[H6]
   rw[Au (d:=Mq) hj,J1b]at hi
   refine Ikb (by omega) (Ikb (by omega) (Ikb (by omega) ?_))
   rw[Vd,w64 (n:=(j:Int)+1) (by omega) (by omega)]
   refine Isb (Tca (q.getD j Mq) (hq.2 _ (A4 hj))) ?_
   cases hc:Na (q.getD j Mq) with
   |false=>exact Ijb rfl (Igb (by unfold qOk;rw[← hi,hc];rfl))
   |true=>exact Iib rfl (next () (by rw[hc,Vw]at hi;exact hi))
 ·rintro r rfl
  unfold Ly
  dsimp only
  cases qOk q
  ·exact Igb rfl
  simp only[cond_true,Jrb,Vw]
  refine Isb (Itb (Q:=λ r=>r=inR i 0 20) (Ue _ _ _) rfl) ?_
  cases inR i 0 20
  ·exact Iib rfl (Igb rfl)
  refine Ijb rfl (Isb (Uk (a,b) hd.1.1 hd.1.2) ?_)
  cases Al (a,b)
  ·exact Iib rfl (Igb rfl)
  refine Ijb rfl (Isb (Xua ro (by have:=hr.1;unfold Few;omega) hr.2) ?_)
  cases Jq ro with
  |false=>exact Iib rfl (Igb rfl)
  |true=>exact Ijb rfl (Igb rfl)
def Yz (n:Nod) (hn:NIn n):Tot (λ k=>C0 k n) (λ r=>r=Ly n):=by
 obtain⟨i,⟨a,b⟩,ro,q⟩:=n
 obtain⟨⟨hd,_⟩,hr,hq⟩:=hn
 dsimp only at hd hr hq
 unfold C0
 have hl:=hq.1
 refine Ihb (Q:=λ r=>r=bif qOk q then .inr (i,a,b,ro,q) else .inl false) ?_ ?_
 ·refine Ipb (L:=λ k i' (_:Unit)=>Gy k i' i a b ro q) (Q:=λ r=>r=bif qOk q then .inr (i,a,b,ro,q) else .inl false) q.length (λ j _=>(q.drop j).all Na=q.all Na) ?_ ?_ 0 () (Vs _) (by rw[Ya])
  ·intro _ hj
   rw[Wh]at hj
   simp only[Gy]
   exact Ilb (by omega) (Igb (by unfold qOk;rw[← hj];rfl))
  ·intro j _ hj hi next
   simp only[Gy]
   rw[Au (d:=Mq) hj,J1b]at hi
   refine Ikb (by omega) (Ikb (by omega) (Ikb (by omega) ?_))
   rw[Vd,w64 (n:=(j:Int)+1) (by omega) (by omega)]
   refine Isb (Tda (q.getD j Mq) (hq.2 _ (A4 hj))) ?_
   cases hc:Na (q.getD j Mq) with
   |false=>exact Ijb rfl (Igb (by unfold qOk;rw[← hi,hc];rfl))
   |true=>exact Iib rfl (next () (by rw[hc,Vw]at hi;exact hi))
 ·rintro r rfl
  unfold Ly
  dsimp only
  cases qOk q
  ·exact Igb rfl
  simp only[cond_true,Jrb,Vw]
  refine Isb (Itb (Q:=λ r=>r=inR i 0 20) (Nj _ _ _) rfl) ?_
  cases inR i 0 20
  ·exact Iib rfl (Igb rfl)
  refine Ijb rfl (Isb (Qk (a,b) hd.1.1 hd.1.2) ?_)
  cases Al (a,b)
  ·exact Iib rfl (Igb rfl)
  refine Ijb rfl (Isb (N3a ro (by have:=hr.1;unfold Few;omega) hr.2) ?_)
  cases Jq ro with
  |false=>exact Iib rfl (Igb rfl)
  |true=>exact Ijb rfl (Igb rfl)
def I2a (n:Nod) (hn:NIn n):Tot (λ k=>I6 k n) (λ r=>r=n):=by
 unfold I6
 have h1:=hn.2.1.1
 have h2:=hn.2.2.1
 refine Isb (Jr n.2.1 hn.1.1.1.1) ?_
 refine Isb (Itb (Q:=λ r=>r=n.2.2.1) (N0a _ (by unfold Few;omega)) rfl) ?_
 refine Isb (Itb (Q:=λ r=>r=n.2.2.2) (N0a _ (by unfold Few;omega)) rfl) ?_
 exact Igb rfl
def Ny (n:Nod) (hn:NIn n):Tot (λ k=>Bl k n) (λ r=>r=n):=by
 unfold Bl
 have h1:=hn.2.1.1
 have h2:=hn.2.2.1
 refine Isb (Lx n.2.1 hn.1.1.1.1) ?_
 refine Iob (by simp only[Vi];omega) (Iob (by simp only[Vi];omega) (Igb ?_))
 rw[Vz,Vz]
def Pxa (a b:List Row) (hf:a.length+b.length≤10000000000):Tot (λ k=>Bw k a b) (λ r=>r=O9 a b):=by
 unfold Bw
 refine Iob (by simp only[Vi];omega) ?_
 rw[Vz]
 refine Ihb (Q:=λ r=>r=O9 a b) ?_ (by rintro r rfl;exact Igb rfl)
 refine Ipb (L:=λ k i s=>Dm k b s i) (Q:=λ r=>r=O9 a b) b.length (λ i s=>O9 s (b.drop i)=O9 a b∧s.length≤a.length+i) ?_ ?_ 0 a (Vs _) ⟨by rw[Ya],Nat.le_add_right _ _⟩
 ·rintro s ⟨hs,_⟩
  rw[Wh]at hs
  simp only[Dm]
  exact Ilb (by omega) (Igb hs)
 ·rintro i s hi ⟨hs,hl⟩ next
  simp only[Dm]
  refine Ikb (by omega) (Ikb (by omega) (Ikb (by omega) ?_))
  rw[Vd,w64 (n:=(i:Int)+1) (by omega) (by omega)]
  rw[Au (d:=Mq) hi]at hs
  refine Isb (Hda s (b.getD i Mq) (by unfold Few;omega)) ?_
  have:=Kda s (b.getD i Mq)
  exact next _ ⟨hs,by omega⟩
def Pya (n:Nod) (l:List Row):Nod×Bool:=bif Ly n&&Jq l then (bif decide ((O9 n.2.2.1 l).length > 60) then (n,false) else ((n.1,n.2.1,O9 n.2.2.1 l,n.2.2.2),true)) else (n,false)
def B6a {a b:List Row} (ha:Jq a=true) (hb:Jq b=true) (h:(O9 a b).length≤60):Jq (O9 a b)=true:=by
 obtain⟨a1,a2,_⟩:=Lv.1 ha
 obtain⟨b1,b2,_⟩:=Lv.1 hb
 exact Lv.2 ⟨Np a1,λ r hr=>(Eqa hr).elim (a2 r) (b2 r),h⟩
def F3a {n:Nod} {l:List Row} (hn:NG n):NG (Pya n l).1:=by
 unfold Pya
 rw[hn.1,Vw]
 cases hl:Jq l
 ·exact hn
 rw[cond_true]
 cases hc:decide ((O9 n.2.2.1 l).length > 60)
 case true=>exact hn
 obtain⟨h1,h2,h3,h4,h5⟩:=Bp.1 hn.1
 exact⟨Bp.2 ⟨h1,h2,h3,B6a h4 hl (by have:=of_decide_eq_false hc;omega),h5⟩,hn.2⟩
def Dfa (n:Nod) (l:List Row) (h1:n.2.2.1.length≤2000000) (h2:l.length≤2000000):Tot (λ k=>Gv k n l) (λ r=>r=bif decide ((O9 n.2.2.1 l).length > 60) then (false,n) else (true,(n.1,n.2.1,O9 n.2.2.1 l,n.2.2.2))):=by
 unfold Gv Ho
 refine Ihb (Pxa n.2.2.1 l (by omega)) ?_
 rintro r rfl
 refine Inb (λ h=>?_) (λ h=>?_)
 ·rw[decide_eq_true (show (O9 n.2.2.1 l).length > 60 by omega)]
  exact Igb rfl
 ·rw[decide_eq_false (show ¬ (O9 n.2.2.1 l).length > 60 by omega)]
  exact Igb rfl
def Noa (n:Nod) (l:List Row) (hn:NIn n) (hl:RF l):Tot (λ k=>I3 k n l) (λ r=>r=Pya n l):=by
 have copy:Tot (λ k=>(Bl k n).bind λ r3=>some (r3,false)) (λ r=>r=(n,false)):=by
  refine Isb (Ny n hn) ?_
  exact Igb rfl
 unfold I3 Pya
 refine Isb (Ny n hn) ?_
 refine Isb (Yz n hn) ?_
 cases Ly n
 ·exact Ijb rfl copy
 refine Iib rfl (Isb (N3a l (by have:=hl.1;unfold Few;omega) hl.2) ?_)
 cases Jq l
 ·exact Ijb rfl copy
 refine Iib rfl (Isb (Dfa n l hn.2.1.1 hl.1) ?_)
 cases decide ((O9 n.2.2.1 l).length > 60) with
 |true=>exact Ijb rfl copy
 |false=>exact Iib rfl (Igb rfl)
def B7a (s:ByteArray) (f:Fil):Row:=(s,f.1,f.2.1,(f.2.2.length:Int))
def Wu (n:Nod) (s:ByteArray) (f:Fil) (sure:Bool):Nod×Int:=bif (n.2.2.2.length:Int)==60 then (n,3) else
 ((n.1,(keep n.2.1 s f sure).1,n.2.2.1,bif (keep n.2.1 s f sure).2==0&&sure then n.2.2.2++[B7a s f] else n.2.2.2),(keep n.2.1 s f sure).2)
def Ekb (n:Nod) (s:ByteArray) (f:Fil) (sure:Bool):Nod×Int:=bif Ly n&&(As s&&D9 f) then Wu n s f sure else (n,2)
def Yfa {s:ByteArray} {f:Fil} (hs:As s=true) (hf:D9 f=true):Na (B7a s f)=true:=by
 obtain⟨h1,h2,h3⟩:=Ju.1 hf
 unfold Na B7a
 dsimp only
 rw[hs,h1,Co.2 ⟨by omega,by omega⟩]
 cases hd:f.2.1 with
 |false=>rfl
 |true=>rw[h3 hd];rfl
def Npa {n:Nod} {s:ByteArray} {f:Fil} {sure:Bool} (hn:NG n) (hs:As s=true) (hf:D9 f=true):NG (Wu n s f sure).1:=by
 obtain⟨h1,h2,h3,h4,h5⟩:=Bp.1 hn.1
 have hk:=Aib (s:=s) (f:=f) (sure:=sure) hn.g
 unfold Wu
 cases hl:((n.2.2.2.length:Int)==60)
 case true=>exact hn
 have hl':n.2.2.2.length≠60:=by
  intro e
  rw[e]at hl
  cases hl
 refine⟨Bp.2 ⟨?_,h2,hk.1,h4,?_⟩,hk.2⟩
 ·show ∀ r∈bif (keep n.2.1 s f sure).2==0&&sure then n.2.2.2++[B7a s f] else n.2.2.2,Na r=true
  cases (keep n.2.1 s f sure).2==0&&sure
  ·exact h1
  intro r hr
  rcases Vo.1 hr with hr|hr
  ·exact h1 r hr
  ·rw[Vt.1 hr];exact Yfa hs hf
 ·show (bif (keep n.2.1 s f sure).2==0&&sure then n.2.2.2++[B7a s f] else n.2.2.2).length≤60
  cases (keep n.2.1 s f sure).2==0&&sure with
  |false=>exact h5
  |true=>rw[cond_true,Ve];simp only[Vc,Vi];omega
def Akb {n:Nod} {s:ByteArray} {f:Fil} {sure:Bool} (hn:NG n):NG (Ekb n s f sure).1:=by
 unfold Ekb
 cases hs:As s
 ·rw[hn.1];exact hn
 cases hf:D9 f with
 |false=>rw[hn.1];exact hn
 |true=>rw[hn.1];exact Npa hn hs hf
def I3a (n:Nod) (s:ByteArray) (f:Fil) (sure:Bool) (hn:NIn n) (hs:Kf s):Tot (λ k=>I0 k n s f sure) (λ r=>r=((Wu n s f sure).2,(Wu n s f sure).1)):=by
 have h1:=hn.2.2.1
 unfold I0 K5 Wu
 cases (n.2.2.2.length:Int)==60 with
 |true=>exact Ijb rfl (Igb rfl)
 |false=>
  refine Iib rfl (Ihb (Nma n.2.1 s f sure hn.1.1 hn.1.2.1 hs) ?_)
  rintro r rfl
  cases (keep n.2.1 s f sure).2==0 with
  |false=>exact Iib rfl (Igb rfl)
  |true=>
   refine Ijb rfl ?_
   cases sure with
   |false=>exact Iib rfl (Igb rfl)
   |true=>
    refine Ijb rfl (Iob (by simp only[Vi];omega) ?_)
    refine Ihb (Itb (Q:=λ r=>r=B7a s f) (show Ie s f=some (B7a s f) from rfl) rfl) ?_
    rintro r rfl
    refine Iob (by simp only[Ve,Vc,Vi];omega) (Igb ?_)
    rw[Vz]
    rfl
def B8a (n:Nod) (s:ByteArray) (f:Fil) (sure:Bool) (hn:NIn n) (hs:Kf s):Tot (λ k=>Ja k n s f sure) (λ r=>r=Ekb n s f sure):=by
 unfold Ja Ekb
 refine Isb (Ny n hn) ?_
 refine Isb (Yz n hn) ?_
 cases Ly n
 ·exact Ijb rfl (Igb rfl)
 refine Iib rfl (Isb (P6 s hs) ?_)
 cases As s
 ·exact Ijb rfl (Igb rfl)
 refine Iib rfl (Isb (Itb (Q:=λ r=>r=D9 f) (Ul f) rfl) ?_)
 cases D9 f
 ·exact Ijb rfl (Igb rfl)
 refine Iib rfl (Isb (I3a n s f sure hn hs) ?_)
 exact Igb rfl
def I4a (n:Nod) (s:ByteArray) (b:Int):Nod×Bool:=bif Ly n&&((lkD n.2.1 s).2==0&&(F0a n.2.1 s b).2) then ((n.1,(F0a n.2.1 s b).1,n.2.2),true) else (n,false)
def Nqa {n:Nod} {s:ByteArray} {b:Int} (hn:NG n):NG (I4a n s b).1:=by
 obtain⟨h1,h2,h3,h4,h5⟩:=Bp.1 hn.1
 have hr:=G0b (s:=s) (n:=b) hn.g
 unfold I4a
 cases Ly n&&((lkD n.2.1 s).2==0&&(F0a n.2.1 s b).2) with
 |false=>exact hn
 |true=>exact⟨Bp.2 ⟨h1,h2,hr.1,h4,h5⟩,hr.2⟩
def Th (n:Nod) (s:ByteArray) (b:Int) (hn:NIn n) (h1:b≤9223372036854775807) (h0 : -9223372036854775808≤b):Tot (λ k=>E4 k n s b) (λ r=>r=I4a n s b):=by
 unfold E4 I4a
 refine Isb (Ny n hn) ?_
 refine Isb (Yy hn.1.1.1.1.1 hn.1.2.1 s) ?_
 refine Isb (Yz n hn) ?_
 cases h:Ly n
 ·exact Ijb rfl (Igb rfl)
 refine Iib rfl ?_
 cases hl:(lkD n.2.1 s).2==0
 ·exact Ijb (by unfold bne;rw[hl];rfl) (Igb rfl)
 refine Iib (by unfold bne;rw[hl];rfl) (Isb (Cwb (NG.g ⟨h,hn.1.2⟩) h1 h0) ?_)
 cases (F0a n.2.1 s b).2 with
 |false=>exact Ijb rfl (Igb rfl)
 |true=>exact Iib rfl (Igb rfl)
def Pza:∀ (m:Nat) (i:Int) (c:Cur) (z:Nod) (n:Nod),i=m→m≤6→Bj c→NG n→
  Tot (λ k=>Cw k i c.1 c.2.1 c.2.2 z.1 z.2.1.1 z.2.1.2 z.2.2.1 z.2.2.2 n.1 n.2.1.1 n.2.1.2 n.2.2.1 n.2.2.2) (λ r=>∃ c' n',Bj c'∧NG n'∧r=(c'.1,c'.2.1,c'.2.2,z.1,z.2.1.1,z.2.1.2,z.2.2.1,z.2.2.2,n'.1,n'.2.1.1,n'.2.1.2,n'.2.2.1,n'.2.2.2)):=by
 intro m
 induction m with
 |zero=>
  intro i c z n hi h6 hc hn
  refine Tot.succ ?_
  simp only[Cw]
  exact Ilb (by omega) (Igb ⟨c,n,hc,hn,rfl⟩)
 |succ m ih=>
  intro i c z n hi h6 hc hn
  refine Tot.succ ?_
  simp only[Cw]
  refine Ikb (by omega) ?_
  rw[w64 (n:=i-1) (by omega) (by omega)]
  obtain⟨s,c1,e1,hs,k1⟩:=M5 c hc
  refine Isb (Itb (Q:=λ r=>r=(s,c1)) e1 rfl) ?_
  refine Ihb (No c1 k1) (λ f hf=>?_)
  obtain⟨b,c2,e2,k2⟩:=Ks f.2 hf.2 3 (by decide)
  refine Isb (Itb (Q:=λ r=>r=(b,c2)) e2 rfl) ?_
  refine Isb (B8a n s f.1 (!b) (Py hn) (Ky s hs).1) ?_
  exact ih (i-1) c2 z _ (by omega) (by omega) k2 (Akb hn)
def Ae:Nod:=((0:Int),(([]:List Nmd),([]:List Nmd)),([]:List Row),([]:List Row))
def Ti (i:Int):Gi i=some (bif inR i 0 20 then (i,([],[]),[],[]) else Ae):=by
 unfold Gi
 rw[Nj]
 simp only[Vm]
 cases inR i 0 20<;>rfl
def I5a {l:List Row} (h:N1a l) (hl:l.length≤60):Jq l=true:=Lv.2 ⟨h.1,λ r hr=>Xya (h.2 r hr),hl⟩
def Uaa (c:Cur) (hc:Bj c):Tot (λ k=>D7 k c) (λ r=>NG r.1∧Bj r.2):=by
 unfold D7
 obtain⟨x,c1,e1,x0,x1,_,k1⟩:=Ad c hc 6 (by decide)
 have x1:=x1 (by decide)
 refine Isb (Itb (Q:=λ r=>r=(x,c1)) e1 rfl) ?_
 refine Isb (Itb (Q:=λ r=>r=(x,([],[]),[],[])) (by rw[Ti,Co.2 ⟨by dsimp only;omega,by dsimp only;omega⟩];rfl) rfl) ?_
 obtain⟨y,c2,e2,y0,y1,_,k2⟩:=Ad c1 k1 6 (by decide)
 have y1:=y1 (by decide)
 refine Isb (Itb (Q:=λ r=>r=(y,c2)) e2 rfl) ?_
 have hn0:NG (x,(([]:List Nmd),([]:List Nmd)),([]:List Row),([]:List Row)):=⟨Bp.2 ⟨(by simp),⟨by dsimp only;omega,by dsimp only;omega⟩,(show Al ([],[])=true by decide),(show Jq []=true by decide),(by simp)⟩,λ x hx=>(by cases hx),λ x hx=>(by cases hx)⟩
 refine Ihb (Pza y.toNat y c2 Ae _ (by omega) (by omega) k2 hn0) ?_
 rintro r ⟨c3,n,k3,hn,rfl⟩
 have rot:∀ (n:Nod) (c:Cur),NG n→Bj c→Tot (λ k=>(B2 c).bind λ r9=>(A3 r9.2 40).bind λ r10=>(E4 k n r9.1 r10.1).bind λ r11=>some (r11.1,r10.2)) (λ r=>NG r.1∧Bj r.2):=by
  intro n c hn hc
  obtain⟨s,c1,e1,hs,k1⟩:=M5 c hc
  refine Isb (Itb (Q:=λ r=>r=(s,c1)) e1 rfl) ?_
  obtain⟨x,c2,e2,x0,x1,_,k2⟩:=Ad c1 k1 40 (by decide)
  have x1:=x1 (by decide)
  refine Isb (Itb (Q:=λ r=>r=(x,c2)) e2 rfl) ?_
  refine Isb (Th n s x (Py hn) (by omega) (by omega)) ?_
  exact Igb ⟨Nqa hn,k2⟩
 obtain⟨b,c4,e4,k4⟩:=Ks c3 k3 2 (by decide)
 refine Isb (Itb (Q:=λ r=>r=(b,c4)) e4 rfl) ?_
 refine Imb (λ _=>?_) (λ _=>?_)
 ·refine Ihb (Tb c4 k4) ?_
  rintro⟨l,c5⟩ ⟨k5,hl,hl5⟩
  refine Isb (Noa n l (Py hn) (F2a (I5a hl (by dsimp only at hl5;omega)))) ?_
  obtain⟨b,c6,e6,k6⟩:=Ks c5 k5 3 (by decide)
  refine Isb (Itb (Q:=λ r=>r=(b,c6)) e6 rfl) ?_
  exact Imb (λ _=>rot _ c6 (F3a hn) k6) (λ _=>Igb ⟨F3a hn,k6⟩)
 ·obtain⟨b,c6,e6,k6⟩:=Ks c4 k4 3 (by decide)
  refine Isb (Itb (Q:=λ r=>r=(b,c6)) e6 rfl) ?_
  exact Imb (λ _=>rot n c6 hn k6) (λ _=>Igb ⟨hn,k6⟩)
def Alb {l:List Row} {x:Row} (h:RF l) (hl:l.length≤999) (hx:Kf x.1):RF (l++[x]):=by
 refine⟨by simp only[Ve,Vc,Vi];omega,λ y hy=>?_⟩
 rcases Vo.1 hy with hy|hy
 ·exact h.2 y hy
 ·rw[Vt.1 hy];exact hx
def Dga (z n:Nod) (hs:Kf ((⟨#[97]⟩:ByteArray))):∀ (m:Nat) (c:Cur) (q:List Row),61-q.length≤m→Bj c→RF q→q.length≤61→
  Tot (λ k=>Ft k c.1 c.2.1 c.2.2 z.1 z.2.1.1 z.2.1.2 z.2.2.1 z.2.2.2 n.1 n.2.1.1 n.2.1.2 n.2.2.1 q) (λ r=>∃ c' q',Bj c'∧RF q'∧r=(z.1,z.2.1.1,z.2.1.2,z.2.2.1,z.2.2.2,n.1,n.2.1.1,n.2.1.2,n.2.2.1,q',c'.1,c'.2.1,c'.2.2)):=by
 intro m
 induction m with
 |zero=>
  intro c q hm hc hq hl
  refine Tot.succ ?_
  simp only[Ft]
  obtain⟨x,c1,e1,x0,x1,_,k1⟩:=Ad c hc 2 (by decide)
  have x1:=x1 (by decide)
  refine Isb (Itb (Q:=λ r=>r=(x,c1)) e1 rfl) ?_
  dsimp only
  rw[w64 (n:=60+x) (by omega) (by omega)]
  exact Ilb (by omega) (Igb ⟨c1,q,k1,hq,rfl⟩)
 |succ m ih=>
  intro c q hm hc hq hl
  refine Tot.succ ?_
  simp only[Ft]
  obtain⟨x,c1,e1,x0,x1,_,k1⟩:=Ad c hc 2 (by decide)
  have x1:=x1 (by decide)
  refine Isb (Itb (Q:=λ r=>r=(x,c1)) e1 rfl) ?_
  dsimp only
  rw[w64 (n:=60+x) (by omega) (by omega)]
  refine Inb (λ h=>Iob (by simp only[Vc,Vi];omega) ?_) (λ h=>Igb ⟨c1,q,k1,hq,rfl⟩)
  exact ih c1 _ (by simp only[Ve,Vc,Vi];omega) k1 (Alb hq (by omega) hs) (by simp only[Ve,Vc,Vi];omega)
def Uba (c:Cur) (hc:Bj c):Tot (λ k=>Eb k c) (λ r=>NIn r.1∧Bj r.2):=by
 unfold Eb
 refine Ihb (Uaa c hc) ?_
 rintro⟨n,c1⟩ ⟨hg,k1⟩
 have hn:=Py hg
 have hq60:=(Bp.1 hg.1).2.2.2.2
 obtain⟨x,c2,e2,_,_,_,k2⟩:=Ad c1 k1 12 (by decide)
 refine Isb (Itb (Q:=λ r=>r=(x,c2)) e2 rfl) ?_
 refine Imb (λ _=>?_) (λ _=>Imb (λ _=>?_) (λ _=>Imb (λ _=>?_) (λ _=>Imb (λ _=>?_) (λ _=>Imb (λ _=>?_) (λ _=>Igb ⟨hn,k2⟩)))))
 ·obtain⟨y,c3,e3,_,k3⟩:=Jh c2 k2 [(-1),20,21] (by decide) (by decide)
  refine Isb (Itb (Q:=λ r=>r=(y,c3)) e3 rfl) ?_
  exact Igb ⟨hn,k3⟩
 ·refine Ihb (G1b c2 k2) (λ r hr=>Igb ⟨⟨hr.1,hn.2⟩,hr.2⟩)
 ·refine Ihb (X9 c2 k2) (λ r hr=>Igb ⟨⟨hn.1,⟨by have:=hr.2.1;dsimp only;omega,hr.2.2⟩,hn.2.2⟩,hr.1⟩)
 ·obtain⟨s,c3,e3,hs,k3⟩:=My c2 k2
  refine Isb (Itb (Q:=λ r=>r=(s,c3)) e3 rfl) ?_
  exact Iob (by dsimp only at hq60 ⊢;simp only[List.length_cons,List.length_nil];omega) (Igb ⟨⟨hn.1,hn.2.1,Alb hn.2.2 (by dsimp only at hq60 ⊢;omega) hs⟩,k3⟩)
 ·refine Ihb (Dga Ae n (by unfold Kf;decide) 61 c2 n.2.2.2 (by omega) k2 hn.2.2 (by dsimp only at hq60;omega)) ?_
  rintro r ⟨c3,q,k3,hq,rfl⟩
  exact Igb ⟨⟨hn.1,hn.2.1,hq⟩,k3⟩

abbrev Dev:=Int×Int×Int
abbrev Rng:=Int×List (List Int)
def Nh:Dev:=((0:Int),((0:Int),(0:Int)))
def Lh (l:List Int) (n:Int):Bool:=l.any (· == n)
def Nw {l:List Int} {n:Int}:Lh l n=true↔n∈l:=by
 unfold Lh
 rw[Jeb]
 constructor
 ·rintro⟨x,hx,e⟩;rw[← eq_of_beq e];exact hx
 ·intro h;exact⟨n,h,beq_self_eq_true n⟩
def Cyb (l:List Int) (n:Int) (hl:l.length≤4000000000000000):Tot (λ k=>Jj k l n) (λ r=>r=Lh l n):=by
 unfold Jj
 refine Ihb (Q:=λ r=>r=bif Lh l n then .inl true else .inr ()) ?_ (by rintro r rfl;cases Lh l n<;>exact Igb rfl)
 refine Ipb (L:=λ k i (_:Unit)=>H3 k n l (l.length:Int) i) (Q:=λ r=>r=bif Lh l n then .inl true else .inr ()) l.length (λ j _=>Lh (l.drop j) n=Lh l n) ?_ ?_ 0 () (Vs _) rfl
 ·intro _ h
  rw[Wh]at h
  simp (disch:=omega) only [H3,dF,← h]
  exact Igb rfl
 ·intro j _ hj h next
  rw[Au (d:=0) hj]at h
  simp (disch:=omega) only [H3,dT,Vd,w64]
  unfold Lh at h
  rw[Jsb]at h
  refine Imb (λ hc=>Igb ?_) (λ hc=>next () ?_)
  ·rw[hc,Lvb]at h
   unfold Lh
   rw[← h]
   rfl
  ·rw[hc,Jhb]at h
   exact h
def Tj (l:List Int) (n:Int) (hl:l.length≤4000000000000000):Tot (λ k=>Cj k l n) (λ r=>r=Lh l n):=by
 unfold Cj
 refine Ihb (Q:=λ r=>r=bif Lh l n then .inl true else .inr ()) ?_ (by rintro r rfl;cases Lh l n<;>exact Igb rfl)
 refine Ipb (L:=λ k i (_:Unit)=>Hv k l n i) (Q:=λ r=>r=bif Lh l n then .inl true else .inr ()) l.length (λ j _=>Lh (l.drop j) n=Lh l n) ?_ ?_ 0 () (Vs _) rfl
 ·intro _ h
  rw[Wh]at h
  simp (disch:=omega) only [Hv,dF,← h]
  exact Igb rfl
 ·intro j _ hj h next
  rw[Au (d:=0) hj]at h
  simp (disch:=omega) only [Hv,dT,Vd,w64]
  unfold Lh at h
  rw[Jsb]at h
  refine Imb (λ hc=>Igb ?_) (λ hc=>next () ?_)
  ·rw[hc,Lvb]at h
   unfold Lh
   rw[← h]
   rfl
  ·rw[hc,Jhb]at h
   exact h
def Jv (l:List Dev) (id:Int):Option Dev:=l.find? (λ d=>d.1==id)
def Hqb:Option Dev→Dev×Bool
 |some d=>(d,true)
 |none=>(Nh,false)
def Wv {l:List Dev} {id:Int} {d:Dev} (h:Jv l id=some d):d∈l∧d.1=id:=⟨Lgb h,eq_of_beq (List.find?_some (p:=λ d:Dev=>d.1==id) h)⟩
def Uca (l:List Dev) (id:Int) (hl:l.length≤1000000000):Tot (λ k=>Kq k l id) (λ r=>r=Hqb (Jv l id)):=by
 unfold Kq
 refine Ihb (Q:=λ r=>r=match Jv l id with|some d => .inl (true,d)|none => .inr (0,0,0)) ?_ (by rintro r rfl;cases Jv l id<;>exact Igb rfl)
 refine Ipb (L:=λ k i (_:Unit)=>I9 k id l (l.length:Int) i (0,0,0)) (Q:=λ r=>r=match Jv l id with|some d => .inl (true,d)|none => .inr (0,0,0)) l.length (λ j _=>Jv (l.drop j) id=Jv l id) ?_ ?_ 0 () (Vs _) rfl
 ·intro _ h
  rw[Wh]at h
  simp (disch:=omega) only [I9,dF,← h]
  exact Igb rfl
 ·intro j _ hj h next
  rw[Au (d:=Nh) hj]at h
  unfold Jv at h
  rw[Jmb]at h
  simp (disch:=omega) only [I9,dT,Vd,w64]
  refine Imb (λ hc=>Igb ?_) (λ hc=>next () ?_)
  ·rw[show ((l.getD j Nh).1==id)=true from hc]at h
   unfold Jv
   rw[← h]
   rfl
  ·rw[show ((l.getD j Nh).1==id)=false from hc]at h
   exact h
def Rs (l:List Dev) (id:Int) (hl:l.length≤1000000000):Tot (λ k=>E7 k l id) (λ r=>r=Hqb (Jv l id)):=by
 unfold E7
 refine Ihb (Q:=λ r=>r=match Jv l id with|some d => .inl (true,d)|none => .inr (0,0,0)) ?_ (by rintro r rfl;cases Jv l id<;>exact Igb rfl)
 refine Ipb (L:=λ k i (_:Unit)=>Hw k l id i (0,0,0)) (Q:=λ r=>r=match Jv l id with|some d => .inl (true,d)|none => .inr (0,0,0)) l.length (λ j _=>Jv (l.drop j) id=Jv l id) ?_ ?_ 0 () (Vs _) rfl
 ·intro _ h
  rw[Wh]at h
  simp (disch:=omega) only [Hw,dF,← h]
  exact Igb rfl
 ·intro j _ hj h next
  rw[Au (d:=Nh) hj]at h
  unfold Jv at h
  rw[Jmb]at h
  simp (disch:=omega) only [Hw,dT,Vd,w64]
  refine Imb (λ hc=>Igb ?_) (λ hc=>next () ?_)
  ·rw[show ((l.getD j Nh).1==id)=true from hc]at h
   unfold Jv
   rw[← h]
   rfl
  ·rw[show ((l.getD j Nh).1==id)=false from hc]at h
   exact h
def B9a (d:Dev):Bool:=inR d.1 0 20&&(inR d.2.1 0 20&&inR d.2.2 1 1000)
def Xu:Option Int→List Dev→Bool
 |_,[]=>true
 |none,d::l=>B9a d&&Xu (some d.1) l
 |some q,d::l=>B9a d&&(decide (q<d.1)&&Xu (some d.1) l)
def Lt (l:List Dev):Bool:=Xu none l&&inR (l.length:Int) 1 12
def I6a (l:List Dev):Nat→Option Int
 |0=>none
 |i+1=>some (l.getD i Nh).1
def F4a:∀ (p:Option Int) (l:List Dev),Xu p l=true↔l.Pairwise (λ a b=>a.1<b.1)∧(∀ d∈l,B9a d=true)∧(∀ q,p=some q→∀ d∈l,q<d.1)
 |p,[]=>by cases p<;>simp[Xu]
 |none,d::l=>by
  simp only[Xu,Va,F4a (some d.1) l,Wg,Vl,forall_eq_or_imp,Vg]
  constructor
  ·rintro⟨h1,h2,h3,h4⟩;exact⟨⟨h4 _ rfl,h2⟩,⟨h1,h3⟩,λ q h=>by cases h⟩
  ·rintro⟨⟨h1,h2⟩,⟨h3,h4⟩,_⟩;exact⟨h3,h2,h4,λ q e=>by subst e;exact h1⟩
 |some q,d::l=>by
  simp only[Xu,Va,decide_eq_true_iff,F4a (some d.1) l,Wg,Vl,forall_eq_or_imp,Vg]
  constructor
  ·rintro⟨h1,hq,h2,h3,h4⟩
   exact⟨⟨h4 _ rfl,h2⟩,⟨h1,h3⟩,λ q' e=>by subst e;exact⟨hq,λ x hx=>by have:=h4 _ rfl x hx;omega⟩⟩
  ·rintro⟨⟨h1,h2⟩,⟨h3,h4⟩,h5⟩
   exact⟨h3,(h5 q rfl).1,h2,h4,λ q e=>by subst e;exact h1⟩
def Fc {l:List Dev}:Lt l=true↔l.Pairwise (λ a b=>a.1<b.1)∧(∀ d∈l,B9a d=true)∧1≤l.length∧l.length≤12:=by
 unfold Lt
 rw[Va,F4a,Co]
 constructor
 ·rintro⟨⟨h1,h2,_⟩,h3,h4⟩;exact⟨h1,h2,by omega,by omega⟩
 ·rintro⟨h1,h2,h3,h4⟩;exact⟨⟨h1,h2,λ q h=>by cases h⟩,by omega,by omega⟩
def Nz {d:Dev}:B9a d=true↔(0≤d.1∧d.1≤20)∧(0≤d.2.1∧d.2.1≤20)∧1≤d.2.2∧d.2.2≤1000:=by
 unfold B9a
 rw[Va,Va,Co,Co,Co]
def I7a {l:List Dev} {j:Nat} (hj:j<l.length):Xu (I6a l j) (l.drop j)=(B9a (l.getD j Nh)&&((bif decide (0<j) then decide ((l.getD (j-1) Nh).1<(l.getD j Nh).1) else true)&&Xu (I6a l (j+1)) (l.drop (j+1)))):=by
 rw[Au (d:=Nh) hj]
 cases j with
 |zero=>simp[I6a,Xu]
 |succ j=>simp[I6a,Xu]
def Yga (l:List Dev) (hl:l.length≤1000000000):Tot (λ k=>Gc k l) (λ r=>r=Lt l):=by
 unfold Gc Lt
 refine Ihb (Q:=λ r=>r=bif Xu none l then .inr l else .inl false) ?_ ?_
 ·refine Ipb (L:=λ k i (_:Unit)=>G5 k l l (l.length:Int) i) (Q:=λ r=>r=bif Xu none l then .inr l else .inl false) l.length (λ j _=>Xu (I6a l j) (l.drop j)=Xu none l) ?_ ?_ 0 () (Vs _) rfl
  ·intro _ h
   rw[Wh]at h
   have:Xu none l=true:=by rw[← h];cases I6a l l.length<;>rfl
   simp (disch:=omega) only [G5,dF,this]
   exact Igb rfl
  ·intro j _ hj h next
   rw[I7a hj]at h
   simp (disch:=omega) only [G5,dT,Vd,w64,Ue,Vm]
   have e0:l.getD j ((0:Int),((0:Int),(0:Int)))=l.getD j Nh:=rfl
   rw[e0]
   have no:B9a (l.getD j Nh)=false→Xu none l=false:=λ c=>by rw[← h,c];rfl
   unfold B9a at no h
   refine Imb (λ hc=>Igb ?_) (λ h1=>Imb (λ hc=>Igb ?_) (λ h2=>Imb (λ hc=>Igb ?_) (λ h3=>?_)))
   ·rw[no (by rw[Vx]at hc;rw[hc];rfl)];rfl
   ·rw[no (by rw[Vx]at hc;rw[hc,Ys,Wm])];rfl
   ·rw[no (by rw[Vx]at hc;rw[hc,Wm,Wm])];rfl
   ·rw[Wj]at h1 h2 h3
    rw[h1,h2,h3]at h
    refine Inb (λ h0=>?_) (λ h0=>next () ?_)
    ·simp (disch:=omega) only [dT,w64,show toNat ((j:Int)-1)=j-1 by omega]
     rw[decide_eq_true (show 0<j by omega)]at h
     refine Inb (λ hc=>Igb ?_) (λ hc=>next () ?_)
     ·have hc':¬ ((l.getD (j-1) Nh).1<(l.getD j Nh).1):=by
       have:(l.getD (j-1) Nh).1≥(l.getD j Nh).1:=hc
       omega
      rw[decide_eq_false hc']at h
      rw[← h];rfl
     ·have hc':(l.getD (j-1) Nh).1<(l.getD j Nh).1:=by
       have:¬ ((l.getD (j-1) Nh).1≥(l.getD j Nh).1):=hc
       omega
      rw[decide_eq_true hc']at h
      exact h
    ·rw[decide_eq_false (show ¬ 0<j by omega)]at h
     exact h
 ·rintro r rfl
  cases Xu none l
  ·exact Igb rfl
  simp only[cond_true,Jrb,Ue,Vm]
  exact Igb rfl
def Z0 (l:List Dev) (hl:l.length≤1000000000):Tot (λ k=>Bx k l) (λ r=>r=Lt l):=by
 unfold Bx Lt
 refine Ihb (Q:=λ r=>r=bif Xu none l then .inr l else .inl false) ?_ ?_
 ·refine Ipb (L:=λ k i (_:Unit)=>Fy k l i) (Q:=λ r=>r=bif Xu none l then .inr l else .inl false) l.length (λ j _=>Xu (I6a l j) (l.drop j)=Xu none l) ?_ ?_ 0 () (Vs _) rfl
  ·intro _ h
   rw[Wh]at h
   have:Xu none l=true:=by rw[← h];cases I6a l l.length<;>rfl
   simp (disch:=omega) only [Fy,dF,this]
   exact Igb rfl
  ·intro j _ hj h next
   rw[I7a hj]at h
   simp (disch:=omega) only [Fy,dT,Vd,w64,Nj,Vm]
   have e0:l.getD j ((0:Int),((0:Int),(0:Int)))=l.getD j Nh:=rfl
   rw[e0]
   have no:B9a (l.getD j Nh)=false→Xu none l=false:=λ c=>by rw[← h,c];rfl
   unfold B9a at no h
   refine Imb (λ hc=>Igb ?_) (λ h1=>Imb (λ hc=>Igb ?_) (λ h2=>Imb (λ hc=>Igb ?_) (λ h3=>?_)))
   ·rw[no (by rw[Vx]at hc;rw[hc];rfl)];rfl
   ·rw[no (by rw[Vx]at hc;rw[hc,Ys,Wm])];rfl
   ·rw[no (by rw[Vx]at hc;rw[hc,Wm,Wm])];rfl
   ·rw[Wj]at h1 h2 h3
    rw[h1,h2,h3]at h
    refine Inb (λ h0=>?_) (λ h0=>next () ?_)
    ·simp (disch:=omega) only [dT,w64,show toNat ((j:Int)-1)=j-1 by omega]
     rw[decide_eq_true (show 0<j by omega)]at h
     refine Inb (λ hc=>Igb ?_) (λ hc=>next () ?_)
     ·have hc':¬ ((l.getD (j-1) Nh).1<(l.getD j Nh).1):=by
       have:(l.getD (j-1) Nh).1≥(l.getD j Nh).1:=hc
       omega
      rw[decide_eq_false hc']at h
      rw[← h];rfl
     ·have hc':(l.getD (j-1) Nh).1<(l.getD j Nh).1:=by
       have:¬ ((l.getD (j-1) Nh).1≥(l.getD j Nh).1):=hc
       omega
      rw[decide_eq_true hc']at h
      exact h
    ·rw[decide_eq_false (show ¬ 0<j by omega)]at h
     exact h
 ·rintro r rfl
  cases Xu none l
  ·exact Igb rfl
  simp only[cond_true,Jrb,Nj,Vm]
  exact Igb rfl
def L1a (l:List Dev) (out:List Int) (id:Int):List Int:=match Jv l id with
 |some d=>bif Lh out d.2.1 then out else out++[d.2.1]
 |none=>out
def Kg (ids:List Int) (l:List Dev):List Int:=ids.foldl (L1a l) []
def I8a (l:List Dev) (out:List Int) (id:Int):(L1a l out id).length≤out.length+1:=by
 unfold L1a
 cases Jv l id with
 |none=>exact J7b _
 |some d=>
  simp only
  cases Lh out d.2.1 with
  |true=>exact J7b _
  |false=>rw[cond_false,Ve];exact Vv _
def I9a (l:List Dev):∀ (ids out:List Int),(ids.foldl (L1a l) out).length≤out.length+ids.length
 |[],out=>by simp
 |id::ids,out=>by
  have h1:=I9a l ids (L1a l out id)
  have h2:=I8a l out id
  rw[Zc,Vc]
  omega
def Iaa (ids:List Int) (l:List Dev) (hi:ids.length≤5000000) (hl:l.length≤5000000):Tot (λ k=>Ct k ids l) (λ r=>r=Kg ids l):=by
 unfold Ct
 refine Ihb (Q:=λ r=>r=Kg ids l) ?_ (by rintro r rfl;exact Igb rfl)
 refine Ipb (L:=λ k i s=>Dh k ids l s i) (Q:=λ r=>r=Kg ids l) ids.length (λ j s=>(ids.drop j).foldl (L1a l) s=Kg ids l∧s.length≤j) ?_ ?_ 0 [] (Vs _) ⟨rfl,Vv _⟩
 ·rintro s ⟨h,_⟩
  rw[Wh]at h
  simp (disch:=omega) only [Dh,dF]
  exact Igb h
 ·rintro j s hj ⟨h,hs⟩ next
  rw[Au (d:=0) hj,Zc]at h
  simp (disch:=omega) only [Dh,dT,Vd,w64]
  have hz:=I8a l s (ids.getD j 0)
  refine Isb (Rs l (ids.getD j 0) (by omega)) ?_
  unfold L1a at h hz
  cases hd:Jv l (ids.getD j 0) with
  |none=>
   rw[hd]at h
   exact Iib rfl (next _ ⟨h,by omega⟩)
  |some d=>
   rw[hd]at h hz
   refine Ijb rfl (Isb (Tj s d.2.1 (by omega)) ?_)
   simp only at h hz
   cases hh:Lh s d.2.1 with
   |true=>
    rw[hh]at h
    exact Iib rfl (next _ ⟨h,by omega⟩)
   |false=>
    rw[hh]at h hz
    exact Ijb rfl (Iob (by simp only[Vc,Vi];omega) (next _ ⟨h,by rw[cond_false]at hz;exact Zv hz (by omega)⟩))

def Rt {l:List Int} {j:Nat} (hj:j<l.length) (h:(l.take j).Nodup) (hn:l.getD j 0∉l.take j):(l.take (j+1)).Nodup:=by
 rw[Wi hj,Yp]
 rw[Vb,Vk hj,Yv]at hn
 exact⟨h,by simp,λ a ha b hb e=>by rw[Vt.1 hb]at e;subst e;exact hn ha⟩
def Iba {l:List Int} {j:Nat} (hj:j<l.length) (hn:l.getD j 0∈l.take j):¬ l.Nodup:=by
 intro h
 have h1:(l.take (j+1)).Nodup:=h.sublist (Llb _ _)
 rw[Wi hj,Yp]at h1
 rw[Vb,Vk hj,Yv]at hn
 exact h1.2.2 _ hn _ (by simp) rfl
def Uda (l:List Int) (hl:l.length≤5000000):Tot (λ k=>Ii k l) (λ r=>r=decide l.Nodup):=by
 unfold Ii
 refine Ihb (Q:=λ r=>r=bif decide l.Nodup then .inr () else .inl false) ?_ (by rintro r rfl;cases decide l.Nodup<;>exact Igb rfl)
 refine Ipb (L:=λ k i (_:Unit)=>I8 k l l (l.length:Int) i) (Q:=λ r=>r=bif decide l.Nodup then .inr () else .inl false) l.length (λ j _=>(l.take j).Nodup) ?_ ?_ 0 () (Vs _) (by simp)
 ·intro _ h
  rw[Yi]at h
  simp (disch:=omega) only [I8,dF,decide_eq_true h]
  exact Igb rfl
 ·intro j _ hj h next
  simp (disch:=omega) only [I8,dT,Vd,w64]
  refine Isb (Cyb (l.take j) (l.getD j 0) (by rw[Vu];omega)) ?_
  refine Imb (λ hc=>Igb ?_) (λ hc=>next () (Rt hj h (λ c=>by rw[Nw.2 c]at hc;cases hc)))
  rw[decide_eq_false (Iba hj (Nw.1 hc))]
  rfl
def Nra (l:List Int) (n:Int) (hl:l.length≤5000000):Tot (λ k=>Ea k l n) (λ r=>r=(decide l.Nodup&&((l.length:Int)==n))):=by
 unfold Ea
 refine Ihb (Q:=λ r=>r=bif decide l.Nodup then .inr (n,l) else .inl false) ?_ (by rintro r rfl;cases decide l.Nodup<;>exact Igb rfl)
 refine Ipb (L:=λ k i (_:Unit)=>H0 k n i l) (Q:=λ r=>r=bif decide l.Nodup then .inr (n,l) else .inl false) l.length (λ j _=>(l.take j).Nodup) ?_ ?_ 0 () (Vs _) (by simp)
 ·intro _ h
  rw[Yi]at h
  simp (disch:=omega) only [H0,dF,decide_eq_true h]
  exact Igb rfl
 ·intro j _ hj h next
  simp (disch:=omega) only [H0,dT,Vd,w64]
  refine Isb (Tj (l.take j) (l.getD j 0) (by rw[Vu];omega)) ?_
  refine Imb (λ hc=>Igb ?_) (λ hc=>next () (Rt hj h (λ c=>by rw[Nw.2 c]at hc;cases hc)))
  rw[decide_eq_false (Iba hj (Nw.1 hc))]
  rfl
def RBd (r:Rng):Prop:=r.2.length≤2000000∧∀ p∈r.2,p.length≤2000000
def M7 (l:List Dev) (n:Int) (p:List Int):Bool:=(decide p.Nodup&&((p.length:Int)==n))&&p.all λ id=>(Jv l id).isSome
def Il (r:Rng) (l:List Dev):Bool:=Lt l&&(inR r.1 1 5&&(inR (r.2.length:Int) 1 64&&r.2.all (M7 l r.1)))
def Cb {r:Rng} {l:List Dev}:Il r l=true↔Lt l=true∧(1≤r.1∧r.1≤5)∧(1≤r.2.length∧r.2.length≤64)∧∀ p∈r.2,p.Nodup∧(p.length:Int)=r.1∧∀ id∈p,∃ d,Jv l id=some d:=by
 unfold Il M7
 simp only[Va,Co,Yr,decide_eq_true_iff,beq_iff_eq,Zi]
 constructor
 ·rintro⟨h1,h2,⟨h3,h4⟩,h5⟩;exact⟨h1,h2,⟨by omega,by omega⟩,λ p hp=>⟨(h5 p hp).1.1,(h5 p hp).1.2,(h5 p hp).2⟩⟩
 ·rintro⟨h1,h2,⟨h3,h4⟩,h5⟩;exact⟨h1,h2,⟨by omega,by omega⟩,λ p hp=>⟨⟨(h5 p hp).1,(h5 p hp).2.1⟩,(h5 p hp).2.2⟩⟩
def Mn {r:Rng} {l:List Dev} (h:Il r l=true):RBd r:=by
 obtain⟨_,h2,h3,h4⟩:=Cb.1 h
 exact⟨by omega,λ p hp=>by have:=(h4 p hp).2.1;omega⟩
def Yha (r:Rng) (l:List Dev) (hr:RBd r) (hl:l.length≤5000000):Tot (λ k=>F4 k r l) (λ b=>b=Il r l):=by
 unfold F4 Il
 refine Isb (Yga l (by omega)) ?_
 cases hd:Lt l
 ·exact Ijb rfl (Igb rfl)
 have hrl:=hr.1
 simp only[Yq,cond_false,Ue,Vm,Vw]
 cases inR r.1 1 5
 ·exact Ijb rfl (Igb rfl)
 refine Iib rfl ?_
 cases inR (r.2.length:Int) 1 64
 ·exact Ijb rfl (Igb rfl)
 refine Iib rfl (Ihb (Q:=λ b=>b=bif r.2.all (M7 l r.1) then .inr () else .inl false) ?_ (by rintro r' rfl;cases r.2.all (M7 l r.1)<;>exact Igb rfl))
 refine Ipb (L:=λ k i (_:Unit)=>H5 k l r.2 (r.2.length:Int) i r) (Q:=λ b=>b=bif r.2.all (M7 l r.1) then .inr () else .inl false) r.2.length (λ j _=>(r.2.drop j).all (M7 l r.1)=r.2.all (M7 l r.1)) ?_ ?_ 0 () (Vs _) rfl
 ·intro _ h
  rw[Wh]at h
  simp (disch:=omega) only [H5,dF,← h]
  exact Igb rfl
 ·intro j _ hj h next
  rw[Au (d:=[]) hj,J1b]at h
  have hp:=hr.2 _ (A4 (d:=[]) hj)
  simp (disch:=omega) only [H5,dT,Vd,w64]
  have no:M7 l r.1 (r.2.getD j [])=false→r.2.all (M7 l r.1)=false:=λ c=>by rw[← h,c];rfl
  unfold M7 at no h
  refine Imb (λ hc=>Igb ?_) (λ h1=>Ihb (Uda (r.2.getD j []) (by omega)) ?_)
  ·have hc':(((r.2.getD j []).length:Int)==r.1)=false:=by simpa using hc
   rw[show r.2.all (M7 l r.1)=false from no (by rw[hc',Wm,Ys])]
   rfl
  ·have h1':(((r.2.getD j []).length:Int)==r.1)=true:=by simpa using h1
   rintro b rfl
   refine Imb (λ hc=>Igb ?_) (λ h2=>?_)
   ·rw[show r.2.all (M7 l r.1)=false from no (by rw[Vx]at hc;rw[hc];rfl)]
    rfl
   ·rw[Wj]at h2
    generalize r.2.getD j []=p at *
    refine Ihb (Q:=λ b=>b=bif p.all (λ id=>(Jv l id).isSome) then .inr (l,r.2,(r.2.length:Int),(j:Int),r) else .inl false) ?_ ?_
    ·refine Ipb (L:=λ k i (_:Unit)=>H4 k l r.2 (r.2.length:Int) (j:Int) p (p.length:Int) i r) (Q:=λ b=>b=bif p.all (λ id=>(Jv l id).isSome) then .inr (l,r.2,(r.2.length:Int),(j:Int),r) else .inl false) p.length (λ m _=>(p.drop m).all (λ id=>(Jv l id).isSome)=p.all (λ id=>(Jv l id).isSome)) ?_ ?_ 0 () (Vs _) rfl
     ·intro _ h
      rw[Wh]at h
      simp (disch:=omega) only [H4,dF,← h]
      exact Igb rfl
     ·intro m _ hm h next
      rw[Au (d:=0) hm,J1b]at h
      simp (disch:=omega) only [H4,dT,Vd,w64]
      refine Isb (Uca l (p.getD m 0) (by omega)) ?_
      cases hd:Jv l (p.getD m 0) with
      |none=>exact Ijb rfl (Igb (by rw[← h,hd];rfl))
      |some d=>exact Iib rfl (next () (by rw[hd]at h;exact h))
    ·rintro b rfl
     cases hc:p.all (λ id=>(Jv l id).isSome)
     ·exact Igb (by rw[show r.2.all (M7 l r.1)=false from no (by rw[hc,Wm])];rfl)
     simp (disch:=omega) only [cond_true,Jrb,w64]
     exact next () (by rw[h2,h1',hc]at h;exact h)
def Yia (r:Rng) (l:List Dev) (hr:RBd r) (hl:l.length≤5000000):Tot (λ k=>F5 k r l) (λ b=>b=Il r l):=by
 unfold F5 Il
 refine Isb (Z0 l (by omega)) ?_
 cases hd:Lt l
 ·exact Ijb rfl (Igb rfl)
 have hrl:=hr.1
 simp only[Yq,cond_false,Nj,Vm,Vw]
 cases inR r.1 1 5
 ·exact Ijb rfl (Igb rfl)
 refine Iib rfl ?_
 cases inR (r.2.length:Int) 1 64
 ·exact Ijb rfl (Igb rfl)
 refine Iib rfl (Ihb (Q:=λ b=>b=bif r.2.all (M7 l r.1) then .inr () else .inl false) ?_ (by rintro r' rfl;cases r.2.all (M7 l r.1)<;>exact Igb rfl))
 refine Ipb (L:=λ k i (_:Unit)=>H8 k l i r) (Q:=λ b=>b=bif r.2.all (M7 l r.1) then .inr () else .inl false) r.2.length (λ j _=>(r.2.drop j).all (M7 l r.1)=r.2.all (M7 l r.1)) ?_ ?_ 0 () (Vs _) rfl
 ·intro _ h
  rw[Wh]at h
  simp (disch:=omega) only [H8,dF,← h]
  exact Igb rfl
 ·intro j _ hj h next
  rw[Au (d:=[]) hj,J1b]at h
  have hp:=hr.2 _ (A4 (d:=[]) hj)
  simp (disch:=omega) only [H8,dT,Vd,w64]
  have no:M7 l r.1 (r.2.getD j [])=false→r.2.all (M7 l r.1)=false:=λ c=>by rw[← h,c];rfl
  unfold M7 at no h
  refine Isb (Nra (r.2.getD j []) r.1 (by omega)) ?_
  refine Imb (λ hc=>Igb ?_) (λ h2=>?_)
  ·rw[show r.2.all (M7 l r.1)=false from no (by rw[Vx]at hc;rw[hc];rfl)]
   rfl
  ·rw[Wj]at h2
   refine Ihb (Q:=λ b=>b=bif (r.2.getD j []).all (λ id=>(Jv l id).isSome) then .inr (l,(j:Int),r) else .inl false) ?_ ?_
   ·refine Ipb (L:=λ k i (_:Unit)=>H7 k l (j:Int) i r) (Q:=λ b=>b=bif (r.2.getD j []).all (λ id=>(Jv l id).isSome) then .inr (l,(j:Int),r) else .inl false) (r.2.getD j []).length (λ m _=>((r.2.getD j []).drop m).all (λ id=>(Jv l id).isSome)=(r.2.getD j []).all (λ id=>(Jv l id).isSome)) ?_ ?_ 0 () (Vs _) rfl
    ·intro _ h
     rw[Wh]at h
     simp (disch:=omega) only [H7,dT,dF,Vd,← h]
     exact Igb rfl
    ·intro m _ hm h next
     rw[Au (d:=0) hm,J1b]at h
     simp (disch:=omega) only [H7,dT,Vd,w64]
     refine Isb (Rs l ((r.2.getD j []).getD m 0) (by omega)) ?_
     cases hd:Jv l ((r.2.getD j []).getD m 0) with
     |none=>exact Ijb rfl (Igb (by rw[← h,hd];rfl))
     |some d=>exact Iib rfl (next () (by rw[hd]at h;exact h))
   ·rintro b rfl
    cases hc:(r.2.getD j []).all (λ id=>(Jv l id).isSome)
    ·exact Igb (by rw[show r.2.all (M7 l r.1)=false from no (by rw[hc,Wm])];rfl)
    simp (disch:=omega) only [cond_true,Jrb,w64]
    exact next () (by rw[h2,hc]at h;exact h)
def Xd (l:List Int) (hl:l.length≤5000000):F8 l=some l:=by
 unfold F8
 rw[bT (by simp only[Vi];omega),Vz]
def Ica (r:Rng) (hr:RBd r):Tot (λ k=>Dc k r) (λ x=>x=r):=by
 have hrl:=hr.1
 unfold Dc
 refine Ihb (Q:=λ x=>x=((0,[]),r)) ?_ (by rintro x rfl;exact Igb rfl)
 refine Ipb (L:=λ k i s=>Eo k r.2 (r.2.length:Int) i (0,[]) (r.1,s)) (Q:=λ x=>x=((0,[]),r)) r.2.length (λ j s=>s=r.2.take j) ?_ ?_ 0 [] (Vs _) rfl
 ·rintro s rfl
  simp (disch:=omega) only [Eo,dF,Yi]
  exact Igb rfl
 ·rintro j s hj rfl next
  have hp:=hr.2 _ (A4 (d:=[]) hj)
  simp (disch:=omega) only [Eo,dT,Vd,w64,Xd,Vm]
  refine Iob (by simp only[Vu,Vc,Vi];omega) (next _ ?_)
  rw[Wi hj,Vb,Vk hj,Yv]
def Xe (r:Rng) (hr:RBd r):Tot (λ k=>Ir k r) (λ x=>x=r):=by
 have hrl:=hr.1
 unfold Ir
 refine Ihb (Q:=λ x=>x=((0,[]),r)) ?_ (by rintro x rfl;exact Igb rfl)
 refine Ipb (L:=λ k i s=>G4 k i r (0,[]) (r.1,s)) (Q:=λ x=>x=((0,[]),r)) r.2.length (λ j s=>s=r.2.take j) ?_ ?_ 0 [] (Vs _) rfl
 ·rintro s rfl
  simp (disch:=omega) only [G4,dF,Yi]
  exact Igb rfl
 ·rintro j s hj rfl next
  have hp:=hr.2 _ (A4 (d:=[]) hj)
  simp (disch:=omega) only [G4,dT,Vd,w64]
  refine Iob (by simp only[Vi];omega) (Iob (by simp only[Vu,Vc,Vi];omega) (next _ ?_))
  rw[Wi hj,Vb,Vk hj,Yv,Vz]
def cnt (id n x:Int):Int:=bif x==id then n+1 else n
def L2a (id n:Int) (p:List Int):Int:=p.foldl (cnt id) n
def Mj (r:Rng) (id:Int):Int:=r.2.foldl (L2a id) 0
def L3a (id:Int):∀ (p:List Int) (n:Int),n≤L2a id n p∧L2a id n p≤n+p.length
 |[],n=>by simp[L2a]
 |x::p,n=>by
  have h:=L3a id p (cnt id n x)
  unfold L2a at h ⊢
  have hc:n≤cnt id n x∧cnt id n x≤n+1:=by unfold cnt;cases x==id<;>simp<;>omega
  rw[Zc,Vc]
  omega
def Uea (id:Int) (m:Nat):∀ (ps:List (List Int)) (n:Int),(∀ p∈ps,p.length≤m)→n≤ps.foldl (L2a id) n∧ps.foldl (L2a id) n≤n+(m*ps.length:Nat)
 |[],n,_=>by simp
 |p::ps,n,h=>by
  have h1:=Uea id m ps (L2a id n p) (λ q hq=>h q (Vh _ hq))
  have h2:=L3a id p n
  have h3:=h p Yc
  rw[Zc,Vc,Nat.mul_succ]
  omega
def Uq {r:Rng} (hr:RBd r) (id:Int):0≤Mj r id∧Mj r id≤4000000000000:=by
 have h:=Uea id 2000000 r.2 0 hr.2
 have h2:=hr.1
 unfold Mj
 omega
def Z1 (r:Rng) (id:Int) (hr:RBd r):Tot (λ k=>Cn k r id) (λ x=>x=Mj r id):=by
 have hrl:=hr.1
 unfold Cn
 refine Ihb (Q:=λ x=>x=Mj r id) ?_ (by rintro x rfl;exact Igb rfl)
 refine Ipb (L:=λ k i s=>Gt k id s i r) (Q:=λ x=>x=Mj r id) r.2.length (λ j s=>(r.2.drop j).foldl (L2a id) s=Mj r id∧0≤s∧s≤2000000*j) ?_ ?_ 0 0 (Vs _) ⟨rfl,by omega,by omega⟩
 ·rintro s ⟨h,_⟩
  rw[Wh]at h
  simp (disch:=omega) only [Gt,dF]
  exact Igb h
 ·rintro j s hj ⟨h,h0,h1⟩ next
  rw[Au (d:=[]) hj,Zc]at h
  have hp:=hr.2 _ (A4 (d:=[]) hj)
  have hc:=L3a id (r.2.getD j []) s
  simp (disch:=omega) only [Gt,dT]
  refine Ihb (Q:=λ x=>x=(id,L2a id s (r.2.getD j []),(j:Int),r)) ?_ ?_
  ·refine Ipb (L:=λ k i s=>Fz k id s (j:Int) i r) (Q:=λ x=>x=(id,L2a id s (r.2.getD j []),(j:Int),r)) (r.2.getD j []).length (λ m z=>L2a id z ((r.2.getD j []).drop m)=L2a id s (r.2.getD j [])∧0≤z∧z≤2000000*j+m) ?_ ?_ 0 s (Vs _) ⟨rfl,h0,by omega⟩
   ·rintro z ⟨h,_⟩
    rw[Wh]at h
    simp (disch:=omega) only [Fz,dT,dF,Vd]
    exact Igb (by rw[← h];rfl)
   ·rintro m z hm ⟨h,z0,z1⟩ next
    rw[Au (d:=0) hm]at h
    simp (disch:=omega) only [Fz,dT,Vd,w64]
    have h':L2a id (cnt id z ((r.2.getD j []).getD m 0)) ((r.2.getD j []).drop (m+1))=L2a id s (r.2.getD j []):=h
    unfold cnt at h'
    refine Imb (λ hc=>next _ ?_) (λ hc=>next _ ?_)
    ·rw[hc]at h';exact⟨h',by omega,by omega⟩
    ·rw[hc]at h';exact⟨h',by omega,by omega⟩
  ·rintro x rfl
   simp (disch:=omega) only [w64]
   exact next _ ⟨h,by omega,by omega⟩

def I4b {a w:Int} (h0:0≤a) (h1:a≤4000000000001) (w0:0≤w) (w1:w≤1000) : -9223372036854775808≤a*w∧a*w≤9223372036854775807:=by
 have e1:=Int.mul_nonneg h0 w0
 have e2:a*w≤4000000000001*1000:=Int.mul_le_mul h1 w1 w0 (by decide)
 omega
def Baa (r:Rng) (p zs:List Int) (a:Option (Dev×Bool)) (d:Dev):Option (Dev×Bool):=
 bif Lh p d.1 then a else match a with
 |none=>some (d,!(Lh zs d.2.1))
 |some (b,fr)=>bif (!(Lh zs d.2.1)&&!fr)||(((!(Lh zs d.2.1))==fr)&&decide ((Mj r d.1+1)*b.2.2<(Mj r b.1+1)*d.2.2)) then some (d,!(Lh zs d.2.1)) else some (b,fr)
def Tk (r:Rng) (p:List Int) (l:List Dev):Option (Dev×Bool):=l.foldl (Baa r p (Kg p l)) none
def C7a (r:Rng) (p:List Int) (l:List Dev):Int:=match Tk r p l with
 |some b=>b.1.1
 |none => -1
def Yja {r:Rng} {p zs:List Int} {l:List Dev} {a:Option (Dev×Bool)} {d:Dev} (ha:∀ b,a=some b→b.1∈l∧b.1.1∉p) (hd:d∈l):∀ b,Baa r p zs a d=some b→b.1∈l∧b.1.1∉p:=by
 intro b hb
 unfold Baa at hb
 cases hp:Lh p d.1
 case true=>rw[hp]at hb;exact ha b hb
 have hn:d.1∉p:=λ c=>by rw[Nw.2 c]at hp;cases hp
 rw[hp,cond_false]at hb
 cases a with
 |none=>cases hb;exact⟨hd,hn⟩
 |some c=>
  obtain⟨c,fr⟩:=c
  simp only at hb
  cases hq:(!(Lh zs d.2.1)&&!fr)||(((!(Lh zs d.2.1))==fr)&&decide ((Mj r d.1+1)*c.2.2<(Mj r c.1+1)*d.2.2)) with
  |true=>rw[hq]at hb;cases hb;exact⟨hd,hn⟩
  |false=>rw[hq]at hb;cases hb;exact ha _ rfl
def Nsa {r:Rng} {p zs:List Int} {l:List Dev}:∀ (m:List Dev) (a:Option (Dev×Bool)),(∀ b,a=some b→b.1∈l∧b.1.1∉p)→(∀ d∈m,d∈l)→∀ b,m.foldl (Baa r p zs) a=some b→b.1∈l∧b.1.1∉p
 |[],_,ha,_=>ha
 |d::m,_,ha,hm=>Nsa m _ (Yja ha (hm d Yc)) (λ x hx=>hm x (Vh _ hx))
def Nta {r:Rng} {p:List Int} {l:List Dev} {b:Dev×Bool} (h:Tk r p l=some b):b.1∈l∧b.1.1∉p:=Nsa l none (λ b h=>by cases h) (λ _ h=>h) b h
def Q0a {r:Rng} {p zs:List Int} {a:Option (Dev×Bool)} {d:Dev} (h:a.isSome=true∨d.1∉p):(Baa r p zs a d).isSome=true:=by
 unfold Baa
 cases hp:Lh p d.1 with
 |true=>
  rcases h with h|h
  ·exact h
  ·exact absurd (Nw.1 hp) h
 |false=>
  cases a with
  |none=>rfl
  |some c=>
   obtain⟨c,fr⟩:=c
   simp only[cond_false]
   cases (!(Lh zs d.2.1)&&!fr)||(((!(Lh zs d.2.1))==fr)&&decide ((Mj r d.1+1)*c.2.2<(Mj r c.1+1)*d.2.2))<;>rfl
def Dha {r:Rng} {p zs:List Int}:∀ (m:List Dev) (a:Option (Dev×Bool)),(a.isSome=true∨∃ d∈m,d.1∉p)→(m.foldl (Baa r p zs) a).isSome=true
 |[],a,h=>by
  rcases h with h|⟨d,h,_⟩
  ·exact h
  ·cases h
 |d::m,a,h=>by
  refine Dha m _ ?_
  by_cases hd:a.isSome=true∨d.1∉p
  ·exact .inl (Q0a hd)
  ·rcases h with h|⟨x,hx,hn⟩
   ·exact absurd (.inl h) hd
   ·rcases Vl.1 hx with rfl|hx
    ·exact absurd (.inr hn) hd
    ·exact .inr ⟨x,hx,hn⟩
def Yka {r:Rng} {p:List Int} {l:List Dev} (h:∃ d∈l,d.1∉p):∃ d∈l,C7a r p l=d.1∧d.1∉p:=by
 obtain⟨b,hb⟩:=Zi.1 (Dha (r:=r) (zs:=Kg p l) l none (.inr h))
 obtain⟨h1,h2⟩:=Nta hb
 exact⟨b.1,h1,by unfold C7a;rw[show Tk r p l=some b from hb],h2⟩
def Q1a (r:Rng) (p:List Int) (l:List Dev):(Tk r p l=none∧C7a r p l = -1)∨∃ b,Tk r p l=some b∧C7a r p l=b.1.1∧b.1∈l∧b.1.1∉p:=by
 cases h:Tk r p l with
 |none=>exact .inl ⟨rfl,by unfold C7a;rw[h]⟩
 |some b=>exact .inr ⟨b,rfl,by unfold C7a;rw[h],Nta h⟩
def Bba (p:List Int) (l:List Dev):(Kg p l).length≤p.length:=by
 have:=I9a l p []
 rwa [Vi,Wk]at this
def bs (r:Rng):Option (Dev×Bool)→Int×Bool×Dev
 |some (b,fr)=>(Mj r b.1+1,fr,b)
 |none=>(0,false,-1,0,0)
def Nua (r:Rng) (p:List Int) (l:List Dev) (hr:RBd r) (hp:p.length≤2000000) (hl:Lt l=true):Tot (λ k=>Hm k r p l) (λ x=>x=C7a r p l):=by
 obtain⟨_,hdv,_,h12⟩:=Fc.1 hl
 have hz:=Bba p l
 unfold Hm
 refine Isb (Iaa p l (by omega) (by omega)) ?_
 refine Ihb (Q:=λ x=>∃ i:Int,x=(l,i)∧match Tk r p l with|some b=>∃ n:Nat,i=(n:Int)∧n<l.length∧l.getD n Nh=b.1|none=>i = -1) ?_ ?_
 ·refine Ipb (L:=λ k i (s:Int×Bool)=>Bv k l (Kg p l) s.1 s.2 i r p) (Q:=λ x=>∃ i:Int,x=(l,i)∧match Tk r p l with|some b=>∃ n:Nat,i=(n:Int)∧n<l.length∧l.getD n Nh=b.1|none=>i = -1) l.length
   (λ j s=>∃ a,(match a with|some (b,fr)=>s.2=fr∧∃ n:Nat,s.1=(n:Int)∧n<l.length∧l.getD n Nh=b|none=>s=(-1,false))∧(l.drop j).foldl (Baa r p (Kg p l)) a=Tk r p l) ?_ ?_ 0 (-1,false) (Vs _) ⟨none,rfl,rfl⟩
  ·rintro⟨s1,s2⟩ ⟨a,hs,h⟩
   rw[Wh]at h
   simp (disch:=omega) only [Bv,dF]
   refine Igb ⟨s1,rfl,?_⟩
   rw[← h]
   cases a with
   |none=>exact(Prod.mk.inj hs).1
   |some bf=>exact hs.2
  ·rintro j ⟨s1,s2⟩ hj ⟨a,hs,h⟩ next
   rw[Au (d:=Nh) hj,Zc]at h
   have hd:=A4 (d:=Nh) hj
   obtain⟨d,ed⟩:∃ d:Dev,l.getD j Nh=d:=⟨_,rfl⟩
   rw[ed]at h hd
   have e0:l.getD j ((0:Int),((0:Int),(0:Int)))=d:=ed
   obtain⟨_,_,w0,w1⟩:=Nz.1 (hdv _ hd)
   have l1:=Uq hr d.1
   simp (disch:=omega) only [Bv,dT,Vd,w64,e0]
   refine Isb (Z0 l (by omega)) ?_
   refine Ijb hl (Isb (Tj p d.1 (by omega)) ?_)
   unfold Baa at h
   cases hp':Lh p d.1 with
   |true=>
    rw[hp']at h
    exact Ijb rfl (next _ ⟨a,hs,h⟩)
   |false=>
    rw[hp',cond_false]at h
    refine Iib rfl (Isb (Tj (Kg p l) d.2.1 (by omega)) ?_)
    have take:∀ {z:Bool},(l.drop (j+1)).foldl (Baa r p (Kg p l)) (some (d,z))=Tk r p l→Tot (λ k=>Bv k l (Kg p l) (j:Int) z ((j:Int)+1) r p) (λ x=>∃ i:Int,x=(l,i)∧match Tk r p l with|some b=>∃ n:Nat,i=(n:Int)∧n<l.length∧l.getD n Nh=b.1|none=>i = -1):=λ {z} h2=>next ((j:Int),z) ⟨some (d,z),⟨rfl,j,rfl,hj,ed⟩,h2⟩
    cases a with
    |none=>
     obtain⟨rfl,rfl⟩:=Prod.mk.inj hs
     exact Ikb (by decide) (take h)
    |some bf=>
     obtain⟨b,fr⟩:=bf
     obtain⟨e1,n,e2,hn,e3⟩:=hs
     dsimp only at e1 e2
     subst e1 e2
     have hb:=A4 (d:=Nh) hn
     rw[e3]at hb
     obtain⟨⟨i0,_⟩,_,v0,v1⟩:=Nz.1 (hdv _ hb)
     have l2:=Uq hr b.1
     have m1:=I4b (a:=Mj r d.1+1) (w:=b.2.2) (by omega) (by omega) (by omega) v1
     have m2:=I4b (a:=Mj r b.1+1) (w:=d.2.2) (by omega) (by omega) (by omega) w1
     have stay:(l.drop (j+1)).foldl (Baa r p (Kg p l)) (some (b,s2))=Tk r p l→Tot (λ k=>Bv k l (Kg p l) (n:Int) s2 ((j:Int)+1) r p) (λ x=>∃ i:Int,x=(l,i)∧match Tk r p l with|some b=>∃ n:Nat,i=(n:Int)∧n<l.length∧l.getD n Nh=b.1|none=>i = -1):=λ h2=>next ((n:Int),s2) ⟨some (b,s2),⟨rfl,n,rfl,hn,e3⟩,h2⟩
     refine Ilb (by omega) ?_
     have e4:l.getD n ((0:Int),((0:Int),(0:Int)))=b:=e3
     dsimp only at h
     have cmp:∀ {z:Bool},Lh (Kg p l) d.2.1=z→((!z)==s2)=true→(!z&&!s2)=false→Tot (λ k=>(Cn k r d.1).bind λ r5=>cond (decide ((0:Int)≤(n:Int))) (cond (decide ((n:Int)<(length l:Int))) (cond (decide ((0:Int)≤(n:Int))) (cond (decide ((n:Int)<(length l:Int))) ((Cn k r (getD l (toNat (n:Int)) ((0:Int),((0:Int),(0:Int)))).1).bind λ r8=>cond (decide ((wrap .i64 ((wrap .i64 (r5+1))*(getD l (toNat (n:Int)) ((0:Int),((0:Int),(0:Int)))).2.2))<(wrap .i64 ((wrap .i64 (r8+1))*d.2.2)))) (Bv k l (Kg p l) (j:Int) s2 ((j:Int)+1) r p) (Bv k l (Kg p l) (n:Int) s2 ((j:Int)+1) r p)) none) none) none) none) (λ x=>∃ i:Int,x=(l,i)∧match Tk r p l with|some b=>∃ n:Nat,i=(n:Int)∧n<l.length∧l.getD n Nh=b.1|none=>i = -1):=by
      intro z hz e1 e2
      rw[hz,e1,e2,Jhb,Vw]at h
      refine Isb (Z1 r d.1 hr) ?_
      refine Ikb (by omega) (Ikb (by omega) (Ikb (by omega) (Ikb (by omega) ?_)))
      rw[Vd,e4]
      refine Isb (Z1 r b.1 hr) ?_
      rw[w64 (n:=Mj r d.1+1) (by omega) (by omega),w64 (n:=Mj r b.1+1) (by omega) (by omega),w64 m1.1 m1.2,w64 m2.1 m2.2]
      refine Imb (λ hc=>?_) (λ hc=>?_)
      ·rw[hc,cond_true]at h
       rw[show s2 = !z by rw[← eq_of_beq e1]]
       exact take h
      ·rw[hc]at h;exact stay h
     cases hz:Lh (Kg p l) d.2.1 with
     |false=>
      have cm:=cmp hz
      rw[hz]at h
      cases s2 with
      |false=>exact Ijb rfl (Ijb rfl (take h))
      |true=>exact Ijb rfl (Iib rfl (Ijb rfl (cm rfl rfl)))
     |true=>
      have cm:=cmp hz
      rw[hz]at h
      cases s2 with
      |false=>exact Iib rfl (Ijb rfl (cm rfl rfl))
      |true=>exact Iib rfl (Iib rfl (stay h))
 ·rintro x ⟨i,rfl,hi⟩
  unfold C7a
  cases hb:Tk r p l with
  |none=>
   rw[hb]at hi
   subst hi
   exact Ikb (show (-1:Int)<0 by decide) (Igb rfl)
  |some b=>
   rw[hb]at hi
   obtain⟨n,rfl,hn,e⟩:=hi
   dsimp only
   refine Ilb (by omega) (Ikb (by omega) (Ikb (by omega) (Igb ?_)))
   rw[Vd,show l.getD n ((0:Int),((0:Int),(0:Int)))=b.1 from e]

def Ufa {l:List Dev} (h:Lt l=true) {d:Dev} (hd:d∈l):Jv l d.1=some d:=by
 have hp:=(Fc.1 h).1
 clear h
 induction l with
 |nil=>cases hd
 |cons x l ih=>
  obtain⟨h1,h2⟩:=Wg.1 hp
  unfold Jv
  rw[Jmb]
  rcases Vl.1 hd with rfl|hd
  ·rw[beq_self_eq_true]
  ·have:=h1 d hd
   rw[show (x.1==d.1)=false from beq_eq_false_iff_ne.2 (by omega)]
   exact ih hd h2
def Amb:∀ (p:List Int) (l:List Dev),l.Pairwise (λ a b=>a.1<b.1)→p.length<l.length→∃ d∈l,d.1∉p
 |p,[],_,h=>by simp at h
 |p,d::l,hl,h=>by
  obtain⟨h1,h2⟩:=Wg.1 hl
  by_cases hd:d.1∈p
  ·have hlen:(p.erase d.1).length=p.length-1:=Kab hd
   have hpos:=Jab hd
   rw[Vc]at h
   obtain⟨x,hx,hn⟩:=Amb (p.erase d.1) l h2 (by omega)
   refine⟨x,Vh _ hx,λ c=>hn ?_⟩
   have:=h1 x hx
   exact(Kzb (by omega)).2 c
  ·exact⟨d,Yc,hd⟩
def Q2a (l:List Dev) (n:Nat) (p:List Int):Prop:=p.Nodup∧p.length=n∧∀ id∈p,∃ d,Jv l id=some d
def Uga {r:Rng} {l:List Dev} {n:Nat} {p:List Int} (hl:Lt l=true) (h:Q2a l n p) (hn:n<l.length):Q2a l (n+1) (p++[C7a r p l]):=by
 obtain⟨h1,h2,h3⟩:=h
 obtain⟨d,hd,e,hne⟩:=Yka (r:=r) (Amb p l (Fc.1 hl).1 (by omega))
 rw[e]
 refine⟨?_,by rw[Ve];simp[h2],λ id hid=>?_⟩
 ·rw[Yp]
  exact⟨h1,by simp,λ a ha b hb c=>by rw[Vt.1 hb]at c;subst c;exact hne ha⟩
 ·rcases Vo.1 hid with hid|hid
  ·exact h3 id hid
  ·rw[Vt.1 hid];exact⟨d,Ufa hl hd⟩
def Ida (l:List Dev) (reps:Int) (ps:List (List Int)):Nat→List Int→List Int
 |0,p=>p
 |n+1,p=>Ida l reps ps n (p++[C7a (reps,ps++[p]) p l])
def Qpa (l:List Dev) (reps:Int):Nat→List (List Int)→List (List Int)
 |0,ps=>ps
 |n+1,ps=>Qpa l reps n (ps++[Ida l reps ps reps.toNat []])
def build (l:List Dev) (parts reps:Int):Rng×Bool:=bif Lt l&&(inR parts 1 64&&(inR reps 1 5&&!(decide (reps > (l.length:Int))))) then ((reps,Qpa l reps parts.toNat []),true) else ((0,[]),false)
def Nva {l:List Dev} {reps:Int} {ps:List (List Int)} (hl:Lt l=true):∀ (n m:Nat) (p:List Int),Q2a l m p→m+n≤l.length→Q2a l (m+n) (Ida l reps ps n p)
 |0,_,_,h,_=>h
 |n+1,m,p,h,hm=>by
  have:=Nva (reps:=reps) (ps:=ps) hl n (m+1) _ (Uga (r:=(reps,ps++[p])) hl h (by omega)) (by omega)
  rwa [show m+1+n=m+(n+1) by omega]at this
def Uha {l:List Dev} {reps:Int} (hl:Lt l=true) (hr:reps≤(l.length:Int)):∀ (n:Nat) (ps:List (List Int)),(∀ p∈ps,Q2a l reps.toNat p)→(Qpa l reps n ps).length=ps.length+n∧∀ p∈Qpa l reps n ps,Q2a l reps.toNat p
 |0,ps,h=>⟨rfl,h⟩
 |n+1,ps,h=>by
  have hf:=Nva (reps:=reps) (ps:=ps) hl reps.toNat 0 [] ⟨List.nodup_nil,rfl,λ _ h=>by cases h⟩ (by omega)
  rw[Wk]at hf
  obtain⟨h1,h2⟩:=Uha hl hr n (ps++[Ida l reps ps reps.toNat []]) (λ p hp=>by
   rcases Vo.1 hp with hp|hp
   ·exact h p hp
   ·rw[Vt.1 hp];exact hf)
  refine⟨?_,h2⟩
  show (Qpa l reps n _).length=_
  rw[h1,Ve]
  simp only[Vc,Vi]
  omega
def Nwa {l:List Dev} {parts reps:Int} (h:(build l parts reps).2=true):Lt l=true∧Il (build l parts reps).1 l=true∧(build l parts reps).1.1=reps∧((build l parts reps).1.2.length:Int)=parts:=by
 unfold build at h ⊢
 cases hc:Lt l&&(inR parts 1 64&&(inR reps 1 5&&!(decide (reps > (l.length:Int)))))
 ·rw[hc]at h;cases h
 rw[Va,Va,Va,Vx,decide_eq_false_iff_not,Co,Co]at hc
 obtain⟨h1,h2,h3,h4⟩:=hc
 obtain⟨b1,b2⟩:=Uha (reps:=reps) h1 (by omega) parts.toNat [] (λ p hp=>by cases hp)
 rw[Vi,Wk]at b1
 have b1':((Qpa l reps parts.toNat []).length:Int)=parts:=by rw[b1];omega
 refine⟨h1,Cb.2 ⟨h1,h3,⟨by show 1≤(Qpa l reps parts.toNat []).length;omega,by show (Qpa l reps parts.toNat []).length≤64;omega⟩,λ p hp=>?_⟩,rfl,b1'⟩
 obtain⟨c1,c2,c3⟩:=b2 p hp
 exact⟨c1,by rw[c2];show ((reps.toNat:Nat):Int)=reps;omega,c3⟩
def Iea {l:List Dev} {reps:Int} {ps:List (List Int)}:∀ (n:Nat) (p:List Int),(Ida l reps ps n p).length=p.length+n
 |0,_=>rfl
 |n+1,p=>by
  show (Ida l reps ps n _).length=_
  rw[Iea n,Ve]
  simp only[Vc,Vi]
  omega
def Uia {α:Type} (l:List α) (x d:α):(l++[x]).getD l.length d=x:=by
 rw[Vb,Yh (Vv _),Jqb]
 rfl
def Yla {α:Type} (l:List α) (x y:α):(l++[x]).set l.length y=l++[y]:=by
 rw[Lyb _ _ (Vv _),Jqb]
 rfl
def Ifa (l:List Dev) (parts reps:Int) (z:Rng) (hl:Lt l=true) (h0:0≤reps) (h5:reps≤5) (ps:List (List Int)) (hps:ps.length≤100) (hq:∀ q∈ps,q.length≤100):∀ (n:Nat) (p:List Int),p.length+n=reps.toNat→
  Tot (λ k=>Hx k l parts reps (ps.length:Int) (p.length:Int) z (reps,ps++[p])) (λ x=>x=(l,parts,reps,(ps.length:Int),z,(reps,ps++[Ida l reps ps n p]))):=by
 intro n
 induction n with
 |zero=>
  intro p hp
  refine Tot.succ ?_
  simp (disch:=omega) only [Hx,dF]
  exact Igb rfl
 |succ n ih=>
  intro p hp
  refine Tot.succ ?_
  have hrb:RBd (reps,ps++[p]):=⟨by simp only[Ve,Vc,Vi];omega,λ q hq'=>by
   rcases Vo.1 hq' with h|h
   ·have:=hq q h;omega
   ·rw[Vt.1 h];omega⟩
  have hlen:(ps++[p]).length=ps.length+1:=by simp
  simp (disch:=omega) only [Hx,dT,Vd,w64,hlen,Uia,Yla]
  refine Isb (Nua (reps,ps++[p]) p l hrb (by omega) hl) ?_
  refine Ijb (decide_eq_true trivial) (Iob (by simp only[Vc,Vi];omega) (Ijb (decide_eq_true trivial) ?_))
  have:=ih (p++[C7a (reps,ps++[p]) p l]) (by simp only[Ve,Vc,Vi];omega)
  rw[show (((p++[C7a (reps,ps++[p]) p l]).length:Nat):Int)=(p.length:Int)+1 by simp]at this
  exact this
def Uja (l:List Dev) (parts reps:Int) (hll:l.length≤5000000):Tot (λ k=>Gn k l parts reps) (λ x=>x=build l parts reps):=by
 unfold Gn build
 refine Isb (Z0 l (by omega)) ?_
 cases hl:Lt l
 ·exact Ijb rfl (Igb rfl)
 simp only[Yq,cond_false,Nj,Vm,Vw]
 cases hp:inR parts 1 64
 ·exact Ijb rfl (Igb rfl)
 refine Iib rfl ?_
 cases hr:inR reps 1 5
 ·exact Ijb rfl (Igb rfl)
 obtain⟨r1,r2⟩:=Co.1 hr
 obtain⟨p1,p2⟩:=Co.1 hp
 refine Iib rfl ?_
 cases hc:decide (reps > (l.length:Int))
 case true=>exact Ijb rfl (Igb rfl)
 refine Iib rfl (Ihb (Q:=λ x=>x=(((0:Int),([]:List (List Int))),(reps,Qpa l reps parts.toNat []))) ?_ (by rintro x rfl;exact Igb rfl))
 obtain⟨n,rfl⟩:∃ n:Nat,parts=(n:Int):=⟨parts.toNat,by omega⟩
 refine Ipb (L:=λ k i (s:Rng)=>Hy k l (n:Int) reps i (0,[]) s) (Q:=λ x=>x=(((0:Int),([]:List (List Int))),(reps,Qpa l reps n []))) n (λ j s=>∃ ps,s=(reps,ps)∧ps.length=j∧(∀ q∈ps,q.length≤100)∧Qpa l reps (n-j) ps=Qpa l reps n []) ?_ ?_ 0 (reps,[]) (Vs _) ⟨[],rfl,rfl,λ q h=>(by cases h),rfl⟩
 ·rintro s ⟨ps,rfl,hps,_,h⟩
  rw[Jqb]at h
  simp (disch:=omega) only [Hy,dF]
  exact Igb (by rw[← h];rfl)
 ·rintro j s hj ⟨ps,rfl,hps,hq,h⟩ next
  simp (disch:=omega) only [Hy,dT]
  refine Iob (by simp only[Vc,Vi];omega) ?_
  have h9:=Ifa l (n:Int) reps (0,[]) hl (by omega) r2 ps (by omega) hq reps.toNat [] (by simp)
  rw[hps]at h9
  refine Ihb h9 ?_
  rintro x rfl
  simp (disch:=omega) only [w64]
  refine next _ ⟨ps++[Ida l reps ps reps.toNat []],rfl,by rw[Ve,hps];rfl,λ q hq'=>?_,?_⟩
  ·rcases Vo.1 hq' with h'|h'
   ·exact hq q h'
   ·rw[Vt.1 h',Iea,Vi];omega
  ·rw[show n-j=(n-(j+1))+1 by omega]at h
   exact h

def Nxa:∀ (p q:List Int),p.Nodup→(∀ x∈p,x∈q)→p.length≤q.length
 |[],_,_,_=>Vs _
 |x::p,q,h,hs=>by
  obtain⟨h1,h2⟩:=Yt.1 h
  have hx:=hs x Yc
  have hlen:(q.erase x).length=q.length-1:=Kab hx
  have hpos:=Jab hx
  have:=Nxa p (q.erase x) h2 (λ y hy=>(Kzb (λ c=>by subst c;exact h1 hy)).2 (hs y (Vh _ hy)))
  rw[Vc]
  omega
def Uka {r:Rng} {l:List Dev} (h:Il r l=true):r.1≤(l.length:Int):=by
 obtain⟨_,_,h3,h4⟩:=Cb.1 h
 obtain⟨p,hp⟩:=Kub (show 0<r.2.length by omega)
 obtain⟨q1,q2,q3⟩:=h4 p hp
 have:=Nxa p (l.map (·.1)) q1 (λ x hx=>by
  obtain⟨d,hd⟩:=q3 x hx
  obtain⟨hm,he⟩:=Wv hd
  exact Yw.2 ⟨d,hm,he⟩)
 rw[Wc]at this
 omega
def L4a {r:Rng} {l:List Dev} (h:Il r l=true):Tot (λ k=>Jo k r l) (λ b=>b=true):=by
 have hrp:=Uka h
 obtain⟨h1,h2,h3,h4⟩:=Cb.1 h
 obtain⟨_,_,_,h12⟩:=Fc.1 h1
 unfold Jo
 refine Isb (Z0 l (by omega)) ?_
 refine Iib (by rw[h1];rfl) ?_
 simp only[Nj,Vm]
 refine Iib (by rw[Co.2 h2];rfl) (Ilb (by omega) (Iib (by rw[Co.2 (by omega)];rfl) ?_))
 refine Ihb (Q:=λ b=>b = .inr ()) ?_ (by rintro b rfl;exact Igb rfl)
 refine Ipb (L:=λ k i (_:Unit)=>J8 k i r) (Q:=λ b=>b = .inr ()) r.2.length (λ _ _=>True) ?_ ?_ 0 () (Vs _) trivial
 ·intro _ _
  simp (disch:=omega) only [J8,dF]
  exact Igb rfl
 ·intro j _ hj _ next
  obtain⟨q1,q2,_⟩:=h4 _ (A4 (d:=[]) hj)
  simp (disch:=omega) only [J8,dT,Vd,w64]
  refine Isb (Nra _ _ (by omega)) ?_
  exact Iib (by rw[decide_eq_true q1,q2];simp) (next () trivial)
def Yma (p:List Int) (l:List Dev) (h:∀ id∈p,∃ d,Jv l id=some d) (hp:p.length≤5000000) (hl:l.length≤5000000):Tot (λ k=>Gb k p l) (λ x=>x = -1):=by
 unfold Gb
 refine Ihb (Q:=λ x=>x = .inr ()) ?_ (by rintro x rfl;exact Igb rfl)
 refine Ipb (L:=λ k i (_:Unit)=>H1 k l i p) (Q:=λ x=>x = .inr ()) p.length (λ _ _=>True) ?_ ?_ 0 () (Vs _) trivial
 ·intro _ _
  simp (disch:=omega) only [H1,dF]
  exact Igb rfl
 ·intro j _ hj _ next
  simp (disch:=omega) only [H1,dT,Vd,w64]
  refine Isb (Rs l _ (by omega)) ?_
  obtain⟨d,hd⟩:=h _ (A4 (d:=0) hj)
  exact Iib (by rw[hd];rfl) (next () trivial)
def hv (r:Rng) (l:List Dev) (b id:Int):Bool:=match Jv l b with
 |none=>false
 |some x=>match Jv l id with
  |none=>false
  |some d=>(d.2.1==x.2.1)&&decide (Mj r id-Mj r b≥2)
def Qqa (r:Rng) (l:List Dev) (p:List Int) (b:Int):Option Nat:=p.findIdx? (hv r l b)
def oI:Option Nat→Int
 |some i=>(i:Int)
 |none => -1
def Iga {f:Int→Bool} {p:List Int} {j:Nat} (hj:j<p.length) (h:((p.drop j).findIdx? f).map (· + j)=p.findIdx? f):
  (f (p.getD j 0)=true→p.findIdx? f=some j)∧(f (p.getD j 0)=false→((p.drop (j+1)).findIdx? f).map (· + (j+1))=p.findIdx? f):=by
 rw[Au (d:=0) hj,Kfb]at h
 constructor
 ·intro c
  rw[if_pos c]at h
  rw[← h,Kbb,Wk]
 ·intro c
  rw[if_neg (by rw[c];simp)]at h
  rw[← h,Option.map_map]
  congr 1
  funext x
  show x+(j+1)=x+1+j
  omega
def Ula (r:Rng) (p:List Int) (l:List Dev) (b:Int) (hr:RBd r) (hp:p.length≤2000000) (hl:l.length≤2000000):Tot (λ k=>Ez k r p l b) (λ x=>x=oI (Qqa r l p b)):=by
 unfold Ez
 refine Isb (Rs l b (by omega)) ?_
 refine Ihb (Q:=λ x=>x=match Qqa r l p b with|some i => .inl (i:Int)|none => .inr ()) ?_ (by rintro x rfl;cases Qqa r l p b<;>exact Igb rfl)
 cases hb:Jv l b with
 |none=>
  have hn:Qqa r l p b=none:=by unfold Qqa;rw[Ljb];intro x _;unfold hv;rw[hb]
  rw[hn]
  refine Tot.succ ?_
  by_cases hp0:(0:Int)<(p.length:Int)
  ·simp (disch:=omega) only [Ce,dT,Hqb,cond_false]
   exact Igb rfl
  ·simp (disch:=omega) only [Ce,dF]
   exact Igb rfl
 |some x=>
  have hvI:∀ id,hv r l b id=match Jv l id with|none=>false|some d=>(d.2.1==x.2.1)&&decide (Mj r id-Mj r b≥2):=λ id=>by unfold hv;rw[hb]
  refine Ipb (L:=λ k i (_:Unit)=>Ce k l b true i r p x) (Q:=λ x=>x=match Qqa r l p b with|some i => .inl (i:Int)|none => .inr ()) p.length (λ j _=>((p.drop j).findIdx? (hv r l b)).map (· + j)=p.findIdx? (hv r l b)) ?_ ?_ 0 () (Vs _) (by simp)
  ·intro _ h
   rw[Wh]at h
   have hn:Qqa r l p b=none:=h.symm
   rw[hn]
   simp (disch:=omega) only [Ce,dF]
   exact Igb rfl
  ·intro j _ hj h next
   obtain⟨k1,k2⟩:=Iga hj h
   simp (disch:=omega) only [Ce,dT,Vd,w64,cond_true]
   generalize p.getD j 0=id at *
   refine Isb (Rs l id (by omega)) ?_
   rw[hvI]at k1 k2
   cases hd:Jv l id with
   |none=>
    rw[hd]at k2
    exact Iib rfl (next () (k2 rfl))
   |some d=>
    rw[hd]at k1 k2
    obtain⟨_,e⟩:=Wv hd
    refine Ijb rfl ?_
    cases hz:d.2.1==x.2.1
    ·exact Iib hz (next () (k2 (by simp only[hz,Ys])))
    refine Ijb hz (Isb (Z1 r d.1 hr) ?_)
    refine Isb (Z1 r b hr) ?_
    have l1:=Uq hr d.1
    have l2:=Uq hr b
    simp (disch:=omega) only [w64]
    refine Inb (λ hc=>Igb ?_) (λ hc=>next () (k2 ?_))
    ·have hn:Qqa r l p b=some j:=k1 (by simp only[hz,Vw];rw[← e];exact decide_eq_true hc)
     rw[hn]
    ·simp only[hz,Vw];rw[← e];exact decide_eq_false hc
def rb1 (l:List Dev) (s:Int×Rng) (j:Nat):Int×Rng:=match Qqa s.2 l (s.2.2.getD j []) (C7a s.2 (s.2.2.getD j []) l) with
 |none=>s
 |some i=>(s.1+1,(s.2.1,s.2.2.set j ((s.2.2.getD j []).set i (C7a s.2 (s.2.2.getD j []) l))))
def rbs (l:List Dev) (r:Rng) (n:Nat):Int×Rng:=(List.range n).foldl (rb1 l) (0,r)
def L5a (r:Rng) (l:List Dev):Rng×Int:=((rbs l r r.2.length).2,(rbs l r r.2.length).1)
def Nya (l:List Dev) (r:Rng) (n:Nat):rbs l r (n+1)=rb1 l (rbs l r n) n:=by
 unfold rbs
 rw[L6b,Job]
 rfl
def Xf {r:Rng} {l:List Dev} {p:List Int} {i:Nat} (hl:Lt l=true) (h:Qqa r l p (C7a r p l)=some i):i<p.length∧C7a r p l∉p∧0≤C7a r p l∧∃ d,Jv l (C7a r p l)=some d:=by
 obtain⟨h1,h2,_⟩:=Kgb.1 h
 refine⟨h1,?_⟩
 unfold hv at h2
 cases hb:Jv l (C7a r p l) with
 |none=>rw[hb]at h2;cases h2
 |some d=>
  obtain⟨hd,he⟩:=Wv hb
  obtain⟨⟨i0,_⟩,_⟩:=Nz.1 ((Fc.1 hl).2.1 _ hd)
  refine⟨?_,by omega,d,rfl⟩
  rcases Q1a r p l with⟨_,e⟩|⟨b,_,e,_,hn⟩
  ·omega
  ·rw[e];exact hn
def Uma {p:List Int} {b:Int} (h:p.Nodup) (hb:b∉p) (i:Nat):(p.set i b).Nodup:=by
 induction p generalizing i with
 |nil=>exact h
 |cons x p ih=>
  obtain⟨h1,h2⟩:=Yt.1 h
  cases i with
  |zero=>exact Yt.2 ⟨λ c=>hb (Vh _ c),h2⟩
  |succ i=>
   refine Yt.2 ⟨λ c=>?_,ih h2 (λ c=>hb (Vh _ c)) i⟩
   rcases Xs c with c|c
   ·exact h1 c
   ·exact hb (c ▸ Yc)
def G2b {l:List Dev} {s:Int×Rng} {j:Nat} (hj:j<s.2.2.length) (h:Il s.2 l=true):Il (rb1 l s j).2 l=true∧(rb1 l s j).2.1=s.2.1∧(rb1 l s j).2.2.length=s.2.2.length∧s.1≤(rb1 l s j).1∧(rb1 l s j).1≤s.1+1:=by
 unfold rb1
 obtain⟨h1,h2,h3,h4⟩:=Cb.1 h
 cases hx:Qqa s.2 l (s.2.2.getD j []) (C7a s.2 (s.2.2.getD j []) l) with
 |none=>exact⟨h,rfl,rfl,by dsimp only;omega,by dsimp only;omega⟩
 |some i=>
  obtain⟨b1,b2,_,b3⟩:=Xf h1 hx
  obtain⟨q1,q2,q3⟩:=h4 _ (A4 (d:=[]) hj)
  refine⟨Cb.2 ⟨h1,h2,by dsimp only;rw[List.length_set];exact h3,λ p hp=>?_⟩,rfl,by dsimp only;rw[List.length_set],by dsimp only;omega,by dsimp only;omega⟩
  rcases Xs hp with hp|hp
  ·exact h4 p hp
  ·subst hp
   refine⟨Uma q1 b2 i,by rw[Vy];exact q2,λ id hid=>?_⟩
   rcases Xs hid with hid|hid
   ·exact q3 id hid
   ·rw[hid];exact b3
def Nza {l:List Dev} {r:Rng} (h:Il r l=true):∀ (n:Nat),n≤r.2.length→Il (rbs l r n).2 l=true∧(rbs l r n).2.1=r.1∧(rbs l r n).2.2.length=r.2.length∧0≤(rbs l r n).1∧(rbs l r n).1≤n
 |0,_=>⟨h,rfl,rfl,J3b _,J3b _⟩
 |n+1,hn=>by
  obtain⟨h1,h2,h3,h4,h5⟩:=Nza h n (by omega)
  obtain⟨g1,g2,g3,g4,g5⟩:=G2b (j:=n) (by omega) h1
  rw[Nya]
  exact⟨g1,by rw[g2,h2],by rw[g3,h3],by omega,by omega⟩
def O0a {r:Rng} {l:List Dev} (h:Il r l=true):Il (L5a r l).1 l=true∧(L5a r l).1.1=r.1∧(L5a r l).1.2.length=r.2.length∧0≤(L5a r l).2:=by
 obtain⟨h1,h2,h3,h4,_⟩:=Nza h r.2.length (Vv _)
 exact⟨h1,h2,h3,h4⟩
def Una {r:Rng} {l:List Dev} (h:Il r l=true):Tot (λ k=>Cm k r l) (λ x=>x=L5a r l):=by
 obtain⟨_,_,h64,_⟩:=Cb.1 h
 unfold Cm
 refine Ihb (Xe r (Mn h)) ?_
 rintro x rfl
 refine Ihb (L4a h) ?_
 rintro b rfl
 refine Iib rfl (Ihb (Q:=λ y=>y=((rbs l x x.2.length).1,((0:Int),([]:List (List Int))),(rbs l x x.2.length).2)) ?_ (by rintro y rfl;exact Igb rfl))
 refine Ipb (L:=λ k i (s:Int×Rng)=>B8 k l s.1 i (0,[]) s.2) (Q:=λ y=>y=((rbs l x x.2.length).1,((0:Int),([]:List (List Int))),(rbs l x x.2.length).2)) x.2.length (λ j s=>s=rbs l x j) ?_ ?_ 0 (0,x) (Vs _) rfl
 ·rintro s rfl
  obtain⟨_,_,g3,_⟩:=Nza h x.2.length (Vv _)
  simp (disch:=omega) only [B8,dF]
  exact Igb rfl
 ·rintro j s hj rfl next
  obtain⟨g1,g2,g3,g4,g5⟩:=Nza h j (by omega)
  rw[Nya]at next
  generalize rbs l x j=s at *
  obtain⟨c,r⟩:=s
  dsimp only at g1 g2 g3 g4 g5
  obtain⟨q0,_,_,q4⟩:=Cb.1 g1
  obtain⟨p1,p2,p3⟩:=q4 _ (A4 (d:=[]) (show j<r.2.length by omega))
  have hx2:=(Cb.1 h).2.1
  have l12:=(Fc.1 q0).2.2.2
  unfold rb1 at next
  dsimp only at next
  obtain⟨p,hp⟩:∃ p,r.2.getD j []=p:=⟨_,rfl⟩
  rw[hp]at p1 p2 p3
  simp only[hp]at next
  simp (disch:=omega) only [B8,dT,Vd,w64,hp]
  refine Ihb (Yma p l p3 (by omega) (by omega)) ?_
  rintro x rfl
  refine Ilb (by omega) (Ihb (Nua r p l (Mn g1) (by omega) q0) ?_)
  rintro b rfl
  refine Ihb (Ula r p l _ (Mn g1) (by omega) (by omega)) ?_
  rintro y rfl
  cases hi:Qqa r l p (C7a r p l) with
  |none=>
   rw[hi]at next
   exact Ilb (by show ¬ ((-1:Int)≥0);omega) (next _ rfl)
  |some i=>
   obtain⟨b1,b2,b3,_⟩:=Xf q0 hi
   rw[hi]at next
   have e:oI (some i)=(i:Int):=rfl
   simp (disch:=omega) only [e,dT,Vd]
   exact next _ rfl
def wgt (l:List Dev) (i:Nat) (w:Int):List Dev:=l.set i ((l.getD i Nh).1,(l.getD i Nh).2.1,w)
def F5a (l:List Dev) (i:Nat) (w:Int):(wgt l i w).map (·.1)=l.map (·.1):=by
 unfold wgt
 rw[List.map_set]
 by_cases hi:i<l.length
 ·have:(l.getD i Nh).1=(l.map (·.1)).getD i 0:=by
   simp only[Vb,J0b,Vk hi,Kbb,Yv]
  rw[this,Vb,Vk (by simpa using hi),Yv]
  exact List.set_getElem_self _
 ·rw[List.set_eq_of_length_le (by simpa using hi)]
def Ru {l:List Dev} {id:Int}:(∃ d,Jv l id=some d)↔id∈l.map (·.1):=by
 unfold Jv
 rw[← Zi,List.find?_isSome,Yw]
 exact⟨λ ⟨x,h,e⟩=>⟨x,h,eq_of_beq e⟩,λ ⟨x,h,e⟩=>⟨x,h,beq_iff_eq.2 e⟩⟩
def G3b {l:List Dev} {i:Nat} {w:Int} (h:Lt l=true) (hi:i<l.length) (h1:1≤w) (h2:w≤1000):Lt (wgt l i w)=true:=by
 obtain⟨g1,g2,g3,g4⟩:=Fc.1 h
 refine Fc.2 ⟨?_,λ d hd=>?_,?_⟩
 ·have e:(l.map (·.1)).Pairwise (· < ·):=Zh.2 g1
  rw[← F5a l i w]at e
  exact Zh.1 e
 ·rcases Xs hd with hd|hd
  ·exact g2 d hd
  ·obtain⟨e1,e2,_⟩:=Nz.1 (g2 _ (A4 (d:=Nh) hi))
   subst hd
   exact Nz.2 ⟨e1,e2,h1,h2⟩
 ·unfold wgt
  rw[Vy]
  exact⟨g3,g4⟩
def F6a {r:Rng} {l:List Dev} {i:Nat} {w:Int} (h:Il r l=true) (hi:i<l.length) (h1:1≤w) (h2:w≤1000):Il r (wgt l i w)=true:=by
 obtain⟨g1,g2,g3,g4⟩:=Cb.1 h
 refine Cb.2 ⟨G3b g1 hi h1 h2,g2,g3,λ p hp=>?_⟩
 obtain⟨q1,q2,q3⟩:=g4 p hp
 exact⟨q1,q2,λ id hid=>by rw[Ru,F5a,← Ru];exact q3 id hid⟩

def Uoa (x:BitVec 32):(cst x).getLsbD 31=x.getLsbD 0:=by
 have h0:(x >>> 1).getLsbD 31=false:=by
  rw[L8b]
  exact BitVec.getLsbD_of_ge _ _ (by decide)
 unfold cst
 cases h:x.getLsbD 0 with
 |true=>
  rw[if_pos rfl,BitVec.getLsbD_xor,h0]
  decide
 |false=>
  rw[if_neg (by simp),h0]
def Ww {n:Nat} {x y c:BitVec n} (h:x ^^^ c=y ^^^ c):x=y:=by
 have:=congrArg (λ z=>z ^^^ c) h
 simpa[BitVec.xor_assoc] using this
def Czb {x y:BitVec 32} (h:cst x=cst y):x=y:=by
 have h0:x.getLsbD 0=y.getLsbD 0:=by rw[← Uoa,← Uoa,h]
 have h1:x >>> 1=y >>> 1:=by
  unfold cst at h
  rw[h0]at h
  cases hb:y.getLsbD 0 with
  |true=>rw[hb,if_pos rfl,if_pos rfl]at h;exact Ww h
  |false=>rw[hb,if_neg (by simp),if_neg (by simp)]at h;exact h
 refine BitVec.eq_of_getLsbD_eq λ i hi=>?_
 cases i with
 |zero=>exact h0
 |succ i=>
  have:=congrArg (λ z=>z.getLsbD i) h1
  simpa[L8b,Iub] using this
def Bca:∀ (n:Nat) {x y:BitVec 32},C4a n x=C4a n y→x=y
 |0,_,_,h=>h
 |n+1,_,_,h=>Czb (Bca n h)
def D0b {x y:BitVec 32} {b:Int} (h:cby x b=cby y b):x=y:=Ww (Bca 8 h)
def Yna {x:BitVec 32} {a b:Int} (ha:0≤a∧a≤255) (hb:0≤b∧b≤255) (h:cby x a=cby x b):a=b:=by
 have h1:x ^^^ ofInt 32 a=x ^^^ ofInt 32 b:=Bca 8 h
 rw[Lwb,Lwb x]at h1
 have h2:=Ww h1
 rw[Nka ha,Nka hb,h2]
def O1a:∀ (l:List Int) {x y:BitVec 32},l.foldl cby x=l.foldl cby y→x=y
 |[],_,_,h=>h
 |_::l,_,_,h=>D0b (O1a l h)
def Anb (l:List Int):0≤crc l∧crc l≤4294967295:=by
 unfold crc
 have:=(Eib l).isLt
 omega
def D1b {l:List Int} {i:Nat} {y:Int} (hi:i<l.length) (hy:0≤y∧y≤255) (hb:Ai l) (hne:y≠l.getD i 0):crc (l.set i y)≠crc l:=by
 intro h
 have h1:Eib (l.set i y)=Eib l:=Lxb (by unfold crc at h;omega)
 unfold Eib at h1
 have h2:=BitVec.not_inj.1 h1
 have e1:l.set i y=l.take i++y::l.drop (i+1):=by rw[Jgb,if_pos hi]
 have e2:l=l.take i++l.getD i 0::l.drop (i+1):=by
  conv => { lhs;rw[← Wl i l] }
  rw[Au (d:=0) hi]
 rw[e1,Job,Zc]at h2
 rw[e2]at h2
 rw[Job,Zc]at h2
 have e3:(l.take i++l.getD i 0::l.drop (i+1)).take i=l.take i:=by rw[← e2]
 have e4:(l.take i++l.getD i 0::l.drop (i+1)).drop (i+1)=l.drop (i+1):=by rw[← e2]
 rw[e3,e4]at h2
 exact hne (Yna hy (hb _ (A4 hi)) (O1a _ h2))
def G4b {a b:Int} (ha:0≤a∧a≤4294967295) (hb:0≤b∧b≤4294967295) (h:c4 a=c4 b):a=b:=by
 have e:∀ c:Int,0≤c→c4 c=[c/16777216 % 256,c/65536 % 256,c/256 % 256,c % 256]:=λ c hc=>by
  unfold c4
  rw[show (2:Int) ^ (min (toNat 24) (IntKind.bits .i64))=16777216 from by decide,show (2:Int) ^ (min (toNat 16) (IntKind.bits .i64))=65536 from by decide,show (2:Int) ^ (min (toNat 8) (IntKind.bits .i64))=256 from by decide,
   Izb _ (by omega),Izb _ (by omega),Izb _ (by omega),Keb,Keb,Keb,Keb]
 rw[e a ha.1,e b hb.1]at h
 simp only[Yl,and_true]at h
 omega
def Q3a {l m:List Int} {j:Nat} (h:j<l.length):(l++m).getD j 0=l.getD j 0:=by rw[Vb,Vb,Ye h]
def Q4a {l m:List Int} {j:Nat} (h:l.length≤j):(l++m).getD j 0=m.getD (j-l.length) 0:=by rw[Vb,Vb,Yh h]
def Yoa {f:Fil} (hf:D9 f=true) {n:Nat} (hn:n<8*(Kh f).length):Mz (Mw (Kh f) n)=none:=by
 cases hg:Mz (Mw (Kh f) n) with
 |none=>rfl
 |some g=>
  exfalso
  obtain⟨g1,_,g3⟩:=Eya hg
  have hpb:=Of f
  have hj:n/8<(Kh f).length:=by omega
  have hy:=Nna ((Kh f).getD (n/8) 0) (n % 8)
  have hne:=Yca (hpb _ (A4 (d:=0) hj)) (M0b n (show 0<8 by omega))
  unfold Mw at g3
  generalize C5a ((Kh f).getD (n/8) 0) (n % 8)=y at g3 hy hne
  generalize n/8=j at g3 hj hne
  have ef:Kh f=Pd f++c4 (crc (Pd f)):=by unfold Kh;rw[hf];rfl
  have eg:Kh g=Pd g++c4 (crc (Pd g)):=by unfold Kh;rw[g1];rfl
  have l4:∀ c,(c4 c).length=4:=λ c=>rfl
  rw[eg]at g3
  rw[ef]at g3 hj hne
  have hlen:(Pd g).length=(Pd f).length:=by
   have:=congrArg length g3
   rw[Vy,Ve,Ve,l4,l4]at this
   omega
  by_cases hjb:j<(Pd f).length
  ·rw[List.set_append_left _ _ hjb]at g3
   obtain⟨a1,a2⟩:=List.append_inj g3 (by rw[Vy];exact hlen)
   rw[Q3a hjb]at hne
   have:=G4b (Anb _) (Anb _) a2
   rw[a1]at this
   exact D1b hjb hy (Qm f) hne this
  ·rw[Lyb _ _ (by omega)]at g3
   obtain⟨a1,a2⟩:=List.append_inj g3 hlen
   rw[a1]at a2
   rw[Q4a (by omega)]at hne
   rw[Ve,l4]at hj
   have:(c4 (crc (Pd f))).getD (j-(Pd f).length) 0=y:=by
    rw[a2,Vb,Kkb (by rw[l4];omega),Yv]
   exact hne this.symm

end Go.Proofs.YtiiekghlhfbmmaaGreat.Vf
