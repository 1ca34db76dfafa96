import Derived.Test.YtmhhjceoinoekaaGreatMam
import Derived.Test.YtmhhjceoinoekaaGreatMal
set_option linter.all false
namespace Go.Proofs.YtmhhjceoinoekaaGreat.Vf
open Go
open List (length getD)
open Int (toNat)
open Go.IntKind (wrap)
open BitVec (ofInt)
def Wm:=@List.take_succ_eq_append_getElem
def Zw:=@List.mem_iff_getElem
def Hkb:=@List.foldl_append
def Hrb:=@List.length_pos_of_mem
def I1b:=@List.length_erase_of_mem
def Inb:=@List.exists_mem_of_length_pos
def Isb:=@List.mem_erase_of_ne
def J0b:=@BitVec.getLsbD_ushiftRight
def Jnb:=@BitVec.eq_of_toNat_eq
def Job:=@List.find?_cons
def Jpb:=@List.set_append_right
def Jqb:=@List.range_succ
def Jrb:=@Nat.mod_lt

def DG (d:Dsk):Prop:=Aj d=true∧DB d
def Zka {d:Dsk} {s:ByteArray} {b:List Int} (hd:Aj d=true) (h:gt d.1 s=some b):b.length≤400:=(Qs.1 ((Ah.1 (Dm.1 hd).1).2.1 _ (Pj h))).2
def Zla {d:Dsk} {s:ByteArray} {b:List Int} (h:DB d) (hb:Ap b):DB (wrD d s b).1:=by
 unfold wrD
 cases decide (b.length≤400)&&decide ((wr d.1 s b).length≤60) with
 |false=>exact h
 |true=>exact⟨(h.1.cut s).ins hb,h.2⟩
def Fqb {d:Dsk} {s:ByteArray} (h:DB d):LB (sy d s):=by
 unfold sy
 cases hg:gt d.1 s with
 |none=>exact h.2.cut s
 |some b=>exact(h.2.cut s).ins (h.1.gt hg)
def Eab {d:Dsk} {s:ByteArray} (h:DB d):DB (syD d s).1:=by
 unfold syD
 cases decide ((sy d s).length≤60) with
 |false=>exact h
 |true=>exact⟨h.1,Fqb h⟩
def Ebb {d:Dsk} {s:ByteArray} (h:DB d):DB (rmD d s).1:=by
 unfold rmD
 cases (gt d.1 s).isSome with
 |false=>exact h
 |true=>exact⟨h.1.cut s,h.2⟩
def Frb {d:Dsk} {s:ByteArray} {b:List Int} (h:DG d) (hs:B1 s=true) (hb:Ap b):DG (wrD d s b).1:=⟨Nja h.1 hs,Zla h.2 hb⟩
def Bub {d:Dsk} {s:ByteArray} (h:DG d) (hs:B1 s=true):DG (syD d s).1:=⟨E6b h.1 hs,Eab h.2⟩
def Tta {d:Dsk} {s:ByteArray} (h:DG d):DG (rmD d s).1:=⟨Zja h.1,Ebb h.2⟩
def Ecb {d:Dsk} {s:ByteArray} {f:Fil} (hd:DG d) (hs:B1 s=true) {x:Dsk×Int} (h:kp1 d s f=some x):DG x.1:=by
 refine⟨E7b hd.1 hs h,?_⟩
 have hw:∀ x,(bif (wrD d s (M8 f)).2 then some ((wrD d s (M8 f)).1,(0:Int)) else none)=some x→DB x.1:=by
  intro x h
  cases hc:(wrD d s (M8 f)).2 with
  |false=>rw[hc]at h;cases h
  |true=>rw[hc]at h;cases h;exact Zla hd.2 (Q7 f)
 unfold kp1 at h
 simp only at h
 split at h
 ·rename_i o _
  cases hc:sle o.1 f.1 with
  |false=>rw[hc]at h;cases h;exact hd.2
  |true=>rw[hc]at h;exact hw _ h
 ·exact hw _ h
def Fsb {d:Dsk} {s:ByteArray} {sure:Bool} (hd:DG d) (hs:B1 s=true) {x:Dsk×Int} (hx:DG x.1):DG (kp2 d s sure x).1:=by
 unfold kp2
 cases sure
 ·exact hx
 rw[cond_true]
 cases (syD x.1 s).2 with
 |false=>exact hd
 |true=>exact Bub hx hs
def Tua {d:Dsk} {s:ByteArray} {f:Fil} {sure:Bool} (hd:DG d) (hs:B1 s=true):DG (N7 d s f sure).1:=by
 unfold N7
 cases h:kp1 d s f with
 |none=>exact hd
 |some x=>exact Fsb hd hs (Ecb hd hs h)
def Zma {d:Dsk} {s:ByteArray} {f:Fil} {sure:Bool} (hd:DG d):DG (keep d s f sure).1:=by
 unfold keep
 cases h:B1 s
 ·rw[hd.1];exact hd
 cases Fk f with
 |false=>rw[hd.1];exact hd
 |true=>rw[hd.1];exact Tua hd h
def C7a (b:Int) (j:Nat):Int:=((ofInt 8 b ^^^ BitVec.twoPow 8 j).toNat:Int)
def Nma (b:Int) (j:Nat):0≤C7a b j∧C7a b j≤255:=by
 unfold C7a
 have:=(ofInt 8 b ^^^ BitVec.twoPow 8 j).isLt
 omega
def Bvb (b:Int):∀ j,j<8→wrap .u8 ((ofInt (IntKind.bits .u8) b ^^^ ofInt (IntKind.bits .u8) (wrap .u8 ((1:Int)*2 ^ (min j (IntKind.bits .u8))))).toNat)=C7a b j:=by
 intro j hj
 have h1:∀ j,j<8→ofInt 8 (wrap .u8 ((1:Int)*2 ^ (min j 8)))=BitVec.twoPow 8 j:=by decide
 show wrap .u8 (((ofInt 8 b ^^^ ofInt 8 (wrap .u8 ((1:Int)*2 ^ (min j 8)))).toNat:Nat):Int)=_
 rw[h1 j hj]
 have:=(ofInt 8 b ^^^ BitVec.twoPow 8 j).isLt
 rw[Hfa _ (by omega)]
 rfl
def Xia {b:Int} (hb:0≤b∧b≤255) {j:Nat} (hj:j<8):C7a b j≠b:=by
 intro h
 unfold C7a at h
 have h1:b=((ofInt 8 b).toNat:Int):=by rw[I5b];omega
 have h2:(ofInt 8 b ^^^ BitVec.twoPow 8 j).toNat=(ofInt 8 b).toNat:=by omega
 have h3:=Jnb h2
 have h4:BitVec.twoPow 8 j=0#8:=by
  have:=congrArg (λ x=>ofInt 8 b ^^^ x) h3
  simpa[← BitVec.xor_assoc] using this
 have h5:∀ j,j<8→BitVec.twoPow 8 j≠0#8:=by decide
 exact h5 j hj h4
def O7 (l:List Int) (n:Nat):List Int:=l.set (n/8) (C7a (l.getD (n/8) 0) (n % 8))
def Hwa (l:List Int) (n:Nat):(O7 l n).length=l.length:=by unfold O7;rw[Vz]
def Kwa {l:List Int} (h:Ap l) (n:Nat):Ap (O7 l n):=λ x hx=>by
 rcases Xs hx with h'|rfl
 ·exact h x h'
 ·exact Nma _ _
def J0a (d:Dsk) (s:ByteArray) (n:Int):Dsk×Bool:=match gt d.1 s with
 |none=>(d,false)
 |some b=>bif inR n 0 (8*(b.length:Int)-1) then ((wr d.1 s (O7 b n.toNat),bif decide (gt d.2 s=some b) then wr d.2 s (O7 b n.toNat) else d.2),true) else (d,false)
def Tva {l:List Nmd} (hs:Gx l) {s:ByteArray} {i:Nat} (h:fnd l s=some i) (b:List Int):l.set i (s,b)=wr l s b:=by
 obtain⟨hi,hn⟩:=P6 h
 have hm:(l.set i (s,b)).map Prod.fst=l.map Prod.fst:=by
  rw[List.map_set]
  apply Htb
  intro j
  by_cases hj:i=j
  ·subst hj
   rw[Idb (by rw[Wh];exact hi),H2b,Vk hi]
   rw[Ve,Vk hi]at hn
   exact congrArg some hn.symm
  ·rw[Hub hj]
 have h1:Gx (l.set i (s,b)):=by
  have e:∀ m:List Nmd,Gx m↔(m.map Prod.fst).Pairwise (λ a b=>tlt a b=true):=λ m=>by
   unfold Gx
   rw[Gwb]
  rw[e,hm,← e]
  exact hs
 refine Zia h1 (Sq (O5 hs) B4a) λ t=>?_
 have h2:=Zha (x:=(s,b)) (t:=t) (O5 hs (s:=s)) B4a
 unfold wr
 rw[h2]
 by_cases ht:s=t
 ·subst ht
  rw[if_pos rfl,Hua h1]
  exact List.mem_set hi _
 ·rw[if_neg ht,Ut hs,if_neg ht]
  cases hg:gt l t with
  |none=>
   refine O6.2 λ x hx=>?_
   rcases Xs hx with h'|rfl
   ·exact O6.1 hg x h'
   ·exact ht
  |some c=>
   rw[Hua h1]
   obtain⟨j,hj,e⟩:=Zw.1 (Pj hg)
   have hij:i≠j:=by
    rintro rfl
    rw[Ve,Vk hi,Yq,e]at hn
    exact ht hn.symm
   refine Zw.2 ⟨j,by rw[Vz];exact hj,?_⟩
   rw[List.getElem_set_ne hij]
   exact e
def Hxa {l:List Nmd} {s:ByteArray} {b:List Int} (hs:Gx l) (h:(gt l s).isSome=true):(wr l s b).length=l.length:=by
 rw[B9a]at h
 obtain⟨i,hi⟩:=Zk.1 h
 rw[← Tva hs hi,Vz]
def Edb {d:Dsk} {s:ByteArray} {n:Int} (h:DG d):DG (J0a d s n).1:=by
 unfold J0a
 cases hg:gt d.1 s with
 |none=>exact h
 |some b=>
  simp only
  cases inR n 0 (8*(b.length:Int)-1)
  ·exact h
  have hn:=Pka h.1 (s:=s) (by rw[hg];rfl)
  have hb:=Zka h.1 hg
  have hbb:=Kwa (h.2.1.gt hg) n.toNat
  have l1:=Hxa (b:=O7 b n.toNat) (Na h.1) (s:=s) (by rw[hg];rfl)
  have q1:=Btb h.1 hn (b:=O7 b n.toNat) (by rw[Hwa];exact hb) (by rw[l1];exact(Ah.1 (Dm.1 h.1).1).2.2)
  rw[cond_true]
  cases hc:decide (gt d.2 s=some b)
  ·exact⟨q1,(h.2.1.cut s).ins hbb,h.2.2⟩
  have hg2:=of_decide_eq_true hc
  have l2:=Hxa (b:=O7 b n.toNat) (Qy h.1) (s:=s) (by rw[hg2];rfl)
  have h':Aj (d.2,d.1)=true:=Dm.2 ⟨(Dm.1 h.1).2,(Dm.1 h.1).1⟩
  have q2:=Btb h' hn (b:=O7 b n.toNat) (by rw[Hwa];exact hb) (by show (wr d.2 s _).length≤60;rw[l2];exact(Ah.1 (Dm.1 h.1).2).2.2)
  exact⟨Dm.2 ⟨(Dm.1 q1).1,(Dm.1 q2).1⟩,(h.2.1.cut s).ins hbb,(h.2.2.cut s).ins hbb⟩
def Bwb {d:Dsk} {s:ByteArray} {n:Int} (h:DG d) (hn:n≤9223372036854775807) (hn0 : -9223372036854775808≤n):Tot (λ k=>Kt k d s n) (λ r=>r=J0a d s n):=by
 have hin:=Ni h.1
 unfold Kt
 refine Gtb (Mf d hin.1.1) ?_
 refine Gtb (Dca d.1 s hin.1.1.1.1) ?_
 refine Gtb (Qr d hin.1.1 hin.1.2) ?_
 rw[h.1]
 refine Gkb rfl ?_
 unfold J0a
 unfold Hia
 cases hf:fnd d.1 s with
 |none=>
  have hg:gt d.1 s=none:=by unfold gt;rw[hf]
  rw[hg]
  exact Gmb (by decide) (Gib rfl)
 |some i=>
  have hg:gt d.1 s=some (d.1.getD i D6).2:=by unfold gt;rw[hf]
  have hi:=(P6 hf).1
  have hnm:=(P6 hf).2
  have hb:=Zka h.1 hg
  rw[hg]
  have e0:d.1.getD i ((⟨#[]⟩:ByteArray),([]:List Int))=d.1.getD i D6:=rfl
  simp only[Vb,e0]
  refine Gnb (by omega) (Gmb (by omega) (Gmb (by omega) ?_))
  rw[w64 (n:=8*((d.1.getD i D6).2.length:Int)) (by omega) (by omega),w64 (n:=8*((d.1.getD i D6).2.length:Int)-1) (by omega) (by omega)]
  refine Gtb (Gub (Q:=λ b=>b=inR n 0 (8*((d.1.getD i D6).2.length:Int)-1)) (Oj _ _ _) rfl) ?_
  cases hr:inR n 0 (8*((d.1.getD i D6).2.length:Int)-1)
  ·exact Glb rfl (Gib rfl)
  obtain⟨n0,n1⟩:=Eb.1 hr
  obtain⟨m,rfl⟩:∃ m:Nat,n=(m:Int):=⟨n.toNat,by omega⟩
  have hm8:m/8<(d.1.getD i D6).2.length:=by omega
  have et:wrap .i64 (Int.tdiv (m:Int) 8)=((m/8:Nat):Int):=by
   rw[H6b (by omega),w64 (by omega) (by omega)]
   omega
  have eu:wrap .u64 (Int.tmod (m:Int) 8)=((m % 8:Nat):Int):=by
   have h8:∀ j:Nat,j<8→wrap .u64 (j:Int)=(j:Int):=by decide
   rw[Zz (by omega),← h8 (m % 8) (by omega)]
   congr 1
  refine Gkb rfl (Gtb (Dca d.2 s hin.1.1.2.1) ?_)
  simp only[et,eu,Vb,Bvb _ _ (Jrb m (show 0<8 by omega))]
  have ew:d.1.set i ((d.1.getD i D6).1,O7 (d.1.getD i D6).2 m)=wr d.1 s (O7 (d.1.getD i D6).2 m):=by rw[hnm];exact Tva (Na h.1) hf _
  have ew':d.1.set i ((d.1.getD i D6).1,(d.1.getD i D6).2.set (m/8) (C7a ((d.1.getD i D6).2.getD (m/8) 0) (m % 8)))=wr d.1 s (O7 (d.1.getD i D6).2 m):=ew
  unfold Hia
  cases hf2:fnd d.2 s with
  |none=>
   have hg2:gt d.2 s=none:=by unfold gt;rw[hf2]
   rw[hg2]
   refine Gnb (by decide) (Gmb (by omega) (Gmb (by omega) (Gmb (by omega) (Gmb (by omega) (Gnb (by omega) (Gmb (by omega) (Gmb (by omega) (Gib ?_))))))))
   rw[ew']
   rfl
  |some j=>
   have hg2:gt d.2 s=some (d.2.getD j D6).2:=by unfold gt;rw[hf2]
   have hj:=(P6 hf2).1
   have hjn:=(P6 hf2).2
   have e1:d.2.getD j ((⟨#[]⟩:ByteArray),([]:List Int))=d.2.getD j D6:=rfl
   rw[hg2]
   simp only[Vb,e1]
   refine Gmb (by omega) (Gmb (by omega) (Gmb (by omega) (Gmb (by omega) (Gmb (by omega) (Gmb (by omega) (Gmb (by omega) (Gmb (by omega) (Gmb (by omega) (Gnb (by omega) (Gmb (by omega) (Gmb (by omega) ?_)))))))))))
   rw[B7a (h.2.2.gt hg2) (h.2.1.gt hg)]
   refine Gpb (λ he=>?_) (λ he=>?_)
   ·have hl2:(d.2.getD j D6).2.length=(d.1.getD i D6).2.length:=by rw[he]
    refine Gmb (by omega) (Gmb (by omega) (Gmb (by omega) (Gmb (by omega) (Gnb (by omega) (Gmb (by omega) (Gmb (by omega) (Gib ?_)))))))
    have ew2:d.2.set j ((d.2.getD j D6).1,(d.2.getD j D6).2.set (m/8) (C7a ((d.2.getD j D6).2.getD (m/8) 0) (m % 8)))=wr d.2 s (O7 (d.1.getD i D6).2 m):=by
     rw[hjn,he]
     exact Tva (Qy h.1) hf2 _
    rw[ew',ew2,he,decide_eq_true rfl]
    rfl
   ·refine Gib ?_
    rw[ew',decide_eq_false (λ c=>he (Option.some.inj c))]
    rfl
def Pla:∀ (n:Nat) (i:Int) (c:Cur) (a0 a1:List Nmd) (d:Dsk),i=n→n≤6→Db c→DG d→
  Tot (λ k=>B3 k i c.1 c.2.1 c.2.2 a0 a1 d.1 d.2) (λ r=>DG (r.2.2.1,r.2.2.2.1)∧Db r.2.2.2.2):=by
 intro n
 induction n with
 |zero=>
  intro i c a0 a1 d hi h6 hc hd
  refine Tot.succ ?_
  simp only[B3]
  exact Gnb (by omega) (Gib ⟨hd,hc⟩)
 |succ n ih=>
  intro i c a0 a1 d hi h6 hc hd
  refine Tot.succ ?_
  simp only[B3]
  refine Gmb (by omega) ?_
  rw[w64 (n:=i-1) (by omega) (by omega)]
  obtain⟨s,c1,e1,hs,k1⟩:=P4 c hc
  refine Gtb (Gub (Q:=λ r=>r=(s,c1)) e1 rfl) ?_
  obtain⟨x,c2,e2,_,_,_,k2⟩:=Az c1 k1 6 (by decide)
  refine Gtb (Gub (Q:=λ r=>r=(x,c2)) e2 rfl) ?_
  dsimp only
  obtain⟨hsh,hsn⟩:=Mm s hs
  have wr:Tot (λ k=>(Ck k c2).bind λ r5=>(Bm k r5.1).bind λ r6=>(Bf k (d.1,d.2) s r6).bind λ r7=>B3 k (i-1) r5.2.1 r5.2.2.1 r5.2.2.2 a0 a1 r7.1.1 r7.1.2) (λ r=>DG (r.2.2.1,r.2.2.2.1)∧Db r.2.2.2.2):=by
   refine Gjb (Q4 c2 k2) (λ f hf=>?_)
   refine Gtb (Tl f.1) ?_
   refine Gtb (Dha hd.1 hsn (by have:=Y8 f.1;omega)) ?_
   exact ih (i-1) f.2 a0 a1 _ (by omega) (by omega) hf.2 (Frb hd hsn (Q7 _))
  have sy:Tot (λ k=>(Am k (d.1,d.2) s).bind λ r4=>B3 k (i-1) c2.1 c2.2.1 c2.2.2 a0 a1 r4.1.1 r4.1.2) (λ r=>DG (r.2.2.1,r.2.2.2.1)∧Db r.2.2.2.2):=by
   refine Gtb (Uu hd.1 hsn) ?_
   exact ih (i-1) c2 a0 a1 _ (by omega) (by omega) k2 (Bub hd hsn)
  refine Gob (λ _=>?_) (λ _=>Gob (λ h=>Gob (λ _=>sy) (λ _=>wr)) (λ _=>Gob (λ _=>sy) (λ _=>wr)))
  refine Gtb (Tn hd.1 hsh) ?_
  exact ih (i-1) c2 a0 a1 _ (by omega) (by omega) k2 (Tta hd)
def lb0:LB []:=λ x hx=>by cases hx
def dg0:DG ([],[]):=⟨by decide,⟨lb0,lb0⟩⟩
def Bxb (c:Cur) (hc:Db c):Tot (λ k=>Fm k c) (λ r=>DG r.1∧Db r.2):=by
 unfold Fm
 obtain⟨x,c2,e2,h0,h1,_,k2⟩:=Az c hc 7 (by decide)
 have h1:=h1 (by decide)
 refine Gtb (Gub (Q:=λ r=>r=(x,c2)) e2 rfl) ?_
 exact Gjb (Pla x.toNat x c2 [] [] ([],[]) (by omega) (by omega) k2 dg0) (λ r hr=>Gib hr)
def Zna {l:List Nmd} {x:Nmd} (h:LB l) (hx:Ap x.2):LB (l++[x]):=λ y hy=>by
 rcases Vo.1 hy with hy|hy
 ·exact h y hy
 ·rw[Vu.1 hy];exact hx
def Hya (n:Nat):Ap (List.replicate n 0):=λ x hx=>by
 rw[List.eq_of_mem_replicate hx]
 omega
def Eeb (c:Cur) (hc:Db c):Tot (λ k=>Kd k c) (λ r=>(DIn r.1∧DB r.1)∧Db r.2):=by
 have h0:=Xba c hc
 have h1:Tot (λ k=>Kd k c) (λ r=>DB r.1):=by
  unfold Kd
  refine Gjb (Bxb c hc) (λ d hd=>?_)
  obtain⟨hd,k0⟩:=hd
  have hin:=Ni hd.1
  have g1:=(Ah.1 (Dm.1 hd.1).1).2.2
  have g2:=(Ah.1 (Dm.1 hd.1).2).2.2
  obtain⟨x,c2,e2,_,_,_,k2⟩:=Az d.2 k0 12 (by decide)
  refine Gtb (Gub (Q:=λ r=>r=(x,c2)) e2 rfl) ?_
  refine Gob (λ _=>?_) (λ _=>Gob (λ _=>?_) (λ _=>Gib hd.2))
  ·obtain⟨s,c3,e3,hs,k3⟩:=Qu c2 k2
   refine Gtb (Gub (Q:=λ r=>r=(s,c3)) e3 rfl) ?_
   exact Gqb (by simp only[Vc,Vh];omega) (Gib ⟨Zna hd.2.1 Nq,hd.2.2⟩)
  ·obtain⟨s,c3,e3,hs,k3⟩:=Qu c2 k2
   refine Gtb (Gub (Q:=λ r=>r=(s,c3)) e3 rfl) ?_
   obtain⟨y,c4,e4,y0,y1,_,k4⟩:=Az c3 k3 2 (by decide)
   have y1:=y1 (by decide)
   refine Gtb (Gub (Q:=λ r=>r=(y,c4)) e4 rfl) ?_
   dsimp only
   rw[w64 (n:=400+y) (by omega) (by omega)]
   exact Gmb rfl (Gmb (by omega) (Gmb (by omega) (Gqb (by simp only[Vc,Vh];omega) (Gib ⟨hd.2.1,Zna hd.2.2 (Hya _)⟩))))
 exact(h0.and h1).mono λ r h=>⟨⟨h.1.1,h.2⟩,h.1.2⟩
def Nna (c:Cur) (hc:Db c):∃ x c',Jj c=some (x,c')∧Db c':=by
 obtain⟨s,c1,e1,hs,k1⟩:=H6a c hc
 obtain⟨x,c2,e2,_,_,_,k2⟩:=Az c1 k1 10 (by decide)
 unfold Jj
 simp only[e1,e2,Vn]
 cases x==0 with
 |true=>
  obtain⟨y,c3,e3,_,k3⟩:=Ls c2 k2 [(-1),1000000001] (by decide) (by decide)
  exact⟨(y,s.2),c3,by simp only[e3,Vn,cond_true],k3⟩
 |false=>
  cases x==1 with
  |true=>
   obtain⟨y,c3,e3,_,k3⟩:=Ls c2 k2 [(-1),1000000,1000001] (by decide) (by decide)
   exact⟨(s.1,y,s.2.2),c3,by simp only[e3,Vn,cond_true,cond_false],k3⟩
  |false=>
   cases x==2 with
   |true=>
    obtain⟨y,c3,e3,_,k3⟩:=Ls c2 k2 [(-1),20,21] (by decide) (by decide)
    exact⟨(s.1,s.2.1,y),c3,by simp only[e3,Vn,cond_true,cond_false],k3⟩
   |false=>exact⟨s,c2,by simp only[cond_false],k2⟩
def Twa (c:Cur) (hc:Db c):Tot (λ k=>Ld k c) (λ r=>(Ap r.1.2.2∧r.1.2.2.length≤2000000)∧Db r.2):=by
 unfold Ld
 refine Gjb (Q4 c hc) ?_
 rintro⟨f,c1⟩ ⟨hf,k1⟩
 have hl:f.2.2.length≤9:=by have:=hf.2.2.1;dsimp only at this;omega
 obtain⟨x,c2,e2,_,_,_,k2⟩:=Az c1 k1 12 (by decide)
 refine Gtb (Gub (Q:=λ r=>r=(x,c2)) e2 rfl) ?_
 refine Gob (λ _=>?_) (λ _=>Gob (λ _=>Gib ⟨⟨hf.2.1,by dsimp only;omega⟩,k2⟩) (λ _=>Gob (λ _=>?_) (λ _=>Gib ⟨⟨hf.2.1,by dsimp only;omega⟩,k2⟩)))
 ·obtain⟨y,c3,e3,k3⟩:=Nna c2 k2
  refine Gtb (Gub (Q:=λ r=>r=(y,c3)) e3 rfl) ?_
  exact Gib ⟨⟨hf.2.1,by dsimp only;omega⟩,k3⟩
 ·obtain⟨y,c4,e4,y0,y1,_,k4⟩:=Az c2 k2 2 (by decide)
  have y1:=y1 (by decide)
  refine Gtb (Gub (Q:=λ r=>r=(y,c4)) e4 rfl) ?_
  dsimp only
  rw[w64 (n:=200+y) (by omega) (by omega)]
  exact Gmb rfl (Gmb (by omega) (Gmb (by omega) (Gib ⟨⟨Hya _,by dsimp only;rw[List.length_replicate];omega⟩,k4⟩)))

section
variable {d:Dsk} {s:ByteArray} {f:Fil} {sure:Bool}
def Xja (a:Stp):sle a a=false:=Ot a
def Hza (h1:Aj d=true) (h2:B1 s=true) (h3:Fk f=true):keep d s f sure=N7 d s f sure:=by unfold keep;rw[h1,h2,h3];rfl
def I0a {x:Dsk} {c:Int}:(kp2 d s sure (x,c)=(d,3))∨(sure=false∧kp2 d s sure (x,c)=(x,c))∨(sure=true∧(sy x s).length≤60∧kp2 d s sure (x,c)=((x.1,sy x s),c)):=by
 unfold kp2 syD
 cases sure
 ·exact .inr (.inl ⟨rfl,rfl⟩)
 rw[cond_true]
 by_cases h:(sy x s).length≤60
 ·rw[decide_eq_true h]
  exact .inr (.inr ⟨rfl,h,rfl⟩)
 ·rw[decide_eq_false h]
  exact .inl rfl
def Txa (hd:DG d) (hs:B1 s=true):kp1 d s f=none∨(∃ o,old d s=some o∧sle o.1 f.1=false∧kp1 d s f=some (d,1))∨((∀ o,old d s=some o→sle o.1 f.1=true)∧(wr d.1 s (M8 f)).length≤60∧kp1 d s f=some ((wr d.1 s (M8 f),d.2),0)):=by
 have hl:(M8 f).length≤400:=by have:=Y8 f;omega
 have w:(bif (wrD d s (M8 f)).2 then some ((wrD d s (M8 f)).1,(0:Int)) else none)=none∨((wr d.1 s (M8 f)).length≤60∧(bif (wrD d s (M8 f)).2 then some ((wrD d s (M8 f)).1,(0:Int)) else none)=some ((wr d.1 s (M8 f),d.2),0)):=by
  unfold wrD
  rw[decide_eq_true hl,Wc]
  by_cases h:(wr d.1 s (M8 f)).length≤60
  ·rw[decide_eq_true h];exact .inr ⟨h,rfl⟩
  ·rw[decide_eq_false h];exact .inl rfl
 unfold kp1
 cases ho:old d s with
 |none=>
  rcases w with h|⟨h1,h2⟩
  ·exact .inl h
  ·exact .inr (.inr ⟨λ o h=>(by cases h),h1,h2⟩)
 |some o=>
  simp only
  cases hc:sle o.1 f.1
  ·exact .inr (.inl ⟨o,rfl,hc,rfl⟩)
  rcases w with h|⟨h1,h2⟩
  ·exact .inl h
  ·exact .inr (.inr ⟨λ o' h=>(by cases h;exact hc),h1,h2⟩)
def Dia (hd:DG d) (hs:B1 s=true):N7 d s f sure=(d,3)∨
  (∃ o,old d s=some o∧sle o.1 f.1=false∧(N7 d s f sure).2=1∧DG (N7 d s f sure).1∧((sure=false∧(N7 d s f sure).1=d)∨(sure=true∧(N7 d s f sure).1=(d.1,sy d s))))∨
  ((∀ o,old d s=some o→sle o.1 f.1=true)∧DG (wr d.1 s (M8 f),d.2)∧(N7 d s f sure).2=0∧DG (N7 d s f sure).1∧((sure=false∧(N7 d s f sure).1=(wr d.1 s (M8 f),d.2))∨(sure=true∧(N7 d s f sure).1=(wr d.1 s (M8 f),sy (wr d.1 s (M8 f),d.2) s)))):=by
 have hg:=Tua (f:=f) (sure:=sure) hd hs
 rcases Txa (f:=f) hd hs with h|⟨o,h1,h2,h⟩|⟨h1,h2,h⟩
 ·exact .inl (by unfold N7;rw[h])
 ·have e:N7 d s f sure=kp2 d s sure (d,1):=by unfold N7;rw[h]
  rcases I0a (d:=d) (s:=s) (sure:=sure) (x:=d) (c:=1) with k|⟨k0,k⟩|⟨k0,k1,k⟩
  ·exact .inl (e.trans k)
  ·rw[← e]at k
   exact .inr (.inl ⟨o,h1,h2,by rw[k],hg,.inl ⟨k0,by rw[k]⟩⟩)
  ·rw[← e]at k
   exact .inr (.inl ⟨o,h1,h2,by rw[k],hg,.inr ⟨k0,by rw[k]⟩⟩)
 ·have e:N7 d s f sure=kp2 d s sure ((wr d.1 s (M8 f),d.2),0):=by unfold N7;rw[h]
  have hw:=Ecb hd hs h
  rcases I0a (d:=d) (s:=s) (sure:=sure) (x:=(wr d.1 s (M8 f),d.2)) (c:=0) with k|⟨k0,k⟩|⟨k0,k1,k⟩
  ·exact .inl (e.trans k)
  ·rw[← e]at k
   exact .inr (.inr ⟨h1,hw,by rw[k],hg,.inl ⟨k0,by rw[k]⟩⟩)
  ·rw[← e]at k
   exact .inr (.inr ⟨h1,hw,by rw[k],hg,.inr ⟨k0,by rw[k]⟩⟩)
def Kxa {l:List Nmd} (hs:Gx l) {s t:ByteArray} {b:List Int}:gt (wr l s b) t=if s=t then some b else gt l t:=by
 unfold wr
 rw[Zha (x:=(s,b)) (O5 hs) B4a]
 by_cases h:s=t
 ·rw[if_pos h,if_pos h]
 ·rw[if_neg h,if_neg h,Ut hs,if_neg h]
def Kya (hd:Aj d=true) {t:ByteArray}:gt (sy d s) t=if s=t then gt d.1 s else gt d.2 t:=by
 unfold sy
 cases h:gt d.1 s with
 |none=>rw[Ut (Qy hd)]
 |some b=>rw[Kxa (Qy hd)]
def Tya (hd:DG d) (hs:B1 s=true) (hf:Fk f=true) (hb:Ap f.2.2) (h:(N7 d s f true).2=0∨(N7 d s f true).2=1):
  ∃ o g b,DG o∧DG (N7 d s f true).1∧(N7 d s f true).1=(o.1,sy o s)∧gt o.1 s=some b∧Ol b=some g∧sle g.1 f.1=false:=by
 rcases Dia (f:=f) (sure:=true) hd hs with k|⟨o,h1,h2,k,hg,h3⟩|⟨h1,h2,k,hg,h3⟩
 ·rw[k]at h;rcases h with h|h<;>cases h
 ·rcases h3 with⟨h3,_⟩|⟨_,h3⟩
  ·cases h3
  ·have ho:(gt d.1 s).bind Ol=some o:=h1
   cases hg1:gt d.1 s with
   |none=>rw[hg1]at ho;cases ho
   |some b=>
    rw[hg1]at ho
    exact⟨d,o,b,hd,hg,h3,hg1,ho,h2⟩
 ·rcases h3 with⟨h3,_⟩|⟨_,h3⟩
  ·cases h3
  ·exact⟨(wr d.1 s (M8 f),d.2),f,M8 f,h2,hg,h3,by show gt (wr d.1 s (M8 f)) s=_;rw[Kxa (Na hd.1),if_pos rfl],Y9 hf hb,Xja _⟩
end

abbrev Nod:=Int×Dsk×List Row×List Row
def qOk (l:List Row):Bool:=l.all No
def Mx (n:Nod):Bool:=qOk n.2.2.2&&(inR n.1 0 20&&(Aj n.2.1&&(Kj n.2.2.1&&decide ((n.2.2.2.length:Int)≤60))))
def RF (l:List Row):Prop:=l.length≤2000000∧Qp l
def NIn (n:Nod):Prop:=(DIn n.2.1∧DB n.2.1)∧RF n.2.2.1∧RF n.2.2.2
def NG (n:Nod):Prop:=Mx n=true∧DB n.2.1
def C8 {n:Nod}:Mx n=true↔(∀ r∈n.2.2.2,No r=true)∧(0≤n.1∧n.1≤20)∧Aj n.2.1=true∧Kj n.2.2.1=true∧n.2.2.2.length≤60:=by
 unfold Mx qOk
 simp only[Va,Yr,Eb,decide_eq_true_iff]
 constructor
 ·rintro⟨h1,h2,h3,h4,h5⟩;exact⟨h1,h2,h3,h4,by omega⟩
 ·rintro⟨h1,h2,h3,h4,h5⟩;exact⟨h1,h2,h3,h4,by omega⟩
def Baa {l:List Row} (h:Kj l=true):RF l:=by
 obtain⟨_,h2,h3⟩:=O3.1 h
 exact⟨by omega,λ r hr=>Ja (Dba (h2 r hr))⟩
def Sy {n:Nod} (h:NG n):NIn n:=by
 obtain⟨h1,_,h3,h4,h5⟩:=C8.1 h.1
 exact⟨⟨Ni h3,h.2⟩,Baa h4,by omega,λ r hr=>Ja (Dba (h1 r hr))⟩
def NG.g {n:Nod} (h:NG n):DG n.2.1:=⟨(C8.1 h.1).2.2.1,h.2⟩
def Noa (n:Nod) (hn:NIn n):Tot (λ k=>Ej k n) (λ r=>r=Mx n):=by
 obtain⟨i,⟨a,b⟩,ro,q⟩:=n
 obtain⟨⟨hd,_⟩,hr,hq⟩:=hn
 dsimp only at hd hr hq
 unfold Ej
 have hl:=hq.1
 refine Gjb (Q:=λ r=>r=bif qOk q then .inr (i,a,b,ro,q) else .inl false) ?_ ?_
 ·refine Grb (L:=λ k i' (_:Unit)=>Hg k q (q.length:Int) i' i a b ro q) (Q:=λ r=>r=bif qOk q then .inr (i,a,b,ro,q) else .inl false) q.length (λ j _=>(q.drop j).all No=q.all No) ?_ ?_ 0 () (Vs _) (by rw[Wf])
  ·intro _ hj
   rw[Wi]at hj
   simp only[Hg]
   exact Gnb (by omega) (Gib (by unfold qOk;rw[← hj];rfl))
  ·intro j _ hj hi next
   simp only[Hg]
   rw[Af (d:=Lq) hj,Gxb]at hi
   refine Gmb (by omega) (Gmb (by omega) (Gmb (by omega) ?_))
   rw[Vb,w64 (n:=(j:Int)+1) (by omega) (by omega)]
   refine Gtb (Sza (q.getD j Lq) (hq.2 _ (A4 hj))) ?_
   cases hc:No (q.getD j Lq) with
   |false=>exact Glb rfl (Gib (by unfold qOk;rw[← hi,hc];rfl))
   |true=>exact Gkb rfl (next () (by rw[hc,Wc]at hi;exact hi))
 ·rintro r rfl
  unfold Mx
  dsimp only
  cases qOk q
  ·exact Gib rfl
  simp only[cond_true,Hbb,Wc]
  refine Gtb (Gub (Q:=λ r=>r=inR i 0 20) (Uk _ _ _) rfl) ?_
  cases inR i 0 20
  ·exact Gkb rfl (Gib rfl)
  refine Glb rfl (Gtb (Sp (a,b) hd.1.1 hd.1.2) ?_)
  cases Aj (a,b)
  ·exact Gkb rfl (Gib rfl)
  refine Glb rfl (Gtb (Mya ro (by have:=hr.1;unfold Few;omega) hr.2) ?_)
  cases Kj ro with
  |false=>exact Gkb rfl (Gib rfl)
  |true=>exact Glb rfl (Gib rfl)
def Yz (n:Nod) (hn:NIn n):Tot (λ k=>C4 k n) (λ r=>r=Mx n):=by
 obtain⟨i,⟨a,b⟩,ro,q⟩:=n
 obtain⟨⟨hd,_⟩,hr,hq⟩:=hn
 dsimp only at hd hr hq
 unfold C4
 have hl:=hq.1
 refine Gjb (Q:=λ r=>r=bif qOk q then .inr (i,a,b,ro,q) else .inl false) ?_ ?_
 ·refine Grb (L:=λ k i' (_:Unit)=>Hm k i' i a b ro q) (Q:=λ r=>r=bif qOk q then .inr (i,a,b,ro,q) else .inl false) q.length (λ j _=>(q.drop j).all No=q.all No) ?_ ?_ 0 () (Vs _) (by rw[Wf])
  ·intro _ hj
   rw[Wi]at hj
   simp only[Hm]
   exact Gnb (by omega) (Gib (by unfold qOk;rw[← hj];rfl))
  ·intro j _ hj hi next
   simp only[Hm]
   rw[Af (d:=Lq) hj,Gxb]at hi
   refine Gmb (by omega) (Gmb (by omega) (Gmb (by omega) ?_))
   rw[Vb,w64 (n:=(j:Int)+1) (by omega) (by omega)]
   refine Gtb (T0a (q.getD j Lq) (hq.2 _ (A4 hj))) ?_
   cases hc:No (q.getD j Lq) with
   |false=>exact Glb rfl (Gib (by unfold qOk;rw[← hi,hc];rfl))
   |true=>exact Gkb rfl (next () (by rw[hc,Wc]at hi;exact hi))
 ·rintro r rfl
  unfold Mx
  dsimp only
  cases qOk q
  ·exact Gib rfl
  simp only[cond_true,Hbb,Wc]
  refine Gtb (Gub (Q:=λ r=>r=inR i 0 20) (Oj _ _ _) rfl) ?_
  cases inR i 0 20
  ·exact Gkb rfl (Gib rfl)
  refine Glb rfl (Gtb (Qr (a,b) hd.1.1 hd.1.2) ?_)
  cases Aj (a,b)
  ·exact Gkb rfl (Gib rfl)
  refine Glb rfl (Gtb (Mza ro (by have:=hr.1;unfold Few;omega) hr.2) ?_)
  cases Kj ro with
  |false=>exact Gkb rfl (Gib rfl)
  |true=>exact Glb rfl (Gib rfl)
def Pk (n:Nod) (hn:NIn n):Tot (λ k=>Co k n) (λ r=>r=n):=by
 unfold Co
 have h1:=hn.2.1.1
 have h2:=hn.2.2.1
 refine Gtb (K7 n.2.1 hn.1.1.1.1) ?_
 refine Gtb (Gub (Q:=λ r=>r=n.2.2.1) (Uj _ (by unfold Few;omega)) rfl) ?_
 refine Gtb (Gub (Q:=λ r=>r=n.2.2.2) (Uj _ (by unfold Few;omega)) rfl) ?_
 exact Gib rfl
def Od (n:Nod) (hn:NIn n):Tot (λ k=>Bn k n) (λ r=>r=n):=by
 unfold Bn
 have h1:=hn.2.1.1
 have h2:=hn.2.2.1
 refine Gtb (Mf n.2.1 hn.1.1.1.1) ?_
 refine Gqb (by simp only[Vh];omega) (Gqb (by simp only[Vh];omega) (Gib ?_))
 rw[Vx,Vx]
def Pma (a b:List Row) (hf:a.length+b.length≤10000000000):Tot (λ k=>C2 k a b) (λ r=>r=Tv a b):=by
 unfold C2
 refine Gqb (by simp only[Vh];omega) ?_
 rw[Vx]
 refine Gjb (Q:=λ r=>r=Tv a b) ?_ (by rintro r rfl;exact Gib rfl)
 refine Grb (L:=λ k i s=>Dx k b s i) (Q:=λ r=>r=Tv a b) b.length (λ i s=>Tv s (b.drop i)=Tv a b∧s.length≤a.length+i) ?_ ?_ 0 a (Vs _) ⟨by rw[Wf],Nat.le_add_right _ _⟩
 ·rintro s ⟨hs,_⟩
  rw[Wi]at hs
  simp only[Dx]
  exact Gnb (by omega) (Gib hs)
 ·rintro i s hi ⟨hs,hl⟩ next
  simp only[Dx]
  refine Gmb (by omega) (Gmb (by omega) (Gmb (by omega) ?_))
  rw[Vb,w64 (n:=(i:Int)+1) (by omega) (by omega)]
  rw[Af (d:=Lq) hi]at hs
  refine Gtb (Hba s (b.getD i Lq) (by unfold Few;omega)) ?_
  have:=Kca s (b.getD i Lq)
  exact next _ ⟨hs,by omega⟩
def I1a (n:Nod) (l:List Row):Nod×Bool:=bif Mx n&&Kj l then (bif decide ((Tv n.2.2.1 l).length > 60) then (n,false) else ((n.1,n.2.1,Tv n.2.2.1 l,n.2.2.2),true)) else (n,false)
def Bba {a b:List Row} (ha:Kj a=true) (hb:Kj b=true) (h:(Tv a b).length≤60):Kj (Tv a b)=true:=by
 obtain⟨a1,a2,_⟩:=O3.1 ha
 obtain⟨b1,b2,_⟩:=O3.1 hb
 exact O3.2 ⟨Kia a1,λ r hr=>(N0a hr).elim (a2 r) (b2 r),h⟩
def Tza {n:Nod} {l:List Row} (hn:NG n):NG (I1a n l).1:=by
 unfold I1a
 rw[hn.1,Wc]
 cases hl:Kj l
 ·exact hn
 rw[cond_true]
 cases hc:decide ((Tv n.2.2.1 l).length > 60)
 case true=>exact hn
 obtain⟨h1,h2,h3,h4,h5⟩:=C8.1 hn.1
 exact⟨C8.2 ⟨h1,h2,h3,Bba h4 hl (by have:=of_decide_eq_false hc;omega),h5⟩,hn.2⟩
def Xka (n:Nod) (l:List Row) (hn:NIn n) (hl:RF l):Tot (λ k=>J2 k n l) (λ r=>r=I1a n l):=by
 have h1:=hn.2.1.1
 have h2:=hl.1
 unfold J2 I1a
 refine Gtb (Pk n hn) ?_
 refine Gtb (Noa n hn) ?_
 cases Mx n
 ·exact Glb rfl (Gib rfl)
 refine Gkb rfl (Gtb (Mya l (by unfold Few;omega) hl.2) ?_)
 cases Kj l
 ·exact Glb rfl (Gib rfl)
 refine Gkb rfl (Gtb (P7a n.2.2.1 l (by omega)) ?_)
 refine Gpb (λ h=>?_) (λ h=>?_)
 ·rw[decide_eq_true (show (Tv n.2.2.1 l).length > 60 by omega)]
  refine Gtb (Pk n hn) ?_
  exact Gib rfl
 ·rw[decide_eq_false (show ¬ (Tv n.2.2.1 l).length > 60 by omega)]
  exact Gib rfl
def Dja (n:Nod) (l:List Row) (h1:n.2.2.1.length≤2000000) (h2:l.length≤2000000):Tot (λ k=>Hj k n l) (λ r=>r=bif decide ((Tv n.2.2.1 l).length > 60) then (false,n) else (true,(n.1,n.2.1,Tv n.2.2.1 l,n.2.2.2))):=by
 unfold Hj Ig
 refine Gjb (Pma n.2.2.1 l (by omega)) ?_
 rintro r rfl
 refine Gpb (λ h=>?_) (λ h=>?_)
 ·rw[decide_eq_true (show (Tv n.2.2.1 l).length > 60 by omega)]
  exact Gib rfl
 ·rw[decide_eq_false (show ¬ (Tv n.2.2.1 l).length > 60 by omega)]
  exact Gib rfl
def Xla (n:Nod) (l:List Row) (hn:NIn n) (hl:RF l):Tot (λ k=>Ix k n l) (λ r=>r=I1a n l):=by
 have copy:Tot (λ k=>(Bn k n).bind λ r3=>some (r3,false)) (λ r=>r=(n,false)):=by
  refine Gtb (Od n hn) ?_
  exact Gib rfl
 unfold Ix I1a
 refine Gtb (Od n hn) ?_
 refine Gtb (Yz n hn) ?_
 cases Mx n
 ·exact Glb rfl copy
 refine Gkb rfl (Gtb (Mza l (by have:=hl.1;unfold Few;omega) hl.2) ?_)
 cases Kj l
 ·exact Glb rfl copy
 refine Gkb rfl (Gtb (Dja n l hn.2.1.1 hl.1) ?_)
 cases decide ((Tv n.2.2.1 l).length > 60) with
 |true=>exact Glb rfl copy
 |false=>exact Gkb rfl (Gib rfl)
def Bca (s:ByteArray) (f:Fil):Row:=(s,f.1,f.2.1,(f.2.2.length:Int))
def Xb (n:Nod) (s:ByteArray) (f:Fil) (sure:Bool):Nod×Int:=bif (n.2.2.2.length:Int)==60 then (n,3) else
 ((n.1,(keep n.2.1 s f sure).1,n.2.2.1,bif (keep n.2.1 s f sure).2==0&&sure then n.2.2.2++[Bca s f] else n.2.2.2),(keep n.2.1 s f sure).2)
def F6b (n:Nod) (s:ByteArray) (f:Fil) (sure:Bool):Nod×Int:=bif Mx n&&(B1 s&&Fk f) then Xb n s f sure else (n,2)
def Xma {s:ByteArray} {f:Fil} (hs:B1 s=true) (hf:Fk f=true):No (Bca s f)=true:=by
 obtain⟨h1,h2,h3⟩:=Km.1 hf
 unfold No Bca
 dsimp only
 rw[hs,h1,Eb.2 ⟨by omega,by omega⟩]
 cases hd:f.2.1 with
 |false=>rfl
 |true=>rw[h3 hd];rfl
def Npa {n:Nod} {s:ByteArray} {f:Fil} {sure:Bool} (hn:NG n) (hs:B1 s=true) (hf:Fk f=true):NG (Xb n s f sure).1:=by
 obtain⟨h1,h2,h3,h4,h5⟩:=C8.1 hn.1
 have hk:=Zma (s:=s) (f:=f) (sure:=sure) hn.g
 unfold Xb
 cases hl:((n.2.2.2.length:Int)==60)
 case true=>exact hn
 have hl':n.2.2.2.length≠60:=by
  intro e
  rw[e]at hl
  cases hl
 refine⟨C8.2 ⟨?_,h2,hk.1,h4,?_⟩,hk.2⟩
 ·show ∀ r∈bif (keep n.2.1 s f sure).2==0&&sure then n.2.2.2++[Bca s f] else n.2.2.2,No r=true
  cases (keep n.2.1 s f sure).2==0&&sure
  ·exact h1
  intro r hr
  rcases Vo.1 hr with hr|hr
  ·exact h1 r hr
  ·rw[Vu.1 hr];exact Xma hs hf
 ·show (bif (keep n.2.1 s f sure).2==0&&sure then n.2.2.2++[Bca s f] else n.2.2.2).length≤60
  cases (keep n.2.1 s f sure).2==0&&sure with
  |false=>exact h5
  |true=>rw[cond_true,Vd];simp only[Vc,Vh];omega
def Efb {n:Nod} {s:ByteArray} {f:Fil} {sure:Bool} (hn:NG n):NG (F6b n s f sure).1:=by
 unfold F6b
 cases hs:B1 s
 ·rw[hn.1];exact hn
 cases hf:Fk f with
 |false=>rw[hn.1];exact hn
 |true=>rw[hn.1];exact Npa hn hs hf
def I2a (n:Nod) (s:ByteArray) (f:Fil) (sure:Bool) (hn:NIn n) (hs:L9 s):Tot (λ k=>Ir k n s f sure) (λ r=>r=((Xb n s f sure).2,(Xb n s f sure).1)):=by
 have h1:=hn.2.2.1
 unfold Ir Kr Xb
 cases (n.2.2.2.length:Int)==60 with
 |true=>exact Glb rfl (Gib rfl)
 |false=>
  refine Gkb rfl (Gjb (Nla n.2.1 s f sure hn.1.1 hn.1.2.1 hs) ?_)
  rintro r rfl
  cases (keep n.2.1 s f sure).2==0 with
  |false=>exact Gkb rfl (Gib rfl)
  |true=>
   refine Glb rfl ?_
   cases sure with
   |false=>exact Gkb rfl (Gib rfl)
   |true=>
    refine Glb rfl (Gqb (by simp only[Vh];omega) ?_)
    refine Gjb (Gub (Q:=λ r=>r=Bca s f) (show J7 s f=some (Bca s f) from rfl) rfl) ?_
    rintro r rfl
    refine Gqb (by simp only[Vd,Vc,Vh];omega) (Gib ?_)
    rw[Vx]
    rfl
def Kza (n:Nod) (s:ByteArray) (f:Fil) (sure:Bool) (hn:NIn n) (hs:L9 s):Tot (λ k=>Jx k n s f sure) (λ r=>r=F6b n s f sure):=by
 unfold Jx F6b
 refine Gtb (Od n hn) ?_
 refine Gtb (Yz n hn) ?_
 cases Mx n
 ·exact Glb rfl (Gib rfl)
 refine Gkb rfl (Gtb (Ph s hs) ?_)
 cases B1 s
 ·exact Glb rfl (Gib rfl)
 refine Gkb rfl (Gtb (Gub (Q:=λ r=>r=Fk f) (Us f) rfl) ?_)
 cases Fk f
 ·exact Glb rfl (Gib rfl)
 refine Gkb rfl (Gtb (I2a n s f sure hn hs) ?_)
 exact Gib rfl
def L0a (n:Nod) (s:ByteArray) (b:Int):Nod×Bool:=bif Mx n&&((lkD n.2.1 s).2==0&&(J0a n.2.1 s b).2) then ((n.1,(J0a n.2.1 s b).1,n.2.2),true) else (n,false)
def U0a {n:Nod} {s:ByteArray} {b:Int} (hn:NG n):NG (L0a n s b).1:=by
 obtain⟨h1,h2,h3,h4,h5⟩:=C8.1 hn.1
 have hr:=Edb (s:=s) (n:=b) hn.g
 unfold L0a
 cases Mx n&&((lkD n.2.1 s).2==0&&(J0a n.2.1 s b).2) with
 |false=>exact hn
 |true=>exact⟨C8.2 ⟨h1,h2,hr.1,h4,h5⟩,hr.2⟩
def Bda (n:Nod) (s:ByteArray) (b:Int) (hn:NIn n) (h1:b≤9223372036854775807) (h0 : -9223372036854775808≤b):Tot (λ k=>Ff k n s b) (λ r=>r=L0a n s b):=by
 unfold Ff L0a
 refine Gtb (Od n hn) ?_
 refine Gtb (Yy hn.1.1.1.1.1 hn.1.2.1 s) ?_
 refine Gtb (Yz n hn) ?_
 cases h:Mx n
 ·exact Glb rfl (Gib rfl)
 refine Gkb rfl ?_
 cases hl:(lkD n.2.1 s).2==0
 ·exact Glb (by unfold bne;rw[hl];rfl) (Gib rfl)
 refine Gkb (by unfold bne;rw[hl];rfl) (Gtb (Bwb (NG.g ⟨h,hn.1.2⟩) h1 h0) ?_)
 cases (J0a n.2.1 s b).2 with
 |false=>exact Glb rfl (Gib rfl)
 |true=>exact Gkb rfl (Gib rfl)
def Pna:∀ (m:Nat) (i:Int) (c:Cur) (z:Nod) (n:Nod),i=m→m≤6→Db c→NG n→
  Tot (λ k=>Gb k i c.1 c.2.1 c.2.2 z.1 z.2.1.1 z.2.1.2 z.2.2.1 z.2.2.2 n.1 n.2.1.1 n.2.1.2 n.2.2.1 n.2.2.2) (λ r=>∃ c' n',Db c'∧NG n'∧r=(c'.1,c'.2.1,c'.2.2,z.1,z.2.1.1,z.2.1.2,z.2.2.1,z.2.2.2,n'.1,n'.2.1.1,n'.2.1.2,n'.2.2.1,n'.2.2.2)):=by
 intro m
 induction m with
 |zero=>
  intro i c z n hi h6 hc hn
  refine Tot.succ ?_
  simp only[Gb]
  exact Gnb (by omega) (Gib ⟨c,n,hc,hn,rfl⟩)
 |succ m ih=>
  intro i c z n hi h6 hc hn
  refine Tot.succ ?_
  simp only[Gb]
  refine Gmb (by omega) ?_
  rw[w64 (n:=i-1) (by omega) (by omega)]
  obtain⟨s,c1,e1,hs,k1⟩:=P4 c hc
  refine Gtb (Gub (Q:=λ r=>r=(s,c1)) e1 rfl) ?_
  refine Gjb (Q4 c1 k1) (λ f hf=>?_)
  obtain⟨b,c2,e2,k2⟩:=P3 f.2 hf.2 3 (by decide)
  refine Gtb (Gub (Q:=λ r=>r=(b,c2)) e2 rfl) ?_
  refine Gtb (Kza n s f.1 (!b) (Sy hn) (Mm s hs).1) ?_
  exact ih (i-1) c2 z _ (by omega) (by omega) k2 (Efb hn)
def Bo:Nod:=((0:Int),(([]:List Nmd),([]:List Nmd)),([]:List Row),([]:List Row))
def Bea (i:Int):H8 i=some (bif inR i 0 20 then (i,([],[]),[],[]) else Bo):=by
 unfold H8
 rw[Oj]
 simp only[Vn]
 cases inR i 0 20<;>rfl
def U1a {l:List Row} (h:Mwa l) (hl:l.length≤60):Kj l=true:=O3.2 ⟨h.1,λ r hr=>X5a (h.2 r hr),hl⟩
def U2a (c:Cur) (hc:Db c):Tot (λ k=>Fh k c) (λ r=>NG r.1∧Db r.2):=by
 unfold Fh
 obtain⟨x,c1,e1,x0,x1,_,k1⟩:=Az c hc 6 (by decide)
 have x1:=x1 (by decide)
 refine Gtb (Gub (Q:=λ r=>r=(x,c1)) e1 rfl) ?_
 refine Gtb (Gub (Q:=λ r=>r=(x,([],[]),[],[])) (by rw[Bea,Eb.2 ⟨by dsimp only;omega,by dsimp only;omega⟩];rfl) rfl) ?_
 obtain⟨y,c2,e2,y0,y1,_,k2⟩:=Az c1 k1 6 (by decide)
 have y1:=y1 (by decide)
 refine Gtb (Gub (Q:=λ r=>r=(y,c2)) e2 rfl) ?_
 have hn0:NG (x,(([]:List Nmd),([]:List Nmd)),([]:List Row),([]:List Row)):=⟨C8.2 ⟨(by simp),⟨by dsimp only;omega,by dsimp only;omega⟩,(show Aj ([],[])=true by decide),(show Kj []=true by decide),(by simp)⟩,λ x hx=>(by cases hx),λ x hx=>(by cases hx)⟩
 refine Gjb (Pna y.toNat y c2 Bo _ (by omega) (by omega) k2 hn0) ?_
 rintro r ⟨c3,n,k3,hn,rfl⟩
 have rot:∀ (n:Nod) (c:Cur),NG n→Db c→Tot (λ k=>(Bx c).bind λ r9=>(A3 r9.2 40).bind λ r10=>(Ff k n r9.1 r10.1).bind λ r11=>some (r11.1,r10.2)) (λ r=>NG r.1∧Db r.2):=by
  intro n c hn hc
  obtain⟨s,c1,e1,hs,k1⟩:=P4 c hc
  refine Gtb (Gub (Q:=λ r=>r=(s,c1)) e1 rfl) ?_
  obtain⟨x,c2,e2,x0,x1,_,k2⟩:=Az c1 k1 40 (by decide)
  have x1:=x1 (by decide)
  refine Gtb (Gub (Q:=λ r=>r=(x,c2)) e2 rfl) ?_
  refine Gtb (Bda n s x (Sy hn) (by omega) (by omega)) ?_
  exact Gib ⟨U0a hn,k2⟩
 obtain⟨b,c4,e4,k4⟩:=P3 c3 k3 2 (by decide)
 refine Gtb (Gub (Q:=λ r=>r=(b,c4)) e4 rfl) ?_
 refine Gob (λ _=>?_) (λ _=>?_)
 ·refine Gjb (Aua c4 k4) ?_
  rintro⟨l,c5⟩ ⟨k5,hl,hl5⟩
  refine Gtb (Xla n l (Sy hn) (Baa (U1a hl (by dsimp only at hl5;omega)))) ?_
  obtain⟨b,c6,e6,k6⟩:=P3 c5 k5 3 (by decide)
  refine Gtb (Gub (Q:=λ r=>r=(b,c6)) e6 rfl) ?_
  exact Gob (λ _=>rot _ c6 (Tza hn) k6) (λ _=>Gib ⟨Tza hn,k6⟩)
 ·obtain⟨b,c6,e6,k6⟩:=P3 c4 k4 3 (by decide)
  refine Gtb (Gub (Q:=λ r=>r=(b,c6)) e6 rfl) ?_
  exact Gob (λ _=>rot n c6 hn k6) (λ _=>Gib ⟨hn,k6⟩)
def Zoa {l:List Row} {x:Row} (h:RF l) (hl:l.length≤999) (hx:L9 x.1):RF (l++[x]):=by
 refine⟨by simp only[Vd,Vc,Vh];omega,λ y hy=>?_⟩
 rcases Vo.1 hy with hy|hy
 ·exact h.2 y hy
 ·rw[Vu.1 hy];exact hx
def Poa (z n:Nod) (hs:L9 ((⟨#[97]⟩:ByteArray))):∀ (m:Nat) (c:Cur) (q:List Row),61-q.length≤m→Db c→RF q→q.length≤61→
  Tot (λ k=>Gc k c.1 c.2.1 c.2.2 z.1 z.2.1.1 z.2.1.2 z.2.2.1 z.2.2.2 n.1 n.2.1.1 n.2.1.2 n.2.2.1 q) (λ r=>∃ c' q',Db c'∧RF q'∧r=(z.1,z.2.1.1,z.2.1.2,z.2.2.1,z.2.2.2,n.1,n.2.1.1,n.2.1.2,n.2.2.1,q',c'.1,c'.2.1,c'.2.2)):=by
 intro m
 induction m with
 |zero=>
  intro c q hm hc hq hl
  refine Tot.succ ?_
  simp only[Gc]
  obtain⟨x,c1,e1,x0,x1,_,k1⟩:=Az c hc 2 (by decide)
  have x1:=x1 (by decide)
  refine Gtb (Gub (Q:=λ r=>r=(x,c1)) e1 rfl) ?_
  dsimp only
  rw[w64 (n:=60+x) (by omega) (by omega)]
  exact Gnb (by omega) (Gib ⟨c1,q,k1,hq,rfl⟩)
 |succ m ih=>
  intro c q hm hc hq hl
  refine Tot.succ ?_
  simp only[Gc]
  obtain⟨x,c1,e1,x0,x1,_,k1⟩:=Az c hc 2 (by decide)
  have x1:=x1 (by decide)
  refine Gtb (Gub (Q:=λ r=>r=(x,c1)) e1 rfl) ?_
  dsimp only
  rw[w64 (n:=60+x) (by omega) (by omega)]
  refine Gpb (λ h=>Gqb (by simp only[Vc,Vh];omega) ?_) (λ h=>Gib ⟨c1,q,k1,hq,rfl⟩)
  exact ih c1 _ (by simp only[Vd,Vc,Vh];omega) k1 (Zoa hq (by omega) hs) (by simp only[Vd,Vc,Vh];omega)
def U3a (c:Cur) (hc:Db c):Tot (λ k=>Gd k c) (λ r=>NIn r.1∧Db r.2):=by
 unfold Gd
 refine Gjb (U2a c hc) ?_
 rintro⟨n,c1⟩ ⟨hg,k1⟩
 have hn:=Sy hg
 have hq60:=(C8.1 hg.1).2.2.2.2
 obtain⟨x,c2,e2,_,_,_,k2⟩:=Az c1 k1 12 (by decide)
 refine Gtb (Gub (Q:=λ r=>r=(x,c2)) e2 rfl) ?_
 refine Gob (λ _=>?_) (λ _=>Gob (λ _=>?_) (λ _=>Gob (λ _=>?_) (λ _=>Gob (λ _=>?_) (λ _=>Gob (λ _=>?_) (λ _=>Gib ⟨hn,k2⟩)))))
 ·obtain⟨y,c3,e3,_,k3⟩:=Ls c2 k2 [(-1),20,21] (by decide) (by decide)
  refine Gtb (Gub (Q:=λ r=>r=(y,c3)) e3 rfl) ?_
  exact Gib ⟨hn,k3⟩
 ·refine Gjb (Eeb c2 k2) (λ r hr=>Gib ⟨⟨hr.1,hn.2⟩,hr.2⟩)
 ·refine Gjb (Hha c2 k2) (λ r hr=>Gib ⟨⟨hn.1,⟨by have:=hr.2.1;dsimp only;omega,hr.2.2⟩,hn.2.2⟩,hr.1⟩)
 ·obtain⟨s,c3,e3,hs,k3⟩:=Qu c2 k2
  refine Gtb (Gub (Q:=λ r=>r=(s,c3)) e3 rfl) ?_
  exact Gqb (by dsimp only at hq60 ⊢;simp only[List.length_cons,List.length_nil];omega) (Gib ⟨⟨hn.1,hn.2.1,Zoa hn.2.2 (by dsimp only at hq60 ⊢;omega) hs⟩,k3⟩)
 ·refine Gjb (Poa Bo n (by unfold L9;decide) 61 c2 n.2.2.2 (by omega) k2 hn.2.2 (by dsimp only at hq60;omega)) ?_
  rintro r ⟨c3,q,k3,hq,rfl⟩
  exact Gib ⟨⟨hn.1,hn.2.1,hq⟩,k3⟩

abbrev Dev:=Int×Int×Int
abbrev Rng:=Int×List (List Int)
def Nu:Dev:=((0:Int),((0:Int),(0:Int)))
def Ou (l:List Int) (n:Int):Bool:=l.any (· == n)
def Sr {l:List Int} {n:Int}:Ou l n=true↔n∈l:=by
 unfold Ou
 rw[Ilb]
 constructor
 ·rintro⟨x,hx,e⟩;rw[← eq_of_beq e];exact hx
 ·intro h;exact⟨n,h,beq_self_eq_true n⟩
def U4a (l:List Int) (n:Int) (hl:l.length≤4000000000000000):Tot (λ k=>I9 k l n) (λ r=>r=Ou l n):=by
 unfold I9
 refine Gjb (Q:=λ r=>r=bif Ou l n then .inl true else .inr ()) ?_ (by rintro r rfl;cases Ou l n<;>exact Gib rfl)
 refine Grb (L:=λ k i (_:Unit)=>Hd k n l (l.length:Int) i) (Q:=λ r=>r=bif Ou l n then .inl true else .inr ()) l.length (λ j _=>Ou (l.drop j) n=Ou l n) ?_ ?_ 0 () (Vs _) rfl
 ·intro _ h
  rw[Wi]at h
  simp (disch:=omega) only [Hd,dF,← h]
  exact Gib rfl
 ·intro j _ hj h next
  rw[Af (d:=0) hj]at h
  simp (disch:=omega) only [Hd,dT,Vb,w64]
  unfold Ou at h
  rw[Jdb]at h
  refine Gob (λ hc=>Gib ?_) (λ hc=>next () ?_)
  ·rw[hc,Jlb]at h
   unfold Ou
   rw[← h]
   rfl
  ·rw[hc,Hcb]at h
   exact h
def Tp (l:List Int) (n:Int) (hl:l.length≤4000000000000000):Tot (λ k=>Cq k l n) (λ r=>r=Ou l n):=by
 unfold Cq
 refine Gjb (Q:=λ r=>r=bif Ou l n then .inl true else .inr ()) ?_ (by rintro r rfl;cases Ou l n<;>exact Gib rfl)
 refine Grb (L:=λ k i (_:Unit)=>Ip k l n i) (Q:=λ r=>r=bif Ou l n then .inl true else .inr ()) l.length (λ j _=>Ou (l.drop j) n=Ou l n) ?_ ?_ 0 () (Vs _) rfl
 ·intro _ h
  rw[Wi]at h
  simp (disch:=omega) only [Ip,dF,← h]
  exact Gib rfl
 ·intro j _ hj h next
  rw[Af (d:=0) hj]at h
  simp (disch:=omega) only [Ip,dT,Vb,w64]
  unfold Ou at h
  rw[Jdb]at h
  refine Gob (λ hc=>Gib ?_) (λ hc=>next () ?_)
  ·rw[hc,Jlb]at h
   unfold Ou
   rw[← h]
   rfl
  ·rw[hc,Hcb]at h
   exact h
def Ko (l:List Dev) (id:Int):Option Dev:=l.find? (λ d=>d.1==id)
def Ftb:Option Dev→Dev×Bool
 |some d=>(d,true)
 |none=>(Nu,false)
def Wt {l:List Dev} {id:Int} {d:Dev} (h:Ko l id=some d):d∈l∧d.1=id:=⟨List.mem_of_find?_eq_some h,eq_of_beq (List.find?_some (p:=λ d:Dev=>d.1==id) h)⟩
def U5a (l:List Dev) (id:Int) (hl:l.length≤1000000000):Tot (λ k=>Lb k l id) (λ r=>r=Ftb (Ko l id)):=by
 unfold Lb
 refine Gjb (Q:=λ r=>r=match Ko l id with|some d => .inl (true,d)|none => .inr (0,0,0)) ?_ (by rintro r rfl;cases Ko l id<;>exact Gib rfl)
 refine Grb (L:=λ k i (_:Unit)=>Il k id l (l.length:Int) i (0,0,0)) (Q:=λ r=>r=match Ko l id with|some d => .inl (true,d)|none => .inr (0,0,0)) l.length (λ j _=>Ko (l.drop j) id=Ko l id) ?_ ?_ 0 () (Vs _) rfl
 ·intro _ h
  rw[Wi]at h
  simp (disch:=omega) only [Il,dF,← h]
  exact Gib rfl
 ·intro j _ hj h next
  rw[Af (d:=Nu) hj]at h
  unfold Ko at h
  rw[Job]at h
  simp (disch:=omega) only [Il,dT,Vb,w64]
  refine Gob (λ hc=>Gib ?_) (λ hc=>next () ?_)
  ·rw[show ((l.getD j Nu).1==id)=true from hc]at h
   unfold Ko
   rw[← h]
   rfl
  ·rw[show ((l.getD j Nu).1==id)=false from hc]at h
   exact h
def Rz (l:List Dev) (id:Int) (hl:l.length≤1000000000):Tot (λ k=>Eh k l id) (λ r=>r=Ftb (Ko l id)):=by
 unfold Eh
 refine Gjb (Q:=λ r=>r=match Ko l id with|some d => .inl (true,d)|none => .inr (0,0,0)) ?_ (by rintro r rfl;cases Ko l id<;>exact Gib rfl)
 refine Grb (L:=λ k i (_:Unit)=>Iq k l id i (0,0,0)) (Q:=λ r=>r=match Ko l id with|some d => .inl (true,d)|none => .inr (0,0,0)) l.length (λ j _=>Ko (l.drop j) id=Ko l id) ?_ ?_ 0 () (Vs _) rfl
 ·intro _ h
  rw[Wi]at h
  simp (disch:=omega) only [Iq,dF,← h]
  exact Gib rfl
 ·intro j _ hj h next
  rw[Af (d:=Nu) hj]at h
  unfold Ko at h
  rw[Job]at h
  simp (disch:=omega) only [Iq,dT,Vb,w64]
  refine Gob (λ hc=>Gib ?_) (λ hc=>next () ?_)
  ·rw[show ((l.getD j Nu).1==id)=true from hc]at h
   unfold Ko
   rw[← h]
   rfl
  ·rw[show ((l.getD j Nu).1==id)=false from hc]at h
   exact h
def Bfa (d:Dev):Bool:=inR d.1 0 20&&(inR d.2.1 0 20&&inR d.2.2 1 1000)
def Xp:Option Int→List Dev→Bool
 |_,[]=>true
 |none,d::l=>Bfa d&&Xp (some d.1) l
 |some q,d::l=>Bfa d&&(decide (q<d.1)&&Xp (some d.1) l)
def Md (l:List Dev):Bool:=Xp none l&&inR (l.length:Int) 1 12
def I3a (l:List Dev):Nat→Option Int
 |0=>none
 |i+1=>some (l.getD i Nu).1
def F3a:∀ (p:Option Int) (l:List Dev),Xp p l=true↔l.Pairwise (λ a b=>a.1<b.1)∧(∀ d∈l,Bfa d=true)∧(∀ q,p=some q→∀ d∈l,q<d.1)
 |p,[]=>by cases p<;>simp[Xp]
 |none,d::l=>by
  simp only[Xp,Va,F3a (some d.1) l,Wk,Vm,forall_eq_or_imp,Vg]
  constructor
  ·rintro⟨h1,h2,h3,h4⟩;exact⟨⟨h4 _ rfl,h2⟩,⟨h1,h3⟩,λ q h=>by cases h⟩
  ·rintro⟨⟨h1,h2⟩,⟨h3,h4⟩,_⟩;exact⟨h3,h2,h4,λ q e=>by subst e;exact h1⟩
 |some q,d::l=>by
  simp only[Xp,Va,decide_eq_true_iff,F3a (some d.1) l,Wk,Vm,forall_eq_or_imp,Vg]
  constructor
  ·rintro⟨h1,hq,h2,h3,h4⟩
   exact⟨⟨h4 _ rfl,h2⟩,⟨h1,h3⟩,λ q' e=>by subst e;exact⟨hq,λ x hx=>by have:=h4 _ rfl x hx;omega⟩⟩
  ·rintro⟨⟨h1,h2⟩,⟨h3,h4⟩,h5⟩
   exact⟨h3,(h5 q rfl).1,h2,h4,λ q e=>by subst e;exact h1⟩
def Gy {l:List Dev}:Md l=true↔l.Pairwise (λ a b=>a.1<b.1)∧(∀ d∈l,Bfa d=true)∧1≤l.length∧l.length≤12:=by
 unfold Md
 rw[Va,F3a,Eb]
 constructor
 ·rintro⟨⟨h1,h2,_⟩,h3,h4⟩;exact⟨h1,h2,by omega,by omega⟩
 ·rintro⟨h1,h2,h3,h4⟩;exact⟨⟨h1,h2,λ q h=>by cases h⟩,by omega,by omega⟩
def Oe {d:Dev}:Bfa d=true↔(0≤d.1∧d.1≤20)∧(0≤d.2.1∧d.2.1≤20)∧1≤d.2.2∧d.2.2≤1000:=by
 unfold Bfa
 rw[Va,Va,Eb,Eb,Eb]
def I4a {l:List Dev} {j:Nat} (hj:j<l.length):Xp (I3a l j) (l.drop j)=(Bfa (l.getD j Nu)&&((bif decide (0<j) then decide ((l.getD (j-1) Nu).1<(l.getD j Nu).1) else true)&&Xp (I3a l (j+1)) (l.drop (j+1)))):=by
 rw[Af (d:=Nu) hj]
 cases j with
 |zero=>simp[I3a,Xp]
 |succ j=>simp[I3a,Xp]
def Xna (l:List Dev) (hl:l.length≤1000000000):Tot (λ k=>H0 k l) (λ r=>r=Md l):=by
 unfold H0 Md
 refine Gjb (Q:=λ r=>r=bif Xp none l then .inr l else .inl false) ?_ ?_
 ·refine Grb (L:=λ k i (_:Unit)=>Gj k l l (l.length:Int) i) (Q:=λ r=>r=bif Xp none l then .inr l else .inl false) l.length (λ j _=>Xp (I3a l j) (l.drop j)=Xp none l) ?_ ?_ 0 () (Vs _) rfl
  ·intro _ h
   rw[Wi]at h
   have:Xp none l=true:=by rw[← h];cases I3a l l.length<;>rfl
   simp (disch:=omega) only [Gj,dF,this]
   exact Gib rfl
  ·intro j _ hj h next
   rw[I4a hj]at h
   simp (disch:=omega) only [Gj,dT,Vb,w64,Uk,Vn]
   have e0:l.getD j ((0:Int),((0:Int),(0:Int)))=l.getD j Nu:=rfl
   rw[e0]
   have no:Bfa (l.getD j Nu)=false→Xp none l=false:=λ c=>by rw[← h,c];rfl
   unfold Bfa at no h
   refine Gob (λ hc=>Gib ?_) (λ h1=>Gob (λ hc=>Gib ?_) (λ h2=>Gob (λ hc=>Gib ?_) (λ h3=>?_)))
   ·rw[no (by rw[Vv]at hc;rw[hc];rfl)];rfl
   ·rw[no (by rw[Vv]at hc;rw[hc,Zq,Yj])];rfl
   ·rw[no (by rw[Vv]at hc;rw[hc,Yj,Yj])];rfl
   ·rw[Wj]at h1 h2 h3
    rw[h1,h2,h3]at h
    refine Gpb (λ h0=>?_) (λ h0=>next () ?_)
    ·simp (disch:=omega) only [dT,w64,show toNat ((j:Int)-1)=j-1 by omega]
     rw[decide_eq_true (show 0<j by omega)]at h
     refine Gpb (λ hc=>Gib ?_) (λ hc=>next () ?_)
     ·have hc':¬ ((l.getD (j-1) Nu).1<(l.getD j Nu).1):=by
       have:(l.getD (j-1) Nu).1≥(l.getD j Nu).1:=hc
       omega
      rw[decide_eq_false hc']at h
      rw[← h];rfl
     ·have hc':(l.getD (j-1) Nu).1<(l.getD j Nu).1:=by
       have:¬ ((l.getD (j-1) Nu).1≥(l.getD j Nu).1):=hc
       omega
      rw[decide_eq_true hc']at h
      exact h
    ·rw[decide_eq_false (show ¬ 0<j by omega)]at h
     exact h
 ·rintro r rfl
  cases Xp none l
  ·exact Gib rfl
  simp only[cond_true,Hbb,Uk,Vn]
  exact Gib rfl
def Z0 (l:List Dev) (hl:l.length≤1000000000):Tot (λ k=>C5 k l) (λ r=>r=Md l):=by
 unfold C5 Md
 refine Gjb (Q:=λ r=>r=bif Xp none l then .inr l else .inl false) ?_ ?_
 ·refine Grb (L:=λ k i (_:Unit)=>Gr k l i) (Q:=λ r=>r=bif Xp none l then .inr l else .inl false) l.length (λ j _=>Xp (I3a l j) (l.drop j)=Xp none l) ?_ ?_ 0 () (Vs _) rfl
  ·intro _ h
   rw[Wi]at h
   have:Xp none l=true:=by rw[← h];cases I3a l l.length<;>rfl
   simp (disch:=omega) only [Gr,dF,this]
   exact Gib rfl
  ·intro j _ hj h next
   rw[I4a hj]at h
   simp (disch:=omega) only [Gr,dT,Vb,w64,Oj,Vn]
   have e0:l.getD j ((0:Int),((0:Int),(0:Int)))=l.getD j Nu:=rfl
   rw[e0]
   have no:Bfa (l.getD j Nu)=false→Xp none l=false:=λ c=>by rw[← h,c];rfl
   unfold Bfa at no h
   refine Gob (λ hc=>Gib ?_) (λ h1=>Gob (λ hc=>Gib ?_) (λ h2=>Gob (λ hc=>Gib ?_) (λ h3=>?_)))
   ·rw[no (by rw[Vv]at hc;rw[hc];rfl)];rfl
   ·rw[no (by rw[Vv]at hc;rw[hc,Zq,Yj])];rfl
   ·rw[no (by rw[Vv]at hc;rw[hc,Yj,Yj])];rfl
   ·rw[Wj]at h1 h2 h3
    rw[h1,h2,h3]at h
    refine Gpb (λ h0=>?_) (λ h0=>next () ?_)
    ·simp (disch:=omega) only [dT,w64,show toNat ((j:Int)-1)=j-1 by omega]
     rw[decide_eq_true (show 0<j by omega)]at h
     refine Gpb (λ hc=>Gib ?_) (λ hc=>next () ?_)
     ·have hc':¬ ((l.getD (j-1) Nu).1<(l.getD j Nu).1):=by
       have:(l.getD (j-1) Nu).1≥(l.getD j Nu).1:=hc
       omega
      rw[decide_eq_false hc']at h
      rw[← h];rfl
     ·have hc':(l.getD (j-1) Nu).1<(l.getD j Nu).1:=by
       have:¬ ((l.getD (j-1) Nu).1≥(l.getD j Nu).1):=hc
       omega
      rw[decide_eq_true hc']at h
      exact h
    ·rw[decide_eq_false (show ¬ 0<j by omega)]at h
     exact h
 ·rintro r rfl
  cases Xp none l
  ·exact Gib rfl
  simp only[cond_true,Hbb,Oj,Vn]
  exact Gib rfl
def L1a (l:List Dev) (out:List Int) (id:Int):List Int:=match Ko l id with
 |some d=>bif Ou out d.2.1 then out else out++[d.2.1]
 |none=>out
def L7 (ids:List Int) (l:List Dev):List Int:=ids.foldl (L1a l) []
def I5a (l:List Dev) (out:List Int) (id:Int):(L1a l out id).length≤out.length+1:=by
 unfold L1a
 cases Ko l id with
 |none=>exact H0b _
 |some d=>
  simp only
  cases Ou out d.2.1 with
  |true=>exact H0b _
  |false=>rw[cond_false,Vd];exact Vw _
def I6a (l:List Dev):∀ (ids out:List Int),(ids.foldl (L1a l) out).length≤out.length+ids.length
 |[],out=>by simp
 |id::ids,out=>by
  have h1:=I6a l ids (L1a l out id)
  have h2:=I5a l out id
  rw[Zb,Vc]
  omega
def I7a (ids:List Int) (l:List Dev) (hi:ids.length≤5000000) (hl:l.length≤5000000):Tot (λ k=>D7 k ids l) (λ r=>r=L7 ids l):=by
 unfold D7
 refine Gjb (Q:=λ r=>r=L7 ids l) ?_ (by rintro r rfl;exact Gib rfl)
 refine Grb (L:=λ k i s=>Dv k ids l s i) (Q:=λ r=>r=L7 ids l) ids.length (λ j s=>(ids.drop j).foldl (L1a l) s=L7 ids l∧s.length≤j) ?_ ?_ 0 [] (Vs _) ⟨rfl,Vw _⟩
 ·rintro s ⟨h,_⟩
  rw[Wi]at h
  simp (disch:=omega) only [Dv,dF]
  exact Gib h
 ·rintro j s hj ⟨h,hs⟩ next
  rw[Af (d:=0) hj,Zb]at h
  simp (disch:=omega) only [Dv,dT,Vb,w64]
  have hz:=I5a l s (ids.getD j 0)
  refine Gtb (Rz l (ids.getD j 0) (by omega)) ?_
  unfold L1a at h hz
  cases hd:Ko l (ids.getD j 0) with
  |none=>
   rw[hd]at h
   exact Gkb rfl (next _ ⟨h,by omega⟩)
  |some d=>
   rw[hd]at h hz
   refine Glb rfl (Gtb (Tp s d.2.1 (by omega)) ?_)
   simp only at h hz
   cases hh:Ou s d.2.1 with
   |true=>
    rw[hh]at h
    exact Gkb rfl (next _ ⟨h,by omega⟩)
   |false=>
    rw[hh]at h hz
    exact Glb rfl (Gqb (by simp only[Vc,Vh];omega) (next _ ⟨h,by rw[cond_false]at hz;exact Zs hz (by omega)⟩))

def S4 {l:List Int} {j:Nat} (hj:j<l.length) (h:(l.take j).Nodup) (hn:l.getD j 0∉l.take j):(l.take (j+1)).Nodup:=by
 rw[Wm hj,Yl]
 rw[Ve,Vk hj,Yq]at hn
 exact⟨h,by simp,λ a ha b hb e=>by rw[Vu.1 hb]at e;subst e;exact hn ha⟩
def I8a {l:List Int} {j:Nat} (hj:j<l.length) (hn:l.getD j 0∈l.take j):¬ l.Nodup:=by
 intro h
 have h1:(l.take (j+1)).Nodup:=h.sublist (Jbb _ _)
 rw[Wm hj,Yl]at h1
 rw[Ve,Vk hj,Yq]at hn
 exact h1.2.2 _ hn _ (by simp) rfl
def U6a (l:List Int) (hl:l.length≤5000000):Tot (λ k=>J5 k l) (λ r=>r=decide l.Nodup):=by
 unfold J5
 refine Gjb (Q:=λ r=>r=bif decide l.Nodup then .inr () else .inl false) ?_ (by rintro r rfl;cases decide l.Nodup<;>exact Gib rfl)
 refine Grb (L:=λ k i (_:Unit)=>Ik k l l (l.length:Int) i) (Q:=λ r=>r=bif decide l.Nodup then .inr () else .inl false) l.length (λ j _=>(l.take j).Nodup) ?_ ?_ 0 () (Vs _) (by simp)
 ·intro _ h
  rw[Ys]at h
  simp (disch:=omega) only [Ik,dF,decide_eq_true h]
  exact Gib rfl
 ·intro j _ hj h next
  simp (disch:=omega) only [Ik,dT,Vb,w64]
  refine Gtb (U4a (l.take j) (l.getD j 0) (by rw[Vq];omega)) ?_
  refine Gob (λ hc=>Gib ?_) (λ hc=>next () (S4 hj h (λ c=>by rw[Sr.2 c]at hc;cases hc)))
  rw[decide_eq_false (I8a hj (Sr.1 hc))]
  rfl
def Nqa (l:List Int) (n:Int) (hl:l.length≤5000000):Tot (λ k=>Em k l n) (λ r=>r=(decide l.Nodup&&((l.length:Int)==n))):=by
 unfold Em
 refine Gjb (Q:=λ r=>r=bif decide l.Nodup then .inr (n,l) else .inl false) ?_ (by rintro r rfl;cases decide l.Nodup<;>exact Gib rfl)
 refine Grb (L:=λ k i (_:Unit)=>Hn k n i l) (Q:=λ r=>r=bif decide l.Nodup then .inr (n,l) else .inl false) l.length (λ j _=>(l.take j).Nodup) ?_ ?_ 0 () (Vs _) (by simp)
 ·intro _ h
  rw[Ys]at h
  simp (disch:=omega) only [Hn,dF,decide_eq_true h]
  exact Gib rfl
 ·intro j _ hj h next
  simp (disch:=omega) only [Hn,dT,Vb,w64]
  refine Gtb (Tp (l.take j) (l.getD j 0) (by rw[Vq];omega)) ?_
  refine Gob (λ hc=>Gib ?_) (λ hc=>next () (S4 hj h (λ c=>by rw[Sr.2 c]at hc;cases hc)))
  rw[decide_eq_false (I8a hj (Sr.1 hc))]
  rfl
def RBd (r:Rng):Prop:=r.2.length≤2000000∧∀ p∈r.2,p.length≤2000000
def Mn (l:List Dev) (n:Int) (p:List Int):Bool:=(decide p.Nodup&&((p.length:Int)==n))&&p.all λ id=>(Ko l id).isSome
def Jd (r:Rng) (l:List Dev):Bool:=Md l&&(inR r.1 1 5&&(inR (r.2.length:Int) 1 64&&r.2.all (Mn l r.1)))
def D5 {r:Rng} {l:List Dev}:Jd r l=true↔Md l=true∧(1≤r.1∧r.1≤5)∧(1≤r.2.length∧r.2.length≤64)∧∀ p∈r.2,p.Nodup∧(p.length:Int)=r.1∧∀ id∈p,∃ d,Ko l id=some d:=by
 unfold Jd Mn
 simp only[Va,Eb,Yr,decide_eq_true_iff,beq_iff_eq,Zk]
 constructor
 ·rintro⟨h1,h2,⟨h3,h4⟩,h5⟩;exact⟨h1,h2,⟨by omega,by omega⟩,λ p hp=>⟨(h5 p hp).1.1,(h5 p hp).1.2,(h5 p hp).2⟩⟩
 ·rintro⟨h1,h2,⟨h3,h4⟩,h5⟩;exact⟨h1,h2,⟨by omega,by omega⟩,λ p hp=>⟨⟨(h5 p hp).1,(h5 p hp).2.1⟩,(h5 p hp).2.2⟩⟩
def N1 {r:Rng} {l:List Dev} (h:Jd r l=true):RBd r:=by
 obtain⟨_,h2,h3,h4⟩:=D5.1 h
 exact⟨by omega,λ p hp=>by have:=(h4 p hp).2.1;omega⟩
def Xoa (r:Rng) (l:List Dev) (hr:RBd r) (hl:l.length≤5000000):Tot (λ k=>Fl k r l) (λ b=>b=Jd r l):=by
 unfold Fl Jd
 refine Gtb (Xna l (by omega)) ?_
 cases hd:Md l
 ·exact Glb rfl (Gib rfl)
 have hrl:=hr.1
 simp only[Zf,cond_false,Uk,Vn,Wc]
 cases inR r.1 1 5
 ·exact Glb rfl (Gib rfl)
 refine Gkb rfl ?_
 cases inR (r.2.length:Int) 1 64
 ·exact Glb rfl (Gib rfl)
 refine Gkb rfl (Gjb (Q:=λ b=>b=bif r.2.all (Mn l r.1) then .inr () else .inl false) ?_ (by rintro r' rfl;cases r.2.all (Mn l r.1)<;>exact Gib rfl))
 refine Grb (L:=λ k i (_:Unit)=>Hf k l r.2 (r.2.length:Int) i r) (Q:=λ b=>b=bif r.2.all (Mn l r.1) then .inr () else .inl false) r.2.length (λ j _=>(r.2.drop j).all (Mn l r.1)=r.2.all (Mn l r.1)) ?_ ?_ 0 () (Vs _) rfl
 ·intro _ h
  rw[Wi]at h
  simp (disch:=omega) only [Hf,dF,← h]
  exact Gib rfl
 ·intro j _ hj h next
  rw[Af (d:=[]) hj,Gxb]at h
  have hp:=hr.2 _ (A4 (d:=[]) hj)
  simp (disch:=omega) only [Hf,dT,Vb,w64]
  have no:Mn l r.1 (r.2.getD j [])=false→r.2.all (Mn l r.1)=false:=λ c=>by rw[← h,c];rfl
  unfold Mn at no h
  refine Gob (λ hc=>Gib ?_) (λ h1=>Gjb (U6a (r.2.getD j []) (by omega)) ?_)
  ·have hc':(((r.2.getD j []).length:Int)==r.1)=false:=by simpa using hc
   rw[show r.2.all (Mn l r.1)=false from no (by rw[hc',Yj,Zq])]
   rfl
  ·have h1':(((r.2.getD j []).length:Int)==r.1)=true:=by simpa using h1
   rintro b rfl
   refine Gob (λ hc=>Gib ?_) (λ h2=>?_)
   ·rw[show r.2.all (Mn l r.1)=false from no (by rw[Vv]at hc;rw[hc];rfl)]
    rfl
   ·rw[Wj]at h2
    generalize r.2.getD j []=p at *
    refine Gjb (Q:=λ b=>b=bif p.all (λ id=>(Ko l id).isSome) then .inr (l,r.2,(r.2.length:Int),(j:Int),r) else .inl false) ?_ ?_
    ·refine Grb (L:=λ k i (_:Unit)=>He k l r.2 (r.2.length:Int) (j:Int) p (p.length:Int) i r) (Q:=λ b=>b=bif p.all (λ id=>(Ko l id).isSome) then .inr (l,r.2,(r.2.length:Int),(j:Int),r) else .inl false) p.length (λ m _=>(p.drop m).all (λ id=>(Ko l id).isSome)=p.all (λ id=>(Ko l id).isSome)) ?_ ?_ 0 () (Vs _) rfl
     ·intro _ h
      rw[Wi]at h
      simp (disch:=omega) only [He,dF,← h]
      exact Gib rfl
     ·intro m _ hm h next
      rw[Af (d:=0) hm,Gxb]at h
      simp (disch:=omega) only [He,dT,Vb,w64]
      refine Gtb (U5a l (p.getD m 0) (by omega)) ?_
      cases hd:Ko l (p.getD m 0) with
      |none=>exact Glb rfl (Gib (by rw[← h,hd];rfl))
      |some d=>exact Gkb rfl (next () (by rw[hd]at h;exact h))
    ·rintro b rfl
     cases hc:p.all (λ id=>(Ko l id).isSome)
     ·exact Gib (by rw[show r.2.all (Mn l r.1)=false from no (by rw[hc,Yj])];rfl)
     simp (disch:=omega) only [cond_true,Hbb,w64]
     exact next () (by rw[h2,h1',hc]at h;exact h)
def Xpa (r:Rng) (l:List Dev) (hr:RBd r) (hl:l.length≤5000000):Tot (λ k=>Fo k r l) (λ b=>b=Jd r l):=by
 unfold Fo Jd
 refine Gtb (Z0 l (by omega)) ?_
 cases hd:Md l
 ·exact Glb rfl (Gib rfl)
 have hrl:=hr.1
 simp only[Zf,cond_false,Oj,Vn,Wc]
 cases inR r.1 1 5
 ·exact Glb rfl (Gib rfl)
 refine Gkb rfl ?_
 cases inR (r.2.length:Int) 1 64
 ·exact Glb rfl (Gib rfl)
 refine Gkb rfl (Gjb (Q:=λ b=>b=bif r.2.all (Mn l r.1) then .inr () else .inl false) ?_ (by rintro r' rfl;cases r.2.all (Mn l r.1)<;>exact Gib rfl))
 refine Grb (L:=λ k i (_:Unit)=>Hx k l i r) (Q:=λ b=>b=bif r.2.all (Mn l r.1) then .inr () else .inl false) r.2.length (λ j _=>(r.2.drop j).all (Mn l r.1)=r.2.all (Mn l r.1)) ?_ ?_ 0 () (Vs _) rfl
 ·intro _ h
  rw[Wi]at h
  simp (disch:=omega) only [Hx,dF,← h]
  exact Gib rfl
 ·intro j _ hj h next
  rw[Af (d:=[]) hj,Gxb]at h
  have hp:=hr.2 _ (A4 (d:=[]) hj)
  simp (disch:=omega) only [Hx,dT,Vb,w64]
  have no:Mn l r.1 (r.2.getD j [])=false→r.2.all (Mn l r.1)=false:=λ c=>by rw[← h,c];rfl
  unfold Mn at no h
  refine Gtb (Nqa (r.2.getD j []) r.1 (by omega)) ?_
  refine Gob (λ hc=>Gib ?_) (λ h2=>?_)
  ·rw[show r.2.all (Mn l r.1)=false from no (by rw[Vv]at hc;rw[hc];rfl)]
   rfl
  ·rw[Wj]at h2
   refine Gjb (Q:=λ b=>b=bif (r.2.getD j []).all (λ id=>(Ko l id).isSome) then .inr (l,(j:Int),r) else .inl false) ?_ ?_
   ·refine Grb (L:=λ k i (_:Unit)=>Hw k l (j:Int) i r) (Q:=λ b=>b=bif (r.2.getD j []).all (λ id=>(Ko l id).isSome) then .inr (l,(j:Int),r) else .inl false) (r.2.getD j []).length (λ m _=>((r.2.getD j []).drop m).all (λ id=>(Ko l id).isSome)=(r.2.getD j []).all (λ id=>(Ko l id).isSome)) ?_ ?_ 0 () (Vs _) rfl
    ·intro _ h
     rw[Wi]at h
     simp (disch:=omega) only [Hw,dT,dF,Vb,← h]
     exact Gib rfl
    ·intro m _ hm h next
     rw[Af (d:=0) hm,Gxb]at h
     simp (disch:=omega) only [Hw,dT,Vb,w64]
     refine Gtb (Rz l ((r.2.getD j []).getD m 0) (by omega)) ?_
     cases hd:Ko l ((r.2.getD j []).getD m 0) with
     |none=>exact Glb rfl (Gib (by rw[← h,hd];rfl))
     |some d=>exact Gkb rfl (next () (by rw[hd]at h;exact h))
   ·rintro b rfl
    cases hc:(r.2.getD j []).all (λ id=>(Ko l id).isSome)
    ·exact Gib (by rw[show r.2.all (Mn l r.1)=false from no (by rw[hc,Yj])];rfl)
    simp (disch:=omega) only [cond_true,Hbb,w64]
    exact next () (by rw[h2,hc]at h;exact h)
def Xc (l:List Int) (hl:l.length≤5000000):Fq l=some l:=by
 unfold Fq
 rw[bT (by simp only[Vh];omega),Vx]
def I9a (r:Rng) (hr:RBd r):Tot (λ k=>Dk k r) (λ x=>x=r):=by
 have hrl:=hr.1
 unfold Dk
 refine Gjb (Q:=λ x=>x=((0,[]),r)) ?_ (by rintro x rfl;exact Gib rfl)
 refine Grb (L:=λ k i s=>F6 k r.2 (r.2.length:Int) i (0,[]) (r.1,s)) (Q:=λ x=>x=((0,[]),r)) r.2.length (λ j s=>s=r.2.take j) ?_ ?_ 0 [] (Vs _) rfl
 ·rintro s rfl
  simp (disch:=omega) only [F6,dF,Ys]
  exact Gib rfl
 ·rintro j s hj rfl next
  have hp:=hr.2 _ (A4 (d:=[]) hj)
  simp (disch:=omega) only [F6,dT,Vb,w64,Xc,Vn]
  refine Gqb (by simp only[Vq,Vc,Vh];omega) (next _ ?_)
  rw[Wm hj,Ve,Vk hj,Yq]
def Xd (r:Rng) (hr:RBd r):Tot (λ k=>Ji k r) (λ x=>x=r):=by
 have hrl:=hr.1
 unfold Ji
 refine Gjb (Q:=λ x=>x=((0,[]),r)) ?_ (by rintro x rfl;exact Gib rfl)
 refine Grb (L:=λ k i s=>Gq k i r (0,[]) (r.1,s)) (Q:=λ x=>x=((0,[]),r)) r.2.length (λ j s=>s=r.2.take j) ?_ ?_ 0 [] (Vs _) rfl
 ·rintro s rfl
  simp (disch:=omega) only [Gq,dF,Ys]
  exact Gib rfl
 ·rintro j s hj rfl next
  have hp:=hr.2 _ (A4 (d:=[]) hj)
  simp (disch:=omega) only [Gq,dT,Vb,w64]
  refine Gqb (by simp only[Vh];omega) (Gqb (by simp only[Vq,Vc,Vh];omega) (next _ ?_))
  rw[Wm hj,Ve,Vk hj,Yq,Vx]
def cnt (id n x:Int):Int:=bif x==id then n+1 else n
def L2a (id n:Int) (p:List Int):Int:=p.foldl (cnt id) n
def My (r:Rng) (id:Int):Int:=r.2.foldl (L2a id) 0
def L3a (id:Int):∀ (p:List Int) (n:Int),n≤L2a id n p∧L2a id n p≤n+p.length
 |[],n=>by simp[L2a]
 |x::p,n=>by
  have h:=L3a id p (cnt id n x)
  unfold L2a at h ⊢
  have hc:n≤cnt id n x∧cnt id n x≤n+1:=by unfold cnt;cases x==id<;>simp<;>omega
  rw[Zb,Vc]
  omega
def U7a (id:Int) (m:Nat):∀ (ps:List (List Int)) (n:Int),(∀ p∈ps,p.length≤m)→n≤ps.foldl (L2a id) n∧ps.foldl (L2a id) n≤n+(m*ps.length:Nat)
 |[],n,_=>by simp
 |p::ps,n,h=>by
  have h1:=U7a id m ps (L2a id n p) (λ q hq=>h q (Vj _ hq))
  have h2:=L3a id p n
  have h3:=h p Za
  rw[Zb,Vc,Nat.mul_succ]
  omega
def Uv {r:Rng} (hr:RBd r) (id:Int):0≤My r id∧My r id≤4000000000000:=by
 have h:=U7a id 2000000 r.2 0 hr.2
 have h2:=hr.1
 unfold My
 omega
def Z1 (r:Rng) (id:Int) (hr:RBd r):Tot (λ k=>Cw k r id) (λ x=>x=My r id):=by
 have hrl:=hr.1
 unfold Cw
 refine Gjb (Q:=λ x=>x=My r id) ?_ (by rintro x rfl;exact Gib rfl)
 refine Grb (L:=λ k i s=>Hp k id s i r) (Q:=λ x=>x=My r id) r.2.length (λ j s=>(r.2.drop j).foldl (L2a id) s=My r id∧0≤s∧s≤2000000*j) ?_ ?_ 0 0 (Vs _) ⟨rfl,by omega,by omega⟩
 ·rintro s ⟨h,_⟩
  rw[Wi]at h
  simp (disch:=omega) only [Hp,dF]
  exact Gib h
 ·rintro j s hj ⟨h,h0,h1⟩ next
  rw[Af (d:=[]) hj,Zb]at h
  have hp:=hr.2 _ (A4 (d:=[]) hj)
  have hc:=L3a id (r.2.getD j []) s
  simp (disch:=omega) only [Hp,dT]
  refine Gjb (Q:=λ x=>x=(id,L2a id s (r.2.getD j []),(j:Int),r)) ?_ ?_
  ·refine Grb (L:=λ k i s=>Gt k id s (j:Int) i r) (Q:=λ x=>x=(id,L2a id s (r.2.getD j []),(j:Int),r)) (r.2.getD j []).length (λ m z=>L2a id z ((r.2.getD j []).drop m)=L2a id s (r.2.getD j [])∧0≤z∧z≤2000000*j+m) ?_ ?_ 0 s (Vs _) ⟨rfl,h0,by omega⟩
   ·rintro z ⟨h,_⟩
    rw[Wi]at h
    simp (disch:=omega) only [Gt,dT,dF,Vb]
    exact Gib (by rw[← h];rfl)
   ·rintro m z hm ⟨h,z0,z1⟩ next
    rw[Af (d:=0) hm]at h
    simp (disch:=omega) only [Gt,dT,Vb,w64]
    have h':L2a id (cnt id z ((r.2.getD j []).getD m 0)) ((r.2.getD j []).drop (m+1))=L2a id s (r.2.getD j []):=h
    unfold cnt at h'
    refine Gob (λ hc=>next _ ?_) (λ hc=>next _ ?_)
    ·rw[hc]at h';exact⟨h',by omega,by omega⟩
    ·rw[hc]at h';exact⟨h',by omega,by omega⟩
  ·rintro x rfl
   simp (disch:=omega) only [w64]
   exact next _ ⟨h,by omega,by omega⟩

def G8b {a w:Int} (h0:0≤a) (h1:a≤4000000000001) (w0:0≤w) (w1:w≤1000) : -9223372036854775808≤a*w∧a*w≤9223372036854775807:=by
 have e1:=Int.mul_nonneg h0 w0
 have e2:a*w≤4000000000001*1000:=Int.mul_le_mul h1 w1 w0 (by decide)
 omega
def Bga (r:Rng) (p zs:List Int) (a:Option (Dev×Bool)) (d:Dev):Option (Dev×Bool):=
 bif Ou p d.1 then a else match a with
 |none=>some (d,!(Ou zs d.2.1))
 |some (b,fr)=>bif (!(Ou zs d.2.1)&&!fr)||(((!(Ou zs d.2.1))==fr)&&decide ((My r d.1+1)*b.2.2<(My r b.1+1)*d.2.2)) then some (d,!(Ou zs d.2.1)) else some (b,fr)
def Tq (r:Rng) (p:List Int) (l:List Dev):Option (Dev×Bool):=l.foldl (Bga r p (L7 p l)) none
def C8a (r:Rng) (p:List Int) (l:List Dev):Int:=match Tq r p l with
 |some b=>b.1.1
 |none => -1
def Xqa {r:Rng} {p zs:List Int} {l:List Dev} {a:Option (Dev×Bool)} {d:Dev} (ha:∀ b,a=some b→b.1∈l∧b.1.1∉p) (hd:d∈l):∀ b,Bga r p zs a d=some b→b.1∈l∧b.1.1∉p:=by
 intro b hb
 unfold Bga at hb
 cases hp:Ou p d.1
 case true=>rw[hp]at hb;exact ha b hb
 have hn:d.1∉p:=λ c=>by rw[Sr.2 c]at hp;cases hp
 rw[hp,cond_false]at hb
 cases a with
 |none=>cases hb;exact⟨hd,hn⟩
 |some c=>
  obtain⟨c,fr⟩:=c
  simp only at hb
  cases hq:(!(Ou zs d.2.1)&&!fr)||(((!(Ou zs d.2.1))==fr)&&decide ((My r d.1+1)*c.2.2<(My r c.1+1)*d.2.2)) with
  |true=>rw[hq]at hb;cases hb;exact⟨hd,hn⟩
  |false=>rw[hq]at hb;cases hb;exact ha _ rfl
def Nra {r:Rng} {p zs:List Int} {l:List Dev}:∀ (m:List Dev) (a:Option (Dev×Bool)),(∀ b,a=some b→b.1∈l∧b.1.1∉p)→(∀ d∈m,d∈l)→∀ b,m.foldl (Bga r p zs) a=some b→b.1∈l∧b.1.1∉p
 |[],_,ha,_=>ha
 |d::m,_,ha,hm=>Nra m _ (Xqa ha (hm d Za)) (λ x hx=>hm x (Vj _ hx))
def Nsa {r:Rng} {p:List Int} {l:List Dev} {b:Dev×Bool} (h:Tq r p l=some b):b.1∈l∧b.1.1∉p:=Nra l none (λ b h=>by cases h) (λ _ h=>h) b h
def Ppa {r:Rng} {p zs:List Int} {a:Option (Dev×Bool)} {d:Dev} (h:a.isSome=true∨d.1∉p):(Bga r p zs a d).isSome=true:=by
 unfold Bga
 cases hp:Ou p d.1 with
 |true=>
  rcases h with h|h
  ·exact h
  ·exact absurd (Sr.1 hp) h
 |false=>
  cases a with
  |none=>rfl
  |some c=>
   obtain⟨c,fr⟩:=c
   simp only[cond_false]
   cases (!(Ou zs d.2.1)&&!fr)||(((!(Ou zs d.2.1))==fr)&&decide ((My r d.1+1)*c.2.2<(My r c.1+1)*d.2.2))<;>rfl
def Dka {r:Rng} {p zs:List Int}:∀ (m:List Dev) (a:Option (Dev×Bool)),(a.isSome=true∨∃ d∈m,d.1∉p)→(m.foldl (Bga r p zs) a).isSome=true
 |[],a,h=>by
  rcases h with h|⟨d,h,_⟩
  ·exact h
  ·cases h
 |d::m,a,h=>by
  refine Dka m _ ?_
  by_cases hd:a.isSome=true∨d.1∉p
  ·exact .inl (Ppa hd)
  ·rcases h with h|⟨x,hx,hn⟩
   ·exact absurd (.inl h) hd
   ·rcases Vm.1 hx with rfl|hx
    ·exact absurd (.inr hn) hd
    ·exact .inr ⟨x,hx,hn⟩
def Xra {r:Rng} {p:List Int} {l:List Dev} (h:∃ d∈l,d.1∉p):∃ d∈l,C8a r p l=d.1∧d.1∉p:=by
 obtain⟨b,hb⟩:=Zk.1 (Dka (r:=r) (zs:=L7 p l) l none (.inr h))
 obtain⟨h1,h2⟩:=Nsa hb
 exact⟨b.1,h1,by unfold C8a;rw[show Tq r p l=some b from hb],h2⟩
def Pqa (r:Rng) (p:List Int) (l:List Dev):(Tq r p l=none∧C8a r p l = -1)∨∃ b,Tq r p l=some b∧C8a r p l=b.1.1∧b.1∈l∧b.1.1∉p:=by
 cases h:Tq r p l with
 |none=>exact .inl ⟨rfl,by unfold C8a;rw[h]⟩
 |some b=>exact .inr ⟨b,rfl,by unfold C8a;rw[h],Nsa h⟩
def Bha (p:List Int) (l:List Dev):(L7 p l).length≤p.length:=by
 have:=I6a l p []
 rwa [Vh,Wl]at this
def bs (r:Rng):Option (Dev×Bool)→Int×Bool×Dev
 |some (b,fr)=>(My r b.1+1,fr,b)
 |none=>(0,false,-1,0,0)
def Nta (r:Rng) (p:List Int) (l:List Dev) (hr:RBd r) (hp:p.length≤2000000) (hl:Md l=true):Tot (λ k=>Ih k r p l) (λ x=>x=C8a r p l):=by
 obtain⟨_,hdv,_,h12⟩:=Gy.1 hl
 have hz:=Bha p l
 unfold Ih
 refine Gtb (I7a p l (by omega) (by omega)) ?_
 refine Gjb (Q:=λ x=>∃ i:Int,x=(l,i)∧match Tq r p l with|some b=>∃ n:Nat,i=(n:Int)∧n<l.length∧l.getD n Nu=b.1|none=>i = -1) ?_ ?_
 ·refine Grb (L:=λ k i (s:Int×Bool)=>Bz k l (L7 p l) s.1 s.2 i r p) (Q:=λ x=>∃ i:Int,x=(l,i)∧match Tq r p l with|some b=>∃ n:Nat,i=(n:Int)∧n<l.length∧l.getD n Nu=b.1|none=>i = -1) l.length
   (λ j s=>∃ a,(match a with|some (b,fr)=>s.2=fr∧∃ n:Nat,s.1=(n:Int)∧n<l.length∧l.getD n Nu=b|none=>s=(-1,false))∧(l.drop j).foldl (Bga r p (L7 p l)) a=Tq r p l) ?_ ?_ 0 (-1,false) (Vs _) ⟨none,rfl,rfl⟩
  ·rintro⟨s1,s2⟩ ⟨a,hs,h⟩
   rw[Wi]at h
   simp (disch:=omega) only [Bz,dF]
   refine Gib ⟨s1,rfl,?_⟩
   rw[← h]
   cases a with
   |none=>exact(Prod.mk.inj hs).1
   |some bf=>exact hs.2
  ·rintro j ⟨s1,s2⟩ hj ⟨a,hs,h⟩ next
   rw[Af (d:=Nu) hj,Zb]at h
   have hd:=A4 (d:=Nu) hj
   obtain⟨d,ed⟩:∃ d:Dev,l.getD j Nu=d:=⟨_,rfl⟩
   rw[ed]at h hd
   have e0:l.getD j ((0:Int),((0:Int),(0:Int)))=d:=ed
   obtain⟨_,_,w0,w1⟩:=Oe.1 (hdv _ hd)
   have l1:=Uv hr d.1
   simp (disch:=omega) only [Bz,dT,Vb,w64,e0]
   refine Gtb (Z0 l (by omega)) ?_
   refine Glb hl (Gtb (Tp p d.1 (by omega)) ?_)
   unfold Bga at h
   cases hp':Ou p d.1 with
   |true=>
    rw[hp']at h
    exact Glb rfl (next _ ⟨a,hs,h⟩)
   |false=>
    rw[hp',cond_false]at h
    refine Gkb rfl (Gtb (Tp (L7 p l) d.2.1 (by omega)) ?_)
    have take:∀ {z:Bool},(l.drop (j+1)).foldl (Bga r p (L7 p l)) (some (d,z))=Tq r p l→Tot (λ k=>Bz k l (L7 p l) (j:Int) z ((j:Int)+1) r p) (λ x=>∃ i:Int,x=(l,i)∧match Tq r p l with|some b=>∃ n:Nat,i=(n:Int)∧n<l.length∧l.getD n Nu=b.1|none=>i = -1):=λ {z} h2=>next ((j:Int),z) ⟨some (d,z),⟨rfl,j,rfl,hj,ed⟩,h2⟩
    cases a with
    |none=>
     obtain⟨rfl,rfl⟩:=Prod.mk.inj hs
     exact Gmb (by decide) (take h)
    |some bf=>
     obtain⟨b,fr⟩:=bf
     obtain⟨e1,n,e2,hn,e3⟩:=hs
     dsimp only at e1 e2
     subst e1 e2
     have hb:=A4 (d:=Nu) hn
     rw[e3]at hb
     obtain⟨⟨i0,_⟩,_,v0,v1⟩:=Oe.1 (hdv _ hb)
     have l2:=Uv hr b.1
     have m1:=G8b (a:=My r d.1+1) (w:=b.2.2) (by omega) (by omega) (by omega) v1
     have m2:=G8b (a:=My r b.1+1) (w:=d.2.2) (by omega) (by omega) (by omega) w1
     have stay:(l.drop (j+1)).foldl (Bga r p (L7 p l)) (some (b,s2))=Tq r p l→Tot (λ k=>Bz k l (L7 p l) (n:Int) s2 ((j:Int)+1) r p) (λ x=>∃ i:Int,x=(l,i)∧match Tq r p l with|some b=>∃ n:Nat,i=(n:Int)∧n<l.length∧l.getD n Nu=b.1|none=>i = -1):=λ h2=>next ((n:Int),s2) ⟨some (b,s2),⟨rfl,n,rfl,hn,e3⟩,h2⟩
     refine Gnb (by omega) ?_
     have e4:l.getD n ((0:Int),((0:Int),(0:Int)))=b:=e3
     dsimp only at h
     have cmp:∀ {z:Bool},Ou (L7 p l) d.2.1=z→((!z)==s2)=true→(!z&&!s2)=false→Tot (λ k=>(Cw k r d.1).bind λ r5=>cond (decide ((0:Int)≤(n:Int))) (cond (decide ((n:Int)<(length l:Int))) (cond (decide ((0:Int)≤(n:Int))) (cond (decide ((n:Int)<(length l:Int))) ((Cw k r (getD l (toNat (n:Int)) ((0:Int),((0:Int),(0:Int)))).1).bind λ r8=>cond (decide ((wrap .i64 ((wrap .i64 (r5+1))*(getD l (toNat (n:Int)) ((0:Int),((0:Int),(0:Int)))).2.2))<(wrap .i64 ((wrap .i64 (r8+1))*d.2.2)))) (Bz k l (L7 p l) (j:Int) s2 ((j:Int)+1) r p) (Bz k l (L7 p l) (n:Int) s2 ((j:Int)+1) r p)) none) none) none) none) (λ x=>∃ i:Int,x=(l,i)∧match Tq r p l with|some b=>∃ n:Nat,i=(n:Int)∧n<l.length∧l.getD n Nu=b.1|none=>i = -1):=by
      intro z hz e1 e2
      rw[hz,e1,e2,Hcb,Wc]at h
      refine Gtb (Z1 r d.1 hr) ?_
      refine Gmb (by omega) (Gmb (by omega) (Gmb (by omega) (Gmb (by omega) ?_)))
      rw[Vb,e4]
      refine Gtb (Z1 r b.1 hr) ?_
      rw[w64 (n:=My r d.1+1) (by omega) (by omega),w64 (n:=My r b.1+1) (by omega) (by omega),w64 m1.1 m1.2,w64 m2.1 m2.2]
      refine Gob (λ hc=>?_) (λ hc=>?_)
      ·rw[hc,cond_true]at h
       rw[show s2 = !z by rw[← eq_of_beq e1]]
       exact take h
      ·rw[hc]at h;exact stay h
     cases hz:Ou (L7 p l) d.2.1 with
     |false=>
      have cm:=cmp hz
      rw[hz]at h
      cases s2 with
      |false=>exact Glb rfl (Glb rfl (take h))
      |true=>exact Glb rfl (Gkb rfl (Glb rfl (cm rfl rfl)))
     |true=>
      have cm:=cmp hz
      rw[hz]at h
      cases s2 with
      |false=>exact Gkb rfl (Glb rfl (cm rfl rfl))
      |true=>exact Gkb rfl (Gkb rfl (stay h))
 ·rintro x ⟨i,rfl,hi⟩
  unfold C8a
  cases hb:Tq r p l with
  |none=>
   rw[hb]at hi
   subst hi
   exact Gmb (show (-1:Int)<0 by decide) (Gib rfl)
  |some b=>
   rw[hb]at hi
   obtain⟨n,rfl,hn,e⟩:=hi
   dsimp only
   refine Gnb (by omega) (Gmb (by omega) (Gmb (by omega) (Gib ?_)))
   rw[Vb,show l.getD n ((0:Int),((0:Int),(0:Int)))=b.1 from e]

def U8a {l:List Dev} (h:Md l=true) {d:Dev} (hd:d∈l):Ko l d.1=some d:=by
 have hp:=(Gy.1 h).1
 clear h
 induction l with
 |nil=>cases hd
 |cons x l ih=>
  obtain⟨h1,h2⟩:=Wk.1 hp
  unfold Ko
  rw[Job]
  rcases Vm.1 hd with rfl|hd
  ·rw[beq_self_eq_true]
  ·have:=h1 d hd
   rw[show (x.1==d.1)=false from beq_eq_false_iff_ne.2 (by omega)]
   exact ih hd h2
def Zpa:∀ (p:List Int) (l:List Dev),l.Pairwise (λ a b=>a.1<b.1)→p.length<l.length→∃ d∈l,d.1∉p
 |p,[],_,h=>by simp at h
 |p,d::l,hl,h=>by
  obtain⟨h1,h2⟩:=Wk.1 hl
  by_cases hd:d.1∈p
  ·have hlen:(p.erase d.1).length=p.length-1:=I1b hd
   have hpos:=Hrb hd
   rw[Vc]at h
   obtain⟨x,hx,hn⟩:=Zpa (p.erase d.1) l h2 (by omega)
   refine⟨x,Vj _ hx,λ c=>hn ?_⟩
   have:=h1 x hx
   exact(Isb (by omega)).2 c
  ·exact⟨d,Za,hd⟩
def Pra (l:List Dev) (n:Nat) (p:List Int):Prop:=p.Nodup∧p.length=n∧∀ id∈p,∃ d,Ko l id=some d
def U9a {r:Rng} {l:List Dev} {n:Nat} {p:List Int} (hl:Md l=true) (h:Pra l n p) (hn:n<l.length):Pra l (n+1) (p++[C8a r p l]):=by
 obtain⟨h1,h2,h3⟩:=h
 obtain⟨d,hd,e,hne⟩:=Xra (r:=r) (Zpa p l (Gy.1 hl).1 (by omega))
 rw[e]
 refine⟨?_,by rw[Vd];simp[h2],λ id hid=>?_⟩
 ·rw[Yl]
  exact⟨h1,by simp,λ a ha b hb c=>by rw[Vu.1 hb]at c;subst c;exact hne ha⟩
 ·rcases Vo.1 hid with hid|hid
  ·exact h3 id hid
  ·rw[Vu.1 hid];exact⟨d,U8a hl hd⟩
def Iaa (l:List Dev) (reps:Int) (ps:List (List Int)):Nat→List Int→List Int
 |0,p=>p
 |n+1,p=>Iaa l reps ps n (p++[C8a (reps,ps++[p]) p l])
def Qba (l:List Dev) (reps:Int):Nat→List (List Int)→List (List Int)
 |0,ps=>ps
 |n+1,ps=>Qba l reps n (ps++[Iaa l reps ps reps.toNat []])
def build (l:List Dev) (parts reps:Int):Rng×Bool:=bif Md l&&(inR parts 1 64&&(inR reps 1 5&&!(decide (reps > (l.length:Int))))) then ((reps,Qba l reps parts.toNat []),true) else ((0,[]),false)
def Nua {l:List Dev} {reps:Int} {ps:List (List Int)} (hl:Md l=true):∀ (n m:Nat) (p:List Int),Pra l m p→m+n≤l.length→Pra l (m+n) (Iaa l reps ps n p)
 |0,_,_,h,_=>h
 |n+1,m,p,h,hm=>by
  have:=Nua (reps:=reps) (ps:=ps) hl n (m+1) _ (U9a (r:=(reps,ps++[p])) hl h (by omega)) (by omega)
  rwa [show m+1+n=m+(n+1) by omega]at this
def Uaa {l:List Dev} {reps:Int} (hl:Md l=true) (hr:reps≤(l.length:Int)):∀ (n:Nat) (ps:List (List Int)),(∀ p∈ps,Pra l reps.toNat p)→(Qba l reps n ps).length=ps.length+n∧∀ p∈Qba l reps n ps,Pra l reps.toNat p
 |0,ps,h=>⟨rfl,h⟩
 |n+1,ps,h=>by
  have hf:=Nua (reps:=reps) (ps:=ps) hl reps.toNat 0 [] ⟨List.nodup_nil,rfl,λ _ h=>by cases h⟩ (by omega)
  rw[Wl]at hf
  obtain⟨h1,h2⟩:=Uaa hl hr n (ps++[Iaa l reps ps reps.toNat []]) (λ p hp=>by
   rcases Vo.1 hp with hp|hp
   ·exact h p hp
   ·rw[Vu.1 hp];exact hf)
  refine⟨?_,h2⟩
  show (Qba l reps n _).length=_
  rw[h1,Vd]
  simp only[Vc,Vh]
  omega
def Nva {l:List Dev} {parts reps:Int} (h:(build l parts reps).2=true):Md l=true∧Jd (build l parts reps).1 l=true∧(build l parts reps).1.1=reps∧((build l parts reps).1.2.length:Int)=parts:=by
 unfold build at h ⊢
 cases hc:Md l&&(inR parts 1 64&&(inR reps 1 5&&!(decide (reps > (l.length:Int)))))
 ·rw[hc]at h;cases h
 rw[Va,Va,Va,Vv,decide_eq_false_iff_not,Eb,Eb]at hc
 obtain⟨h1,h2,h3,h4⟩:=hc
 obtain⟨b1,b2⟩:=Uaa (reps:=reps) h1 (by omega) parts.toNat [] (λ p hp=>by cases hp)
 rw[Vh,Wl]at b1
 have b1':((Qba l reps parts.toNat []).length:Int)=parts:=by rw[b1];omega
 refine⟨h1,D5.2 ⟨h1,h3,⟨by show 1≤(Qba l reps parts.toNat []).length;omega,by show (Qba l reps parts.toNat []).length≤64;omega⟩,λ p hp=>?_⟩,rfl,b1'⟩
 obtain⟨c1,c2,c3⟩:=b2 p hp
 exact⟨c1,by rw[c2];show ((reps.toNat:Nat):Int)=reps;omega,c3⟩
def Iba {l:List Dev} {reps:Int} {ps:List (List Int)}:∀ (n:Nat) (p:List Int),(Iaa l reps ps n p).length=p.length+n
 |0,_=>rfl
 |n+1,p=>by
  show (Iaa l reps ps n _).length=_
  rw[Iba n,Vd]
  simp only[Vc,Vh]
  omega
def Uba {α:Type} (l:List α) (x d:α):(l++[x]).getD l.length d=x:=by
 rw[Ve,Ye (Vw _),Hmb]
 rfl
def Xsa {α:Type} (l:List α) (x y:α):(l++[x]).set l.length y=l++[y]:=by
 rw[Jpb _ _ (Vw _),Hmb]
 rfl
def Ica (l:List Dev) (parts reps:Int) (z:Rng) (hl:Md l=true) (h0:0≤reps) (h5:reps≤5) (ps:List (List Int)) (hps:ps.length≤100) (hq:∀ q∈ps,q.length≤100):∀ (n:Nat) (p:List Int),p.length+n=reps.toNat→
  Tot (λ k=>Iu k l parts reps (ps.length:Int) (p.length:Int) z (reps,ps++[p])) (λ x=>x=(l,parts,reps,(ps.length:Int),z,(reps,ps++[Iaa l reps ps n p]))):=by
 intro n
 induction n with
 |zero=>
  intro p hp
  refine Tot.succ ?_
  simp (disch:=omega) only [Iu,dF]
  exact Gib rfl
 |succ n ih=>
  intro p hp
  refine Tot.succ ?_
  have hrb:RBd (reps,ps++[p]):=⟨by simp only[Vd,Vc,Vh];omega,λ q hq'=>by
   rcases Vo.1 hq' with h|h
   ·have:=hq q h;omega
   ·rw[Vu.1 h];omega⟩
  have hlen:(ps++[p]).length=ps.length+1:=by simp
  simp (disch:=omega) only [Iu,dT,Vb,w64,hlen,Uba,Xsa]
  refine Gtb (Nta (reps,ps++[p]) p l hrb (by omega) hl) ?_
  refine Glb (decide_eq_true trivial) (Gqb (by simp only[Vc,Vh];omega) (Glb (decide_eq_true trivial) ?_))
  have:=ih (p++[C8a (reps,ps++[p]) p l]) (by simp only[Vd,Vc,Vh];omega)
  rw[show (((p++[C8a (reps,ps++[p]) p l]).length:Nat):Int)=(p.length:Int)+1 by simp]at this
  exact this
def Uca (l:List Dev) (parts reps:Int) (hll:l.length≤5000000):Tot (λ k=>Hb k l parts reps) (λ x=>x=build l parts reps):=by
 unfold Hb build
 refine Gtb (Z0 l (by omega)) ?_
 cases hl:Md l
 ·exact Glb rfl (Gib rfl)
 simp only[Zf,cond_false,Oj,Vn,Wc]
 cases hp:inR parts 1 64
 ·exact Glb rfl (Gib rfl)
 refine Gkb rfl ?_
 cases hr:inR reps 1 5
 ·exact Glb rfl (Gib rfl)
 obtain⟨r1,r2⟩:=Eb.1 hr
 obtain⟨p1,p2⟩:=Eb.1 hp
 refine Gkb rfl ?_
 cases hc:decide (reps > (l.length:Int))
 case true=>exact Glb rfl (Gib rfl)
 refine Gkb rfl (Gjb (Q:=λ x=>x=(((0:Int),([]:List (List Int))),(reps,Qba l reps parts.toNat []))) ?_ (by rintro x rfl;exact Gib rfl))
 obtain⟨n,rfl⟩:∃ n:Nat,parts=(n:Int):=⟨parts.toNat,by omega⟩
 refine Grb (L:=λ k i (s:Rng)=>Iv k l (n:Int) reps i (0,[]) s) (Q:=λ x=>x=(((0:Int),([]:List (List Int))),(reps,Qba l reps n []))) n (λ j s=>∃ ps,s=(reps,ps)∧ps.length=j∧(∀ q∈ps,q.length≤100)∧Qba l reps (n-j) ps=Qba l reps n []) ?_ ?_ 0 (reps,[]) (Vs _) ⟨[],rfl,rfl,λ q h=>(by cases h),rfl⟩
 ·rintro s ⟨ps,rfl,hps,_,h⟩
  rw[Hmb]at h
  simp (disch:=omega) only [Iv,dF]
  exact Gib (by rw[← h];rfl)
 ·rintro j s hj ⟨ps,rfl,hps,hq,h⟩ next
  simp (disch:=omega) only [Iv,dT]
  refine Gqb (by simp only[Vc,Vh];omega) ?_
  have h9:=Ica l (n:Int) reps (0,[]) hl (by omega) r2 ps (by omega) hq reps.toNat [] (by simp)
  rw[hps]at h9
  refine Gjb h9 ?_
  rintro x rfl
  simp (disch:=omega) only [w64]
  refine next _ ⟨ps++[Iaa l reps ps reps.toNat []],rfl,by rw[Vd,hps];rfl,λ q hq'=>?_,?_⟩
  ·rcases Vo.1 hq' with h'|h'
   ·exact hq q h'
   ·rw[Vu.1 h',Iba,Vh];omega
  ·rw[show n-j=(n-(j+1))+1 by omega]at h
   exact h

def Nwa:∀ (p q:List Int),p.Nodup→(∀ x∈p,x∈q)→p.length≤q.length
 |[],_,_,_=>Vs _
 |x::p,q,h,hs=>by
  obtain⟨h1,h2⟩:=Yt.1 h
  have hx:=hs x Za
  have hlen:(q.erase x).length=q.length-1:=I1b hx
  have hpos:=Hrb hx
  have:=Nwa p (q.erase x) h2 (λ y hy=>(Isb (λ c=>by subst c;exact h1 hy)).2 (hs y (Vj _ hy)))
  rw[Vc]
  omega
def Uda {r:Rng} {l:List Dev} (h:Jd r l=true):r.1≤(l.length:Int):=by
 obtain⟨_,_,h3,h4⟩:=D5.1 h
 obtain⟨p,hp⟩:=Inb (show 0<r.2.length by omega)
 obtain⟨q1,q2,q3⟩:=h4 p hp
 have:=Nwa p (l.map (·.1)) q1 (λ x hx=>by
  obtain⟨d,hd⟩:=q3 x hx
  obtain⟨hm,he⟩:=Wt hd
  exact Yx.2 ⟨d,hm,he⟩)
 rw[Wh]at this
 omega
def L4a {r:Rng} {l:List Dev} (h:Jd r l=true):Tot (λ k=>Kh k r l) (λ b=>b=true):=by
 have hrp:=Uda h
 obtain⟨h1,h2,h3,h4⟩:=D5.1 h
 obtain⟨_,_,_,h12⟩:=Gy.1 h1
 unfold Kh
 refine Gtb (Z0 l (by omega)) ?_
 refine Gkb (by rw[h1];rfl) ?_
 simp only[Oj,Vn]
 refine Gkb (by rw[Eb.2 h2];rfl) (Gnb (by omega) (Gkb (by rw[Eb.2 (by omega)];rfl) ?_))
 refine Gjb (Q:=λ b=>b = .inr ()) ?_ (by rintro b rfl;exact Gib rfl)
 refine Grb (L:=λ k i (_:Unit)=>Jw k i r) (Q:=λ b=>b = .inr ()) r.2.length (λ _ _=>True) ?_ ?_ 0 () (Vs _) trivial
 ·intro _ _
  simp (disch:=omega) only [Jw,dF]
  exact Gib rfl
 ·intro j _ hj _ next
  obtain⟨q1,q2,_⟩:=h4 _ (A4 (d:=[]) hj)
  simp (disch:=omega) only [Jw,dT,Vb,w64]
  refine Gtb (Nqa _ _ (by omega)) ?_
  exact Gkb (by rw[decide_eq_true q1,q2];simp) (next () trivial)
def Xta (p:List Int) (l:List Dev) (h:∀ id∈p,∃ d,Ko l id=some d) (hp:p.length≤5000000) (hl:l.length≤5000000):Tot (λ k=>H1 k p l) (λ x=>x = -1):=by
 unfold H1
 refine Gjb (Q:=λ x=>x = .inr ()) ?_ (by rintro x rfl;exact Gib rfl)
 refine Grb (L:=λ k i (_:Unit)=>Ho k l i p) (Q:=λ x=>x = .inr ()) p.length (λ _ _=>True) ?_ ?_ 0 () (Vs _) trivial
 ·intro _ _
  simp (disch:=omega) only [Ho,dF]
  exact Gib rfl
 ·intro j _ hj _ next
  simp (disch:=omega) only [Ho,dT,Vb,w64]
  refine Gtb (Rz l _ (by omega)) ?_
  obtain⟨d,hd⟩:=h _ (A4 (d:=0) hj)
  exact Gkb (by rw[hd];rfl) (next () trivial)
def hv (r:Rng) (l:List Dev) (b id:Int):Bool:=match Ko l b with
 |none=>false
 |some x=>match Ko l id with
  |none=>false
  |some d=>(d.2.1==x.2.1)&&decide (My r id-My r b≥2)
def Qca (r:Rng) (l:List Dev) (p:List Int) (b:Int):Option Nat:=p.findIdx? (hv r l b)
def oI:Option Nat→Int
 |some i=>(i:Int)
 |none => -1
def Ida {f:Int→Bool} {p:List Int} {j:Nat} (hj:j<p.length) (h:((p.drop j).findIdx? f).map (· + j)=p.findIdx? f):
  (f (p.getD j 0)=true→p.findIdx? f=some j)∧(f (p.getD j 0)=false→((p.drop (j+1)).findIdx? f).map (· + (j+1))=p.findIdx? f):=by
 rw[Af (d:=0) hj,I7b]at h
 constructor
 ·intro c
  rw[if_pos c]at h
  rw[← h,I2b,Wl]
 ·intro c
  rw[if_neg (by rw[c];simp)]at h
  rw[← h,Option.map_map]
  congr 1
  funext x
  show x+(j+1)=x+1+j
  omega
def Uea (r:Rng) (p:List Int) (l:List Dev) (b:Int) (hr:RBd r) (hp:p.length≤2000000) (hl:l.length≤2000000):Tot (λ k=>Fg k r p l b) (λ x=>x=oI (Qca r l p b)):=by
 unfold Fg
 refine Gtb (Rz l b (by omega)) ?_
 refine Gjb (Q:=λ x=>x=match Qca r l p b with|some i => .inl (i:Int)|none => .inr ()) ?_ (by rintro x rfl;cases Qca r l p b<;>exact Gib rfl)
 cases hb:Ko l b with
 |none=>
  have hn:Qca r l p b=none:=by unfold Qca;rw[J9b];intro x _;unfold hv;rw[hb]
  rw[hn]
  refine Tot.succ ?_
  by_cases hp0:(0:Int)<(p.length:Int)
  ·simp (disch:=omega) only [Ci,dT,Ftb,cond_false]
   exact Gib rfl
  ·simp (disch:=omega) only [Ci,dF]
   exact Gib rfl
 |some x=>
  have hvI:∀ id,hv r l b id=match Ko l id with|none=>false|some d=>(d.2.1==x.2.1)&&decide (My r id-My r b≥2):=λ id=>by unfold hv;rw[hb]
  refine Grb (L:=λ k i (_:Unit)=>Ci k l b true i r p x) (Q:=λ x=>x=match Qca r l p b with|some i => .inl (i:Int)|none => .inr ()) p.length (λ j _=>((p.drop j).findIdx? (hv r l b)).map (· + j)=p.findIdx? (hv r l b)) ?_ ?_ 0 () (Vs _) (by simp)
  ·intro _ h
   rw[Wi]at h
   have hn:Qca r l p b=none:=h.symm
   rw[hn]
   simp (disch:=omega) only [Ci,dF]
   exact Gib rfl
  ·intro j _ hj h next
   obtain⟨k1,k2⟩:=Ida hj h
   simp (disch:=omega) only [Ci,dT,Vb,w64,cond_true]
   generalize p.getD j 0=id at *
   refine Gtb (Rz l id (by omega)) ?_
   rw[hvI]at k1 k2
   cases hd:Ko l id with
   |none=>
    rw[hd]at k2
    exact Gkb rfl (next () (k2 rfl))
   |some d=>
    rw[hd]at k1 k2
    obtain⟨_,e⟩:=Wt hd
    refine Glb rfl ?_
    cases hz:d.2.1==x.2.1
    ·exact Gkb hz (next () (k2 (by simp only[hz,Zq])))
    refine Glb hz (Gtb (Z1 r d.1 hr) ?_)
    refine Gtb (Z1 r b hr) ?_
    have l1:=Uv hr d.1
    have l2:=Uv hr b
    simp (disch:=omega) only [w64]
    refine Gpb (λ hc=>Gib ?_) (λ hc=>next () (k2 ?_))
    ·have hn:Qca r l p b=some j:=k1 (by simp only[hz,Wc];rw[← e];exact decide_eq_true hc)
     rw[hn]
    ·simp only[hz,Wc];rw[← e];exact decide_eq_false hc
def rb1 (l:List Dev) (s:Int×Rng) (j:Nat):Int×Rng:=match Qca s.2 l (s.2.2.getD j []) (C8a s.2 (s.2.2.getD j []) l) with
 |none=>s
 |some i=>(s.1+1,(s.2.1,s.2.2.set j ((s.2.2.getD j []).set i (C8a s.2 (s.2.2.getD j []) l))))
def rbs (l:List Dev) (r:Rng) (n:Nat):Int×Rng:=(List.range n).foldl (rb1 l) (0,r)
def L5a (r:Rng) (l:List Dev):Rng×Int:=((rbs l r r.2.length).2,(rbs l r r.2.length).1)
def Nxa (l:List Dev) (r:Rng) (n:Nat):rbs l r (n+1)=rb1 l (rbs l r n) n:=by
 unfold rbs
 rw[Jqb,Hkb]
 rfl
def Xe {r:Rng} {l:List Dev} {p:List Int} {i:Nat} (hl:Md l=true) (h:Qca r l p (C8a r p l)=some i):i<p.length∧C8a r p l∉p∧0≤C8a r p l∧∃ d,Ko l (C8a r p l)=some d:=by
 obtain⟨h1,h2,_⟩:=I8b.1 h
 refine⟨h1,?_⟩
 unfold hv at h2
 cases hb:Ko l (C8a r p l) with
 |none=>rw[hb]at h2;cases h2
 |some d=>
  obtain⟨hd,he⟩:=Wt hb
  obtain⟨⟨i0,_⟩,_⟩:=Oe.1 ((Gy.1 hl).2.1 _ hd)
  refine⟨?_,by omega,d,rfl⟩
  rcases Pqa r p l with⟨_,e⟩|⟨b,_,e,_,hn⟩
  ·omega
  ·rw[e];exact hn
def Ufa {p:List Int} {b:Int} (h:p.Nodup) (hb:b∉p) (i:Nat):(p.set i b).Nodup:=by
 induction p generalizing i with
 |nil=>exact h
 |cons x p ih=>
  obtain⟨h1,h2⟩:=Yt.1 h
  cases i with
  |zero=>exact Yt.2 ⟨λ c=>hb (Vj _ c),h2⟩
  |succ i=>
   refine Yt.2 ⟨λ c=>?_,ih h2 (λ c=>hb (Vj _ c)) i⟩
   rcases Xs c with c|c
   ·exact h1 c
   ·exact hb (c ▸ Za)
def Egb {l:List Dev} {s:Int×Rng} {j:Nat} (hj:j<s.2.2.length) (h:Jd s.2 l=true):Jd (rb1 l s j).2 l=true∧(rb1 l s j).2.1=s.2.1∧(rb1 l s j).2.2.length=s.2.2.length∧s.1≤(rb1 l s j).1∧(rb1 l s j).1≤s.1+1:=by
 unfold rb1
 obtain⟨h1,h2,h3,h4⟩:=D5.1 h
 cases hx:Qca s.2 l (s.2.2.getD j []) (C8a s.2 (s.2.2.getD j []) l) with
 |none=>exact⟨h,rfl,rfl,by dsimp only;omega,by dsimp only;omega⟩
 |some i=>
  obtain⟨b1,b2,_,b3⟩:=Xe h1 hx
  obtain⟨q1,q2,q3⟩:=h4 _ (A4 (d:=[]) hj)
  refine⟨D5.2 ⟨h1,h2,by dsimp only;rw[List.length_set];exact h3,λ p hp=>?_⟩,rfl,by dsimp only;rw[List.length_set],by dsimp only;omega,by dsimp only;omega⟩
  rcases Xs hp with hp|hp
  ·exact h4 p hp
  ·subst hp
   refine⟨Ufa q1 b2 i,by rw[Vz];exact q2,λ id hid=>?_⟩
   rcases Xs hid with hid|hid
   ·exact q3 id hid
   ·rw[hid];exact b3
def Nya {l:List Dev} {r:Rng} (h:Jd r l=true):∀ (n:Nat),n≤r.2.length→Jd (rbs l r n).2 l=true∧(rbs l r n).2.1=r.1∧(rbs l r n).2.2.length=r.2.length∧0≤(rbs l r n).1∧(rbs l r n).1≤n
 |0,_=>⟨h,rfl,rfl,Gvb _,Gvb _⟩
 |n+1,hn=>by
  obtain⟨h1,h2,h3,h4,h5⟩:=Nya h n (by omega)
  obtain⟨g1,g2,g3,g4,g5⟩:=Egb (j:=n) (by omega) h1
  rw[Nxa]
  exact⟨g1,by rw[g2,h2],by rw[g3,h3],by omega,by omega⟩
def Nza {r:Rng} {l:List Dev} (h:Jd r l=true):Jd (L5a r l).1 l=true∧(L5a r l).1.1=r.1∧(L5a r l).1.2.length=r.2.length∧0≤(L5a r l).2:=by
 obtain⟨h1,h2,h3,h4,_⟩:=Nya h r.2.length (Vw _)
 exact⟨h1,h2,h3,h4⟩
def Uga {r:Rng} {l:List Dev} (h:Jd r l=true):Tot (λ k=>Cu k r l) (λ x=>x=L5a r l):=by
 obtain⟨_,_,h64,_⟩:=D5.1 h
 unfold Cu
 refine Gjb (Xd r (N1 h)) ?_
 rintro x rfl
 refine Gjb (L4a h) ?_
 rintro b rfl
 refine Gkb rfl (Gjb (Q:=λ y=>y=((rbs l x x.2.length).1,((0:Int),([]:List (List Int))),(rbs l x x.2.length).2)) ?_ (by rintro y rfl;exact Gib rfl))
 refine Grb (L:=λ k i (s:Int×Rng)=>B8 k l s.1 i (0,[]) s.2) (Q:=λ y=>y=((rbs l x x.2.length).1,((0:Int),([]:List (List Int))),(rbs l x x.2.length).2)) x.2.length (λ j s=>s=rbs l x j) ?_ ?_ 0 (0,x) (Vs _) rfl
 ·rintro s rfl
  obtain⟨_,_,g3,_⟩:=Nya h x.2.length (Vw _)
  simp (disch:=omega) only [B8,dF]
  exact Gib rfl
 ·rintro j s hj rfl next
  obtain⟨g1,g2,g3,g4,g5⟩:=Nya h j (by omega)
  rw[Nxa]at next
  generalize rbs l x j=s at *
  obtain⟨c,r⟩:=s
  dsimp only at g1 g2 g3 g4 g5
  obtain⟨q0,_,_,q4⟩:=D5.1 g1
  obtain⟨p1,p2,p3⟩:=q4 _ (A4 (d:=[]) (show j<r.2.length by omega))
  have hx2:=(D5.1 h).2.1
  have l12:=(Gy.1 q0).2.2.2
  unfold rb1 at next
  dsimp only at next
  obtain⟨p,hp⟩:∃ p,r.2.getD j []=p:=⟨_,rfl⟩
  rw[hp]at p1 p2 p3
  simp only[hp]at next
  simp (disch:=omega) only [B8,dT,Vb,w64,hp]
  refine Gjb (Xta p l p3 (by omega) (by omega)) ?_
  rintro x rfl
  refine Gnb (by omega) (Gjb (Nta r p l (N1 g1) (by omega) q0) ?_)
  rintro b rfl
  refine Gjb (Uea r p l _ (N1 g1) (by omega) (by omega)) ?_
  rintro y rfl
  cases hi:Qca r l p (C8a r p l) with
  |none=>
   rw[hi]at next
   exact Gnb (by show ¬ ((-1:Int)≥0);omega) (next _ rfl)
  |some i=>
   obtain⟨b1,b2,b3,_⟩:=Xe q0 hi
   rw[hi]at next
   have e:oI (some i)=(i:Int):=rfl
   simp (disch:=omega) only [e,dT,Vb]
   exact next _ rfl
def wgt (l:List Dev) (i:Nat) (w:Int):List Dev:=l.set i ((l.getD i Nu).1,(l.getD i Nu).2.1,w)
def F4a (l:List Dev) (i:Nat) (w:Int):(wgt l i w).map (·.1)=l.map (·.1):=by
 unfold wgt
 rw[List.map_set]
 by_cases hi:i<l.length
 ·have:(l.getD i Nu).1=(l.map (·.1)).getD i 0:=by
   simp only[Ve,H2b,Vk hi,I2b,Yq]
  rw[this,Ve,Vk (by simpa using hi),Yq]
  exact List.set_getElem_self _
 ·rw[List.set_eq_of_length_le (by simpa using hi)]
def S5 {l:List Dev} {id:Int}:(∃ d,Ko l id=some d)↔id∈l.map (·.1):=by
 unfold Ko
 rw[← Zk,List.find?_isSome,Yx]
 exact⟨λ ⟨x,h,e⟩=>⟨x,h,eq_of_beq e⟩,λ ⟨x,h,e⟩=>⟨x,h,beq_iff_eq.2 e⟩⟩
def Ehb {l:List Dev} {i:Nat} {w:Int} (h:Md l=true) (hi:i<l.length) (h1:1≤w) (h2:w≤1000):Md (wgt l i w)=true:=by
 obtain⟨g1,g2,g3,g4⟩:=Gy.1 h
 refine Gy.2 ⟨?_,λ d hd=>?_,?_⟩
 ·have e:(l.map (·.1)).Pairwise (· < ·):=Gwb.2 g1
  rw[← F4a l i w]at e
  exact Gwb.1 e
 ·rcases Xs hd with hd|hd
  ·exact g2 d hd
  ·obtain⟨e1,e2,_⟩:=Oe.1 (g2 _ (A4 (d:=Nu) hi))
   subst hd
   exact Oe.2 ⟨e1,e2,h1,h2⟩
 ·unfold wgt
  rw[Vz]
  exact⟨g3,g4⟩
def F5a {r:Rng} {l:List Dev} {i:Nat} {w:Int} (h:Jd r l=true) (hi:i<l.length) (h1:1≤w) (h2:w≤1000):Jd r (wgt l i w)=true:=by
 obtain⟨g1,g2,g3,g4⟩:=D5.1 h
 refine D5.2 ⟨Ehb g1 hi h1 h2,g2,g3,λ p hp=>?_⟩
 obtain⟨q1,q2,q3⟩:=g4 p hp
 exact⟨q1,q2,λ id hid=>by rw[S5,F4a,← S5];exact q3 id hid⟩

def Uha (x:BitVec 32):(cst x).getLsbD 31=x.getLsbD 0:=by
 have h0:(x >>> 1).getLsbD 31=false:=by
  rw[J0b]
  exact BitVec.getLsbD_of_ge _ _ (by decide)
 unfold cst
 cases h:x.getLsbD 0 with
 |true=>
  rw[if_pos rfl,BitVec.getLsbD_xor,h0]
  decide
 |false=>
  rw[if_neg (by simp),h0]
def Wu {n:Nat} {x y c:BitVec n} (h:x ^^^ c=y ^^^ c):x=y:=by
 have:=congrArg (λ z=>z ^^^ c) h
 simpa[BitVec.xor_assoc] using this
def Byb {x y:BitVec 32} (h:cst x=cst y):x=y:=by
 have h0:x.getLsbD 0=y.getLsbD 0:=by rw[← Uha,← Uha,h]
 have h1:x >>> 1=y >>> 1:=by
  unfold cst at h
  rw[h0]at h
  cases hb:y.getLsbD 0 with
  |true=>rw[hb,if_pos rfl,if_pos rfl]at h;exact Wu h
  |false=>rw[hb,if_neg (by simp),if_neg (by simp)]at h;exact h
 refine BitVec.eq_of_getLsbD_eq λ i hi=>?_
 cases i with
 |zero=>exact h0
 |succ i=>
  have:=congrArg (λ z=>z.getLsbD i) h1
  simpa[J0b,Zu] using this
def Bia:∀ (n:Nat) {x y:BitVec 32},C6a n x=C6a n y→x=y
 |0,_,_,h=>h
 |n+1,_,_,h=>Byb (Bia n h)
def Bzb {x y:BitVec 32} {b:Int} (h:cby x b=cby y b):x=y:=Wu (Bia 8 h)
def Xua {x:BitVec 32} {a b:Int} (ha:0≤a∧a≤255) (hb:0≤b∧b≤255) (h:cby x a=cby x b):a=b:=by
 have h1:x ^^^ ofInt 32 a=x ^^^ ofInt 32 b:=Bia 8 h
 rw[Jmb,Jmb x]at h1
 have h2:=Wu h1
 rw[Nia ha,Nia hb,h2]
def O0a:∀ (l:List Int) {x y:BitVec 32},l.foldl cby x=l.foldl cby y→x=y
 |[],_,_,h=>h
 |_::l,_,_,h=>Bzb (O0a l h)
def Zqa (l:List Int):0≤crc l∧crc l≤4294967295:=by
 unfold crc
 have:=(Czb l).isLt
 omega
def C0b {l:List Int} {i:Nat} {y:Int} (hi:i<l.length) (hy:0≤y∧y≤255) (hb:Ap l) (hne:y≠l.getD i 0):crc (l.set i y)≠crc l:=by
 intro h
 have h1:Czb (l.set i y)=Czb l:=Jnb (by unfold crc at h;omega)
 unfold Czb at h1
 have h2:=BitVec.not_inj.1 h1
 have e1:l.set i y=l.take i++y::l.drop (i+1):=by rw[Hab,if_pos hi]
 have e2:l=l.take i++l.getD i 0::l.drop (i+1):=by
  conv => { lhs;rw[← Wo i l] }
  rw[Af (d:=0) hi]
 rw[e1,Hkb,Zb]at h2
 rw[e2]at h2
 rw[Hkb,Zb]at h2
 have e3:(l.take i++l.getD i 0::l.drop (i+1)).take i=l.take i:=by rw[← e2]
 have e4:(l.take i++l.getD i 0::l.drop (i+1)).drop (i+1)=l.drop (i+1):=by rw[← e2]
 rw[e3,e4]at h2
 exact hne (Xua hy (hb _ (A4 hi)) (O0a _ h2))
def Eib {a b:Int} (ha:0≤a∧a≤4294967295) (hb:0≤b∧b≤4294967295) (h:c4 a=c4 b):a=b:=by
 have e:∀ c:Int,0≤c→c4 c=[c/16777216 % 256,c/65536 % 256,c/256 % 256,c % 256]:=λ c hc=>by
  unfold c4
  rw[show (2:Int) ^ (min (toNat 24) (IntKind.bits .i64))=16777216 from by decide,show (2:Int) ^ (min (toNat 16) (IntKind.bits .i64))=65536 from by decide,show (2:Int) ^ (min (toNat 8) (IntKind.bits .i64))=256 from by decide,
   Zza _ (by omega),Zza _ (by omega),Zza _ (by omega),I6b,I6b,I6b,I6b]
 rw[e a ha.1,e b hb.1]at h
 simp only[Yk,and_true]at h
 omega
def Psa {l m:List Int} {j:Nat} (h:j<l.length):(l++m).getD j 0=l.getD j 0:=by rw[Ve,Ve,Yc h]
def Pta {l m:List Int} {j:Nat} (h:l.length≤j):(l++m).getD j 0=m.getD (j-l.length) 0:=by rw[Ve,Ve,Ye h]
def Xva {f:Fil} (hf:Fk f=true) {n:Nat} (hn:n<8*(M8 f).length):Ol (O7 (M8 f) n)=none:=by
 cases hg:Ol (O7 (M8 f) n) with
 |none=>rfl
 |some g=>
  exfalso
  obtain⟨g1,_,g3⟩:=Tma hg
  have hpb:=Q7 f
  have hj:n/8<(M8 f).length:=by omega
  have hy:=Nma ((M8 f).getD (n/8) 0) (n % 8)
  have hne:=Xia (hpb _ (A4 (d:=0) hj)) (Jrb n (show 0<8 by omega))
  unfold O7 at g3
  generalize C7a ((M8 f).getD (n/8) 0) (n % 8)=y at g3 hy hne
  generalize n/8=j at g3 hj hne
  have ef:M8 f=Pp f++c4 (crc (Pp f)):=by unfold M8;rw[hf];rfl
  have eg:M8 g=Pp g++c4 (crc (Pp g)):=by unfold M8;rw[g1];rfl
  have l4:∀ c,(c4 c).length=4:=λ c=>rfl
  rw[eg]at g3
  rw[ef]at g3 hj hne
  have hlen:(Pp g).length=(Pp f).length:=by
   have:=congrArg length g3
   rw[Vz,Vd,Vd,l4,l4]at this
   omega
  by_cases hjb:j<(Pp f).length
  ·rw[List.set_append_left _ _ hjb]at g3
   obtain⟨a1,a2⟩:=List.append_inj g3 (by rw[Vz];exact hlen)
   rw[Psa hjb]at hne
   have:=Eib (Zqa _) (Zqa _) a2
   rw[a1]at this
   exact C0b hjb hy (Qv f) hne this
  ·rw[Jpb _ _ (by omega)]at g3
   obtain⟨a1,a2⟩:=List.append_inj g3 hlen
   rw[a1]at a2
   rw[Pta (by omega)]at hne
   rw[Vd,l4]at hj
   have:(c4 (crc (Pp f))).getD (j-(Pp f).length) 0=y:=by
    rw[a2,Ve,Idb (by rw[l4];omega),Yq]
   exact hne this.symm

end Go.Proofs.YtmhhjceoinoekaaGreat.Vf
