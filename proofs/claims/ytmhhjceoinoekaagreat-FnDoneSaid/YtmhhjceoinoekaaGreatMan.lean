import Derived.Test.YtmhhjceoinoekaaGreatMam
import Derived.Test.YtmhhjceoinoekaaGreatMal
set_option linter.all false
namespace Go.Proofs.YtmhhjceoinoekaaGreat.Vf
open Go
open List (length getD)
open Int (toNat)
open Go.IntKind (wrap)
open BitVec (ofInt)
def Wl:=@List.take_succ_eq_append_getElem
def Zz:=@List.mem_iff_getElem
def Ifb:=@List.length_pos_of_mem
def Irb:=@List.length_erase_of_mem
def Jgb:=@List.mem_erase_of_ne
def K1b:=@Nat.mod_lt
def Keb:=@BitVec.eq_of_toNat_eq
def Kfb:=@List.find?_cons
def Kgb:=@List.set_append_right

def DG (d:Dsk):Prop:=An d=true∧DB d
def Upa {d:Dsk} {s:ByteArray} {b:List Int} (hd:An d=true) (h:gt d.1 s=some b):b.length≤400:=(Rr.1 ((Ai.1 (E8.1 hd).1).2.1 _ (Qe h))).2
def Ajb {d:Dsk} {s:ByteArray} {b:List Int} (h:DB d) (hb:As b):DB (wrD d s b).1:=by
 unfold wrD
 cases decide (b.length≤400)&&decide ((wr d.1 s b).length≤60) with
 |false=>exact h
 |true=>exact⟨(h.1.cut s).ins hb,h.2⟩
def Gib {d:Dsk} {s:ByteArray} (h:DB d):LB (sy d s):=by
 unfold sy
 cases hg:gt d.1 s with
 |none=>exact h.2.cut s
 |some b=>exact(h.2.cut s).ins (h.1.gt hg)
def F5b {d:Dsk} {s:ByteArray} (h:DB d):DB (syD d s).1:=by
 unfold syD
 cases decide ((sy d s).length≤60) with
 |false=>exact h
 |true=>exact⟨h.1,Gib h⟩
def F6b {d:Dsk} {s:ByteArray} (h:DB d):DB (rmD d s).1:=by
 unfold rmD
 cases (gt d.1 s).isSome with
 |false=>exact h
 |true=>exact⟨h.1.cut s,h.2⟩
def Gjb {d:Dsk} {s:ByteArray} {b:List Int} (h:DG d) (hs:Az s=true) (hb:As b):DG (wrD d s b).1:=⟨Oba h.1 hs,Ajb h.2 hb⟩
def Crb {d:Dsk} {s:ByteArray} (h:DG d) (hs:Az s=true):DG (syD d s).1:=⟨F1b h.1 hs,F5b h.2⟩
def Uqa {d:Dsk} {s:ByteArray} (h:DG d):DG (rmD d s).1:=⟨Aib h.1,F6b h.2⟩
def F7b {d:Dsk} {s:ByteArray} {f:Fil} (hd:DG d) (hs:Az s=true) {x:Dsk×Int} (h:kp1 d s f=some x):DG x.1:=by
 refine⟨F2b hd.1 hs h,?_⟩
 have hw:∀ x,(bif (wrD d s (N1 f)).2 then some ((wrD d s (N1 f)).1,(0:Int)) else none)=some x→DB x.1:=by
  intro x h
  cases hc:(wrD d s (N1 f)).2 with
  |false=>rw[hc]at h;cases h
  |true=>rw[hc]at h;cases h;exact Ajb hd.2 (R8 f)
 unfold kp1 at h
 simp only at h
 split at h
 ·rename_i o _
  cases hc:sle o.1 f.1 with
  |false=>rw[hc]at h;cases h;exact hd.2
  |true=>rw[hc]at h;exact hw _ h
 ·exact hw _ h
def Gkb {d:Dsk} {s:ByteArray} {sure:Bool} (hd:DG d) (hs:Az s=true) {x:Dsk×Int} (hx:DG x.1):DG (kp2 d s sure x).1:=by
 unfold kp2
 cases sure
 ·exact hx
 rw[cond_true]
 cases (syD x.1 s).2 with
 |false=>exact hd
 |true=>exact Crb hx hs
def Ura {d:Dsk} {s:ByteArray} {f:Fil} {sure:Bool} (hd:DG d) (hs:Az s=true):DG (O4 d s f sure).1:=by
 unfold O4
 cases h:kp1 d s f with
 |none=>exact hd
 |some x=>exact Gkb hd hs (F7b hd hs h)
def Akb {d:Dsk} {s:ByteArray} {f:Fil} {sure:Bool} (hd:DG d):DG (keep d s f sure).1:=by
 unfold keep
 cases h:Az s
 ·rw[hd.1];exact hd
 cases Ee f with
 |false=>rw[hd.1];exact hd
 |true=>rw[hd.1];exact Ura hd h
def Aca (b:Int) (j:Nat):Int:=((ofInt 8 b ^^^ BitVec.twoPow 8 j).toNat:Int)
def Ofa (b:Int) (j:Nat):0≤Aca b j∧Aca b j≤255:=by
 unfold Aca
 have:=(ofInt 8 b ^^^ BitVec.twoPow 8 j).isLt
 omega
def Usa (b:Int):∀ j,j<8→wrap .u8 ((ofInt (IntKind.bits .u8) b ^^^ ofInt (IntKind.bits .u8) (wrap .u8 ((1:Int)*2 ^ (min j (IntKind.bits .u8))))).toNat)=Aca b j:=by
 intro j hj
 have h1:∀ j,j<8→ofInt 8 (wrap .u8 ((1:Int)*2 ^ (min j 8)))=BitVec.twoPow 8 j:=by decide
 show wrap .u8 (((ofInt 8 b ^^^ ofInt 8 (wrap .u8 ((1:Int)*2 ^ (min j 8)))).toNat:Nat):Int)=_
 rw[h1 j hj]
 have:=(ofInt 8 b ^^^ BitVec.twoPow 8 j).isLt
 rw[Ifa _ (by omega)]
 rfl
def Yha {b:Int} (hb:0≤b∧b≤255) {j:Nat} (hj:j<8):Aca b j≠b:=by
 intro h
 unfold Aca at h
 have h1:b=((ofInt 8 b).toNat:Int):=by rw[Ivb];omega
 have h2:(ofInt 8 b ^^^ BitVec.twoPow 8 j).toNat=(ofInt 8 b).toNat:=by omega
 have h3:=Keb h2
 have h4:BitVec.twoPow 8 j=0#8:=by
  have:=congrArg (λ x=>ofInt 8 b ^^^ x) h3
  simpa[← BitVec.xor_assoc] using this
 have h5:∀ j,j<8→BitVec.twoPow 8 j≠0#8:=by decide
 exact h5 j hj h4
def O8 (l:List Int) (n:Nat):List Int:=l.set (n/8) (Aca (l.getD (n/8) 0) (n % 8))
def Ita (l:List Int) (n:Nat):(O8 l n).length=l.length:=by unfold O8;rw[Vy]
def Lqa {l:List Int} (h:As l) (n:Nat):As (O8 l n):=λ x hx=>by
 rcases Xs hx with h'|rfl
 ·exact h x h'
 ·exact Ofa _ _
def D5a (d:Dsk) (s:ByteArray) (n:Int):Dsk×Bool:=match gt d.1 s with
 |none=>(d,false)
 |some b=>bif inR n 0 (8*(b.length:Int)-1) then ((wr d.1 s (O8 b n.toNat),bif decide (gt d.2 s=some b) then wr d.2 s (O8 b n.toNat) else d.2),true) else (d,false)
def Iua {l:List Nmd} (hs:Ho l) {s:ByteArray} {i:Nat} (h:fnd l s=some i) (b:List Int):l.set i (s,b)=wr l s b:=by
 obtain⟨hi,hn⟩:=Oe h
 have hm:(l.set i (s,b)).map Prod.fst=l.map Prod.fst:=by
  rw[List.map_set]
  apply Iib
  intro j
  by_cases hj:i=j
  ·subst hj
   rw[J3b (by rw[We];exact hi),Hub,Vk hi]
   rw[Ve,Vk hi]at hn
   exact congrArg some hn.symm
  ·rw[Ikb hj]
 have h1:Ho (l.set i (s,b)):=by
  have e:∀ m:List Nmd,Ho m↔(m.map Prod.fst).Pairwise (λ a b=>tlt a b=true):=λ m=>by
   unfold Ho
   rw[Hnb]
  rw[e,hm,← e]
  exact hs
 refine Ahb h1 (Tu (P0 hs) Cca) λ t=>?_
 have h2:=Agb (x:=(s,b)) (t:=t) (P0 hs (s:=s)) Cca
 unfold wr
 rw[h2]
 by_cases ht:s=t
 ·subst ht
  rw[if_pos rfl,Ira h1]
  exact List.mem_set hi _
 ·rw[if_neg ht,X2 hs,if_neg ht]
  cases hg:gt l t with
  |none=>
   refine P3.2 λ x hx=>?_
   rcases Xs hx with h'|rfl
   ·exact P3.1 hg x h'
   ·exact ht
  |some c=>
   rw[Ira h1]
   obtain⟨j,hj,e⟩:=Zz.1 (Qe hg)
   have hij:i≠j:=by
    rintro rfl
    rw[Ve,Vk hi,Yp,e]at hn
    exact ht hn.symm
   refine Zz.2 ⟨j,by rw[Vy];exact hj,?_⟩
   rw[List.getElem_set_ne hij]
   exact e
def Iva {l:List Nmd} {s:ByteArray} {b:List Int} (hs:Ho l) (h:(gt l s).isSome=true):(wr l s b).length=l.length:=by
 rw[Cga]at h
 obtain⟨i,hi⟩:=Zo.1 h
 rw[← Iua hs hi,Vy]
def F8b {d:Dsk} {s:ByteArray} {n:Int} (h:DG d):DG (D5a d s n).1:=by
 unfold D5a
 cases hg:gt d.1 s with
 |none=>exact h
 |some b=>
  simp only
  cases inR n 0 (8*(b.length:Int)-1)
  ·exact h
  have hn:=Qda h.1 (s:=s) (by rw[hg];rfl)
  have hb:=Upa h.1 hg
  have hbb:=Lqa (h.2.1.gt hg) n.toNat
  have l1:=Iva (b:=O8 b n.toNat) (Nu h.1) (s:=s) (by rw[hg];rfl)
  have q1:=Cqb h.1 hn (b:=O8 b n.toNat) (by rw[Ita];exact hb) (by rw[l1];exact(Ai.1 (E8.1 h.1).1).2.2)
  rw[cond_true]
  cases hc:decide (gt d.2 s=some b)
  ·exact⟨q1,(h.2.1.cut s).ins hbb,h.2.2⟩
  have hg2:=of_decide_eq_true hc
  have l2:=Iva (b:=O8 b n.toNat) (Qn h.1) (s:=s) (by rw[hg2];rfl)
  have h':An (d.2,d.1)=true:=E8.2 ⟨(E8.1 h.1).2,(E8.1 h.1).1⟩
  have q2:=Cqb h' hn (b:=O8 b n.toNat) (by rw[Ita];exact hb) (by show (wr d.2 s _).length≤60;rw[l2];exact(Ai.1 (E8.1 h.1).2).2.2)
  exact⟨E8.2 ⟨(E8.1 q1).1,(E8.1 q2).1⟩,(h.2.1.cut s).ins hbb,(h.2.2.cut s).ins hbb⟩
def Csb {d:Dsk} {s:ByteArray} {n:Int} (h:DG d) (hn:n≤9223372036854775807) (hn0 : -9223372036854775808≤n):Tot (λ k=>Lt k d s n) (λ r=>r=D5a d s n):=by
 have hin:=Ng h.1
 unfold Lt
 refine Hib (N8 d hin.1.1) ?_
 refine Hib (Eha d.1 s hin.1.1.1.1) ?_
 refine Hib (Rq d hin.1.1 hin.1.2) ?_
 rw[h.1]
 refine H9b rfl ?_
 unfold D5a
 unfold G0a
 cases hf:fnd d.1 s with
 |none=>
  have hg:gt d.1 s=none:=by unfold gt;rw[hf]
  rw[hg]
  exact Hbb (by decide) (H7b rfl)
 |some i=>
  have hg:gt d.1 s=some (d.1.getD i Dd).2:=by unfold gt;rw[hf]
  have hi:=(Oe hf).1
  have hnm:=(Oe hf).2
  have hb:=Upa h.1 hg
  rw[hg]
  have e0:d.1.getD i ((⟨#[]⟩:ByteArray),([]:List Int))=d.1.getD i Dd:=rfl
  simp only[Vb,e0]
  refine Hcb (by omega) (Hbb (by omega) (Hbb (by omega) ?_))
  rw[w64 (n:=8*((d.1.getD i Dd).2.length:Int)) (by omega) (by omega),w64 (n:=8*((d.1.getD i Dd).2.length:Int)-1) (by omega) (by omega)]
  refine Hib (Hjb (Q:=λ b=>b=inR n 0 (8*((d.1.getD i Dd).2.length:Int)-1)) (Pe _ _ _) rfl) ?_
  cases hr:inR n 0 (8*((d.1.getD i Dd).2.length:Int)-1)
  ·exact Hab rfl (H7b rfl)
  obtain⟨n0,n1⟩:=Cc.1 hr
  obtain⟨m,rfl⟩:∃ m:Nat,n=(m:Int):=⟨n.toNat,by omega⟩
  have hm8:m/8<(d.1.getD i Dd).2.length:=by omega
  have et:wrap .i64 (Int.tdiv (m:Int) 8)=((m/8:Nat):Int):=by
   rw[Hlb (by omega),w64 (by omega) (by omega)]
   omega
  have eu:wrap .u64 (Int.tmod (m:Int) 8)=((m % 8:Nat):Int):=by
   have h8:∀ j:Nat,j<8→wrap .u64 (j:Int)=(j:Int):=by decide
   rw[Zv (by omega),← h8 (m % 8) (by omega)]
   congr 1
  refine H9b rfl (Hib (Eha d.2 s hin.1.1.2.1) ?_)
  simp only[et,eu,Vb,Usa _ _ (K1b m (show 0<8 by omega))]
  have ew:d.1.set i ((d.1.getD i Dd).1,O8 (d.1.getD i Dd).2 m)=wr d.1 s (O8 (d.1.getD i Dd).2 m):=by rw[hnm];exact Iua (Nu h.1) hf _
  have ew':d.1.set i ((d.1.getD i Dd).1,(d.1.getD i Dd).2.set (m/8) (Aca ((d.1.getD i Dd).2.getD (m/8) 0) (m % 8)))=wr d.1 s (O8 (d.1.getD i Dd).2 m):=ew
  unfold G0a
  cases hf2:fnd d.2 s with
  |none=>
   have hg2:gt d.2 s=none:=by unfold gt;rw[hf2]
   rw[hg2]
   refine Hcb (by decide) (Hbb (by omega) (Hbb (by omega) (Hbb (by omega) (Hbb (by omega) (Hcb (by omega) (Hbb (by omega) (Hbb (by omega) (H7b ?_))))))))
   rw[ew']
   rfl
  |some j=>
   have hg2:gt d.2 s=some (d.2.getD j Dd).2:=by unfold gt;rw[hf2]
   have hj:=(Oe hf2).1
   have hjn:=(Oe hf2).2
   have e1:d.2.getD j ((⟨#[]⟩:ByteArray),([]:List Int))=d.2.getD j Dd:=rfl
   rw[hg2]
   simp only[Vb,e1]
   refine Hbb (by omega) (Hbb (by omega) (Hbb (by omega) (Hbb (by omega) (Hbb (by omega) (Hbb (by omega) (Hbb (by omega) (Hbb (by omega) (Hbb (by omega) (Hcb (by omega) (Hbb (by omega) (Hbb (by omega) ?_)))))))))))
   rw[X1 (h.2.2.gt hg2) (h.2.1.gt hg)]
   refine Heb (λ he=>?_) (λ he=>?_)
   ·have hl2:(d.2.getD j Dd).2.length=(d.1.getD i Dd).2.length:=by rw[he]
    refine Hbb (by omega) (Hbb (by omega) (Hbb (by omega) (Hbb (by omega) (Hcb (by omega) (Hbb (by omega) (Hbb (by omega) (H7b ?_)))))))
    have ew2:d.2.set j ((d.2.getD j Dd).1,(d.2.getD j Dd).2.set (m/8) (Aca ((d.2.getD j Dd).2.getD (m/8) 0) (m % 8)))=wr d.2 s (O8 (d.1.getD i Dd).2 m):=by
     rw[hjn,he]
     exact Iua (Qn h.1) hf2 _
    rw[ew',ew2,he,decide_eq_true rfl]
    rfl
   ·refine H7b ?_
    rw[ew',decide_eq_false (λ c=>he (Kab c))]
    rfl
def Qea:∀ (n:Nat) (i:Int) (c:Cur) (a0 a1:List Nmd) (d:Dsk),i=n→n≤6→E9 c→DG d→
  Tot (λ k=>B9 k i c.1 c.2.1 c.2.2 a0 a1 d.1 d.2) (λ r=>DG (r.2.2.1,r.2.2.2.1)∧E9 r.2.2.2.2):=by
 intro n
 induction n with
 |zero=>
  intro i c a0 a1 d hi h6 hc hd
  refine Tot.succ ?_
  simp only[B9]
  exact Hcb (by omega) (H7b ⟨hd,hc⟩)
 |succ n ih=>
  intro i c a0 a1 d hi h6 hc hd
  refine Tot.succ ?_
  simp only[B9]
  refine Hbb (by omega) ?_
  rw[w64 (n:=i-1) (by omega) (by omega)]
  obtain⟨s,c1,e1,hs,k1⟩:=Py c hc
  refine Hib (Hjb (Q:=λ r=>r=(s,c1)) e1 rfl) ?_
  obtain⟨x,c2,e2,_,_,_,k2⟩:=Ay c1 k1 6 (by decide)
  refine Hib (Hjb (Q:=λ r=>r=(x,c2)) e2 rfl) ?_
  dsimp only
  obtain⟨hsh,hsn⟩:=Nf s hs
  have wr:Tot (λ k=>(Cz k c2).bind λ r5=>(Bw k r5.1).bind λ r6=>(Bo k (d.1,d.2) s r6).bind λ r7=>B9 k (i-1) r5.2.1 r5.2.2.1 r5.2.2.2 a0 a1 r7.1.1 r7.1.2) (λ r=>DG (r.2.2.1,r.2.2.2.1)∧E9 r.2.2.2.2):=by
   refine H8b (R4 c2 k2) (λ f hf=>?_)
   refine Hib (Uo f.1) ?_
   refine Hib (Ema hd.1 hsn (by have:=Ata f.1;omega)) ?_
   exact ih (i-1) f.2 a0 a1 _ (by omega) (by omega) hf.2 (Gjb hd hsn (R8 _))
  have sy:Tot (λ k=>(Ap k (d.1,d.2) s).bind λ r4=>B9 k (i-1) c2.1 c2.2.1 c2.2.2 a0 a1 r4.1.1 r4.1.2) (λ r=>DG (r.2.2.1,r.2.2.2.1)∧E9 r.2.2.2.2):=by
   refine Hib (X3 hd.1 hsn) ?_
   exact ih (i-1) c2 a0 a1 _ (by omega) (by omega) k2 (Crb hd hsn)
  refine Hdb (λ _=>?_) (λ _=>Hdb (λ h=>Hdb (λ _=>sy) (λ _=>wr)) (λ _=>Hdb (λ _=>sy) (λ _=>wr)))
  refine Hib (Ur hd.1 hsh) ?_
  exact ih (i-1) c2 a0 a1 _ (by omega) (by omega) k2 (Uqa hd)
def lb0:LB []:=λ x hx=>by cases hx
def dg0:DG ([],[]):=⟨by decide,⟨lb0,lb0⟩⟩
def Ctb (c:Cur) (hc:E9 c):Tot (λ k=>G9 k c) (λ r=>DG r.1∧E9 r.2):=by
 unfold G9
 obtain⟨x,c2,e2,h0,h1,_,k2⟩:=Ay c hc 7 (by decide)
 have h1:=h1 (by decide)
 refine Hib (Hjb (Q:=λ r=>r=(x,c2)) e2 rfl) ?_
 exact H8b (Qea x.toNat x c2 [] [] ([],[]) (by omega) (by omega) k2 dg0) (λ r hr=>H7b hr)
def Alb {l:List Nmd} {x:Nmd} (h:LB l) (hx:As x.2):LB (l++[x]):=λ y hy=>by
 rcases Vp.1 hy with hy|hy
 ·exact h y hy
 ·rw[Vu.1 hy];exact hx
def Iwa (n:Nat):As (List.replicate n 0):=λ x hx=>by
 rw[List.eq_of_mem_replicate hx]
 omega
def F9b (c:Cur) (hc:E9 c):Tot (λ k=>L8 k c) (λ r=>(DIn r.1∧DB r.1)∧E9 r.2):=by
 have h0:=Yba c hc
 have h1:Tot (λ k=>L8 k c) (λ r=>DB r.1):=by
  unfold L8
  refine H8b (Ctb c hc) (λ d hd=>?_)
  obtain⟨hd,k0⟩:=hd
  have hin:=Ng hd.1
  have g1:=(Ai.1 (E8.1 hd.1).1).2.2
  have g2:=(Ai.1 (E8.1 hd.1).2).2.2
  obtain⟨x,c2,e2,_,_,_,k2⟩:=Ay d.2 k0 12 (by decide)
  refine Hib (Hjb (Q:=λ r=>r=(x,c2)) e2 rfl) ?_
  refine Hdb (λ _=>?_) (λ _=>Hdb (λ _=>?_) (λ _=>H7b hd.2))
  ·obtain⟨s,c3,e3,hs,k3⟩:=Rt c2 k2
   refine Hib (Hjb (Q:=λ r=>r=(s,c3)) e3 rfl) ?_
   exact Hfb (by simp only[Vc,Vg];omega) (H7b ⟨Alb hd.2.1 Oo,hd.2.2⟩)
  ·obtain⟨s,c3,e3,hs,k3⟩:=Rt c2 k2
   refine Hib (Hjb (Q:=λ r=>r=(s,c3)) e3 rfl) ?_
   obtain⟨y,c4,e4,y0,y1,_,k4⟩:=Ay c3 k3 2 (by decide)
   have y1:=y1 (by decide)
   refine Hib (Hjb (Q:=λ r=>r=(y,c4)) e4 rfl) ?_
   dsimp only
   rw[w64 (n:=400+y) (by omega) (by omega)]
   exact Hbb rfl (Hbb (by omega) (Hbb (by omega) (Hfb (by simp only[Vc,Vg];omega) (H7b ⟨hd.2.1,Alb hd.2.2 (Iwa _)⟩))))
 exact(h0.and h1).mono λ r h=>⟨⟨h.1.1,h.2⟩,h.1.2⟩
def Oga (c:Cur) (hc:E9 c):∃ x c',K8 c=some (x,c')∧E9 c':=by
 obtain⟨s,c1,e1,hs,k1⟩:=I6a c hc
 obtain⟨x,c2,e2,_,_,_,k2⟩:=Ay c1 k1 10 (by decide)
 unfold K8
 simp only[e1,e2,Vl]
 cases x==0 with
 |true=>
  obtain⟨y,c3,e3,_,k3⟩:=Mb c2 k2 [(-1),1000000001] (by decide) (by decide)
  exact⟨(y,s.2),c3,by simp only[e3,Vl,cond_true],k3⟩
 |false=>
  cases x==1 with
  |true=>
   obtain⟨y,c3,e3,_,k3⟩:=Mb c2 k2 [(-1),1000000,1000001] (by decide) (by decide)
   exact⟨(s.1,y,s.2.2),c3,by simp only[e3,Vl,cond_true,cond_false],k3⟩
  |false=>
   cases x==2 with
   |true=>
    obtain⟨y,c3,e3,_,k3⟩:=Mb c2 k2 [(-1),20,21] (by decide) (by decide)
    exact⟨(s.1,s.2.1,y),c3,by simp only[e3,Vl,cond_true,cond_false],k3⟩
   |false=>exact⟨s,c2,by simp only[cond_false],k2⟩
def Uta (c:Cur) (hc:E9 c):Tot (λ k=>M7 k c) (λ r=>(As r.1.2.2∧r.1.2.2.length≤2000000)∧E9 r.2):=by
 unfold M7
 refine H8b (R4 c hc) ?_
 rintro⟨f,c1⟩ ⟨hf,k1⟩
 have hl:f.2.2.length≤9:=by have:=hf.2.2.1;dsimp only at this;omega
 obtain⟨x,c2,e2,_,_,_,k2⟩:=Ay c1 k1 12 (by decide)
 refine Hib (Hjb (Q:=λ r=>r=(x,c2)) e2 rfl) ?_
 refine Hdb (λ _=>?_) (λ _=>Hdb (λ _=>H7b ⟨⟨hf.2.1,by dsimp only;omega⟩,k2⟩) (λ _=>Hdb (λ _=>?_) (λ _=>H7b ⟨⟨hf.2.1,by dsimp only;omega⟩,k2⟩)))
 ·obtain⟨y,c3,e3,k3⟩:=Oga c2 k2
  refine Hib (Hjb (Q:=λ r=>r=(y,c3)) e3 rfl) ?_
  exact H7b ⟨⟨hf.2.1,by dsimp only;omega⟩,k3⟩
 ·obtain⟨y,c4,e4,y0,y1,_,k4⟩:=Ay c2 k2 2 (by decide)
  have y1:=y1 (by decide)
  refine Hib (Hjb (Q:=λ r=>r=(y,c4)) e4 rfl) ?_
  dsimp only
  rw[w64 (n:=200+y) (by omega) (by omega)]
  exact Hbb rfl (Hbb (by omega) (Hbb (by omega) (H7b ⟨⟨Iwa _,by dsimp only;rw[List.length_replicate];omega⟩,k4⟩)))

section
variable {d:Dsk} {s:ByteArray} {f:Fil} {sure:Bool}
def Yia (a:Stp):sle a a=false:=N6 a
def Ixa (h1:An d=true) (h2:Az s=true) (h3:Ee f=true):keep d s f sure=O4 d s f sure:=by unfold keep;rw[h1,h2,h3];rfl
def Iya {x:Dsk} {c:Int}:(kp2 d s sure (x,c)=(d,3))∨(sure=false∧kp2 d s sure (x,c)=(x,c))∨(sure=true∧(sy x s).length≤60∧kp2 d s sure (x,c)=((x.1,sy x s),c)):=by
 unfold kp2 syD
 cases sure
 ·exact .inr (.inl ⟨rfl,rfl⟩)
 rw[cond_true]
 by_cases h:(sy x s).length≤60
 ·rw[decide_eq_true h]
  exact .inr (.inr ⟨rfl,h,rfl⟩)
 ·rw[decide_eq_false h]
  exact .inl rfl
def Uua (hd:DG d) (hs:Az s=true):kp1 d s f=none∨(∃ o,old d s=some o∧sle o.1 f.1=false∧kp1 d s f=some (d,1))∨((∀ o,old d s=some o→sle o.1 f.1=true)∧(wr d.1 s (N1 f)).length≤60∧kp1 d s f=some ((wr d.1 s (N1 f),d.2),0)):=by
 have hl:(N1 f).length≤400:=by have:=Ata f;omega
 have w:(bif (wrD d s (N1 f)).2 then some ((wrD d s (N1 f)).1,(0:Int)) else none)=none∨((wr d.1 s (N1 f)).length≤60∧(bif (wrD d s (N1 f)).2 then some ((wrD d s (N1 f)).1,(0:Int)) else none)=some ((wr d.1 s (N1 f),d.2),0)):=by
  unfold wrD
  rw[decide_eq_true hl,Vz]
  by_cases h:(wr d.1 s (N1 f)).length≤60
  ·rw[decide_eq_true h];exact .inr ⟨h,rfl⟩
  ·rw[decide_eq_false h];exact .inl rfl
 unfold kp1
 cases ho:old d s with
 |none=>
  rcases w with h|⟨h1,h2⟩
  ·exact .inl h
  ·exact .inr (.inr ⟨λ o h=>(by cases h),h1,h2⟩)
 |some o=>
  simp only
  cases hc:sle o.1 f.1
  ·exact .inr (.inl ⟨o,rfl,hc,rfl⟩)
  rcases w with h|⟨h1,h2⟩
  ·exact .inl h
  ·exact .inr (.inr ⟨λ o' h=>(by cases h;exact hc),h1,h2⟩)
def Ena (hd:DG d) (hs:Az s=true):O4 d s f sure=(d,3)∨
  (∃ o,old d s=some o∧sle o.1 f.1=false∧(O4 d s f sure).2=1∧DG (O4 d s f sure).1∧((sure=false∧(O4 d s f sure).1=d)∨(sure=true∧(O4 d s f sure).1=(d.1,sy d s))))∨
  ((∀ o,old d s=some o→sle o.1 f.1=true)∧DG (wr d.1 s (N1 f),d.2)∧(O4 d s f sure).2=0∧DG (O4 d s f sure).1∧((sure=false∧(O4 d s f sure).1=(wr d.1 s (N1 f),d.2))∨(sure=true∧(O4 d s f sure).1=(wr d.1 s (N1 f),sy (wr d.1 s (N1 f),d.2) s)))):=by
 have hg:=Ura (f:=f) (sure:=sure) hd hs
 rcases Uua (f:=f) hd hs with h|⟨o,h1,h2,h⟩|⟨h1,h2,h⟩
 ·exact .inl (by unfold O4;rw[h])
 ·have e:O4 d s f sure=kp2 d s sure (d,1):=by unfold O4;rw[h]
  rcases Iya (d:=d) (s:=s) (sure:=sure) (x:=d) (c:=1) with k|⟨k0,k⟩|⟨k0,k1,k⟩
  ·exact .inl (e.trans k)
  ·rw[← e]at k
   exact .inr (.inl ⟨o,h1,h2,by rw[k],hg,.inl ⟨k0,by rw[k]⟩⟩)
  ·rw[← e]at k
   exact .inr (.inl ⟨o,h1,h2,by rw[k],hg,.inr ⟨k0,by rw[k]⟩⟩)
 ·have e:O4 d s f sure=kp2 d s sure ((wr d.1 s (N1 f),d.2),0):=by unfold O4;rw[h]
  have hw:=F7b hd hs h
  rcases Iya (d:=d) (s:=s) (sure:=sure) (x:=(wr d.1 s (N1 f),d.2)) (c:=0) with k|⟨k0,k⟩|⟨k0,k1,k⟩
  ·exact .inl (e.trans k)
  ·rw[← e]at k
   exact .inr (.inr ⟨h1,hw,by rw[k],hg,.inl ⟨k0,by rw[k]⟩⟩)
  ·rw[← e]at k
   exact .inr (.inr ⟨h1,hw,by rw[k],hg,.inr ⟨k0,by rw[k]⟩⟩)
def Lra {l:List Nmd} (hs:Ho l) {s t:ByteArray} {b:List Int}:gt (wr l s b) t=if s=t then some b else gt l t:=by
 unfold wr
 rw[Agb (x:=(s,b)) (P0 hs) Cca]
 by_cases h:s=t
 ·rw[if_pos h,if_pos h]
 ·rw[if_neg h,if_neg h,X2 hs,if_neg h]
def Lsa (hd:An d=true) {t:ByteArray}:gt (sy d s) t=if s=t then gt d.1 s else gt d.2 t:=by
 unfold sy
 cases h:gt d.1 s with
 |none=>rw[X2 (Qn hd)]
 |some b=>rw[Lra (Qn hd)]
def Uva (hd:DG d) (hs:Az s=true) (hf:Ee f=true) (hb:As f.2.2) (h:(O4 d s f true).2=0∨(O4 d s f true).2=1):
  ∃ o g b,DG o∧DG (O4 d s f true).1∧(O4 d s f true).1=(o.1,sy o s)∧gt o.1 s=some b∧Pf b=some g∧sle g.1 f.1=false:=by
 rcases Ena (f:=f) (sure:=true) hd hs with k|⟨o,h1,h2,k,hg,h3⟩|⟨h1,h2,k,hg,h3⟩
 ·rw[k]at h;rcases h with h|h<;>cases h
 ·rcases h3 with⟨h3,_⟩|⟨_,h3⟩
  ·cases h3
  ·have ho:(gt d.1 s).bind Pf=some o:=h1
   cases hg1:gt d.1 s with
   |none=>rw[hg1]at ho;cases ho
   |some b=>
    rw[hg1]at ho
    exact⟨d,o,b,hd,hg,h3,hg1,ho,h2⟩
 ·rcases h3 with⟨h3,_⟩|⟨_,h3⟩
  ·cases h3
  ·exact⟨(wr d.1 s (N1 f),d.2),f,N1 f,h2,hg,h3,by show gt (wr d.1 s (N1 f)) s=_;rw[Lra (Nu hd.1),if_pos rfl],Aua hf hb,Yia _⟩
end

abbrev Nod:=Int×Dsk×List Row×List Row
def qOk (l:List Row):Bool:=l.all Om
def Mr (n:Nod):Bool:=qOk n.2.2.2&&(inR n.1 0 20&&(An n.2.1&&(Lk n.2.2.1&&decide ((n.2.2.2.length:Int)≤60))))
def RF (l:List Row):Prop:=l.length≤2000000∧Ro l
def NIn (n:Nod):Prop:=(DIn n.2.1∧DB n.2.1)∧RF n.2.2.1∧RF n.2.2.2
def NG (n:Nod):Prop:=Mr n=true∧DB n.2.1
def Cj {n:Nod}:Mr n=true↔(∀ r∈n.2.2.2,Om r=true)∧(0≤n.1∧n.1≤20)∧An n.2.1=true∧Lk n.2.2.1=true∧n.2.2.2.length≤60:=by
 unfold Mr qOk
 simp only[Va,Ys,Cc,decide_eq_true_iff]
 constructor
 ·rintro⟨h1,h2,h3,h4,h5⟩;exact⟨h1,h2,h3,h4,by omega⟩
 ·rintro⟨h1,h2,h3,h4,h5⟩;exact⟨h1,h2,h3,h4,by omega⟩
def Cha {l:List Row} (h:Lk l=true):RF l:=by
 obtain⟨_,h2,h3⟩:=Oy.1 h
 exact⟨by omega,λ r hr=>J8 (Ega (h2 r hr))⟩
def Se {n:Nod} (h:NG n):NIn n:=by
 obtain⟨h1,_,h3,h4,h5⟩:=Cj.1 h.1
 exact⟨⟨Ng h3,h.2⟩,Cha h4,by omega,λ r hr=>J8 (Ega (h1 r hr))⟩
def NG.g {n:Nod} (h:NG n):DG n.2.1:=⟨(Cj.1 h.1).2.2.1,h.2⟩
def X4 (n:Nod) (hn:NIn n):Tot (λ k=>Bl k n) (λ r=>r=Mr n):=by
 obtain⟨i,⟨a,b⟩,ro,q⟩:=n
 obtain⟨⟨hd,_⟩,hr,hq⟩:=hn
 dsimp only at hd hr hq
 unfold Bl
 have hl:=hq.1
 refine H8b (Q:=λ r=>r=bif qOk q then .inr (i,a,b,ro,q) else .inl false) ?_ ?_
 ·refine Hgb (L:=λ k i' (_:Unit)=>Id k q (q.length:Int) i' i a b ro q) (Q:=λ r=>r=bif qOk q then .inr (i,a,b,ro,q) else .inl false) q.length (λ j _=>(q.drop j).all Om=q.all Om) ?_ ?_ 0 () (Vq _) (by rw[Wp])
  ·intro _ hj
   rw[Wa]at hj
   simp only[Id]
   exact Hcb (by omega) (H7b (by unfold qOk;rw[← hj];rfl))
  ·intro j _ hj hi next
   simp only[Id]
   rw[Ah (d:=Nd) hj,Hob]at hi
   refine Hbb (by omega) (Hbb (by omega) (Hbb (by omega) ?_))
   rw[Vb,w64 (n:=(j:Int)+1) (by omega) (by omega)]
   refine Hib (Tva (q.getD j Nd) (hq.2 _ (A4 hj))) ?_
   cases hc:Om (q.getD j Nd) with
   |false=>exact Hab rfl (H7b (by unfold qOk;rw[← hi,hc];rfl))
   |true=>exact H9b rfl (next () (by rw[hc,Vz]at hi;exact hi))
 ·rintro r rfl
  unfold Mr
  dsimp only
  cases qOk q
  ·exact H7b rfl
  simp only[cond_true,I1b,Vz]
  refine Hib (Hjb (Q:=λ r=>r=inR i 0 20) (S9 _ _ _) rfl) ?_
  cases inR i 0 20
  ·exact H9b rfl (H7b rfl)
  refine Hab rfl (Hib (Qc (a,b) hd.1.1 hd.1.2) ?_)
  cases An (a,b)
  ·exact H9b rfl (H7b rfl)
  refine Hab rfl (Hib (Nra ro (by have:=hr.1;unfold Few;omega) hr.2) ?_)
  cases Lk ro with
  |false=>exact H9b rfl (H7b rfl)
  |true=>exact Hab rfl (H7b rfl)
def Awa (n:Nod) (hn:NIn n):Tot (λ k=>Cf k n) (λ r=>r=Mr n):=by
 obtain⟨i,⟨a,b⟩,ro,q⟩:=n
 obtain⟨⟨hd,_⟩,hr,hq⟩:=hn
 dsimp only at hd hr hq
 unfold Cf
 have hl:=hq.1
 refine H8b (Q:=λ r=>r=bif qOk q then .inr (i,a,b,ro,q) else .inl false) ?_ ?_
 ·refine Hgb (L:=λ k i' (_:Unit)=>I4 k i' i a b ro q) (Q:=λ r=>r=bif qOk q then .inr (i,a,b,ro,q) else .inl false) q.length (λ j _=>(q.drop j).all Om=q.all Om) ?_ ?_ 0 () (Vq _) (by rw[Wp])
  ·intro _ hj
   rw[Wa]at hj
   simp only[I4]
   exact Hcb (by omega) (H7b (by unfold qOk;rw[← hj];rfl))
  ·intro j _ hj hi next
   simp only[I4]
   rw[Ah (d:=Nd) hj,Hob]at hi
   refine Hbb (by omega) (Hbb (by omega) (Hbb (by omega) ?_))
   rw[Vb,w64 (n:=(j:Int)+1) (by omega) (by omega)]
   refine Hib (Twa (q.getD j Nd) (hq.2 _ (A4 hj))) ?_
   cases hc:Om (q.getD j Nd) with
   |false=>exact Hab rfl (H7b (by unfold qOk;rw[← hi,hc];rfl))
   |true=>exact H9b rfl (next () (by rw[hc,Vz]at hi;exact hi))
 ·rintro r rfl
  unfold Mr
  dsimp only
  cases qOk q
  ·exact H7b rfl
  simp only[cond_true,I1b,Vz]
  refine Hib (Hjb (Q:=λ r=>r=inR i 0 20) (Pe _ _ _) rfl) ?_
  cases inR i 0 20
  ·exact H9b rfl (H7b rfl)
  refine Hab rfl (Hib (Rq (a,b) hd.1.1 hd.1.2) ?_)
  cases An (a,b)
  ·exact H9b rfl (H7b rfl)
  refine Hab rfl (Hib (Nsa ro (by have:=hr.1;unfold Few;omega) hr.2) ?_)
  cases Lk ro with
  |false=>exact H9b rfl (H7b rfl)
  |true=>exact Hab rfl (H7b rfl)
def Nh (n:Nod) (hn:NIn n):Tot (λ k=>Av k n) (λ r=>r=n):=by
 unfold Av
 have h1:=hn.2.1.1
 have h2:=hn.2.2.1
 refine Hib (J7 n.2.1 hn.1.1.1.1) ?_
 refine Hib (Hjb (Q:=λ r=>r=n.2.2.1) (Ws _ (by unfold Few;omega)) rfl) ?_
 refine Hib (Hjb (Q:=λ r=>r=n.2.2.2) (Ws _ (by unfold Few;omega)) rfl) ?_
 exact H7b rfl
def P8 (n:Nod) (hn:NIn n):Tot (λ k=>Bx k n) (λ r=>r=n):=by
 unfold Bx
 have h1:=hn.2.1.1
 have h2:=hn.2.2.1
 refine Hib (N8 n.2.1 hn.1.1.1.1) ?_
 refine Hfb (by simp only[Vg];omega) (Hfb (by simp only[Vg];omega) (H7b ?_))
 rw[Vx,Vx]
def Qfa (a b:List Row) (hf:a.length+b.length≤10000000000):Tot (λ k=>Cd k a b) (λ r=>r=Uz a b):=by
 unfold Cd
 refine Hfb (by simp only[Vg];omega) ?_
 rw[Vx]
 refine H8b (Q:=λ r=>r=Uz a b) ?_ (by rintro r rfl;exact H7b rfl)
 refine Hgb (L:=λ k i s=>Et k b s i) (Q:=λ r=>r=Uz a b) b.length (λ i s=>Uz s (b.drop i)=Uz a b∧s.length≤a.length+i) ?_ ?_ 0 a (Vq _) ⟨by rw[Wp],Nat.le_add_right _ _⟩
 ·rintro s ⟨hs,_⟩
  rw[Wa]at hs
  simp only[Et]
  exact Hcb (by omega) (H7b hs)
 ·rintro i s hi ⟨hs,hl⟩ next
  simp only[Et]
  refine Hbb (by omega) (Hbb (by omega) (Hbb (by omega) ?_))
  rw[Vb,w64 (n:=(i:Int)+1) (by omega) (by omega)]
  rw[Ah (d:=Nd) hi]at hs
  refine Hib (Iba s (b.getD i Nd) (by unfold Few;omega)) ?_
  have:=L6a s (b.getD i Nd)
  exact next _ ⟨hs,by omega⟩
def Iza (n:Nod) (l:List Row):Nod×Bool:=bif Mr n&&Lk l then (bif decide ((Uz n.2.2.1 l).length > 60) then (n,false) else ((n.1,n.2.1,Uz n.2.2.1 l,n.2.2.2),true)) else (n,false)
def Cia {a b:List Row} (ha:Lk a=true) (hb:Lk b=true) (h:(Uz a b).length≤60):Lk (Uz a b)=true:=by
 obtain⟨a1,a2,_⟩:=Oy.1 ha
 obtain⟨b1,b2,_⟩:=Oy.1 hb
 exact Oy.2 ⟨Lca a1,λ r hr=>(Nta hr).elim (a2 r) (b2 r),h⟩
def Uwa {n:Nod} {l:List Row} (hn:NG n):NG (Iza n l).1:=by
 unfold Iza
 rw[hn.1,Vz]
 cases hl:Lk l
 ·exact hn
 rw[cond_true]
 cases hc:decide ((Uz n.2.2.1 l).length > 60)
 case true=>exact hn
 obtain⟨h1,h2,h3,h4,h5⟩:=Cj.1 hn.1
 exact⟨Cj.2 ⟨h1,h2,h3,Cia h4 hl (by have:=of_decide_eq_false hc;omega),h5⟩,hn.2⟩
def Yja (n:Nod) (l:List Row) (hn:NIn n) (hl:RF l):Tot (λ k=>Jp k n l) (λ r=>r=Iza n l):=by
 have h1:=hn.2.1.1
 have h2:=hl.1
 unfold Jp Iza
 refine Hib (Nh n hn) ?_
 refine Hib (X4 n hn) ?_
 cases Mr n
 ·exact Hab rfl (H7b rfl)
 refine H9b rfl (Hib (Nra l (by unfold Few;omega) hl.2) ?_)
 cases Lk l
 ·exact Hab rfl (H7b rfl)
 refine H9b rfl (Hib (Q0a n.2.2.1 l (by omega)) ?_)
 refine Heb (λ h=>?_) (λ h=>?_)
 ·rw[decide_eq_true (show (Uz n.2.2.1 l).length > 60 by omega)]
  refine Hib (Nh n hn) ?_
  exact H7b rfl
 ·rw[decide_eq_false (show ¬ (Uz n.2.2.1 l).length > 60 by omega)]
  exact H7b rfl
def Eoa (n:Nod) (l:List Row) (h1:n.2.2.1.length≤2000000) (h2:l.length≤2000000):Tot (λ k=>I1 k n l) (λ r=>r=bif decide ((Uz n.2.2.1 l).length > 60) then (false,n) else (true,(n.1,n.2.1,Uz n.2.2.1 l,n.2.2.2))):=by
 unfold I1 J3
 refine H8b (Qfa n.2.2.1 l (by omega)) ?_
 rintro r rfl
 refine Heb (λ h=>?_) (λ h=>?_)
 ·rw[decide_eq_true (show (Uz n.2.2.1 l).length > 60 by omega)]
  exact H7b rfl
 ·rw[decide_eq_false (show ¬ (Uz n.2.2.1 l).length > 60 by omega)]
  exact H7b rfl
def Yka (n:Nod) (l:List Row) (hn:NIn n) (hl:RF l):Tot (λ k=>Ji k n l) (λ r=>r=Iza n l):=by
 have copy:Tot (λ k=>(Bx k n).bind λ r3=>some (r3,false)) (λ r=>r=(n,false)):=by
  refine Hib (P8 n hn) ?_
  exact H7b rfl
 unfold Ji Iza
 refine Hib (P8 n hn) ?_
 refine Hib (Awa n hn) ?_
 cases Mr n
 ·exact Hab rfl copy
 refine H9b rfl (Hib (Nsa l (by have:=hl.1;unfold Few;omega) hl.2) ?_)
 cases Lk l
 ·exact Hab rfl copy
 refine H9b rfl (Hib (Eoa n l hn.2.1.1 hl.1) ?_)
 cases decide ((Uz n.2.2.1 l).length > 60) with
 |true=>exact Hab rfl copy
 |false=>exact H9b rfl (H7b rfl)
def Y3 (s:ByteArray) (f:Fil):Row:=(s,f.1,f.2.1,(f.2.2.length:Int))
def U7 (n:Nod) (s:ByteArray) (f:Fil) (sure:Bool):Nod×Int:=bif (n.2.2.2.length:Int)==60 then (n,3) else
 ((n.1,(keep n.2.1 s f sure).1,n.2.2.1,bif (keep n.2.1 s f sure).2==0&&sure then n.2.2.2++[Y3 s f] else n.2.2.2),(keep n.2.1 s f sure).2)
def Amb (n:Nod) (s:ByteArray) (f:Fil) (sure:Bool):Nod×Int:=bif Mr n&&(Az s&&Ee f) then U7 n s f sure else (n,2)
def Yla {s:ByteArray} {f:Fil} (hs:Az s=true) (hf:Ee f=true):Om (Y3 s f)=true:=by
 obtain⟨h1,h2,h3⟩:=Ke.1 hf
 unfold Om Y3
 dsimp only
 rw[hs,h1,Cc.2 ⟨by omega,by omega⟩]
 cases hd:f.2.1 with
 |false=>rfl
 |true=>rw[h3 hd];rfl
def Oha {n:Nod} {s:ByteArray} {f:Fil} {sure:Bool} (hn:NG n) (hs:Az s=true) (hf:Ee f=true):NG (U7 n s f sure).1:=by
 obtain⟨h1,h2,h3,h4,h5⟩:=Cj.1 hn.1
 have hk:=Akb (s:=s) (f:=f) (sure:=sure) hn.g
 unfold U7
 cases hl:((n.2.2.2.length:Int)==60)
 case true=>exact hn
 have hl':n.2.2.2.length≠60:=by
  intro e
  rw[e]at hl
  cases hl
 refine⟨Cj.2 ⟨?_,h2,hk.1,h4,?_⟩,hk.2⟩
 ·show ∀ r∈bif (keep n.2.1 s f sure).2==0&&sure then n.2.2.2++[Y3 s f] else n.2.2.2,Om r=true
  cases (keep n.2.1 s f sure).2==0&&sure
  ·exact h1
  intro r hr
  rcases Vp.1 hr with hr|hr
  ·exact h1 r hr
  ·rw[Vu.1 hr];exact Yla hs hf
 ·show (bif (keep n.2.1 s f sure).2==0&&sure then n.2.2.2++[Y3 s f] else n.2.2.2).length≤60
  cases (keep n.2.1 s f sure).2==0&&sure with
  |false=>exact h5
  |true=>rw[cond_true,Vd];simp only[Vc,Vg];omega
def Fab {n:Nod} {s:ByteArray} {f:Fil} {sure:Bool} (hn:NG n):NG (Amb n s f sure).1:=by
 unfold Amb
 cases hs:Az s
 ·rw[hn.1];exact hn
 cases hf:Ee f with
 |false=>rw[hn.1];exact hn
 |true=>rw[hn.1];exact Oha hn hs hf
def J0a (n:Nod) (s:ByteArray) (f:Fil) (sure:Bool) (hn:NIn n) (hs:Lo s):Tot (λ k=>Jd k n s f sure) (λ r=>r=((U7 n s f sure).2,(U7 n s f sure).1)):=by
 have h1:=hn.2.2.1
 unfold Jd Lr U7
 cases (n.2.2.2.length:Int)==60 with
 |true=>exact Hab rfl (H7b rfl)
 |false=>
  refine H9b rfl (H8b (Oea n.2.1 s f sure hn.1.1 hn.1.2.1 hs) ?_)
  rintro r rfl
  cases (keep n.2.1 s f sure).2==0 with
  |false=>exact H9b rfl (H7b rfl)
  |true=>
   refine Hab rfl ?_
   cases sure with
   |false=>exact H9b rfl (H7b rfl)
   |true=>
    refine Hab rfl (Hfb (by simp only[Vg];omega) ?_)
    refine H8b (Hjb (Q:=λ r=>r=Y3 s f) (show Jv s f=some (Y3 s f) from rfl) rfl) ?_
    rintro r rfl
    refine Hfb (by simp only[Vd,Vc,Vg];omega) (H7b ?_)
    rw[Vx]
    rfl
def Lta (n:Nod) (s:ByteArray) (f:Fil) (sure:Bool) (hn:NIn n) (hs:Lo s):Tot (λ k=>Kt k n s f sure) (λ r=>r=Amb n s f sure):=by
 unfold Kt Amb
 refine Hib (P8 n hn) ?_
 refine Hib (Awa n hn) ?_
 cases Mr n
 ·exact Hab rfl (H7b rfl)
 refine H9b rfl (Hib (Qb s hs) ?_)
 cases Az s
 ·exact Hab rfl (H7b rfl)
 refine H9b rfl (Hib (Hjb (Q:=λ r=>r=Ee f) (Wz f) rfl) ?_)
 cases Ee f
 ·exact Hab rfl (H7b rfl)
 refine H9b rfl (Hib (J0a n s f sure hn hs) ?_)
 exact H7b rfl
def D6a (n:Nod) (s:ByteArray) (b:Int):Nod×Bool:=bif Mr n&&((lkD n.2.1 s).2==0&&(D5a n.2.1 s b).2) then ((n.1,(D5a n.2.1 s b).1,n.2.2),true) else (n,false)
def Uxa {n:Nod} {s:ByteArray} {b:Int} (hn:NG n):NG (D6a n s b).1:=by
 obtain⟨h1,h2,h3,h4,h5⟩:=Cj.1 hn.1
 have hr:=F8b (s:=s) (n:=b) hn.g
 unfold D6a
 cases Mr n&&((lkD n.2.1 s).2==0&&(D5a n.2.1 s b).2) with
 |false=>exact hn
 |true=>exact⟨Cj.2 ⟨h1,h2,hr.1,h4,h5⟩,hr.2⟩
def Cja (n:Nod) (s:ByteArray) (b:Int) (hn:NIn n) (h1:b≤9223372036854775807) (h0 : -9223372036854775808≤b):Tot (λ k=>G3 k n s b) (λ r=>r=D6a n s b):=by
 unfold G3 D6a
 refine Hib (P8 n hn) ?_
 refine Hib (Ava hn.1.1.1.1.1 hn.1.2.1 s) ?_
 refine Hib (Awa n hn) ?_
 cases h:Mr n
 ·exact Hab rfl (H7b rfl)
 refine H9b rfl ?_
 cases hl:(lkD n.2.1 s).2==0
 ·exact Hab (by unfold bne;rw[hl];rfl) (H7b rfl)
 refine H9b (by unfold bne;rw[hl];rfl) (Hib (Csb (NG.g ⟨h,hn.1.2⟩) h1 h0) ?_)
 cases (D5a n.2.1 s b).2 with
 |false=>exact Hab rfl (H7b rfl)
 |true=>exact H9b rfl (H7b rfl)
def Qga:∀ (m:Nat) (i:Int) (c:Cur) (z:Nod) (n:Nod),i=m→m≤6→E9 c→NG n→
  Tot (λ k=>H2 k i c.1 c.2.1 c.2.2 z.1 z.2.1.1 z.2.1.2 z.2.2.1 z.2.2.2 n.1 n.2.1.1 n.2.1.2 n.2.2.1 n.2.2.2) (λ r=>∃ c' n',E9 c'∧NG n'∧r=(c'.1,c'.2.1,c'.2.2,z.1,z.2.1.1,z.2.1.2,z.2.2.1,z.2.2.2,n'.1,n'.2.1.1,n'.2.1.2,n'.2.2.1,n'.2.2.2)):=by
 intro m
 induction m with
 |zero=>
  intro i c z n hi h6 hc hn
  refine Tot.succ ?_
  simp only[H2]
  exact Hcb (by omega) (H7b ⟨c,n,hc,hn,rfl⟩)
 |succ m ih=>
  intro i c z n hi h6 hc hn
  refine Tot.succ ?_
  simp only[H2]
  refine Hbb (by omega) ?_
  rw[w64 (n:=i-1) (by omega) (by omega)]
  obtain⟨s,c1,e1,hs,k1⟩:=Py c hc
  refine Hib (Hjb (Q:=λ r=>r=(s,c1)) e1 rfl) ?_
  refine H8b (R4 c1 k1) (λ f hf=>?_)
  obtain⟨b,c2,e2,k2⟩:=Px f.2 hf.2 3 (by decide)
  refine Hib (Hjb (Q:=λ r=>r=(b,c2)) e2 rfl) ?_
  refine Hib (Lta n s f.1 (!b) (Se hn) (Nf s hs).1) ?_
  exact ih (i-1) c2 z _ (by omega) (by omega) k2 (Fab hn)
def C3:Nod:=((0:Int),(([]:List Nmd),([]:List Nmd)),([]:List Row),([]:List Row))
def Cka (i:Int):Hv i=some (bif inR i 0 20 then (i,([],[]),[],[]) else C3):=by
 unfold Hv
 rw[Pe]
 simp only[Vl]
 cases inR i 0 20<;>rfl
def Uya {l:List Row} (h:Npa l) (hl:l.length≤60):Lk l=true:=Oy.2 ⟨h.1,λ r hr=>Y5a (h.2 r hr),hl⟩
def Uza (c:Cur) (hc:E9 c):Tot (λ k=>G6 k c) (λ r=>NG r.1∧E9 r.2):=by
 unfold G6
 obtain⟨x,c1,e1,x0,x1,_,k1⟩:=Ay c hc 6 (by decide)
 have x1:=x1 (by decide)
 refine Hib (Hjb (Q:=λ r=>r=(x,c1)) e1 rfl) ?_
 refine Hib (Hjb (Q:=λ r=>r=(x,([],[]),[],[])) (by rw[Cka,Cc.2 ⟨by dsimp only;omega,by dsimp only;omega⟩];rfl) rfl) ?_
 obtain⟨y,c2,e2,y0,y1,_,k2⟩:=Ay c1 k1 6 (by decide)
 have y1:=y1 (by decide)
 refine Hib (Hjb (Q:=λ r=>r=(y,c2)) e2 rfl) ?_
 have hn0:NG (x,(([]:List Nmd),([]:List Nmd)),([]:List Row),([]:List Row)):=⟨Cj.2 ⟨(by simp),⟨by dsimp only;omega,by dsimp only;omega⟩,(show An ([],[])=true by decide),(show Lk []=true by decide),(by simp)⟩,λ x hx=>(by cases hx),λ x hx=>(by cases hx)⟩
 refine H8b (Qga y.toNat y c2 C3 _ (by omega) (by omega) k2 hn0) ?_
 rintro r ⟨c3,n,k3,hn,rfl⟩
 have rot:∀ (n:Nod) (c:Cur),NG n→E9 c→Tot (λ k=>(Bj c).bind λ r9=>(A3 r9.2 40).bind λ r10=>(G3 k n r9.1 r10.1).bind λ r11=>some (r11.1,r10.2)) (λ r=>NG r.1∧E9 r.2):=by
  intro n c hn hc
  obtain⟨s,c1,e1,hs,k1⟩:=Py c hc
  refine Hib (Hjb (Q:=λ r=>r=(s,c1)) e1 rfl) ?_
  obtain⟨x,c2,e2,x0,x1,_,k2⟩:=Ay c1 k1 40 (by decide)
  have x1:=x1 (by decide)
  refine Hib (Hjb (Q:=λ r=>r=(x,c2)) e2 rfl) ?_
  refine Hib (Cja n s x (Se hn) (by omega) (by omega)) ?_
  exact H7b ⟨Uxa hn,k2⟩
 obtain⟨b,c4,e4,k4⟩:=Px c3 k3 2 (by decide)
 refine Hib (Hjb (Q:=λ r=>r=(b,c4)) e4 rfl) ?_
 refine Hdb (λ _=>?_) (λ _=>?_)
 ·refine H8b (C2a c4 k4) ?_
  rintro⟨l,c5⟩ ⟨k5,hl,hl5⟩
  refine Hib (Yka n l (Se hn) (Cha (Uya hl (by dsimp only at hl5;omega)))) ?_
  obtain⟨b,c6,e6,k6⟩:=Px c5 k5 3 (by decide)
  refine Hib (Hjb (Q:=λ r=>r=(b,c6)) e6 rfl) ?_
  exact Hdb (λ _=>rot _ c6 (Uwa hn) k6) (λ _=>H7b ⟨Uwa hn,k6⟩)
 ·obtain⟨b,c6,e6,k6⟩:=Px c4 k4 3 (by decide)
  refine Hib (Hjb (Q:=λ r=>r=(b,c6)) e6 rfl) ?_
  exact Hdb (λ _=>rot n c6 hn k6) (λ _=>H7b ⟨hn,k6⟩)
def Anb {l:List Row} {x:Row} (h:RF l) (hl:l.length≤999) (hx:Lo x.1):RF (l++[x]):=by
 refine⟨by simp only[Vd,Vc,Vg];omega,λ y hy=>?_⟩
 rcases Vp.1 hy with hy|hy
 ·exact h.2 y hy
 ·rw[Vu.1 hy];exact hx
def Qha (z n:Nod) (hs:Lo ((⟨#[97]⟩:ByteArray))):∀ (m:Nat) (c:Cur) (q:List Row),61-q.length≤m→E9 c→RF q→q.length≤61→
  Tot (λ k=>H3 k c.1 c.2.1 c.2.2 z.1 z.2.1.1 z.2.1.2 z.2.2.1 z.2.2.2 n.1 n.2.1.1 n.2.1.2 n.2.2.1 q) (λ r=>∃ c' q',E9 c'∧RF q'∧r=(z.1,z.2.1.1,z.2.1.2,z.2.2.1,z.2.2.2,n.1,n.2.1.1,n.2.1.2,n.2.2.1,q',c'.1,c'.2.1,c'.2.2)):=by
 intro m
 induction m with
 |zero=>
  intro c q hm hc hq hl
  refine Tot.succ ?_
  simp only[H3]
  obtain⟨x,c1,e1,x0,x1,_,k1⟩:=Ay c hc 2 (by decide)
  have x1:=x1 (by decide)
  refine Hib (Hjb (Q:=λ r=>r=(x,c1)) e1 rfl) ?_
  dsimp only
  rw[w64 (n:=60+x) (by omega) (by omega)]
  exact Hcb (by omega) (H7b ⟨c1,q,k1,hq,rfl⟩)
 |succ m ih=>
  intro c q hm hc hq hl
  refine Tot.succ ?_
  simp only[H3]
  obtain⟨x,c1,e1,x0,x1,_,k1⟩:=Ay c hc 2 (by decide)
  have x1:=x1 (by decide)
  refine Hib (Hjb (Q:=λ r=>r=(x,c1)) e1 rfl) ?_
  dsimp only
  rw[w64 (n:=60+x) (by omega) (by omega)]
  refine Heb (λ h=>Hfb (by simp only[Vc,Vg];omega) ?_) (λ h=>H7b ⟨c1,q,k1,hq,rfl⟩)
  exact ih c1 _ (by simp only[Vd,Vc,Vg];omega) k1 (Anb hq (by omega) hs) (by simp only[Vd,Vc,Vg];omega)
def V0a (c:Cur) (hc:E9 c):Tot (λ k=>H4 k c) (λ r=>NIn r.1∧E9 r.2):=by
 unfold H4
 refine H8b (Uza c hc) ?_
 rintro⟨n,c1⟩ ⟨hg,k1⟩
 have hn:=Se hg
 have hq60:=(Cj.1 hg.1).2.2.2.2
 obtain⟨x,c2,e2,_,_,_,k2⟩:=Ay c1 k1 12 (by decide)
 refine Hib (Hjb (Q:=λ r=>r=(x,c2)) e2 rfl) ?_
 refine Hdb (λ _=>?_) (λ _=>Hdb (λ _=>?_) (λ _=>Hdb (λ _=>?_) (λ _=>Hdb (λ _=>?_) (λ _=>Hdb (λ _=>?_) (λ _=>H7b ⟨hn,k2⟩)))))
 ·obtain⟨y,c3,e3,_,k3⟩:=Mb c2 k2 [(-1),20,21] (by decide) (by decide)
  refine Hib (Hjb (Q:=λ r=>r=(y,c3)) e3 rfl) ?_
  exact H7b ⟨hn,k3⟩
 ·refine H8b (F9b c2 k2) (λ r hr=>H7b ⟨⟨hr.1,hn.2⟩,hr.2⟩)
 ·refine H8b (Iga c2 k2) (λ r hr=>H7b ⟨⟨hn.1,⟨by have:=hr.2.1;dsimp only;omega,hr.2.2⟩,hn.2.2⟩,hr.1⟩)
 ·obtain⟨s,c3,e3,hs,k3⟩:=Rt c2 k2
  refine Hib (Hjb (Q:=λ r=>r=(s,c3)) e3 rfl) ?_
  exact Hfb (by dsimp only at hq60 ⊢;simp only[List.length_cons,List.length_nil];omega) (H7b ⟨⟨hn.1,hn.2.1,Anb hn.2.2 (by dsimp only at hq60 ⊢;omega) hs⟩,k3⟩)
 ·refine H8b (Qha C3 n (by unfold Lo;decide) 61 c2 n.2.2.2 (by omega) k2 hn.2.2 (by dsimp only at hq60;omega)) ?_
  rintro r ⟨c3,q,k3,hq,rfl⟩
  exact H7b ⟨⟨hn.1,hn.2.1,hq⟩,k3⟩

abbrev Dev:=Int×Int×Int
abbrev Rng:=Int×List (List Int)
def Of:Dev:=((0:Int),((0:Int),(0:Int)))
def Oq (l:List Int) (n:Int):Bool:=l.any (· == n)
def Tv {l:List Int} {n:Int}:Oq l n=true↔n∈l:=by
 unfold Oq
 rw[J9b]
 constructor
 ·rintro⟨x,hx,e⟩;rw[← eq_of_beq e];exact hx
 ·intro h;exact⟨n,h,beq_self_eq_true n⟩
def Us (l:List Int) (n:Int) (hl:l.length≤4000000000000000):Tot (λ k=>C9 k l n) (λ r=>r=Oq l n):=by
 unfold C9
 refine H8b (Q:=λ r=>r=bif Oq l n then .inl true else .inr ()) ?_ (by rintro r rfl;cases Oq l n<;>exact H7b rfl)
 refine Hgb (L:=λ k i (_:Unit)=>Ia k n l (l.length:Int) i) (Q:=λ r=>r=bif Oq l n then .inl true else .inr ()) l.length (λ j _=>Oq (l.drop j) n=Oq l n) ?_ ?_ 0 () (Vq _) rfl
 ·intro _ h
  rw[Wa]at h
  simp (disch:=omega) only [Ia,dF,← h]
  exact H7b rfl
 ·intro j _ hj h next
  rw[Ah (d:=0) hj]at h
  simp (disch:=omega) only [Ia,dT,Vb,w64]
  unfold Oq at h
  rw[K2b]at h
  refine Hdb (λ hc=>H7b ?_) (λ hc=>next () ?_)
  ·rw[hc,Kcb]at h
   unfold Oq
   rw[← h]
   rfl
  ·rw[hc,Hsb]at h
   exact h
def Ut (l:List Int) (n:Int) (hl:l.length≤4000000000000000):Tot (λ k=>Da k l n) (λ r=>r=Oq l n):=by
 unfold Da
 refine H8b (Q:=λ r=>r=bif Oq l n then .inl true else .inr ()) ?_ (by rintro r rfl;cases Oq l n<;>exact H7b rfl)
 refine Hgb (L:=λ k i (_:Unit)=>Jb k l n i) (Q:=λ r=>r=bif Oq l n then .inl true else .inr ()) l.length (λ j _=>Oq (l.drop j) n=Oq l n) ?_ ?_ 0 () (Vq _) rfl
 ·intro _ h
  rw[Wa]at h
  simp (disch:=omega) only [Jb,dF,← h]
  exact H7b rfl
 ·intro j _ hj h next
  rw[Ah (d:=0) hj]at h
  simp (disch:=omega) only [Jb,dT,Vb,w64]
  unfold Oq at h
  rw[K2b]at h
  refine Hdb (λ hc=>H7b ?_) (λ hc=>next () ?_)
  ·rw[hc,Kcb]at h
   unfold Oq
   rw[← h]
   rfl
  ·rw[hc,Hsb]at h
   exact h
def Ki (l:List Dev) (id:Int):Option Dev:=l.find? (λ d=>d.1==id)
def Fbb:Option Dev→Dev×Bool
 |some d=>(d,true)
 |none=>(Of,false)
def Y4 {l:List Dev} {id:Int} {d:Dev} (h:Ki l id=some d):d∈l∧d.1=id:=⟨List.mem_of_find?_eq_some h,eq_of_beq (List.find?_some (p:=λ d:Dev=>d.1==id) h)⟩
def T5 (l:List Dev) (id:Int) (hl:l.length≤1000000000):Tot (λ k=>Fc k l id) (λ r=>r=Fbb (Ki l id)):=by
 unfold Fc
 refine H8b (Q:=λ r=>r=match Ki l id with|some d => .inl (true,d)|none => .inr (0,0,0)) ?_ (by rintro r rfl;cases Ki l id<;>exact H7b rfl)
 refine Hgb (L:=λ k i (_:Unit)=>Jl k id l (l.length:Int) i (0,0,0)) (Q:=λ r=>r=match Ki l id with|some d => .inl (true,d)|none => .inr (0,0,0)) l.length (λ j _=>Ki (l.drop j) id=Ki l id) ?_ ?_ 0 () (Vq _) rfl
 ·intro _ h
  rw[Wa]at h
  simp (disch:=omega) only [Jl,dF,← h]
  exact H7b rfl
 ·intro j _ hj h next
  rw[Ah (d:=Of) hj]at h
  unfold Ki at h
  rw[Kfb]at h
  simp (disch:=omega) only [Jl,dT,Vb,w64]
  refine Hdb (λ hc=>H7b ?_) (λ hc=>next () ?_)
  ·rw[show ((l.getD j Of).1==id)=true from hc]at h
   unfold Ki
   rw[← h]
   rfl
  ·rw[show ((l.getD j Of).1==id)=false from hc]at h
   exact h
def T6 (l:List Dev) (id:Int) (hl:l.length≤1000000000):Tot (λ k=>Fb k l id) (λ r=>r=Fbb (Ki l id)):=by
 unfold Fb
 refine H8b (Q:=λ r=>r=match Ki l id with|some d => .inl (true,d)|none => .inr (0,0,0)) ?_ (by rintro r rfl;cases Ki l id<;>exact H7b rfl)
 refine Hgb (L:=λ k i (_:Unit)=>Jc k l id i (0,0,0)) (Q:=λ r=>r=match Ki l id with|some d => .inl (true,d)|none => .inr (0,0,0)) l.length (λ j _=>Ki (l.drop j) id=Ki l id) ?_ ?_ 0 () (Vq _) rfl
 ·intro _ h
  rw[Wa]at h
  simp (disch:=omega) only [Jc,dF,← h]
  exact H7b rfl
 ·intro j _ hj h next
  rw[Ah (d:=Of) hj]at h
  unfold Ki at h
  rw[Kfb]at h
  simp (disch:=omega) only [Jc,dT,Vb,w64]
  refine Hdb (λ hc=>H7b ?_) (λ hc=>next () ?_)
  ·rw[show ((l.getD j Of).1==id)=true from hc]at h
   unfold Ki
   rw[← h]
   rfl
  ·rw[show ((l.getD j Of).1==id)=false from hc]at h
   exact h
def Cla (d:Dev):Bool:=inR d.1 0 20&&(inR d.2.1 0 20&&inR d.2.2 1 1000)
def Ada:Option Int→List Dev→Bool
 |_,[]=>true
 |none,d::l=>Cla d&&Ada (some d.1) l
 |some q,d::l=>Cla d&&(decide (q<d.1)&&Ada (some d.1) l)
def Ms (l:List Dev):Bool:=Ada none l&&inR (l.length:Int) 1 12
def J1a (l:List Dev):Nat→Option Int
 |0=>none
 |i+1=>some (l.getD i Of).1
def G3a:∀ (p:Option Int) (l:List Dev),Ada p l=true↔l.Pairwise (λ a b=>a.1<b.1)∧(∀ d∈l,Cla d=true)∧(∀ q,p=some q→∀ d∈l,q<d.1)
 |p,[]=>by cases p<;>simp[Ada]
 |none,d::l=>by
  simp only[Ada,Va,G3a (some d.1) l,Wh,Vm,forall_eq_or_imp,Vh]
  constructor
  ·rintro⟨h1,h2,h3,h4⟩;exact⟨⟨h4 _ rfl,h2⟩,⟨h1,h3⟩,λ q h=>by cases h⟩
  ·rintro⟨⟨h1,h2⟩,⟨h3,h4⟩,_⟩;exact⟨h3,h2,h4,λ q e=>by subst e;exact h1⟩
 |some q,d::l=>by
  simp only[Ada,Va,decide_eq_true_iff,G3a (some d.1) l,Wh,Vm,forall_eq_or_imp,Vh]
  constructor
  ·rintro⟨h1,hq,h2,h3,h4⟩
   exact⟨⟨h4 _ rfl,h2⟩,⟨h1,h3⟩,λ q' e=>by subst e;exact⟨hq,λ x hx=>by have:=h4 _ rfl x hx;omega⟩⟩
  ·rintro⟨⟨h1,h2⟩,⟨h3,h4⟩,h5⟩
   exact⟨h3,(h5 q rfl).1,h2,h4,λ q e=>by subst e;exact h1⟩
def Dc {l:List Dev}:Ms l=true↔l.Pairwise (λ a b=>a.1<b.1)∧(∀ d∈l,Cla d=true)∧1≤l.length∧l.length≤12:=by
 unfold Ms
 rw[Va,G3a,Cc]
 constructor
 ·rintro⟨⟨h1,h2,_⟩,h3,h4⟩;exact⟨h1,h2,by omega,by omega⟩
 ·rintro⟨h1,h2,h3,h4⟩;exact⟨⟨h1,h2,λ q h=>by cases h⟩,by omega,by omega⟩
def O5 {d:Dev}:Cla d=true↔(0≤d.1∧d.1≤20)∧(0≤d.2.1∧d.2.1≤20)∧1≤d.2.2∧d.2.2≤1000:=by
 unfold Cla
 rw[Va,Va,Cc,Cc,Cc]
def J2a {l:List Dev} {j:Nat} (hj:j<l.length):Ada (J1a l j) (l.drop j)=(Cla (l.getD j Of)&&((bif decide (0<j) then decide ((l.getD (j-1) Of).1<(l.getD j Of).1) else true)&&Ada (J1a l (j+1)) (l.drop (j+1)))):=by
 rw[Ah (d:=Of) hj]
 cases j with
 |zero=>simp[J1a,Ada]
 |succ j=>simp[J1a,Ada]
def G4a (l:List Dev) (hl:l.length≤1000000000):Tot (λ k=>Dk k l) (λ r=>r=Ms l):=by
 unfold Dk Ms
 refine H8b (Q:=λ r=>r=bif Ada none l then .inr l else .inl false) ?_ ?_
 ·refine Hgb (L:=λ k i (_:Unit)=>Hg k l l (l.length:Int) i) (Q:=λ r=>r=bif Ada none l then .inr l else .inl false) l.length (λ j _=>Ada (J1a l j) (l.drop j)=Ada none l) ?_ ?_ 0 () (Vq _) rfl
  ·intro _ h
   rw[Wa]at h
   have:Ada none l=true:=by rw[← h];cases J1a l l.length<;>rfl
   simp (disch:=omega) only [Hg,dF,this]
   exact H7b rfl
  ·intro j _ hj h next
   rw[J2a hj]at h
   simp (disch:=omega) only [Hg,dT,Vb,w64,S9,Vl]
   have e0:l.getD j ((0:Int),((0:Int),(0:Int)))=l.getD j Of:=rfl
   rw[e0]
   have no:Cla (l.getD j Of)=false→Ada none l=false:=λ c=>by rw[← h,c];rfl
   unfold Cla at no h
   refine Hdb (λ hc=>H7b ?_) (λ h1=>Hdb (λ hc=>H7b ?_) (λ h2=>Hdb (λ hc=>H7b ?_) (λ h3=>?_)))
   ·rw[no (by rw[Vw]at hc;rw[hc];rfl)];rfl
   ·rw[no (by rw[Vw]at hc;rw[hc,Zl,Yj])];rfl
   ·rw[no (by rw[Vw]at hc;rw[hc,Yj,Yj])];rfl
   ·rw[Wi]at h1 h2 h3
    rw[h1,h2,h3]at h
    refine Heb (λ h0=>?_) (λ h0=>next () ?_)
    ·simp (disch:=omega) only [dT,w64,show toNat ((j:Int)-1)=j-1 by omega]
     rw[decide_eq_true (show 0<j by omega)]at h
     refine Heb (λ hc=>H7b ?_) (λ hc=>next () ?_)
     ·have hc':¬ ((l.getD (j-1) Of).1<(l.getD j Of).1):=by
       have:(l.getD (j-1) Of).1≥(l.getD j Of).1:=hc
       omega
      rw[decide_eq_false hc']at h
      rw[← h];rfl
     ·have hc':(l.getD (j-1) Of).1<(l.getD j Of).1:=by
       have:¬ ((l.getD (j-1) Of).1≥(l.getD j Of).1):=hc
       omega
      rw[decide_eq_true hc']at h
      exact h
    ·rw[decide_eq_false (show ¬ 0<j by omega)]at h
     exact h
 ·rintro r rfl
  cases Ada none l
  ·exact H7b rfl
  simp only[cond_true,I1b,S9,Vl]
  exact H7b rfl
def Axa (l:List Dev) (hl:l.length≤1000000000):Tot (λ k=>Cg k l) (λ r=>r=Ms l):=by
 unfold Cg Ms
 refine H8b (Q:=λ r=>r=bif Ada none l then .inr l else .inl false) ?_ ?_
 ·refine Hgb (L:=λ k i (_:Unit)=>He k l i) (Q:=λ r=>r=bif Ada none l then .inr l else .inl false) l.length (λ j _=>Ada (J1a l j) (l.drop j)=Ada none l) ?_ ?_ 0 () (Vq _) rfl
  ·intro _ h
   rw[Wa]at h
   have:Ada none l=true:=by rw[← h];cases J1a l l.length<;>rfl
   simp (disch:=omega) only [He,dF,this]
   exact H7b rfl
  ·intro j _ hj h next
   rw[J2a hj]at h
   simp (disch:=omega) only [He,dT,Vb,w64,Pe,Vl]
   have e0:l.getD j ((0:Int),((0:Int),(0:Int)))=l.getD j Of:=rfl
   rw[e0]
   have no:Cla (l.getD j Of)=false→Ada none l=false:=λ c=>by rw[← h,c];rfl
   unfold Cla at no h
   refine Hdb (λ hc=>H7b ?_) (λ h1=>Hdb (λ hc=>H7b ?_) (λ h2=>Hdb (λ hc=>H7b ?_) (λ h3=>?_)))
   ·rw[no (by rw[Vw]at hc;rw[hc];rfl)];rfl
   ·rw[no (by rw[Vw]at hc;rw[hc,Zl,Yj])];rfl
   ·rw[no (by rw[Vw]at hc;rw[hc,Yj,Yj])];rfl
   ·rw[Wi]at h1 h2 h3
    rw[h1,h2,h3]at h
    refine Heb (λ h0=>?_) (λ h0=>next () ?_)
    ·simp (disch:=omega) only [dT,w64,show toNat ((j:Int)-1)=j-1 by omega]
     rw[decide_eq_true (show 0<j by omega)]at h
     refine Heb (λ hc=>H7b ?_) (λ hc=>next () ?_)
     ·have hc':¬ ((l.getD (j-1) Of).1<(l.getD j Of).1):=by
       have:(l.getD (j-1) Of).1≥(l.getD j Of).1:=hc
       omega
      rw[decide_eq_false hc']at h
      rw[← h];rfl
     ·have hc':(l.getD (j-1) Of).1<(l.getD j Of).1:=by
       have:¬ ((l.getD (j-1) Of).1≥(l.getD j Of).1):=hc
       omega
      rw[decide_eq_true hc']at h
      exact h
    ·rw[decide_eq_false (show ¬ 0<j by omega)]at h
     exact h
 ·rintro r rfl
  cases Ada none l
  ·exact H7b rfl
  simp only[cond_true,I1b,Pe,Vl]
  exact H7b rfl
def G5a (l:List Dev) (out:List Int) (id:Int):List Int:=match Ki l id with
 |some d=>bif Oq out d.2.1 then out else out++[d.2.1]
 |none=>out
def Dl (ids:List Int) (l:List Dev):List Int:=ids.foldl (G5a l) []
def Cma (l:List Dev) (out:List Int) (id:Int):(G5a l out id).length≤out.length+1:=by
 unfold G5a
 cases Ki l id with
 |none=>exact Zg _
 |some d=>
  simp only
  cases Oq out d.2.1 with
  |true=>exact Zg _
  |false=>rw[cond_false,Vd];exact Vv _
def J3a (l:List Dev):∀ (ids out:List Int),(ids.foldl (G5a l) out).length≤out.length+ids.length
 |[],out=>by simp
 |id::ids,out=>by
  have h1:=J3a l ids (G5a l out id)
  have h2:=Cma l out id
  rw[Za,Vc]
  omega
def J4a (ids:List Int) (l:List Dev) (hi:ids.length≤5000000) (hl:l.length≤5000000):Tot (λ k=>E4 k ids l) (λ r=>r=Dl ids l):=by
 unfold E4
 refine H8b (Q:=λ r=>r=Dl ids l) ?_ (by rintro r rfl;exact H7b rfl)
 refine Hgb (L:=λ k i s=>Ez k l s ids (ids.length:Int) i) (Q:=λ r=>r=Dl ids l) ids.length (λ j s=>(ids.drop j).foldl (G5a l) s=Dl ids l∧s.length≤j) ?_ ?_ 0 [] (Vq _) ⟨rfl,Vv _⟩
 ·rintro s ⟨h,_⟩
  rw[Wa]at h
  simp (disch:=omega) only [Ez,dF]
  exact H7b h
 ·rintro j s hj ⟨h,hs⟩ next
  rw[Ah (d:=0) hj,Za]at h
  simp (disch:=omega) only [Ez,dT,Vb,w64]
  have hz:=Cma l s (ids.getD j 0)
  refine Hib (T5 l (ids.getD j 0) (by omega)) ?_
  unfold G5a at h hz
  cases hd:Ki l (ids.getD j 0) with
  |none=>
   rw[hd]at h
   exact H9b rfl (next _ ⟨h,by omega⟩)
  |some d=>
   rw[hd]at h hz
   refine Hab rfl (Hib (Us s d.2.1 (by omega)) ?_)
   simp only at h hz
   cases hh:Oq s d.2.1 with
   |true=>
    rw[hh]at h
    exact H9b rfl (next _ ⟨h,by omega⟩)
   |false=>
    rw[hh]at h hz
    exact Hab rfl (Hfb (by simp only[Vc,Vg];omega) (next _ ⟨h,by rw[cond_false]at hz;exact Zm hz (by omega)⟩))
def J5a (ids:List Int) (l:List Dev) (hi:ids.length≤5000000) (hl:l.length≤5000000):Tot (λ k=>Dv k ids l) (λ r=>r=Dl ids l):=by
 unfold Dv
 refine H8b (Q:=λ r=>r=Dl ids l) ?_ (by rintro r rfl;exact H7b rfl)
 refine Hgb (L:=λ k i s=>Er k ids l s i) (Q:=λ r=>r=Dl ids l) ids.length (λ j s=>(ids.drop j).foldl (G5a l) s=Dl ids l∧s.length≤j) ?_ ?_ 0 [] (Vq _) ⟨rfl,Vv _⟩
 ·rintro s ⟨h,_⟩
  rw[Wa]at h
  simp (disch:=omega) only [Er,dF]
  exact H7b h
 ·rintro j s hj ⟨h,hs⟩ next
  rw[Ah (d:=0) hj,Za]at h
  simp (disch:=omega) only [Er,dT,Vb,w64]
  have hz:=Cma l s (ids.getD j 0)
  refine Hib (T6 l (ids.getD j 0) (by omega)) ?_
  unfold G5a at h hz
  cases hd:Ki l (ids.getD j 0) with
  |none=>
   rw[hd]at h
   exact H9b rfl (next _ ⟨h,by omega⟩)
  |some d=>
   rw[hd]at h hz
   refine Hab rfl (Hib (Ut s d.2.1 (by omega)) ?_)
   simp only at h hz
   cases hh:Oq s d.2.1 with
   |true=>
    rw[hh]at h
    exact H9b rfl (next _ ⟨h,by omega⟩)
   |false=>
    rw[hh]at h hz
    exact Hab rfl (Hfb (by simp only[Vc,Vg];omega) (next _ ⟨h,by rw[cond_false]at hz;exact Zm hz (by omega)⟩))

def T7 {l:List Int} {j:Nat} (hj:j<l.length) (h:(l.take j).Nodup) (hn:l.getD j 0∉l.take j):(l.take (j+1)).Nodup:=by
 rw[Wl hj,Ym]
 rw[Ve,Vk hj,Yp]at hn
 exact⟨h,by simp,λ a ha b hb e=>by rw[Vu.1 hb]at e;subst e;exact hn ha⟩
def J6a {l:List Int} {j:Nat} (hj:j<l.length) (hn:l.getD j 0∈l.take j):¬ l.Nodup:=by
 intro h
 have h1:(l.take (j+1)).Nodup:=h.sublist (Jzb _ _)
 rw[Wl hj,Ym]at h1
 rw[Ve,Vk hj,Yp]at hn
 exact h1.2.2 _ hn _ (by simp) rfl
def J7a (l:List Int) (hl:l.length≤5000000):Tot (λ k=>Hm k l) (λ r=>r=decide l.Nodup):=by
 unfold Hm
 refine H8b (Q:=λ r=>r=bif decide l.Nodup then .inr () else .inl false) ?_ (by rintro r rfl;cases decide l.Nodup<;>exact H7b rfl)
 refine Hgb (L:=λ k i (_:Unit)=>Jk k l l (l.length:Int) i) (Q:=λ r=>r=bif decide l.Nodup then .inr () else .inl false) l.length (λ j _=>(l.take j).Nodup) ?_ ?_ 0 () (Vq _) (by simp)
 ·intro _ h
  rw[Yt]at h
  simp (disch:=omega) only [Jk,dF,decide_eq_true h]
  exact H7b rfl
 ·intro j _ hj h next
  simp (disch:=omega) only [Jk,dT,Vb,w64]
  refine Hib (Us (l.take j) (l.getD j 0) (by rw[Vs];omega)) ?_
  refine Hdb (λ hc=>H7b ?_) (λ hc=>next () (T7 hj h (λ c=>by rw[Tv.2 c]at hc;cases hc)))
  rw[decide_eq_false (J6a hj (Tv.1 hc))]
  rfl
def Oia (l:List Int) (n:Int) (hl:l.length≤5000000):Tot (λ k=>Fg k l n) (λ r=>r=(decide l.Nodup&&((l.length:Int)==n))):=by
 unfold Fg
 refine H8b (Q:=λ r=>r=bif decide l.Nodup then .inr (n,l) else .inl false) ?_ (by rintro r rfl;cases decide l.Nodup<;>exact H7b rfl)
 refine Hgb (L:=λ k i (_:Unit)=>I5 k n i l) (Q:=λ r=>r=bif decide l.Nodup then .inr (n,l) else .inl false) l.length (λ j _=>(l.take j).Nodup) ?_ ?_ 0 () (Vq _) (by simp)
 ·intro _ h
  rw[Yt]at h
  simp (disch:=omega) only [I5,dF,decide_eq_true h]
  exact H7b rfl
 ·intro j _ hj h next
  simp (disch:=omega) only [I5,dT,Vb,w64]
  refine Hib (Ut (l.take j) (l.getD j 0) (by rw[Vs];omega)) ?_
  refine Hdb (λ hc=>H7b ?_) (λ hc=>next () (T7 hj h (λ c=>by rw[Tv.2 c]at hc;cases hc)))
  rw[decide_eq_false (J6a hj (Tv.1 hc))]
  rfl
def RBd (r:Rng):Prop:=r.2.length≤2000000∧∀ p∈r.2,p.length≤2000000
def Ni (l:List Dev) (n:Int) (p:List Int):Bool:=(decide p.Nodup&&((p.length:Int)==n))&&p.all λ id=>(Ki l id).isSome
def Hk (r:Rng) (l:List Dev):Bool:=Ms l&&(inR r.1 1 5&&(inR (r.2.length:Int) 1 64&&r.2.all (Ni l r.1)))
def B5 {r:Rng} {l:List Dev}:Hk r l=true↔Ms l=true∧(1≤r.1∧r.1≤5)∧(1≤r.2.length∧r.2.length≤64)∧∀ p∈r.2,p.Nodup∧(p.length:Int)=r.1∧∀ id∈p,∃ d,Ki l id=some d:=by
 unfold Hk Ni
 simp only[Va,Cc,Ys,decide_eq_true_iff,beq_iff_eq,Zo]
 constructor
 ·rintro⟨h1,h2,⟨h3,h4⟩,h5⟩;exact⟨h1,h2,⟨by omega,by omega⟩,λ p hp=>⟨(h5 p hp).1.1,(h5 p hp).1.2,(h5 p hp).2⟩⟩
 ·rintro⟨h1,h2,⟨h3,h4⟩,h5⟩;exact⟨h1,h2,⟨by omega,by omega⟩,λ p hp=>⟨⟨(h5 p hp).1,(h5 p hp).2.1⟩,(h5 p hp).2.2⟩⟩
def Mt {r:Rng} {l:List Dev} (h:Hk r l=true):RBd r:=by
 obtain⟨_,h2,h3,h4⟩:=B5.1 h
 exact⟨by omega,λ p hp=>by have:=(h4 p hp).2.1;omega⟩
def Yma (r:Rng) (l:List Dev) (hr:RBd r) (hl:l.length≤5000000):Tot (λ k=>Ga k r l) (λ b=>b=Hk r l):=by
 unfold Ga Hk
 refine Hib (G4a l (by omega)) ?_
 cases hd:Ms l
 ·exact Hab rfl (H7b rfl)
 have hrl:=hr.1
 simp only[Yv,cond_false,S9,Vl,Vz]
 cases inR r.1 1 5
 ·exact Hab rfl (H7b rfl)
 refine H9b rfl ?_
 cases inR (r.2.length:Int) 1 64
 ·exact Hab rfl (H7b rfl)
 refine H9b rfl (H8b (Q:=λ b=>b=bif r.2.all (Ni l r.1) then .inr () else .inl false) ?_ (by rintro r' rfl;cases r.2.all (Ni l r.1)<;>exact H7b rfl))
 refine Hgb (L:=λ k i (_:Unit)=>Ic k l r.2 (r.2.length:Int) i r) (Q:=λ b=>b=bif r.2.all (Ni l r.1) then .inr () else .inl false) r.2.length (λ j _=>(r.2.drop j).all (Ni l r.1)=r.2.all (Ni l r.1)) ?_ ?_ 0 () (Vq _) rfl
 ·intro _ h
  rw[Wa]at h
  simp (disch:=omega) only [Ic,dF,← h]
  exact H7b rfl
 ·intro j _ hj h next
  rw[Ah (d:=[]) hj,Hob]at h
  have hp:=hr.2 _ (A4 (d:=[]) hj)
  simp (disch:=omega) only [Ic,dT,Vb,w64]
  have no:Ni l r.1 (r.2.getD j [])=false→r.2.all (Ni l r.1)=false:=λ c=>by rw[← h,c];rfl
  unfold Ni at no h
  refine Hdb (λ hc=>H7b ?_) (λ h1=>H8b (J7a (r.2.getD j []) (by omega)) ?_)
  ·have hc':(((r.2.getD j []).length:Int)==r.1)=false:=by simpa using hc
   rw[show r.2.all (Ni l r.1)=false from no (by rw[hc',Yj,Zl])]
   rfl
  ·have h1':(((r.2.getD j []).length:Int)==r.1)=true:=by simpa using h1
   rintro b rfl
   refine Hdb (λ hc=>H7b ?_) (λ h2=>?_)
   ·rw[show r.2.all (Ni l r.1)=false from no (by rw[Vw]at hc;rw[hc];rfl)]
    rfl
   ·rw[Wi]at h2
    generalize r.2.getD j []=p at *
    refine H8b (Q:=λ b=>b=bif p.all (λ id=>(Ki l id).isSome) then .inr (l,r.2,(r.2.length:Int),(j:Int),r) else .inl false) ?_ ?_
    ·refine Hgb (L:=λ k i (_:Unit)=>Ib k l r.2 (r.2.length:Int) (j:Int) p (p.length:Int) i r) (Q:=λ b=>b=bif p.all (λ id=>(Ki l id).isSome) then .inr (l,r.2,(r.2.length:Int),(j:Int),r) else .inl false) p.length (λ m _=>(p.drop m).all (λ id=>(Ki l id).isSome)=p.all (λ id=>(Ki l id).isSome)) ?_ ?_ 0 () (Vq _) rfl
     ·intro _ h
      rw[Wa]at h
      simp (disch:=omega) only [Ib,dF,← h]
      exact H7b rfl
     ·intro m _ hm h next
      rw[Ah (d:=0) hm,Hob]at h
      simp (disch:=omega) only [Ib,dT,Vb,w64]
      refine Hib (T5 l (p.getD m 0) (by omega)) ?_
      cases hd:Ki l (p.getD m 0) with
      |none=>exact Hab rfl (H7b (by rw[← h,hd];rfl))
      |some d=>exact H9b rfl (next () (by rw[hd]at h;exact h))
    ·rintro b rfl
     cases hc:p.all (λ id=>(Ki l id).isSome)
     ·exact H7b (by rw[show r.2.all (Ni l r.1)=false from no (by rw[hc,Yj])];rfl)
     simp (disch:=omega) only [cond_true,I1b,w64]
     exact next () (by rw[h2,h1',hc]at h;exact h)
def Yna (r:Rng) (l:List Dev) (hr:RBd r) (hl:l.length≤5000000):Tot (λ k=>Gc k r l) (λ b=>b=Hk r l):=by
 unfold Gc Hk
 refine Hib (Axa l (by omega)) ?_
 cases hd:Ms l
 ·exact Hab rfl (H7b rfl)
 have hrl:=hr.1
 simp only[Yv,cond_false,Pe,Vl,Vz]
 cases inR r.1 1 5
 ·exact Hab rfl (H7b rfl)
 refine H9b rfl ?_
 cases inR (r.2.length:Int) 1 64
 ·exact Hab rfl (H7b rfl)
 refine H9b rfl (H8b (Q:=λ b=>b=bif r.2.all (Ni l r.1) then .inr () else .inl false) ?_ (by rintro r' rfl;cases r.2.all (Ni l r.1)<;>exact H7b rfl))
 refine Hgb (L:=λ k i (_:Unit)=>Im k l i r) (Q:=λ b=>b=bif r.2.all (Ni l r.1) then .inr () else .inl false) r.2.length (λ j _=>(r.2.drop j).all (Ni l r.1)=r.2.all (Ni l r.1)) ?_ ?_ 0 () (Vq _) rfl
 ·intro _ h
  rw[Wa]at h
  simp (disch:=omega) only [Im,dF,← h]
  exact H7b rfl
 ·intro j _ hj h next
  rw[Ah (d:=[]) hj,Hob]at h
  have hp:=hr.2 _ (A4 (d:=[]) hj)
  simp (disch:=omega) only [Im,dT,Vb,w64]
  have no:Ni l r.1 (r.2.getD j [])=false→r.2.all (Ni l r.1)=false:=λ c=>by rw[← h,c];rfl
  unfold Ni at no h
  refine Hib (Oia (r.2.getD j []) r.1 (by omega)) ?_
  refine Hdb (λ hc=>H7b ?_) (λ h2=>?_)
  ·rw[show r.2.all (Ni l r.1)=false from no (by rw[Vw]at hc;rw[hc];rfl)]
   rfl
  ·rw[Wi]at h2
   refine H8b (Q:=λ b=>b=bif (r.2.getD j []).all (λ id=>(Ki l id).isSome) then .inr (l,(j:Int),r) else .inl false) ?_ ?_
   ·refine Hgb (L:=λ k i (_:Unit)=>Il k l (j:Int) i r) (Q:=λ b=>b=bif (r.2.getD j []).all (λ id=>(Ki l id).isSome) then .inr (l,(j:Int),r) else .inl false) (r.2.getD j []).length (λ m _=>((r.2.getD j []).drop m).all (λ id=>(Ki l id).isSome)=(r.2.getD j []).all (λ id=>(Ki l id).isSome)) ?_ ?_ 0 () (Vq _) rfl
    ·intro _ h
     rw[Wa]at h
     simp (disch:=omega) only [Il,dT,dF,Vb,← h]
     exact H7b rfl
    ·intro m _ hm h next
     rw[Ah (d:=0) hm,Hob]at h
     simp (disch:=omega) only [Il,dT,Vb,w64]
     refine Hib (T6 l ((r.2.getD j []).getD m 0) (by omega)) ?_
     cases hd:Ki l ((r.2.getD j []).getD m 0) with
     |none=>exact Hab rfl (H7b (by rw[← h,hd];rfl))
     |some d=>exact H9b rfl (next () (by rw[hd]at h;exact h))
   ·rintro b rfl
    cases hc:(r.2.getD j []).all (λ id=>(Ki l id).isSome)
    ·exact H7b (by rw[show r.2.all (Ni l r.1)=false from no (by rw[hc,Yj])];rfl)
    simp (disch:=omega) only [cond_true,I1b,w64]
    exact next () (by rw[h2,hc]at h;exact h)
def Z8 (l:List Int) (hl:l.length≤5000000):Cl l=some l:=by
 unfold Cl
 rw[bT (by simp only[Vg];omega),Vx]
def Z9 (r:Rng) (hr:RBd r):Tot (λ k=>Dy k r) (λ x=>x=r):=by
 have hrl:=hr.1
 unfold Dy
 refine H8b (Q:=λ x=>x=((0,[]),r)) ?_ (by rintro x rfl;exact H7b rfl)
 refine Hgb (L:=λ k i s=>El k r.2 (r.2.length:Int) i (0,[]) (r.1,s)) (Q:=λ x=>x=((0,[]),r)) r.2.length (λ j s=>s=r.2.take j) ?_ ?_ 0 [] (Vq _) rfl
 ·rintro s rfl
  simp (disch:=omega) only [El,dF,Yt]
  exact H7b rfl
 ·rintro j s hj rfl next
  have hp:=hr.2 _ (A4 (d:=[]) hj)
  simp (disch:=omega) only [El,dT,Vb,w64,Z8,Vl]
  refine Hfb (by simp only[Vs,Vc,Vg];omega) (next _ ?_)
  rw[Wl hj,Ve,Vk hj,Yp]
def A0a (r:Rng) (hr:RBd r):Tot (λ k=>K7 k r) (λ x=>x=r):=by
 have hrl:=hr.1
 unfold K7
 refine H8b (Q:=λ x=>x=((0,[]),r)) ?_ (by rintro x rfl;exact H7b rfl)
 refine Hgb (L:=λ k i s=>Hd k i r (0,[]) (r.1,s)) (Q:=λ x=>x=((0,[]),r)) r.2.length (λ j s=>s=r.2.take j) ?_ ?_ 0 [] (Vq _) rfl
 ·rintro s rfl
  simp (disch:=omega) only [Hd,dF,Yt]
  exact H7b rfl
 ·rintro j s hj rfl next
  have hp:=hr.2 _ (A4 (d:=[]) hj)
  simp (disch:=omega) only [Hd,dT,Vb,w64]
  refine Hfb (by simp only[Vg];omega) (Hfb (by simp only[Vs,Vc,Vg];omega) (next _ ?_))
  rw[Wl hj,Ve,Vk hj,Yp,Vx]
def cnt (id n x:Int):Int:=bif x==id then n+1 else n
def D7a (id n:Int) (p:List Int):Int:=p.foldl (cnt id) n
def Jt (r:Rng) (id:Int):Int:=r.2.foldl (D7a id) 0
def G6a (id:Int):∀ (p:List Int) (n:Int),n≤D7a id n p∧D7a id n p≤n+p.length
 |[],n=>by simp[D7a]
 |x::p,n=>by
  have h:=G6a id p (cnt id n x)
  unfold D7a at h ⊢
  have hc:n≤cnt id n x∧cnt id n x≤n+1:=by unfold cnt;cases x==id<;>simp<;>omega
  rw[Za,Vc]
  omega
def V1a (id:Int) (m:Nat):∀ (ps:List (List Int)) (n:Int),(∀ p∈ps,p.length≤m)→n≤ps.foldl (D7a id) n∧ps.foldl (D7a id) n≤n+(m*ps.length:Nat)
 |[],n,_=>by simp
 |p::ps,n,h=>by
  have h1:=V1a id m ps (D7a id n p) (λ q hq=>h q (Vj _ hq))
  have h2:=G6a id p n
  have h3:=h p Yk
  rw[Za,Vc,Nat.mul_succ]
  omega
def P9 {r:Rng} (hr:RBd r) (id:Int):0≤Jt r id∧Jt r id≤4000000000000:=by
 have h:=V1a id 2000000 r.2 0 hr.2
 have h2:=hr.1
 unfold Jt
 omega
def G7a (r:Rng) (id:Int) (hr:RBd r):Tot (λ k=>H8 k r id) (λ x=>x=Jt r id):=by
 have hrl:=hr.1
 unfold H8
 refine H8b (Q:=λ x=>x=Jt r id) ?_ (by rintro x rfl;exact H7b rfl)
 refine Hgb (L:=λ k i s=>Ik k id s r.2 (r.2.length:Int) i) (Q:=λ x=>x=Jt r id) r.2.length (λ j s=>(r.2.drop j).foldl (D7a id) s=Jt r id∧0≤s∧s≤2000000*j) ?_ ?_ 0 0 (Vq _) ⟨rfl,by omega,by omega⟩
 ·rintro s ⟨h,_⟩
  rw[Wa]at h
  simp (disch:=omega) only [Ik,dF]
  exact H7b h
 ·rintro j s hj ⟨h,h0,h1⟩ next
  rw[Ah (d:=[]) hj,Za]at h
  have hp:=hr.2 _ (A4 (d:=[]) hj)
  have hc:=G6a id (r.2.getD j []) s
  simp (disch:=omega) only [Ik,dT,Vb]
  refine H8b (Q:=λ x=>x=(id,D7a id s (r.2.getD j []),r.2,(r.2.length:Int),(j:Int))) ?_ ?_
  ·generalize r.2.getD j []=p at *
   refine Hgb (L:=λ k i s=>Hj k id s r.2 (r.2.length:Int) (j:Int) p (p.length:Int) i) (Q:=λ x=>x=(id,D7a id s p,r.2,(r.2.length:Int),(j:Int))) p.length (λ m z=>D7a id z (p.drop m)=D7a id s p∧0≤z∧z≤2000000*j+m) ?_ ?_ 0 s (Vq _) ⟨rfl,h0,by omega⟩
   ·rintro z ⟨h,_⟩
    rw[Wa]at h
    simp (disch:=omega) only [Hj,dF]
    exact H7b (by rw[← h];rfl)
   ·rintro m z hm ⟨h,z0,z1⟩ next
    rw[Ah (d:=0) hm]at h
    simp (disch:=omega) only [Hj,dT,Vb,w64]
    have h':D7a id (cnt id z (p.getD m 0)) (p.drop (m+1))=D7a id s p:=h
    unfold cnt at h'
    refine Hdb (λ hc=>next _ ?_) (λ hc=>next _ ?_)
    ·rw[hc]at h';exact⟨h',by omega,by omega⟩
    ·rw[hc]at h';exact⟨h',by omega,by omega⟩
  ·rintro x rfl
   simp (disch:=omega) only [w64]
   exact next _ ⟨h,by omega,by omega⟩
def Aya (r:Rng) (id:Int) (hr:RBd r):Tot (λ k=>Dj k r id) (λ x=>x=Jt r id):=by
 have hrl:=hr.1
 unfold Dj
 refine H8b (Q:=λ x=>x=Jt r id) ?_ (by rintro x rfl;exact H7b rfl)
 refine Hgb (L:=λ k i s=>I7 k id s i r) (Q:=λ x=>x=Jt r id) r.2.length (λ j s=>(r.2.drop j).foldl (D7a id) s=Jt r id∧0≤s∧s≤2000000*j) ?_ ?_ 0 0 (Vq _) ⟨rfl,by omega,by omega⟩
 ·rintro s ⟨h,_⟩
  rw[Wa]at h
  simp (disch:=omega) only [I7,dF]
  exact H7b h
 ·rintro j s hj ⟨h,h0,h1⟩ next
  rw[Ah (d:=[]) hj,Za]at h
  have hp:=hr.2 _ (A4 (d:=[]) hj)
  have hc:=G6a id (r.2.getD j []) s
  simp (disch:=omega) only [I7,dT]
  refine H8b (Q:=λ x=>x=(id,D7a id s (r.2.getD j []),(j:Int),r)) ?_ ?_
  ·refine Hgb (L:=λ k i s=>Hf k id s (j:Int) i r) (Q:=λ x=>x=(id,D7a id s (r.2.getD j []),(j:Int),r)) (r.2.getD j []).length (λ m z=>D7a id z ((r.2.getD j []).drop m)=D7a id s (r.2.getD j [])∧0≤z∧z≤2000000*j+m) ?_ ?_ 0 s (Vq _) ⟨rfl,h0,by omega⟩
   ·rintro z ⟨h,_⟩
    rw[Wa]at h
    simp (disch:=omega) only [Hf,dT,dF,Vb]
    exact H7b (by rw[← h];rfl)
   ·rintro m z hm ⟨h,z0,z1⟩ next
    rw[Ah (d:=0) hm]at h
    simp (disch:=omega) only [Hf,dT,Vb,w64]
    have h':D7a id (cnt id z ((r.2.getD j []).getD m 0)) ((r.2.getD j []).drop (m+1))=D7a id s (r.2.getD j []):=h
    unfold cnt at h'
    refine Hdb (λ hc=>next _ ?_) (λ hc=>next _ ?_)
    ·rw[hc]at h';exact⟨h',by omega,by omega⟩
    ·rw[hc]at h';exact⟨h',by omega,by omega⟩
  ·rintro x rfl
   simp (disch:=omega) only [w64]
   exact next _ ⟨h,by omega,by omega⟩

def Fzb {a w:Int} (h0:0≤a) (h1:a≤4000000000001) (w0:0≤w) (w1:w≤1000) : -9223372036854775808≤a*w∧a*w≤9223372036854775807:=by
 have e1:=Int.mul_nonneg h0 w0
 have e2:a*w≤4000000000001*1000:=Int.mul_le_mul h1 w1 w0 (by decide)
 omega
def Uu (r:Rng) (p zs:List Int) (a:Option (Dev×Bool)) (d:Dev):Option (Dev×Bool):=
 bif Oq p d.1 then a else match a with
 |none=>some (d,!(Oq zs d.2.1))
 |some (b,fr)=>bif (!(Oq zs d.2.1)&&!fr)||(((!(Oq zs d.2.1))==fr)&&decide ((Jt r d.1+1)*b.2.2<(Jt r b.1+1)*d.2.2)) then some (d,!(Oq zs d.2.1)) else some (b,fr)
def Pl (r:Rng) (p:List Int) (l:List Dev):Option (Dev×Bool):=l.foldl (Uu r p (Dl p l)) none
def Y5 (r:Rng) (p:List Int) (l:List Dev):Int:=match Pl r p l with
 |some b=>b.1.1
 |none => -1
def Oja {r:Rng} {p zs:List Int} {l:List Dev} {a:Option (Dev×Bool)} {d:Dev} (ha:∀ b,a=some b→b.1∈l∧b.1.1∉p) (hd:d∈l):∀ b,Uu r p zs a d=some b→b.1∈l∧b.1.1∉p:=by
 intro b hb
 unfold Uu at hb
 cases hp:Oq p d.1
 case true=>rw[hp]at hb;exact ha b hb
 have hn:d.1∉p:=λ c=>by rw[Tv.2 c]at hp;cases hp
 rw[hp,cond_false]at hb
 cases a with
 |none=>cases hb;exact⟨hd,hn⟩
 |some c=>
  obtain⟨c,fr⟩:=c
  simp only at hb
  cases hq:(!(Oq zs d.2.1)&&!fr)||(((!(Oq zs d.2.1))==fr)&&decide ((Jt r d.1+1)*c.2.2<(Jt r c.1+1)*d.2.2)) with
  |true=>rw[hq]at hb;cases hb;exact⟨hd,hn⟩
  |false=>rw[hq]at hb;cases hb;exact ha _ rfl
def Oka {r:Rng} {p zs:List Int} {l:List Dev}:∀ (m:List Dev) (a:Option (Dev×Bool)),(∀ b,a=some b→b.1∈l∧b.1.1∉p)→(∀ d∈m,d∈l)→∀ b,m.foldl (Uu r p zs) a=some b→b.1∈l∧b.1.1∉p
 |[],_,ha,_=>ha
 |d::m,_,ha,hm=>Oka m _ (Oja ha (hm d Yk)) (λ x hx=>hm x (Vj _ hx))
def Ola {r:Rng} {p:List Int} {l:List Dev} {b:Dev×Bool} (h:Pl r p l=some b):b.1∈l∧b.1.1∉p:=Oka l none (λ b h=>by cases h) (λ _ h=>h) b h
def Qia {r:Rng} {p zs:List Int} {a:Option (Dev×Bool)} {d:Dev} (h:a.isSome=true∨d.1∉p):(Uu r p zs a d).isSome=true:=by
 unfold Uu
 cases hp:Oq p d.1 with
 |true=>
  rcases h with h|h
  ·exact h
  ·exact absurd (Tv.1 hp) h
 |false=>
  cases a with
  |none=>rfl
  |some c=>
   obtain⟨c,fr⟩:=c
   simp only[cond_false]
   cases (!(Oq zs d.2.1)&&!fr)||(((!(Oq zs d.2.1))==fr)&&decide ((Jt r d.1+1)*c.2.2<(Jt r c.1+1)*d.2.2))<;>rfl
def Epa {r:Rng} {p zs:List Int}:∀ (m:List Dev) (a:Option (Dev×Bool)),(a.isSome=true∨∃ d∈m,d.1∉p)→(m.foldl (Uu r p zs) a).isSome=true
 |[],a,h=>by
  rcases h with h|⟨d,h,_⟩
  ·exact h
  ·cases h
 |d::m,a,h=>by
  refine Epa m _ ?_
  by_cases hd:a.isSome=true∨d.1∉p
  ·exact .inl (Qia hd)
  ·rcases h with h|⟨x,hx,hn⟩
   ·exact absurd (.inl h) hd
   ·rcases Vm.1 hx with rfl|hx
    ·exact absurd (.inr hn) hd
    ·exact .inr ⟨x,hx,hn⟩
def Yoa {r:Rng} {p:List Int} {l:List Dev} (h:∃ d∈l,d.1∉p):∃ d∈l,Y5 r p l=d.1∧d.1∉p:=by
 obtain⟨b,hb⟩:=Zo.1 (Epa (r:=r) (zs:=Dl p l) l none (.inr h))
 obtain⟨h1,h2⟩:=Ola hb
 exact⟨b.1,h1,by unfold Y5;rw[show Pl r p l=some b from hb],h2⟩
def Qja (r:Rng) (p:List Int) (l:List Dev):(Pl r p l=none∧Y5 r p l = -1)∨∃ b,Pl r p l=some b∧Y5 r p l=b.1.1∧b.1∈l∧b.1.1∉p:=by
 cases h:Pl r p l with
 |none=>exact .inl ⟨rfl,by unfold Y5;rw[h]⟩
 |some b=>exact .inr ⟨b,rfl,by unfold Y5;rw[h],Ola h⟩
def Rx (p:List Int) (l:List Dev):(Dl p l).length≤p.length:=by
 have:=J3a l p []
 rwa [Vg,Wk]at this
def bs (r:Rng):Option (Dev×Bool)→Int×Bool×Dev
 |some (b,fr)=>(Jt r b.1+1,fr,b)
 |none=>(0,false,-1,0,0)
def Ypa (r:Rng) (p:List Int) (l:List Dev) (hr:RBd r) (hp:p.length≤2000000) (hl:Ms l=true):Tot (λ k=>Jq k r p l) (λ x=>x=Y5 r p l):=by
 obtain⟨_,hdv,_,h12⟩:=Dc.1 hl
 have hz:=Rx p l
 unfold Jq
 refine Hib (G4a l (by omega)) ?_
 refine H9b (by rw[hl];rfl) (Hib (J4a p l (by omega) (by omega)) ?_)
 refine H8b (Q:=λ x=>x=match Pl r p l with|some b=>b.1|none=>(-1,0,0)) ?_ (by rintro x rfl;unfold Y5;cases Pl r p l<;>exact H7b rfl)
 refine Hgb (L:=λ k i (s:Int×Bool×Dev)=>Cb k (Dl p l) s.1 s.2.1 l (l.length:Int) i r p s.2.2) (Q:=λ x=>x=match Pl r p l with|some b=>b.1|none=>(-1,0,0)) l.length
  (λ j s=>∃ a,s=bs r a∧(∀ b,a=some b→b.1∈l∧b.1.1∉p)∧(l.drop j).foldl (Uu r p (Dl p l)) a=Pl r p l) ?_ ?_ 0 (0,false,-1,0,0) (Vq _) ⟨none,rfl,λ b h=>(by cases h),rfl⟩
 ·rintro s ⟨a,rfl,_,h⟩
  rw[Wa]at h
  simp (disch:=omega) only [Cb,dF]
  refine H7b ?_
  rw[← h]
  cases a<;>rfl
 ·rintro j s hj ⟨a,rfl,ha,h⟩ next
  rw[Ah (d:=Of) hj,Za]at h
  have hd:=A4 (d:=Of) hj
  obtain⟨d,ed⟩:∃ d:Dev,l.getD j Of=d:=⟨_,rfl⟩
  rw[ed]at h hd
  have e0:l.getD j ((0:Int),((0:Int),(0:Int)))=d:=ed
  have ha':=Oja (r:=r) (p:=p) (zs:=Dl p l) ha hd
  obtain⟨_,_,w0,w1⟩:=O5.1 (hdv _ hd)
  have l1:=P9 hr d.1
  simp (disch:=omega) only [Cb,dT,Vb,w64,e0]
  unfold Uu at h ha'
  refine Hib (Us p d.1 (by omega)) ?_
  cases hp':Oq p d.1 with
  |true=>
   rw[hp']at h
   exact Hab rfl (next _ ⟨a,rfl,ha,h⟩)
  |false=>
   rw[hp',cond_false]at h ha'
   refine H9b rfl (Hib (G7a r d.1 hr) ?_)
   refine Hib (Us (Dl p l) d.2.1 (by omega)) ?_
   simp (disch:=omega) only [w64]
   have take:(∀ b,some (d,!(Oq (Dl p l) d.2.1))=some b→b.1∈l∧b.1.1∉p)→(l.drop (j+1)).foldl (Uu r p (Dl p l)) (some (d,!(Oq (Dl p l) d.2.1)))=Pl r p l→Tot (λ k=>Cb k (Dl p l) (Jt r d.1+1) (!(Oq (Dl p l) d.2.1)) l (l.length:Int) ((j:Int)+1) r p d) (λ x=>x=match Pl r p l with|some b=>b.1|none=>(-1,0,0)):=λ h1 h2=>next (Jt r d.1+1,!(Oq (Dl p l) d.2.1),d) ⟨_,rfl,h1,h2⟩
   cases a with
   |none=>exact Hbb (show (-1:Int)<0 by decide) (take ha' h)
   |some bf=>
    obtain⟨b,fr⟩:=bf
    have hb:b∈l:=(ha _ rfl).1
    obtain⟨⟨i0,_⟩,_,v0,v1⟩:=O5.1 (hdv _ hb)
    have l2:=P9 hr b.1
    have m1:=Fzb (a:=Jt r d.1+1) (w:=b.2.2) (by omega) (by omega) (by omega) v1
    have m2:=Fzb (a:=Jt r b.1+1) (w:=d.2.2) (by omega) (by omega) (by omega) w1
    have stay:(l.drop (j+1)).foldl (Uu r p (Dl p l)) (some (b,fr))=Pl r p l→Tot (λ k=>Cb k (Dl p l) (Jt r b.1+1) fr l (l.length:Int) ((j:Int)+1) r p b) (λ x=>x=match Pl r p l with|some b=>b.1|none=>(-1,0,0)):=λ h2=>next (Jt r b.1+1,fr,b) ⟨some (b,fr),rfl,ha,h2⟩
    refine Hcb (by show ¬ b.1<0;omega) ?_
    dsimp only at h ha'
    have eb:bs r (some (b,fr))=(Jt r b.1+1,fr,b):=rfl
    simp only[eb,w64 m1.1 m1.2,w64 m2.1 m2.2]
    have cmp:∀ {z:Bool},Oq (Dl p l) d.2.1=z→((!z)==fr)=true→(!z&&!fr)=false→Tot (λ k=>cond (decide ((Jt r d.1+1)*b.2.2<(Jt r b.1+1)*d.2.2)) (Cb k (Dl p l) (Jt r d.1+1) (!(Oq (Dl p l) d.2.1)) l (l.length:Int) ((j:Int)+1) r p d) (Cb k (Dl p l) (Jt r b.1+1) fr l (l.length:Int) ((j:Int)+1) r p b)) (λ x=>x=match Pl r p l with|some b=>b.1|none=>(-1,0,0)):=by
     intro z hz e1 e2
     rw[hz]at h ha' take ⊢
     rw[e1,e2,Hsb,Vz]at h ha'
     refine Hdb (λ hc=>?_) (λ hc=>?_)
     ·rw[hc]at h ha';exact take ha' h
     ·rw[hc]at h;exact stay h
    cases hz:Oq (Dl p l) d.2.1 with
    |false=>
     have cm:=cmp hz
     rw[hz]at h ha' take cm
     cases fr with
     |false=>exact Hab rfl (Hab rfl (take ha' h))
     |true=>exact Hab rfl (H9b rfl (Hab rfl (cm rfl rfl)))
    |true=>
     have cm:=cmp hz
     rw[hz]at h ha' take cm
     cases fr with
     |false=>exact H9b rfl (Hab rfl (cm rfl rfl))
     |true=>exact H9b rfl (H9b rfl (stay h))
def Oma (r:Rng) (p:List Int) (l:List Dev) (hr:RBd r) (hp:p.length≤2000000) (hl:Ms l=true):Tot (λ k=>J4 k r p l) (λ x=>x=Y5 r p l):=by
 obtain⟨_,hdv,_,h12⟩:=Dc.1 hl
 have hz:=Rx p l
 unfold J4
 refine Hib (J5a p l (by omega) (by omega)) ?_
 refine H8b (Q:=λ x=>∃ i:Int,x=(l,i)∧match Pl r p l with|some b=>∃ n:Nat,i=(n:Int)∧n<l.length∧l.getD n Of=b.1|none=>i = -1) ?_ ?_
 ·refine Hgb (L:=λ k i (s:Int×Bool)=>C7 k l (Dl p l) s.1 s.2 i r p) (Q:=λ x=>∃ i:Int,x=(l,i)∧match Pl r p l with|some b=>∃ n:Nat,i=(n:Int)∧n<l.length∧l.getD n Of=b.1|none=>i = -1) l.length
   (λ j s=>∃ a,(match a with|some (b,fr)=>s.2=fr∧∃ n:Nat,s.1=(n:Int)∧n<l.length∧l.getD n Of=b|none=>s=(-1,false))∧(l.drop j).foldl (Uu r p (Dl p l)) a=Pl r p l) ?_ ?_ 0 (-1,false) (Vq _) ⟨none,rfl,rfl⟩
  ·rintro⟨s1,s2⟩ ⟨a,hs,h⟩
   rw[Wa]at h
   simp (disch:=omega) only [C7,dF]
   refine H7b ⟨s1,rfl,?_⟩
   rw[← h]
   cases a with
   |none=>exact(Prod.mk.inj hs).1
   |some bf=>exact hs.2
  ·rintro j ⟨s1,s2⟩ hj ⟨a,hs,h⟩ next
   rw[Ah (d:=Of) hj,Za]at h
   have hd:=A4 (d:=Of) hj
   obtain⟨d,ed⟩:∃ d:Dev,l.getD j Of=d:=⟨_,rfl⟩
   rw[ed]at h hd
   have e0:l.getD j ((0:Int),((0:Int),(0:Int)))=d:=ed
   obtain⟨_,_,w0,w1⟩:=O5.1 (hdv _ hd)
   have l1:=P9 hr d.1
   simp (disch:=omega) only [C7,dT,Vb,w64,e0]
   refine Hib (Axa l (by omega)) ?_
   refine Hab hl (Hib (Ut p d.1 (by omega)) ?_)
   unfold Uu at h
   cases hp':Oq p d.1 with
   |true=>
    rw[hp']at h
    exact Hab rfl (next _ ⟨a,hs,h⟩)
   |false=>
    rw[hp',cond_false]at h
    refine H9b rfl (Hib (Ut (Dl p l) d.2.1 (by omega)) ?_)
    have take:∀ {z:Bool},(l.drop (j+1)).foldl (Uu r p (Dl p l)) (some (d,z))=Pl r p l→Tot (λ k=>C7 k l (Dl p l) (j:Int) z ((j:Int)+1) r p) (λ x=>∃ i:Int,x=(l,i)∧match Pl r p l with|some b=>∃ n:Nat,i=(n:Int)∧n<l.length∧l.getD n Of=b.1|none=>i = -1):=λ {z} h2=>next ((j:Int),z) ⟨some (d,z),⟨rfl,j,rfl,hj,ed⟩,h2⟩
    cases a with
    |none=>
     obtain⟨rfl,rfl⟩:=Prod.mk.inj hs
     exact Hbb (by decide) (take h)
    |some bf=>
     obtain⟨b,fr⟩:=bf
     obtain⟨e1,n,e2,hn,e3⟩:=hs
     dsimp only at e1 e2
     subst e1 e2
     have hb:=A4 (d:=Of) hn
     rw[e3]at hb
     obtain⟨⟨i0,_⟩,_,v0,v1⟩:=O5.1 (hdv _ hb)
     have l2:=P9 hr b.1
     have m1:=Fzb (a:=Jt r d.1+1) (w:=b.2.2) (by omega) (by omega) (by omega) v1
     have m2:=Fzb (a:=Jt r b.1+1) (w:=d.2.2) (by omega) (by omega) (by omega) w1
     have stay:(l.drop (j+1)).foldl (Uu r p (Dl p l)) (some (b,s2))=Pl r p l→Tot (λ k=>C7 k l (Dl p l) (n:Int) s2 ((j:Int)+1) r p) (λ x=>∃ i:Int,x=(l,i)∧match Pl r p l with|some b=>∃ n:Nat,i=(n:Int)∧n<l.length∧l.getD n Of=b.1|none=>i = -1):=λ h2=>next ((n:Int),s2) ⟨some (b,s2),⟨rfl,n,rfl,hn,e3⟩,h2⟩
     refine Hcb (by omega) ?_
     have e4:l.getD n ((0:Int),((0:Int),(0:Int)))=b:=e3
     dsimp only at h
     have cmp:∀ {z:Bool},Oq (Dl p l) d.2.1=z→((!z)==s2)=true→(!z&&!s2)=false→Tot (λ k=>(Dj k r d.1).bind λ r5=>cond (decide ((0:Int)≤(n:Int))) (cond (decide ((n:Int)<(length l:Int))) (cond (decide ((0:Int)≤(n:Int))) (cond (decide ((n:Int)<(length l:Int))) ((Dj k r (getD l (toNat (n:Int)) ((0:Int),((0:Int),(0:Int)))).1).bind λ r8=>cond (decide ((wrap .i64 ((wrap .i64 (r5+1))*(getD l (toNat (n:Int)) ((0:Int),((0:Int),(0:Int)))).2.2))<(wrap .i64 ((wrap .i64 (r8+1))*d.2.2)))) (C7 k l (Dl p l) (j:Int) s2 ((j:Int)+1) r p) (C7 k l (Dl p l) (n:Int) s2 ((j:Int)+1) r p)) none) none) none) none) (λ x=>∃ i:Int,x=(l,i)∧match Pl r p l with|some b=>∃ n:Nat,i=(n:Int)∧n<l.length∧l.getD n Of=b.1|none=>i = -1):=by
      intro z hz e1 e2
      rw[hz,e1,e2,Hsb,Vz]at h
      refine Hib (Aya r d.1 hr) ?_
      refine Hbb (by omega) (Hbb (by omega) (Hbb (by omega) (Hbb (by omega) ?_)))
      rw[Vb,e4]
      refine Hib (Aya r b.1 hr) ?_
      rw[w64 (n:=Jt r d.1+1) (by omega) (by omega),w64 (n:=Jt r b.1+1) (by omega) (by omega),w64 m1.1 m1.2,w64 m2.1 m2.2]
      refine Hdb (λ hc=>?_) (λ hc=>?_)
      ·rw[hc,cond_true]at h
       rw[show s2 = !z by rw[← eq_of_beq e1]]
       exact take h
      ·rw[hc]at h;exact stay h
     cases hz:Oq (Dl p l) d.2.1 with
     |false=>
      have cm:=cmp hz
      rw[hz]at h
      cases s2 with
      |false=>exact Hab rfl (Hab rfl (take h))
      |true=>exact Hab rfl (H9b rfl (Hab rfl (cm rfl rfl)))
     |true=>
      have cm:=cmp hz
      rw[hz]at h
      cases s2 with
      |false=>exact H9b rfl (Hab rfl (cm rfl rfl))
      |true=>exact H9b rfl (H9b rfl (stay h))
 ·rintro x ⟨i,rfl,hi⟩
  unfold Y5
  cases hb:Pl r p l with
  |none=>
   rw[hb]at hi
   subst hi
   exact Hbb (show (-1:Int)<0 by decide) (H7b rfl)
  |some b=>
   rw[hb]at hi
   obtain⟨n,rfl,hn,e⟩:=hi
   dsimp only
   refine Hcb (by omega) (Hbb (by omega) (Hbb (by omega) (H7b ?_)))
   rw[Vb,show l.getD n ((0:Int),((0:Int),(0:Int)))=b.1 from e]

def V2a {l:List Dev} (h:Ms l=true) {d:Dev} (hd:d∈l):Ki l d.1=some d:=by
 have hp:=(Dc.1 h).1
 clear h
 induction l with
 |nil=>cases hd
 |cons x l ih=>
  obtain⟨h1,h2⟩:=Wh.1 hp
  unfold Ki
  rw[Kfb]
  rcases Vm.1 hd with rfl|hd
  ·rw[beq_self_eq_true]
  ·have:=h1 d hd
   rw[show (x.1==d.1)=false from beq_eq_false_iff_ne.2 (by omega)]
   exact ih hd h2
def Aob:∀ (p:List Int) (l:List Dev),l.Pairwise (λ a b=>a.1<b.1)→p.length<l.length→∃ d∈l,d.1∉p
 |p,[],_,h=>by simp at h
 |p,d::l,hl,h=>by
  obtain⟨h1,h2⟩:=Wh.1 hl
  by_cases hd:d.1∈p
  ·have hlen:(p.erase d.1).length=p.length-1:=Irb hd
   have hpos:=Ifb hd
   rw[Vc]at h
   obtain⟨x,hx,hn⟩:=Aob (p.erase d.1) l h2 (by omega)
   refine⟨x,Vj _ hx,λ c=>hn ?_⟩
   have:=h1 x hx
   exact(Jgb (by omega)).2 c
  ·exact⟨d,Yk,hd⟩
def Qka (l:List Dev) (n:Nat) (p:List Int):Prop:=p.Nodup∧p.length=n∧∀ id∈p,∃ d,Ki l id=some d
def V3a {r:Rng} {l:List Dev} {n:Nat} {p:List Int} (hl:Ms l=true) (h:Qka l n p) (hn:n<l.length):Qka l (n+1) (p++[Y5 r p l]):=by
 obtain⟨h1,h2,h3⟩:=h
 obtain⟨d,hd,e,hne⟩:=Yoa (r:=r) (Aob p l (Dc.1 hl).1 (by omega))
 rw[e]
 refine⟨?_,by rw[Vd];simp[h2],λ id hid=>?_⟩
 ·rw[Ym]
  exact⟨h1,by simp,λ a ha b hb c=>by rw[Vu.1 hb]at c;subst c;exact hne ha⟩
 ·rcases Vp.1 hid with hid|hid
  ·exact h3 id hid
  ·rw[Vu.1 hid];exact⟨d,V2a hl hd⟩
def J8a (l:List Dev) (reps:Int) (ps:List (List Int)):Nat→List Int→List Int
 |0,p=>p
 |n+1,p=>J8a l reps ps n (p++[Y5 (reps,ps++[p]) p l])
def R7a (l:List Dev) (reps:Int):Nat→List (List Int)→List (List Int)
 |0,ps=>ps
 |n+1,ps=>R7a l reps n (ps++[J8a l reps ps reps.toNat []])
def build (l:List Dev) (parts reps:Int):Rng×Bool:=bif Ms l&&(inR parts 1 64&&(inR reps 1 5&&!(decide (reps > (l.length:Int))))) then ((reps,R7a l reps parts.toNat []),true) else ((0,[]),false)
def Ona {l:List Dev} {reps:Int} {ps:List (List Int)} (hl:Ms l=true):∀ (n m:Nat) (p:List Int),Qka l m p→m+n≤l.length→Qka l (m+n) (J8a l reps ps n p)
 |0,_,_,h,_=>h
 |n+1,m,p,h,hm=>by
  have:=Ona (reps:=reps) (ps:=ps) hl n (m+1) _ (V3a (r:=(reps,ps++[p])) hl h (by omega)) (by omega)
  rwa [show m+1+n=m+(n+1) by omega]at this
def V4a {l:List Dev} {reps:Int} (hl:Ms l=true) (hr:reps≤(l.length:Int)):∀ (n:Nat) (ps:List (List Int)),(∀ p∈ps,Qka l reps.toNat p)→(R7a l reps n ps).length=ps.length+n∧∀ p∈R7a l reps n ps,Qka l reps.toNat p
 |0,ps,h=>⟨rfl,h⟩
 |n+1,ps,h=>by
  have hf:=Ona (reps:=reps) (ps:=ps) hl reps.toNat 0 [] ⟨List.nodup_nil,rfl,λ _ h=>by cases h⟩ (by omega)
  rw[Wk]at hf
  obtain⟨h1,h2⟩:=V4a hl hr n (ps++[J8a l reps ps reps.toNat []]) (λ p hp=>by
   rcases Vp.1 hp with hp|hp
   ·exact h p hp
   ·rw[Vu.1 hp];exact hf)
  refine⟨?_,h2⟩
  show (R7a l reps n _).length=_
  rw[h1,Vd]
  simp only[Vc,Vg]
  omega
def Ooa {l:List Dev} {parts reps:Int} (h:(build l parts reps).2=true):Ms l=true∧Hk (build l parts reps).1 l=true∧(build l parts reps).1.1=reps∧((build l parts reps).1.2.length:Int)=parts:=by
 unfold build at h ⊢
 cases hc:Ms l&&(inR parts 1 64&&(inR reps 1 5&&!(decide (reps > (l.length:Int)))))
 ·rw[hc]at h;cases h
 rw[Va,Va,Va,Vw,decide_eq_false_iff_not,Cc,Cc]at hc
 obtain⟨h1,h2,h3,h4⟩:=hc
 obtain⟨b1,b2⟩:=V4a (reps:=reps) h1 (by omega) parts.toNat [] (λ p hp=>by cases hp)
 rw[Vg,Wk]at b1
 have b1':((R7a l reps parts.toNat []).length:Int)=parts:=by rw[b1];omega
 refine⟨h1,B5.2 ⟨h1,h3,⟨by show 1≤(R7a l reps parts.toNat []).length;omega,by show (R7a l reps parts.toNat []).length≤64;omega⟩,λ p hp=>?_⟩,rfl,b1'⟩
 obtain⟨c1,c2,c3⟩:=b2 p hp
 exact⟨c1,by rw[c2];show ((reps.toNat:Nat):Int)=reps;omega,c3⟩
def J9a {l:List Dev} {reps:Int} {ps:List (List Int)}:∀ (n:Nat) (p:List Int),(J8a l reps ps n p).length=p.length+n
 |0,_=>rfl
 |n+1,p=>by
  show (J8a l reps ps n _).length=_
  rw[J9a n,Vd]
  simp only[Vc,Vg]
  omega
def V5a {α:Type} (l:List α) (x d:α):(l++[x]).getD l.length d=x:=by
 rw[Ve,Ye (Vv _),Iab]
 rfl
def Yqa {α:Type} (l:List α) (x y:α):(l++[x]).set l.length y=l++[y]:=by
 rw[Kgb _ _ (Vv _),Iab]
 rfl
def Jaa (l:List Dev) (parts reps:Int) (z:Rng) (hl:Ms l=true) (h0:0≤reps) (h5:reps≤5) (ps:List (List Int)) (hps:ps.length≤100) (hq:∀ q∈ps,q.length≤100):∀ (n:Nat) (p:List Int),p.length+n=reps.toNat→
  Tot (λ k=>Jf k l parts reps (ps.length:Int) (p.length:Int) z (reps,ps++[p])) (λ x=>x=(l,parts,reps,(ps.length:Int),z,(reps,ps++[J8a l reps ps n p]))):=by
 intro n
 induction n with
 |zero=>
  intro p hp
  refine Tot.succ ?_
  simp (disch:=omega) only [Jf,dF]
  exact H7b rfl
 |succ n ih=>
  intro p hp
  refine Tot.succ ?_
  have hrb:RBd (reps,ps++[p]):=⟨by simp only[Vd,Vc,Vg];omega,λ q hq'=>by
   rcases Vp.1 hq' with h|h
   ·have:=hq q h;omega
   ·rw[Vu.1 h];omega⟩
  have hlen:(ps++[p]).length=ps.length+1:=by simp
  simp (disch:=omega) only [Jf,dT,Vb,w64,hlen,V5a,Yqa]
  refine Hib (Oma (reps,ps++[p]) p l hrb (by omega) hl) ?_
  refine Hab (decide_eq_true trivial) (Hfb (by simp only[Vc,Vg];omega) (Hab (decide_eq_true trivial) ?_))
  have:=ih (p++[Y5 (reps,ps++[p]) p l]) (by simp only[Vd,Vc,Vg];omega)
  rw[show (((p++[Y5 (reps,ps++[p]) p l]).length:Nat):Int)=(p.length:Int)+1 by simp]at this
  exact this
def V6a (l:List Dev) (parts reps:Int) (hll:l.length≤5000000):Tot (λ k=>Hx k l parts reps) (λ x=>x=build l parts reps):=by
 unfold Hx build
 refine Hib (Axa l (by omega)) ?_
 cases hl:Ms l
 ·exact Hab rfl (H7b rfl)
 simp only[Yv,cond_false,Pe,Vl,Vz]
 cases hp:inR parts 1 64
 ·exact Hab rfl (H7b rfl)
 refine H9b rfl ?_
 cases hr:inR reps 1 5
 ·exact Hab rfl (H7b rfl)
 obtain⟨r1,r2⟩:=Cc.1 hr
 obtain⟨p1,p2⟩:=Cc.1 hp
 refine H9b rfl ?_
 cases hc:decide (reps > (l.length:Int))
 case true=>exact Hab rfl (H7b rfl)
 refine H9b rfl (H8b (Q:=λ x=>x=(((0:Int),([]:List (List Int))),(reps,R7a l reps parts.toNat []))) ?_ (by rintro x rfl;exact H7b rfl))
 obtain⟨n,rfl⟩:∃ n:Nat,parts=(n:Int):=⟨parts.toNat,by omega⟩
 refine Hgb (L:=λ k i (s:Rng)=>Jg k l (n:Int) reps i (0,[]) s) (Q:=λ x=>x=(((0:Int),([]:List (List Int))),(reps,R7a l reps n []))) n (λ j s=>∃ ps,s=(reps,ps)∧ps.length=j∧(∀ q∈ps,q.length≤100)∧R7a l reps (n-j) ps=R7a l reps n []) ?_ ?_ 0 (reps,[]) (Vq _) ⟨[],rfl,rfl,λ q h=>(by cases h),rfl⟩
 ·rintro s ⟨ps,rfl,hps,_,h⟩
  rw[Iab]at h
  simp (disch:=omega) only [Jg,dF]
  exact H7b (by rw[← h];rfl)
 ·rintro j s hj ⟨ps,rfl,hps,hq,h⟩ next
  simp (disch:=omega) only [Jg,dT]
  refine Hfb (by simp only[Vc,Vg];omega) ?_
  have h9:=Jaa l (n:Int) reps (0,[]) hl (by omega) r2 ps (by omega) hq reps.toNat [] (by simp)
  rw[hps]at h9
  refine H8b h9 ?_
  rintro x rfl
  simp (disch:=omega) only [w64]
  refine next _ ⟨ps++[J8a l reps ps reps.toNat []],rfl,by rw[Vd,hps];rfl,λ q hq'=>?_,?_⟩
  ·rcases Vp.1 hq' with h'|h'
   ·exact hq q h'
   ·rw[Vu.1 h',J9a,Vg];omega
  ·rw[show n-j=(n-(j+1))+1 by omega]at h
   exact h

end Go.Proofs.YtmhhjceoinoekaaGreat.Vf
