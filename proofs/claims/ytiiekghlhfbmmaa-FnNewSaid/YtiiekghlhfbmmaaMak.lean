import Derived.Test.YtiiekghlhfbmmaaMaj
set_option linter.all false
namespace Go.Proofs.Ytiiekghlhfbmmaa.Vf
open Go
open List (length getD)
open Int (toNat)
open Go.IntKind (wrap)
open BitVec (ofInt)
def Wl:=@List.drop_length
def Zb:=@Bool.not_true
def Zk:=@Bool.not_false
def Zr:=@List.takeWhile_cons
def Y5a:=@Bool.false_or
def Y7a:=@List.filter_cons
def Yfa:=@Int.fdiv_eq_ediv_of_nonneg
def Yja:=@Nat.pow_succ
def Yka:=@List.findIdx?_eq_some_iff_getElem
def Ysa:=@List.takeWhile_append_dropWhile
def Yza:=@List.mem_filter
def Z7a:=@Option.bind_none
def Zaa:=@List.dropWhile_cons
def Zga:=@IntKind.wrap_u8
def Zha:=@Bool.eq_iff_iff
def Zsa:=@Bool.true_or
def Zua:=@List.not_mem_nil
def A5b:=@List.filter_sublist
def Agb:=@Go.IntWalk.u32_in
def Apb:=@BitVec.xor_comm
def Aqb:=@BitVec.eq_of_toNat_eq

def W9:Nat→Nat→List Int
 |0,n=>[(n:Int)]
 |f+1,n=>if n≤127 then [(n:Int)] else ((n % 128+128:Nat):Int)::W9 f (n/128)
def Ke (n:Nat):List Int:=W9 4 n
def Qk:Nat→Nat→Nat→List Int→Option (Nat×Nat)
 |0,_,_,_=>none
 |_+1,_,_,[]=>none
 |f+1,k,acc,x::l=>if 128≤x then Qk f (k+1) (acc+x.toNat % 128*128 ^ k) l
  else if (x=0∧0<k)∨1000000000<acc+x.toNat % 128*128 ^ k then none else some (acc+x.toNat % 128*128 ^ k,k+1)
def U1 (l:List Int) (p:Nat):Option (Nat×Nat):=match Qk 5 0 0 (l.drop p) with
 |some (n,c)=>some (n,p+c)
 |none=>none
def Kka:∀ (f n:Nat),(W9 f n).length≤f+1∧0<(W9 f n).length
 |0,n=>by simp[W9]
 |f+1,n=>by
  unfold W9
  split
  ·simp
  ·have:=Kka f (n/128)
   simp only[Vh]
   omega
def N7:∀ (f k acc:Nat) (l:List Int) (n c:Nat),Al l→Qk f k acc l=some (n,c)→acc<128 ^ k→k<c∧c≤k+f∧c-k≤l.length∧n≤1000000000
 |0,_,_,_,_,_,_,h,_=>by simp[Qk]at h
 |_+1,_,_,[],_,_,_,h,_=>by simp[Qk]at h
 |f+1,k,acc,x::l,n,c,hb,h,ha=>by
  have hx:=hb x (by simp)
  unfold Qk at h
  split at h
  ·have h1:acc+x.toNat % 128*128 ^ k<128 ^ (k+1):=by
    have h2:x.toNat % 128≤127:=by omega
    have h3:=Wj (128 ^ k) h2
    rw[Yja]
    omega
   have:=N7 f (k+1) _ l n c (λ y hy=>hb y (Vd _ hy)) h h1
   simp only[Vh]
   omega
  ·split at h
   ·cases h
   ·simp only[Vc,Vy]at h
    obtain⟨rfl,rfl⟩:=h
    simp only[Vh]
    omega
def Kla:∀ (f k acc:Nat) (l:List Int) (n c:Nat),Al l→Qk (f+1) k acc l=some (n,c)→acc<128 ^ k→∃ m,n=acc+m*128 ^ k∧l=W9 f m++l.drop (c-k)∧(m=0→c=k+1∧(0<k→False))∧m<128 ^ (f+1)
 |0,k,acc,[],n,c,hb,h,ha=>by simp[Qk]at h
 |_+1,k,acc,[],n,c,hb,h,ha=>by simp[Qk]at h
 |0,k,acc,x::l,n,c,hb,h,ha=>by
  have hx:=hb x (by simp)
  unfold Qk at h
  split at h
  ·simp[Qk]at h
  ·rename_i h128
   split at h
   ·cases h
   ·rename_i hz
    simp only[Vc,Vy]at h
    obtain⟨rfl,rfl⟩:=h
    have hm:x.toNat % 128=x.toNat:=Yha (by omega)
    refine⟨x.toNat,by rw[hm],?_,λ h0=>⟨rfl,λ hk=>hz (.inl ⟨by omega,hk⟩)⟩,by omega⟩
    rw[show k+1-k=1 by omega]
    show x::l=[((x.toNat:Nat):Int)]++l
    rw[show ((x.toNat:Nat):Int)=x by omega]
    rfl
 |f+1,k,acc,x::l,n,c,hb,h,ha=>by
  have hx:=hb x (by simp)
  have hb':Al l:=λ y hy=>hb y (Vd _ hy)
  unfold Qk at h
  split at h
  ·rename_i h128
   have h1:acc+x.toNat % 128*128 ^ k<128 ^ (k+1):=by
    have h2:x.toNat % 128≤127:=by omega
    have h3:=Wj (128 ^ k) h2
    rw[Yja]
    omega
   obtain⟨m,e1,e2,e3,e4⟩:=Kla f (k+1) _ l n c hb' h h1
   have hbd:=N7 (f+1) (k+1) _ l n c hb' h h1
   have hm0:m≠0:=λ h0=>(e3 h0).2 (by omega)
   refine⟨x.toNat % 128+m*128,?_,?_,λ h0=>by omega,?_⟩
   ·rw[e1,Yja,Yu]
    have:m*128*128 ^ k=m*(128 ^ k*128):=by rw[Nat.mul_assoc,Nat.mul_comm 128]
    omega
   ·unfold W9
    rw[if_neg (by omega),show (x.toNat % 128+m*128)/128=m by omega,show (x.toNat % 128+m*128) % 128=x.toNat % 128 by omega,show c-k=(c-(k+1))+1 by omega,List.drop_succ_cons,List.cons_append,← e2]
    congr 1
    omega
   ·rw[Yja]
    omega
  ·rename_i h128
   split at h
   ·cases h
   ·rename_i hz
    simp only[Vc,Vy]at h
    obtain⟨rfl,rfl⟩:=h
    have hm:x.toNat % 128=x.toNat:=Yha (by omega)
    have hp:128≤128 ^ (f+1+1):=by
     have:=Nat.pow_le_pow_right (show 0<128 by decide) (show 1≤f+1+1 by omega)
     simpa using this
    refine⟨x.toNat,by rw[hm],?_,λ h0=>⟨rfl,λ hk=>hz (.inl ⟨by omega,hk⟩)⟩,by omega⟩
    rw[show k+1-k=1 by omega]
    unfold W9
    rw[if_pos (by omega)]
    show x::l=[((x.toNat:Nat):Int)]++l
    rw[show ((x.toNat:Nat):Int)=x by omega]
    rfl
def Kma:∀ (f k acc m:Nat) (rest:List Int),m<128 ^ (f+1)→(0<k→0<m)→acc+m*128 ^ k≤1000000000→Qk (f+1) k acc (W9 f m++rest)=some (acc+m*128 ^ k,k+(W9 f m).length)
 |0,k,acc,m,rest,hm,hk,hn=>by
  show Qk 1 k acc ((m:Int)::rest)=_
  unfold Qk
  have h1:m<128:=by simpa using hm
  rw[if_neg (by omega),if_neg (by
   rw[show (m:Int).toNat % 128=m by rw[Vl];exact Yha h1]
   omega)]
  rw[show (m:Int).toNat % 128=m by rw[Vl];exact Yha h1]
  rfl
 |f+1,k,acc,m,rest,hm,hk,hn=>by
  unfold W9
  by_cases h:m≤127
  ·rw[if_pos h]
   show Qk (f+2) k acc ((m:Int)::rest)=_
   unfold Qk
   rw[if_neg (by omega),if_neg (by
    rw[show (m:Int).toNat % 128=m by rw[Vl];exact Yha (by omega)]
    omega)]
   rw[show (m:Int).toNat % 128=m by rw[Vl];exact Yha (by omega)]
   rfl
  ·rw[if_neg h]
   show Qk (f+2) k acc (((m % 128+128:Nat):Int)::(W9 f (m/128)++rest))=_
   unfold Qk
   have e1:(((m % 128+128:Nat):Int)).toNat % 128=m % 128:=by rw[Vl];omega
   rw[if_pos (by omega),e1]
   have hmod:m=m % 128+m/128*128:=by omega
   have hm2:m/128<128 ^ (f+1):=by rw[Yja]at hm;omega
   have e2:acc+m % 128*128 ^ k+m/128*128 ^ (k+1)=acc+m*128 ^ k:=by
    have h2:m*128 ^ k=(m % 128+m/128*128)*128 ^ k:=by rw[← hmod]
    rw[h2,Yu,Yja]
    have:m/128*128*128 ^ k=m/128*(128 ^ k*128):=by rw[Nat.mul_assoc,Nat.mul_comm 128]
    omega
   rw[Kma f (k+1) (acc+m % 128*128 ^ k) (m/128) rest hm2 (λ _=>by omega) (by rw[e2];exact hn),e2,Vh]
   simp only[Vc,Vy,true_and]
   omega
def Eya (pre:List Int) (n:Nat) (rest:List Int) (hn:n≤1000000000):U1 (pre++(Ke n++rest)) pre.length=some (n,pre.length+(Ke n).length):=by
 unfold U1
 rw[Zj]
 have:=Kma 4 0 0 n rest (by omega) (by omega) (by omega)
 unfold Ke
 rw[this]
 simp
def Cta {l:List Int} {p n q:Nat} (hb:Al l) (h:U1 l p=some (n,q)):l.drop p=Ke n++l.drop q∧n≤1000000000∧p<q∧q≤l.length:=by
 unfold U1 at h
 split at h
 ·rename_i m c hd
  simp only[Vc,Vy]at h
  obtain⟨rfl,rfl⟩:=h
  have hb':Al (l.drop p):=λ y hy=>hb y (Zn hy)
  have hbd:=N7 5 0 0 _ _ _ hb' hd (by decide)
  obtain⟨m',e1,e2,_,_⟩:=Kla 4 0 0 _ _ _ hb' hd (by decide)
  have e3:m=m':=by rw[e1];simp
  subst e3
  rw[Wi]at hbd
  refine⟨?_,hbd.2.2.2,by omega,by omega⟩
  rw[Zda,Yi]at e2
  exact e2
 ·cases h
def Xja (i:Nat) (hi:i<5):(2:Int) ^ (min (toNat (wrap .i64 (7*(i:Int)))) (IntKind.bits .i64))=((128 ^ i:Nat):Int):=by
 have:i=0∨i=1∨i=2∨i=3∨i=4:=by omega
 rcases this with rfl|rfl|rfl|rfl|rfl<;>decide
def sh7 (i:Nat) (hi:i<5):¬ (wrap .i64 (7*(i:Int))<0)∧¬ (wrap .u64 (wrap .i64 (7*(i:Int)))<0):=by
 have:i=0∨i=1∨i=2∨i=3∨i=4:=by omega
 rcases this with rfl|rfl|rfl|rfl|rfl<;>decide
def Rr (i:Nat) (hi:i≤5):128 ^ i≤34359738368:=by
 have:=Nat.pow_le_pow_right (show 0<128 by decide) hi
 simpa using this
def Q9a (l:List Int) (p:Int):Int×Int×Bool:=if p<0 then (0,0,false) else match U1 l p.toNat with
 |some (n,q)=>((n:Int),(q:Int),true)
 |none=>(0,0,false)
def Xaa (p:Nat):Option (Nat×Nat)→Int×Int×Bool
 |some (n,c)=>((n:Int),((p+c:Nat):Int),true)
 |none=>(0,0,false)
def Kna (r:Sum (Int×Int×Bool) Unit):Int×Int×Bool:=Sum.elim (λ y=>y) (λ _=>(0,0,false)) r
def Koa {l:List Int} {p:Nat} (h:p<l.length):l.drop p=l.getD p 0::l.drop (p+1):=B8 h
def Gsa (l:List Int) (hb:Al l) (hl:l.length≤1000000000000) (p:Nat) (hp:p≤1000000000000):∀ (f i acc:Nat),f+i=5→acc<128 ^ i→
  Tot (λ k=>Cs k l (p:Int) (acc:Int) (i:Int)) (λ r=>Kna r=Xaa p (Qk f i acc (l.drop (p+i)))):=by
 intro f
 induction f with
 |zero=>
  intro i acc hi ha
  refine Tot.succ ?_
  simp only[Cs]
  exact Xta (by omega) (Xoa rfl)
 |succ f ih=>
  intro i acc hi ha
  have hi5:i<5:=by omega
  refine Tot.succ ?_
  simp only[Cs]
  refine Xsa (by omega) (Xsa (by omega) ?_)
  rw[w64 (n:=(l.length:Int)-(i:Int)) (by omega) (by omega),w64 (n:=(p:Int)+(i:Int)) (by omega) (by omega),show toNat ((p:Int)+(i:Int))=p+i by omega]
  refine Xva (λ h=>?_) (λ h=>?_)
  ·have hlt:p+i<l.length:=by omega
   refine Xsa (by omega) (Xsa (by omega) ?_)
   have hx:=hb (l.getD (p+i) 0) (A3 hlt)
   rw[Koa hlt,Xja i hi5]
   have he:Qk (f+1) i acc (l.getD (p+i) 0::l.drop (p+i+1))=if 128≤l.getD (p+i) 0 then Qk f (i+1) (acc+(l.getD (p+i) 0).toNat % 128*128 ^ i) (l.drop (p+i+1)) else if (l.getD (p+i) 0=0∧0<i)∨1000000000<acc+(l.getD (p+i) 0).toNat % 128*128 ^ i then none else some (acc+(l.getD (p+i) 0).toNat % 128*128 ^ i,i+1):=rfl
   rw[he]
   generalize l.getD (p+i) 0=x at hx ⊢
   obtain⟨v,rfl⟩:∃ v:Nat,x=(v:Int):=⟨x.toNat,by omega⟩
   rw[Vl]
   have hp1:=Rr i (by omega)
   have hmul:v % 128*128 ^ i≤127*34359738368:=Nat.mul_le_mul (by omega) hp1
   rw[w64 (n:=(v:Int)) (by omega) (by omega)]
   have e1:Int.tmod (v:Int) 128*((128 ^ i:Nat):Int)=((v % 128*128 ^ i:Nat):Int):=by
    rw[Yea (by omega)]
    push_cast
    rfl
   rw[e1,w64 (n:=((v % 128*128 ^ i:Nat):Int)) (by omega) (by omega),← Int.natCast_add,w64 (n:=((acc+v % 128*128 ^ i:Nat):Int)) (by omega) (by omega),w64 (n:=(i:Int)+1) (by omega) (by omega),w64 (n:=(p:Int)+(i:Int)+1) (by omega) (by omega)]
   refine Xta (sh7 i hi5).1 ?_
   refine Xva (λ h128=>?_) (λ h128=>?_)
   ·rw[if_pos (by omega)]
    have h1:acc+v % 128*128 ^ i<128 ^ (i+1):=by
     have h2:v % 128≤127:=by omega
     have h3:=Wj (128 ^ i) h2
     rw[Yja]
     omega
    have:=ih (i+1) (acc+v % 128*128 ^ i) (by omega) h1
    rw[show p+(i+1)=p+i+1 by omega]at this
    exact this
   ·rw[if_neg (by omega)]
    have big:Tot (λ _:Nat=>cond (decide (((acc+v % 128*128 ^ i:Nat):Int) > 1000000000)) (some (Sum.inl ((0:Int),(0:Int),false))) (some (Sum.inl (((acc+v % 128*128 ^ i:Nat):Int),(p:Int)+(i:Int)+1,true))):Nat→Option (Sum (Int×Int×Bool) Unit))
      (λ r=>Kna r=if 1000000000<acc+v % 128*128 ^ i then (0,0,false) else (((acc+v % 128*128 ^ i:Nat):Int),((p+(i+1):Nat):Int),true)):=by
     refine Xva (λ hbig=>?_) (λ hbig=>?_)
     ·rw[if_pos (by omega)];exact Xoa rfl
     ·rw[if_neg (by omega)]
      refine Xoa ?_
      show (_,_,_)=_
      rw[show (p:Int)+(i:Int)+1=((p+(i+1):Nat):Int) by omega]
    have goal:∀ c:Prop,[Decidable c]→(if c∨1000000000<acc+v % 128*128 ^ i then none else some (acc+v % 128*128 ^ i,i+1))=if c then none else if 1000000000<acc+v % 128*128 ^ i then (none:Option (Nat×Nat)) else some (acc+v % 128*128 ^ i,i+1):=by
     intro c _
     by_cases h1:c<;>by_cases h2:1000000000<acc+v % 128*128 ^ i<;>simp[h1,h2]
    rw[goal]
    have fin:(Xaa p (if 1000000000<acc+v % 128*128 ^ i then (none:Option (Nat×Nat)) else some (acc+v % 128*128 ^ i,i+1)))=if 1000000000<acc+v % 128*128 ^ i then (0,0,false) else (((acc+v % 128*128 ^ i:Nat):Int),((p+(i+1):Nat):Int),true):=by
     split<;>rfl
    refine Xua (λ h0=>?_) (λ h0=>?_)
    ·have hv:v=0:=by
      have:=beq_iff_eq.1 h0
      omega
     refine Xva (λ hi0=>?_) (λ hi0=>?_)
     ·rw[if_pos ⟨by omega,by omega⟩];exact Xoa rfl
     ·rw[if_neg (by omega),fin];exact big
    ·have hv:v≠0:=by
      intro e
      subst e
      simp at h0
     rw[if_neg (by omega),fin];exact big
  ·refine Xoa ?_
   rw[Zw (by omega)]
   rfl
def Kpa (l:List Int) (hb:Al l) (hl:l.length≤1000000000000) (p:Int) (hp:p≤1000000000000):Tot (λ k=>Dt k l p) (λ r=>r=Q9a l p):=by
 unfold Dt Q9a
 by_cases h0:p<0
 ·rw[if_pos h0]
  refine Xpa (Q:=λ r=>r = .inr ()) ?_ ?_
  ·refine Tot.succ ?_
   simp only[Cs]
   exact Xsa (by omega) (Xta (by omega) (Xoa rfl))
  ·rintro r rfl
   exact Xoa rfl
 ·rw[if_neg h0]
  obtain⟨n,rfl⟩:∃ n:Nat,p=(n:Int):=⟨p.toNat,by omega⟩
  rw[Vl]
  refine Xpa (Gsa l hb hl n (by omega) 5 0 0 rfl (by decide)) ?_
  intro r hr
  unfold U1
  rw[Zv]at hr
  have hr':Kna r=(match (match Qk 5 0 0 (l.drop n) with|some (m,c)=>some (m,n+c)|none=>none) with|some (m,q)=>((m:Int),(q:Int),true)|none=>((0:Int),(0:Int),false)):=by
   rw[hr]
   cases Qk 5 0 0 (l.drop n) with
   |none=>rfl
   |some mc=>rfl
  rw[← hr']
  cases r with
  |inl y=>exact Xoa rfl
  |inr z=>exact Xoa rfl

def Bj (n:Int):Nat:=(max 0 (min n 1000000000)).toNat
def Jz (n:Int):Bj n≤1000000000:=by unfold Bj;omega
def Rs {n:Int} (h0:0≤n) (h1:n≤1000000000):(Bj n:Int)=n:=by unfold Bj;omega
def Qaa (n:Nat) (h:n≤255):wrap .u8 (n:Int)=(n:Int):=by
 rw[Zga]
 omega
def Gta:∀ (f n:Nat) (out:List Int),n<128 ^ (f+1)→f≤4→out.length+f≤1000000000010→
  Tot (λ k=>Dh k out (n:Int)) (λ r=>∃ m:Nat,r.2=(m:Int)∧m≤127∧r.1++[(m:Int)]=out++W9 f n∧r.1.length≤out.length+f):=by
 intro f
 induction f with
 |zero=>
  intro n out hn hf hl
  refine Tot.succ ?_
  simp only[Dh]
  have:n<128:=by simpa using hn
  exact Xta (by omega) (Xoa ⟨n,rfl,by omega,rfl,by simp⟩)
 |succ f ih=>
  intro n out hn hf hl
  have hp:=Rr (f+1+1-1) (by omega)
  refine Tot.succ ?_
  simp only[Dh]
  refine Xva (λ h=>?_) (λ h=>?_)
  ·have hn2:n/128<128 ^ (f+1):=by rw[Yja]at hn;omega
   have hn3:n<4398046511104:=by
    have:=Rr (f+1) (by omega)
    rw[Yja]at hn
    omega
   have e1:Int.tmod (n:Int) 128+128=((n % 128+128:Nat):Int):=by
    rw[Yea (by omega)]
    omega
   have e2:Int.tdiv (n:Int) 128=((n/128:Nat):Int):=by
    rw[Int.tdiv_eq_ediv_of_nonneg (by omega)]
    omega
   rw[e1,e2,w64 (n:=((n % 128+128:Nat):Int)) (by omega) (by omega),w64 (n:=((n/128:Nat):Int)) (by omega) (by omega),Qaa _ (by omega)]
   refine Xwa (by simp only[Vh,Vq];omega) ?_
   refine(ih (n/128) (out++[((n % 128+128:Nat):Int)]) hn2 (by omega) (by simp only[Vi,Vh,Vq];omega)).mono ?_
   rintro r ⟨m,h1,h2,h3,h4⟩
   refine⟨m,h1,h2,?_,by simp only[Vi,Vh,Vq]at h4;omega⟩
   rw[h3,Vo]
   congr 1
   conv => { rhs;unfold W9 }
   rw[if_neg (by omega)]
   rfl
  ·refine Xoa ⟨n,rfl,by omega,?_,by show out.length≤out.length+(f+1);omega⟩
   unfold W9
   rw[if_pos (by omega)]
def Rt (out:List Int) (n:Int) (hl:out.length≤1000000000000):Tot (λ k=>Ce k out n) (λ r=>r=out++Ke (Bj n)):=by
 unfold Ce
 have e:(if (0:Int)<(if (1000000000:Int)<n then 1000000000 else n) then (if (1000000000:Int)<n then 1000000000 else n) else 0)=((Bj n:Nat):Int):=by
  unfold Bj
  split<;>split<;>omega
 simp only
 rw[e]
 have hc:=Jz n
 refine Xpa (Gta 4 (Bj n) out (by omega) (by omega) (by omega)) ?_
 rintro r ⟨m,h1,h2,h3,h4⟩
 rw[h1,Qaa m (by omega)]
 refine Xwa (by simp only[Vh,Vq];omega) (Xoa h3)
def Ij (n:Nat):(Ke n).length≤5∧0<(Ke n).length:=Kka 4 n
def U2:∀ (f n:Nat),n<128 ^ (f+1)→Al (W9 f n)
 |0,n,hn=>by
  intro x hx
  simp only[W9,Vp]at hx
  have:n<128:=by simpa using hn
  omega
 |f+1,n,hn=>by
  unfold W9
  split
  ·intro x hx
   simp only[Vp]at hx
   omega
  ·intro x hx
   rcases Vk.1 hx with rfl|hx
   ·omega
   ·exact U2 f (n/128) (by rw[Yja]at hn;omega) x hx
def Gua (n:Nat) (hn:n≤1000000000):Al (Ke n):=U2 4 n (by omega)
def U3 (s:ByteArray):Al (bytesOf s):=by
 intro x hx
 unfold bytesOf at hx
 obtain⟨b,_,rfl⟩:=Yr.1 hx
 have:=b.toNat_lt
 omega
def Kw (s:ByteArray):(bytesOf s).length=s.size:=by
 unfold bytesOf
 rw[Wf]
 exact Yw
def Wr (s:ByteArray):Hg (bytesOf s)=s:=by
 unfold Hg bytesOf
 rw[Yxa]
 have:(λ n:Int=>UInt8.ofNat n.toNat) ∘ (λ b:UInt8=>(b.toNat:Int))=id:=by
  funext b
  show UInt8.ofNat ((b.toNat:Int)).toNat=b
  rw[Vl]
  exact UInt8.ofNat_toNat
 rw[this,List.map_id]
def Ik {l:List Int} (h:Al l):bytesOf (Hg l)=l:=by
 unfold Hg bytesOf
 show List.map _ (List.map _ l)=l
 rw[Yxa]
 have:∀ x∈l,((λ b:UInt8=>(b.toNat:Int)) ∘ (λ n:Int=>UInt8.ofNat n.toNat)) x=x:=by
  intro x hx
  have hb:=h x hx
  show ((UInt8.ofNat x.toNat).toNat:Int)=x
  rw[UInt8.toNat_ofNat']
  omega
 exact(Yba this).trans (List.map_id' l)
def K5 (l:List Int):(Hg l).size=l.length:=by
 unfold Hg
 show (List.map _ l).toArray.size=l.length
 simp
def txt (s:ByteArray):List Int:=Ke (Bj (s.size:Int))++bytesOf s
def O5a (out:List Int) (s:ByteArray) (hl:out.length≤1000000000000) (hs:s.size≤1000000000000):Tot (λ k=>Fa k out s) (λ r=>r=out++txt s):=by
 unfold Fa txt
 refine Y0a (Rt out _ hl) ?_
 have:=(Ij (Bj (s.size:Int))).1
 refine Xwa (by simp only[Vi];omega) (Xoa ?_)
 rw[Vo]
def Hqa (l:List Int) (p:Nat):Option (ByteArray×Nat):=match U1 l p with
 |some (n,q)=>if q+n≤l.length then some (Hg ((l.drop q).take n),q+n) else none
 |none=>none
def Waa (l:List Int) (p:Int):ByteArray×Int×Bool:=if p<0 then ((⟨#[]⟩:ByteArray),0,false) else match Hqa l p.toNat with
 |some (s,q)=>(s,(q:Int),true)
 |none=>((⟨#[]⟩:ByteArray),0,false)
def Gva (l:List Int) (hb:Al l) (p:Int):Q9a l p=(0,0,false)∨∃ n q,0≤p∧U1 l p.toNat=some (n,q)∧Q9a l p=((n:Int),(q:Int),true)∧n≤1000000000∧q≤l.length:=by
 unfold Q9a
 by_cases h:p<0
 ·rw[if_pos h];exact .inl rfl
 ·rw[if_neg h]
  cases hg:U1 l p.toNat with
  |none=>exact .inl rfl
  |some nq=>
   obtain⟨n,q⟩:=nq
   have:=Cta hb hg
   exact .inr ⟨n,q,by omega,rfl,rfl,this.2.1,this.2.2.2⟩
def Eza (l:List Int) (hb:Al l) (hl:l.length≤1000000000000) (p:Int) (hp:p≤1000000000000):Tot (λ k=>F9 k l p) (λ r=>r=Waa l p):=by
 unfold F9
 refine Y0a (Kpa l hb hl p hp) ?_
 unfold Waa Hqa
 rcases Gva l hb p with h|⟨n,q,h0,hg,h,hn,hq⟩
 ·rw[h]
  refine Xra rfl (Xoa ?_)
  unfold Q9a at h
  split
  ·rfl
  ·rename_i h0
   rw[if_neg h0]at h
   cases hg:U1 l p.toNat with
   |none=>rfl
   |some nq=>rw[hg]at h;simp at h
 ·rw[h]
  refine Xqa rfl ?_
  rw[if_neg (by omega),hg]
  simp only
  rw[w64 (n:=(l.length:Int)-(q:Int)) (by omega) (by omega),w64 (n:=(q:Int)+(n:Int)) (by omega) (by omega)]
  refine Xva (λ hgt=>?_) (λ hgt=>?_)
  ·rw[if_neg (by omega)]
   exact Xoa rfl
  ·rw[if_pos (by omega)]
   refine Xsa (by omega) (Xsa (by omega) (Xsa (by omega) (Xoa ?_)))
   rw[show toNat ((q:Int)+(n:Int))=q+n by omega,Vl,Z6a,show q+n-q=n by omega]
   simp only[Vy,true_and,and_true]
   push_cast
   rfl
def Kqa {l:List Int} {p q:Nat} {s:ByteArray} (hb:Al l) (h:Hqa l p=some (s,q)):l.drop p=txt s++l.drop q∧s.size≤1000000000∧p<q∧q≤l.length:=by
 unfold Hqa at h
 split at h
 ·rename_i n q0 hg
  obtain⟨h1,h2,h3,h4⟩:=Cta hb hg
  split at h
  ·rename_i hle
   simp only[Vc,Vy]at h
   obtain⟨rfl,rfl⟩:=h
   have hlen:((l.drop q0).take n).length=n:=by rw[Vs,Wi];omega
   have hbb:Al ((l.drop q0).take n):=λ x hx=>hb x (Zn (Y8a hx))
   refine⟨?_,by rw[K5,hlen];exact h2,by omega,by omega⟩
   unfold txt
   rw[K5,hlen,Ik hbb,h1,show Bj (n:Int)=n by unfold Bj;omega,Vo]
   congr 1
   rw[← Yi,Wh]
  ·cases h
 ·cases h
def O6a (pre:List Int) (s:ByteArray) (rest:List Int) (hs:s.size≤1000000000):Hqa (pre++(txt s++rest)) pre.length=some (s,pre.length+(txt s).length):=by
 unfold Hqa txt
 have hc:Bj (s.size:Int)=s.size:=by unfold Bj;omega
 rw[hc,Vo,Eya pre s.size _ hs]
 simp only
 rw[if_pos (by simp only[Vi,Kw];omega)]
 have e:(pre++(Ke s.size++(bytesOf s++rest))).drop (pre.length+(Ke s.size).length)=bytesOf s++rest:=by
  rw[← Vo,← Vi,Zj]
 rw[e,A4b (Kw s),Wr]
 simp only[Vi,Kw,Vc,Vy,true_and]
 omega

def Cua (b:Bool):Int:=bif b then 1 else 0
def Sfa (b:Bool):I9 b=some (Cua b):=by cases b<;>rfl
def Qba (s:Stp):List Int:=Ke (Bj s.1)++(Ke (Bj s.2.1)++Ke (Bj s.2.2))
def O7a (s:Stp):(Qba s).length≤15:=by
 unfold Qba
 have h1:=(Ij (Bj s.1)).1
 have h2:=(Ij (Bj s.2.1)).1
 have h3:=(Ij (Bj s.2.2)).1
 simp only[Vi]
 omega
def Gwa (out:List Int) (s:Stp) (b:Bool) (hl:out.length≤999999999900):Tot (λ k=>Ee k out s b) (λ r=>r=out++(Qba s++Ke (Bj (Cua b)))):=by
 have h1:=(Ij (Bj s.1)).1
 have h2:=(Ij (Bj s.2.1)).1
 have h3:=(Ij (Bj s.2.2)).1
 unfold Ee Qba
 refine Y0a (Rt out s.1 (by omega)) ?_
 refine Y0a (Rt _ s.2.1 (by simp only[Vi];omega)) ?_
 refine Y0a (Rt _ s.2.2 (by simp only[Vi];omega)) ?_
 refine Y0a (Y2a (Q:=λ y=>y=Cua b) (Sfa b) rfl) ?_
 refine Y0a (Rt _ (Cua b) (by simp only[Vi];omega)) ?_
 exact Xoa (by simp only[Vo])
def Ru {s:ByteArray} (h:Cg s=true):1≤s.size∧s.size≤20:=by
 unfold Cg at h
 rw[Va,Fk]at h
 omega
def U4 {r:Row} (h:Jj r=true):Cg r.1=true:=by
 unfold Jj at h
 rw[Va]at h
 exact h.1
def Sga (s:ByteArray):(txt s).length≤5+s.size:=by
 have h1:=(Ij (Bj (s.size:Int))).1
 unfold txt
 simp only[Vi,Kw]
 omega

def O8a (l:List Int) (p:Nat):Q9a l (p:Int)=match U1 l p with
 |some (n,q)=>((n:Int),(q:Int),true)
 |none=>(0,0,false):=by
 unfold Q9a
 rw[if_neg (by omega),Vl]
 all_goals cases U1 l p<;>rfl
def O9a (l:List Int) (p:Nat):Waa l (p:Int)=match Hqa l p with
 |some (s,q)=>(s,(q:Int),true)
 |none=>((⟨#[]⟩:ByteArray),0,false):=by
 unfold Waa
 rw[if_neg (by omega),Vl]
 all_goals cases Hqa l p<;>rfl
def T2 (l:List Int) (hb:Al l) (hl:l.length≤1000000000000) (p:Nat) (hp:p≤l.length) (bad:Bool):
  Tot (λ k=>B7 k (l,(p:Int),bad)) (λ r=>(bad=false∧∃ n q:Nat,U1 l p=some (n,q)∧q≤l.length∧r=((n:Int),l,(q:Int),false))∨((bad=true∨U1 l p=none)∧r=(0,l,(p:Int),true))):=by
 unfold B7
 refine Y0a (Kpa l hb hl (p:Int) (by omega)) ?_
 refine Xua (λ h=>Xoa (.inr ⟨.inl h,rfl⟩)) (λ h=>?_)
 rw[O8a]
 cases hg:U1 l p with
 |none=>exact Xra rfl (Xoa (.inr ⟨.inr rfl,rfl⟩))
 |some nq=>
  obtain⟨n,q⟩:=nq
  simp only at h
  subst h
  exact Xqa rfl (Xoa (.inl ⟨rfl,n,q,rfl,(Cta hb hg).2.2.2,rfl⟩))
def Wpa (l:List Int) (hb:Al l) (hl:l.length≤1000000000000) (p:Nat) (hp:p≤l.length):
  Tot (λ k=>B3 k (l,(p:Int),false)) (λ r=>(∃ (s:ByteArray) (q:Nat),Hqa l p=some (s,q)∧q≤l.length∧r=(s,l,(q:Int),false))∨(Hqa l p=none∧r=((⟨#[]⟩:ByteArray),l,(p:Int),true))):=by
 unfold B3
 refine Y0a (Eza l hb hl (p:Int) (by omega)) ?_
 refine Xqa rfl ?_
 rw[O9a]
 cases hg:Hqa l p with
 |none=>exact Xra rfl (Xoa (.inr ⟨rfl,rfl⟩))
 |some nq=>
  obtain⟨n,q⟩:=nq
  exact Xqa rfl (Xoa (.inl ⟨n,q,rfl,(Kqa hb hg).2.2.2,rfl⟩))
def Rv (l:List Int) (p:Nat):Option ((Stp×Bool)×Nat):=
 (U1 l p).bind λ b=>(U1 l b.2).bind λ c=>(U1 l c.2).bind λ d=>(U1 l d.2).bind λ e=>bif decide (1<e.1) then none else
  some ((((b.1:Int),(c.1:Int),(d.1:Int)),(e.1:Int)==1),e.2)
def Wqa (l:List Int) (hb:Al l) (hl:l.length≤1000000000000) (p:Nat) (hp:p≤l.length) (bad:Bool):
  Tot (λ k=>Bg k (l,(p:Int),bad)) (λ r=>(bad=false∧∃ (x:Stp×Bool) (q:Nat),Rv l p=some (x,q)∧q≤l.length∧r=(x.1,x.2,l,(q:Int),false))∨((bad=true∨Rv l p=none)∧∃ s b,∃ q:Nat,q≤l.length∧r=(s,b,l,(q:Int),true))):=by
 unfold Bg
 have nx:∀ {o:Option (Nat×Nat)} {f:Nat×Nat→Option ((Stp×Bool)×Nat)},o=none→o.bind f=none:=by
  intro o f h;rw[h];rfl
 refine Xpa (T2 l hb hl p hp bad) ?_
 rintro r (⟨h0,n1,p1,h1,l1,rfl⟩|⟨h1,rfl⟩)
 ·simp only
  refine Xpa (T2 l hb hl p1 l1 false) ?_
  rintro r (⟨_,n2,p2,h2,l2,rfl⟩|⟨h2,rfl⟩)
  ·simp only
   refine Xpa (T2 l hb hl p2 l2 false) ?_
   rintro r (⟨_,n3,p3,h3,l3,rfl⟩|⟨h3,rfl⟩)
   ·simp only
    refine Xpa (T2 l hb hl p3 l3 false) ?_
    rintro r (⟨_,n4,p4,h4,l4,rfl⟩|⟨h4,rfl⟩)
    ·simp only
     refine Xqa rfl (Xoa ?_)
     have e:Rv l p=bif decide (1<n4) then none else some ((((n1:Int),(n2:Int),(n3:Int)),(n4:Int)==1),p4):=by
      unfold Rv
      simp only[h1,h2,h3,h4,Vt]
     cases hd:decide (1<n4) with
     |true=>
      rw[hd,cond_true]at e
      refine .inr ⟨.inr e,((n1:Int),(n2:Int),(n3:Int)),((n4:Int)==1),p4,l4,?_⟩
      have:decide ((n4:Int) > 1)=true:=decide_eq_true (by have:=of_decide_eq_true hd;omega)
      rw[this]
     |false=>
      rw[hd,cond_false]at e
      refine .inl ⟨h0,_,p4,e,l4,?_⟩
      have:decide ((n4:Int) > 1)=false:=decide_eq_false (by have:=of_decide_eq_false hd;omega)
      rw[this]
    ·refine Xra rfl (Xoa (.inr ⟨.inr ?_,_,_,p3,l3,rfl⟩))
     have h4':=h4.resolve_left (by simp)
     unfold Rv
     simp only[h1,h2,h3,h4',Vt,Z7a]
   ·simp only
    refine Xpa (T2 l hb hl p2 l2 true) ?_
    rintro r (⟨hh,_⟩|⟨_,rfl⟩)
    ·cases hh
    ·refine Xra rfl (Xoa (.inr ⟨.inr ?_,_,_,p2,l2,rfl⟩))
     have h3':=h3.resolve_left (by simp)
     unfold Rv
     simp only[h1,h2,h3',Vt,Z7a]
  ·simp only
   refine Xpa (T2 l hb hl p1 l1 true) ?_
   rintro r (⟨hh,_⟩|⟨_,rfl⟩)
   ·cases hh
   ·refine Xpa (T2 l hb hl p1 l1 true) ?_
    rintro r (⟨hh,_⟩|⟨_,rfl⟩)
    ·cases hh
    ·refine Xra rfl (Xoa (.inr ⟨.inr ?_,_,_,p1,l1,rfl⟩))
     have h2':=h2.resolve_left (by simp)
     unfold Rv
     simp only[h1,h2',Vt,Z7a]
 ·simp only
  refine Xpa (T2 l hb hl p hp true) ?_
  rintro r (⟨hh,_⟩|⟨_,rfl⟩)
  ·cases hh
  ·refine Xpa (T2 l hb hl p hp true) ?_
   rintro r (⟨hh,_⟩|⟨_,rfl⟩)
   ·cases hh
   ·refine Xpa (T2 l hb hl p hp true) ?_
    rintro r (⟨hh,_⟩|⟨_,rfl⟩)
    ·cases hh
    ·refine Xra rfl (Xoa (.inr ⟨?_,_,_,p,hp,rfl⟩))
     rcases h1 with h1|h1
     ·exact .inl h1
     ·refine .inr ?_
      unfold Rv
      rw[h1]
      rfl

section
open Go
end

abbrev Nmd:=ByteArray×List Int
abbrev Dsk:=List Nmd×List Nmd
def Jd:Nmd:=((⟨#[]⟩:ByteArray),[])
def Sha (l:List Nmd):Prop:=l.length≤1000000000000∧∀ x∈l,x.2.length≤1000000000000
def Xba (d:Dsk):Prop:=Sha d.1∧Sha d.2
def Ws (l:List Int) (h:l.length≤1000000000000):Dk l=some l:=by
 unfold Dk
 rw[show Nat.ble ((length ([]:List Int)+length l)*1) 140737488355328=true from Zq (by simp only[Vq];omega)]
 rfl
def fnd (l:List Nmd) (s:ByteArray):Option Nat:=l.findIdx? (λ x=>teq x.1 s)
def Sia (l:List Nmd) (s:ByteArray):Int:=match fnd l s with
 |some i=>(i:Int)
 |none => -1
def Kra (l:List Nmd) (s:ByteArray) (hf:l.length≤1000000000000):∀ (n i:Nat),l.length-i=n→i≤l.length→
  Tot (λ k=>Ga k s l (l.length:Int) (i:Int)) (λ r=>r=match fnd (l.drop i) s with|some j => .inl ((i+j:Nat):Int)|none => .inr ()):=by
 intro n
 induction n with
 |zero=>
  intro i hd hi
  refine Tot.succ ?_
  simp only[Ga]
  refine Xta (by omega) (Xoa ?_)
  rw[Zw (by omega)]
  rfl
 |succ n ih=>
  intro i hd hi
  have hlt:i<l.length:=by omega
  refine Tot.succ ?_
  simp only[Ga]
  refine Xsa (by omega) (Xsa (by omega) (Xsa (by omega) ?_))
  rw[show toNat (i:Int)=i from Vl i,w64 (n:=(i:Int)+1) (by omega) (by omega),B8 (d:=Jd) hlt]
  have e0:l.getD i ((⟨#[]⟩:ByteArray),([]:List Int))=l.getD i Jd:=rfl
  rw[e0]
  have e1:fnd (l.getD i Jd::l.drop (i+1)) s=if teq (l.getD i Jd).1 s then some 0 else (fnd (l.drop (i+1)) s).map (· + 1):=by
   unfold fnd
   rw[List.findIdx?_cons]
  rw[e1]
  refine Xua (λ h=>?_) (λ h=>?_)
  ·have h':teq (l.getD i Jd).1 s=true:=h
   rw[if_pos h']
   exact Xoa rfl
  ·have h':¬ (teq (l.getD i Jd).1 s=true):=by
    have:teq (l.getD i Jd).1 s=false:=h
    rw[this];simp
   rw[if_neg h']
   refine(ih (i+1) (by omega) (by omega)).mono ?_
   rintro r rfl
   cases fnd (l.drop (i+1)) s with
   |none=>rfl
   |some j=>
    show Sum.inl _=Sum.inl _
    rw[show i+1+j=i+(j+1) by omega]
def Qca (l:List Nmd) (s:ByteArray) (hf:l.length≤1000000000000):Tot (λ k=>Hp k l s) (λ r=>r=Sia l s):=by
 unfold Hp Sia
 refine Y0a (Kra l s hf _ 0 rfl (Vw _)) ?_
 rw[Zi]
 cases fnd l s with
 |none=>exact Xoa rfl
 |some j=>
  refine Xoa ?_
  rw[Wg]
def U5 {l:List Nmd} {s:ByteArray} {i:Nat} (h:fnd l s=some i):i<l.length∧(l.getD i Jd).1=s:=by
 unfold fnd at h
 rw[Yka]at h
 obtain⟨h1,h2,_⟩:=h
 refine⟨h1,?_⟩
 rw[Vb,Vg h1]
 exact B9.1 h2
def del (l:List Nmd) (s:ByteArray):List Nmd:=match fnd l s with
 |some i=>l.take i++l.drop (i+1)
 |none=>l

def nOk (x:Nmd):Bool:=Cg x.1&&!(decide ((x.2.length:Int) > 400))
def chn:Option ByteArray→List Nmd→Bool
 |_,[]=>true
 |none,r::l=>nOk r&&chn (some r.1) l
 |some q,r::l=>nOk r&&(tlt q r.1&&chn (some r.1) l)
def Fx (l:List Nmd):Bool:=chn none l&&decide ((l.length:Int)≤60)
def Ci (d:Dsk):Bool:=Fx d.1&&Fx d.2
def Aca (l:List Nmd):Prop:=∀ x∈l,Pc x.1
def Qda (d:Dsk):Prop:=Aca d.1∧Aca d.2
def Ada (l:List Nmd):Nat→Option ByteArray
 |0=>none
 |i+1=>some (l.getD i Jd).1
def Oaa (l:List Nmd) (i:Nat) (h:i<l.length):chn (Ada l i) (l.drop i)=(nOk (l.getD i Jd)&&(bif decide (0<i) then tlt (l.getD (i-1) Jd).1 (l.getD i Jd).1 else true)&&chn (Ada l (i+1)) (l.drop (i+1))):=by
 rw[B8 (d:=Jd) h]
 cases i with
 |zero=>simp[Ada,chn]
 |succ i=>simp[Ada,chn,Awb]
def Aea (l:List Nmd) (hf:l.length≤1000000000000) (hs:Aca l):∀ (n i:Nat),l.length-i=n→i≤l.length→
  Tot (λ k=>C0 k l l (l.length:Int) (i:Int)) (λ r=>r=bif chn (Ada l i) (l.drop i) then .inr l else .inl false):=by
 intro n
 induction n with
 |zero=>
  intro i hn hi
  refine Tot.succ ?_
  simp only[C0]
  refine Xta (by omega) (Xoa ?_)
  rw[Zw (by omega)]
  cases Ada l i<;>rfl
 |succ n ih=>
  intro i hn hi
  have hlt:i<l.length:=by omega
  refine Tot.succ ?_
  simp only[C0]
  refine Xsa (by omega) (Xsa (by omega) (Xsa (by omega) ?_))
  rw[show toNat (i:Int)=i from Vl i,w64 (n:=(i:Int)+1) (by omega) (by omega),Oaa l i hlt]
  have h1:=ih (i+1) (by omega) (by omega)
  have e:(((i+1:Nat)):Int)=(i:Int)+1:=by omega
  rw[e]at h1
  have e0:l.getD i ((⟨#[]⟩:ByteArray),([]:List Int))=l.getD i Jd:=rfl
  rw[e0]
  refine Y0a (Qj (l.getD i Jd).1 (hs _ (A3 hlt))) ?_
  cases hb:Cg (l.getD i Jd).1
  ·exact Xra rfl (Xoa (by rw[show nOk (l.getD i Jd)=false by unfold nOk;rw[hb];rfl];rfl))
  refine Xqa rfl ?_
  refine Xva (λ h4=>Xoa (by rw[show nOk (l.getD i Jd)=false by unfold nOk;rw[decide_eq_true h4,hb];rfl];rfl)) (λ h4=>?_)
  have hnk:nOk (l.getD i Jd)=true:=by unfold nOk;rw[hb,decide_eq_false h4];rfl
  rw[hnk,Wd]
  refine Xva (λ h0=>?_) (λ h0=>?_)
  ·rw[w64 (n:=(i:Int)-1) (by omega) (by omega)]
   refine Xsa (by omega) (Xsa (by omega) ?_)
   rw[show toNat ((i:Int)-1)=i-1 by omega,decide_eq_true (show 0<i by omega),cond_true]
   refine Xua (λ ht=>?_) (λ ht=>?_)
   ·have ht':(!(tlt (l.getD (i-1) Jd).1 (l.getD i Jd).1))=true:=ht
    rw[Vu]at ht'
    exact Xoa (by rw[ht'];rfl)
   ·have ht':(!(tlt (l.getD (i-1) Jd).1 (l.getD i Jd).1))=false:=ht
    rw[Wm]at ht'
    rw[ht',Wd]
    exact h1
  ·rw[decide_eq_false (show ¬ 0<i by omega),cond_false,Wd]
   exact h1
def Afa (l:List Nmd) (hf:l.length≤1000000000000) (hs:Aca l):Tot (λ k=>Bs k l) (λ r=>r=Fx l):=by
 unfold Bs Fx
 refine Y0a (Aea l hf hs _ 0 rfl (Vw _)) ?_
 rw[Zi]
 show Tot _ (λ r=>r=(chn none l&&_))
 cases hc:chn none l with
 |true=>rw[show chn (Ada l 0) l=true from hc];exact Xoa (by rw[Wd])
 |false=>rw[show chn (Ada l 0) l=false from hc];exact Xoa rfl
def Oba (d:Dsk) (hf:Xba d) (hs:Qda d):Tot (λ k=>Fu k d) (λ r=>r=Ci d):=by
 unfold Fu Ci
 refine Y0a (Afa d.1 hf.1.1 hs.1) ?_
 cases h:Fx d.1
 ·exact Xqa rfl (Xoa rfl)
 refine Xra rfl (Y0a (Afa d.2 hf.2.1 hs.2) ?_)
 exact Xoa (by rw[Wd])
def plc (l:List Nmd) (s:ByteArray):Nat:=(l.takeWhile (λ y=>tlt y.1 s)).length
def ins (l:List Nmd) (x:Nmd):List Nmd:=l.take (plc l x.1)++[x]++l.drop (plc l x.1)

def cut (l:List Nmd) (s:ByteArray):List Nmd:=l.filter (λ x => !(teq x.1 s))

def rdN (l:List Nmd) (s:ByteArray):List Int×Bool:=match fnd l s with
 |some i=>((l.getD i Jd).2,true)
 |none=>([],false)
def Oca (d:Dsk) (s:ByteArray) (hf:Sha d.1):Tot (λ k=>Eg k d s) (λ r=>r=rdN d.1 s):=by
 unfold Eg rdN
 refine Y0a (Qca d.1 s hf.1) ?_
 unfold Sia
 have hl1:=hf.1
 cases h:fnd d.1 s with
 |none=>exact Xsa (by decide) (Xoa rfl)
 |some i=>
  have hl:=(U5 h).1
  dsimp only
  refine Xta (by omega) (Xsa (by omega) (Xsa (by omega) ?_))
  rw[show toNat (i:Int)=i from Vl i]
  have hb:=hf.2 _ (A3 (d:=Jd) hl)
  refine Y0a (Y2a (Q:=λ r=>r=(d.1.getD i Jd).2) (Ws _ hb) rfl) ?_
  exact Xoa rfl

def Bq (l:List Nmd):Prop:=l.Pairwise (λ a b=>tlt a.1 b.1=true)
def Cva:∀ (p:Option ByteArray) (l:List Nmd),chn p l=true↔Bq l∧(∀ r∈l,nOk r=true)∧(∀ q,p=some q→∀ r∈l,tlt q r.1=true)
 |p,[]=>by
  have:chn p []=true:=by cases p<;>rfl
  simp[this,Bq]
 |none,r::l=>by
  simp only[chn,Va,Cva (some r.1) l,Bq,Wb]
  constructor
  ·rintro⟨h1,h2,h3,h4⟩
   exact⟨⟨λ a ha=>h4 _ rfl a ha,h2⟩,λ a ha=>by rcases Vk.1 ha with rfl|ha;exact h1;exact h3 a ha,λ q hq=>by cases hq⟩
  ·rintro⟨⟨h1,h2⟩,h3,_⟩
   exact⟨h3 r (by simp),h2,λ a ha=>h3 a (Vd _ ha),λ q hq a ha=>by cases hq;exact h1 a ha⟩
 |some q,r::l=>by
  simp only[chn,Va,Cva (some r.1) l,Bq,Wb]
  constructor
  ·rintro⟨h1,h0,h2,h3,h4⟩
   refine⟨⟨λ a ha=>h4 _ rfl a ha,h2⟩,λ a ha=>by rcases Vk.1 ha with rfl|ha;exact h1;exact h3 a ha,λ q' hq a ha=>?_⟩
   cases hq
   rcases Vk.1 ha with rfl|ha
   ·exact h0
   ·exact Hl h0 (h4 _ rfl a ha)
  ·rintro⟨⟨h1,h2⟩,h3,h4⟩
   exact⟨h3 r (by simp),h4 q rfl r (by simp),h2,λ a ha=>h3 a (Vd _ ha),λ q' hq a ha=>by cases hq;exact h1 a ha⟩
def Ap {l:List Nmd}:Fx l=true↔Bq l∧(∀ r∈l,nOk r=true)∧l.length≤60:=by
 unfold Fx
 simp only[Va,Cva,decide_eq_true_eq]
 constructor
 ·rintro⟨⟨h1,h2,_⟩,h3⟩
  exact⟨h1,h2,by omega⟩
 ·rintro⟨h1,h2,h3⟩
  exact⟨⟨h1,h2,λ q hq=>by cases hq⟩,by omega⟩
def Lw {x:Nmd}:nOk x=true↔Cg x.1=true∧x.2.length≤400:=by
 unfold nOk
 simp only[Va,Vu,decide_eq_false_iff_not]
 constructor
 ·rintro⟨h1,h2⟩;exact⟨h1,by omega⟩
 ·rintro⟨h1,h2⟩;exact⟨h1,by omega⟩
def Pt {l:List Nmd} (h:Fx l=true):Sha l∧Aca l:=by
 obtain⟨_,h2,h3⟩:=Ap.1 h
 refine⟨⟨by omega,λ x hx=>by have:=(Lw.1 (h2 x hx)).2;omega⟩,λ x hx=>?_⟩
 have:=Ru (Lw.1 (h2 x hx)).1
 unfold Pc
 omega
def F0a (y:Nmd) (l:List Nmd) (s:ByteArray):fnd (y::l) s=if teq y.1 s then some 0 else (fnd l s).map (· + 1):=by
 unfold fnd
 rw[List.findIdx?_cons]
def Oda {l:List Nmd} {s:ByteArray}:fnd l s=none↔∀ x∈l,x.1≠s:=by
 unfold fnd
 rw[List.findIdx?_eq_none_iff]
 constructor
 ·intro h x hx e
  have:=h x hx
  rw[B9.2 e]at this
  cases this
 ·intro h x hx
  cases ht:teq x.1 s with
  |false=>rfl
  |true=>exact absurd (B9.1 ht) (h x hx)
def Rw:∀ {l:List Nmd} {s:ByteArray},Bq l→del l s=cut l s
 |[],s,_=>rfl
 |y::l,s,h=>by
  have hc:=Wb.1 h
  have ih:=Rw (l:=l) (s:=s) hc.2
  unfold del cut at *
  rw[F0a,Y7a]
  cases ht:teq y.1 s with
  |true=>
   have hno:∀ x∈l,(!(teq x.1 s))=true:=λ x hx=>by
    cases hx2:teq x.1 s
    ·rfl
    have e1:=B9.1 ht
    have e2:=B9.1 hx2
    have:=hc.1 x hx
    rw[e1,e2,Es]at this
    cases this
   rw[if_pos rfl,if_neg (by simp)]
   show []++l=_
   rw[Wn,List.filter_eq_self.2 hno]
  |false=>
   rw[if_neg (by simp),if_pos (show (!false)=true from rfl),← ih]
   cases hf:fnd l s with
   |none=>rfl
   |some i=>rfl
def I7 {l:List Nmd} {s:ByteArray} (h:Bq l):Bq (cut l s):=h.sublist A5b
def Rx {l:List Nmd} {s:ByteArray}:(cut l s).Sublist l:=A5b
def Pu {l:List Nmd} {s:ByteArray} (h:Fx l=true):Fx (cut l s)=true:=by
 obtain⟨h1,h2,h3⟩:=Ap.1 h
 exact Ap.2 ⟨I7 h1,λ x hx=>h2 x (Rx.subset hx),by have:=(Rx (l:=l) (s:=s)).length_le;omega⟩

section
open Go
end

def ptl (x:Nmd):Bool→List Nmd→List Nmd
 |p,[]=>bif p then [] else [x]
 |p,y::l=>(bif !p&&!(tlt y.1 x.1) then [x] else [])++((bif !(teq y.1 x.1) then [y] else [])++ptl x (p||!(tlt y.1 x.1)) l)
def Oea (x:Nmd):∀ (l:List Nmd),ptl x true l=cut l x.1:=by
 intro l
 induction l with
 |nil=>rfl
 |cons a l ih=>
  simp only[ptl,Zb,Ys,cond_false,Wn,Zsa,ih,cut,Y7a]
  cases teq a.1 x.1<;>simp
def Gxa (x:Nmd):∀ {l:List Nmd},Bq l→ptl x false l=ins (cut l x.1) x:=by
 intro l
 induction l with
 |nil=>intro _;rfl
 |cons a l ih=>
  intro h
  have hl:Bq l:=(Wb.1 h).2
  have ha:=(Wb.1 h).1
  simp only[ptl,Zk,Wd,Y5a]
  cases ht:tlt a.1 x.1 with
  |true=>
   have he:teq a.1 x.1=false:=by
    cases hq:teq a.1 x.1 with
    |false=>rfl
    |true=>rw[(B9.1 hq),Es]at ht;cases ht
   simp only[he,Zb,Zk,cond_false,cond_true,Wn,ih hl,cut,Y7a,if_true]
   unfold ins plc
   rw[Zr,if_pos ht]
   rfl
  |false=>
   have hc:plc (cut (a::l) x.1) x.1=0:=by
    unfold plc cut
    rw[List.length_eq_zero_iff]
    rw[Y7a]
    cases hq:teq a.1 x.1
    ·rw[Zk,if_pos rfl,Zr,if_neg (by rw[ht];simp)]
    have hx:=(B9.1 hq)
    simp only[Zb,Wo,if_false]
    cases hf:l.filter (λ y => !(teq y.1 x.1)) with
    |nil=>rfl
    |cons b m=>
     have hb:b∈l:=by
      have:b∈l.filter (λ y => !(teq y.1 x.1)):=by rw[hf];exact Yc
      exact(Yza.1 this).1
     have hab:=ha b hb
     rw[hx]at hab
     rw[Zr,if_neg (by rw[Ro hab];simp)]
   simp only[Zk,cond_true,Oea]
   unfold ins
   rw[hc]
   simp only[Yaa,Wn,Zi,cut,Y7a]
   cases teq a.1 x.1<;>simp

def DIn (d:Dsk):Prop:=(Xba d∧Qda d)∧d.1.length≤2000000∧d.2.length≤2000000
def Uua {d:Dsk} (h:Ci d=true):DIn d:=by
 unfold Ci at h
 rw[Va]at h
 have h1:=Pt h.1
 have h2:=Pt h.2
 exact⟨⟨⟨h1.1,h2.1⟩,h1.2,h2.2⟩,by have:=(Ap.1 h.1).2.2;omega,by have:=(Ap.1 h.2).2.2;omega⟩
def syI (d:Dsk) (s:ByteArray):List Nmd:=match fnd d.1 s with
 |some i=>ins (del d.2 s) (s,(d.1.getD i Jd).2)
 |none=>del d.2 s

section
open Go
end

section
open Go
end

def Ms (p:Nmd→Bool):∀ l:List Nmd,l.take (l.takeWhile p).length=l.takeWhile p∧l.drop (l.takeWhile p).length=l.dropWhile p
 |[]=>⟨rfl,rfl⟩
 |y::l=>by
  obtain⟨h1,h2⟩:=Ms p l
  simp only[Zr,Zaa]
  cases p y with
  |true=>simp[h1,h2]
  |false=>simp
def Aga {p:Nmd→Bool}:∀ {l:List Nmd} {y:Nmd},y∈l.takeWhile p→p y=true
 |[],y,h=>by simp at h
 |z::l,y,h=>by
  simp only[Zr]at h
  cases hz:p z
  ·rw[hz]at h;simp at h
  rw[hz]at h
  simp only[if_true]at h
  rcases Vk.1 h with rfl|h
  ·exact hz
  ·exact Aga h
def Qea (l:List Nmd) (x:Nmd):ins l x=l.takeWhile (λ y=>tlt y.1 x.1)++([x]++l.dropWhile (λ y=>tlt y.1 x.1)):=by
 unfold ins plc
 obtain⟨h1,h2⟩:=Ms (λ y=>tlt y.1 x.1) l
 rw[h1,h2,Vo]
def U6 {x:Nmd}:∀ {l:List Nmd},Bq l→(∀ y∈l,y.1≠x.1)→∀ z∈l.dropWhile (λ y=>tlt y.1 x.1),tlt x.1 z.1=true
 |[],_,_,z,hz=>by simp at hz
 |y::l,hs,hn,z,hz=>by
  obtain⟨h1,h2⟩:=Wb.1 hs
  simp only[Zaa]at hz
  cases hy:tlt y.1 x.1 with
  |true=>
   rw[hy]at hz
   simp only[if_true]at hz
   exact U6 h2 (λ w hw=>hn w (Vd _ hw)) z hz
  |false=>
   rw[hy]at hz
   simp only[Wo,if_false]at hz
   have hxy:tlt x.1 y.1=true:=by
    cases hh:tlt x.1 y.1 with
    |true=>rfl
    |false=>exact absurd (W6 hy hh) (hn y (by simp))
   rcases Vk.1 hz with rfl|hz
   ·exact hxy
   ·exact Hl hxy (h1 z hz)
def Mg {l:List Nmd} {x:Nmd} (hs:Bq l) (hn:∀ y∈l,y.1≠x.1):Bq (ins l x):=by
 rw[Qea]
 have hs':Bq (l.takeWhile (λ y=>tlt y.1 x.1)++l.dropWhile (λ y=>tlt y.1 x.1)):=by rw[Ysa];exact hs
 obtain⟨h1,h2,h3⟩:=Zc.1 hs'
 have h4:∀ y∈l.takeWhile (λ y=>tlt y.1 x.1),tlt y.1 x.1=true:=λ y hy=>Aga (p:=λ y=>tlt y.1 x.1) hy
 refine Zc.2 ⟨h1,Wb.2 ⟨λ z hz=>U6 hs hn z hz,h2⟩,λ a ha b hb=>?_⟩
 rcases Vk.1 hb with rfl|hb
 ·exact h4 a ha
 ·exact h3 a ha b hb
def Pe {l:List Nmd} {x y:Nmd}:y∈ins l x↔y=x∨y∈l:=by
 rw[Qea]
 have e:=Ysa (p:=λ y:Nmd=>tlt y.1 x.1) (l:=l)
 constructor
 ·intro h
  rcases Vm.1 h with h|h
  ·right;rw[← e];exact Vx _ h
  ·rcases Vk.1 h with h|h
   ·exact .inl h
   ·right;rw[← e];exact Vn _ h
 ·rintro (rfl|h)
  ·exact Vn _ (by simp)
  ·rw[← e]at h
   rcases Vm.1 h with h|h
   ·exact Vx _ h
   ·exact Vn _ (Vd _ h)
def Qfa {l:List Nmd} {x:Nmd} (hl:Fx l=true) (hn:∀ y∈l,y.1≠x.1) (hx:nOk x=true):Fx (ins l x)=decide ((ins l x).length≤60):=by
 obtain⟨h1,h2,h3⟩:=Ap.1 hl
 by_cases h:(ins l x).length≤60
 ·rw[decide_eq_true h]
  exact Ap.2 ⟨Mg h1 hn,λ y hy=>by rcases Pe.1 hy with rfl|hy;exact hx;exact h2 y hy,h⟩
 ·rw[decide_eq_false h]
  cases hc:Fx (ins l x) with
  |false=>rfl
  |true=>exact absurd (Ap.1 hc).2.2 h
def Ry {l:List Nmd} {s:ByteArray}:∀ y∈cut l s,y.1≠s:=λ y hy e=>by
 have:=(Yza.1 hy).2
 simp[e,B9.2 rfl]at this
def Sja {d:Dsk} {s:ByteArray} (hd:Ci d=true) (hs:Cg s=true):Ci (d.1,syI d s)=decide ((syI d s).length≤60):=by
 have hd':=hd
 unfold Ci at hd'
 rw[Va]at hd'
 have h2:=Ap.1 hd'.2
 unfold Ci
 rw[hd'.1,Wd]
 unfold syI
 rw[Rw h2.1]
 cases h:fnd d.1 s with
 |none=>show Fx (cut d.2 s)=decide ((cut d.2 s).length≤60);rw[Pu hd'.2,decide_eq_true (Ap.1 (Pu (s:=s) hd'.2)).2.2]
 |some i=>
  refine Qfa (Pu hd'.2) Ry (Lw.2 ⟨hs,?_⟩)
  have h1:=(Ap.1 hd'.1).2.1 _ (A3 (d:=Jd) (U5 h).1)
  exact(Lw.1 h1).2
def Ska {l:List Nmd} (hs:Bq l) {x y:Nmd} (hx:x∈l) (hy:y∈l) (e:x.1=y.1):x=y:=by
 induction l with
 |nil=>simp at hx
 |cons z l ih=>
  obtain⟨h1,h2⟩:=Wb.1 hs
  rcases Vk.1 hx with hx'|hx'
  ·rcases Vk.1 hy with hy'|hy'
   ·rw[hx',hy']
   ·have:=h1 y hy';rw[← hx',e,Es]at this;cases this
  ·rcases Vk.1 hy with hy'|hy'
   ·have:=h1 x hx';rw[← hy',e,Es]at this;cases this
   ·exact ih h2 hx' hy'

def wrI (d:Dsk) (s:ByteArray) (b:List Int):List Nmd:=ins (del d.1 s) (s,b)
def Ofa {d:Dsk} {s:ByteArray} {b:List Int} (hd:Ci d=true) (hs:Cg s=true):ptl (s,b) false d.1=wrI d s b∧Ci (wrI d s b,d.2)=(decide (b.length≤400)&&decide ((wrI d s b).length≤60)):=by
 have hd':=hd
 unfold Ci at hd'
 rw[Va]at hd'
 have h1:=Ap.1 hd'.1
 have e1:wrI d s b=ins (cut d.1 s) (s,b):=by unfold wrI;rw[Rw h1.1]
 refine⟨by rw[e1];exact Gxa _ h1.1,?_⟩
 unfold Ci
 rw[hd'.2,Y9a,e1]
 by_cases hb:b.length≤400
 ·rw[decide_eq_true hb,Wd]
  exact Qfa (Pu hd'.1) Ry (Lw.2 ⟨hs,hb⟩)
 ·rw[decide_eq_false hb,Ys]
  cases hc:Fx (ins (cut d.1 s) (s,b)) with
  |false=>rfl
  |true=>exact absurd (Lw.1 ((Ap.1 hc).2.1 (s,b) (Pe.2 (.inl rfl)))).2 hb

def TS (l:List ByteArray):Prop:=l.Pairwise (λ a b=>tlt a b=true)
def pk (l:List Nmd) (s:ByteArray):Option Nmd:=match fnd l s with
 |some i=>some (l.getD i Jd)
 |none=>none
def Jk:ByteArray:=⟨#[]⟩
def tpl (l:List ByteArray) (s:ByteArray):Nat:=(l.takeWhile (λ y=>tlt y s)).length
def wt (l:List ByteArray) (s:ByteArray):List ByteArray:=if tpl l s<l.length∧teq (l.getD (tpl l s) Jk) s=true then l else l.take (tpl l s)++[s]++l.drop (tpl l s)
def Qga (l:List ByteArray) (s:ByteArray):tpl l s≤l.length:=(List.takeWhile_sublist _).length_le
def Q2 (l:List ByteArray) (s:ByteArray) (hf:l.length≤1000000000000):∀ (n i:Nat),l.length-i=n→i≤l.length→
  Tot (λ k=>C5 k l s (i:Int)) (λ r=>r=(l,s,((i+tpl (l.drop i) s:Nat):Int))):=by
 intro n
 induction n with
 |zero=>
  intro i hd hi
  refine Tot.succ ?_
  simp only[C5]
  refine Xta (by omega) (Xoa ?_)
  rw[Zw (by omega)]
  rfl
 |succ n ih=>
  intro i hd hi
  have hlt:i<l.length:=by omega
  refine Tot.succ ?_
  simp only[C5]
  refine Xsa (by omega) (Xsa (by omega) (Xsa (by omega) ?_))
  rw[show toNat (i:Int)=i from Vl i,w64 (n:=(i:Int)+1) (by omega) (by omega),B8 (d:=Jk) hlt]
  have e0:l.getD i (⟨#[]⟩:ByteArray)=l.getD i Jk:=rfl
  rw[e0]
  have e1:tpl (l.getD i Jk::l.drop (i+1)) s=if tlt (l.getD i Jk) s then tpl (l.drop (i+1)) s+1 else 0:=by
   unfold tpl
   rw[Zr]
   split<;>rfl
  rw[e1]
  refine Xua (λ h=>?_) (λ h=>?_)
  ·have h':tlt (l.getD i Jk) s=true:=h
   rw[if_pos h']
   refine(ih (i+1) (by omega) (by omega)).mono ?_
   rintro r rfl
   rw[show i+1+tpl (l.drop (i+1)) s=i+(tpl (l.drop (i+1)) s+1) by omega]
  ·have h':¬ (tlt (l.getD i Jk) s=true):=by
    have:tlt (l.getD i Jk) s=false:=h
    rw[this];simp
   rw[if_neg h']
   exact Xoa rfl
def Wt (l:List ByteArray) (s:ByteArray) (hf:l.length≤1000000000):Tot (λ k=>Dp k l s) (λ r=>r=wt l s):=by
 unfold Dp
 refine Xpa (Q2 l s (by omega) _ 0 rfl (Vw _)) ?_
 intro r hr
 rw[Zi,Wg]at hr
 subst hr
 have hj:=Qga l s
 generalize hjj:tpl l s=j at *
 dsimp only
 have hno:¬ (j<l.length∧teq (l.getD j Jk) s=true)→Tot (λ k=>cond (decide ((0:Int)≤(j:Int))) (cond (decide ((j:Int)≤(length l:Int))) (cond (Nat.ble ((length ([]:List ByteArray)+length (List.take (toNat (j:Int)) l))*16) 140737488355328) (let v3:List ByteArray:=([]:List ByteArray)++(List.take (toNat (j:Int)) l);cond (Nat.ble ((length v3+length [s])*16) 140737488355328) (cond (decide ((0:Int)≤(j:Int))) (cond (decide ((j:Int)≤(length l:Int))) (cond (Nat.ble ((length (v3++[s])+length (List.drop (toNat (j:Int)) l))*16) 140737488355328) (some ((v3++[s])++(List.drop (toNat (j:Int)) l))) none) none) none) none) none) none) none)
   (λ r=>r=wt l s):=by
  intro hn
  refine Xsa (by omega) (Xsa (by omega) ?_)
  rw[show toNat (j:Int)=j from Vl j]
  refine Xwa (by simp only[Vq,Vs];omega) ?_
  refine Xwa (by simp only[Vi,Vq,Vs,Vh];omega) ?_
  refine Xsa (by omega) (Xsa (by omega) (Xwa (by simp only[Vi,Vq,Vs,Wi,Vh];omega) (Xoa ?_)))
  unfold wt
  rw[hjj,if_neg hn,Wn]
 refine Xva (λ h=>?_) (λ h=>hno (λ hh=>h (by omega)))
 refine Xsa (by omega) (Xsa h ?_)
 rw[show toNat (j:Int)=j from Vl j]at *
 refine Xua (λ he=>Xoa ?_) (λ he=>hno (λ hh=>?_))
 ·unfold wt
  rw[hjj,if_pos ⟨by omega,he⟩]
 ·have h2:teq (l.getD j Jk) s=false:=he
  rw[h2]at hh
  cases hh.2
def Qha {l:List ByteArray} {s y:ByteArray}:y∈wt l s↔y=s∨y∈l:=by
 unfold wt
 by_cases h:tpl l s<l.length∧teq (l.getD (tpl l s) Jk) s=true
 ·rw[if_pos h]
  refine⟨.inr,λ h'=>?_⟩
  rcases h' with rfl|h'
  ·have:=A3 (d:=Jk) h.1
   rwa [B9.1 h.2]at this
  ·exact h'
 ·rw[if_neg h]
  have e:l.take (tpl l s)++l.drop (tpl l s)=l:=Wh _ _
  constructor
  ·intro h'
   rw[Vo]at h'
   rcases Vm.1 h' with h'|h'
   ·right;rw[← e];exact Vx _ h'
   ·rcases Vm.1 h' with h'|h'
    ·left;simpa using h'
    ·right;rw[← e];exact Vn _ h'
  ·rintro (rfl|h')
   ·simp
   ·rw[← e]at h'
    rcases Vm.1 h' with h'|h'<;>simp[h']
def F1a (p:ByteArray→Bool):∀ l:List ByteArray,l.take (l.takeWhile p).length=l.takeWhile p∧l.drop (l.takeWhile p).length=l.dropWhile p
 |[]=>⟨rfl,rfl⟩
 |y::l=>by
  obtain⟨h1,h2⟩:=F1a p l
  simp only[Zr,Zaa]
  cases p y with
  |true=>simp[h1,h2]
  |false=>simp
def U7 {p:ByteArray→Bool}:∀ {l:List ByteArray} {y:ByteArray},y∈l.takeWhile p→p y=true
 |[],y,h=>by simp at h
 |z::l,y,h=>by
  simp only[Zr]at h
  cases hz:p z
  ·rw[hz]at h;simp at h
  rw[hz]at h
  simp only[if_true]at h
  rcases Vk.1 h with rfl|h
  ·exact hz
  ·exact U7 h
def Rz {s:ByteArray}:∀ {l:List ByteArray},TS l→(∀ y r,l.dropWhile (λ y=>tlt y s)=y::r→y≠s)→∀ z∈l.dropWhile (λ y=>tlt y s),tlt s z=true
 |[],_,_,z,hz=>by simp at hz
 |y::l,hs,hn,z,hz=>by
  obtain⟨h1,h2⟩:=Wb.1 hs
  simp only[Zaa]at hz hn
  cases hy:tlt y s with
  |true=>
   rw[hy]at hz hn
   simp only[if_true]at hz hn
   exact Rz h2 hn z hz
  |false=>
   rw[hy]at hz hn
   simp only[Wo,if_false]at hz hn
   have hxy:tlt s y=true:=by
    cases hh:tlt s y with
    |true=>rfl
    |false=>exact absurd (W6 hy hh) (hn y l rfl)
   rcases Vk.1 hz with rfl|hz
   ·exact hxy
   ·exact Hl hxy (h1 z hz)
def Ksa {l:List ByteArray} {s:ByteArray} (hs:TS l):TS (wt l s):=by
 unfold wt
 by_cases h:tpl l s<l.length∧teq (l.getD (tpl l s) Jk) s=true
 ·rw[if_pos h];exact hs
 ·rw[if_neg h]
  obtain⟨e1,e2⟩:=F1a (λ y=>tlt y s) l
  have hd:∀ y r,l.dropWhile (λ y=>tlt y s)=y::r→y≠s:=by
   intro y r hr hy
   rw[← e2]at hr
   have hlt:tpl l s<l.length:=by
    rcases Zca (tpl l s) l.length with h'|h'
    ·exact h'
    ·have:l.drop (tpl l s)=[]:=Zw h'
     unfold tpl at this
     rw[this]at hr
     cases hr
   have:l.drop (tpl l s)=l.getD (tpl l s) Jk::l.drop (tpl l s+1):=B8 hlt
   unfold tpl at this
   rw[this]at hr
   simp only[Yd]at hr
   exact h ⟨hlt,B9.2 (hr.1.trans hy)⟩
  have e1':l.take (tpl l s)=l.takeWhile (λ y=>tlt y s):=e1
  have e2':l.drop (tpl l s)=l.dropWhile (λ y=>tlt y s):=e2
  rw[e1',e2',Vo]
  have hs':TS (l.takeWhile (λ y=>tlt y s)++l.dropWhile (λ y=>tlt y s)):=by rw[Ysa];exact hs
  obtain⟨h1,h2,h3⟩:=Zc.1 hs'
  refine Zc.2 ⟨h1,Wb.2 ⟨λ z hz=>Rz hs hd z hz,h2⟩,λ a ha b hb=>?_⟩
  rcases Vk.1 hb with rfl|hb
  ·exact U7 (p:=λ y=>tlt y b) ha
  ·exact h3 a ha b hb

def Qia {l:List ByteArray} {s:ByteArray}:(wt l s).length≤l.length+1:=by
 unfold wt
 have:=Qga l s
 split
 ·omega
 ·simp only[Vi,Vs,Wi,Vh,Vq];omega

section
variable {α σ R:Type} {a b:α} {p:Prop} [Decidable p]
def dT (h:p):cond (decide p) a b=a:=by rw[decide_eq_true h];rfl
def dF (h:¬ p):cond (decide p) a b=b:=by rw[decide_eq_false h];rfl
def bT {m n:Nat} (h:m≤n):cond (Nat.ble m n) a b=a:=by rw[Zq h];rfl
def Xxa {L:Nat→Int→σ→Option R} {Q:R→Prop} (n:Nat) (I:Nat→σ→Prop) (hend:∀ s,I n s→Tot (λ k=>L (k+1) (n:Int) s) Q)
  (T5:∀ i s,i<n→I i s→(∀ s',I (i+1) s'→Tot (λ k=>L k ((i:Int)+1) s') Q)→Tot (λ k=>L (k+1) (i:Int) s) Q):
  ∀ (i:Nat) (s:σ),i≤n→I i s→Tot (λ k=>L k (i:Int) s) Q:=by
 suffices h:∀ (m i:Nat) (s:σ),n-i=m→i≤n→I i s→Tot (λ k=>L k (i:Int) s) Q from λ i s hi hs=>h _ i s rfl hi hs
 intro m
 induction m with
 |zero=>
  intro i s hm hi hs
  obtain rfl:i=n:=by omega
  exact Tot.succ (hend s hs)
 |succ m ih=>
  intro i s hm hi hs
  refine Tot.succ (T5 i s (by omega) hs λ s' hs'=>?_)
  have:=ih (i+1) s' (by omega) (by omega) hs'
  rwa [show (((i+1:Nat)):Int)=(i:Int)+1 by omega]at this
end
def cst (x:BitVec 32):BitVec 32:=if x.getLsbD 0 then (x >>> 1) ^^^ 2197175160#32 else x >>> 1
def Cwa:Nat→BitVec 32→BitVec 32
 |0,x=>x
 |n+1,x=>Cwa n (cst x)
def cby (x:BitVec 32) (b:Int):BitVec 32:=Cwa 8 (x ^^^ ofInt 32 b)
def Tna (l:List Int):BitVec 32 := ~~~ (l.foldl cby 4294967295#32)
def crc (l:List Int):Int:=((Tna l).toNat:Int)
def Xka (v:BitVec 32):v.getLsbD 0=decide (v.toNat % 2=1):=by
 rw[BitVec.getLsbD,Nat.testBit_zero]
def Cxa (v:BitVec 32):ofInt (IntKind.bits .u32) (v.toNat:Int)=v:=by
 show ofInt 32 (v.toNat:Int)=v
 rw[BitVec.ofInt_natCast,BitVec.ofNat_toNat,BitVec.setWidth_eq]
def Wra (v:BitVec 32):wrap .u32 (v.toNat:Int)=(v.toNat:Int):=Agb _ ⟨by omega,by have:=v.isLt;omega⟩
def sh1 (v:BitVec 32):Int.fdiv (v.toNat:Int) 2=((v >>> 1).toNat:Int):=by
 rw[Yfa _ (by omega),BitVec.toNat_ushiftRight,Nat.shiftRight_eq_div_pow]
 omega
def Wsa (v:BitVec 32):((wrap .u32 ((ofInt (IntKind.bits .u32) (v.toNat:Int) &&& ofInt (IntKind.bits .u32) 1).toNat))==1)=v.getLsbD 0:=by
 show (wrap .u32 (((ofInt 32 (v.toNat:Int) &&& ofInt 32 1).toNat:Nat):Int)==1)=_
 rw[show ofInt 32 (v.toNat:Int)=v from Cxa v,Wra,Xka,BitVec.toNat_and,show (ofInt 32 1).toNat=1 from by decide,Nat.and_one_is_mod,Zha,beq_iff_eq,decide_eq_true_iff]
 omega
def Wta (v w:BitVec 32) (x:Int) (h:ofInt 32 x=w):wrap .u32 ((ofInt (IntKind.bits .u32) (v.toNat:Int) ^^^ ofInt (IntKind.bits .u32) x).toNat)=((v ^^^ w).toNat:Int):=by
 show wrap .u32 (((ofInt 32 (v.toNat:Int) ^^^ ofInt 32 x).toNat:Nat):Int)=_
 rw[show ofInt 32 (v.toNat:Int)=v from Cxa v,h]
 exact Wra _
def Xla (K:IntKind) (h:1≤IntKind.bits K):(2:Int) ^ (min (toNat 1) (IntKind.bits K))=2:=by
 rw[show toNat 1=1 from rfl,Y6a h];rfl
def Gya (l:List Int) (x8 x9:Int):∀ (n:Nat) (v:BitVec 32) (i:Int),0≤i→8-i=n→Tot (λ k=>Fj k (v.toNat:Int) l x8 x9 i) (λ r=>r=(((Cwa n v).toNat:Int),l,x8,x9)):=by
 intro n
 induction n with
 |zero=>
  intro v i h0 hn
  refine Tot.succ ?_
  simp only[Fj]
  exact Xta (by omega) (Xoa rfl)
 |succ n ih=>
  intro v i h0 hn
  refine Tot.succ ?_
  simp only[Fj]
  refine Xsa (by omega) ?_
  rw[w64 (n:=i+1) (by omega) (by omega),Wsa,Xla _ (by decide),sh1,Wta _ 2197175160#32 _ (by decide)]
  have e:Cwa (n+1) v=Cwa n (cst v):=rfl
  rw[e]
  refine Xua (λ h=>?_) (λ h=>?_)
  ·have:=ih (v >>> 1 ^^^ 2197175160#32) (i+1) (by omega) (by omega)
   rwa [show v >>> 1 ^^^ 2197175160#32=cst v by unfold cst;rw[if_pos h]]at this ⊢
  ·have:=ih (v >>> 1) (i+1) (by omega) (by omega)
   rwa [show v >>> 1=cst v by unfold cst;rw[if_neg (by rw[h];simp)]]at this ⊢
def Qja {b:Int} (h:0≤b∧b≤255):b=((ofInt 32 b).toNat:Int):=by
 rw[Aab]
 omega
def Sla (l:List Int) (hb:Al l) (hl:l.length≤1000000000000):Tot (λ k=>H6 k l) (λ r=>r=crc l):=by
 unfold H6
 refine Xpa (Q:=λ r=>r=(((l.foldl cby 4294967295#32).toNat:Nat):Int)) ?_ ?_
 ·have:=Xxa (L:=λ k i s=>Fv k s l (l.length:Int) i) (Q:=λ r=>r=(((l.foldl cby 4294967295#32).toNat:Nat):Int)) l.length (λ i s=>∃ v:BitVec 32,s=(v.toNat:Int)∧(l.drop i).foldl cby v=l.foldl cby 4294967295#32) ?_ ?_ 0 4294967295 (Vw _) ⟨4294967295#32,by decide,by rw[Zi]⟩
  ·exact this
  ·rintro s ⟨v,rfl,hv⟩
   simp only[Fv]
   rw[Wl]at hv
   exact Xta (by omega) (Xoa (by rw[← hv];rfl))
  ·rintro i s hi ⟨v,rfl,hv⟩ next
   simp only[Fv]
   have hx:=hb _ (A3 (d:=0) hi)
   refine Xsa (by omega) (Xsa (by omega) (Xsa (by omega) ?_))
   rw[Vl,Agb _ ⟨hx.1,by omega⟩,Wta v _ _ rfl]
   refine Y0a (Gya l _ _ 8 _ 0 (by decide) (by decide)) ?_
   simp only
   rw[w64 (n:=(i:Int)+1) (by omega) (by omega)]
   refine next _ ⟨_,rfl,?_⟩
   rw[B8 (d:=0) hi,Yl]at hv
   exact hv
 ·rintro r rfl
  refine Xoa ?_
  unfold crc Tna
  have hm:ofInt 32 (if IntKind.signed .u32 then -1 else IntKind.max .u32)=BitVec.allOnes 32:=by decide
  have e:BitVec.allOnes 32 ^^^ l.foldl cby 4294967295#32 = ~~~ (l.foldl cby 4294967295#32):=by rw[Apb];exact BitVec.xor_allOnes
  show wrap .i64 (wrap .u32 (((ofInt 32 (if IntKind.signed .u32 then -1 else IntKind.max .u32) ^^^ ofInt 32 ((l.foldl cby 4294967295#32).toNat:Int)).toNat:Nat):Int))=_
  rw[show ofInt 32 ((l.foldl cby 4294967295#32).toNat:Int)=l.foldl cby 4294967295#32 from Cxa _,hm,e]
  have:=(~~~ (l.foldl cby 4294967295#32)).isLt
  rw[Wra,w64 (by omega) (by omega)]

def Oga:Fil:=(((0:Int),((0:Int),(0:Int))),(false,([]:List Int)))
def Fq (f:Fil):Bool:=Gg f.1&&(decide ((f.2.2.length:Int)≤200)&&(!f.2.1||((f.2.2.length:Int)==0)))
def F2a (f:Fil):Ed f=some (Fq f):=by
 unfold Ed Fq
 rw[Rp]
 simp only[Vt]
 cases Gg f.1<;>cases decide ((length f.2.2:Int)≤200)<;>cases f.2.1<;>rfl
def Hv {f:Fil}:Fq f=true↔Gg f.1=true∧f.2.2.length≤200∧(f.2.1=true→f.2.2=[]):=by
 unfold Fq
 rw[Va,Va,decide_eq_true_iff]
 have:(!f.2.1||((f.2.2.length:Int)==0))=true↔(f.2.1=true→f.2.2=[]):=by
  cases f.2.1 with
  |false=>simp
  |true=>simp
 rw[this]
 constructor
 ·rintro⟨h1,h2,h3⟩;exact⟨h1,by omega,h3⟩
 ·rintro⟨h1,h2,h3⟩;exact⟨h1,by omega,h3⟩
def Kta (a b:Fil):Gb a b=some (sle b.1 a.1):=by unfold Gb;rw[Qh];rfl
def hdF (s:Stp) (d:Bool):List Int:=Qba s++Ke (Bj (Cua d))
def Kx (f:Fil):List Int:=hdF f.1 f.2.1++txt (Hg f.2.2)
def c4 (c:Int):List Int:=[wrap .u8 (Int.fdiv c (2 ^ (min (toNat 24) (IntKind.bits .i64)))),wrap .u8 (Int.fdiv c (2 ^ (min (toNat 16) (IntKind.bits .i64)))),wrap .u8 (Int.fdiv c (2 ^ (min (toNat 8) (IntKind.bits .i64)))),wrap .u8 c]
def H3 (f:Fil):List Int:=bif Fq f then Kx f++c4 (crc (Kx f)) else []
def K6 {a b:List Int} (ha:Al a) (hb:Al b):Al (a++b):=λ x hx=>(Vm.1 hx).elim (ha x) (hb x)
def Lx (n:Int):Al (Ke (Bj n)):=Gua _ (Jz n)
def Kua (s:Stp) (d:Bool):Al (hdF s d):=K6 (K6 (Lx _) (K6 (Lx _) (Lx _))) (Lx _)
def N8 (f:Fil):Al (Kx f):=K6 (Kua _ _) (K6 (Lx _) (U3 _))
def Oha (c:Int):Al (c4 c):=by
 intro x hx
 simp only[c4,Vk,Zua,or_false]at hx
 rcases hx with rfl|rfl|rfl|rfl<;>exact Kba _
def Pf (f:Fil):Al (H3 f):=by
 unfold H3
 cases Fq f with
 |false=>intro x hx;simp at hx
 |true=>exact K6 (N8 f) (Oha _)
def Kva (s:Stp) (d:Bool):(hdF s d).length≤20:=by
 have h1:=O7a s
 have h2:=(Ij (Bj (Cua d))).1
 unfold hdF
 rw[Vi]
 omega
def Aha (f:Fil):(Kx f).length≤25+f.2.2.length:=by
 have h1:=Kva f.1 f.2.1
 have h2:=Sga (Hg f.2.2)
 have h3:(Hg f.2.2).size=f.2.2.length:=K5 _
 unfold Kx
 rw[Vi]
 omega
def F3a (f:Fil):(H3 f).length≤229:=by
 unfold H3
 cases h:Fq f
 ·simp
 have h1:=Aha f
 have h2:=(Hv.1 h).2.1
 rw[cond_true,Vi]
 simp only[c4,Vh,Vq]
 omega
def N9 (f:Fil):Tot (λ k=>Fb k f) (λ r=>r=H3 f):=by
 unfold Fb H3
 refine Y0a (Y2a (Q:=λ b=>b=Fq f) (F2a f) rfl) ?_
 cases h:Fq f
 ·exact Xra rfl (Xoa rfl)
 have h2:=(Hv.1 h).2.1
 have h3:(Hg f.2.2).size=f.2.2.length:=K5 _
 have h4:=Kva f.1 f.2.1
 have h5:=Aha f
 refine Xqa rfl (Y0a (Gwa [] f.1 f.2.1 (by simp)) ?_)
 rw[Wn]
 refine Y0a (O5a _ _ (by unfold hdF at h4;omega) (by omega)) ?_
 have e:Qba f.1++Ke (Bj (Cua f.2.1))++txt (Hg f.2.2)=Kx f:=rfl
 rw[e]
 refine Y0a (Sla _ (N8 f) (by omega)) ?_
 exact Xwa (by simp only[Vh,Vq];omega) (Xoa rfl)
def Iw (b:List Int):Option Fil:=(Rv b 0).bind λ a=>(Hqa b a.2).bind λ t=>bif Fq (a.1.1,a.1.2,bytesOf t.1)&&decide (H3 (a.1.1,a.1.2,bytesOf t.1)=b) then some (a.1.1,a.1.2,bytesOf t.1) else none
def Aia (b:List Int):Fil×Bool:=match Iw b with
 |some f=>(f,true)
 |none=>(Oga,false)
def Kwa {b:List Int} {f:Fil} (h:Iw b=some f):Fq f=true∧Al f.2.2∧H3 f=b:=by
 unfold Iw at h
 simp only[Ajb]at h
 obtain⟨a,_,t,_,h⟩:=h
 cases hc:(Fq (a.1.1,a.1.2,bytesOf t.1)&&decide (H3 (a.1.1,a.1.2,bytesOf t.1)=b))
 ·rw[hc]at h;cases h
 rw[hc]at h
 simp only[cond_true,Vc]at h
 subst h
 rw[Va,decide_eq_true_iff]at hc
 exact⟨hc.1,U3 _,hc.2⟩
def Kxa (s:Stp) (d:Bool) (rest:List Int) (h:Gg s=true):Rv (hdF s d++rest) 0=some ((s,d),(hdF s d).length):=by
 obtain⟨t,c,n⟩:=s
 unfold Gg at h
 simp only[Va,Fk]at h
 obtain⟨⟨t0,t1⟩,⟨c0,c1⟩,n0,n1⟩:=h
 have ht:=Rs t0 t1
 have hc:=Rs c0 (show c≤1000000000 by omega)
 have hn:=Rs n0 (show n≤1000000000 by omega)
 have hbit:(((Bj (Cua d):Nat):Int)==1)=d:=by cases d<;>decide
 have hbit2:¬ (1<Bj (Cua d)):=by cases d<;>decide
 have k:∀ (a:List Int) (n:Nat) (b:List Int),n≤1000000000→U1 (a++(Ke n++b)) a.length=some (n,(a++Ke n).length):=λ a n b hn=>by rw[Eya a n b hn,Vi]
 have e0:hdF (t,c,n) d++rest=Ke (Bj t)++(Ke (Bj c)++(Ke (Bj n)++(Ke (Bj (Cua d))++rest))):=by
  unfold hdF Qba
  simp only[Vo]
 have el:(hdF (t,c,n) d).length=(Ke (Bj t)).length+(Ke (Bj c)).length+(Ke (Bj n)).length+(Ke (Bj (Cua d))).length:=by
  unfold hdF Qba
  simp only[Vi]
  omega
 have g1:=k [] (Bj t) (Ke (Bj c)++(Ke (Bj n)++(Ke (Bj (Cua d))++rest))) (Jz t)
 have g2:=k (Ke (Bj t)) (Bj c) (Ke (Bj n)++(Ke (Bj (Cua d))++rest)) (Jz c)
 have g3:=k (Ke (Bj t)++Ke (Bj c)) (Bj n) (Ke (Bj (Cua d))++rest) (Jz n)
 have g4:=k (Ke (Bj t)++Ke (Bj c)++Ke (Bj n)) (Bj (Cua d)) rest (Jz _)
 simp only[Vo,Wn,Vq]at g1 g2 g3 g4
 simp only[Vi]at g1 g2 g3 g4
 unfold Rv
 rw[e0,el]
 simp only[Zl]at g1 g2 g3 g4 ⊢
 simp only[g1,g2,g3,g4,Vt,decide_eq_false hbit2,cond_false]
 rw[ht,hc,hn,hbit]
def O7 {f:Fil} (h:Fq f=true) (hb:Al f.2.2):Iw (H3 f)=some f:=by
 obtain⟨h1,h2,h3⟩:=Hv.1 h
 have e:H3 f=hdF f.1 f.2.1++(txt (Hg f.2.2)++c4 (crc (Kx f))):=by
  unfold H3
  rw[h,cond_true]
  unfold Kx
  rw[Vo]
 have g1:=Kxa f.1 f.2.1 (txt (Hg f.2.2)++c4 (crc (Kx f))) h1
 have g2:=O6a (hdF f.1 f.2.1) (Hg f.2.2) (c4 (crc (Kx f))) (by rw[K5];omega)
 rw[← e]at g1 g2
 unfold Iw
 simp only[g1,g2,Vt]
 rw[Ik hb]
 have e1:(f.1,f.2.1,f.2.2)=f:=rfl
 rw[e1,h,decide_eq_true rfl]
 rfl
def Aja {a b:List Int} (ha:Al a) (hb:Al b):((Hg a).toList==(Hg b).toList)=decide (a=b):=by
 have:teq (Hg a) (Hg b)=decide (a=b):=by
  rw[Zha,B9,decide_eq_true_iff]
  constructor
  ·intro h
   have:=congrArg bytesOf h
   rwa [Ik ha,Ik hb]at this
  ·rintro rfl;rfl
 exact this
def Oia (l:List Int) (hb:Al l) (hl:l.length≤1000000000000) (p:Int) (hp:p≤1000000000000):
  Tot (λ k=>B3 k (l,p,true)) (λ r=>r=((⟨#[]⟩:ByteArray),l,p,true)):=by
 unfold B3
 refine Y0a (Eza l hb hl p hp) ?_
 exact Xra rfl (Xoa rfl)
def Oja {f:Fil}:(((H3 f).length:Int)==0) = !(Fq f):=by
 unfold H3
 cases h:Fq f
 ·rfl
 rw[cond_true,Vi,Zb,beq_eq_false_iff_ne]
 simp only[c4,Vh,Vq]
 omega
def Na (b:List Int) (hb:Al b) (hl:b.length≤1000000000000):Tot (λ k=>Bt k b) (λ r=>r=Aia b):=by
 unfold Bt
 refine Xpa (Wqa b hb hl 0 (Vw _) false) ?_
 rintro r (⟨_,⟨s,d⟩,q,h1,h2,rfl⟩|⟨h1,s,d,q,h2,rfl⟩)
 ·refine Xpa (Wpa b hb hl q h2) ?_
  rintro r (⟨t,q2,h3,h4,rfl⟩|⟨h3,rfl⟩)
  ·have hsz:=(Kqa hb h3).2.1
   refine Xwa (by dsimp only;omega) (Y0a (N9 _) ?_)
   refine Xqa rfl ?_
   have e:Aia b=bif Fq (s,d,bytesOf t)&&decide (H3 (s,d,bytesOf t)=b) then ((s,d,bytesOf t),true) else (Oga,false):=by
    unfold Aia Iw
    simp only[h1,h3,Vt]
    cases Fq (s,d,bytesOf t)&&decide (H3 (s,d,bytesOf t)=b)<;>rfl
   simp only
   rw[e,Oja]
   cases hf:Fq (s,d,bytesOf t)
   ·exact Xra rfl (Xoa rfl)
   refine Xqa rfl ?_
   rw[Aja (Pf _) hb]
   cases decide (H3 (s,d,bytesOf t)=b) with
   |false=>exact Xra rfl (Xoa rfl)
   |true=>exact Xqa rfl (Xoa rfl)
  ·refine Xwa (Vw _) (Y0a (N9 _) ?_)
   refine Xra rfl (Xoa ?_)
   unfold Aia Iw
   simp only[h1,h3,Vt,Z7a]
   rfl
 ·refine Y0a (Oia b hb hl q (by omega)) ?_
  refine Xwa (Vw _) (Y0a (N9 _) ?_)
  refine Xra rfl (Xoa ?_)
  unfold Aia Iw
  simp only[h1.resolve_left (by simp),Z7a]
  rfl

def gt (l:List Nmd) (s:ByteArray):Option (List Int):=match fnd l s with
 |some i=>some (l.getD i Jd).2
 |none=>none
def Cya (y:Nmd) (l:List Nmd) (s:ByteArray):gt (y::l) s=if y.1=s then some y.2 else gt l s:=by
 unfold gt
 rw[F0a]
 by_cases h:y.1=s
 ·rw[if_pos (B9.2 h),if_pos h];rfl
 ·rw[if_neg (λ c=>h (B9.1 c)),if_neg h]
  cases fnd l s<;>rfl
def Ix {l:List Nmd} {s:ByteArray} {b:List Int} (h:gt l s=some b):(s,b)∈l:=by
 induction l with
 |nil=>cases h
 |cons y l ih=>
  rw[Cya]at h
  by_cases e:y.1=s
  ·rw[if_pos e]at h
   cases h
   subst e
   exact Yc
  ·rw[if_neg e]at h
   exact Vd _ (ih h)
def Iy {l:List Nmd} {s:ByteArray}:gt l s=none↔∀ x∈l,x.1≠s:=by
 rw[← Oda]
 unfold gt
 cases fnd l s with
 |none=>simp
 |some i=>simp
def Wu {l:List Nmd} (hs:Bq l) {x:Nmd} (hx:x∈l):gt l x.1=some x.2:=by
 cases h:gt l x.1 with
 |none=>exact absurd rfl (Iy.1 h x hx)
 |some b=>rw[show x=(x.1,b) from Ska hs hx (Ix h) rfl]
def Aka {l:List Nmd} (hs:Bq l) {s:ByteArray} {b:List Int}:gt l s=some b↔(s,b)∈l:=⟨Ix,λ h=>Wu hs h⟩
def Kya {l:List Nmd} {s:ByteArray}:(gt l s).isSome=(fnd l s).isSome:=by
 unfold gt
 cases fnd l s<;>rfl
def O8 {l:List Nmd} (hs:Bq l) {s t:ByteArray}:gt (cut l s) t=if s=t then none else gt l t:=by
 by_cases h:s=t
 ·subst h
  rw[if_pos rfl,Iy]
  exact Ry
 ·rw[if_neg h]
  cases hg:gt l t with
  |none=>exact Iy.2 λ x hx=>Iy.1 hg x (Rx.subset hx)
  |some b=>
   rw[Aka (I7 hs)]
   refine Yza.2 ⟨Ix hg,?_⟩
   cases ht:teq t s with
   |false=>simp[ht]
   |true=>exact absurd (B9.1 ht).symm h
def Qka {l:List Nmd} (hs:Bq l) {x:Nmd} (hn:∀ y∈l,y.1≠x.1) {t:ByteArray}:gt (ins l x) t=if x.1=t then some x.2 else gt l t:=by
 have hi:=Mg hs hn
 by_cases h:x.1=t
 ·subst h
  rw[if_pos rfl,Aka hi]
  exact Pe.2 (.inl rfl)
 ·rw[if_neg h]
  cases hg:gt l t with
  |none=>
   refine Iy.2 λ y hy=>?_
   rcases Pe.1 hy with rfl|hy
   ·exact h
   ·exact Iy.1 hg y hy
  |some b=>
   rw[Aka hi]
   exact Pe.2 (.inr (Ix hg))
def Uva:∀ {l m:List Nmd},Bq l→Bq m→(∀ s,gt l s=gt m s)→l=m:=by
 have key:∀ {l m:List Nmd},Bq l→Bq m→(∀ s,gt l s=gt m s)→∀ x∈l,x∈m:=λ hl hm h x hx=>by
  have:=h x.1
  rw[Wu hl hx]at this
  exact Ix this.symm
 intro l m hl hm h
 have h1:∀ x,x∈l↔x∈m:=λ x=>⟨key hl hm h x,key hm hl (λ s=>(h s).symm) x⟩
 clear h key
 induction l generalizing m with
 |nil=>
  cases m with
  |nil=>rfl
  |cons y m=>exact absurd ((h1 y).2 (by simp)) (by simp)
 |cons x l ih=>
  cases m with
  |nil=>exact absurd ((h1 x).1 (by simp)) (by simp)
  |cons y m=>
   obtain⟨a1,a2⟩:=Wb.1 hl
   obtain⟨b1,b2⟩:=Wb.1 hm
   have e:x=y:=by
    rcases Vk.1 ((h1 x).1 (by simp)) with h|h
    ·exact h
    ·rcases Vk.1 ((h1 y).2 (by simp)) with h'|h'
     ·exact h'.symm
     ·have c1:=a1 y h'
      rw[Ro (b1 x h)]at c1
      cases c1
   subst e
   congr 1
   refine ih a2 b2 λ z=>⟨λ hz=>?_,λ hz=>?_⟩
   ·rcases Vk.1 ((h1 z).1 (Vd _ hz)) with rfl|h
    ·have c:=a1 z hz
     rw[Es]at c
     cases c
    ·exact h
   ·rcases Vk.1 ((h1 z).2 (Vd _ hz)) with rfl|h
    ·have c:=b1 z hz
     rw[Es]at c
     cases c
    ·exact h
def Uwa (l:List Nmd) (s:ByteArray):rdN l s=match gt l s with|some b=>(b,true)|none=>([],false):=by
 unfold rdN gt
 cases fnd l s<;>rfl
def Mh {s:ByteArray} (h:Cg s=true):Pc s:=by
 have:=(Ru h).2
 unfold Pc
 omega
def Ds {d:Dsk}:Ci d=true↔Fx d.1=true∧Fx d.2=true:=by
 unfold Ci
 rw[Va]
def H4 {d:Dsk} (h:Ci d=true):Bq d.1:=(Ap.1 (Ds.1 h).1).1
def Jl {d:Dsk} (h:Ci d=true):Bq d.2:=(Ap.1 (Ds.1 h).2).1
def LB (l:List Nmd):Prop:=∀ x∈l,Al x.2
def DB (d:Dsk):Prop:=LB d.1∧LB d.2
def LB.cut {l:List Nmd} (h:LB l) (s:ByteArray):LB (cut l s):=λ x hx=>h x (Rx.subset hx)
def LB.ins {l:List Nmd} (h:LB l) {x:Nmd} (hx:Al x.2):LB (ins l x):=λ y hy=>by
 rcases Pe.1 hy with rfl|hy
 ·exact hx
 ·exact h y hy
def LB.gt {l:List Nmd} (h:LB l) {s:ByteArray} {b:List Int} (hg:gt l s=some b):Al b:=h _ (Ix hg)
def Ala:Al []:=λ x hx=>by cases hx
def wr (l:List Nmd) (s:ByteArray) (b:List Int):List Nmd:=ins (cut l s) (s,b)
def sy (d:Dsk) (s:ByteArray):List Nmd:=match gt d.1 s with
 |some b=>wr d.2 s b
 |none=>cut d.2 s
def wrD (d:Dsk) (s:ByteArray) (b:List Int):Dsk×Bool:=bif decide (b.length≤400)&&decide ((wr d.1 s b).length≤60) then ((wr d.1 s b,d.2),true) else (d,false)
def syD (d:Dsk) (s:ByteArray):Dsk×Bool:=bif decide ((sy d s).length≤60) then ((d.1,sy d s),true) else (d,false)
def rmD (d:Dsk) (s:ByteArray):Dsk×Bool:=bif (gt d.1 s).isSome then ((cut d.1 s,d.2),true) else (d,false)
section
variable {d:Dsk} {s:ByteArray} {b:List Int}
def Uxa (hd:Ci d=true):wrI d s b=wr d.1 s b:=by
 unfold wrI wr
 rw[Rw (H4 hd)]
def Uya (hd:Ci d=true):syI d s=sy d s:=by
 unfold syI sy gt wr
 rw[Rw (Jl hd)]
 cases fnd d.1 s<;>rfl
def Sma (hd:Ci d=true) (hs:Cg s=true) (hb:b.length≤400) (hl:(wr d.1 s b).length≤60):Ci (wr d.1 s b,d.2)=true:=by
 have:=(Ofa (b:=b) hd hs).2
 rw[Uxa hd,decide_eq_true hb,decide_eq_true hl]at this
 exact this
def Wua (hd:Ci d=true) (hs:Cg s=true) (hl:(sy d s).length≤60):Ci (d.1,sy d s)=true:=by
 have:=Sja hd hs
 rw[Uya hd,decide_eq_true hl]at this
 exact this
def Uza (hd:Ci d=true) (hs:Cg s=true):Ci (wrD d s b).1=true:=by
 unfold wrD
 cases hc:decide (b.length≤400)&&decide ((wr d.1 s b).length≤60)
 ·exact hd
 rw[Va,decide_eq_true_iff,decide_eq_true_iff]at hc
 exact Sma hd hs hc.1 hc.2
def V0a (hd:Ci d=true) (hs:Cg s=true):Ci (syD d s).1=true:=by
 unfold syD
 cases hc:decide ((sy d s).length≤60) with
 |false=>exact hd
 |true=>exact Wua hd hs (of_decide_eq_true hc)
def V1a (hd:Ci d=true):Ci (rmD d s).1=true:=by
 unfold rmD
 cases (gt d.1 s).isSome with
 |false=>exact hd
 |true=>exact Ds.2 ⟨Pu (Ds.1 hd).1,(Ds.1 hd).2⟩
def Sna (hd:Ci d=true) (h:(gt d.1 s).isSome=true):Cg s=true:=by
 cases hg:gt d.1 s with
 |none=>rw[hg]at h;cases h
 |some b=>exact(Lw.1 ((Ap.1 (Ds.1 hd).1).2.1 _ (Ix hg))).1
end
def lkD (d:Dsk) (s:ByteArray):Fil×Int:=match gt d.1 s with
 |none=>(Oga,1)
 |some b=>match Iw b with
  |some f=>(f,0)
  |none=>(Oga,2)
def V2a {l:List Nmd} {s:ByteArray} {b:List Int} (h:Sha l) (hg:gt l s=some b):b.length≤1000000000000:=h.2 _ (Ix hg)
def Wv {d:Dsk} (hf:Sha d.1) (hb:LB d.1) (s:ByteArray):Tot (λ k=>Fc k d s) (λ r=>r=lkD d s):=by
 unfold Fc lkD
 refine Y0a (Oca d s hf) ?_
 rw[Uwa]
 cases hg:gt d.1 s with
 |none=>exact Xra rfl (Xoa rfl)
 |some b=>
  refine Xqa rfl (Y0a (Na b (hb.gt hg) (V2a hf hg)) ?_)
  unfold Aia
  dsimp only
  cases Iw b with
  |none=>exact Xra rfl (Xoa rfl)
  |some f=>exact Xqa rfl (Xoa rfl)
def Ly {d:Dsk} {s:ByteArray} {f:Fil}:lkD d s=(f,0)↔∃ b,gt d.1 s=some b∧Iw b=some f:=by
 unfold lkD
 cases gt d.1 s with
 |none=>simp
 |some b=>cases h:Iw b<;>simp[h]
def old (d:Dsk) (s:ByteArray):Option Fil:=(gt d.1 s).bind Iw
def kp1 (d:Dsk) (s:ByteArray) (f:Fil):Option (Dsk×Int):=
 let w:=bif (wrD d s (H3 f)).2 then some ((wrD d s (H3 f)).1,(0:Int)) else none
 match old d s with
 |some o=>bif sle o.1 f.1 then w else some (d,1)
 |none=>w
def kp2 (d:Dsk) (s:ByteArray) (sure:Bool) (x:Dsk×Int):Dsk×Int:=bif sure then (bif (syD x.1 s).2 then ((syD x.1 s).1,x.2) else (d,3)) else x
def Iz (d:Dsk) (s:ByteArray) (f:Fil) (sure:Bool):Dsk×Int:=match kp1 d s f with
 |some x=>kp2 d s sure x
 |none=>(d,3)
def keep (d:Dsk) (s:ByteArray) (f:Fil) (sure:Bool):Dsk×Int:=bif Ci d&&(Cg s&&Fq f) then Iz d s f sure else (d,2)
def V3a {d:Dsk} {s:ByteArray} {f:Fil} (hd:Ci d=true) (hs:Cg s=true) {x:Dsk×Int} (h:kp1 d s f=some x):Ci x.1=true:=by
 have hw:∀ x,(bif (wrD d s (H3 f)).2 then some ((wrD d s (H3 f)).1,(0:Int)) else none)=some x→Ci x.1=true:=by
  intro x h
  cases hc:(wrD d s (H3 f)).2 with
  |false=>rw[hc]at h;cases h
  |true=>rw[hc]at h;cases h;exact Uza hd hs
 unfold kp1 at h
 simp only at h
 split at h
 ·rename_i o _
  cases hc:sle o.1 f.1 with
  |false=>rw[hc]at h;cases h;exact hd
  |true=>rw[hc]at h;exact hw _ h
 ·exact hw _ h

def DG (d:Dsk):Prop:=Ci d=true∧DB d
def V4a {d:Dsk} {s:ByteArray} {b:List Int} (hd:Ci d=true) (h:gt d.1 s=some b):b.length≤400:=(Lw.1 ((Ap.1 (Ds.1 hd).1).2.1 _ (Ix h))).2
def V5a {d:Dsk} {s:ByteArray} {b:List Int} (h:DB d) (hb:Al b):DB (wrD d s b).1:=by
 unfold wrD
 cases decide (b.length≤400)&&decide ((wr d.1 s b).length≤60) with
 |false=>exact h
 |true=>exact⟨(h.1.cut s).ins hb,h.2⟩
def Wva {d:Dsk} {s:ByteArray} (h:DB d):LB (sy d s):=by
 unfold sy
 cases hg:gt d.1 s with
 |none=>exact h.2.cut s
 |some b=>exact(h.2.cut s).ins (h.1.gt hg)
def V6a {d:Dsk} {s:ByteArray} (h:DB d):DB (syD d s).1:=by
 unfold syD
 cases decide ((sy d s).length≤60) with
 |false=>exact h
 |true=>exact⟨h.1,Wva h⟩
def V7a {d:Dsk} {s:ByteArray} (h:DB d):DB (rmD d s).1:=by
 unfold rmD
 cases (gt d.1 s).isSome with
 |false=>exact h
 |true=>exact⟨h.1.cut s,h.2⟩
def V8a {d:Dsk} {s:ByteArray} (h:DG d) (hs:Cg s=true):DG (syD d s).1:=⟨V0a h.1 hs,V6a h.2⟩
def Wwa {d:Dsk} {s:ByteArray} (h:DG d):DG (rmD d s).1:=⟨V1a h.1,V7a h.2⟩
def V9a {d:Dsk} {s:ByteArray} {f:Fil} (hd:DG d) (hs:Cg s=true) {x:Dsk×Int} (h:kp1 d s f=some x):DG x.1:=by
 refine⟨V3a hd.1 hs h,?_⟩
 have hw:∀ x,(bif (wrD d s (H3 f)).2 then some ((wrD d s (H3 f)).1,(0:Int)) else none)=some x→DB x.1:=by
  intro x h
  cases hc:(wrD d s (H3 f)).2 with
  |false=>rw[hc]at h;cases h
  |true=>rw[hc]at h;cases h;exact V5a hd.2 (Pf f)
 unfold kp1 at h
 simp only at h
 split at h
 ·rename_i o _
  cases hc:sle o.1 f.1 with
  |false=>rw[hc]at h;cases h;exact hd.2
  |true=>rw[hc]at h;exact hw _ h
 ·exact hw _ h
def Wxa {d:Dsk} {s:ByteArray} {sure:Bool} (hd:DG d) (hs:Cg s=true) {x:Dsk×Int} (hx:DG x.1):DG (kp2 d s sure x).1:=by
 unfold kp2
 cases sure
 ·exact hx
 rw[cond_true]
 cases (syD x.1 s).2 with
 |false=>exact hd
 |true=>exact V8a hx hs
def Kza {d:Dsk} {s:ByteArray} {f:Fil} {sure:Bool} (hd:DG d) (hs:Cg s=true):DG (Iz d s f sure).1:=by
 unfold Iz
 cases h:kp1 d s f with
 |none=>exact hd
 |some x=>exact Wxa hd hs (V9a hd hs h)
def Qla {d:Dsk} {s:ByteArray} {f:Fil} {sure:Bool} (hd:DG d):DG (keep d s f sure).1:=by
 unfold keep
 cases h:Cg s
 ·rw[hd.1];exact hd
 cases Fq f with
 |false=>rw[hd.1];exact hd
 |true=>rw[hd.1];exact Kza hd h
def Cza (b:Int) (j:Nat):Int:=((ofInt 8 b ^^^ BitVec.twoPow 8 j).toNat:Int)
def F4a (b:Int) (j:Nat):0≤Cza b j∧Cza b j≤255:=by
 unfold Cza
 have:=(ofInt 8 b ^^^ BitVec.twoPow 8 j).isLt
 omega
def Oka {b:Int} (hb:0≤b∧b≤255) {j:Nat} (hj:j<8):Cza b j≠b:=by
 intro h
 unfold Cza at h
 have h1:b=((ofInt 8 b).toNat:Int):=by rw[Aab];omega
 have h2:(ofInt 8 b ^^^ BitVec.twoPow 8 j).toNat=(ofInt 8 b).toNat:=by omega
 have h3:=Aqb h2
 have h4:BitVec.twoPow 8 j=0#8:=by
  have:=congrArg (λ x=>ofInt 8 b ^^^ x) h3
  simpa[← BitVec.xor_assoc] using this
 have h5:∀ j,j<8→BitVec.twoPow 8 j≠0#8:=by decide
 exact h5 j hj h4
def J0 (l:List Int) (n:Nat):List Int:=l.set (n/8) (Cza (l.getD (n/8) 0) (n % 8))
def Ama (l:List Int) (n:Nat):(J0 l n).length=l.length:=by unfold J0;rw[Wc]
def D0a {l:List Int} (h:Al l) (n:Nat):Al (J0 l n):=λ x hx=>by
 rcases Yq hx with h'|rfl
 ·exact h x h'
 ·exact F4a _ _
def Gza (d:Dsk) (s:ByteArray) (n:Int):Dsk×Bool:=match gt d.1 s with
 |none=>(d,false)
 |some b=>bif inR n 0 (8*(b.length:Int)-1) then ((wr d.1 s (J0 b n.toNat),bif decide (gt d.2 s=some b) then wr d.2 s (J0 b n.toNat) else d.2),true) else (d,false)
def Vaa {l:List Nmd} (hs:Bq l) {s:ByteArray} {i:Nat} (h:fnd l s=some i) (b:List Int):l.set i (s,b)=wr l s b:=by
 obtain⟨hi,hn⟩:=U5 h
 have hm:(l.set i (s,b)).map Prod.fst=l.map Prod.fst:=by
  rw[List.map_set]
  apply Z0a
  intro j
  by_cases hj:i=j
  ·subst hj
   rw[Zla (by rw[Wf];exact hi),Zy,Vg hi]
   rw[Vb,Vg hi]at hn
   exact congrArg some hn.symm
  ·rw[Z4a hj]
 have h1:Bq (l.set i (s,b)):=by
  have e:∀ m:List Nmd,Bq m↔(m.map Prod.fst).Pairwise (λ a b=>tlt a b=true):=λ m=>by
   unfold Bq
   rw[Zm]
  rw[e,hm,← e]
  exact hs
 refine Uva h1 (Mg (I7 hs) Ry) λ t=>?_
 have h2:=Qka (x:=(s,b)) (t:=t) (I7 hs (s:=s)) Ry
 unfold wr
 rw[h2]
 by_cases ht:s=t
 ·subst ht
  rw[if_pos rfl,Aka h1]
  exact List.mem_set hi _
 ·rw[if_neg ht,O8 hs,if_neg ht]
  cases hg:gt l t with
  |none=>
   refine Iy.2 λ x hx=>?_
   rcases Yq hx with h'|rfl
   ·exact Iy.1 hg x h'
   ·exact ht
  |some c=>
   rw[Aka h1]
   obtain⟨j,hj,e⟩:=Yx.1 (Ix hg)
   have hij:i≠j:=by
    rintro rfl
    rw[Vb,Vg hi,Yv,e]at hn
    exact ht hn.symm
   refine Yx.2 ⟨j,by rw[Wc];exact hj,?_⟩
   rw[List.getElem_set_ne hij]
   exact e
def Ana {l:List Nmd} {s:ByteArray} {b:List Int} (hs:Bq l) (h:(gt l s).isSome=true):(wr l s b).length=l.length:=by
 rw[Kya]at h
 obtain⟨i,hi⟩:=Zh.1 h
 rw[← Vaa hs hi,Wc]
def Vba {d:Dsk} {s:ByteArray} {n:Int} (h:DG d):DG (Gza d s n).1:=by
 unfold Gza
 cases hg:gt d.1 s with
 |none=>exact h
 |some b=>
  simp only
  cases inR n 0 (8*(b.length:Int)-1)
  ·exact h
  have hn:=Sna h.1 (s:=s) (by rw[hg];rfl)
  have hb:=V4a h.1 hg
  have hbb:=D0a (h.2.1.gt hg) n.toNat
  have l1:=Ana (b:=J0 b n.toNat) (H4 h.1) (s:=s) (by rw[hg];rfl)
  have q1:=Sma h.1 hn (b:=J0 b n.toNat) (by rw[Ama];exact hb) (by rw[l1];exact(Ap.1 (Ds.1 h.1).1).2.2)
  rw[cond_true]
  cases hc:decide (gt d.2 s=some b)
  ·exact⟨q1,(h.2.1.cut s).ins hbb,h.2.2⟩
  have hg2:=of_decide_eq_true hc
  have l2:=Ana (b:=J0 b n.toNat) (Jl h.1) (s:=s) (by rw[hg2];rfl)
  have h':Ci (d.2,d.1)=true:=Ds.2 ⟨(Ds.1 h.1).2,(Ds.1 h.1).1⟩
  have q2:=Sma h' hn (b:=J0 b n.toNat) (by rw[Ama];exact hb) (by show (wr d.2 s _).length≤60;rw[l2];exact(Ap.1 (Ds.1 h.1).2).2.2)
  exact⟨Ds.2 ⟨(Ds.1 q1).1,(Ds.1 q2).1⟩,(h.2.1.cut s).ins hbb,(h.2.2.cut s).ins hbb⟩
def lb0:LB []:=λ x hx=>by cases hx
def dg0:DG ([],[]):=⟨by decide,⟨lb0,lb0⟩⟩

section
variable {d:Dsk} {s:ByteArray} {f:Fil} {sure:Bool}
def Ola (a:Stp):sle a a=false:=G3 a
def S4 (h1:Ci d=true) (h2:Cg s=true) (h3:Fq f=true):keep d s f sure=Iz d s f sure:=by unfold keep;rw[h1,h2,h3];rfl
def Aoa {x:Dsk} {c:Int}:(kp2 d s sure (x,c)=(d,3))∨(sure=false∧kp2 d s sure (x,c)=(x,c))∨(sure=true∧(sy x s).length≤60∧kp2 d s sure (x,c)=((x.1,sy x s),c)):=by
 unfold kp2 syD
 cases sure
 ·exact .inr (.inl ⟨rfl,rfl⟩)
 rw[cond_true]
 by_cases h:(sy x s).length≤60
 ·rw[decide_eq_true h]
  exact .inr (.inr ⟨rfl,h,rfl⟩)
 ·rw[decide_eq_false h]
  exact .inl rfl
def L0a (hd:DG d) (hs:Cg s=true):kp1 d s f=none∨(∃ o,old d s=some o∧sle o.1 f.1=false∧kp1 d s f=some (d,1))∨((∀ o,old d s=some o→sle o.1 f.1=true)∧(wr d.1 s (H3 f)).length≤60∧kp1 d s f=some ((wr d.1 s (H3 f),d.2),0)):=by
 have hl:(H3 f).length≤400:=by have:=F3a f;omega
 have w:(bif (wrD d s (H3 f)).2 then some ((wrD d s (H3 f)).1,(0:Int)) else none)=none∨((wr d.1 s (H3 f)).length≤60∧(bif (wrD d s (H3 f)).2 then some ((wrD d s (H3 f)).1,(0:Int)) else none)=some ((wr d.1 s (H3 f),d.2),0)):=by
  unfold wrD
  rw[decide_eq_true hl,Wd]
  by_cases h:(wr d.1 s (H3 f)).length≤60
  ·rw[decide_eq_true h];exact .inr ⟨h,rfl⟩
  ·rw[decide_eq_false h];exact .inl rfl
 unfold kp1
 cases ho:old d s with
 |none=>
  rcases w with h|⟨h1,h2⟩
  ·exact .inl h
  ·exact .inr (.inr ⟨λ o h=>(by cases h),h1,h2⟩)
 |some o=>
  simp only
  cases hc:sle o.1 f.1
  ·exact .inr (.inl ⟨o,rfl,hc,rfl⟩)
  rcases w with h|⟨h1,h2⟩
  ·exact .inl h
  ·exact .inr (.inr ⟨λ o' h=>(by cases h;exact hc),h1,h2⟩)
def Pg (hd:DG d) (hs:Cg s=true):Iz d s f sure=(d,3)∨
  (∃ o,old d s=some o∧sle o.1 f.1=false∧(Iz d s f sure).2=1∧DG (Iz d s f sure).1∧((sure=false∧(Iz d s f sure).1=d)∨(sure=true∧(Iz d s f sure).1=(d.1,sy d s))))∨
  ((∀ o,old d s=some o→sle o.1 f.1=true)∧DG (wr d.1 s (H3 f),d.2)∧(Iz d s f sure).2=0∧DG (Iz d s f sure).1∧((sure=false∧(Iz d s f sure).1=(wr d.1 s (H3 f),d.2))∨(sure=true∧(Iz d s f sure).1=(wr d.1 s (H3 f),sy (wr d.1 s (H3 f),d.2) s)))):=by
 have hg:=Kza (f:=f) (sure:=sure) hd hs
 rcases L0a (f:=f) hd hs with h|⟨o,h1,h2,h⟩|⟨h1,h2,h⟩
 ·exact .inl (by unfold Iz;rw[h])
 ·have e:Iz d s f sure=kp2 d s sure (d,1):=by unfold Iz;rw[h]
  rcases Aoa (d:=d) (s:=s) (sure:=sure) (x:=d) (c:=1) with k|⟨k0,k⟩|⟨k0,k1,k⟩
  ·exact .inl (e.trans k)
  ·rw[← e]at k
   exact .inr (.inl ⟨o,h1,h2,by rw[k],hg,.inl ⟨k0,by rw[k]⟩⟩)
  ·rw[← e]at k
   exact .inr (.inl ⟨o,h1,h2,by rw[k],hg,.inr ⟨k0,by rw[k]⟩⟩)
 ·have e:Iz d s f sure=kp2 d s sure ((wr d.1 s (H3 f),d.2),0):=by unfold Iz;rw[h]
  have hw:=V9a hd hs h
  rcases Aoa (d:=d) (s:=s) (sure:=sure) (x:=(wr d.1 s (H3 f),d.2)) (c:=0) with k|⟨k0,k⟩|⟨k0,k1,k⟩
  ·exact .inl (e.trans k)
  ·rw[← e]at k
   exact .inr (.inr ⟨h1,hw,by rw[k],hg,.inl ⟨k0,by rw[k]⟩⟩)
  ·rw[← e]at k
   exact .inr (.inr ⟨h1,hw,by rw[k],hg,.inr ⟨k0,by rw[k]⟩⟩)
def Apa {l:List Nmd} (hs:Bq l) {s t:ByteArray} {b:List Int}:gt (wr l s b) t=if s=t then some b else gt l t:=by
 unfold wr
 rw[Qka (x:=(s,b)) (I7 hs) Ry]
 by_cases h:s=t
 ·rw[if_pos h,if_pos h]
 ·rw[if_neg h,if_neg h,O8 hs,if_neg h]
def D1a (hd:Ci d=true) {t:ByteArray}:gt (sy d s) t=if s=t then gt d.1 s else gt d.2 t:=by
 unfold sy
 cases h:gt d.1 s with
 |none=>rw[O8 (Jl hd)]
 |some b=>rw[Apa (Jl hd)]
def L1a (hd:DG d) (hs:Cg s=true) (hf:Fq f=true) (hb:Al f.2.2) (h:(Iz d s f true).2=0∨(Iz d s f true).2=1):
  ∃ o g b,DG o∧DG (Iz d s f true).1∧(Iz d s f true).1=(o.1,sy o s)∧gt o.1 s=some b∧Iw b=some g∧sle g.1 f.1=false:=by
 rcases Pg (f:=f) (sure:=true) hd hs with k|⟨o,h1,h2,k,hg,h3⟩|⟨h1,h2,k,hg,h3⟩
 ·rw[k]at h;rcases h with h|h<;>cases h
 ·rcases h3 with⟨h3,_⟩|⟨_,h3⟩
  ·cases h3
  ·have ho:(gt d.1 s).bind Iw=some o:=h1
   cases hg1:gt d.1 s with
   |none=>rw[hg1]at ho;cases ho
   |some b=>
    rw[hg1]at ho
    exact⟨d,o,b,hd,hg,h3,hg1,ho,h2⟩
 ·rcases h3 with⟨h3,_⟩|⟨_,h3⟩
  ·cases h3
  ·exact⟨(wr d.1 s (H3 f),d.2),f,H3 f,h2,hg,h3,by show gt (wr d.1 s (H3 f)) s=_;rw[Apa (H4 hd.1),if_pos rfl],O7 hf hb,Ola _⟩
end

abbrev Nod:=Int×Dsk×List Row×List Row
def qOk (l:List Row):Bool:=l.all Jj
def L6 (n:Nod):Bool:=qOk n.2.2.2&&(inR n.1 0 20&&(Ci n.2.1&&(Hm n.2.2.1&&decide ((n.2.2.2.length:Int)≤60))))
def RF (l:List Row):Prop:=l.length≤2000000∧W7 l
def NIn (n:Nod):Prop:=(DIn n.2.1∧DB n.2.1)∧RF n.2.2.1∧RF n.2.2.2
def NG (n:Nod):Prop:=L6 n=true∧DB n.2.1
def Bl {n:Nod}:L6 n=true↔(∀ r∈n.2.2.2,Jj r=true)∧(0≤n.1∧n.1≤20)∧Ci n.2.1=true∧Hm n.2.2.1=true∧n.2.2.2.length≤60:=by
 unfold L6 qOk
 simp only[Va,We,Fk,decide_eq_true_iff]
 constructor
 ·rintro⟨h1,h2,h3,h4,h5⟩;exact⟨h1,h2,h3,h4,by omega⟩
 ·rintro⟨h1,h2,h3,h4,h5⟩;exact⟨h1,h2,h3,h4,by omega⟩
def Soa {l:List Row} (h:Hm l=true):RF l:=by
 obtain⟨_,h2,h3⟩:=Ha.1 h
 exact⟨by omega,λ r hr=>Mh (U4 (h2 r hr))⟩
def Vca {n:Nod} (h:NG n):NIn n:=by
 obtain⟨h1,_,h3,h4,h5⟩:=Bl.1 h.1
 exact⟨⟨Uua h3,h.2⟩,Soa h4,by omega,λ r hr=>Mh (U4 (h1 r hr))⟩
def NG.g {n:Nod} (h:NG n):DG n.2.1:=⟨(Bl.1 h.1).2.2.1,h.2⟩
def F5a (n:Nod) (hn:NIn n):Tot (λ k=>Bw k n) (λ r=>r=L6 n):=by
 obtain⟨i,⟨a,b⟩,ro,q⟩:=n
 obtain⟨⟨hd,_⟩,hr,hq⟩:=hn
 dsimp only at hd hr hq
 unfold Bw
 have hl:=hq.1
 refine Xpa (Q:=λ r=>r=bif qOk q then .inr (i,a,b,ro,q) else .inl false) ?_ ?_
 ·refine Xxa (L:=λ k i' (_:Unit)=>De k q (q.length:Int) i' i a b ro q) (Q:=λ r=>r=bif qOk q then .inr (i,a,b,ro,q) else .inl false) q.length (λ j _=>(q.drop j).all Jj=q.all Jj) ?_ ?_ 0 () (Vw _) (by rw[Zi])
  ·intro _ hj
   rw[Wl]at hj
   simp only[De]
   exact Xta (by omega) (Xoa (by unfold qOk;rw[← hj];rfl))
  ·intro j _ hj hi next
   simp only[De]
   rw[B8 (d:=Kd) hj,Z2a]at hi
   refine Xsa (by omega) (Xsa (by omega) (Xsa (by omega) ?_))
   rw[Vl,w64 (n:=(j:Int)+1) (by omega) (by omega)]
   refine Y0a (Kha (q.getD j Kd) (hq.2 _ (A3 hj))) ?_
   cases hc:Jj (q.getD j Kd) with
   |false=>exact Xra rfl (Xoa (by unfold qOk;rw[← hi,hc];rfl))
   |true=>exact Xqa rfl (next () (by rw[hc,Wd]at hi;exact hi))
 ·rintro r rfl
  unfold L6
  dsimp only
  cases qOk q
  ·exact Xoa rfl
  simp only[cond_true,Yya,Wd]
  refine Y0a (Y2a (Q:=λ r=>r=inR i 0 20) (O5 _ _ _) rfl) ?_
  cases inR i 0 20
  ·exact Xqa rfl (Xoa rfl)
  refine Xra rfl (Y0a (Oba (a,b) hd.1.1 hd.1.2) ?_)
  cases Ci (a,b)
  ·exact Xqa rfl (Xoa rfl)
  refine Xra rfl (Y0a (O4a ro (by have:=hr.1;unfold Few;omega) hr.2) ?_)
  cases Hm ro with
  |false=>exact Xqa rfl (Xoa rfl)
  |true=>exact Xra rfl (Xoa rfl)
def D2a {a b:List Row} (ha:Hm a=true) (hb:Hm b=true) (h:(Oi a b).length≤60):Hm (Oi a b)=true:=by
 obtain⟨a1,a2,_⟩:=Ha.1 ha
 obtain⟨b1,b2,_⟩:=Ha.1 hb
 exact Ha.2 ⟨I6 a1,λ r hr=>(W8 hr).elim (a2 r) (b2 r),h⟩
def T3 (s:ByteArray) (f:Fil):Row:=(s,f.1,f.2.1,(f.2.2.length:Int))
def Ww (n:Nod) (s:ByteArray) (f:Fil) (sure:Bool):Nod×Int:=bif (n.2.2.2.length:Int)==60 then (n,3) else
 ((n.1,(keep n.2.1 s f sure).1,n.2.2.1,bif (keep n.2.1 s f sure).2==0&&sure then n.2.2.2++[T3 s f] else n.2.2.2),(keep n.2.1 s f sure).2)
def Oma {s:ByteArray} {f:Fil} (hs:Cg s=true) (hf:Fq f=true):Jj (T3 s f)=true:=by
 obtain⟨h1,h2,h3⟩:=Hv.1 hf
 unfold Jj T3
 dsimp only
 rw[hs,h1,Fk.2 ⟨by omega,by omega⟩]
 cases hd:f.2.1 with
 |false=>rfl
 |true=>rw[h3 hd];rfl
def Qma {n:Nod} {s:ByteArray} {f:Fil} {sure:Bool} (hn:NG n) (hs:Cg s=true) (hf:Fq f=true):NG (Ww n s f sure).1:=by
 obtain⟨h1,h2,h3,h4,h5⟩:=Bl.1 hn.1
 have hk:=Qla (s:=s) (f:=f) (sure:=sure) hn.g
 unfold Ww
 cases hl:((n.2.2.2.length:Int)==60)
 case true=>exact hn
 have hl':n.2.2.2.length≠60:=by
  intro e
  rw[e]at hl
  cases hl
 refine⟨Bl.2 ⟨?_,h2,hk.1,h4,?_⟩,hk.2⟩
 ·show ∀ r∈bif (keep n.2.1 s f sure).2==0&&sure then n.2.2.2++[T3 s f] else n.2.2.2,Jj r=true
  cases (keep n.2.1 s f sure).2==0&&sure
  ·exact h1
  intro r hr
  rcases Vm.1 hr with hr|hr
  ·exact h1 r hr
  ·rw[Vp.1 hr];exact Oma hs hf
 ·show (bif (keep n.2.1 s f sure).2==0&&sure then n.2.2.2++[T3 s f] else n.2.2.2).length≤60
  cases (keep n.2.1 s f sure).2==0&&sure with
  |false=>exact h5
  |true=>rw[cond_true,Vi];simp only[Vh,Vq];omega
def Hra (n:Nod) (s:ByteArray) (b:Int):Nod×Bool:=bif L6 n&&((lkD n.2.1 s).2==0&&(Gza n.2.1 s b).2) then ((n.1,(Gza n.2.1 s b).1,n.2.2),true) else (n,false)
def Qna {n:Nod} {s:ByteArray} {b:Int} (hn:NG n):NG (Hra n s b).1:=by
 obtain⟨h1,h2,h3,h4,h5⟩:=Bl.1 hn.1
 have hr:=Vba (s:=s) (n:=b) hn.g
 unfold Hra
 cases L6 n&&((lkD n.2.1 s).2==0&&(Gza n.2.1 s b).2) with
 |false=>exact hn
 |true=>exact⟨Bl.2 ⟨h1,h2,hr.1,h4,h5⟩,hr.2⟩
def A7:Nod:=((0:Int),(([]:List Nmd),([]:List Nmd)),([]:List Row),([]:List Row))
def D3a (i:Int):F8 i=some (bif inR i 0 20 then (i,([],[]),[],[]) else A7):=by
 unfold F8
 rw[Exa]
 simp only[Vt]
 cases inR i 0 20<;>rfl

end Go.Proofs.Ytiiekghlhfbmmaa.Vf
