import Derived.Test.YtlfoljnopndpeaaMaj
set_option linter.unusedVariables false
set_option linter.unusedSimpArgs false
namespace Go.Proofs.Ytlfoljnopndpeaa.Vf
open Go

theorem A7a (l:List Int) (hb:Aq l) (hl:l.length≤1000000000000) (p:Nat) (hp:p<l.length):∀ (f i acc:Nat),f+i=5→acc<128 ^ i→
  Tot (λ k=>B9 k l (p:Int) (acc:Int) (i:Int)) (λ r=>Oa r=Lba p (Ou f i acc (l.drop (p+i)))):=by
 intro f
 induction f with
 |zero=>
  intro i acc hi ha
  refine Tot.succ ?_
  simp only [B9]
  exact Tot.ndec (by omega) (Tot.pure rfl)
 |succ f ih=>
  intro i acc hi ha
  have hi5:i<5:=by omega
  refine Tot.succ ?_
  simp only [B9]
  refine Tot.dec (by omega) (Tot.dec (by omega) (Tot.dec (by omega) ?_))
  rw [w64 (n:=(p:Int)+(i:Int)) (by omega) (by omega),show Int.toNat ((p:Int)+(i:Int))=p+i by omega]
  refine Tot.dite (λ h=>?_) (λ h=>?_)
  ·have hlt:p+i<l.length:=by omega
   refine Tot.dec (by omega) (Tot.dec (by omega) ?_)
   have hx:=hb (l.getD (p+i) 0) (Bi hlt)
   rw [Sr hlt,Lna i hi5]
   have he:Ou (f+1) i acc (l.getD (p+i) 0::l.drop (p+i+1))=if 128≤l.getD (p+i) 0 then Ou f (i+1) (acc+(l.getD (p+i) 0).toNat % 128 * 128 ^ i) (l.drop (p+i+1)) else if (l.getD (p+i) 0=0∧0<i)∨1000000000<acc+(l.getD (p+i) 0).toNat % 128 * 128 ^ i then none else some (acc+(l.getD (p+i) 0).toNat % 128 * 128 ^ i,i+1):=rfl
   rw [he]
   generalize l.getD (p+i) 0=x at hx ⊢
   obtain ⟨v,rfl⟩:∃ v:Nat,x=(v:Int):=⟨x.toNat,by omega⟩
   rw [Int.toNat_natCast]
   have hp1:=I9 i (by omega)
   have hmul:v % 128 * 128 ^ i≤127 * 34359738368:=Nat.mul_le_mul (by omega) hp1
   rw [w64 (n:=(v:Int)) (by omega) (by omega),Hna v (by omega)]
   have e1:((v % 128:Nat):Int) * ((128 ^ i:Nat):Int)=((v % 128 * 128 ^ i:Nat):Int):=by push_cast; rfl
   rw [e1,w64 (n:=((v % 128 * 128 ^ i:Nat):Int)) (by omega) (by omega),Xp acc (v % 128) i ha (by omega) hi5,w64 (n:=(i:Int)+1) (by omega) (by omega),w64 (n:=(p:Int)+(i:Int)+1) (by omega) (by omega)]
   refine Tot.ndec (sh7 i hi5).2 ?_
   refine Tot.dite (λ h128=>?_) (λ h128=>?_)
   ·rw [if_pos (by omega)]
    have h1:acc+v % 128 * 128 ^ i<128 ^ (i+1):=by
     have h2:v % 128≤127:=by omega
     have h3:=Nat.mul_le_mul_right (128 ^ i) h2
     rw [Nat.pow_succ]
     omega
    have:=ih (i+1) (acc+v % 128 * 128 ^ i) (by omega) h1
    rw [show p+(i+1)=p+i+1 by omega] at this
    exact this
   ·rw [if_neg (by omega)]
    have big:Tot (λ _:Nat=>cond (decide (((acc+v % 128 * 128 ^ i:Nat):Int) > 1000000000)) (some (Sum.inl ((0:Int),(0:Int),false))) (some (Sum.inl (((acc+v % 128 * 128 ^ i:Nat):Int),(p:Int)+(i:Int)+1,true))):Nat→Option (Sum (Int×Int×Bool) Unit))
      (λ r=>Oa r=if 1000000000<acc+v % 128 * 128 ^ i then (0,0,false) else (((acc+v % 128 * 128 ^ i:Nat):Int),((p+(i+1):Nat):Int),true)):=by
     refine Tot.dite (λ hbig=>?_) (λ hbig=>?_)
     ·rw [if_pos (by omega)]; exact Tot.pure rfl
     ·rw [if_neg (by omega)]
      refine Tot.pure ?_
      show (_,_,_)=_
      rw [show (p:Int)+(i:Int)+1=((p+(i+1):Nat):Int) by omega]
    have goal:∀ c:Prop,[Decidable c]→(if c∨1000000000<acc+v % 128 * 128 ^ i then none else some (acc+v % 128 * 128 ^ i,i+1))=if c then none else if 1000000000<acc+v % 128 * 128 ^ i then (none:Option (Nat×Nat)) else some (acc+v % 128 * 128 ^ i,i+1):=by
     intro c _
     by_cases h1:c<;>by_cases h2:1000000000<acc+v % 128 * 128 ^ i<;>simp [h1,h2]
    rw [goal]
    have fin:(Lba p (if 1000000000<acc+v % 128 * 128 ^ i then (none:Option (Nat×Nat)) else some (acc+v % 128 * 128 ^ i,i+1)))=if 1000000000<acc+v % 128 * 128 ^ i then (0,0,false) else (((acc+v % 128 * 128 ^ i:Nat):Int),((p+(i+1):Nat):Int),true):=by
     split<;>rfl
    refine Tot.dite (λ hi0=>?_) (λ hi0=>?_)
    ·refine Tot.ite (λ h0=>?_) (λ h0=>?_)
     ·have hv:v=0:=by
       have:=beq_iff_eq.1 h0
       omega
      rw [if_pos ⟨by omega,by omega⟩]; exact Tot.pure rfl
     ·have hv:v≠0:=by
       intro e
       subst e
       simp at h0
      rw [if_neg (by omega),fin]; exact big
    ·rw [if_neg (by omega),fin]; exact big
  ·refine Tot.pure ?_
   rw [List.drop_of_length_le (by omega)]
   rfl
theorem Mh (l:List Int) (hb:Aq l) (hl:l.length≤1000000000000) (p:Int):Tot (λ k=>Aw k l p) (λ r=>r=Ur l p):=by
 unfold Aw Ur
 by_cases h0:p<0
 ·rw [if_pos h0]
  refine Tot.bind (Q:=λ r=>r = .inr ()) ?_ ?_
  ·refine Tot.succ ?_
   simp only [B9]
   exact Tot.dec (by omega) (Tot.ndec (by omega) (Tot.pure rfl))
  ·rintro r rfl
   exact Tot.pure rfl
 ·rw [if_neg h0]
  by_cases h1:p<(l.length:Int)
  ·obtain ⟨n,rfl⟩:∃ n:Nat,p=(n:Int):=⟨p.toNat,by omega⟩
   rw [Int.toNat_natCast]
   refine Tot.bind (A7a l hb hl n (by omega) 5 0 0 rfl (by decide)) ?_
   intro r hr
   unfold It
   rw [Nat.add_zero] at hr
   have hr':Oa r=(match (match Ou 5 0 0 (l.drop n) with|some (m,c)=>some (m,n+c)|none=>none) with|some (m,q)=>((m:Int),(q:Int),true)|none=>((0:Int),(0:Int),false)):=by
    rw [hr]
    cases Ou 5 0 0 (l.drop n) with
    |none=>rfl
    |some mc=>rfl
   refine Tot.mono (Q:=λ y=>y=Oa r) ?_ (λ y hy=>hy.trans hr')
   cases r with
   |inl y=>exact Tot.pure rfl
   |inr z=>exact Tot.pure rfl
  ·have e:It l p.toNat=none:=by
    unfold It
    rw [List.drop_of_length_le (by omega)]
    rfl
   rw [e]
   refine Tot.bind (Q:=λ r=>r = .inr ()) ?_ ?_
   ·refine Tot.succ ?_
    simp only [B9]
    exact Tot.dec (by omega) (Tot.dec (by omega) (Tot.ndec h1 (Tot.pure rfl)))
   ·rintro r rfl
    exact Tot.pure rfl
def Cr (n:Int):Nat:=(max 0 (min n 1000000000)).toNat
theorem Ob (n:Int):Cr n≤1000000000:=by unfold Cr; omega
theorem Xq (n:Nat) (h:n≤255):IntKind.wrap .u8 (n:Int)=(n:Int):=by
 rw [IntKind.wrap_u8]
 omega
theorem A8a:∀ (f n:Nat) (out:List Int),n<128 ^ (f+1)→f≤4→out.length+f≤1000000000010→
  Tot (λ k=>Cj k out (n:Int)) (λ r=>∃ m:Nat,r.2=(m:Int)∧m≤127∧r.1++[(m:Int)]=out++R7 f n∧r.1.length≤out.length+f):=by
 intro f
 induction f with
 |zero=>
  intro n out hn hf hl
  refine Tot.succ ?_
  simp only [Cj]
  have:n<128:=by simpa using hn
  exact Tot.ndec (by omega) (Tot.pure ⟨n,rfl,by omega,rfl,by simp⟩)
 |succ f ih=>
  intro n out hn hf hl
  have hp:=I9 (f+1+1 - 1) (by omega)
  refine Tot.succ ?_
  simp only [Cj]
  refine Tot.dite (λ h=>?_) (λ h=>?_)
  ·have hn2:n / 128<128 ^ (f+1):=by rw [Nat.pow_succ] at hn; omega
   have hn3:n<4398046511104:=by
    have:=I9 (f+1) (by omega)
    rw [Nat.pow_succ] at hn
    omega
   have e1:Int.tmod (n:Int) 128+128=((n % 128+128:Nat):Int):=by
    rw [Int.tmod_eq_emod_of_nonneg (by omega)]
    omega
   have e2:Int.tdiv (n:Int) 128=((n / 128:Nat):Int):=by
    rw [Int.tdiv_eq_ediv_of_nonneg (by omega)]
    omega
   rw [e1,e2,w64 (n:=((n % 128+128:Nat):Int)) (by omega) (by omega),w64 (n:=((n / 128:Nat):Int)) (by omega) (by omega),Xq _ (by omega)]
   refine Tot.ble (by simp only [List.length_cons,List.length_nil]; omega) ?_
   refine (ih (n / 128) (out++[((n % 128+128:Nat):Int)]) hn2 (by omega) (by simp only [List.length_append,List.length_cons,List.length_nil]; omega)).mono ?_
   rintro r ⟨m,h1,h2,h3,h4⟩
   refine ⟨m,h1,h2,?_,by simp only [List.length_append,List.length_cons,List.length_nil] at h4; omega⟩
   rw [h3,List.append_assoc]
   congr 1
   conv => { rhs; unfold R7 }
   rw [if_neg (by omega)]
   rfl
  ·refine Tot.pure ⟨n,rfl,by omega,?_,by show out.length≤out.length+(f+1); omega⟩
   unfold R7
   rw [if_pos (by omega)]
theorem Oc (out:List Int) (n:Int) (hl:out.length≤1000000000000):Tot (λ k=>Bh k out n) (λ r=>r=out++Tc (Cr n)):=by
 unfold Bh
 have e:(if (0:Int)<(if (1000000000:Int)<n then 1000000000 else n) then (if (1000000000:Int)<n then 1000000000 else n) else 0)=((Cr n:Nat):Int):=by
  unfold Cr
  split<;>split<;>omega
 simp only
 rw [e]
 have hc:=Ob n
 refine Tot.bind (A8a 4 (Cr n) out (by omega) (by omega) (by omega)) ?_
 rintro r ⟨m,h1,h2,h3,h4⟩
 rw [h1,Xq m (by omega)]
 refine Tot.ble (by simp only [List.length_cons,List.length_nil]; omega) (Tot.pure h3)
theorem A9a:∀ (f n:Nat) (out:List Int),n<128 ^ (f+1)→f≤4→out.length+f≤1000000000010→
  Tot (λ k=>Ar k (n:Int) out) (λ r=>∃ m:Nat,r.1=(m:Int)∧m≤127∧r.2++[(m:Int)]=out++R7 f n∧r.2.length≤out.length+f):=by
 intro f
 induction f with
 |zero=>
  intro n out hn hf hl
  refine Tot.succ ?_
  simp only [Ar]
  have:n<128:=by simpa using hn
  exact Tot.ndec (by omega) (Tot.pure ⟨n,rfl,by omega,rfl,by simp⟩)
 |succ f ih=>
  intro n out hn hf hl
  refine Tot.succ ?_
  simp only [Ar]
  refine Tot.dite (λ h=>?_) (λ h=>?_)
  ·have hn2:n / 128<128 ^ (f+1):=by rw [Nat.pow_succ] at hn; omega
   have hn3:n<4398046511104:=by
    have:=I9 (f+1) (by omega)
    rw [Nat.pow_succ] at hn
    omega
   have e1:IntKind.wrap .i64 ((BitVec.ofInt (IntKind.bits .i64) ((n % 128:Nat):Int) ||| BitVec.ofInt (IntKind.bits .i64) 128).toNat)=((n % 128+128:Nat):Int):=by
    have:=Xp (n % 128) 1 1 (by omega) (by omega) (by omega)
    exact this
   have e2:Int.fdiv (n:Int) (2 ^ (min (Int.toNat 7) (IntKind.bits .i64)))=((n / 128:Nat):Int):=by
    have:(2:Int) ^ (min (Int.toNat 7) (IntKind.bits .i64))=128:=by decide
    rw [this,Int.fdiv_eq_ediv_of_nonneg _ (by omega)]
    omega
   rw [Hna n (by omega),e1,e2,Xq _ (by omega)]
   refine Tot.ble (by simp only [List.length_cons,List.length_nil]; omega) ?_
   refine (ih (n / 128) (out++[((n % 128+128:Nat):Int)]) hn2 (by omega) (by simp only [List.length_append,List.length_cons,List.length_nil]; omega)).mono ?_
   rintro r ⟨m,h1,h2,h3,h4⟩
   refine ⟨m,h1,h2,?_,by simp only [List.length_append,List.length_cons,List.length_nil] at h4; omega⟩
   rw [h3,List.append_assoc]
   congr 1
   conv => { rhs; unfold R7 }
   rw [if_neg (by omega)]
   rfl
  ·refine Tot.pure ⟨n,rfl,by omega,?_,by show out.length≤out.length+(f+1); omega⟩
   unfold R7
   rw [if_pos (by omega)]
theorem Od (out:List Int) (n:Int) (hl:out.length≤1000000000000):Tot (λ k=>Ax k out n) (λ r=>r=out++Tc (Cr n)):=by
 have hc:=Ob n
 have fin:Tot (λ k=>(Ar k ((Cr n:Nat):Int) (([]:List Int)++out)).bind λ r1=>cond (Nat.ble ((List.length r1.2+List.length [IntKind.wrap .u8 r1.1]) * 1) 140737488355328) (some (r1.2++[IntKind.wrap .u8 r1.1])) none) (λ r=>r=out++Tc (Cr n)):=by
  rw [List.nil_append]
  refine Tot.bind (A9a 4 (Cr n) out (by omega) (by omega) (by omega)) ?_
  rintro r ⟨m,h1,h2,h3,h4⟩
  rw [h1,Xq m (by omega)]
  exact Tot.ble (by simp only [List.length_cons,List.length_nil]; omega) (Tot.pure h3)
 unfold Ax
 refine Tot.ble (by simp only [List.length_nil]; omega) ?_
 refine Tot.dite (λ h1=>?_) (λ h1=>?_)
 ·refine Tot.ndec (by omega) ?_
  have e:((Cr n:Nat):Int)=1000000000:=by unfold Cr; omega
  rw [e] at fin
  exact fin
 ·refine Tot.dite (λ h2=>?_) (λ h2=>?_)
  ·have e:((Cr n:Nat):Int)=0:=by unfold Cr; omega
   rw [e] at fin
   exact fin
  ·have e:((Cr n:Nat):Int)=n:=by unfold Cr; omega
   rw [e] at fin
   exact fin
theorem Gk (n:Nat):(Tc n).length≤5∧0<(Tc n).length:=Doa 4 n
theorem Pr:∀ (f n:Nat),n<128 ^ (f+1)→Aq (R7 f n)
 |0,n,hn=>by
  intro x hx
  simp only [R7,List.mem_singleton] at hx
  have:n<128:=by simpa using hn
  omega
 |f+1,n,hn=>by
  unfold R7
  split
  ·intro x hx
   simp only [List.mem_singleton] at hx
   omega
  ·intro x hx
   rcases List.mem_cons.1 hx with rfl|hx
   ·omega
   ·exact Pr f (n / 128) (by rw [Nat.pow_succ] at hn; omega) x hx
theorem Aaa (n:Nat) (hn:n≤1000000000):Aq (Tc n):=Pr 4 n (by omega)
theorem Aba (s:ByteArray):Aq (bytesOf s):=by
 intro x hx
 unfold bytesOf at hx
 obtain ⟨b,_,rfl⟩:=List.mem_map.1 hx
 have:=b.toNat_lt
 omega
theorem Us (s:ByteArray):(bytesOf s).length=s.size:=by
 unfold bytesOf
 rw [List.length_map]
 exact Array.length_toList
theorem Qz (s:ByteArray):Gn (bytesOf s)=s:=by
 unfold Gn bytesOf
 rw [List.map_map]
 have:(λ n:Int=>UInt8.ofNat n.toNat) ∘ (λ b:UInt8=>(b.toNat:Int))=id:=by
  funext b
  show UInt8.ofNat ((b.toNat:Int)).toNat=b
  rw [Int.toNat_natCast]
  exact UInt8.ofNat_toNat
 rw [this,List.map_id]
theorem Iu {l:List Int} (h:Aq l):bytesOf (Gn l)=l:=by
 unfold Gn bytesOf
 show List.map _ (List.map _ l)=l
 rw [List.map_map]
 have:∀ x∈l,((λ b:UInt8=>(b.toNat:Int)) ∘ (λ n:Int=>UInt8.ofNat n.toNat)) x=x:=by
  intro x hx
  have hb:=h x hx
  show ((UInt8.ofNat x.toNat).toNat:Int)=x
  rw [UInt8.toNat_ofNat']
  omega
 exact (List.map_congr_left this).trans (List.map_id' l)
theorem Ia (l:List Int):(Gn l).size=l.length:=by
 unfold Gn
 show (List.map _ l).toArray.size=l.length
 simp
def txt (s:ByteArray):List Int:=Tc (Cr (s.size:Int))++bytesOf s
theorem Gia (out:List Int) (s:ByteArray) (hl:out.length≤1000000000000) (hs:s.size≤1000000000000):Tot (λ k=>Ds k out s) (λ r=>r=out++txt s):=by
 unfold Ds txt
 refine Tot.bind (Oc out _ hl) ?_
 rintro r rfl
 have:=(Gk (Cr (s.size:Int))).1
 refine Tot.ble (by simp only [List.length_append]; omega) (Tot.pure ?_)
 rw [List.append_assoc]
theorem Gja (out:List Int) (s:ByteArray) (hl:out.length≤1000000000000) (hs:s.size≤1000000000000):Tot (λ k=>Dl k out s) (λ r=>r=out++txt s):=by
 unfold Dl txt
 refine Tot.bind (Od out _ hl) ?_
 rintro r rfl
 have:=(Gk (Cr (s.size:Int))).1
 refine Tot.ble (by simp only [List.length_append]; omega) (Tot.pure ?_)
 rw [List.append_assoc]
def B0a (l:List Int) (p:Nat):Option (ByteArray×Nat):=match It l p with
 |some (n,q)=>if q+n≤l.length then some (Gn ((l.drop q).take n),q+n) else none
 |none=>none
def Jna (l:List Int) (p:Int):ByteArray×Int×Bool:=if p<0 then ((⟨#[]⟩:ByteArray),0,false) else match B0a l p.toNat with
 |some (s,q)=>(s,(q:Int),true)
 |none=>((⟨#[]⟩:ByteArray),0,false)
theorem Ps (l:List Int) (hb:Aq l) (p:Int):Ur l p=(0,0,false)∨∃ n q,0≤p∧It l p.toNat=some (n,q)∧Ur l p=((n:Int),(q:Int),true)∧n≤1000000000∧q≤l.length:=by
 unfold Ur
 by_cases h:p<0
 ·rw [if_pos h]; exact .inl rfl
 ·rw [if_neg h]
  cases hg:It l p.toNat with
  |none=>exact .inl rfl
  |some nq=>
   obtain ⟨n,q⟩:=nq
   have:=Ko hb hg
   exact .inr ⟨n,q,by omega,rfl,rfl,this.2.1,this.2.2.2⟩
theorem Xr (l:List Int) (hb:Aq l) (hl:l.length≤1000000000000) (p:Int) (hp:p≤1000000000000):Tot (λ k=>Dq k l p) (λ r=>r=Jna l p):=by
 unfold Dq
 refine Tot.bind (Dqa l hb hl p hp) ?_
 rintro r rfl
 unfold Jna B0a
 rcases Ps l hb p with h|⟨n,q,h0,hg,h,hn,hq⟩
 ·rw [h]
  refine Tot.yes rfl (Tot.pure ?_)
  unfold Ur at h
  split
  ·rfl
  ·rename_i h0
   rw [if_neg h0] at h
   cases hg:It l p.toNat with
   |none=>rfl
   |some nq=>rw [hg] at h; simp at h
 ·rw [h]
  refine Tot.no rfl ?_
  rw [if_neg (by omega),hg]
  simp only
  rw [w64 (n:=(l.length:Int) - (q:Int)) (by omega) (by omega),w64 (n:=(q:Int)+(n:Int)) (by omega) (by omega)]
  refine Tot.dite (λ hgt=>?_) (λ hgt=>?_)
  ·rw [if_neg (by omega)]
   exact Tot.pure rfl
  ·rw [if_pos (by omega)]
   refine Tot.dec (by omega) (Tot.dec (by omega) (Tot.dec (by omega) (Tot.pure ?_)))
   rw [show Int.toNat ((q:Int)+(n:Int))=q+n by omega,Int.toNat_natCast,List.drop_take,show q+n - q=n by omega]
   simp only [Prod.mk.injEq,true_and,and_true]
   push_cast
   rfl
theorem R3 (l:List Int) (hb:Aq l) (hl:l.length≤1000000000000) (p:Int):Tot (λ k=>Dj k l p) (λ r=>r=Jna l p):=by
 unfold Dj
 refine Tot.bind (Mh l hb hl p) ?_
 rintro r rfl
 unfold Jna B0a
 rcases Ps l hb p with h|⟨n,q,h0,hg,h,hn,hq⟩
 ·rw [h]
  refine Tot.yes rfl (Tot.pure ?_)
  unfold Ur at h
  split
  ·rfl
  ·rename_i h0
   rw [if_neg h0] at h
   cases hg:It l p.toNat with
   |none=>rfl
   |some nq=>rw [hg] at h; simp at h
 ·rw [h]
  refine Tot.no rfl ?_
  rw [if_neg (by omega),hg]
  simp only
  rw [w64 (n:=(l.length:Int) - (q:Int)) (by omega) (by omega),w64 (n:=(q:Int)+(n:Int)) (by omega) (by omega)]
  refine Tot.dite (λ hgt=>?_) (λ hgt=>?_)
  ·rw [if_neg (by omega)]
   exact Tot.pure rfl
  ·rw [if_pos (by omega)]
   refine Tot.dec (by omega) (Tot.dec (by omega) (Tot.dec (by omega) (Tot.pure ?_)))
   rw [show Int.toNat ((q:Int)+(n:Int))=q+n by omega,Int.toNat_natCast,List.drop_take,show q+n - q=n by omega]
   simp only [Prod.mk.injEq,true_and,and_true]
   push_cast
   rfl
theorem Ut {l:List Int} {p q:Nat} {s:ByteArray} (hb:Aq l) (h:B0a l p=some (s,q)):l.drop p=txt s++l.drop q∧s.size≤1000000000∧p<q∧q≤l.length:=by
 unfold B0a at h
 split at h
 ·rename_i n q0 hg
  obtain ⟨h1,h2,h3,h4⟩:=Ko hb hg
  split at h
  ·rename_i hle
   simp only [Option.some.injEq,Prod.mk.injEq] at h
   obtain ⟨rfl,rfl⟩:=h
   have hlen:((l.drop q0).take n).length=n:=by rw [List.length_take,List.length_drop]; omega
   have hbb:Aq ((l.drop q0).take n):=λ x hx=>hb x (List.mem_of_mem_drop (List.mem_of_mem_take hx))
   refine ⟨?_,by rw [Ia,hlen]; exact h2,by omega,by omega⟩
   unfold txt
   rw [Ia,hlen,Iu hbb,h1,show Cr (n:Int)=n by unfold Cr; omega,List.append_assoc]
   congr 1
   rw [← List.drop_drop,List.take_append_drop]
  ·cases h
 ·cases h

def Dra (b:Bool):Int:=bif b then 1 else 0
theorem J1a (b:Bool):H4 b=some (Dra b):=by cases b<;>rfl
theorem Gka (b:Bool):Ev b=some (Dra b):=by cases b<;>rfl
def Esa (s:Stp):List Int:=Tc (Cr s.1)++(Tc (Cr s.2.1)++Tc (Cr s.2.2))
theorem Xt (s:Stp):(Esa s).length≤15:=by
 unfold Esa
 have h1:=(Gk (Cr s.1)).1
 have h2:=(Gk (Cr s.2.1)).1
 have h3:=(Gk (Cr s.2.2)).1
 simp only [List.length_append]
 omega
theorem Aca (out:List Int) (s:Stp) (b:Bool) (hl:out.length≤999999999900):Tot (λ k=>D8 k out s b) (λ r=>r=out++(Esa s++Tc (Cr (Dra b)))):=by
 have h1:=(Gk (Cr s.1)).1
 have h2:=(Gk (Cr s.2.1)).1
 have h3:=(Gk (Cr s.2.2)).1
 unfold D8 Esa
 refine Tot.bind (Oc out s.1 (by omega)) ?_
 rintro r rfl
 refine Tot.bind (Oc _ s.2.1 (by simp only [List.length_append]; omega)) ?_
 rintro r rfl
 refine Tot.bind (Oc _ s.2.2 (by simp only [List.length_append]; omega)) ?_
 rintro r rfl
 refine Tot.bind (Tot.of (Q:=λ y=>y=Dra b) (J1a b) rfl) ?_
 rintro y rfl
 refine Tot.bind (Oc _ (Dra b) (by simp only [List.length_append]; omega)) ?_
 rintro r rfl
 exact Tot.pure (by simp only [List.append_assoc])
theorem Ada (out:List Int) (s:Stp) (hl:out.length≤999999999900):Tot (λ k=>Dm k out s) (λ r=>r=out++Esa s):=by
 have h1:=(Gk (Cr s.1)).1
 have h2:=(Gk (Cr s.2.1)).1
 unfold Dm Esa
 refine Tot.bind (Od out s.1 (by omega)) ?_
 rintro r rfl
 refine Tot.bind (Od _ s.2.1 (by simp only [List.length_append]; omega)) ?_
 rintro r rfl
 refine Tot.bind (Od _ s.2.2 (by simp only [List.length_append]; omega)) ?_
 rintro r rfl
 exact Tot.pure (by simp only [List.append_assoc])
theorem J2a (s:ByteArray):(txt s).length≤5+s.size:=by
 have h1:=(Gk (Cr (s.size:Int))).1
 unfold txt
 simp only [List.length_append,Us]
 omega

theorem N6 (l:List Int) (p:Nat):Ur l (p:Int)=match It l p with
 |some (n,q)=>((n:Int),(q:Int),true)
 |none=>(0,0,false):=by
 unfold Ur
 rw [if_neg (by omega),Int.toNat_natCast]
 all_goals cases It l p<;>rfl
theorem Xu (l:List Int) (p:Nat):Jna l (p:Int)=match B0a l p with
 |some (s,q)=>(s,(q:Int),true)
 |none=>((⟨#[]⟩:ByteArray),0,false):=by
 unfold Jna
 rw [if_neg (by omega),Int.toNat_natCast]
 all_goals cases B0a l p<;>rfl
theorem P0 (l:List Int) (hb:Aq l) (hl:l.length≤1000000000000) (p:Nat) (hp:p≤l.length) (bad:Bool):
  Tot (λ k=>Ao k (l,(p:Int),bad)) (λ r=>(bad=false∧∃ n q:Nat,It l p=some (n,q)∧q≤l.length∧r=((n:Int),l,(q:Int),false))∨((bad=true∨It l p=none)∧r=(0,l,(p:Int),true))):=by
 unfold Ao
 refine Tot.bind (Dqa l hb hl (p:Int) (by omega)) ?_
 rintro r rfl
 refine Tot.ite (λ h=>Tot.pure (.inr ⟨.inl h,rfl⟩)) (λ h=>?_)
 rw [N6]
 cases hg:It l p with
 |none=>exact Tot.yes rfl (Tot.pure (.inr ⟨.inr rfl,rfl⟩))
 |some nq=>
  obtain ⟨n,q⟩:=nq
  simp only at h
  subst h
  exact Tot.no rfl (Tot.pure (.inl ⟨rfl,n,q,rfl,(Ko hb hg).2.2.2,rfl⟩))
theorem Loa (l:List Int) (hb:Aq l) (hl:l.length≤1000000000000) (p:Nat) (hp:p≤l.length):
  Tot (λ k=>Aj k (l,(p:Int),false)) (λ r=>(∃ (s:ByteArray) (q:Nat),B0a l p=some (s,q)∧q≤l.length∧r=(s,l,(q:Int),false))∨(B0a l p=none∧r=((⟨#[]⟩:ByteArray),l,(p:Int),true))):=by
 unfold Aj
 refine Tot.bind (Xr l hb hl (p:Int) (by omega)) ?_
 rintro r rfl
 refine Tot.no rfl ?_
 rw [Xu]
 cases hg:B0a l p with
 |none=>exact Tot.yes rfl (Tot.pure (.inr ⟨rfl,rfl⟩))
 |some nq=>
  obtain ⟨n,q⟩:=nq
  exact Tot.no rfl (Tot.pure (.inl ⟨n,q,rfl,(Ut hb hg).2.2.2,rfl⟩))
def Jx (l:List Int) (p:Nat):Option ((Stp×Bool)×Nat):=
 (It l p).bind λ b=>(It l b.2).bind λ c=>(It l c.2).bind λ d=>(It l d.2).bind λ e=>bif decide (1<e.1) then none else
  some ((((b.1:Int),(c.1:Int),(d.1:Int)),(e.1:Int)==1),e.2)
theorem Lpa (l:List Int) (hb:Aq l) (hl:l.length≤1000000000000) (p:Nat) (hp:p≤l.length) (bad:Bool):
  Tot (λ k=>B0 k (l,(p:Int),bad)) (λ r=>(bad=false∧∃ (x:Stp×Bool) (q:Nat),Jx l p=some (x,q)∧q≤l.length∧r=(x.1,x.2,l,(q:Int),false))∨((bad=true∨Jx l p=none)∧∃ s b,∃ q:Nat,q≤l.length∧r=(s,b,l,(q:Int),true))):=by
 unfold B0
 have nx:∀ {o:Option (Nat×Nat)} {f:Nat×Nat→Option ((Stp×Bool)×Nat)},o=none→o.bind f=none:=by
  intro o f h; rw [h]; rfl
 refine Tot.bind (P0 l hb hl p hp bad) ?_
 rintro r (⟨h0,n1,p1,h1,l1,rfl⟩|⟨h1,rfl⟩)
 ·simp only
  refine Tot.bind (P0 l hb hl p1 l1 false) ?_
  rintro r (⟨_,n2,p2,h2,l2,rfl⟩|⟨h2,rfl⟩)
  ·simp only
   refine Tot.bind (P0 l hb hl p2 l2 false) ?_
   rintro r (⟨_,n3,p3,h3,l3,rfl⟩|⟨h3,rfl⟩)
   ·simp only
    refine Tot.bind (P0 l hb hl p3 l3 false) ?_
    rintro r (⟨_,n4,p4,h4,l4,rfl⟩|⟨h4,rfl⟩)
    ·simp only
     refine Tot.no rfl (Tot.pure ?_)
     have e:Jx l p=bif decide (1<n4) then none else some ((((n1:Int),(n2:Int),(n3:Int)),(n4:Int)==1),p4):=by
      unfold Jx
      simp only [h1,h2,h3,h4,Option.bind_some]
     cases hd:decide (1<n4) with
     |true=>
      rw [hd,cond_true] at e
      refine .inr ⟨.inr e,((n1:Int),(n2:Int),(n3:Int)),((n4:Int)==1),p4,l4,?_⟩
      have:decide ((n4:Int) > 1)=true:=decide_eq_true (by have:=of_decide_eq_true hd; omega)
      rw [this]
     |false=>
      rw [hd,cond_false] at e
      refine .inl ⟨h0,_,p4,e,l4,?_⟩
      have:decide ((n4:Int) > 1)=false:=decide_eq_false (by have:=of_decide_eq_false hd; omega)
      rw [this]
    ·refine Tot.yes rfl (Tot.pure (.inr ⟨.inr ?_,_,_,p3,l3,rfl⟩))
     have h4':=h4.resolve_left (by simp)
     unfold Jx
     simp only [h1,h2,h3,h4',Option.bind_some,Option.bind_none]
   ·simp only
    refine Tot.bind (P0 l hb hl p2 l2 true) ?_
    rintro r (⟨hh,_⟩|⟨_,rfl⟩)
    ·cases hh
    ·refine Tot.yes rfl (Tot.pure (.inr ⟨.inr ?_,_,_,p2,l2,rfl⟩))
     have h3':=h3.resolve_left (by simp)
     unfold Jx
     simp only [h1,h2,h3',Option.bind_some,Option.bind_none]
  ·simp only
   refine Tot.bind (P0 l hb hl p1 l1 true) ?_
   rintro r (⟨hh,_⟩|⟨_,rfl⟩)
   ·cases hh
   ·refine Tot.bind (P0 l hb hl p1 l1 true) ?_
    rintro r (⟨hh,_⟩|⟨_,rfl⟩)
    ·cases hh
    ·refine Tot.yes rfl (Tot.pure (.inr ⟨.inr ?_,_,_,p1,l1,rfl⟩))
     have h2':=h2.resolve_left (by simp)
     unfold Jx
     simp only [h1,h2',Option.bind_some,Option.bind_none]
 ·simp only
  refine Tot.bind (P0 l hb hl p hp true) ?_
  rintro r (⟨hh,_⟩|⟨_,rfl⟩)
  ·cases hh
  ·refine Tot.bind (P0 l hb hl p hp true) ?_
   rintro r (⟨hh,_⟩|⟨_,rfl⟩)
   ·cases hh
   ·refine Tot.bind (P0 l hb hl p hp true) ?_
    rintro r (⟨hh,_⟩|⟨_,rfl⟩)
    ·cases hh
    ·refine Tot.yes rfl (Tot.pure (.inr ⟨?_,_,_,p,hp,rfl⟩))
     rcases h1 with h1|h1
     ·exact .inl h1
     ·refine .inr ?_
      unfold Jx
      rw [h1]
      rfl
theorem J3a (l:List Int) (hb:Aq l) (hl:l.length≤1000000000000) (p:Int):
  Tot (λ k=>Bo k l p) (λ r=>(∃ n1 p1 n2 p2 n3 p3,0≤p∧It l p.toNat=some (n1,p1)∧It l p1=some (n2,p2)∧It l p2=some (n3,p3)∧r=(((n1:Int),(n2:Int),(n3:Int)),(p3:Int),true))∨(((It l p.toNat).bind λ a=>(It l a.2).bind λ b=>It l b.2)=none∨p<0)∧r.2.2=false):=by
 unfold Bo
 refine Tot.bind (Mh l hb hl p) ?_
 rintro r1 rfl
 refine Tot.bind (Mh l hb hl _) ?_
 rintro r2 rfl
 refine Tot.bind (Mh l hb hl _) ?_
 rintro r3 rfl
 by_cases hp:p<0
 ·have:(Ur l p).2.2=false:=by unfold Ur; rw [if_pos hp]
  exact Tot.no this (Tot.pure (.inr ⟨.inr hp,rfl⟩))
 ·have e1:Ur l p=match It l p.toNat with|some (n,q)=>((n:Int),(q:Int),true)|none=>(0,0,false):=by
   unfold Ur; rw [if_neg hp]; all_goals cases It l p.toNat<;>rfl
  cases h1:It l p.toNat with
  |none=>
   rw [h1] at e1
   simp only [e1]
   exact Tot.no rfl (Tot.pure (.inr ⟨.inl rfl,rfl⟩))
  |some a=>
   obtain ⟨n1,p1⟩:=a
   rw [h1] at e1
   simp only [e1,N6,Option.bind_some]
   refine Tot.yes rfl ?_
   cases h2:It l p1 with
   |none=>exact Tot.no rfl (Tot.pure (.inr ⟨.inl rfl,rfl⟩))
   |some b=>
    obtain ⟨n2,p2⟩:=b
    refine Tot.yes rfl ?_
    simp only [N6,Option.bind_some]
    cases h3:It l p2 with
    |none=>exact Tot.pure (.inr ⟨.inl rfl,rfl⟩)
    |some c=>
     obtain ⟨n3,p3⟩:=c
     exact Tot.pure (.inl ⟨n1,p1,n2,p2,n3,p3,by omega,rfl,h2,h3,rfl⟩)
theorem Dsa {l:List Int} {p:Nat} (h:((It l p).bind λ a=>(It l a.2).bind λ b=>It l b.2)=none):Jx l p=none:=by
 unfold Jx
 cases h1:It l p with
 |none=>rfl
 |some a=>
  rw [h1] at h
  simp only [Option.bind_some] at h ⊢
  cases h2:It l a.2 with
  |none=>rfl
  |some b=>
   rw [h2] at h
   simp only [Option.bind_some] at h ⊢
   rw [h]
   rfl

section
open Go
end

abbrev Nmd:=ByteArray×List Int
abbrev Dsk:=List Nmd×List Nmd
def Lq:Nmd:=((⟨#[]⟩:ByteArray),[])
def Lqa (l:List Nmd):Prop:=l.length≤1000000000000∧∀ x∈l,x.2.length≤1000000000000
def Mja (d:Dsk):Prop:=Lqa d.1∧Lqa d.2
def fnd (l:List Nmd) (s:ByteArray):Option Nat:=l.findIdx? (λ x=>teq x.1 s)
def Hoa (l:List Nmd) (s:ByteArray):Int:=match fnd l s with
 |some i=>(i:Int)
 |none => -1
theorem Dta (l:List Nmd) (s:ByteArray) (hf:l.length≤1000000000000):∀ (n i:Nat),l.length - i=n→i≤l.length→
  Tot (λ k=>Fe k s l (l.length:Int) (i:Int)) (λ r=>r=match fnd (l.drop i) s with|some j => .inl ((i+j:Nat):Int)|none => .inr ()):=by
 intro n
 induction n with
 |zero=>
  intro i hd hi
  refine Tot.succ ?_
  simp only [Fe]
  refine Tot.ndec (by omega) (Tot.pure ?_)
  rw [List.drop_of_length_le (by omega)]
  rfl
 |succ n ih=>
  intro i hd hi
  have hlt:i<l.length:=by omega
  refine Tot.succ ?_
  simp only [Fe]
  refine Tot.dec (by omega) (Tot.dec (by omega) (Tot.dec (by omega) ?_))
  rw [show Int.toNat (i:Int)=i from Int.toNat_natCast i,w64 (n:=(i:Int)+1) (by omega) (by omega),I8 (d:=Lq) hlt]
  have e0:l.getD i ((⟨#[]⟩:ByteArray),([]:List Int))=l.getD i Lq:=rfl
  rw [e0]
  have e1:fnd (l.getD i Lq::l.drop (i+1)) s=if teq (l.getD i Lq).1 s then some 0 else (fnd (l.drop (i+1)) s).map (· + 1):=by
   unfold fnd
   rw [List.findIdx?_cons]
  rw [e1]
  refine Tot.ite (λ h=>?_) (λ h=>?_)
  ·have h':teq (l.getD i Lq).1 s=true:=h
   rw [if_pos h']
   exact Tot.pure rfl
  ·have h':¬ (teq (l.getD i Lq).1 s=true):=by
    have:teq (l.getD i Lq).1 s=false:=h
    rw [this]; simp
   rw [if_neg h']
   refine (ih (i+1) (by omega) (by omega)).mono ?_
   rintro r rfl
   cases fnd (l.drop (i+1)) s with
   |none=>rfl
   |some j=>
    show Sum.inl _=Sum.inl _
    rw [show i+1+j=i+(j+1) by omega]
theorem Kwa (l:List Nmd) (s:ByteArray) (hf:l.length≤1000000000000):Tot (λ k=>Ha k l s) (λ r=>r=Hoa l s):=by
 unfold Ha Hoa
 refine Tot.bind (Dta l s hf _ 0 rfl (Nat.zero_le _)) ?_
 rintro r rfl
 rw [List.drop_zero]
 cases fnd l s with
 |none=>exact Tot.pure rfl
 |some j=>
  refine Tot.pure ?_
  rw [Nat.zero_add]

def nOk (x:Nmd):Bool:=Dla x.1 && !(decide ((x.2.length:Int) > 400))
def chn:Option ByteArray→List Nmd→Bool
 |_,[]=>true
 |none,r::l=>nOk r&&chn (some r.1) l
 |some q,r::l=>nOk r&&(tlt q r.1&&chn (some r.1) l)
def Xv (l:List Nmd):Bool:=chn none l&&decide ((l.length:Int)≤60)
def Xw (d:Dsk):Bool:=Xv d.1&&Xv d.2
def Dua (l:List Nmd):Prop:=∀ x∈l,Gfa x.1
def Kxa (d:Dsk):Prop:=Dua d.1∧Dua d.2
def plc (l:List Nmd) (s:ByteArray):Nat:=(l.takeWhile (λ y=>tlt y.1 s)).length
def ins (l:List Nmd) (x:Nmd):List Nmd:=l.take (plc l x.1)++[x]++l.drop (plc l x.1)

theorem Dva (l:List Nmd) (s:ByteArray) (hf:l.length≤1000000000000):∀ (n i:Nat),l.length - i=n→i≤l.length→
  Tot (λ k=>Di k l s (i:Int)) (λ r=>r=match fnd (l.drop i) s with|some j => .inl ((i+j:Nat):Int)|none => .inr ()):=by
 intro n
 induction n with
 |zero=>
  intro i hd hi
  refine Tot.succ ?_
  simp only [Di]
  refine Tot.ndec (by omega) (Tot.pure ?_)
  rw [List.drop_of_length_le (by omega)]
  rfl
 |succ n ih=>
  intro i hd hi
  have hlt:i<l.length:=by omega
  refine Tot.succ ?_
  simp only [Di]
  refine Tot.dec (by omega) (Tot.dec (by omega) (Tot.dec (by omega) ?_))
  rw [show Int.toNat (i:Int)=i from Int.toNat_natCast i,w64 (n:=(i:Int)+1) (by omega) (by omega),I8 (d:=Lq) hlt]
  have e0:l.getD i ((⟨#[]⟩:ByteArray),([]:List Int))=l.getD i Lq:=rfl
  rw [e0]
  have e1:fnd (l.getD i Lq::l.drop (i+1)) s=if teq (l.getD i Lq).1 s then some 0 else (fnd (l.drop (i+1)) s).map (· + 1):=by
   unfold fnd
   rw [List.findIdx?_cons]
  rw [e1]
  refine Tot.ite (λ h=>?_) (λ h=>?_)
  ·have h':teq (l.getD i Lq).1 s=true:=h
   rw [if_pos h']
   exact Tot.pure rfl
  ·have h':¬ (teq (l.getD i Lq).1 s=true):=by
    have:teq (l.getD i Lq).1 s=false:=h
    rw [this]; simp
   rw [if_neg h']
   refine (ih (i+1) (by omega) (by omega)).mono ?_
   rintro r rfl
   cases fnd (l.drop (i+1)) s with
   |none=>rfl
   |some j=>
    show Sum.inl _=Sum.inl _
    rw [show i+1+j=i+(j+1) by omega]
theorem Kya (l:List Nmd) (s:ByteArray) (hf:l.length≤1000000000000):Tot (λ k=>Fp k l s) (λ r=>r=Hoa l s):=by
 unfold Fp Hoa
 refine Tot.bind (Dva l s hf _ 0 rfl (Nat.zero_le _)) ?_
 rintro r rfl
 rw [List.drop_zero]
 cases fnd l s with
 |none=>exact Tot.pure rfl
 |some j=>
  refine Tot.pure ?_
  rw [Nat.zero_add]
def cut (l:List Nmd) (s:ByteArray):List Nmd:=l.filter (λ x => !(teq x.1 s))

section
open Go
end

theorem Gla (y:Nmd) (l:List Nmd) (s:ByteArray):fnd (y::l) s=if teq y.1 s then some 0 else (fnd l s).map (· + 1):=by
 unfold fnd
 rw [List.findIdx?_cons]
theorem J4a {l:List Nmd} {s:ByteArray}:(cut l s).Sublist l:=List.filter_sublist

section
open Go
end

section
open Go
end

def DIn (d:Dsk):Prop:=(Mja d∧Kxa d)∧d.1.length≤2000000∧d.2.length≤2000000

section
open Go
end

section
open Go
end

theorem K8 (p:Nmd→Bool):∀ l:List Nmd,l.take (l.takeWhile p).length=l.takeWhile p∧l.drop (l.takeWhile p).length=l.dropWhile p
 |[]=>⟨rfl,rfl⟩
 |y::l=>by
  obtain ⟨h1,h2⟩:=K8 p l
  simp only [List.takeWhile_cons,List.dropWhile_cons]
  cases p y with
  |true=>simp [h1,h2]
  |false=>simp
theorem Kza (l:List Nmd) (x:Nmd):ins l x=l.takeWhile (λ y=>tlt y.1 x.1)++([x]++l.dropWhile (λ y=>tlt y.1 x.1)):=by
 unfold ins plc
 obtain ⟨h1,h2⟩:=K8 (λ y=>tlt y.1 x.1) l
 rw [h1,h2,List.append_assoc]
theorem J5a {l:List Nmd} {x y:Nmd}:y∈ins l x↔y=x∨y∈l:=by
 rw [Kza]
 have e:=List.takeWhile_append_dropWhile (p:=λ y:Nmd=>tlt y.1 x.1) (l:=l)
 constructor
 ·intro h
  rcases List.mem_append.1 h with h|h
  ·right; rw [← e]; exact List.mem_append_left _ h
  ·rcases List.mem_cons.1 h with h|h
   ·exact .inl h
   ·right; rw [← e]; exact List.mem_append_right _ h
 ·rintro (rfl|h)
  ·exact List.mem_append_right _ (by simp)
  ·rw [← e] at h
   rcases List.mem_append.1 h with h|h
   ·exact List.mem_append_left _ h
   ·exact List.mem_append_right _ (List.mem_cons_of_mem _ h)

section
open Go
end

def Uu:ByteArray:=⟨#[]⟩

section
open Go
end

section
variable {α σ R:Type} {a b:α} {p:Prop} [Decidable p]
theorem dT (h:p):cond (decide p) a b=a:=by rw [decide_eq_true h]; rfl
theorem dF (h:¬ p):cond (decide p) a b=b:=by rw [decide_eq_false h]; rfl
theorem Tot.up {L:Nat→Int→σ→Option R} {Q:R→Prop} (n:Nat) (I:Nat→σ→Prop) (hend:∀ s,I n s→Tot (λ k=>L (k+1) (n:Int) s) Q)
  (Mt:∀ i s,i<n→I i s→(∀ s',I (i+1) s'→Tot (λ k=>L k ((i:Int)+1) s') Q)→Tot (λ k=>L (k+1) (i:Int) s) Q):
  ∀ (i:Nat) (s:σ),i≤n→I i s→Tot (λ k=>L k (i:Int) s) Q:=by
 suffices h:∀ (m i:Nat) (s:σ),n - i=m→i≤n→I i s→Tot (λ k=>L k (i:Int) s) Q from λ i s hi hs=>h _ i s rfl hi hs
 intro m
 induction m with
 |zero=>
  intro i s hm hi hs
  obtain rfl:i=n:=by omega
  exact Tot.succ (hend s hs)
 |succ m ih=>
  intro i s hm hi hs
  refine Tot.succ (Mt i s (by omega) hs λ s' hs'=>?_)
  have:=ih (i+1) s' (by omega) (by omega) hs'
  rwa [show (((i+1:Nat)):Int)=(i:Int)+1 by omega] at this
end
def cst (x:BitVec 32):BitVec 32:=if x.getLsbD 0 then (x >>> 1) ^^^ 2197175160#32 else x >>> 1
def Ss:Nat→BitVec 32→BitVec 32
 |0,x=>x
 |n+1,x=>Ss n (cst x)
def cby (x:BitVec 32) (b:Int):BitVec 32:=Ss 8 (x ^^^ BitVec.ofInt 32 b)
def M9a (l:List Int):BitVec 32 := ~~~ (l.foldl cby 4294967295#32)
def crc (l:List Int):Int:=((M9a l).toNat:Int)
theorem Maa (v:BitVec 32):v.getLsbD 0=decide (v.toNat % 2=1):=by
 rw [BitVec.getLsbD,Nat.testBit_zero]
theorem Uv (v:BitVec 32):BitVec.ofInt (IntKind.bits .u32) (v.toNat:Int)=v:=by
 show BitVec.ofInt 32 (v.toNat:Int)=v
 rw [BitVec.ofInt_natCast,BitVec.ofNat_toNat,BitVec.setWidth_eq]
theorem Uw (n:Nat) (h:n<4294967296):(BitVec.ofInt (IntKind.bits .i64) (n:Int)).toNat=n:=Lo n (by omega)
theorem Lra (v:BitVec 32):IntKind.wrap .u32 (v.toNat:Int)=(v.toNat:Int):=Go.IntWalk.u32_in _ ⟨by omega,by have:=v.isLt; omega⟩
theorem sh1 (v:BitVec 32):Int.fdiv (v.toNat:Int) 2=((v >>> 1).toNat:Int):=by
 rw [Int.fdiv_eq_ediv_of_nonneg _ (by omega),BitVec.toNat_ushiftRight,Nat.shiftRight_eq_div_pow]
 omega
theorem Lsa (v:BitVec 32):((IntKind.wrap .u32 ((BitVec.ofInt (IntKind.bits .u32) (v.toNat:Int) &&& BitVec.ofInt (IntKind.bits .u32) 1).toNat))==1)=v.getLsbD 0:=by
 show (IntKind.wrap .u32 (((BitVec.ofInt 32 (v.toNat:Int) &&& BitVec.ofInt 32 1).toNat:Nat):Int)==1)=_
 rw [show BitVec.ofInt 32 (v.toNat:Int)=v from Uv v,Lra,Maa,BitVec.toNat_and,show (BitVec.ofInt 32 1).toNat=1 from by decide,Nat.and_one_is_mod,Bool.eq_iff_iff,beq_iff_eq,decide_eq_true_iff]
 omega
theorem Lta (v:BitVec 32):((IntKind.wrap .i64 ((BitVec.ofInt (IntKind.bits .i64) (v.toNat:Int) &&& BitVec.ofInt (IntKind.bits .i64) 1).toNat))==1)=v.getLsbD 0:=by
 have:=v.isLt
 rw [Maa,BitVec.toNat_and,Uw _ v.isLt,show (BitVec.ofInt (IntKind.bits .i64) 1).toNat=1 from by decide,Nat.and_one_is_mod,w64 (by omega) (by omega),Bool.eq_iff_iff,beq_iff_eq,decide_eq_true_iff]
 omega
theorem Mba (v w:BitVec 32) (x:Int) (h:BitVec.ofInt 32 x=w):IntKind.wrap .u32 ((BitVec.ofInt (IntKind.bits .u32) (v.toNat:Int) ^^^ BitVec.ofInt (IntKind.bits .u32) x).toNat)=((v ^^^ w).toNat:Int):=by
 show IntKind.wrap .u32 (((BitVec.ofInt 32 (v.toNat:Int) ^^^ BitVec.ofInt 32 x).toNat:Nat):Int)=_
 rw [show BitVec.ofInt 32 (v.toNat:Int)=v from Uv v,h]
 exact Lra _
theorem Lua (v w:BitVec 32):IntKind.wrap .i64 ((BitVec.ofInt (IntKind.bits .i64) (v.toNat:Int) ^^^ BitVec.ofInt (IntKind.bits .i64) (w.toNat:Int)).toNat)=((v ^^^ w).toNat:Int):=by
 have:=(v ^^^ w).isLt
 rw [BitVec.toNat_xor,Uw _ v.isLt,Uw _ w.isLt,← BitVec.toNat_xor]
 exact w64 (by omega) (by omega)
theorem Mca (K:IntKind) (h:1≤IntKind.bits K):(2:Int) ^ (min (Int.toNat 1) (IntKind.bits K))=2:=by
 rw [show Int.toNat 1=1 from rfl,Nat.min_eq_left h]; rfl
theorem Aea (l:List Int) (x8 x9:Int):∀ (n:Nat) (v:BitVec 32) (i:Int),0≤i→8 - i=n→Tot (λ k=>Dz k (v.toNat:Int) l x8 x9 i) (λ r=>r=(((Ss n v).toNat:Int),l,x8,x9)):=by
 intro n
 induction n with
 |zero=>
  intro v i h0 hn
  refine Tot.succ ?_
  simp only [Dz]
  exact Tot.ndec (by omega) (Tot.pure rfl)
 |succ n ih=>
  intro v i h0 hn
  refine Tot.succ ?_
  simp only [Dz]
  refine Tot.dec (by omega) ?_
  rw [w64 (n:=i+1) (by omega) (by omega),Lsa,Mca _ (by decide),sh1,Mba _ 2197175160#32 _ (by decide)]
  have e:Ss (n+1) v=Ss n (cst v):=rfl
  rw [e]
  refine Tot.ite (λ h=>?_) (λ h=>?_)
  ·have:=ih (v >>> 1 ^^^ 2197175160#32) (i+1) (by omega) (by omega)
   rwa [show v >>> 1 ^^^ 2197175160#32=cst v by unfold cst; rw [if_pos h]] at this ⊢
  ·have:=ih (v >>> 1) (i+1) (by omega) (by omega)
   rwa [show v >>> 1=cst v by unfold cst; rw [if_neg (by rw [h]; simp)]] at this ⊢
theorem Ux (l:List Int) (x4:Int):∀ (n:Nat) (v:BitVec 32) (i:Int),0≤i→8 - i=n→Tot (λ k=>Dx k l (v.toNat:Int) x4 i) (λ r=>r=(l,((Ss n v).toNat:Int),x4)):=by
 intro n
 induction n with
 |zero=>
  intro v i h0 hn
  refine Tot.succ ?_
  simp only [Dx]
  exact Tot.ndec (by omega) (Tot.pure rfl)
 |succ n ih=>
  intro v i h0 hn
  refine Tot.succ ?_
  simp only [Dx]
  have hp:(2197175160:Int)=((2197175160#32:BitVec 32).toNat:Int):=by decide
  refine Tot.dec (by omega) ?_
  rw [w64 (n:=i+1) (by omega) (by omega),Lta,Mca _ (by decide),sh1,hp,Lua]
  have e:Ss (n+1) v=Ss n (cst v):=rfl
  rw [e]
  refine Tot.ite (λ h=>?_) (λ h=>?_)
  ·have:=ih (v >>> 1 ^^^ 2197175160#32) (i+1) (by omega) (by omega)
   rwa [show v >>> 1 ^^^ 2197175160#32=cst v by unfold cst; rw [if_pos h]] at this ⊢
  ·have:=ih (v >>> 1) (i+1) (by omega) (by omega)
   rwa [show v >>> 1=cst v by unfold cst; rw [if_neg (by rw [h]; simp)]] at this ⊢
theorem L0a {b:Int} (h:0≤b∧b≤255):b=((BitVec.ofInt 32 b).toNat:Int):=by
 rw [BitVec.toNat_ofInt]
 omega
theorem J6a (l:List Int) (hb:Aq l) (hl:l.length≤1000000000000):Tot (λ k=>G8 k l) (λ r=>r=crc l):=by
 unfold G8
 refine Tot.bind (Q:=λ r=>r=(((l.foldl cby 4294967295#32).toNat:Nat):Int)) ?_ ?_
 ·have:=Tot.up (L:=λ k i s=>Eg k s l (l.length:Int) i) (Q:=λ r=>r=(((l.foldl cby 4294967295#32).toNat:Nat):Int)) l.length (λ i s=>∃ v:BitVec 32,s=(v.toNat:Int)∧(l.drop i).foldl cby v=l.foldl cby 4294967295#32) ?_ ?_ 0 4294967295 (Nat.zero_le _) ⟨4294967295#32,by decide,by rw [List.drop_zero]⟩
  ·exact this
  ·rintro s ⟨v,rfl,hv⟩
   simp only [Eg]
   rw [List.drop_length] at hv
   exact Tot.ndec (by omega) (Tot.pure (by rw [← hv]; rfl))
  ·rintro i s hi ⟨v,rfl,hv⟩ next
   simp only [Eg]
   have hx:=hb _ (Bi (d:=0) hi)
   refine Tot.dec (by omega) (Tot.dec (by omega) (Tot.dec (by omega) ?_))
   rw [Int.toNat_natCast,Go.IntWalk.u32_in _ ⟨hx.1,by omega⟩,Mba v _ _ rfl]
   refine Tot.bind (Aea l _ _ 8 _ 0 (by decide) (by decide)) ?_
   rintro r rfl
   simp only
   rw [w64 (n:=(i:Int)+1) (by omega) (by omega)]
   refine next _ ⟨_,rfl,?_⟩
   rw [I8 (d:=0) hi,List.foldl_cons] at hv
   exact hv
 ·rintro r rfl
  refine Tot.pure ?_
  unfold crc M9a
  have hm:BitVec.ofInt 32 (if IntKind.signed .u32 then -1 else IntKind.max .u32)=BitVec.allOnes 32:=by decide
  have e:BitVec.allOnes 32 ^^^ l.foldl cby 4294967295#32 = ~~~ (l.foldl cby 4294967295#32):=by rw [BitVec.xor_comm]; exact BitVec.xor_allOnes
  show IntKind.wrap .i64 (IntKind.wrap .u32 (((BitVec.ofInt 32 (if IntKind.signed .u32 then -1 else IntKind.max .u32) ^^^ BitVec.ofInt 32 ((l.foldl cby 4294967295#32).toNat:Int)).toNat:Nat):Int))=_
  rw [show BitVec.ofInt 32 ((l.foldl cby 4294967295#32).toNat:Int)=l.foldl cby 4294967295#32 from Uv _,hm,e]
  have:=(~~~ (l.foldl cby 4294967295#32)).isLt
  rw [Lra,w64 (by omega) (by omega)]
theorem J7a (l:List Int) (hb:Aq l) (hl:l.length≤1000000000000):Tot (λ k=>G7 k l) (λ r=>r=crc l):=by
 unfold G7
 refine Tot.bind (Q:=λ r=>r=(((l.foldl cby 4294967295#32).toNat:Nat):Int)) ?_ ?_
 ·have:=Tot.up (L:=λ k i s=>Ed k l s i) (Q:=λ r=>r=(((l.foldl cby 4294967295#32).toNat:Nat):Int)) l.length (λ i s=>∃ v:BitVec 32,s=(v.toNat:Int)∧(l.drop i).foldl cby v=l.foldl cby 4294967295#32) ?_ ?_ 0 4294967295 (Nat.zero_le _) ⟨4294967295#32,by decide,by rw [List.drop_zero]⟩
  ·exact this
  ·rintro s ⟨v,rfl,hv⟩
   simp only [Ed]
   rw [List.drop_length] at hv
   exact Tot.ndec (by omega) (Tot.pure (by rw [← hv]; rfl))
  ·rintro i s hi ⟨v,rfl,hv⟩ next
   simp only [Ed]
   have hx:=hb _ (Bi (d:=0) hi)
   refine Tot.dec (by omega) (Tot.dec (by omega) (Tot.dec (by omega) ?_))
   rw [Int.toNat_natCast,w64 (n:=l.getD i 0) (by omega) (by omega),L0a hx,Lua]
   refine Tot.bind (Ux l _ 8 _ 0 (by decide) (by decide)) ?_
   rintro r rfl
   simp only
   rw [w64 (n:=(i:Int)+1) (by omega) (by omega)]
   refine next _ ⟨_,rfl,?_⟩
   rw [I8 (d:=0) hi,List.foldl_cons] at hv
   exact hv
 ·rintro r rfl
  refine Tot.pure ?_
  have hp:(4294967295:Int)=((BitVec.allOnes 32:BitVec 32).toNat:Int):=by decide
  rw [hp,Lua,BitVec.xor_allOnes]
  rfl

def Lva:Fil:=(((0:Int),((0:Int),(0:Int))),(false,([]:List Int)))
def G5 (f:Fil):Bool:=Ir f.1&&(decide ((f.2.2.length:Int)≤200)&&(!f.2.1 || ((f.2.2.length:Int)==0)))
theorem Gma (f:Fil):Ef f=some (G5 f):=by
 unfold Ef G5
 rw [Dma]
 simp only [Option.bind_some]
 cases Ir f.1<;>cases decide ((List.length f.2.2:Int)≤200)<;>cases f.2.1<;>rfl
theorem Xx (f:Fil):D7 f=some (G5 f):=by
 unfold D7 G5
 rw [Dna]
 simp only [Option.bind_some]
 cases Ir f.1<;>cases decide ((List.length f.2.2:Int)≤200)<;>cases f.2.1<;>rfl
theorem Pt {f:Fil}:G5 f=true↔Ir f.1=true∧f.2.2.length≤200∧(f.2.1=true→f.2.2=[]):=by
 unfold G5
 rw [Bool.and_eq_true,Bool.and_eq_true,decide_eq_true_iff]
 have:(!f.2.1 || ((f.2.2.length:Int)==0))=true↔(f.2.1=true→f.2.2=[]):=by
  cases f.2.1 with
  |false=>simp
  |true=>simp
 rw [this]
 constructor
 ·rintro ⟨h1,h2,h3⟩; exact ⟨h1,by omega,h3⟩
 ·rintro ⟨h1,h2,h3⟩; exact ⟨h1,by omega,h3⟩
theorem Dwa (a b:Fil):Fc a b=some (sle b.1 a.1):=by unfold Fc; rw [Gda]; rfl
def hdF (s:Stp) (d:Bool):List Int:=Esa s++Tc (Cr (Dra d))
def St (f:Fil):List Int:=hdF f.1 f.2.1++txt (Gn f.2.2)
def c4 (c:Int):List Int:=[IntKind.wrap .u8 (Int.fdiv c (2 ^ (min (Int.toNat 24) (IntKind.bits .i64)))),IntKind.wrap .u8 (Int.fdiv c (2 ^ (min (Int.toNat 16) (IntKind.bits .i64)))),IntKind.wrap .u8 (Int.fdiv c (2 ^ (min (Int.toNat 8) (IntKind.bits .i64)))),IntKind.wrap .u8 c]
def R8 (f:Fil):List Int:=bif G5 f then St f++c4 (crc (St f)) else []
theorem Ib {a b:List Int} (ha:Aq a) (hb:Aq b):Aq (a++b):=λ x hx=>(List.mem_append.1 hx).elim (ha x) (hb x)
theorem Jg (n:Int):Aq (Tc (Cr n)):=Aaa _ (Ob n)
theorem Dxa (s:Stp) (d:Bool):Aq (hdF s d):=Ib (Ib (Jg _) (Ib (Jg _) (Jg _))) (Jg _)
theorem Kq (f:Fil):Aq (St f):=Ib (Dxa _ _) (Ib (Jg _) (Aba _))
theorem Gna (c:Int):Aq (c4 c):=by
 intro x hx
 simp only [c4,List.mem_cons,List.not_mem_nil,or_false] at hx
 rcases hx with rfl|rfl|rfl|rfl<;>exact Dka _
theorem Pu (f:Fil):Aq (R8 f):=by
 unfold R8
 cases G5 f with
 |false=>intro x hx; simp at hx
 |true=>exact Ib (Kq f) (Gna _)
theorem Uy (s:Stp) (d:Bool):(hdF s d).length≤20:=by
 have h1:=Xt s
 have h2:=(Gk (Cr (Dra d))).1
 unfold hdF
 rw [List.length_append]
 omega
theorem Su (f:Fil):(St f).length≤25+f.2.2.length:=by
 have h1:=Uy f.1 f.2.1
 have h2:=J2a (Gn f.2.2)
 have h3:(Gn f.2.2).size=f.2.2.length:=Ia _
 unfold St
 rw [List.length_append]
 omega
theorem Kr (f:Fil):Tot (λ k=>Dt k f) (λ r=>r=R8 f):=by
 unfold Dt R8
 refine Tot.bind (Tot.of (Q:=λ b=>b=G5 f) (Gma f) rfl) ?_
 rintro b rfl
 cases h:G5 f with
 |false=>exact Tot.yes rfl (Tot.pure rfl)
 |true=>
  have h2:=(Pt.1 h).2.1
  have h3:(Gn f.2.2).size=f.2.2.length:=Ia _
  have h4:=Uy f.1 f.2.1
  have h5:=Su f
  refine Tot.no rfl (Tot.bind (Aca [] f.1 f.2.1 (by simp)) ?_)
  rintro r rfl
  rw [List.nil_append]
  refine Tot.bind (Gia _ _ (by unfold hdF at h4; omega) (by omega)) ?_
  rintro r rfl
  have e:Esa f.1++Tc (Cr (Dra f.2.1))++txt (Gn f.2.2)=St f:=rfl
  rw [e]
  refine Tot.bind (J6a _ (Kq f) (by omega)) ?_
  rintro r rfl
  exact Tot.ble (by simp only [List.length_cons,List.length_nil]; omega) (Tot.pure rfl)
theorem Uz (f:Fil):Tot (λ k=>Dn k f) (λ r=>r=R8 f):=by
 unfold Dn R8
 refine Tot.bind (Tot.of (Q:=λ b=>b=G5 f) (Xx f) rfl) ?_
 rintro b rfl
 cases h:G5 f with
 |false=>exact Tot.yes rfl (Tot.pure rfl)
 |true=>
  have h2:=(Pt.1 h).2.1
  have h3:(Gn f.2.2).size=f.2.2.length:=Ia _
  have h4:=Uy f.1 f.2.1
  have h5:=Su f
  have h6:=Xt f.1
  refine Tot.no rfl (Tot.bind (Ada [] f.1 (by simp)) ?_)
  rintro r rfl
  rw [List.nil_append]
  refine Tot.bind (Tot.of (Q:=λ r=>r=Dra f.2.1) (Gka _) rfl) ?_
  rintro c rfl
  refine Tot.bind (Od _ _ (by omega)) ?_
  rintro d rfl
  refine Tot.bind (Gja _ _ (by unfold hdF at h4; omega) (by omega)) ?_
  rintro r rfl
  have e:Esa f.1++Tc (Cr (Dra f.2.1))++txt (Gn f.2.2)=St f:=rfl
  rw [e]
  refine Tot.bind (J7a _ (Kq f) (by omega)) ?_
  rintro r rfl
  exact Tot.ble (by simp only [List.length_cons,List.length_nil]; omega) (Tot.pure rfl)
def Td (b:List Int):Option Fil:=(Jx b 0).bind λ a=>(B0a b a.2).bind λ t=>bif G5 (a.1.1,a.1.2,bytesOf t.1)&&decide (R8 (a.1.1,a.1.2,bytesOf t.1)=b) then some (a.1.1,a.1.2,bytesOf t.1) else none
def Oe (b:List Int):Fil×Bool:=match Td b with
 |some f=>(f,true)
 |none=>(Lva,false)
theorem Goa {l:List Int} {q:Nat} {s:Stp} {d:Bool} (hb:Aq l) (h:Jx l 0=some ((s,d),q)):l=hdF s d++l.drop q∧q≤l.length:=by
 unfold Jx at h
 simp only [Option.bind_eq_some_iff] at h
 obtain ⟨⟨t,p2⟩,h2,⟨c,p3⟩,h3,⟨n,p4⟩,h4,⟨e,p5⟩,h5,h⟩:=h
 obtain ⟨b1,b2,b3,b4⟩:=Ko hb h2
 obtain ⟨c1,c2,c3,c4⟩:=Ko hb h3
 obtain ⟨d1,d2,d3,d4⟩:=Ko hb h4
 obtain ⟨e1,e2,e3,e4⟩:=Ko hb h5
 cases hd:decide (1<e) with
 |true=>simp only [hd,cond_true] at h; cases h
 |false=>
  simp only [hd,cond_false,Option.some.injEq,Prod.mk.injEq] at h
  obtain ⟨⟨⟨rfl,rfl,rfl⟩,rfl⟩,rfl⟩:=h
  have he:e≤1:=by
   have:=of_decide_eq_false hd
   omega
  have hbit:Cr (Dra ((e:Int)==1))=e:=by
   have:e=0∨e=1:=by omega
   rcases this with rfl|rfl<;>decide
  have k:∀ n:Nat,n≤1000000000→Cr (n:Int)=n:=λ n hn=>by unfold Cr; omega
  simp only at b1 b2 c1 c2 d1 d2 e1 e2
  refine ⟨?_,e4⟩
  rw [List.drop_zero] at b1
  unfold hdF Esa
  simp only
  rw [k t b2,k c c2,k n d2,hbit,List.append_assoc,List.append_assoc,List.append_assoc,← e1,← d1,← c1,← b1]
theorem Sw {a b:List Int} (ha:Aq a) (hb:Aq b):((Gn a).toList==(Gn b).toList)=decide (a=b):=by
 have:teq (Gn a) (Gn b)=decide (a=b):=by
  rw [Bool.eq_iff_iff,Uq,decide_eq_true_iff]
  constructor
  ·intro h
   have:=congrArg bytesOf h
   rwa [Iu ha,Iu hb] at this
  ·rintro rfl; rfl
 exact this
theorem Gpa (l:List Int) (hb:Aq l) (hl:l.length≤1000000000000) (p:Int) (hp:p≤1000000000000):
  Tot (λ k=>Aj k (l,p,true)) (λ r=>r=((⟨#[]⟩:ByteArray),l,p,true)):=by
 unfold Aj
 refine Tot.bind (Xr l hb hl p hp) ?_
 rintro r rfl
 exact Tot.yes rfl (Tot.pure rfl)
theorem Gqa {f:Fil}:(((R8 f).length:Int)==0) = !(G5 f):=by
 unfold R8
 cases h:G5 f with
 |false=>rfl
 |true=>
  rw [cond_true,List.length_append,Bool.not_true,beq_eq_false_iff_ne]
  simp only [c4,List.length_cons,List.length_nil]
  omega
theorem V0 (b:List Int) (hb:Aq b) (hl:b.length≤1000000000000):Tot (λ k=>Du k b) (λ r=>r=Oe b):=by
 unfold Du
 refine Tot.bind (Lpa b hb hl 0 (Nat.zero_le _) false) ?_
 rintro r (⟨_,⟨s,d⟩,q,h1,h2,rfl⟩|⟨h1,s,d,q,h2,rfl⟩)
 ·refine Tot.bind (Loa b hb hl q h2) ?_
  rintro r (⟨t,q2,h3,h4,rfl⟩|⟨h3,rfl⟩)
  ·have hsz:=(Ut hb h3).2.1
   refine Tot.ble (by dsimp only; omega) (Tot.bind (Kr _) ?_)
   rintro r rfl
   refine Tot.no rfl ?_
   have e:Oe b=bif G5 (s,d,bytesOf t)&&decide (R8 (s,d,bytesOf t)=b) then ((s,d,bytesOf t),true) else (Lva,false):=by
    unfold Oe Td
    simp only [h1,h3,Option.bind_some]
    cases G5 (s,d,bytesOf t)&&decide (R8 (s,d,bytesOf t)=b)<;>rfl
   simp only
   rw [e,Gqa]
   cases hf:G5 (s,d,bytesOf t) with
   |false=>exact Tot.yes rfl (Tot.pure rfl)
   |true=>
    refine Tot.no rfl ?_
    rw [Sw (Pu _) hb]
    cases decide (R8 (s,d,bytesOf t)=b) with
    |false=>exact Tot.yes rfl (Tot.pure rfl)
    |true=>exact Tot.no rfl (Tot.pure rfl)
  ·refine Tot.ble (Nat.zero_le _) (Tot.bind (Kr _) ?_)
   rintro r rfl
   refine Tot.yes rfl (Tot.pure ?_)
   unfold Oe Td
   simp only [h1,h3,Option.bind_some,Option.bind_none]
   rfl
 ·refine Tot.bind (Gpa b hb hl q (by omega)) ?_
  rintro r rfl
  refine Tot.ble (Nat.zero_le _) (Tot.bind (Kr _) ?_)
  rintro r rfl
  refine Tot.yes rfl (Tot.pure ?_)
  unfold Oe Td
  simp only [h1.resolve_left (by simp),Option.bind_none]
  rfl
theorem V1 (b:List Int) (hb:Aq b) (hl:b.length≤1000000000000):Tot (λ k=>Dp k b) (λ r=>r=Oe b):=by
 have none_of:Td b=none→Oe b=(Lva,false):=λ h=>by unfold Oe; rw [h]
 unfold Dp
 refine Tot.bind (J3a b hb hl 0) ?_
 rintro r (⟨n1,p1,n2,p2,n3,p3,_,g1,g2,g3,rfl⟩|⟨h,hr⟩)
 ·refine Tot.bind (Mh b hb hl (p3:Int)) ?_
  rintro r rfl
  rw [N6]
  have g1':It b 0=some (n1,p1):=g1
  cases g4:It b p3 with
  |none=>
   refine Tot.bind (R3 b hb hl 0) ?_
   rintro r rfl
   refine Tot.no rfl (Tot.yes rfl (Tot.pure (none_of ?_).symm))
   unfold Td Jx
   simp only [g1',g2,g3,g4,Option.bind_some,Option.bind_none]
  |some x=>
   obtain ⟨n4,p4⟩:=x
   simp only
   have es:Jx b 0=bif decide (1<n4) then none else some ((((n1:Int),(n2:Int),(n3:Int)),(n4:Int)==1),p4):=by
    unfold Jx
    simp only [g1',g2,g3,g4,Option.bind_some]
   refine Tot.bind (R3 b hb hl (p4:Int)) ?_
   rintro r rfl
   rw [Xu]
   refine Tot.no rfl (Tot.no rfl ?_)
   cases g5:B0a b p4 with
   |none=>
    refine Tot.yes rfl (Tot.pure (none_of ?_).symm)
    unfold Td
    rw [es]
    cases decide (1<n4) with
    |true=>rfl
    |false=>simp only [cond_false,Option.bind_some,g5,Option.bind_none]
   |some y=>
    obtain ⟨t,q⟩:=y
    refine Tot.no rfl (Tot.dite (λ h=>Tot.pure (none_of ?_).symm) (λ h=>?_))
    ·unfold Td
     rw [es,decide_eq_true (by omega)]
     rfl
    ·rw [decide_eq_false (by omega),cond_false] at es
     have hq:=Ut hb g5
     simp only
     rw [w64 (n:=(q:Int)+4) (by omega) (by omega)]
     have ef:Td b=bif G5 (((n1:Int),(n2:Int),(n3:Int)),(n4:Int)==1,bytesOf t)&&decide (R8 (((n1:Int),(n2:Int),(n3:Int)),(n4:Int)==1,bytesOf t)=b) then some (((n1:Int),(n2:Int),(n3:Int)),(n4:Int)==1,bytesOf t) else none:=by
      unfold Td
      simp only [es,g5,Option.bind_some]
     refine Tot.ite (λ h4=>Tot.pure (none_of ?_).symm) (λ h4=>?_)
     ·rw [ef]
      cases hc:(G5 (((n1:Int),(n2:Int),(n3:Int)),(n4:Int)==1,bytesOf t)&&decide (R8 (((n1:Int),(n2:Int),(n3:Int)),(n4:Int)==1,bytesOf t)=b)) with
      |false=>rfl
      |true=>
       exfalso
       rw [Bool.and_eq_true,decide_eq_true_iff] at hc
       have a1:=(Goa hb es).1
       rw [hq.1] at a1
       have a2:=hc.2
       unfold R8 at a2
       rw [hc.1,cond_true] at a2
       unfold St at a2
       simp only at a2
       rw [Qz,List.append_assoc] at a2
       rw [← a2] at a1
       have a3:=List.append_cancel_left (List.append_cancel_left a1)
       have a4:=congrArg List.length a3
       rw [a2,List.length_drop] at a4
       simp only [c4,List.length_cons,List.length_nil] at a4
       have:(q:Int)+4=(b.length:Int):=by omega
       simp [this] at h4
     ·refine Tot.ble (by simp only [List.length_nil]; omega) ?_
      rw [List.nil_append]
      refine Tot.bind (Tot.of (Q:=λ r=>r=G5 (((n1:Int),(n2:Int),(n3:Int)),(n4:Int)==1,bytesOf t)) (Xx _) rfl) ?_
      rintro r rfl
      unfold Oe
      rw [ef]
      cases hf:G5 (((n1:Int),(n2:Int),(n3:Int)),(n4:Int)==1,bytesOf t) with
      |false=>exact Tot.yes rfl (Tot.pure rfl)
      |true=>
       refine Tot.no rfl (Tot.bind (Uz _) ?_)
       rintro r rfl
       rw [Sw (Pu _) hb,Bool.true_and]
       cases decide (R8 (((n1:Int),(n2:Int),(n3:Int)),(n4:Int)==1,bytesOf t)=b) with
       |false=>exact Tot.yes rfl (Tot.pure rfl)
       |true=>exact Tot.no rfl (Tot.pure rfl)
 ·obtain ⟨r1,r2,r3⟩:=r
  simp only at hr
  subst hr
  refine Tot.bind (Mh b hb hl _) ?_
  rintro r rfl
  refine Tot.bind (R3 b hb hl _) ?_
  rintro r rfl
  refine Tot.yes rfl (Tot.pure (none_of ?_).symm)
  unfold Td
  rw [Dsa (p:=0) (h.resolve_right (by omega))]
  rfl

def gt (l:List Nmd) (s:ByteArray):Option (List Int):=match fnd l s with
 |some i=>some (l.getD i Lq).2
 |none=>none
theorem J8a (y:Nmd) (l:List Nmd) (s:ByteArray):gt (y::l) s=if y.1=s then some y.2 else gt l s:=by
 unfold gt
 rw [Gla]
 by_cases h:y.1=s
 ·rw [if_pos (Uq.2 h),if_pos h]; rfl
 ·rw [if_neg (λ c=>h (Uq.1 c)),if_neg h]
  cases fnd l s<;>rfl
theorem L1a {l:List Nmd} {s:ByteArray} {b:List Int} (h:gt l s=some b):(s,b)∈l:=by
 induction l with
 |nil=>cases h
 |cons y l ih=>
  rw [J8a] at h
  by_cases e:y.1=s
  ·rw [if_pos e] at h
   cases h
   subst e
   exact List.mem_cons_self
  ·rw [if_neg e] at h
   exact List.mem_cons_of_mem _ (ih h)
def LB (l:List Nmd):Prop:=∀ x∈l,Aq x.2
def DB (d:Dsk):Prop:=LB d.1∧LB d.2
theorem LB.cut {l:List Nmd} (h:LB l) (s:ByteArray):LB (cut l s):=λ x hx=>h x (J4a.subset hx)
theorem LB.ins {l:List Nmd} (h:LB l) {x:Nmd} (hx:Aq x.2):LB (ins l x):=λ y hy=>by
 rcases J5a.1 hy with rfl|hy
 ·exact hx
 ·exact h y hy
theorem LB.gt {l:List Nmd} (h:LB l) {s:ByteArray} {b:List Int} (hg:gt l s=some b):Aq b:=h _ (L1a hg)
def wr (l:List Nmd) (s:ByteArray) (b:List Int):List Nmd:=ins (cut l s) (s,b)
def sy (d:Dsk) (s:ByteArray):List Nmd:=match gt d.1 s with
 |some b=>wr d.2 s b
 |none=>cut d.2 s
def wrD (d:Dsk) (s:ByteArray) (b:List Int):Dsk×Bool:=bif decide (b.length≤400)&&decide ((wr d.1 s b).length≤60) then ((wr d.1 s b,d.2),true) else (d,false)
def syD (d:Dsk) (s:ByteArray):Dsk×Bool:=bif decide ((sy d s).length≤60) then ((d.1,sy d s),true) else (d,false)
section
variable {d:Dsk} {s:ByteArray} {b:List Int}
end
def old (d:Dsk) (s:ByteArray):Option Fil:=(gt d.1 s).bind Td
def kp1 (d:Dsk) (s:ByteArray) (f:Fil):Option (Dsk×Int):=
 let w:=bif (wrD d s (R8 f)).2 then some ((wrD d s (R8 f)).1,(0:Int)) else none
 match old d s with
 |some o=>bif sle o.1 f.1 then w else some (d,1)
 |none=>w
def kp2 (d:Dsk) (s:ByteArray) (sure:Bool) (x:Dsk×Int):Dsk×Int:=bif sure then (bif (syD x.1 s).2 then ((syD x.1 s).1,x.2) else (d,3)) else x
def Lwa (d:Dsk) (s:ByteArray) (f:Fil) (sure:Bool):Dsk×Int:=match kp1 d s f with
 |some x=>kp2 d s sure x
 |none=>(d,3)
def keep (d:Dsk) (s:ByteArray) (f:Fil) (sure:Bool):Dsk×Int:=bif Xw d&&(Dla s&&G5 f) then Lwa d s f sure else (d,2)

def DG (d:Dsk):Prop:=Xw d=true∧DB d

section
variable {d:Dsk} {s:ByteArray} {f:Fil} {sure:Bool}
end

abbrev Nod:=Int×Dsk×List Row×List Row
def qOk (l:List Row):Bool:=l.all Gga
def Dya (n:Nod):Bool:=qOk n.2.2.2&&(inR n.1 0 20&&(Xw n.2.1&&(Hma n.2.2.1&&decide ((n.2.2.2.length:Int)≤60))))
def RF (l:List Row):Prop:=l.length≤2000000∧Gha l
def NIn (n:Nod):Prop:=(DIn n.2.1∧DB n.2.1)∧RF n.2.2.1∧RF n.2.2.2
def NG (n:Nod):Prop:=Dya n=true∧DB n.2.1
theorem Afa {n:Nod}:Dya n=true↔(∀ r∈n.2.2.2,Gga r=true)∧(0≤n.1∧n.1≤20)∧Xw n.2.1=true∧Hma n.2.2.1=true∧n.2.2.2.length≤60:=by
 unfold Dya qOk
 simp only [Bool.and_eq_true,List.all_eq_true,J0a,decide_eq_true_iff]
 constructor
 ·rintro ⟨h1,h2,h3,h4,h5⟩; exact ⟨h1,h2,h3,h4,by omega⟩
 ·rintro ⟨h1,h2,h3,h4,h5⟩; exact ⟨h1,h2,h3,h4,by omega⟩
theorem NG.g {n:Nod} (h:NG n):DG n.2.1:=⟨(Afa.1 h.1).2.2.1,h.2⟩
def V2:Nod:=((0:Int),(([]:List Nmd),([]:List Nmd)),([]:List Row),([]:List Row))

abbrev Dev:=Int×Int×Int
abbrev Rng:=Int×List (List Int)
def Lxa:Dev:=((0:Int),((0:Int),(0:Int)))
def Joa (l:List Int) (n:Int):Bool:=l.any (· == n)
def J9a (l:List Dev) (id:Int):Option Dev:=l.find? (λ d=>d.1==id)
def L2a (d:Dev):Bool:=inR d.1 0 20&&(inR d.2.1 0 20&&inR d.2.2 1 1000)
def Lya:Option Int→List Dev→Bool
 |_,[]=>true
 |none,d::l=>L2a d&&Lya (some d.1) l
 |some q,d::l=>L2a d&&(decide (q<d.1)&&Lya (some d.1) l)
def L3a (l:List Dev):Bool:=Lya none l&&inR (l.length:Int) 1 12
def Lza (l:List Dev) (out:List Int) (id:Int):List Int:=match J9a l id with
 |some d=>bif Joa out d.2.1 then out else out++[d.2.1]
 |none=>out
def Jaa (ids:List Int) (l:List Dev):List Int:=ids.foldl (Lza l) []

def RBd (r:Rng):Prop:=r.2.length≤2000000∧∀ p∈r.2,p.length≤2000000
def cnt (id n x:Int):Int:=bif x==id then n+1 else n
def Mka (id n:Int) (p:List Int):Int:=p.foldl (cnt id) n
def Sx (r:Rng) (id:Int):Int:=r.2.foldl (Mka id) 0

def M0a (r:Rng) (p zs:List Int) (a:Option (Dev×Bool)) (d:Dev):Option (Dev×Bool):=
 bif Joa p d.1 then a else match a with
 |none=>some (d,!(Joa zs d.2.1))
 |some (b,fr)=>bif (!(Joa zs d.2.1) && !fr) || (((!(Joa zs d.2.1))==fr)&&decide ((Sx r d.1+1) * b.2.2<(Sx r b.1+1) * d.2.2)) then some (d,!(Joa zs d.2.1)) else some (b,fr)
def M1a (r:Rng) (p:List Int) (l:List Dev):Option (Dev×Bool):=l.foldl (M0a r p (Jaa p l)) none
def Mla (r:Rng) (p:List Int) (l:List Dev):Int:=match M1a r p l with
 |some b=>b.1.1
 |none => -1
def bs (r:Rng):Option (Dev×Bool)→Int×Bool×Dev
 |some (b,fr)=>(Sx r b.1+1,fr,b)
 |none=>(0,false,-1,0,0)

def L4a (l:List Dev) (reps:Int) (ps:List (List Int)):Nat→List Int→List Int
 |0,p=>p
 |n+1,p=>L4a l reps ps n (p++[Mla (reps,ps++[p]) p l])
def Mda (l:List Dev) (reps:Int):Nat→List (List Int)→List (List Int)
 |0,ps=>ps
 |n+1,ps=>Mda l reps n (ps++[L4a l reps ps reps.toNat []])
def build (l:List Dev) (parts reps:Int):Rng×Bool:=bif L3a l&&(inR parts 1 64&&(inR reps 1 5 && !(decide (reps > (l.length:Int))))) then ((reps,Mda l reps parts.toNat []),true) else ((0,[]),false)

def hv (r:Rng) (l:List Dev) (b id:Int):Bool:=match J9a l b with
 |none=>false
 |some x=>match J9a l id with
  |none=>false
  |some d=>(d.2.1==x.2.1)&&decide (Sx r id - Sx r b≥2)

section
open Go
end

section
open Go
end

section
open Go
end

def B1a (l:List ByteArray) (s:ByteArray):Bool:=l.any λ y=>teq y s
theorem Gra (l:List ByteArray) (s:ByteArray) (hl:l.length≤1000000000):Tot (λ k=>Dw k l s) (λ r=>r=B1a l s):=by
 unfold Dw
 refine Tot.bind (Q:=λ r=>r=bif B1a l s then .inl true else .inr ()) ?_ (by rintro r rfl; cases B1a l s<;>exact Tot.pure rfl)
 refine Tot.up (L:=λ k i (_:Unit)=>Ce k l s i) (Q:=λ r=>r=bif B1a l s then .inl true else .inr ()) l.length (λ j _=>B1a (l.drop j) s=B1a l s) ?_ ?_ 0 () (Nat.zero_le _) rfl
 ·intro _ h
  rw [List.drop_length] at h
  simp (disch:=omega) only [Ce,dF,← h]
  exact Tot.pure rfl
 ·intro j _ hj h next
  rw [I8 (d:=Uu) hj] at h
  unfold B1a at h
  rw [List.any_cons] at h
  simp (disch:=omega) only [Ce,dT,Int.toNat_natCast,w64]
  refine Tot.ite (λ hc=>Tot.pure ?_) (λ hc=>next () ?_)
  ·rw [show teq (l.getD j Uu) s=true from hc,Bool.true_or] at h
   unfold B1a
   rw [← h]
   rfl
  ·rw [show teq (l.getD j Uu) s=false from hc,Bool.false_or] at h
   exact h
def M2a (l:List ByteArray):Nat→ByteArray→List ByteArray×Nat
 |0,_=>(l,0)
 |k+1,s=>bif tlt s (l.getD k Uu) then M2a (l.set (k+1) (l.getD k Uu)) k s else (l,k+1)
def Mma (l:List ByteArray) (s:ByteArray):List ByteArray:=(M2a (l++[s]) l.length s).1.set (M2a (l++[s]) l.length s).2 s
def hS1 (l:List Nmd) (j:Nat) (out:List ByteArray) (x:Nmd):List ByteArray:=bif (Td x.2).isSome&&(!(B1a out x.1)&&(Hoa l x.1==(j:Int))) then Mma out x.1 else out
def hS (l:List Nmd):List Nmd→Nat→List ByteArray→List ByteArray
 |[],_,out=>out
 |x::r,j,out=>hS l r (j+1) (hS1 l j out x)

section
open Go
end

def Mt (v:BitVec 32) (b:Int):BitVec 32:=(v ^^^ BitVec.ofInt 32 b) * 16777619#32

section
variable {R:Type} {L:Nat→Int→Option (Sum Bool R)}
theorem Ka (p:Nat→Bool) (n:Nat):(List.range (n+1)).all p=((List.range n).all p&&p n):=by
 rw [List.range_succ,List.all_append,List.all_cons,List.all_nil,Bool.and_true]
theorem P3 (p:Nat→Bool) (n:Nat):(List.range (n+1)).any p=((List.range n).any p || p n):=by
 rw [List.range_succ,List.any_append,List.any_cons,List.any_nil,Bool.or_false]
theorem P4 {p:Nat→Bool} {m n:Nat} (h:m≤n) (hn:(List.range n).all p=true):(List.range m).all p=true:=by
 rw [List.all_eq_true] at hn ⊢
 exact λ x hx=>hn x (List.mem_range.2 (by have:=List.mem_range.1 hx; omega))
theorem Tot.allI (n:Nat) (p:Nat→Bool) (e:R) (hend:Tot (λ k=>L (k+1) (n:Int)) (λ r=>r = .inr e))
  (Mt:∀ j,j<n→∀ (Q:Sum Bool R→Prop),(p j=false→Q (.inl false))→(p j=true→Tot (λ k=>L k ((j:Int)+1)) Q)→Tot (λ k=>L (k+1) (j:Int)) Q):
  Tot (λ k=>L k 0) (λ r=>r=bif (List.range n).all p then .inr e else .inl false):=by
 refine Tot.up (L:=λ k i (_:Unit)=>L k i) (Q:=λ r=>r=bif (List.range n).all p then .inr e else .inl false) n (λ j _=>(List.range j).all p=true) ?_ ?_ 0 () (Nat.zero_le _) rfl
 ·intro _ h
  rw [h]
  exact hend
 ·intro j _ hj h next
  refine Mt j hj _ (λ hp=>?_) (λ hp=>next () (by rw [Ka,h,hp]; rfl))
  cases hc:(List.range n).all p with
  |false=>rfl
  |true=>
   have:=P4 (show j+1≤n by omega) hc
   rw [Ka,hp,Bool.and_false] at this
   cases this
theorem Tot.anyI (n:Nat) (p:Nat→Bool) (e:R) (hend:Tot (λ k=>L (k+1) (n:Int)) (λ r=>r = .inr e))
  (Mt:∀ j,j<n→∀ (Q:Sum Bool R→Prop),(p j=true→Q (.inl true))→(p j=false→Tot (λ k=>L k ((j:Int)+1)) Q)→Tot (λ k=>L (k+1) (j:Int)) Q):
  Tot (λ k=>L k 0) (λ r=>r=bif (List.range n).any p then .inl true else .inr e):=by
 refine Tot.up (L:=λ k i (_:Unit)=>L k i) (Q:=λ r=>r=bif (List.range n).any p then .inl true else .inr e) n (λ j _=>(List.range j).any p=false) ?_ ?_ 0 () (Nat.zero_le _) rfl
 ·intro _ h
  rw [h]
  exact hend
 ·intro j _ hj h next
  refine Mt j hj _ (λ hp=>?_) (λ hp=>next () (by rw [P3,h,hp]; rfl))
  rw [List.any_eq_true.2 ⟨j,List.mem_range.2 hj,hp⟩]
  rfl
end
theorem Sy {α:Type} (l:List α) (d:α) (p:α→Bool):l.all p=(List.range l.length).all λ j=>p (l.getD j d):=by
 rw [Bool.eq_iff_iff,List.all_eq_true,List.all_eq_true]
 constructor
 ·intro h j hj
  exact h _ (Bi (List.mem_range.1 hj))
 ·intro h x hx
  obtain ⟨j,hj,rfl⟩:=List.mem_iff_getElem.1 hx
  have:=h j (List.mem_range.2 hj)
  rwa [List.getD_eq_getElem?_getD,List.getElem?_eq_getElem hj,Option.getD_some] at this
theorem Of {α:Type} (l:List α) (d:α) (p:α→Bool):l.any p=(List.range l.length).any λ j=>p (l.getD j d):=by
 rw [Bool.eq_iff_iff,List.any_eq_true,List.any_eq_true]
 constructor
 ·rintro ⟨x,hx,h⟩
  obtain ⟨j,hj,rfl⟩:=List.mem_iff_getElem.1 hx
  exact ⟨j,List.mem_range.2 hj,by rwa [List.getD_eq_getElem?_getD,List.getElem?_eq_getElem hj,Option.getD_some]⟩
 ·rintro ⟨j,hj,h⟩
  exact ⟨_,Bi (List.mem_range.1 hj),h⟩
abbrev Wri:=ByteArray×Fil×Bool
abbrev Wld:=List Dev×Rng×List Nod×Stp×List Wri×List ByteArray
def Aga:Wri:=((⟨#[]⟩:ByteArray),((((0:Int),((0:Int),(0:Int))),(false,[])),false))
def WIn (w:Wld):Prop:=RBd w.2.1∧w.1.length≤2000000∧(w.2.2.1.length≤2000000∧∀ n∈w.2.2.1,NIn n)∧(w.2.2.2.2.1.length≤2000000∧∀ x∈w.2.2.2.2.1,Gfa x.1)∧(w.2.2.2.2.2.length≤2000000∧∀ s∈w.2.2.2.2.2,Gfa s)

def quo (n:Int):Int:=n / 2+1

section
open Go
end

def Jba:Row:=((⟨#[]⟩:ByteArray),(((0:Int),((0:Int),(0:Int))),(false,(0:Int))))
def R4 (s:ByteArray) (st:Stp) (n:Nod):Bool:=match gt n.2.1.2 s with
 |none=>false
 |some b=>match Td b with
  |none=>false
  |some f => !(sle f.1 st)
def V3 (w:Wld) (x:Wri):Bool := !x.2.2 || (B1a w.2.2.2.2.2 x.1 || w.2.2.1.any (R4 x.1 x.2.1.1))
def Gsa (w:Wld):Bool:=w.2.2.2.2.1.all (V3 w)
theorem Dza (l:List Nmd) (s:ByteArray):(Hoa l s<0∧gt l s=none)∨∃ i:Nat,Hoa l s=(i:Int)∧i<l.length∧gt l s=some (l.getD i Lq).2:=by
 unfold Hoa gt
 cases h:fnd l s with
 |none=>exact .inl ⟨by decide,rfl⟩
 |some i=>
  obtain ⟨hi,_⟩:=List.findIdx?_eq_some_iff_getElem.1 h
  exact .inr ⟨i,rfl,hi,rfl⟩
theorem E0a (w:Wld) (hw:WIn w) (s:ByteArray) (st:Stp):Tot (λ k=>Db k w s st) (λ r=>r=w.2.2.1.any (R4 s st)):=by
 obtain ⟨_,_,⟨h1,h2⟩,⟨h3,_⟩,_⟩:=hw
 unfold Db
 refine Tot.bind (Q:=λ r=>r=bif w.2.2.1.any (R4 s st) then .inl true else .inr ()) ?_ (by
  rintro r rfl
  cases w.2.2.1.any (R4 s st)<;>exact Tot.pure rfl)
 rw [Of _ V2]
 refine Tot.anyI (L:=λ k i=>C8 k s w.2.2.1 (w.2.2.1.length:Int) i st) _ _ () ?_ ?_
 ·simp (disch:=omega) only [C8,dF]
  exact Tot.pure rfl
 ·intro j hj Q yes no
  have hm:=h2 _ (Bi (d:=V2) hj)
  obtain ⟨x,ex⟩:∃ x:Nod,w.2.2.1.getD j V2=x:=⟨_,rfl⟩
  rw [ex] at hm no yes
  have e0:w.2.2.1.getD j ((0:Int),(([],[]),([],[])))=x:=ex
  obtain ⟨⟨⟨⟨f1,f2⟩,_⟩,l1,l2⟩,b1,b2⟩:=hm.1
  simp (disch:=omega) only [C8,dT,Int.toNat_natCast,w64,e0]
  unfold R4 at yes no
  refine Tot.bind (Kwa x.2.1.2 s f2.1) ?_
  rintro r rfl
  rcases Dza x.2.1.2 s with ⟨hn,hg⟩|⟨i,e,hi,hg⟩
  ·rw [hg] at no
   exact Tot.dec hn (no rfl)
  ·rw [e]
   have hm:=Bi (d:=Lq) hi
   obtain ⟨y,ey⟩:∃ y:Nmd,x.2.1.2.getD i Lq=y:=⟨_,rfl⟩
   rw [ey] at hm hg
   rw [hg] at no yes
   have e2:x.2.1.2.getD i ((⟨#[]⟩:ByteArray),[])=y:=ey
   refine Tot.ndec (by omega) ?_
   simp (disch:=omega) only [dT,Int.toNat_natCast,e2]
   refine Tot.bind (V0 y.2 (b2 y hm) (f2.2 y hm)) ?_
   rintro r rfl
   unfold Oe
   cases hy:Td y.2 with
   |none=>simp only [hy] at no; exact Tot.no rfl (no trivial)
   |some f=>
    simp only [hy] at no yes
    simp only [Gea,Option.bind_some]
    exact Tot.yes rfl (Tot.ite (λ hc=>Tot.pure (yes hc)) (λ hc=>no hc))
theorem E1a (w:Wld) (hw:WIn w) (x:Wri):Tot (λ k=>Bc k w x) (λ r=>r=w.2.2.1.any (R4 x.1 x.2.1.1)):=by
 obtain ⟨_,_,⟨h1,h2⟩,⟨h3,_⟩,_⟩:=hw
 unfold Bc
 refine Tot.bind (Q:=λ r=>r=bif w.2.2.1.any (R4 x.1 x.2.1.1) then .inl true else .inr ()) ?_ (by
  rintro r rfl
  cases w.2.2.1.any (R4 x.1 x.2.1.1)<;>exact Tot.pure rfl)
 rw [Of _ V2]
 refine Tot.anyI (L:=λ k i=>Ay k i w x) _ _ () ?_ ?_
 ·simp (disch:=omega) only [Ay,dF]
  exact Tot.pure rfl
 ·intro j hj Q yes no
  have hm:=h2 _ (Bi (d:=V2) hj)
  obtain ⟨z,ex⟩:∃ x:Nod,w.2.2.1.getD j V2=x:=⟨_,rfl⟩
  rw [ex] at hm no yes
  have e0:w.2.2.1.getD j ((0:Int),(([],[]),([],[])))=z:=ex
  obtain ⟨⟨⟨⟨f1,f2⟩,_⟩,l1,l2⟩,b1,b2⟩:=hm.1
  simp (disch:=omega) only [Ay,dT,Int.toNat_natCast,w64,e0]
  unfold R4 at yes no
  refine Tot.bind (Kya z.2.1.2 x.1 f2.1) ?_
  rintro r rfl
  rcases Dza z.2.1.2 x.1 with ⟨hn,hg⟩|⟨i,e,hi,hg⟩
  ·rw [hg] at no
   exact Tot.dec hn (no rfl)
  ·rw [e]
   have hm:=Bi (d:=Lq) hi
   obtain ⟨y,ey⟩:∃ y:Nmd,z.2.1.2.getD i Lq=y:=⟨_,rfl⟩
   rw [ey] at hm hg
   rw [hg] at no yes
   have e2:z.2.1.2.getD i ((⟨#[]⟩:ByteArray),[])=y:=ey
   refine Tot.ndec (by omega) ?_
   simp (disch:=omega) only [dT,Int.toNat_natCast,e2]
   refine Tot.bind (V1 y.2 (b2 y hm) (f2.2 y hm)) ?_
   rintro r rfl
   unfold Oe
   cases hy:Td y.2 with
   |none=>simp only [hy] at no; exact Tot.no rfl (no trivial)
   |some f=>
    simp only [hy] at no yes
    simp only [Dwa,Option.bind_some]
    exact Tot.yes rfl (Tot.ite (λ hc=>Tot.pure (yes hc)) (λ hc=>no hc))
theorem Gta (l:List ByteArray) (s:ByteArray) (hl:l.length≤1000000000):Tot (λ k=>Dc k l s) (λ r=>r=B1a l s):=by
 unfold Dc B1a
 refine Tot.bind (Q:=λ r=>r=bif l.any (λ y=>teq y s) then .inl true else .inr ()) ?_ (by
  rintro r rfl
  cases l.any (λ y=>teq y s)<;>exact Tot.pure rfl)
 rw [Of _ Uu]
 refine Tot.anyI (L:=λ k i=>Bu k s l (l.length:Int) i) _ _ () ?_ ?_
 ·simp (disch:=omega) only [Bu,dF]
  exact Tot.pure rfl
 ·intro j hj Q yes no
  have e0:l.getD j (⟨#[]⟩:ByteArray)=l.getD j Uu:=rfl
  simp (disch:=omega) only [Bu,dT,Int.toNat_natCast,w64,e0]
  exact Tot.ite (λ hc=>Tot.pure (yes hc)) (λ hc=>no hc)
theorem Gua (w:Wld) (hw:WIn w):Tot (λ k=>E5 k w) (λ r=>r=Gsa w):=by
 have hw':=hw
 obtain ⟨_,_,⟨h1,h2⟩,⟨h3,_⟩,h5,_⟩:=hw'
 unfold E5 Gsa
 refine Tot.bind (Q:=λ r=>r=bif w.2.2.2.2.1.all (V3 w) then .inr () else .inl false) ?_ (by
  rintro r rfl
  cases w.2.2.2.2.1.all (V3 w)<;>exact Tot.pure rfl)
 rw [Sy _ Aga]
 refine Tot.allI (L:=λ k i=>Cz k w.2.2.2.2.1 (w.2.2.2.2.1.length:Int) i w) _ _ () ?_ ?_
 ·simp (disch:=omega) only [Cz,dF]
  exact Tot.pure rfl
 ·intro j hj Q no yes
  obtain ⟨x,ex⟩:∃ x:Wri,w.2.2.2.2.1.getD j Aga=x:=⟨_,rfl⟩
  rw [ex] at no yes
  have e0:w.2.2.2.2.1.getD j ((⟨#[]⟩:ByteArray),((((0:Int),((0:Int),(0:Int))),(false,[])),false))=x:=ex
  simp (disch:=omega) only [Cz,dT,Int.toNat_natCast,w64,e0]
  unfold V3 at no yes
  refine Tot.ite (λ hk=>?_) (λ hk=>yes (by rw [hk]; rfl))
  rw [hk,Bool.not_true,Bool.false_or] at no yes
  refine Tot.bind (Gta _ x.1 (by omega)) ?_
  rintro b rfl
  refine Tot.ite (λ hh=>?_) (λ hh=>yes (by rw [Bool.not_eq_false'] at hh; rw [hh,Bool.true_or]))
  rw [Bool.not_eq_true'] at hh
  rw [hh,Bool.false_or] at no yes
  refine Tot.bind (E0a w hw x.1 x.2.1.1) ?_
  rintro b rfl
  refine Tot.ite (λ hc=>Tot.pure (no ?_)) (λ hc=>yes ?_)
  ·rw [Bool.not_eq_true'] at hc; exact hc
  ·rw [Bool.not_eq_false'] at hc; exact hc
theorem Gva (w:Wld) (hw:WIn w):Tot (λ k=>E4 k w) (λ r=>r=Gsa w):=by
 have hw':=hw
 obtain ⟨_,_,⟨h1,h2⟩,⟨h3,_⟩,h5,_⟩:=hw'
 unfold E4 Gsa
 refine Tot.bind (Q:=λ r=>r=bif w.2.2.2.2.1.all (V3 w) then .inr () else .inl false) ?_ (by
  rintro r rfl
  cases w.2.2.2.2.1.all (V3 w)<;>exact Tot.pure rfl)
 rw [Sy _ Aga]
 refine Tot.allI (L:=λ k i=>Cw k i w) _ _ () ?_ ?_
 ·simp (disch:=omega) only [Cw,dF]
  exact Tot.pure rfl
 ·intro j hj Q no yes
  obtain ⟨x,ex⟩:∃ x:Wri,w.2.2.2.2.1.getD j Aga=x:=⟨_,rfl⟩
  rw [ex] at no yes
  have e0:w.2.2.2.2.1.getD j ((⟨#[]⟩:ByteArray),((((0:Int),((0:Int),(0:Int))),(false,[])),false))=x:=ex
  simp (disch:=omega) only [Cw,dT,Int.toNat_natCast,w64,e0]
  unfold V3 at no yes
  refine Tot.ite (λ hk=>?_) (λ hk=>yes (by rw [hk]; rfl))
  rw [hk,Bool.not_true,Bool.false_or] at no yes
  refine Tot.bind (Gra _ x.1 (by omega)) ?_
  rintro b rfl
  refine Tot.ite (λ hh=>?_) (λ hh=>yes (by rw [Bool.not_eq_false'] at hh; rw [hh,Bool.true_or]))
  rw [Bool.not_eq_true'] at hh
  rw [hh,Bool.false_or] at no yes
  refine Tot.bind (E1a w hw x) ?_
  rintro b rfl
  refine Tot.ite (λ hc=>Tot.pure (no ?_)) (λ hc=>yes ?_)
  ·rw [Bool.not_eq_true'] at hc; exact hc
  ·rw [Bool.not_eq_false'] at hc; exact hc

end Go.Proofs.Ytlfoljnopndpeaa.Vf
