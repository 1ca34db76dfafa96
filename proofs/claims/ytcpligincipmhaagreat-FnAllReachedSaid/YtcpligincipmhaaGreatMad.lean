import Derived.Test.YtcpligincipmhaaGreatMac
import Derived.Laws.CopyRow
set_option linter.all false
namespace Go.Proofs.YtcpligincipmhaaGreat.Vf
open Go
open List (length getD)
open Int (toNat)
open Go.IntKind (wrap)
open BitVec (ofInt)
def Vd:=@List.mem_cons_of_mem
def Vl:=@List.mem_cons
def Vm:=@List.mem_append
def Vn:=@List.mem_singleton
def Vq:=@List.length_nil
def Vs:=@List.length_take
def Vt:=@List.length_set
def Wf:=@List.length_drop
def Wh:=@List.take_append_drop
def Wj:=@Nat.mul_le_mul_right
def Wo:=@Option.getD_some
def Ya:=@List.nodup_append
def Yg:=@List.getElem?_append_right
def Yl:=@List.getElem?_append_left
def Ym:=@List.getElem?_eq_some_iff
def Yr:=@List.nodup_cons
def Yu:=@List.getElem?_eq_none
def Zd:=@Array.length_toList
def Zi:=@List.drop_eq_getElem_cons
def Zq:=@List.mem_of_mem_drop
def Zw:=@List.mem_of_mem_take
def Cab:=@Nat.min_eq_left
def Cdb:=@List.map_congr_left
def Cfb:=@List.take_of_length_le
def Cjb:=@Option.getD_none
def Ctb:=@List.size_toArray
def D0b:=@List.take_take
def D2b:=@Nat.lt_or_ge
def D3b:=@List.map_map
def Dbb:=@List.drop_take
def Dib:=@Nat.sub_zero
def Djb:=@Nat.le_of_eq
def Dob:=@List.drop_eq_nil_of_le
def Dpb:=@List.length_eq_one_iff
def Dtb:=@List.getElem?_toArray
def E5b:=@List.take_succ_cons
def E6b:=@Option.map_some
def Eeb:=@List.Sublist.trans
def F1b:=@Int.toNat_zero
def F4b:=@List.take_add

section
variable {X:Cx} {S:Sit} {a:Act} {E:En} {A:Ab} {o:Oper} {R:Type} {Kc:List Up→Option R} {r:R}
def A9.impAt {P:Program} {S S':Sit} {f f':Nat→Lab}:∀ {j:Nat} {xs:List Lf} {us:List Value},(∀ n,j≤n→n<j+xs.length→∀ x u,Bc P S (f n) x u→Bc P S' (f' n) x u)→A9 P S f j xs us→A9 P S' f' j xs us
 |_,[],[],_,_=>trivial
 |j,_::xs,_::_,hi,h=>⟨hi j (Vw _) (by simp) _ _ h.1,h.2.impAt (λ n h1 h2=>hi n (by omega) (by simp only[Vh];omega))⟩
 |_,[],_::_,_,h=>h.elim
 |_,_::_,[],_,h=>h.elim
def A9.setAll {P:Program} {S:Sit} {f:Nat→Lab} {l m:List Lf} {us ms:List Value} {off:Nat} (h1:A9 P S f 0 (l.take off) (us.take off)) (h2:A9 P S f off m ms) (h3:A9 P S f (off+m.length) (l.drop (off+m.length)) (us.drop (off+m.length)))
  (hl:off+m.length≤l.length):A9 P S f 0 (setAll l off m) (us.take off++ms++us.drop (off+m.length)):=by
 unfold Vf.setAll
 have e1:(l.take off).length=off:=by rw[Vs];omega
 refine A9.app (A9.app h1 ?_) ?_
 ·rw[e1,Wi];exact h2
 ·rw[Vi,e1,Wi];exact h3
def L0a {P:Program} {w:World} {T:TypeId} {x:Operand} {j:Nat} {t:TI} {off z:Nat} {ag:Bool} (ht:TOk P T t) (ha:t.ag=true) (hf:nth t.fo j=some (off,z,ag)) (ho:o.op = .field T x j) {us:List Value} (he:a.eval x = .agg us.toArray) (hl:off+z≤us.length):
  ∃ u ws,(if ag then u = .agg ws.toArray else (z=1→ws=[u]))∧ws=(us.drop off).take z∧(execOp a.eval o).run P w = .ok (.value u) w:=by
 obtain⟨fs,hu,hfs⟩:=Ta ht ha;obtain⟨fd,h1,h2,h3,h4,h5,d,h6⟩:=O6 hfs hf
 have h1':fs[j]? = some fd:=by simpa using h1
 cases ag with
 |true=>
  refine⟨_,_,rfl,rfl,?_⟩;unfold execOp;simp only[ho,he,Wd];unfold Instr.field;rw[Wd,run_underlying hu];simp only[Wb,h1',asAgg,Wd,Yc,part,Ml h6 h5,Iw h3,if_true];simp[h2,List.extract_eq_take_drop]
 |false=>
  have hlt:off<us.length:=by simp only at h4;omega
  refine⟨us[off],_,?_,rfl,?_⟩
  ·simp only[Wq,if_false];intro hz;subst hz;show List.take 1 _=_;rw[Zi hlt,E5b,Zz]
  ·unfold execOp;simp only[ho,he,Wd];unfold Instr.field;rw[Wd,run_underlying hu];simp only[Wb,h1',asAgg,Wd,Yc,part,Ml h6 h5,Wq,if_false];simp[h2,hlt]
def Q7a (hE:Iv X E) (K:B1 X S a) (hg:S.g=get A) {T:TypeId} {t j d:Nat} (ho:o.op = .field T (.tmp t) j) (hod:o.dst=some d) (hd:d<X.nt) (h:Au E o A Kc=some r):Hc X o a S.w A Kc r:=by
 unfold Au at h;rw[ho,hod]at h;simp only at h;split at h
 ·rename_i ti l hti hgt;split at h
  ·rename_i off z ag hf;split at h
   ·rename_i s hs;obtain⟨hq,h⟩:=cs h;simp only[Va]at hq;obtain⟨⟨ha,hb⟩,hle⟩:=hq;have hle:off+z≤l.length:=Vk hle;have ht:t<X.nt:=hE.nt ▸ (Vk hb:t+1≤E.nt);have he:a.eval (.tmp t)=S.ph t:=K.sl t ht
    have hok:Ib X.P S t (.agg l) (S.ph t):=by have:=K.at_ t;rwa [hg,hgt]at this
    obtain⟨us,e1,hls⟩:=hok;have hlen:=hls.len;obtain⟨u,ws,e2,e3,hrun⟩:=L0a (w:=S.w) (hE.ti _ _ hti) ha hf ho (he.trans e1) (by omega)
    have e4:if ag then u = .agg ws.toArray else ws=[u]:=by
     cases ag
     case true=>exact e2
     simp only[Wq,if_false]at e2 ⊢;unfold Jw at hs;simp only[cond_false]at hs;split at hs
     ·rename_i x hx
      have:((l.drop off).take z).length=1:=by rw[hx];rfl
      rw[Vs,Wf]at this;exact e2 (by omega)
     ·cases hs
    have hpart:A9 X.P S (λ n => .pl t [n]) off ((l.drop off).take z) ws:=by
     have:=(hls.drop off).take z;rw[Wi,← e3]at this;exact this
    cases hown:F8 ((l.drop off).take z) with
    |false=>
     rw[hown,cond_false]at h
     have hso:Ib X.P S d s u:=Lq hs e4 (A9.shift (j:=0) (f:=λ n => .pl d (if ag then [n-off] else [])) off (by
      rw[Wi];exact hpart.relab hown) |>.imp (λ n x u hx=>by simpa using hx))
     have K2:=K.put0 hd s u d (by rw[P6 hs,hown]) hso;refine⟨_,h,An (S:=Jx S (λ _ _=>none) d s u) hrun (by rw[hod];exact K2) ?_⟩;show upd S.g d _=_;rw[Am,← hg]
    |true=>
     rw[hown,cond_true]at h
     let f:List Nat→Option (List Nat):=λ p=>match p with
      |[n]=>if off≤n∧n<off+z then some [n-off] else none
      |_=>none
     let s0:Sv := .agg (Vf.setAll l off (List.replicate z .dead))
     have L1:=Lo S t 0 f s0
     have hst:∀ n,¬ (off≤n∧n<off+z)→∀ x u,Bc X.P S (.pl t [n]) x u→Bc X.P (Qp S t 0 f s0) (.pl t [n]) x u:=λ n hn x u hx=>
      hx.later L1 (λ k hk=>⟨G4a hk (by simp only[f];rw[if_neg hn]),rfl⟩)
     obtain⟨K1,h1,_⟩:=Y0 K t 0 f s0 (by simp[s0]) ⟨us,e1,by
      have hz:(List.replicate z Lf.dead).length=z:=by simp
      have hws:ws.length=z:=by rw[e3,Vs,Wf];omega
      have:=A9.setAll (P:=X.P) (S:=Qp S t 0 f s0) (f:=λ n => .pl t [n]) (l:=l) (us:=us) (m:=List.replicate z .dead) (ms:=ws) (off:=off)
       ((hls.take off).impAt (λ n _ h2=>hst n (by rw[Vs]at h2;omega)))
       (by rw[← hws];exact A9.deads ws) (by
        rw[hz];refine A9.impAt (λ n h1 _=>hst n (by omega)) ?_;have:=hls.drop (off+z)
        rwa [Wi]at this) (by rw[hz];exact hle)
      rw[hz,e3,← Yp,Vp,Wh,Wh]at this
      exact this⟩
     have L2:=G4 (Qp S t 0 f s0) (Qz d ag) d s u
     have hl2:A9 X.P (Jx (Qp S t 0 f s0) (Qz d ag) d s u) (λ n => .pl d (if ag then [n] else [])) 0 ((l.drop off).take z) ws:=by
      have h5:A9 X.P (Jx (Qp S t 0 f s0) (Qz d ag) d s u) (λ n => .pl d (if ag then [n-off] else [])) off ((l.drop off).take z) ws:=by
       refine A9.impAt (λ n n1 n2 x u hx=>?_) hpart
       have n3:n<off+z:=by rw[Vs]at n2;omega
       exact(h1 [n] [n-off] x u (by simp[f,n1,n3]) hx).later L2 (λ k hk=>⟨I8 hk (by simp[Qz]),rfl⟩)
      have:=A9.shift (j:=0) off (by rw[Wi];exact h5);exact this.imp (λ n x u hx=>by simpa using hx)
     have K2:=K1.put hd (Qz d ag) (G5a d ag) s u (Lq hs e4 hl2);refine⟨_,h,An (S:=Jx (Qp S t 0 f s0) (Qz d ag) d s u) hrun (by rw[hod];exact K2) ?_⟩;show upd (Qp S t 0 f s0).g d _=_;rw[show ∀ u1 u2,ups A [u1,u2]=ups (ups A [u1]) [u2] from λ _ _=>rfl,Am,Am,← hg];rfl
   ·cases h
  ·cases h
 ·cases h
def Sh (hE:Iv X E) (K:B1 X S a) (hg:S.g=get A) {x:Option Operand} {n:Option Int} (h:E1a E A x=some n):x.map a.eval=n.map (Value.int .i64):=by
 unfold E1a at h;split at h
 ·cases h;rfl
 ·rename_i x;split at h
  ·rename_i n hn;cases h;simp[(L9 hE K hg hn).1]
  ·cases h
def Ni {lo hi:Option Int} {n:Nat} {Kb:Unit→Option R} (h:Dsa lo hi n Kb=some r):Kb ()=some r∧0≤lo.getD 0∧lo.getD 0≤hi.getD n∧hi.getD n≤n:=by
 unfold Dsa at h;split at h
 ·exact⟨h,by simp⟩
 ·rename_i l
  by_cases h1:0≤l
  ·by_cases h2:l≤(n:Int)
   ·simp only[h1,h2,decide_true,cond_true]at h;exact⟨h,by simpa using ⟨h1,h2⟩⟩
   ·simp[h1,h2]at h
  ·simp[h1]at h
 ·rename_i l
  by_cases h1:0≤l
  ·by_cases h2:l≤(n:Int)
   ·simp only[h1,h2,decide_true,cond_true]at h;exact⟨h,by simpa using ⟨h1,h2⟩⟩
   ·simp[h1,h2]at h
  ·simp[h1]at h
 ·rename_i l l2
  by_cases h1:0≤l
  ·by_cases h2:l≤l2
   ·by_cases h3:l2≤(n:Int)
    ·simp only[h1,h2,h3,decide_true,cond_true]at h;exact⟨h,by simpa using ⟨h1,h2,h3⟩⟩
    ·simp[h1,h2,h3]at h
   ·simp[h1,h2]at h
  ·simp[h1]at h
def W9 {P:Program} {w:World} (sl:Bool) {n cap:Nat} {lo hi:Option Int} (hc:n≤cap) (h0:0≤lo.getD 0) (h1:lo.getD 0≤hi.getD n) (h2:hi.getD n≤n):
  (Instr.sliceBounds sl n cap (lo.map (Value.int .i64)) (hi.map (Value.int .i64)) none).run P w = .ok ((lo.getD 0).toNat,(hi.getD n).toNat,cap) w:=by
 cases lo with
 |none=>
  cases hi with
  |none=>simp[Instr.sliceBounds]
  |some b=>
   simp only[Wo,Cjb]at h0 h1 h2;simp[Instr.sliceBounds,run_sliceBound,(by omega:0≤b),(by omega:b≤(cap:Int))]
 |some l=>
  cases hi with
  |none=>
   simp only[Wo,Cjb]at h0 h1 h2;simp[Instr.sliceBounds,run_sliceBound,h0,h1]
  |some b=>
   simp only[Wo]at h0 h1 h2;have eb:(b.toNat:Int)=b:=Int.toNat_of_nonneg (by omega);simp[Instr.sliceBounds,run_sliceBound,(by omega:0≤b),(by omega:b≤(cap:Int)),h0,eb,h1]
def Y2 {α:Type} {xs:List α} {lo hi:Option Int} (h2:hi.getD xs.length≤xs.length):E0a xs lo hi=(xs.take (hi.getD xs.length).toNat).drop (lo.getD 0).toNat:=by
 unfold E0a
 cases lo<;>cases hi<;>simp
def Y3 {P:Program} {w:World} {T:TypeId} {x:Operand} {lo hi:Option Operand} {s:ByteArray} {l h:Option Int} (hu:P.underlying T=some .string) (ho:o.op = .slice T x lo hi none) (he:a.eval x = .string s)
  (hl:lo.map a.eval=l.map (Value.int .i64)) (hh:hi.map a.eval=h.map (Value.int .i64)) (h0:0≤l.getD 0) (h1:l.getD 0≤h.getD s.size) (h2:h.getD s.size≤s.size):
  (execOp a.eval o).run P w = .ok (.value (.string (s.extract (l.getD 0).toNat (h.getD s.size).toNat))) w:=by
 have hb:=W9 (P:=P) (w:=w) false (Vw s.size) h0 h1 h2;unfold execOp;simp only[ho,he,hl,hh,Option.map_none,Wd];unfold Instr.sliceAt;rw[Wd,run_underlying hu];simp only[Wb];unfold Instr.slice;rw[Wd,run_underlying hu];simp[hb]
def Ju {P:Program} {w:World} {T e:TypeId} {sz:Nat} {x:Operand} {lo hi:Option Operand} {ad:Option Addr} {n cap:Nat} {l h:Option Int} (hu:P.underlying T=some (.slice e)) (hs:Uz P e sz) (ho:o.op = .slice T x lo hi none) (he:a.eval x = .slice ad n cap)
  (hl:lo.map a.eval=l.map (Value.int .i64)) (hh:hi.map a.eval=h.map (Value.int .i64)) (hc:n≤cap) (h0:0≤l.getD 0) (h1:l.getD 0≤h.getD n) (h2:h.getD n≤n):
  (execOp a.eval o).run P w = .ok (.value (.slice (if cap=(l.getD 0).toNat then ad else ad.map (·.add ((l.getD 0).toNat*sz))) ((h.getD n).toNat-(l.getD 0).toNat) (cap-(l.getD 0).toNat))) w:=by
 have hb:=W9 (P:=P) (w:=w) true hc h0 h1 h2;unfold execOp;simp only[ho,he,hl,hh,Option.map_none,Wd];unfold Instr.sliceAt;rw[Wd,run_underlying hu];simp only[Wb];unfold Instr.slice;rw[Wd,run_underlying hu];simp only[Wb,Wd,hb,Iw hs,Yc]
def Mh.cut {α:Type} {G:Nat→Prop} {w:World} {R':α→List Value→Prop} {sz:Nat} (hn:∀ x c,R' x c→c.length=sz) {xs:List α} {ad:Option Addr} {n cap l h:Nat} (hr:Mh G w R' xs (.slice ad n cap)) (h1:l≤h) (h2:h≤n):
  n=xs.length∧n≤cap∧Mh G w R' ((xs.take h).drop l) (.slice (if cap=l then ad else ad.map (·.add (l*sz))) (h-l) (cap-l)):=by
 obtain⟨ad',cap',cs,e,hc,hrow,hne⟩:=hr;cases e;refine⟨rfl,hc,if cap=l then ad else ad.map (·.add (l*sz)),cap-l,(cs.take (h*sz)).drop (l*sz),?_,?_,(hrow.take hn h).drop hn l,λ hx=>?_⟩
 ·rw[Wf,Vs,Cab h2]
 ·rw[Wf,Vs];omega
 ·have hlh:l<h:=by
   rcases D2b l h with hlt|hge
   ·exact hlt
   ·exact absurd (Dob (by rw[Vs];omega)) hx
  obtain⟨k,o',rfl,hk,hcs⟩:=hne (by intro e;subst e;simp at h2;omega);refine⟨k,o'+l*sz,?_,hk,λ j u hu=>?_⟩
  ·rw[if_neg (by omega)];simp[Ka]
  ·rw[Yv,Wp]at hu;split at hu
   ·rw[Zj];exact hcs _ _ hu
   ·cases hu
def F5.take {P:Program} {O:Nat→Lab} {w:World} {lab:Lab} {e:TypeId} {r':Ty} {xs:List r'.den} {u:Value} (h:F5 P O w lab e r' xs u) (n:Nat) (hn:n≤xs.length):
  ∃ ad cap,u = .slice ad xs.length cap∧xs.length≤cap∧(∀ k,ad=some k→k.spot=none)∧F5 P O w lab e r' (xs.take n) (.slice ad n cap):=by
 obtain⟨bs,⟨v,cs,b2,ev,hs,ho,hd,eb⟩,hnd,hk⟩:=h;simp only[Yj,and_true]at ev;subst ev
 have hlen:(xs.take n).length=n:=by rw[Vs];omega
 rcases F9 ho with⟨rfl,hm,rfl⟩|⟨k,cap,cur,rfl,hg,h1,h2,h3,h4⟩
 ·have hx:xs=[]:=Wk hm;subst hx
  have:n=0:=by simpa using hn
  subst this;exact⟨none,0,rfl,by simp,by simp,[],⟨_,[],[],rfl,hs,World.ownsRow_nil _ _ _ _,by simp[Ed],rfl⟩,by simp,by simp⟩
 ·obtain⟨b',h5,h6⟩:=hd.take (Ty.dep_len r') n;have e1:(Value.slice (some ⟨k,0,none⟩) n cap).ownBlock.toList++b'=k::b':=rfl;have e2:(Value.slice (some ⟨k,0,none⟩) xs.length cap).ownBlock.toList++b2=k::b2:=rfl;rw[e2]at eb;subst eb;have hsub:(k::b').Sublist (k::b2):=h6.cons_cons k;refine⟨_,cap,rfl,h1,by simp,k::b',⟨_,cs.take (n*r'.sz),b',rfl,hs,⟨?_,.inr ⟨k,cap,cur,by rw[hlen],Vv _,hg,by omega,h2,h3,?_⟩⟩,h5,rfl⟩,hnd.sublist hsub,λ j hj=>hk j (hsub.subset hj)⟩
  ·rw[Vs,ho.1,hlen];have:=Wj r'.sz hn;omega
  ·rw[hlen,← h4,D0b];congr 1;have:=Wj r'.sz hn;omega
def E6a.cut {P:Program} {S:Sit} {p:Nat} {e:TypeId} {r':Ty} {xs:List r'.den} {ad:Option Addr} {n cap l h:Nat} (hb:E6a P S p e r' xs (.slice ad n cap)) (h1:l≤h) (h2:h≤n):
  n=xs.length∧n≤cap∧E6a P S p e r' ((xs.take h).drop l) (.slice (if cap=l then ad else ad.map (·.add (l*r'.sz))) (h-l) (cap-l)):=by
 obtain⟨hs,ad',cap',cs,bs,e1,hc,hrow,hm,hne⟩:=hb;cases e1;obtain⟨b1,d1,d2⟩:=hrow.take (Ty.dep_len r') h;obtain⟨b2,d3,d4⟩:=d1.drop (Ty.dep_len r') l;refine⟨rfl,hc,hs,if cap=l then ad else ad.map (·.add (l*r'.sz)),cap-l,(cs.take (h*r'.sz)).drop (l*r'.sz),b2,?_,?_,d3,λ k hk=>hm k ((d4.trans d2).subset hk),λ hx=>?_⟩
 ·rw[Wf,Vs,Cab h2]
 ·rw[Wf,Vs];omega
 ·have hlh:l<h:=by
   rcases D2b l h with hlt|hge
   ·exact hlt
   ·exact absurd (Dob (by rw[Vs];omega)) hx
  obtain⟨k,o',rfl,hk,hcs⟩:=hne (by intro e;subst e;simp at h2;omega);refine⟨k,o'+l*r'.sz,?_,hk,λ j u hu=>?_⟩
  ·rw[if_neg (by omega)];simp[Ka]
  ·rw[Yv,Wp]at hu;split at hu
   ·rw[Zj];exact hcs _ _ hu
   ·cases hu
def Si (hE:Iv X E) (K:B1 X S a) (hg:S.g=get A) {T e:TypeId} {r':Ty} {xs:List r'.den} {x:Operand} {lo hi:Option Operand} {l h:Option Int} {d:Nat} {u:Value} {w:World}
  (he:a.eval x=u) (hw:S.w=w) (ho:o.op = .slice T x lo hi none) (hod:o.dst=some d) (hd:d<X.nt) (hel:Po E T e=true) (hl:lo.map a.eval=l.map (Value.int .i64)) (hh:hi.map a.eval=h.map (Value.int .i64))
  (h0:0≤l.getD 0) (h1:l.getD 0≤h.getD xs.length) (h2:h.getD xs.length≤xs.length) (hf:∃ lab,Bc X.P S lab (.fz e r' xs) u):Q3a X o a w (ups A [⟨d,false,.one (.fz e r' (E0a xs l h))⟩]):=by
 subst hw;obtain⟨lab,v,e1,hsz,hsl⟩:=hf;cases e1;obtain⟨ad,cap,cs,e2,_⟩:=id hsl;rw[e2]at hsl;obtain⟨_,hc,hcut⟩:=Mh.cut (Ty.rep_len r') (l:=(l.getD 0).toNat) (h:=(h.getD xs.length).toNat) hsl (by omega) (by omega);rw[← Y2 h2]at hcut;have hrun:=Ju (w:=S.w) (Ic hel hE.ti) hsz ho (he.trans e2) hl hh hc h0 h1 h2;have hsv:Ib X.P S 0 (.one (.fz e r' (E0a xs l h))) _:=⟨_,rfl,hsz,hcut⟩;have K2:=K.put0 hd _ _ 0 rfl hsv;refine An (S:=Jx S (λ _ _=>none) d _ _) hrun (by rw[hod];exact K2) ?_;show upd S.g d _=_;rw[Am,← hg]
def O7 {y:Lf} {e:TypeId} {r':Ty} {xs:List r'.den} (hsn:Jb A y = .own e r' xs) (hne:∀ e r (xs:List r.den),y = .own e r xs→False):∃ p v,y = .al p v∧get A p=(v,.one (.own e r' xs)):=by
 cases y<;>first|(simp only[Jb]at hsn;cases hsn;done)|skip
 ·simp only[Jb]at hsn;exact(hne _ _ _ rfl).elim
 ·rename_i p v;simp only[Jb]at hsn;split at hsn
  ·rename_i n e' r'' xs' hp;cases hb:Nat.beq n v
   ·rw[hb]at hsn;simp at hsn
   rw[hb,cond_true]at hsn
   have:n=v:=by simpa using hb
   subst this;refine⟨p,n,rfl,?_⟩;rw[hp,hsn]
  ·rename_i n e' r'' xs' hp
   cases hb:Nat.beq n v<;>rw[hb]at hsn<;>simp at hsn
  ·cases hsn
def G7a (hE:Iv X E) (K:B1 X S a) (hg:S.g=get A) {T e:TypeId} {x:Operand} {lo hi:Option Operand} {d p v:Nat} {pi:Option (List (Int×Nat))} {r':Ty} {xs:List r'.den} {l u:Option Int} (ho:o.op = .slice T x lo hi none) (hod:o.dst=some d) (hd:d<X.nt) (hq:Po E T e=true)
  (hda:Kba X.P S p v pi e r' xs (a.eval x)) (hv:(S.g p).1=v) (hl:lo.map a.eval=l.map (Value.int .i64)) (hu:hi.map a.eval=u.map (Value.int .i64)) (h0:0≤l.getD 0) (h1:l.getD 0≤u.getD xs.length) (h2:u.getD xs.length≤xs.length):
  Q3a X o a S.w (ups A [⟨d,false,.one (.da p v none e r' (E0a xs l u))⟩]):=by
 obtain⟨d1,d2,d3⟩:=hda;obtain⟨d4,d5,_⟩:=d3 hv;obtain⟨hs,ad,cap,cs,bs,e1,hc,rest⟩:=id d5;rw[e1]at d5;have hrun:=Ju (w:=S.w) (Ic hq hE.ti) hs ho e1 hl hu hc h0 h1 h2;obtain⟨_,_,hcut⟩:=d5.cut (l:=(l.getD 0).toNat) (h:=(u.getD xs.length).toNat) (by omega) (by omega)
 have hsv:Ib X.P S 0 (.one (.da p v none e r' (E0a xs l u))) (.slice (if cap=(l.getD 0).toNat then ad else ad.map (·.add ((l.getD 0).toNat*r'.sz))) ((u.getD xs.length).toNat-(l.getD 0).toNat) (cap-(l.getD 0).toNat)):=by
  refine⟨d1,d2,λ _=>⟨d4,?_,λ q hq=>by cases hq⟩⟩;rw[Y2 h2];exact hcut
 have K2:=K.put0 hd _ _ 0 rfl hsv;refine An (S:=Jx S (λ _ _=>none) d _ _) hrun (by rw[hod];exact K2) ?_;show upd S.g d _=_;rw[Am,← hg]
def Q8a (hE:Iv X E) (K:B1 X S a) (hg:S.g=get A) {T:TypeId} {x:Operand} {lo hi:Option Operand} {d:Nat} (ho:o.op = .slice T x lo hi none) (hod:o.dst=some d) (hd:d<X.nt) (h:Au E o A Kc=some r):Hc X o a S.w A Kc r:=by
 unfold Au at h;rw[ho,hod]at h;simp only at h;split at h
 ·rename_i s l u hs hl hu;obtain⟨hq,h⟩:=cs h;obtain⟨hk,h0,h1,h2⟩:=Ni h;have e1:=(L9 hE K hg hs).1;have hr:=Y3 (P:=X.P) (w:=S.w) (Sg hq hE.ti) ho e1 (Sh hE K hg hl) (Sh hE K hg hu) h0 h1 h2;refine N6 K hg hod hd rfl hr ?_;rw[← hk]
  cases l<;>cases u<;>simp
 ·rename_i y l u hy hs hl hu;have hl:=Sh hE K hg hl;have hu:=Sh hE K hg hu;obtain⟨pl,hsv⟩:=H6 hE K hg hs;have hlf:Bc X.P S (.pl pl []) y (a.eval x):=hsv;split at h
  ·rename_i e r' xs e0 r0 xs0 hsn;have this:Lf.own e r' xs=Lf.own e0 r0 xs0:=hsn
   injection this with i1 i2 i3
   subst i1 i2;cases i3;obtain⟨hq,h⟩:=cs h;have hown:F5 X.P S.O S.w (.pl pl []) e r' xs (a.eval x):=hlf;split at h
   ·-- from its beginning
    obtain⟨hk,h0,h1,h2⟩:=Ni h;refine⟨_,hk,?_⟩
    have hcut:E0a xs none u=xs.take (u.getD xs.length).toNat:=by rw[Y2 h2];simp
    rw[hcut];simp only[Cjb]at h0 h1;rcases L8 hE K hg hs with⟨t,rfl,ht,hst,het,hok⟩|⟨hnt,y',ey,hy'⟩
    ·obtain⟨K1,g1,_⟩:=Nf K t 0;have hown1:F5 X.P (Mj S t 0).O (Mj S t 0).w (.tm 0 []) e r' xs (a.eval (.tmp t)):=g1 [] (.own e r' xs) _ hok;obtain⟨ad,cap,e1,hc,hspot,hown2⟩:=hown1.take (u.getD xs.length).toNat (by omega);have hrun:=Ju (w:=S.w) (Ic hq hE.ti) hown.top.1 ho e1 hl hu hc (by simp) (by simpa using h1) h2
     have hval:(if cap=((none:Option Int).getD 0).toNat then ad else ad.map (·.add (((none:Option Int).getD 0).toNat*r'.sz)))=ad:=by
      split
      ·rfl
      ·cases ad<;>simp[Addr.add]
     rw[hval]at hrun;simp only[Cjb,F1b,Dib]at hrun
     let hf:Nat→List Nat→Option Lab:=λ n q=>if n=0 then some (.pl d q) else none
     have L:=G4 (Mj S t 0) hf d (.one (.own e r' (xs.take (u.getD xs.length).toNat))) (.slice ad (u.getD xs.length).toNat cap)
     have hso:Ib X.P (Jx (Mj S t 0) hf d (.one (.own e r' (xs.take (u.getD xs.length).toNat))) (.slice ad (u.getD xs.length).toNat cap)) d (.one (.own e r' (xs.take (u.getD xs.length).toNat))) (.slice ad (u.getD xs.length).toNat cap):=
      Bc.later (P:=X.P) (x := .own e r' (xs.take (u.getD xs.length).toNat)) (lab := .tm 0 []) (lab' := .pl d []) L hown2 (λ k hk=>⟨I8 hk (by simp[hf]),rfl⟩)
     have K2:=K1.put hd hf (by intro n q p hp;simp only[hf]at hp;split at hp<;>first|(cases hp;exact⟨q,rfl⟩)|cases hp) _ _ hso
     refine An (S:=Jx (Mj S t 0) hf d _ _) hrun (by rw[hod];exact K2) ?_;show upd (Mj S t 0).g d _=_;rw[show gone (.tmp t) (.one (.own e r' xs))=[⟨t,false,.one .dead⟩] from rfl,Yq,show ∀ u1 u2,ups A [u1,u2]=ups (ups A [u1]) [u2] from λ _ _=>rfl,Am,Am,← hg];rfl
    ·cases ey
     have hgo:gone x (.one (.own e r' xs))=[]:=by
      unfold gone;split
      ·exact absurd rfl (hnt _)
      ·rfl
     rw[hgo,Wn];obtain⟨ad,cap,e1,hc,hspot,hown2⟩:=F5.take (hy' (.pl d [])) (u.getD xs.length).toNat (by omega);have hrun:=Ju (w:=S.w) (Ic hq hE.ti) hown.top.1 ho e1 hl hu hc (by simp) (by simpa using h1) h2
     have hval:(if cap=((none:Option Int).getD 0).toNat then ad else ad.map (·.add (((none:Option Int).getD 0).toNat*r'.sz)))=ad:=by
      split
      ·rfl
      ·cases ad<;>simp[Addr.add]
     rw[hval]at hrun;simp only[Cjb,F1b,Dib]at hrun
     have hso:Ib X.P (Jx S (λ _ _=>none) d (.one (.own e r' (xs.take (u.getD xs.length).toNat))) (.slice ad (u.getD xs.length).toNat cap)) d (.one (.own e r' (xs.take (u.getD xs.length).toNat))) (.slice ad (u.getD xs.length).toNat cap):=
      Bc.later (P:=X.P) (x := .own e r' (xs.take (u.getD xs.length).toNat)) (lab := .pl d []) (lab' := .pl d []) (G4 S (λ _ _=>none) d _ _) hown2 (λ k hk=>⟨B7 (h:=λ _ _=>none) (o := .pl d []) hk (by simp),rfl⟩)
     have K2:=K.put hd (λ _ _=>none) (by simp) _ _ hso;refine An (S:=Jx S (λ _ _=>none) d _ _) hrun (by rw[hod];exact K2) ?_;show upd S.g d _=_;rw[Am,← hg]
   ·obtain⟨hk,h0,h1,h2⟩:=Ni h;refine⟨_,hk,?_⟩;rcases L8 hE K hg hs with⟨t,rfl,ht,hst,het,hok⟩|⟨hnt,y',ey,hy'⟩
    ·obtain⟨K1,_,hf⟩:=T8 K (p:=t) hst.symm;obtain⟨K2,g1,_⟩:=Nf K1 t 0;rw[Ax];refine Si (S:=Mj (frS S t e r' xs) t 0) hE K2 ?_ (u:=a.eval (.tmp t)) rfl rfl ho hod hd hq hl hu h0 h1 h2 ⟨.no,?_⟩
     ·show upd (upd S.g t _) t _=_;rw[show gone (.tmp t) (.one (.own e r' xs))=[⟨t,false,.one .dead⟩] from rfl,Am,← hg];funext k;unfold upd
      split<;>simp[frS]
     ·rw[het];exact(Bc.relab (lab' := .tm 5 []) rfl hf).later (lab' := .tm 5 []) (Jn _ t 0) (λ k hk=>⟨(Gy (by simp[hk])).trans hk,rfl⟩) |>.relab rfl
    ·cases ey
     have hgo:gone x (.one (.own e r' xs))=[]:=by
      unfold gone;split
      ·exact absurd rfl (hnt _)
      ·rfl
     rw[hgo,Wn];refine Si hE K hg rfl rfl ho hod hd hq hl hu h0 h1 h2 ⟨.no,?_⟩;have hown4:F5 X.P S.O S.w .fz e r' xs (a.eval x):=hy' .fz;exact hown4.reads (λ k hk=>hk) (λ k hk=>hk)
  ·rename_i p v e r' xs hsn;obtain⟨hq,h⟩:=cs h;have hal:=O7 hsn (λ e r xs hy=>by cases hy);obtain⟨p',v',e0,hp⟩:=hal;cases e0;have he:a.eval x=S.ph p:=hlf.2 (by rw[hg,hp])
   cases hmv:E.mv d with
   |true=>
    rw[hmv,cond_true]at h;split at h
    ·obtain⟨hk,h0,h1,h2⟩:=Ni h;refine⟨_,hk,?_⟩
     have hcut:E0a xs none u=xs.take (u.getD xs.length).toNat:=by rw[Y2 h2];simp
     rw[hcut];simp only[Cjb]at h0 h1;obtain⟨K1,g1,_⟩:=Nf K p 0
     have hok:Bc X.P S (.pl p []) (.own e r' xs) (S.ph p):=by have:=K.at_ p;rwa [hg,hp]at this
     have hown1:F5 X.P (Mj S p 0).O (Mj S p 0).w (.tm 0 []) e r' xs (a.eval x):=by rw[he];exact g1 [] (.own e r' xs) _ hok
     obtain⟨ad,cap,e1,hc,hspot,hown2⟩:=hown1.take (u.getD xs.length).toNat (by omega);have hrun:=Ju (w:=S.w) (Ic hq hE.ti) hown1.top.1 ho e1 hl hu hc (by simp) (by simpa using h1) h2
     have hval:(if cap=((none:Option Int).getD 0).toNat then ad else ad.map (·.add (((none:Option Int).getD 0).toNat*r'.sz)))=ad:=by
      split
      ·rfl
      ·cases ad<;>simp[Addr.add]
     rw[hval]at hrun;simp only[Cjb,F1b,Dib]at hrun
     let hf:Nat→List Nat→Option Lab:=λ n q=>if n=0 then some (.pl d q) else none
     have L:=G4 (Mj S p 0) hf d (.one (.own e r' (xs.take (u.getD xs.length).toNat))) (.slice ad (u.getD xs.length).toNat cap)
     have hso:Ib X.P (Jx (Mj S p 0) hf d (.one (.own e r' (xs.take (u.getD xs.length).toNat))) (.slice ad (u.getD xs.length).toNat cap)) d (.one (.own e r' (xs.take (u.getD xs.length).toNat))) (.slice ad (u.getD xs.length).toNat cap):=
      Bc.later (P:=X.P) (x := .own e r' (xs.take (u.getD xs.length).toNat)) (lab := .tm 0 []) (lab' := .pl d []) L hown2 (λ k hk=>⟨I8 hk (by simp[hf]),rfl⟩)
     have K2:=K1.put hd hf (by intro n q p hp;simp only[hf]at hp;split at hp<;>first|(cases hp;exact⟨q,rfl⟩)|cases hp) _ _ hso
     refine An (S:=Jx (Mj S p 0) hf d _ _) hrun (by rw[hod];exact K2) ?_;show upd (Mj S p 0).g d _=_;rw[show ∀ u1 u2,ups A [u1,u2]=ups (ups A [u1]) [u2] from λ _ _=>rfl,Am,Am,← hg];rfl
    ·cases h
   |false=>
    rw[hmv,cond_false]at h
    cases hno:J6 r' with
    |true=>
     rw[hno,cond_true]at h;obtain⟨hk,h0,h1,h2⟩:=Ni h;refine⟨_,hk,?_⟩
     have hco:Sf A (.al p v)=[⟨p,true,.one (.fz e r' xs)⟩]:=by simp[Sf,hp]
     obtain⟨K1,_,hf⟩:=T8 K (p:=p) (e:=e) (r:=r') (xs:=xs) (by rw[hg,hp]);rw[hco,Ax];refine Si (S:=frS S p e r' xs) hE K1 ?_ (u:=S.ph p) he rfl ho hod hd hq hl hu h0 h1 h2 ⟨.no,hf⟩;show upd S.g p _=_;rw[O5,← hg]
    |false=>
     rw[hno,cond_false]at h;obtain⟨hao,h⟩:=cs h;obtain⟨hk,h0,h1,h2⟩:=Ni h;refine⟨_,hk,?_⟩
     have hpg:S.g p=(v,.one (.own e r' xs)):=by rw[hg,hp]
     have hown:F5 X.P S.O S.w (.pl p []) e r' xs (S.ph p):=by have:=K.at_ p;rw[hpg]at this;exact this
     have hda:=Kza (P:=X.P) (S:=S) hpg hno hao hown;exact G7a hE K hg ho hod hd hq (by rw[he];exact hda) (by rw[hpg]) hl hu h0 h1 h2
  ·rename_i p v pi e r' xs;obtain⟨hq,h⟩:=cs h;simp only[Va]at hq;obtain⟨hk,h0,h1,h2⟩:=Ni h;exact⟨_,hk,G7a hE K hg ho hod hd hq.1 hlf (by rw[hg];exact Vg hq.2) hl hu h0 h1 h2⟩
  ·rename_i e r' xs _ hsn;obtain⟨hq,h⟩:=cs h;obtain⟨hk,h0,h1,h2⟩:=Ni h;obtain⟨lab',hl2⟩:=P5 K hg hlf;rw[hsn]at hl2;exact⟨_,hk,Si hE K hg rfl rfl ho hod hd hq hl hu h0 h1 h2 ⟨lab',hl2⟩⟩
  ·cases h
 ·cases h
end

def pth:Sv→Nat→List Nat
 |.agg _,n=>[n]
 |_,_=>[]
def S9 (s:Sv) (u:Value) (us:List Value):Prop:=match s with
 |.agg _=>u = .agg us.toArray
 |_=>us=[u]
def Frz (g g':Nat→Nat×Sv):Prop:=∀ p,g' p=g p∨∃ n e r,∃ xs:List (Ty.den r),g p=(n,.one (.own e r xs))∧g' p=(n,.one (.fz e r xs))
structure V5 (X:Cx) (S S':Sit):Prop where
 w:S'.w=S.w
 ph:S'.ph=S.ph
 bb:S'.bb=S.bb
 later:F6 S S'
 tm:∀ n q k,S.O k = .tm n q→S'.O k = .tm n q
 pl:∀ l p k,S.O k = .pl l p→p≠[]→S'.O k = .pl l p
 bx:∀ b k,S.O k = .bx b→S'.O k = .bx b
 no:∀ k,S.O k = .no→S'.O k = .no
section
variable {X:Cx} {S S' S'':Sit} {a:Act} {E:En} {A:Ab} {o:Oper} {R:Type} {Kc:List Up→Option R} {r:R}
def F6.refl (S:Sit):F6 S S:=⟨λ _=>Vw _,λ _ _=>rfl,λ p v e r xs' h _=>⟨xs',h,rfl⟩,λ _ _=>rfl,λ k h=>⟨h,rfl⟩,F6.box_of (λ _ _ _ h=>h) (λ _ _ h=>⟨h,rfl⟩),λ p _ hd=>⟨hd,λ _ _ _ h=>h,λ k hk=>⟨.inl hk,rfl⟩⟩⟩
def F6.trans (L:F6 S S') (L':F6 S' S''):F6 S S'' where
 ver:=λ p=>Zx (L.ver p) (L'.ver p)
 ph:=λ p e=>by
  have e1:(S'.g p).1=(S.g p).1:=Zs (e ▸ L'.ver p) (L.ver p);rw[L'.ph p (e.trans e1.symm),L.ph p e1]
 own:=λ p v e r xs' h hv=>by
  have e1:(S'.g p).1=v:=Zs (by have:=L'.ver p;rw[h]at this;exact this) (hv ▸ L.ver p);obtain⟨ys,hy,hl⟩:=L'.own p v e r xs' h e1;obtain⟨zs,hz,hl'⟩:=L.own p v e r ys hy hv;exact⟨zs,hz,hl'.trans hl⟩
 bb:=λ b e=>by
  have e1:(S'.g (H b)).1=(S.g (H b)).1:=Zs (e ▸ L'.ver _) (L.ver _);rw[L'.bb b (e.trans e1.symm),L.bb b e1]
 fz:=λ k h=>⟨(L'.fz k (L.fz k h).1).1,(L'.fz k (L.fz k h).1).2.trans (L.fz k h).2⟩
 box:=λ b n e hh hO=>by
  have e1:(S'.g (H b)).1=(S.g (H b)).1:=Zs (e ▸ L'.ver _) (L.ver _);obtain⟨d1,d2,d3⟩:=L.box b n e1 hh hO;rw[← L.bb b e1]at d2;obtain⟨d4,d5,d6⟩:=L'.box b n (e.trans e1.symm) d1 d2;rw[L.bb b e1]at d5 d6;refine⟨d4,d5,λ c e' f hc=>?_⟩;obtain⟨c1,c2,c3,c4⟩:=d3 c e' f hc;obtain⟨c5,c6,c7,c8⟩:=d6 c1 e' f c2;exact⟨c5,c6,c7.trans c3,λ j hj=>(c8 j hj).trans (c4 j hj)⟩
 bor:=λ p e hd=>by
  have e1:(S'.g p).1=(S.g p).1:=Zs (e ▸ L'.ver p) (L.ver p);obtain⟨d1,d2,d3⟩:=L.bor p e1 hd;obtain⟨d4,d5,d6⟩:=L'.bor p (e.trans e1.symm) d1;refine⟨d4,λ E R XS h=>d2 E R XS (d5 E R XS h),λ k hk=>?_⟩;obtain⟨d7,d8⟩:=d3 k hk;rcases d7 with d7|d7
  ·exact⟨(d6 k d7).1,(d6 k d7).2.trans d8⟩
  ·exact⟨.inr (L'.fz k d7).1,(L'.fz k d7).2.trans d8⟩
def V5.refl (S:Sit):V5 X S S:=⟨rfl,rfl,rfl,.refl S,λ _ _ _ h=>h,λ _ _ _ h _=>h,λ _ _ h=>h,λ _ h=>h⟩
def V5.trans (h:V5 X S S') (h':V5 X S' S''):V5 X S S'':=
 ⟨h'.w.trans h.w,h'.ph.trans h.ph,h'.bb.trans h.bb,h.later.trans h'.later,λ n q k e=>h'.tm n q k (h.tm n q k e),λ l p k e hp=>h'.pl l p k (h.pl l p k e hp) hp,λ b k e=>h'.bx b k (h.bx b k e),λ k e=>h'.no k (h.no k e)⟩
def Boa {p:Nat} {e:TypeId} {r':Ty} {xs:List r'.den} (K:B1 X S a) (hp:(S.g p).2 = .one (.own e r' xs)):V5 X S (frS S p e r' xs):=by
 have hown:F5 X.P S.O S.w (.pl p []) e r' xs (S.ph p):=by have:=K.at_ p;rw[hp]at this;exact this
 have other:∀ k o,S.O k=o→o ≠ .pl p []→(frS S p e r' xs).O k=o:=λ k o h ho=>by
  show (if S.O k = .pl p [] then Lab.fz else S.O k)=o;rw[if_neg (by rw[h];exact ho),h]
 exact⟨rfl,rfl,rfl,Bda S p e r' xs hp,λ n q k h=>other k _ h (by simp),λ l q k h hq=>other k _ h (by simp[hq]),λ b k h=>other k _ h (by simp),λ k h=>other k _ h (by simp)⟩
def Y4:∀ (l:List Lf) {S:Sit} {A':Ab},B1 X S a→S.g=get A'→Frz (get A) (get A')→∃ S',B1 X S' a∧S'.g=get (ups A' (Iq A l))∧V5 X S S'∧Frz (get A) S'.g∧
  ∀ p v,Lf.al p v∈l→∀ n e r,∀ xs:List (Ty.den r),get A p=(n,.one (.own e r xs))→n=v→S'.g p=(n,.one (.fz e r xs))
 |[],S,A',K,hg,hf=>⟨S,K,hg,.refl S,by rw[hg];exact hf,by simp⟩
 |x::l,S,A',K,hg,hf=>by
  have first:∃ S1,B1 X S1 a∧S1.g=get (ups A' (Sf A x))∧V5 X S S1∧Frz (get A) S1.g∧∀ p v,x=Lf.al p v→∀ n e r,∀ xs:List (Ty.den r),get A p=(n,.one (.own e r xs))→n=v→S1.g p=(n,.one (.fz e r xs)):=by
   cases x with
   |al p v=>
    by_cases hown:∃ e r,∃ xs:List (Ty.den r),get A p=(v,.one (.own e r xs))
    ·obtain⟨e,r',xs,hp⟩:=hown
     have hc:Sf A (.al p v)=[⟨p,true,.one (.fz e r' xs)⟩]:=by simp[Sf,hp]
     rw[hc]
     have hfix:∀ S1:Sit,S1.g=get (ups A' [⟨p,true,.one (.fz e r' xs)⟩])→S1.g p=(v,.one (.fz e r' xs))→∀ p' v',Lf.al p v=Lf.al p' v'→∀ n e r,∀ xs:List (Ty.den r),get A p'=(n,.one (.own e r xs))→n=v'→S1.g p'=(n,.one (.fz e r xs)):=by
      intro S1 _ h1 p' v' h2 n e2 r2 xs2 h3 h4;cases h2;rw[hp]at h3;cases h3;exact h1
     rcases hf p with h0|⟨n,e2,r2,xs2,h1,h2⟩
     ·have hSp:S.g p=(v,.one (.own e r' xs)):=by rw[hg,h0,hp]
      have hg1:(frS S p e r' xs).g=get (ups A' [⟨p,true,.one (.fz e r' xs)⟩]):=by
       show upd S.g p _=_;rw[O5,← hg]
      refine⟨_,(T8 K (by rw[hSp])).1,hg1,Boa K (by rw[hSp]),λ q=>?_,hfix _ hg1 (by show upd S.g p _ p=_;rw[Ap,hSp])⟩
      by_cases hq:q=p
      ·subst hq;exact .inr ⟨v,e,r',xs,hp,by show upd S.g q _ q=_;rw[Ap,hSp]⟩
      ·have:(frS S p e r' xs).g q=get A' q:=by show upd S.g p _ q=_;rw[Av _ _ hq,hg]
       rw[this];exact hf q
     ·rw[hp]at h1;cases h1
      have hg1:S.g=get (ups A' [⟨p,true,.one (.fz e r' xs)⟩]):=by
       rw[O5,hg];funext q
       by_cases hq:q=p
       ·subst hq;rw[Ap,h2]
       ·rw[Av _ _ hq]
      exact⟨S,K,hg1,.refl S,by rw[hg];exact hf,hfix S hg1 (by rw[hg,h2])⟩
    ·have hc:Sf A (.al p v)=[]:=by
      simp only[Sf];split
      ·rename_i n e r' xs hp;cases hb:Nat.beq n v
       ·rfl
       have:n=v:=by simpa using hb
       subst this;exact absurd ⟨e,r',xs,hp⟩ hown
      ·rfl
     rw[hc];refine⟨S,K,hg,.refl S,by rw[hg];exact hf,λ p' v' h1 n e r xs h2 h3=>?_⟩;cases h1;subst h3;exact absurd ⟨e,r,xs,h2⟩ hown
   |_=>exact⟨S,K,hg,.refl S,by rw[hg];exact hf,by simp⟩
  obtain⟨S1,K1,hg1,E1,F1,P1⟩:=first
  obtain⟨S2,K2,hg2,E2,F2,P2⟩:=Y4 l K1 hg1 (by rw[← hg1];exact F1);refine⟨S2,K2,by rw[hg2,Iq,Ax],E1.trans E2,F2,λ p v hm n e r xs h1 h2=>?_⟩;rcases Vl.1 hm with hx|hl
  ·have h3:=P1 p v hx.symm n e r xs h1 h2;rcases F2 p with h4|⟨n',e',r',xs',h4,h5⟩
   ·-- it was read by all already
    have hv:=E2.later.ver p;have hA:=h4;rw[h1]at hA;obtain⟨ys,hy,_⟩:=E2.later.own p n e r xs hA (by rw[h3]);rw[h3]at hy;simp at hy
   ·rw[h1]at h4;cases h4;exact h5
  ·exact P2 p v hl n e r xs h1 h2
def L1a (hE:Iv X E) (K:B1 X S a) (hg:S.g=get A) {T:TypeId} {y:Operand} {s:Sv} (hs:opT E T A y=some s) (hnt:∀ vs,s ≠ .tup vs) (i:Nat):
  ∃ S',B1 X S' a∧S'.g=get (ups A (Iq A (parts s)++gone y s))∧S'.w=S.w∧S'.bb=S.bb∧S'.ph=S.ph∧F6 S S'∧(∀ b k,S.O k = .bx b→S'.O k = .bx b)∧(∀ b,(S'.g (H b)).1=(S.g (H b)).1∧∀ n,(S.g (H b)).2 = .one (.hd n)→S'.g (H b)=S.g (H b))∧
   (∀ n q x u,Bc X.P S (.tm n q) x u→Bc X.P S' (.tm n q) x u)∧
   ∃ us,S9 s (a.eval y) us∧A9 X.P S' (λ n => .tm i (pth s n)) 0 ((parts s).map (kept A)) us:=by
 obtain⟨S1,K1,hg1,E1,F1,P1⟩:=Y4 (X:=X) (a:=a) (A:=A) (parts s) K hg (λ p => .inl rfl)
 have keep:∀ (f:Nat→Lab) (hf:∀ n k,S.O k=f n→S1.O k=f n) (l:List Lf),(∀ x∈l,x∈parts s)→∀ j us,A9 X.P S f j l us→A9 X.P S1 f j (l.map (kept A)) us:=by
  intro f hf l
  induction l with
  |nil=>
   intro _ j us h
   cases us with
   |nil=>trivial
   |cons=>exact h.elim
  |cons x l ih=>
   intro hm j us h
   cases us with
   |nil=>exact h.elim
   |cons u us=>
    refine⟨?_,ih (λ z hz=>hm z (Vd _ hz)) _ _ h.2⟩;have h1:Bc X.P S (f j) x u:=h.1
    cases x with
    |al p v=>
     show Bc X.P S1 (f j) (Le (Jb A (.al p v))) u;simp only[Jb];split
     ·rename_i n e r' xs hp;cases hb:Nat.beq n v
      ·exact trivial
      have hnv:n=v:=by simpa using hb
      subst hnv;rw[cond_true];show Bc X.P S1 (f j) (.fz e r' xs) u;have h2:=P1 p n (hm _ (by simp)) n e r' xs hp rfl;have h3:=K1.at_ p;rw[h2,E1.ph,← h1.2 (by rw[hg,hp])]at h3;exact Bc.relab (lab := .pl p []) rfl h3
     ·rename_i n e r' xs hp;cases hb:Nat.beq n v
      ·exact trivial
      have hnv:n=v:=by simpa using hb
      subst hnv;rw[cond_true];show Bc X.P S1 (f j) (.fz e r' xs) u;have h3:=K.at_ p;rw[hg,hp,← h1.2 (by rw[hg,hp])]at h3;have h4:Bc X.P S (.pl p []) (.fz e r' xs) u:=h3;exact(Bc.relab (lab':=f j) rfl h4).later E1.later (λ k hk=>⟨hf j k hk,by rw[E1.w]⟩)
     ·exact trivial
    |_=>exact h1.later E1.later (λ k hk=>⟨hf j k hk,by rw[E1.w]⟩)
 have base:∀ n q x u,Bc X.P S (.tm n q) x u→Bc X.P S1 (.tm n q) x u:=λ n q x u h=>h.later E1.later (λ k hk=>⟨E1.tm n q k hk,by rw[E1.w]⟩)
 have heads:∀ b,(S1.g (H b)).1=(S.g (H b)).1∧∀ n,(S.g (H b)).2 = .one (.hd n)→S1.g (H b)=S.g (H b):=λ b=>by
  rcases F1 (H b) with h1|⟨n',e,r',xs,h1,h2⟩
  ·exact⟨by rw[h1,hg],λ n _=>by rw[h1,hg]⟩
  ·exact⟨by rw[hg,h1,h2],λ n h=>by rw[hg,h1]at h;cases h⟩
 have calmOwn:∀ l:List Lf,F8 l=false→F8 (l.map (kept A))=false:=by
  intro l
  induction l with
  |nil=>intro;rfl
  |cons x l ih=>
   intro h
   have hc:∀ z:Lf,F8 (Le z::l.map (kept A))=F8 (l.map (kept A)):=by intro z;cases z<;>rfl
   cases x with
   |own e r xs=>simp[F8]at h
   |opn e r xs i b v=>simp[F8]at h
   |al p v=>rw[Yb];exact(hc _).trans (ih (by simpa[F8] using h))
   |_=>exact ih (by simpa[F8] using h)
 have finish:∀ (us:List Value),S9 s (a.eval y) us→(Lm s=false→∃ f,A9 X.P S1 f 0 ((parts s).map (kept A)) us)→
   (∀ t,y = .tmp t→Lm s=true→A9 X.P S1 (λ n => .pl t (pth s n)) 0 ((parts s).map (kept A)) us)→((∀ t,y ≠ .tmp t)→A9 X.P S1 (λ n => .tm i (pth s n)) 0 ((parts s).map (kept A)) us)→
   ∃ S',B1 X S' a∧S'.g=get (ups A (Iq A (parts s)++gone y s))∧S'.w=S.w∧S'.bb=S.bb∧S'.ph=S.ph∧F6 S S'∧(∀ b k,S.O k = .bx b→S'.O k = .bx b)∧(∀ b,(S'.g (H b)).1=(S.g (H b)).1∧∀ n,(S.g (H b)).2 = .one (.hd n)→S'.g (H b)=S.g (H b))∧
   (∀ n q x u,Bc X.P S (.tm n q) x u→Bc X.P S' (.tm n q) x u)∧
   ∃ us,S9 s (a.eval y) us∧A9 X.P S' (λ n => .tm i (pth s n)) 0 ((parts s).map (kept A)) us:=by
  intro us hus h1 h2 h3
  cases ho:Lm s with
  |false=>
   obtain⟨f,h4⟩:=h1 ho
   have hgo:gone y s=[]:=by unfold gone;split<;>simp[ho]
   have hp:F8 (parts s)=false:=by
    cases s with
    |one x=>exact ho
    |agg l=>exact ho
    |tup vs=>exact absurd rfl (hnt vs)
   exact⟨S1,K1,by rw[hgo,Yf];exact hg1,E1.w,E1.bb,E1.ph,E1.later,E1.bx,heads,base,us,hus,h4.relab (calmOwn _ hp)⟩
  |true=>
   by_cases hy:∃ t,y = .tmp t
   ·obtain⟨t,rfl⟩:=hy;obtain⟨K2,g1,g2⟩:=Nf K1 t i
    have hgo:gone (.tmp t) s=[⟨t,false,.one .dead⟩]:=by simp[gone,ho]
    have htn:t<1000:=by
     rcases L8 hE K hg hs with⟨t',e,ht,_⟩|⟨hn,_⟩
     ·cases e;exact Yi ht K.nt
     ·exact absurd rfl (hn t)
    refine⟨_,K2,?_,E1.w,E1.bb,E1.ph,E1.later.trans (Jn S1 t i),λ b k hk=>(Gy (by simp[E1.bx b k hk])).trans (E1.bx b k hk),λ b=>?_,λ n q x u h=>g2 n q x u (base n q x u h),us,hus,(h2 t rfl ho).imp (λ n x u h=>g1 _ x u h)⟩
    ·rw[hgo,Ax,Am,← hg1];rfl
    ·have:(Mj S1 t i).g (H b)=S1.g (H b):=Av _ _ (λ e=>by have h1:=Y3a b;rw[e]at h1;exact absurd htn (Nat.not_lt.2 h1));rw[this];exact heads b
   ·have hy':∀ t,y ≠ .tmp t:=λ t e=>hy ⟨t,e⟩
    have hgo:gone y s=[]:=by
     unfold gone;split
     ·exact absurd rfl (hy' _)
     ·rfl
    exact⟨S1,K1,by rw[hgo,Yf];exact hg1,E1.w,E1.bb,E1.ph,E1.later,E1.bx,heads,base,us,hus,h3 hy'⟩
 rcases L8 hE K hg hs with⟨t,rfl,ht,hst,het,hok⟩|⟨hnt',x,rfl,hx⟩
 ·cases s with
  |tup vs=>exact absurd rfl (hnt vs)
  |one x=>
   have hok':A9 X.P S (λ _ => .pl t []) 0 [x] [a.eval (.tmp t)]:=⟨hok,trivial⟩;refine finish [a.eval (.tmp t)] rfl (λ ho=>?_) (λ t' e ho=>?_) (λ h=>absurd rfl (h t))
   ·have:=keep (λ _ => .tm 0 []) (λ n k hk=>E1.tm _ _ k hk) [x] (by simp[parts]) 0 _ (hok'.relab ho);exact⟨_,this⟩
   ·cases e
    have hx:Iq A (parts (.one x))=[]∧kept A x=x:=by cases x<;>first|(simp[Lm,F8]at ho;done)|exact⟨rfl,rfl⟩
    have hS1:S1.g t=(S.g t):=by
     have:=hg1;rw[hx.1]at this;rw[this,hg];rfl
    have hnow:=K1.at_ t;rw[hS1,← hst,E1.ph,← het]at hnow;refine⟨?_,trivial⟩;show Bc X.P S1 _ (kept A x) _;rw[hx.2];exact hnow
  |agg l=>
   obtain⟨us,e1,hl⟩:=hok;refine finish us e1 (λ ho=>?_) (λ t' e ho=>?_) (λ h=>absurd rfl (h t))
   ·have:=keep (λ _ => .tm 0 []) (λ n k hk=>E1.tm _ _ k hk) l (by simp[parts]) 0 us (hl.relab ho);exact⟨_,this⟩
   ·cases e;exact keep (λ n => .pl t [n]) (λ n k hk=>E1.pl t [n] k hk (by simp)) l (by simp[parts]) 0 us hl
 ·refine finish [a.eval y] rfl (λ ho=>?_) (λ t e=>absurd e (hnt' t)) (λ _=>?_)
  ·exact⟨_,keep (λ _ => .tm i []) (λ n k hk=>E1.tm _ _ k hk) [x] (by simp[parts]) 0 [a.eval y] ⟨hx _,trivial⟩⟩
  ·exact keep (λ _ => .tm i []) (λ n k hk=>E1.tm _ _ k hk) [x] (by simp[parts]) 0 [a.eval y] ⟨hx _,trivial⟩
end

def Mm (g:Nat→Nat×Sv) (b j:Nat) (l:List Lf):Nat→Nat×Sv:=λ p=>if C b j≤p∧p<C b j+l.length then ((g p).1+1,.one (l.getD (p-C b j) .dead)) else g p
def Jh (ph:Nat→Value) (b j:Nat) (us:List Value):Nat→Value:=λ p=>if C b j≤p∧p<C b j+us.length then us.getD (p-C b j) undef else ph p
def Id (b:Nat):∀ (l:List Lf) (A:Ab) (j:Nat),get (ups A (Cw b j l))=Mm (get A) b j l
 |[],A,j=>by
  funext p;simp only[Cw,ups,Mm,Vq,Zy];rw[if_neg (by omega)]
 |x::l,A,j=>by
  show get (ups (up A ⟨C b j,false,.one x⟩) (Cw b (j+1) l))=_;rw[Id b l _ (j+1),L6];have hc:C b (j+1)=C b j+1:=rfl;funext p;unfold Mm;rw[hc];simp only[Vh]
  by_cases h1:p=C b j
  ·subst h1;rw[if_neg (by omega),if_pos (by omega),Ap];simp
  ·rw[Av _ _ h1]
   by_cases h2:C b j+1≤p∧p<C b j+1+l.length
   ·rw[if_pos h2,if_pos (by omega)];rw[show p-C b j=(p-(C b j+1))+1 by omega,List.getD_cons_succ]
   ·rw[if_neg h2,if_neg (by omega)]
def V0 (b off:Nat):Nat→List Nat→Option Lab:=λ n q=>if n=0 then (match q with
 |[]=>some (.pl (C b off) [])
 |[j]=>some (.pl (C b (off+j)) [])
 |_=>none) else none
section
variable {X:Cx} {S S':Sit} {a:Act} {E:En} {A:Ab} {o:Oper} {R:Type} {Kc:List Up→Option R} {r:R}
def A9.at {P:Program} {f:Nat→Lab}:∀ {j:Nat} {xs:List Lf} {us:List Value} (i:Nat),A9 P S f j xs us→i<xs.length→∃ x u,xs.getD i .dead=x∧us.getD i undef=u∧us[i]? = some u∧Bc P S (f (j+i)) x u
 |_,[],_,i,_,hi=>by simp at hi
 |j,x::xs,u::us,0,h,_=>⟨x,u,rfl,rfl,rfl,h.1⟩
 |j,x::xs,u::us,i+1,h,hi=>by
  obtain⟨x',u',h1,h2,h3,h4⟩:=h.2.at i (by simpa using hi);exact⟨x',u',by simpa using h1,by simpa using h2,by simpa using h3,by rw[show j+(i+1)=j+1+i by omega];exact h4⟩
 |_,_::_,[],_,h,_=>h.elim
def Fp {b b' off n:Nat} (h:off+n≤999):¬ (C b off≤H b'∧H b'<C b off+n):=by unfold C H;omega
def P7 {b b' off n j:Nat} (h:off+n≤999) (hj:j<999) (hne:b'≠b):¬ (C b off≤C b' j∧C b' j<C b off+n):=by unfold C;omega
def Km {b off n t:Nat} (ht:t<1000):¬ (C b off≤t∧t<C b off+n):=by unfold C;omega
def Y5 (S:Sit) (hb:Nat→List Nat→Option Lab) (b off:Nat) (m:List Lf) (us:List Value) (w:World):Sit:=
 { S with O:=atO S.O hb,g:=Mm S.g b off m,ph:=Jh S.ph b off us,w:=w }
def B1.cells (K:B1 X S a) {b n off:Nat} {m:List Lf} {us:List Value} {q:Nat→List Nat} {c:Array Value} {e:TypeId} (hh:(S.g (H b)).2 = .one (.hd n)) (hoff:off+m.length≤n)
  (hc:S.w.heap[(S.bb b).1]? = some (.cells c e (0,0))) (hl:A9 X.P S (λ j => .tm 0 (q j)) 0 m us) (hq:∀ j,j<m.length→V0 b off 0 (q j)=some (.pl (C b (off+j)) [])) (hnh:∀ k,.hd k∉m):
  B1 X (Y5 S (V0 b off) b off m us (S.w.setRow (S.bb b).1 (c.toList.take ((S.bb b).2+off)++us++c.toList.drop ((S.bb b).2+off+us.length)).toArray)) a∧
  F6 S (Y5 S (V0 b off) b off m us (S.w.setRow (S.bb b).1 (c.toList.take ((S.bb b).2+off)++us++c.toList.drop ((S.bb b).2+off+us.length)).toArray)):=by
 obtain⟨hn,c0,e0,h1,h2,h3,h4⟩:=K.box b n hh;rw[hc]at h1;cases h1;have hlen:=hl.len;generalize hw:S.w.setRow (S.bb b).1 (c.toList.take ((S.bb b).2+off)++us++c.toList.drop ((S.bb b).2+off+us.length)).toArray=w'
 have hnew:w'.heap[(S.bb b).1]? = some (.cells (c.toList.take ((S.bb b).2+off)++us++c.toList.drop ((S.bb b).2+off+us.length)).toArray e (0,0)):=by rw[← hw];exact setRow_heap _ _ _ _ _ _ hc
 have hold:∀ k,S.O k ≠ .bx b→w'.heap[k]? = S.w.heap[k]? := λ k hk=>by
  rw[← hw];exact setRow_other _ _ _ _ (λ e=>hk (e ▸ h2))
 have hsz:(c.toList.take ((S.bb b).2+off)++us++c.toList.drop ((S.bb b).2+off+us.length)).toArray.size=c.size:=by
  simp only[Ctb,Vi,Vs,Wf,Zd];omega
 have hcell:∀ i,(i<(S.bb b).2+off∨(S.bb b).2+off+us.length≤i)→(c.toList.take ((S.bb b).2+off)++us++c.toList.drop ((S.bb b).2+off+us.length)).toArray[i]? = c[i]?:=by
  intro i hi
  have ht:(c.toList.take ((S.bb b).2+off)).length=(S.bb b).2+off:=by rw[Vs,Zd];omega
  rw[Dtb,← Zr];rcases hi with hi|hi
  ·rw[Vp,Yl (by omega),Wp,if_pos hi]
  ·rw[Yg (by rw[Vi,ht];omega),Vi,ht,Yv];congr 1;omega
 have hcell2:∀ i,i<us.length→(c.toList.take ((S.bb b).2+off)++us++c.toList.drop ((S.bb b).2+off+us.length)).toArray[(S.bb b).2+off+i]? = us[i]?:=by
  intro i hi
  have ht:(c.toList.take ((S.bb b).2+off)).length=(S.bb b).2+off:=by rw[Vs,Zd];omega
  rw[Dtb,Yl (by rw[Vi,ht];omega),Yg (by omega),ht];congr 1;omega
 have gout:∀ p,¬ (C b off≤p∧p<C b off+m.length)→Mm S.g b off m p=S.g p∧Jh S.ph b off us p=S.ph p:=λ p hp=>by
  unfold Mm Jh;rw[if_neg hp,if_neg (by rw[hlen];exact hp)];exact⟨rfl,rfl⟩
 have L:F6 S (Y5 S (V0 b off) b off m us w'):=by
  refine⟨λ p=>?_,λ p hp=>?_,λ p v e r xs' hp hv=>?_,λ _ _=>rfl,λ k hk=>⟨B7 hk (by simp),hold k (by simp[hk])⟩,λ b' m' hv hb' hO=>?_,λ p hp hd=>?_⟩
  ·show (S.g p).1≤(Mm S.g b off m p).1;unfold Mm
   split<;>simp
  ·show Jh S.ph b off us p=S.ph p
   by_cases hin:C b off≤p∧p<C b off+m.length
   ·have:(Mm S.g b off m p).1=(S.g p).1:=hp;unfold Mm at this;rw[if_pos hin]at this;simp at this
   ·exact(gout p hin).2
  ·have hp':Mm S.g b off m p=(v,.one (.own e r xs')):=hp
   by_cases hin:C b off≤p∧p<C b off+m.length
   ·unfold Mm at hp';rw[if_pos hin]at hp';simp only[Vy]at hp';omega
   ·rw[(gout p hin).1]at hp';exact⟨xs',hp',rfl⟩
  ·refine⟨?_,B7 hO (by simp),λ c1 e1 f1 hc1=>?_⟩
   ·show (Mm S.g b off m (H b')).2=_;rw[(gout _ (Fp (by omega))).1];exact hb'
   ·by_cases hbb:b'=b
    ·subst hbb;have hc1':S.w.heap[(S.bb b').1]? = some (.cells c1 e1 f1):=hc1;rw[hc]at hc1';cases hc1';rw[hh]at hb';cases hb';exact⟨_,hnew,hsz,λ j hj=>hcell j (by rw[hlen];have hj':j<(S.bb b').2∨(S.bb b').2+n≤j:=hj;omega)⟩
    ·exact⟨c1,(hold _ (by rw[hO];simp[hbb])).trans hc1,rfl,λ _ _=>rfl⟩
  ·have hout:¬ (C b off≤p∧p<C b off+m.length):=λ hin=>by
    have:(Mm S.g b off m p).1=(S.g p).1:=hp;unfold Mm at this;rw[if_pos hin]at this;simp at this
   have hgp:(Y5 S (V0 b off) b off m us w').g p=S.g p:=(gout p hout).1;rw[hgp];exact⟨hd,λ _ _ _ h=>h,λ k hk=>⟨.inl (B7 hk (by simp)),hold k (by simp[hk])⟩⟩
 refine⟨⟨K.nt,λ k hk=>?_,λ l=>?_,λ b' n' hb'=>?_,λ b' n' hb'=>?_,λ t ht=>?_,K.sz,K.df,?_⟩,L⟩
 ·have:k<S.w.heap.size:=K.lt k (λ e=>hk (B7 e (by simp)));show k<w'.heap.size;rw[← hw]
  simpa[World.setRow] using this
 ·show Ib X.P _ l (Mm S.g b off m l).2 (Jh S.ph b off us l)
  by_cases hin:C b off≤l∧l<C b off+m.length
  ·obtain⟨x,u,e1,e2,e3,e4⟩:=hl.at (l-C b off) (by omega);unfold Mm Jh;rw[if_pos hin,if_pos (by rw[hlen];exact hin),e1,e2];refine Bc.later L e4 (λ k hk=>⟨?_,hold k (by simp[hk])⟩);rw[Wi]at hk;have:=I8 (h:=V0 b off) hk (hq _ (by omega));rwa [show C b (off+(l-C b off))=l by (have:C b (off+(l-C b off))=C b off+(l-C b off):=by (unfold C;omega));omega]at this
  ·rw[(gout l hin).1,(gout l hin).2];exact(K.at_ l).later L (λ p k hk=>⟨B7 hk (by simp),hold k (by simp[hk])⟩)
 ·have e1:(S.g (H b')).2 = .one (.hd n'):=by
   have:(Mm S.g b off m (H b')).2 = .one (.hd n'):=hb';rwa [(gout _ (Fp (by omega))).1]at this
  obtain⟨g1,c1,e2,g2,g3,g4,g5⟩:=K.box b' n' e1
  by_cases hbb:b'=b
  ·subst hbb;rw[hc]at g2;cases g2;rw[hh]at e1;cases e1;refine⟨g1,_,_,hnew,B7 g3 (by simp),by rw[hsz];exact g4,λ j hj=>?_⟩;show (_:Array Value)[(S.bb b').2+j]? = some (Jh S.ph b' off us (C b' j))
   by_cases hin:C b' off≤C b' j∧C b' j<C b' off+m.length
   ·have h5:off≤j∧j<off+m.length:=by unfold C at hin;omega
    have h6:C b' j-C b' off=j-off:=by unfold C;omega
    unfold Jh;rw[if_pos (by rw[hlen];exact hin),h6,show (S.bb b').2+j=(S.bb b').2+off+(j-off) by omega,hcell2 _ (by omega)];rw[Vb,Ve (by omega)];rfl
   ·rw[(gout _ hin).2,← g5 j hj];refine hcell _ ?_;unfold C at hin;omega
  ·have hne:S.O (S.bb b').1 ≠ .bx b:=by rw[g3];simp[hbb]
   refine⟨g1,c1,e2,(hold _ hne).trans g2,B7 g3 (by simp),g4,λ j hj=>?_⟩;show _=some (Jh S.ph b off us (C b' j));rw[(gout _ (P7 (by omega) (by omega) hbb)).2];exact g5 j hj
 ·have e1:(S.g (H b')).2 = .one (.hd n'):=by
   have:(Mm S.g b off m (H b')).2 = .one (.hd n'):=hb';rwa [(gout _ (Fp (by omega))).1]at this
  exact K.rgn b' n' e1
 ·show a.tmps.getD t undef=Jh S.ph b off us t;rw[(gout _ (Km (Yi ht K.nt))).2];exact K.sl t ht
 ·have F:=K.fr;refine⟨?_,?_,?_,?_,λ k hk h0=>?_,λ k hk h0=>?_,λ k b' hk h0=>?_⟩
  ·rw[show (Y5 S (V0 b off) b off m us w').w=w' from rfl,← hw];exact F.os
  ·rw[show (Y5 S (V0 b off) b off m us w').w=w' from rfl,← hw];exact F.tape
  ·rw[show (Y5 S (V0 b off) b off m us w').w=w' from rfl,← hw];exact F.out
  ·show _≤w'.heap.size;rw[← hw]
   simpa[World.setRow] using F.size
  ·obtain⟨f1,f2⟩:=F.no k hk h0;exact⟨B7 f1 (by simp),(hold k (by simp[f1])).trans f2⟩
  ·obtain⟨f1,f2⟩:=F.fz k hk h0;exact⟨B7 f1 (by simp),(hold k (by simp[f1])).trans f2⟩
  ·obtain⟨f1,c1,c2,e1,f,f2,f3,f4,f5⟩:=F.bx k b' hk h0;refine⟨B7 f1 (by simp),?_⟩
   by_cases hbk:k=(S.bb b).1
   ·subst hbk;rw[h2]at f1;cases f1;rw[hc]at f3;cases f3;obtain⟨q1,_,q3⟩:=K.rgn b n hh;have hb2:b<2000:=Nat.lt_of_not_le λ h=>q3 h hk b h0;obtain⟨r1,r2,r3⟩:=q1 hb2 hk;refine⟨c1,_,_,_,f2,hnew,hsz.trans f4,λ i hi=>?_⟩;rw[hcell i (by omega)];exact f5 i hi
   ·refine⟨c1,c2,e1,f,f2,?_,f4,f5⟩;rw[← f3];show w'.heap[k]? = _;rw[← hw];exact setRow_other _ _ _ _ hbk
end

section
attribute [local irreducible] C H
def Tb (S:Sit) (w:World) (O:Nat→Lab):Sit := { S with O:=O,w:=w }
def Dta (S:Sit) (d k o:Nat) (m:List Lf) (us:List Value):Sit:=
 { O:=λ j=>if j=k then .bx d else atO S.O (V0 d 0) j,bb:=upd S.bb d (k,o),g:=Mm (upd S.g (H d) ((S.g (H d)).1+1,.one (.hd m.length))) d 0 m,ph:=Jh S.ph d 0 us,w:=S.w }
section
variable {X:Cx} {S S':Sit} {a:Act} {E:En} {A:Ab} {o:Oper} {R:Type} {Kc:List Up→Option R} {r:R}
def B1.grow (K:B1 X S a) {w':World} {row:Option Nat} {O':Nat→Lab} (hw:S.w.grownBy w' row) (hrow:∀ k,row=some k→∃ n q,S.O k = .tm n q)
  (hO:∀ k,k<S.w.heap.size→(∀ n q,S.O k ≠ .tm n q)→O' k=S.O k) (hlt:∀ k,O' k ≠ .no→k<w'.heap.size):
  B1 X (Tb S w' O') a∧F6 S (Tb S w' O'):=by
 have keep:∀ k o,S.O k=o→k<S.w.heap.size→(∀ n q,o ≠ .tm n q)→O' k=o∧w'.heap[k]? = S.w.heap[k]?:=by
  intro k o' h hk ho;refine⟨(hO k hk (by rw[h];exact ho)).trans h,hw.block k hk (λ e=>?_)⟩;obtain⟨n,q,h2⟩:=hrow k e.symm;exact ho n q (h.symm.trans h2)
 have keep':∀ k o,S.O k=o→o ≠ .no→(∀ n q,o ≠ .tm n q)→O' k=o∧w'.heap[k]? = S.w.heap[k]? := λ k o' h hn ho=>keep k o' h (K.lt k (by rw[h];exact hn)) ho
 have L:F6 S (Tb S w' O'):=⟨λ _=>Vw _,λ _ _=>rfl,λ p v e r xs' h _=>⟨xs',h,rfl⟩,λ _ _=>rfl,λ k h=>keep' k _ h (by simp) (by simp),F6.box_of (λ _ _ _ h=>h) (λ k b h=>keep' k _ h (by simp) (by simp)),λ p _ hd=>⟨hd,λ _ _ _ h=>h,λ k hk=>by
  obtain⟨h1,h2⟩:=keep' k _ hk (by simp) (by simp)
  exact⟨.inl h1,h2⟩⟩⟩
 have F:=K.fr;refine⟨⟨K.nt,hlt,λ l=>(K.at_ l).later L (λ p k h=>keep' k _ h (by simp) (by simp)),λ b n h=>?_,K.rgn,K.sl,K.sz,K.df,⟨hw.os.trans F.os,hw.tape.trans F.tape,hw.output.trans F.out,Zx F.size hw.size,λ k hk h0=>?_,λ k hk h0=>?_,λ k b hk h0=>?_⟩⟩,L⟩
 ·obtain⟨hn,c,e,e1,e2,e3,e4⟩:=K.box b n h;obtain⟨h5,h6⟩:=keep' _ _ e2 (by simp) (by simp);exact⟨hn,c,e,h6.trans e1,h5,e3,e4⟩
 ·obtain⟨f1,f2⟩:=F.no k hk h0;obtain⟨h5,h6⟩:=keep k _ f1 (Yi hk F.size) (by simp);exact⟨h5,h6.trans f2⟩
 ·obtain⟨f1,f2⟩:=F.fz k hk h0;obtain⟨h5,h6⟩:=keep k _ f1 (Yi hk F.size) (by simp);exact⟨h5,h6.trans f2⟩
 ·obtain⟨f1,c,c',e,f,f2,f3,f4,f5⟩:=F.bx k b hk h0;obtain⟨h5,h6⟩:=keep k _ f1 (Yi hk F.size) (by simp);exact⟨h5,c,c',e,f,f2,h6.trans f3,f4,f5⟩
def B1.newbox (K:B1 X S a) {d k o:Nat} {m:List Lf} {us:List Value} {q:Nat→List Nat} {c:Array Value} {e:TypeId} {l0:List Nat} {n0:Nat} (hk:S.O k = .tm n0 l0) (hn0:n0≠0) (hk0:X.w0.heap.size≤k)
  (hc:S.w.heap[k]? = some (.cells c e (0,0))) (ho:o+m.length≤c.size) (hcs:∀ j,j<m.length→c[o+j]? = us[j]?) (hl:A9 X.P S (λ j => .tm 0 (q j)) 0 m us)
  (hq:∀ j,j<m.length→V0 d 0 0 (q j)=some (.pl (C d (0+j)) [])) (hm:m.length<999) (hnh:∀ k,.hd k∉m) (hnp:X.np≤d) (hd1:d<1000):
  B1 X (Dta S d k o m us) a∧F6 S (Dta S d k o m us):=by
 have hlen:=hl.len
 have gout:∀ p,p≠H d→¬ (C d 0≤p∧p<C d 0+m.length)→(Dta S d k o m us).g p=S.g p∧Jh S.ph d 0 us p=S.ph p:=λ p hp1 hp=>by
  refine⟨?_,?_⟩
  ·show Mm _ d 0 m p=_;unfold Mm;rw[if_neg hp,Av _ _ hp1]
  ·unfold Jh;rw[if_neg (by rw[hlen];exact hp)]
 have hH:¬ (C d 0≤H d∧H d<C d 0+m.length):=Fp (by omega)
 have gH:(Dta S d k o m us).g (H d)=((S.g (H d)).1+1,.one (.hd m.length)):=by
  show Mm _ d 0 m (H d)=_;unfold Mm;rw[if_neg hH,Ap]
 have gin:∀ p,(C d 0≤p∧p<C d 0+m.length)→(Dta S d k o m us).g p=((S.g p).1+1,.one (m.getD (p-C d 0) .dead))∧Jh S.ph d 0 us p=us.getD (p-C d 0) undef:=λ p hp=>by
  refine⟨?_,?_⟩
  ·show Mm _ d 0 m p=_;unfold Mm;rw[if_pos hp,Av _ _ (λ e=>by rw[e]at hp;exact hH hp)]
  ·unfold Jh;rw[if_pos (by rw[hlen];exact hp)]
 have keep:∀ j o',S.O j=o'→(∀ n q,o' ≠ .tm n q)→(Dta S d k o m us).O j=o':=λ j o' h ho'=>by
  have:j≠k:=λ e=>ho' n0 l0 (by rw[← h,e,hk]);show (if j=k then _ else _)=_;rw[if_neg this];exact B7 h ho'
 have L:F6 S (Dta S d k o m us):=by
  refine⟨λ p=>?_,λ p hp=>?_,λ p v e r xs' hp hv=>?_,λ b hb=>?_,λ j hj=>⟨keep j _ hj (by simp),rfl⟩,F6.box_of (λ b n hv hh=>?_) (λ j b h=>⟨keep j _ h (by simp),rfl⟩),λ p hp hd=>?_⟩
  ·by_cases h1:p=H d
   ·subst h1;rw[gH];simp
   ·by_cases h2:C d 0≤p∧p<C d 0+m.length
    ·rw[(gin p h2).1];simp
    ·rw[(gout p h1 h2).1];exact Vw _
  ·show Jh S.ph d 0 us p=_
   by_cases h2:C d 0≤p∧p<C d 0+m.length
   ·rw[(gin p h2).1]at hp;simp at hp
   ·unfold Jh;rw[if_neg (by rw[hlen];exact h2)]
  ·by_cases h1:p=H d
   ·subst h1;rw[gH]at hp;simp at hp
   ·by_cases h2:C d 0≤p∧p<C d 0+m.length
    ·rw[(gin p h2).1]at hp;simp only[Vy]at hp;omega
    ·rw[(gout p h1 h2).1]at hp;exact⟨xs',hp,rfl⟩
  ·by_cases hbd:b=d
   ·subst hbd;rw[gH]at hb;simp at hb
   ·exact Av _ _ hbd
  ·have hbd:H b≠H d:=λ e=>by rw[e,gH]at hv;simp at hv
   rw[(gout _ hbd (Fp (by omega))).1];exact hh
  ·have h1:p≠H d:=λ e=>by subst e;rw[gH]at hp;simp at hp
   have h2:¬ (C d 0≤p∧p<C d 0+m.length):=λ h=>by rw[(gin p h).1]at hp;simp at hp
   rw[(gout p h1 h2).1];exact⟨hd,λ _ _ _ h=>h,λ j hj=>⟨.inl (keep j _ hj (by simp)),rfl⟩⟩
 have F:=K.fr;refine⟨⟨K.nt,λ j hj=>?_,λ l=>?_,λ b n hb=>?_,λ b n hb=>?_,λ t ht=>?_,K.sz,K.df,⟨F.os,F.tape,F.out,F.size,λ j hj h0=>?_,λ j hj h0=>?_,λ j b hj h0=>?_⟩⟩,L⟩
 ·exact K.lt j (λ e=>hj (keep j _ e (by simp)))
 ·show Ib X.P _ l ((Dta S d k o m us).g l).2 (Jh S.ph d 0 us l)
  by_cases h1:l=H d
  ·subst h1;rw[gH];trivial
  ·by_cases h2:C d 0≤l∧l<C d 0+m.length
   ·obtain⟨x,u,e1,e2,e3,e4⟩:=hl.at (l-C d 0) (by omega);rw[(gin l h2).1,(gin l h2).2,e1,e2];refine Bc.later L e4 (λ j hj=>⟨?_,rfl⟩);rw[Wi]at hj;have hjk:j≠k:=λ e=>hn0 (by rw[e,hk]at hj;cases hj;rfl);show (if j=k then _ else _)=_;rw[if_neg hjk];have:=I8 (h:=V0 d 0) hj (hq _ (by omega));rwa [show C d (0+(l-C d 0))=l by (have:C d (0+(l-C d 0))=C d 0+(l-C d 0):=by (unfold C;omega));omega]at this
   ·rw[(gout l h1 h2).1,(gout l h1 h2).2];exact(K.at_ l).later L (λ p j hj=>⟨keep j _ hj (by simp),rfl⟩)
 ·by_cases hbd:b=d
  ·subst hbd;rw[gH]at hb;cases hb;refine⟨hm,c,e,?_,?_,?_,λ j hj=>?_⟩
   ·show S.w.heap[(upd S.bb b (k,o) b).1]? = _;rw[Ap];exact hc
   ·show (if (upd S.bb b (k,o) b).1=k then _ else _)=_;rw[Ap,if_pos rfl]
   ·show (upd S.bb b (k,o) b).2+_≤_;rw[Ap];exact ho
   ·show c[(upd S.bb b (k,o) b).2+j]? = some (Jh S.ph b 0 us (C b j))
    have h2:C b 0≤C b j∧C b j<C b 0+m.length:=by unfold C;omega
    rw[Ap,(gin _ h2).2,hcs j hj,show C b j-C b 0=j by unfold C;omega];rw[Vb,Ve (by omega)];rfl
  ·have h1:H b≠H d:=λ e=>hbd (Xx e)
   have e1:(S.g (H b)).2 = .one (.hd n):=by rwa [(gout _ h1 (Fp (by omega))).1]at hb
   obtain⟨g1,c1,e2,g2,g3,g4,g5⟩:=K.box b n e1;have hbb:(Dta S d k o m us).bb b=S.bb b:=Av _ _ hbd;rw[hbb];refine⟨g1,c1,e2,g2,keep _ _ g3 (by simp),g4,λ j hj=>?_⟩;show _=some (Jh S.ph d 0 us (C b j));rw[(gout _ (Y2a (by omega)) (P7 (by omega) (by omega) hbd)).2];exact g5 j hj
 ·by_cases hbd:b=d
  ·subst hbd;refine⟨λ _ hlt=>?_,λ h=>absurd h (by unfold Cx.pb;omega),λ h=>absurd h (by omega)⟩;have:(upd S.bb b (k,o) b).1<X.w0.heap.size:=hlt;rw[Ap]at this;exact absurd this (by simpa using hk0)
  ·have h1:H b≠H d:=λ e=>hbd (Xx e)
   have e1:(S.g (H b)).2 = .one (.hd n):=by rwa [(gout _ h1 (Fp (by omega))).1]at hb
   have hbb:(Dta S d k o m us).bb b=S.bb b:=Av _ _ hbd;rw[hbb];exact K.rgn b n e1
 ·show a.tmps.getD t undef=Jh S.ph d 0 us t;have:=Km (b:=d) (off:=0) (n:=us.length) (Yi ht K.nt);unfold Jh;rw[if_neg this];exact K.sl t ht
 ·obtain⟨f1,f2⟩:=F.no j hj h0;exact⟨keep j _ f1 (by simp),f2⟩
 ·obtain⟨f1,f2⟩:=F.fz j hj h0;exact⟨keep j _ f1 (by simp),f2⟩
 ·obtain⟨f1,rest⟩:=F.bx j b hj h0;exact⟨keep j _ f1 (by simp),rest⟩
def Lr:∀ t:Ty,(Ey t).length=t.sz
 |.i _=>rfl
 |.b=>rfl
 |.s=>rfl
 |.sl _ _=>rfl
 |.ow _ _=>rfl
 |.pr x y=>by show (Ey x++Ey y).length=x.sz+y.sz;rw[Vi,Lr x,Lr y]
def Eba {P:Program} {T:TypeId} {t:TI} (h:TOk P T t):∃ d,P.underlying T=some d∧Bea (P.underlying T)=t.ag:=by
 have:=h.desc;unfold Qx at this
 split at this<;>first|(cases this;done)|(rename_i hu;exact⟨_,hu,by rw[hu];rfl⟩)
def L2a {P:Program} {T:TypeId} {t:TI} (h:TOk P T t) (ha:t.ag=false):t.ty.sz=1:=by
 obtain⟨i,_,_,_,_,h4⟩:=h.info;have:=congrArg length (h4 ha);rw[Lr]at this;exact this
def O8 {P:Program} {T:TypeId} {t:TI} (h:TOk P T t):(P.info? T).map (λ i=>i.size)=some t.ty.sz:=by
 obtain⟨i,h1,h2,_⟩:=h.info;rw[h1,E6b,h2]
def Eca {P:Program} {w:World} {T:TypeId} {t:TI} {x:Operand} {k o':Nat} {cs:List Value} (ht:TOk P T t) (ho:o.op = .load T x) (he:a.eval x = .pointer (some ⟨k,o',none⟩)) (hc:Ec w k o' cs) (hl:cs.length=t.ty.sz):
  ∃ u,(if t.ag then u = .agg cs.toArray else cs=[u])∧(execOp a.eval o).run P w = .ok (.value u) w:=by
 obtain⟨d,hd,hagg⟩:=Eba ht
 have hc':∀ j v,cs[j]? = some v→w.cell? (Addr.add ⟨k,o',none⟩ j)=some v:=λ j v hj=>by rw[Ka];exact hc j v hj
 cases ha:t.ag with
 |true=>
  rw[ha]at hagg;refine⟨_,rfl,?_⟩;unfold execOp;have hlc:=run_loadCells_list (P:=P) w ⟨k,o',none⟩ cs hc';simp only[ho,he,Instr.loadAt,Instr.sureAddr,Wd,Yc,Wb,loadVar,Ml hd hagg,if_true,Iw (O8 ht),← hl,hlc]
 |false=>
  rw[ha]at hagg;have h1:=L2a ht ha;rw[h1]at hl;obtain⟨u,rfl⟩:∃ u,cs=[u]:=Dpb.1 hl;refine⟨u,rfl,?_⟩;have h0:=hc 0 u rfl;rw[Zy]at h0;unfold execOp;simp[ho,he,Instr.loadAt,Instr.sureAddr,loadVar,Ml hd hagg,h0]
def Pu (hE:Iv X E) (K:B1 X S a) (hg:S.g=get A) {T:TypeId} {t:TI} {x:Operand} {d k o':Nat} {l:List Lf} {cs:List Value} {s:Sv} (ht:TOk X.P T t) (ho:o.op = .load T x) (hod:o.dst=some d) (hd:d<X.nt)
  (he:a.eval x = .pointer (some ⟨k,o',none⟩)) (hc:Ec S.w k o' cs) (hlen:l.length=t.ty.sz) (hs:Jw t.ag l=some s) (hown:F8 l=false) {f:Nat→Lab} (hl:A9 X.P S f 0 l cs):
  Q3a X o a S.w (ups A [⟨d,false,s⟩]):=by
 obtain⟨u,e1,hrun⟩:=Eca (P:=X.P) ht ho he hc (hl.len.trans hlen);have hsv:Ib X.P S d s u:=Lq hs e1 (hl.relab hown);have K2:=K.put0 hd s u d (by rw[P6 hs,hown]) hsv;refine An (S:=Jx S (λ _ _=>none) d s u) hrun (by rw[hod];exact K2) ?_;show upd S.g d _=_;rw[Am,← hg]
def O9 (K:B1 X S a) (hg:S.g=get A) (b:Nat):∀ (n j:Nat),(cellsOf A b j n).length=n∧F8 (cellsOf A b j n)=false∧∀ f i,A9 X.P S f i (cellsOf A b j n) ((List.range n).map λ i=>S.ph (C b (j+i)))
 |0,j=>⟨rfl,rfl,λ f i=>trivial⟩
 |n+1,j=>by
  obtain⟨h1,h2,h3⟩:=O9 K hg b n (j+1);have hat:=K.at_ (C b j);rw[hg]at hat
  have hr:(List.range (n+1)).map (λ i=>S.ph (C b (j+i)))=S.ph (C b j)::(List.range n).map (λ i=>S.ph (C b (j+1+i))):=by
   rw[List.range_succ_eq_map,Yb,D3b,Zy];congr 1;apply Cdb;intro i _;show S.ph (C b (j+(i+1)))=_;rw[show j+(i+1)=j+1+i by omega]
  refine⟨by simp[cellsOf,h1],?_,λ f i=>?_⟩
  ·unfold cellsOf;split
   ·exact h2
   ·exact h2
   ·rename_i v x hne hne2 hp
    cases x<;>first|exact h2|exact(hne _ _ _ rfl).elim|exact(hne2 _ _ _ _ _ _ rfl).elim
   ·exact h2
  ·rw[hr];unfold cellsOf;refine⟨?_,h3 f (i+1)⟩;split
   ·rename_i v e r' xs hp;exact⟨by rw[hg,hp];exact Vw _,λ _=>rfl⟩
   ·rename_i hp;exact⟨by rw[hg,hp];exact Vw _,λ _=>rfl⟩
   ·rename_i v x hne hne2 hp;rw[hp]at hat;refine Bc.relab (lab := .pl (C b j) []) ?_ hat
    cases x<;>first|rfl|exact(hne _ _ _ rfl).elim|exact(hne2 _ _ _ _ _ _ rfl).elim
   ·trivial
def A9.ofRep {P:Program} {l:List Lf} {us:List Value} (h:Js (Iu P (λ k=>S.O k = .fz) S.w) l us):∀ (f:Nat→Lab) (j:Nat),A9 P S f j l us:=by
 induction h with
 |nil=>intro f j;trivial
 |@cons x u xs us hx _ ih=>
  intro f j;refine⟨?_,ih f (j+1)⟩
  cases x<;>first|exact hx|exact hx.elim
def Bpa {P:Program} {G:Nat→Prop} {w:World} {l:List Lf} {us:List Value} (h:Js (Iu P G w) l us):F8 l=false:=by
 induction h with
 |nil=>rfl
 |@cons x u xs us hx _ ih=>cases x<;>first|exact ih|exact hx.elim
def Ji {w:World} {k o':Nat} {cs:List Value} (h:Ec w k o' cs) (off n:Nat):Ec w k (o'+off) ((cs.drop off).take n):=by
 intro j u hu;rw[Wp]at hu;split at hu
 ·rw[Yv]at hu;rw[Zj];exact h _ _ hu
 ·cases hu
def G8a (K:B1 X S a) {p v:Nat} {i:Int} {off:Nat} {lab:Lab} {u:Value} {e:TypeId} {r':Ty} {xs:List r'.den} (hno:J6 r'=true) (hp:S.g p=(v,.one (.own e r' xs))) (h:Bc X.P S lab (.ep p v i off) u):
  ∃ k cs cur cap,u = .pointer (some ⟨k,i.toNat*r'.sz+off,none⟩)∧r'.rep X.P (λ k=>S.O k = .fz) S.w (xs.getD i.toNat r'.dflt) cs∧Ec S.w k (i.toNat*r'.sz) cs∧i.toNat<xs.length∧
   S.ph p = .slice (some ⟨k,0,none⟩) xs.length cap∧S.w.heap[k]? = some (.cells cur e (0,0))∧S.O k = .pl p []:=by
 obtain⟨_,h2⟩:=h;obtain⟨h0,h1,k,cap,h3,h4⟩:=h2 e r' xs hp
 have hown:F5 X.P S.O S.w (.pl p []) e r' xs (S.ph p):=by have:=K.at_ p;rw[hp]at this;exact this
 obtain⟨_,cs,hrow,hrows,hk⟩:=(F5.flat hno).1 hown;rcases F9 hrow with⟨e1,_⟩|⟨k',cap',cur,e1,hcur,_,_,_,ht⟩
 ·rw[h3]at e1;cases e1
 ·rw[h3]at e1;cases e1;obtain⟨c,hc1,hc2⟩:=Kya (S:=S) (Ty.rep_len r') hrows (i:=i.toNat) (x:=xs.getD i.toNat r'.dflt) (by rw[Vb,Ve h1];rfl) (Ia hcur ht);rw[Wi]at hc2;exact⟨k,c,cur,cap,h4,hc1,hc2,h1,h3,hcur,hk k (by rw[h3];rfl)⟩
def Hm:∀ (t:Ty) (x:t.den),(A6 t x).length=t.sz
 |.i _,_=>rfl
 |.b,_=>rfl
 |.s,_=>rfl
 |.sl _ _,_=>rfl
 |.ow _ _,_=>rfl
 |.pr x y,p=>by
  show (A6 x p.1++A6 y p.2).length=x.sz+y.sz;rw[Vi,Hm x p.1,Hm y p.2]
def L3a {p v:Nat} {pi:Option (List (Int×Nat))} {i:Int}:∀ {j:Nat} {l:List Lf},(daL p v pi i j l).length=l.length
 |_,[]=>rfl
 |j,x::l=>by cases x<;>simp[daL,L3a]
def L4a {p v:Nat} {pi:Option (List (Int×Nat))} {i:Int}:∀ {j:Nat} {l m:List Lf},daL p v pi i j (l++m)=daL p v pi i j l++daL p v pi i (j+l.length) m
 |j,[],m=>by simp[daL]
 |j,x::l,m=>by
  have e:j+(x::l).length=j+1+l.length:=by simp only[Vh];omega
  rw[e]
  cases x<;>simp[daL,L4a]
def Bqa {p v:Nat} {pi:Option (List (Int×Nat))} {i:Int}:∀ (j:Nat) (l:List Lf),∀ y∈daL p v pi i j l,y.isOwn=false
 |_,[]=>by simp[daL]
 |j,x::l=>by
  have ih:=Bqa (p:=p) (v:=v) (pi:=pi) (i:=i) (j+1) l
  cases x<;>(intro y hy;simp only[daL,Vl]at hy;rcases hy with rfl|hy<;>first|rfl|exact ih y hy)
def Tc:∀ {l:List Lf},(∀ y∈l,y.isOwn=false)→F8 l=false
 |[],_=>rfl
 |x::l,h=>by
  have h1:=h x (by simp);have h2:=Tc (λ y hy=>h y (Vd _ hy))
  cases x<;>first|(simp[Lf.isOwn]at h1;done)|exact h2
def Ita {l:List Lf} (h:∀ y∈l,y.isOwn=false) (n m:Nat):F8 ((l.drop n).take m)=false:=Tc λ y hy=>h y (Zq (Zw hy))
def Ko:∀ t:Ty,(Hv t).length=t.sz
 |.i _=>rfl
 |.b=>rfl
 |.s=>rfl
 |.sl _ _=>rfl
 |.ow _ _=>rfl
 |.pr x y=>by show (Hv x++Hv y).length=x.sz+y.sz;rw[Vi,Ko x,Ko y]
def Nj:∀ {t:Ty} {x:t.den} {j:Nat} {e:TypeId} {r:Ty} {ys:List r.den},nth (A6 t x) j=some (.own e r ys)→nth (Hv t) j=some (.ow e r)
 |.i _,_,0,_,_,_,h=>by simp[A6,nth]at h
 |.i _,_,_+1,_,_,_,h=>by simp[A6,nth]at h
 |.b,_,0,_,_,_,h=>by simp[A6,nth]at h
 |.b,_,_+1,_,_,_,h=>by simp[A6,nth]at h
 |.s,_,0,_,_,_,h=>by simp[A6,nth]at h
 |.s,_,_+1,_,_,_,h=>by simp[A6,nth]at h
 |.sl _ _,_,0,_,_,_,h=>by simp[A6,nth]at h
 |.sl _ _,_,_+1,_,_,_,h=>by simp[A6,nth]at h
 |.ow _ _,_,0,_,_,_,h=>by
  simp only[A6,nth,Vc]at h;cases h;rfl
 |.ow _ _,_,_+1,_,_,_,h=>by simp[A6,nth]at h
 |.pr x y,p,j,e,r,ys,h=>by
  rw[Hu]at h ⊢;have h:(A6 x p.1++A6 y p.2)[j]? = some (.own e r ys):=h;show (Hv x++Hv y)[j]? = _
  by_cases hj:j<x.sz
  ·rw[Yl (by rw[Hm];exact hj),← Hu]at h;rw[Yl (by rw[Ko];exact hj),← Hu];exact Nj h
  ·rw[Yg (by rw[Hm];omega),Hm,← Hu]at h;rw[Yg (by rw[Ko];omega),Ko,← Hu];exact Nj h
def G9a {e1:TypeId} {r1:Ty} {ys:List r1.den} {i:Int} {j:Nat} {e2:TypeId} {r2:Ty} {zs:List r2.den} (hi:0≤i∧i.toNat<ys.length) (hn:nth (A6 r1 (ys.getD i.toNat r1.dflt)) j=some (.own e2 r2 zs)):
  ∀ (q:List (Int×Nat)) (e:TypeId) (r:Ty) (xs:List r.den),G2a q e r xs=some ⟨e1,r1,ys⟩→G2a (q++[(i,j)]) e r xs=some ⟨e2,r2,zs⟩
 |[],e,r,xs,h=>by
  simp only[G2a,Vc]at h;cases h;simp only[Wn,G2a];rw[if_pos hi,hn]
 |(i',j')::q,e,r,xs,h=>by
  simp only[G2a,List.cons_append]at h ⊢
  by_cases hc:0≤i'∧i'.toNat<xs.length
  ·rw[if_pos hc]at h ⊢;split at h
   ·rename_i e3 r3 ws hw;exact G9a hi hn q e3 r3 ws h
   ·cases h
  ·rw[if_neg hc]at h;cases h
def Oq.app {G:Nat→Prop} {w:World} {i:Int} {j k o n cap:Nat} {e2:TypeId} {r1 r2:Ty} {u2:Value} (hG:G k) (hc:w.cell? ⟨k,o+(i.toNat*r1.sz+j),none⟩=some u2) (hs:nth (Hv r1) j=some (.ow e2 r2)) {e1:TypeId} {ys:List r1.den}:
  ∀ (q:List (Int×Nat)) (e:TypeId) (r:Ty) (xs:List r.den) (u:Value),G2a q e r xs=some ⟨e1,r1,ys⟩→Oq G w q r u (.slice (some ⟨k,o,none⟩) n cap)→Oq G w (q++[(i,j)]) r u u2
 |[],e,r,xs,u,hl,h=>by
  simp only[G2a,Vc]at hl;cases hl;exact⟨k,o,n,cap,e2,r2,u2,h.symm,hG,hc,hs,rfl⟩
 |(i',j')::q,e,r,xs,u,hl,⟨k',o',n',cap',e3,r3,u3,h1,h2,h3,h4,h5⟩=>by
  simp only[G2a]at hl;split at hl
  ·split at hl
   ·rename_i e4 r4 ws hw;have hsl:nth (Hv r) j'=some (.ow e4 r4):=Nj hw;rw[h4]at hsl;cases hsl;exact⟨k',o',n',cap',e3,r3,u3,h1,h2,h3,h4,h5.app hG hc hs q e3 r3 ws u3 hl⟩
   ·cases hl
  ·cases hl
def L5a {P:Program} {S:Sit} {p v:Nat} {pi:Option (List (Int×Nat))} {i:Int} (hv:(S.g p).1=v) (hdeep:E5a (S.g p).2=true):∀ (t:Ty) (x:t.den) (c:List Value) (b:List Nat) (j0:Nat),Gk t=true→t.dep P (λ k=>S.O k = .fz) S.w x c b→(∀ k∈b,T9a S p k)→
  (∀ n e1 r1 ys u1,nth (A6 t x) n=some (.own e1 r1 ys)→c[n]? = some u1→Taa S p (match pi with|some q=>some (q++[(i,j0+n)])|none=>none) e1 r1 ys u1)→
  ∀ (f:Nat→Lab) (m:Nat),A9 P S f m (daL p v pi i j0 (A6 t x)) c
 |.i _,_,_,_,_,_,⟨e,_⟩,_,_=>by subst e;exact λ f m=>⟨⟨rfl,rfl⟩,trivial⟩
 |.b,_,_,_,_,_,⟨e,_⟩,_,_=>by subst e;exact λ f m=>⟨⟨rfl,rfl⟩,trivial⟩
 |.s,_,_,_,_,_,⟨e,_⟩,_,_=>by subst e;exact λ f m=>⟨⟨rfl,rfl⟩,trivial⟩
 |.sl _ _,_,_,_,_,h,_,_,_=>by simp[Gk]at h
 |.ow e r,xs,c,b,j0,h,⟨u,cs,b2,ev,hs,ho,hd,eb⟩,hm,hp=>by
  subst ev;refine λ f m=>⟨⟨h,Djb hv.symm,λ _=>⟨hdeep,⟨hs,?_⟩,?_⟩⟩,trivial⟩
  ·rcases F9 ho with⟨rfl,e2,rfl⟩|⟨k,cap,cur,rfl,hc,h1,_,_,ht⟩
   ·exact⟨none,0,[],b2,by rw[e2],by omega,hd,λ k hk=>hm k (by rw[eb];exact Vo _ hk),λ hn=>absurd (Wk e2) hn⟩
   ·exact⟨_,cap,cs,b2,rfl,h1,hd,λ k hk=>hm k (by rw[eb];exact Vo _ hk),λ _=>⟨k,0,rfl,hm k (by rw[eb];simp[Value.ownBlock]),Ia hc ht⟩⟩
  ·have:=hp 0 e r xs u rfl rfl;exact this
 |.pr y z,x,c,b,j0,h,⟨c1,c2,b1,b2,ec,eb,h1,h2⟩,hm,hp=>by
  simp only[Gk,Va]at h;subst ec eb;have l1:=Ty.dep_len y x.1 c1 b1 h1;have l2:=Hm y x.1
  have i1:=L5a (P:=P) hv hdeep y x.1 c1 b1 j0 h.1 h1 (λ k hk=>hm k (Vx _ hk)) (λ n e1 r1 ys u1 hn hu=>hp n e1 r1 ys u1 (by
   rw[Hu]at hn ⊢;show (A6 y x.1++A6 z x.2)[n]? = _;rw[Yl (Ym.1 hn).1]
   exact hn) (by rw[Yl (Ym.1 hu).1];exact hu))
  have i2:=L5a (P:=P) hv hdeep z x.2 c2 b2 (j0+y.sz) h.2 h2 (λ k hk=>hm k (Vo _ hk)) (λ n e1 r1 ys u1 hn hu=>by
   have:=hp (y.sz+n) e1 r1 ys u1 (by
    rw[Hu]at hn ⊢;show (A6 y x.1++A6 z x.2)[y.sz+n]? = _;rw[Yg (by omega),l2,show y.sz+n-y.sz=n by omega]
    exact hn) (by rw[Yg (by omega),l1,show y.sz+n-y.sz=n by omega];exact hu)
   rw[← Zj]at this
   exact this)
  intro f m;show A9 P S f m (daL p v pi i j0 (A6 y x.1++A6 z x.2)) (c1++c2);rw[L4a,l2];exact A9.app (i1 f m) (i2 f _)
def Q9a {P:Program} {S:Sit} {p v:Nat} {pi:Option (List (Int×Nat))} {e:TypeId} {r':Ty} {xs:List r'.den} {i:Int} {off:Nat} {h u:Value} (hda:Kba P S p v pi e r' xs h) (hv:(S.g p).1=v)
  (hdp:0≤i∧i.toNat<xs.length∧∃ k o cap,h = .slice (some ⟨k,o,none⟩) xs.length cap∧u = .pointer (some ⟨k,o+(i.toNat*r'.sz+off),none⟩)):
  ∃ k o' c,u = .pointer (some ⟨k,o'+off,none⟩)∧Ec S.w k o' c∧∀ f m,A9 P S f m (daL p v pi i 0 (A6 r' (xs.getD i.toNat r'.dflt))) c:=by
 obtain⟨i0,i1,k,o,cap,e1,e2⟩:=hdp;obtain⟨d1,_,d2⟩:=hda;obtain⟨d3,⟨d4,ad,cap',cs,bs,d5,d6,d7,d8,d9⟩,d10⟩:=d2 hv;rw[e1]at d5;cases d5;obtain⟨k',o',e3,m1,hc⟩:=d9 (by intro e0;subst e0;simp at i1);cases e3
 have hx:xs[i.toNat]? = some (xs.getD i.toNat r'.dflt):=by rw[Vb,Ve i1];rfl
 obtain⟨b,g1,g2⟩:=d7.get (Ty.dep_len r') i.toNat _ hx;have hce:Ec S.w k (o+i.toNat*r'.sz) ((cs.drop (i.toNat*r'.sz)).take r'.sz):=Ji hc _ _;refine⟨k,o+i.toNat*r'.sz,_,by rw[e2,Zj],hce,L5a hv d3 r' _ _ b 0 d1 g1 (λ k hk=>d8 k (g2.subset hk)) (λ n e4 r4 ys u4 hn hu q hq E R XS hgp=>?_)⟩
 cases pi with
 |none=>cases hq
 |some q0=>
  cases hq;obtain⟨f1,f2⟩:=d10 q0 rfl E R XS hgp;rw[e1]at f2;rw[Wi];refine⟨G9a ⟨i0,i1⟩ hn q0 E R XS f1,Oq.app (r1:=r') (i:=i) (j:=n) m1 ?_ (Nj hn) q0 E R XS _ f1 f2⟩;have:=hce n u4 hu;rw[Zj]at this;exact this
def Vaa (hE:Iv X E) (K:B1 X S a) (hg:S.g=get A) {T:TypeId} {x:Operand} {d:Nat} (ho:o.op = .load T x) (hod:o.dst=some d) (hd:d<X.nt) (h:Au E o A Kc=some r):Hc X o a S.w A Kc r:=by
 unfold Au at h;rw[ho,hod]at h;simp only at h;split at h
 ·rename_i ti b v off hti hs;obtain⟨pl,hsv⟩:=H6 hE K hg hs;have hlf:Bc X.P S (.pl pl []) (.bp b v off) (a.eval x):=hsv;split at h
  ·rename_i n m hp;rw[csi]at h;obtain⟨hq,h⟩:=h;simp only[Va]at hq
   have hnv:n=v:=by simpa using hq.1
   have hle:off+ti.ty.sz≤m:=Vk hq.2;subst hnv;split at h
   ·rename_i s hof;obtain⟨_,c,e,h1,h2,h3,h4⟩:=K.box b m (by rw[hg,hp]);obtain⟨c1,c2,c3⟩:=O9 K hg b ti.ty.sz off;refine⟨_,h,Pu hE K hg (hE.ti _ _ hti) ho hod hd (hlf.2 (by rw[hg,hp])) (cs:=(List.range ti.ty.sz).map λ i=>S.ph (C b (off+i))) (λ j u hu=>?_) c1 hof c2 (c3 (λ _ => .no) 0)⟩
    have hj:j<ti.ty.sz:=by
     rcases D2b j ti.ty.sz with h|h
     ·exact h
     ·rw[Yu (by simpa using h)]at hu;cases hu
    simp[hj]at hu;subst hu;simp[World.cell?,h1,Zj,h4 (off+j) (by omega)]
   ·cases h
  ·cases h
 ·rename_i ti p v i off hti hs;obtain⟨pl,hsv⟩:=H6 hE K hg hs;have hlf:Bc X.P S (.pl pl []) (.ep p v i off) (a.eval x):=hsv;split at h
  ·rename_i n e r' xs hp;rw[csi]at h;obtain⟨hq,h⟩:=h;simp only[Va]at hq
   have hnv:n=v:=by simpa using hq.1.1
   have hle:off+ti.ty.sz≤r'.sz:=Vk hq.2;subst hnv;split at h
   ·rename_i s hof;obtain⟨k,cs,cur,cap,e1,e2,e3,_⟩:=G8a K hq.1.2 (by rw[hg,hp]) hlf;have hrep:=((Mi _ _ _ e2).drop off).take ti.ty.sz;exact⟨_,h,Pu hE K hg (hE.ti _ _ hti) ho hod hd e1 (Ji e3 off ti.ty.sz) (by rw[Vs,Wf,Xw];omega) hof (Bpa hrep) (A9.ofRep hrep (λ _ => .no) 0)⟩
   ·cases h
  ·cases h
 ·rename_i ti p v pi e r' xs i off hti hs;obtain⟨pl,hsv⟩:=H6 hE K hg hs;obtain⟨hd',hda,hdp⟩:Bc X.P S (.pl pl []) (.dp p v pi e r' xs i off) (a.eval x):=hsv;rw[csi]at h;obtain⟨hq,h⟩:=h;simp only[Va]at hq
  have hv:(S.g p).1=v:=by rw[hg];exact Vg hq.1
  have hle:off+ti.ty.sz≤r'.sz:=Vk hq.2;split at h
  ·rename_i s hof;obtain⟨k,o',c,e1,e2,e3⟩:=Q9a hda hv (hdp hv);exact⟨_,h,Pu hE K hg (hE.ti _ _ hti) ho hod hd e1 (Ji e2 off ti.ty.sz) (by rw[Vs,Wf,L3a,Hm];omega) hof (Ita (Bqa _ _) off _) (A9.shift (j:=0) off (((e3 (λ _ => .no) 0).drop off).take ti.ty.sz))⟩
  ·cases h
 ·rename_i ti r' y off hti hs;obtain⟨pl,hsv⟩:=H6 hE K hg hs;obtain⟨k,o',cs,e1,e2,e3,e4⟩:Bc X.P S (.pl pl []) (.fp r' y off) (a.eval x):=hsv;rw[csi]at h;obtain⟨hq,h⟩:=h;have hle:off+ti.ty.sz≤r'.sz:=Vk hq;split at h
  ·rename_i s hof;have hrep:=((Mi _ _ _ e3).drop off).take ti.ty.sz;exact⟨_,h,Pu hE K hg (hE.ti _ _ hti) ho hod hd e1 (Ji e4 off ti.ty.sz) (by rw[Vs,Wf,Xw];omega) hof (Bpa hrep) (A9.ofRep hrep (λ _ => .no) 0)⟩
  ·cases h
 ·cases h
end
end

section
attribute [local irreducible] C H
def Yaa (P:Program) (G:Nat→Prop) (w:World):Lf→Value→List Nat→Prop
 |.sc v,u,bs=>u=v∧G1a v=true∧bs=[]
 |.own e r xs,u,bs=>(Ty.ow e r).dep P G w xs [u] bs
 |_,_,_=>False
def I9 (P:Program) (G:Nat→Prop) (w:World):List Lf→List Value→List Nat→Prop
 |[],us,bs=>us=[]∧bs=[]
 |x::xs,us,bs=>∃ u us' b1 b2,us=u::us'∧bs=b1++b2∧Yaa P G w x u b1∧I9 P G w xs us' b2
section
variable {P:Program} {G G':Nat→Prop} {w w':World}
def I9.app:∀ {l m:List Lf} {us vs:List Value} {bs es:List Nat},I9 P G w l us bs→I9 P G w m vs es→I9 P G w (l++m) (us++vs) (bs++es)
 |[],_,_,_,_,_,h,h'=>by obtain⟨rfl,rfl⟩:=h;exact h'
 |_::_,_,_,_,_,_,⟨u,us',b1,b2,e1,e2,h1,h2⟩,h'=>by subst e1 e2;exact⟨u,_,b1,_,rfl,by rw[Vp],h1,h2.app h'⟩
def I9.len:∀ {l:List Lf} {us:List Value} {bs:List Nat},I9 P G w l us bs→us.length=l.length
 |[],_,_,h=>by obtain⟨rfl,_⟩:=h;rfl
 |_::_,_,_,⟨_,_,_,_,e,_,_,h⟩=>by subst e;simp[h.len]
def I9.split:∀ {l m:List Lf} {us:List Value} {bs:List Nat},I9 P G w (l++m) us bs→∃ b1 b2,bs=b1++b2∧I9 P G w l (us.take l.length) b1∧I9 P G w m (us.drop l.length) b2
 |[],m,us,bs,h=>⟨[],bs,rfl,⟨rfl,rfl⟩,by simpa using h⟩
 |x::l,m,us,bs,⟨u,us',b1,b2,e1,e2,h1,h2⟩=>by
  subst e1 e2;obtain⟨b3,b4,e3,h3,h4⟩:=h2.split;subst e3;exact⟨b1++b3,b4,by rw[Vp],⟨u,us'.take l.length,b1,b3,rfl,rfl,h1,h3⟩,h4⟩
def Yaa.mono (hG:∀ k,G k→G' k) (hw:∀ k,G k→w'.heap[k]? = w.heap[k]?) {x:Lf} {u:Value} {bs:List Nat} (hb:∀ k∈bs,w'.heap[k]? = w.heap[k]?) (h:Yaa P G w x u bs):Yaa P G' w' x u bs:=by
 cases x with
 |own e r xs=>exact Ty.dep_mono hG hw (.ow e r) xs [u] bs hb h
 |_=>exact h
def I9.mono (hG:∀ k,G k→G' k) (hw:∀ k,G k→w'.heap[k]? = w.heap[k]?):∀ {l:List Lf} {us:List Value} {bs:List Nat},(∀ k∈bs,w'.heap[k]? = w.heap[k]?)→I9 P G w l us bs→I9 P G' w' l us bs
 |[],_,_,_,h=>h
 |_::_,_,_,hb,⟨u,us',b1,b2,e1,e2,h1,h2⟩=>⟨u,us',b1,b2,e1,e2,h1.mono hG hw (λ k hk=>hb k (by rw[e2];exact Vx _ hk)),h2.mono hG hw (λ k hk=>hb k (by rw[e2];exact Vo _ hk))⟩
def Ls:∀ (t:Ty) (x:t.den) (vs:List Value) (bs:List Nat),Gk t=true→t.dep P G w x vs bs→I9 P G w (A6 t x) vs bs
 |.i _,_,_,_,_,⟨e,e'⟩=>by subst e e';exact⟨_,[],[],[],rfl,rfl,⟨rfl,rfl,rfl⟩,rfl,rfl⟩
 |.b,_,_,_,_,⟨e,e'⟩=>by subst e e';exact⟨_,[],[],[],rfl,rfl,⟨rfl,rfl,rfl⟩,rfl,rfl⟩
 |.s,_,_,_,_,⟨e,e'⟩=>by subst e e';exact⟨_,[],[],[],rfl,rfl,⟨rfl,rfl,rfl⟩,rfl,rfl⟩
 |.sl _ _,_,_,_,h,_=>by simp[Gk]at h
 |.ow e r,xs,vs,bs,_,h=>by
  obtain⟨v,cs,b2,ev,hs,ho,hd,eb⟩:=h;subst ev;exact⟨v,[],bs,[],rfl,by simp,⟨v,cs,b2,rfl,hs,ho,hd,eb⟩,rfl,rfl⟩
 |.pr x y,p,_,_,h,⟨c,d,b1,b2,e,eb,h1,h2⟩=>by
  simp only[Gk,Va]at h;subst e eb;exact(Ls x p.1 c b1 h.1 h1).app (Ls y p.2 d b2 h.2 h2)
def Qaa {e:TypeId} {r r':Ty} {xs:List r'.den} {ys:List r.den} {vs:List Value} {bs:List Nat} (hc:S6 r r' xs=some ys) (h:(Ty.ow e r').dep P G w xs vs bs):(Ty.ow e r).dep P G w ys vs bs:=by
 rcases W8 hc with⟨e1,e2⟩|⟨e1,rfl,rfl⟩
 ·subst e1 e2;exact h
 ·obtain⟨v,cs,b2,ev,hs,ho,hd,eb⟩:=h
  have hsz:r'.sz=r.sz:=by rw[← Jl r',e1,Jl r]
  exact⟨v,cs,b2,ev,by rw[← hsz];exact hs,by rw[← hsz];exact ho,hd,eb⟩
def Vba:∀ (t:Ty) (l l':List Lf) (x:t.den) (us:List Value) (bs:List Nat),Gk t=true→mkT t l=some (x,l')→I9 P G w l us bs→
  ∃ vs ws b1 b2,us=vs++ws∧bs=b1++b2∧t.dep P G w x vs b1∧I9 P G w l' ws b2:=by
 intro t
 induction t with
 |i k=>
  intro l l' x us bs _ h hl
  cases l with
  |nil=>simp[mkT]at h
  |cons y ys=>
   obtain⟨u,us',b1,b2,e1,e2,hy,hys⟩:=hl
   cases y<;>first|(simp[mkT]at h;done)|skip
   rename_i v
   cases v<;>first|(simp[mkT]at h;done)|skip
   rename_i k' n;simp only[mkT]at h
   by_cases hk:k=k'
   ·subst hk;simp at h;obtain⟨rfl,rfl⟩:=h;obtain⟨rfl,_,rfl⟩:=hy;exact⟨[_],us',[],b2,e1,e2,⟨rfl,rfl⟩,hys⟩
   ·simp[hk]at h
 |b=>
  intro l l' x us bs _ h hl
  cases l with
  |nil=>simp[mkT]at h
  |cons y ys=>
   obtain⟨u,us',b1,b2,e1,e2,hy,hys⟩:=hl
   cases y<;>first|(simp[mkT]at h;done)|skip
   rename_i v
   cases v<;>first|(simp[mkT]at h;done)|skip
   simp[mkT]at h;obtain⟨rfl,rfl⟩:=h;obtain⟨rfl,_,rfl⟩:=hy;exact⟨[_],us',[],b2,e1,e2,⟨rfl,rfl⟩,hys⟩
 |s=>
  intro l l' x us bs _ h hl
  cases l with
  |nil=>simp[mkT]at h
  |cons y ys=>
   obtain⟨u,us',b1,b2,e1,e2,hy,hys⟩:=hl
   cases y<;>first|(simp[mkT]at h;done)|skip
   rename_i v
   cases v<;>first|(simp[mkT]at h;done)|skip
   simp[mkT]at h;obtain⟨rfl,rfl⟩:=h;obtain⟨rfl,_,rfl⟩:=hy;exact⟨[_],us',[],b2,e1,e2,⟨rfl,rfl⟩,hys⟩
 |sl e r _=>intro l l' x us bs h;simp[Gk]at h
 |ow e r _=>
  intro l l' x us bs _ h hl
  cases l with
  |nil=>simp[mkT]at h
  |cons y ys=>
   obtain⟨u,us',b1,b2,e1,e2,hy,hys⟩:=hl
   cases y<;>first|(simp[mkT]at h;done)|skip
   rename_i e' r' xs;simp only[mkT]at h;rw[csi]at h;obtain⟨he,h⟩:=h;split at h
   ·rename_i zs hz;have:e=e':=Vg he;subst this;cases h;exact⟨[u],us',b1,b2,e1,e2,Qaa hz hy,hys⟩
   ·cases h
 |pr x y ihx ihy=>
  intro l l' p us bs ha h hl;simp only[Gk,Va]at ha;simp only[mkT]at h;split at h
  ·rename_i q l1 h1;split at h
   ·rename_i q2 l2 h2;simp at h;obtain⟨rfl,rfl⟩:=h;obtain⟨vs,ws,b1,b2,rfl,rfl,r1,hw1⟩:=ihx _ _ _ _ _ ha.1 h1 hl;obtain⟨vs2,ws2,b3,b4,rfl,rfl,r2,hw2⟩:=ihy _ _ _ _ _ ha.2 h2 hw1;exact⟨vs++vs2,ws2,b1++b3,b4,by rw[Vp],by rw[Vp],⟨vs,vs2,b1,b3,rfl,rfl,r1,r2⟩,hw2⟩
   ·cases h
  ·cases h
def Y6 {t:Ty} {l:List Lf} {x:t.den} {us:List Value} {bs:List Nat} (ha:Gk t=true) (h:mkW t l=some x) (hl:I9 P G w l us bs):t.dep P G w x us bs:=by
 unfold mkW at h;split at h
 ·rename_i y hy;simp at h;subst h;obtain⟨vs,ws,b1,b2,rfl,rfl,hr,hw⟩:=Vba _ _ _ _ _ _ ha hy hl;obtain⟨rfl,rfl⟩:=hw;rw[Yf,Yf];exact hr
 ·cases h
def Td:∀ {t:Ty} {j:Nat} {e:TypeId} {r:Ty},Gk t=true→nth (Hv t) j=some (.ow e r)→Gk r=true
 |.i _,0,_,_,_,h=>by simp[Hv,nth]at h
 |.i _,_+1,_,_,_,h=>by simp[Hv,nth]at h
 |.b,0,_,_,_,h=>by simp[Hv,nth]at h
 |.b,_+1,_,_,_,h=>by simp[Hv,nth]at h
 |.s,0,_,_,_,h=>by simp[Hv,nth]at h
 |.s,_+1,_,_,_,h=>by simp[Hv,nth]at h
 |.sl _ _,_,_,_,ha,_=>by simp[Gk]at ha
 |.ow _ _,0,_,_,ha,h=>by
  simp only[Hv,nth,Vc]at h;cases h;exact ha
 |.ow _ _,_+1,_,_,_,h=>by simp[Hv,nth]at h
 |.pr x y,j,e,r,ha,h=>by
  simp only[Gk,Va]at ha;rw[Hu]at h;have h:(Hv x++Hv y)[j]? = some (.ow e r):=h
  by_cases hj:j<(Hv x).length
  ·rw[Yl hj,← Hu]at h;exact Td ha.1 h
  ·rw[Yg (by omega),← Hu]at h;exact Td ha.2 h
def I9.set {l m:List Lf} {cs us:List Value} {bs mb:List Nat} {off:Nat} (h:I9 P G w l cs bs) (hm:I9 P G w m us mb) (hle:off+m.length≤l.length):
  ∃ ba bx bc,bs=ba++bx++bc∧I9 P G w (l.take off) (cs.take off) ba∧I9 P G w ((l.drop off).take m.length) ((cs.drop off).take m.length) bx∧
   I9 P G w (Vf.setAll l off m) (cs.take off++us++cs.drop (off+us.length)) (ba++mb++bc):=by
 have e0:l=l.take off++((l.drop off).take m.length++l.drop (off+m.length)):=by
  rw[← Yp,Wh,Wh]
 have h0:=h;rw[e0]at h0;obtain⟨b1,b2,e1,h1,h2⟩:=h0.split;obtain⟨b3,b4,e2,h3,h4⟩:=h2.split
 have l1:(l.take off).length=off:=by rw[Vs];omega
 have l2:((l.drop off).take m.length).length=m.length:=by rw[Vs,Wf];omega
 rw[l1]at h1 h3 h4;rw[l2]at h3 h4;subst e1 e2;refine⟨b1,b3,b4,by rw[Vp],h1,h3,?_⟩;unfold Vf.setAll;rw[hm.len];rw[Yp]at h4;exact(h1.app hm).app h4
def Ed.set {α:Type} {R:α→List Value→List Nat→Prop} {n:Nat} (hn:∀ x c b,R x c b→c.length=n):∀ {xs:List α} {cs:List Value} {bs:List Nat} (_:Ed R xs cs bs) (i:Nat) (x:α),xs[i]? = some x→
  ∃ ba b bc,bs=ba++b++bc∧R x ((cs.drop (i*n)).take n) b∧∀ (R':α→List Value→List Nat→Prop) (z:α) (c':List Value) (b':List Nat),R' z c' b'→(∀ y c b0,(∀ k∈b0,k∈ba∨k∈bc)→R y c b0→R' y c b0)→Ed R' (xs.set i z) (cs.take (i*n)++c'++cs.drop (i*n+n)) (ba++b'++bc)
 |[],_,_,_,i,x,hx=>by simp at hx
 |y::ys,_,_,⟨c,d,b1,b2,e,eb,h1,h2⟩,0,x,hx=>by
  simp at hx;subst hx e eb;have hl:=hn _ _ _ h1;refine⟨[],b1,b2,rfl,?_,λ R' z c' b' hz ho=>?_⟩
  ·simp only[Czb,Zf];rw[← hl,Dab];exact h1
  ·refine⟨c',d,b',b2,?_,rfl,hz,h2.mono (λ x c b hb hx=>ho x c b (λ k hk => .inr (hb k hk)) hx)⟩;simp only[Czb,Zz,Wn,Wi,← hl,Zl]
 |y::ys,_,_,⟨c,d,b1,b2,e,eb,h1,h2⟩,i+1,x,hx=>by
  subst e eb;have hl:=hn _ _ _ h1;obtain⟨ba,b,bc,e1,h3,h4⟩:=Ed.set hn h2 i x (by simpa using hx);subst e1
  have e2:(i+1)*n=c.length+i*n:=by rw[hl,Zc,Zh,C6b]
  refine⟨b1++ba,b,bc,by simp[Vp],?_,λ R' z c' b' hz ho=>?_⟩
  ·rw[e2,← Yp,Zl];exact h3
  ·refine⟨c,_,b1,ba++b'++bc,?_,by simp[Vp],ho y c b1 (λ k hk => .inl (Vx _ hk)) h1,h4 R' z c' b' hz (λ y c b0 hb hy=>ho y c b0 (λ k hk=>(hb k hk).imp (Vo _) id) hy)⟩;rw[e2,Zza,Zj,← Yp,Zl];simp[Vp]
end
end

section
attribute [local irreducible] C H
def Tba {cs us:List Value} {i sz off:Nat} (h1:i+sz≤cs.length) (h2:off+us.length≤sz):
  cs.take (i+off)++us++cs.drop (i+off+us.length)=cs.take i++(((cs.drop i).take sz).take off++us++((cs.drop i).take sz).drop (off+us.length))++cs.drop (i+sz):=by
 have e1:cs.take (i+off)=cs.take i++((cs.drop i).take sz).take off:=by
  rw[D0b,Cab (by omega),← F4b]
 have e2:cs.drop (i+off+us.length)=((cs.drop i).take sz).drop (off+us.length)++cs.drop (i+sz):=by
  rw[Dbb,Yp,← Zj]
  have:cs.drop (i+sz)=(cs.drop (i+off+us.length)).drop (sz-(off+us.length)):=by rw[Yp];congr 1;omega
  rw[this,Wh]
 rw[e1,e2];simp[Vp]
def Te {L us:List Value} {j n:Nat} (h:j+us.length≤n) (hn:n≤L.length):(L.take j++us++L.drop (j+us.length)).take n=(L.take n).take j++us++(L.take n).drop (j+us.length):=by
 have hl:(L.take j++us).length=j+us.length:=by rw[Vi,Vs];omega
 rw[D0b,Cab (by omega),Dbb,List.take_append,Cfb (by rw[hl];exact h),hl]
def Iua {l1 bx mb l2:List Nat} (h:(l1++bx++l2).Nodup) (hm:mb.Nodup) (hd:∀ k∈mb,k∉l1++bx++l2):(l1++mb++l2).Nodup:=by
 simp only[Ya,Vm,not_or]at h hd ⊢;obtain⟨⟨n1,n2,n3⟩,n4,n5⟩:=h;refine⟨⟨n1,hm,λ a ha b hb e=>(hd b hb).1.1 (e ▸ ha)⟩,n4,λ a ha b hb e=>?_⟩;rcases ha with ha|ha
 ·exact n5 a (.inl ha) b hb e
 ·exact(hd a ha).2 (e ▸ hb)
def Eda {l1 bx mb l2:List Nat} (h:(l1++bx++l2).Nodup) (hm:mb.Nodup) (hd:∀ k∈mb,k∈l1++bx++l2→k∈bx):(l1++mb++l2).Nodup:=by
 simp only[Ya,Vm]at h hd ⊢;obtain⟨⟨n1,n2,n3⟩,n4,n5⟩:=h;refine⟨⟨n1,hm,λ a ha b hb e=>?_⟩,n4,λ a ha b hb e=>?_⟩
 ·subst e;exact n3 a ha a (hd a hb (.inl (.inl ha))) rfl
 ·subst e;rcases ha with ha|ha
  ·exact n5 a (.inl ha) a hb rfl
  ·exact n5 a (.inr (hd a ha (.inr hb))) a hb rfl
section
variable {P:Program} {G:Nat→Prop} {w:World}
def I9.parts {l:List Lf} {cs:List Value} {bs:List Nat} {off z:Nat} (h:I9 P G w l cs bs) (hle:off+z≤l.length):
  ∃ ba bx bc,bs=ba++bx++bc∧I9 P G w (l.take off) (cs.take off) ba∧I9 P G w ((l.drop off).take z) ((cs.drop off).take z) bx∧I9 P G w (l.drop (off+z)) (cs.drop (off+z)) bc:=by
 have e0:l=l.take off++((l.drop off).take z++l.drop (off+z)):=by
  rw[← Yp,Wh,Wh]
 have h0:=h;rw[e0]at h0;obtain⟨b1,b2,e1,h1,h2⟩:=h0.split;obtain⟨b3,b4,e2,h3,h4⟩:=h2.split
 have l1:(l.take off).length=off:=by rw[Vs];omega
 have l2:((l.drop off).take z).length=z:=by rw[Vs,Wf];omega
 rw[l1]at h1 h3 h4;rw[l2]at h3 h4;rw[Yp]at h4;exact⟨b1,b3,b4,by rw[e1,e2,Vp],h1,h3,h4⟩
def Vca (cur:Array Value) (j:Nat) (us:List Value):Array Value:=(cur.toList.take j++us++cur.toList.drop (j+us.length)).toArray
def Iva {e:TypeId} {r:Ty} {xs:List r.den} {u:Value} {bs mb:List Nat} {k0 o n cap i off:Nat} {m:List Lf} {us:List Value} {z:r.den} (hd:(Ty.ow e r).dep P G w xs [u] bs) (hn:bs.Nodup) (ha:Gk r=true) (hu:u = .slice (some ⟨k0,o,none⟩) n cap) (hi:i<xs.length)
  (hm:I9 P G w m us mb) (hmn:mb.Nodup) (hdis:∀ k∈mb,k∉bs) (hz:mkW r (Vf.setAll (A6 r (xs.getD i r.dflt)) off m)=some z) (hle:off+m.length≤r.sz) (hG:∀ k∈bs,¬ G k):
  ∃ cur e0,w.heap[k0]? = some (.cells cur e0 (0,0))∧k0∈bs∧o=0∧i*r.sz+off+us.length≤cur.size∧
   ∃ bs',(Ty.ow e r).dep P G (w.setRow k0 (Vca cur (i*r.sz+off) us)) (xs.set i z) [u] bs'∧bs'.Nodup∧∀ k∈bs',k∈bs∨k∈mb:=by
 obtain⟨v,cs,b2,ev,hs,ho,hrows,eb⟩:=hd;simp only[Yj,and_true]at ev;subst ev;rcases F9 ho with⟨e1,_⟩|⟨k,cap',cur,e1,hc,h1,h2,h3,h4⟩
 ·rw[hu]at e1;cases e1
 ·rw[hu]at e1;cases e1
  have hob:u.ownBlock.toList=[k0]:=by rw[hu];rfl
  rw[hob]at eb;subst eb
  have hk0:k0∉b2:=by
   have:=hn;simp only[Yq,Yr]at this;exact this.1
  have hk0m:k0∉mb:=λ h=>hdis k0 h (by simp);have hul:=hm.len;have hlt:(i+1)*r.sz≤xs.length*r.sz:=Wj _ hi;have hcl:cs.length=xs.length*r.sz:=ho.1;have hcap:xs.length*r.sz≤cap*r.sz:=Wj _ h1;rw[Zc,Zh]at hlt
  let w':=w.setRow k0 (Vca cur (i*r.sz+off) us)
  have hold:∀ j,j≠k0→w'.heap[j]? = w.heap[j]? := λ j hj=>setRow_other _ _ _ _ hj;have hGh:∀ k,G k→w'.heap[k]? = w.heap[k]? := λ k hk=>hold k (λ e=>hG k0 (by simp) (e ▸ hk));obtain⟨ba,b,bc,e2,hx,hset⟩:=Ed.set (Ty.dep_len r) hrows i (xs.getD i r.dflt) (by rw[Vb,Ve hi];rfl);subst e2;have hlv:=Ls r _ _ _ ha hx;obtain⟨ba',bx,bc',e3,_,_,hnew⟩:=hlv.set (off:=off) hm (by rw[Hm];exact hle);subst e3;have hz1:=Y6 ha hz hnew
  have hz2:r.dep P G w' z (((cs.drop (i*r.sz)).take r.sz).take off++us++((cs.drop (i*r.sz)).take r.sz).drop (off+us.length)) (ba'++mb++bc'):=
   Ty.dep_mono (λ _ h=>h) hGh r _ _ _ (λ k hk=>hold k (λ e=>by
    subst e;simp only[Vm]at hk hk0;rcases hk with (hk|hk)|hk
    ·exact hk0 (.inl (.inr (.inl (.inl hk))))
    ·exact hk0m hk
    ·exact hk0 (.inl (.inr (.inr hk))))) hz1
  have hrows2:=hset (λ x c b=>r.dep P G w' x c b) z _ _ hz2 (λ y c b0 hb hy=>Ty.dep_mono (λ _ h=>h) hGh r y c b0 (λ k hk=>hold k (λ e=>by
   subst e;simp only[Vm]at hk0;rcases hb k hk with hk|hk
   ·exact hk0 (.inl (.inl hk))
   ·exact hk0 (.inr hk))) hy)
  rw[← Tba (by omega) (by omega)]at hrows2;refine⟨cur,e,hc,by simp,rfl,by omega,k0::(ba++(ba'++mb++bc')++bc),⟨u,_,_,rfl,hs,⟨?_,.inr ⟨k0,cap,_,by rw[Vt];exact hu,Vv _,setRow_heap _ _ _ _ _ _ hc,by rw[Vt];exact h1,h2,?_,?_⟩⟩,hrows2,by rw[hob];rfl⟩,?_,?_⟩
  ·simp only[Vi,Vs,Wf,Vt];omega
  ·simp only[Vca,Ctb,Vi,Vs,Wf,Zd];omega
  ·rw[Vt,← h4];exact Te (n:=xs.length*r.sz) (by omega) (by have h9:cur.toList.length=cur.size:=Zd;omega)
  ·have:=Iua (l1:=k0::(ba++ba')) (bx:=bx) (mb:=mb) (l2:=bc'++bc) (by simpa[Vp] using hn) hmn (λ k hk h=>hdis k hk (by simpa[Vp] using h))
   simpa[Vp] using this
  ·intro k hk;simp only[Vl,Vm,Vn,Yq]at hk ⊢;rcases hk with hk|(hk|((hk|hk)|hk))|hk
   ·exact .inl (.inl hk)
   ·exact .inl (.inr (.inl (.inl hk)))
   ·exact .inl (.inr (.inl (.inr (.inl (.inl hk)))))
   ·exact .inr hk
   ·exact .inl (.inr (.inl (.inr (.inr hk))))
   ·exact .inl (.inr (.inr hk))
def Bra {e1:TypeId} {r1:Ty} {ys:List r1.den} {mb:List Nat} {k0 o n cap i off:Nat} {m:List Lf} {us:List Value} {z:r1.den} {Gm:Nat→Prop} (hi:i<ys.length)
  (hm:I9 P G w m us mb) (hmn:mb.Nodup) (hz:mkW r1 (Vf.setAll (A6 r1 (ys.getD i r1.dflt)) off m)=some z) (hle:off+m.length≤r1.sz) (hGm:∀ k∈mb,¬ G k):
  ∀ (q:List (Int×Nat)) (e:TypeId) (r:Ty) (xs xs':List r.den) (u:Value) (bs:List Nat),(Ty.ow e r).dep P G w xs [u] bs→bs.Nodup→Gk r=true→(∀ k∈mb,k∉bs)→(∀ k∈bs,¬ G k)→
   G2a q e r xs=some ⟨e1,r1,ys⟩→Oq Gm w q r u (.slice (some ⟨k0,o,none⟩) n cap)→Ioa r1 (ys.set i z) q r xs=some xs'→
  ∃ cur e0,w.heap[k0]? = some (.cells cur e0 (0,0))∧k0∈bs∧o=0∧i*r1.sz+off+us.length≤cur.size∧
   ∃ bs',(Ty.ow e r).dep P G (w.setRow k0 (Vca cur (i*r1.sz+off) us)) xs' [u] bs'∧bs'.Nodup∧∀ k∈bs',k∈bs∨k∈mb
 |[],e,r,xs,xs',u,bs,hd,hn,ha,hdis,hG,hl,hh,hp=>by
  simp only[G2a,Vc]at hl;cases hl;simp only[Ioa]at hp;simp only[dite_true,Vc]at hp;subst hp;exact Iva hd hn ha (Eq.symm hh) hi hm hmn hdis hz hle hG
 |(i',j')::q,e,r,xs,xs',u,bs,hd,hn,ha,hdis,hG,hl,⟨k',o',n',cap',e3',r3',u3,hu,_,hcell,hsl,hh⟩,hp=>by
  simp only[G2a]at hl;split at hl
  ·rename_i hrange;simp only[Ioa]at hp;split at hl
   ·rename_i e3 r3 ws hw;rw[hw]at hp;simp only at hp;have:=Nj hw;rw[hsl]at this;cases this;split at hp
    ·rename_i ws' hws;split at hp
     ·rename_i z' hz';cases hp;obtain⟨v,cs,b2,ev,hs,ho,hrows,eb⟩:=hd;simp only[Yj,and_true]at ev;subst ev;rcases F9 ho with⟨e0,_⟩|⟨k,cap2,cur2,e0,hc,h1,h2,h3,h4⟩
      ·rw[hu]at e0;cases e0
      ·rw[hu]at e0;cases e0
       have hob:u.ownBlock.toList=[k']:=by rw[hu];rfl
       rw[hob]at eb;subst eb
       have hk':k'∉b2:=by
        have:=hn;simp only[Yq,Yr]at this;exact this.1
       have hnb2:b2.Nodup:=by
        have:=hn;simp only[Yq,Yr]at this;exact this.2
       have hcl:cs.length=xs.length*r.sz:=ho.1;have hlt:(i'.toNat+1)*r.sz≤xs.length*r.sz:=Wj _ hrange.2;rw[Zc,Zh]at hlt
       have hjl:j'<r.sz:=by
        rw[Hu]at hw;have:=(Ym.1 hw).1;rwa [Hm]at this
       have hgetx:xs[i'.toNat]? = some (xs.getD i'.toNat r.dflt):=by rw[Vb,Ve hrange.2];rfl
       obtain⟨ba0,b0,bc0,e20,hx0,hset⟩:=Ed.set (Ty.dep_len r) hrows i'.toNat _ hgetx;have hlv:=Ls r _ _ _ ha hx0;obtain⟨ba',bx,bc',e3,g1,g2,g3⟩:=hlv.parts (off:=j') (z:=1) (by rw[Hm];omega)
       have hu3:((cs.drop (i'.toNat*r.sz)).take r.sz)[j']? = some u3:=by
        rw[Wp,if_pos hjl,Yv]
        have hj2:i'.toNat*r.sz+j'<cs.length:=by omega
        have:=Ia hc h4 (i'.toNat*r.sz+j') cs[i'.toNat*r.sz+j'] (Ve hj2);rw[hcell]at this;cases this;exact Ve hj2
       have hone:(List.take 1 (List.drop j' (A6 r (xs.getD i'.toNat r.dflt))))=[.own e3' r3' ws]:=by
        rw[Hu]at hw;obtain⟨hh1,hh2⟩:=Ym.1 hw;rw[Zi hh1,hh2,E5b,Zz]
       have honeu:(List.take 1 (List.drop j' ((cs.drop (i'.toNat*r.sz)).take r.sz)))=[u3]:=by
        obtain⟨hh1,hh2⟩:=Ym.1 hu3;rw[Zi hh1,hh2,E5b,Zz]
       rw[hone,honeu]at g2;obtain⟨u4,us4,bb1,bb2,e5,e6,g4,e7,e8⟩:=g2;simp only[Yj]at e5;obtain⟨e5,e5'⟩:=e5;subst e5;subst e8;rw[Yf]at e6;subst e6;have ha3:Gk r3'=true:=Td ha hsl
       have hsub:∀ k∈bx,k∈k'::b2:=λ k hk=>by rw[e20,e3];simp[hk]
       have hnx:bx.Nodup:=by
        have h0:bx.Sublist b2:=by
         rw[e20,e3];refine Eeb ?_ (Dhb (ba0++(ba'++bx++bc')) bc0);refine Eeb ?_ (Cob ba0 _);refine Eeb ?_ (Dhb (ba'++bx) bc');exact Cob ba' bx
        exact hnb2.sublist h0
       obtain⟨cur,e0,c1,c2,c3,c4,bs3,d1,d2,d3⟩:=Bra hi hm hmn hz hle hGm q e3' r3' ws ws' u3 bx g4 hnx ha3 (λ k hk h=>hdis k hk (hsub k h)) (λ k hk=>hG k (hsub k hk)) hl hh hws;refine⟨cur,e0,c1,hsub k0 c2,c3,c4,?_⟩;generalize hwe:w.setRow k0 (Vca cur (i*r1.sz+off) us)=w' at d1
       have hold:∀ j,j≠k0→w'.heap[j]? = w.heap[j]? := λ j hj=>by rw[← hwe];exact setRow_other _ _ _ _ hj
       have hGh:∀ k,G k→w'.heap[k]? = w.heap[k]? := λ k hk=>hold k (λ e=>hG k0 (hsub k0 c2) (e ▸ hk))
       have hnd:(ba0++(ba'++bx++bc')++bc0).Nodup:=by rw[← e3,← e20];exact hnb2
       have notin:∀ k,k∈ba0∨k∈bc0∨k∈ba'∨k∈bc'→k≠k0:=by
        intro k hk e9;subst e9;simp only[Ya,Vm]at hnd;obtain⟨⟨_,⟨⟨_,_,n3⟩,_,n5⟩,n6⟩,_,n8⟩:=hnd;rcases hk with hk|hk|hk|hk
        ·exact n6 k hk k (.inl (.inr c2)) rfl
        ·exact n8 k (.inr (.inl (.inr c2))) k hk rfl
        ·exact n3 k hk k c2 rfl
        ·exact n5 k (.inr c2) k hk rfl
       have g1':=I9.mono (G':=G) (w':=w') (λ _ h=>h) hGh (λ k hk=>hold k (notin k (.inr (.inr (.inl hk))))) g1;have g3':=I9.mono (G':=G) (w':=w') (λ _ h=>h) hGh (λ k hk=>hold k (notin k (.inr (.inr (.inr hk))))) g3;have hmid:I9 P G w' [.own e3' r3' ws'] [u3] bs3:=⟨u3,[],bs3,[],rfl,by simp,d1,rfl,rfl⟩;have hnew:=(g1'.app hmid).app g3';have hz3:=Y6 ha hz' (by unfold Vf.setAll;exact hnew)
       have hcells:((cs.drop (i'.toNat*r.sz)).take r.sz).take j'++[u3]++((cs.drop (i'.toNat*r.sz)).take r.sz).drop (j'+1)=(cs.drop (i'.toNat*r.sz)).take r.sz:=by
        rw[← honeu,← Yp,Vp,Wh,Wh]
       rw[hcells]at hz3;have hrows2:=hset (λ x c b=>r.dep P G w' x c b) z' _ _ hz3 (λ y c b0 hb hy=>Ty.dep_mono (λ _ h=>h) hGh r y c b0 (λ k hk=>hold k (notin k ((hb k hk).imp id .inl))) hy)
       have hcs:cs.take (i'.toNat*r.sz)++(cs.drop (i'.toNat*r.sz)).take r.sz++cs.drop (i'.toNat*r.sz+r.sz)=cs:=by
        rw[← Yp,Vp,Wh,Wh]
       rw[hcs]at hrows2;have hkk:k'≠k0:=λ e9=>hk' (by rw[e20,e3];have:=c2;rw[e9];simp[this]);refine⟨k'::(ba0++(ba'++bs3++bc')++bc0),⟨u,cs,_,rfl,hs,?_,hrows2,by rw[hob];rfl⟩,?_,?_⟩
       ·rw[Vt];exact Nd ho (λ k hk=>hold k (by rw[hu]at hk;simp only[Value.ownBlock,Vc]at hk;rw[← hk];exact hkk))
       ·have hdis3:∀ k∈bs3,k∈(k'::(ba0++ba'))++bx++(bc'++bc0)→k∈bx:=λ k hk h=>by
         rcases d3 k hk with h9|h9
         ·exact h9
         ·exact absurd (by rw[e20,e3];simpa[Vp] using h) (hdis k h9)
        have hn2:((k'::(ba0++ba'))++bx++(bc'++bc0)).Nodup:=by
         have:=hn;rw[e20,e3]at this
         simpa[Vp] using this
        have:=Eda hn2 d2 hdis3
        simpa[Vp] using this
       ·intro k hk;rw[e20,e3];simp only[Vl,Vm,Vn,Yq]at hk ⊢;rcases hk with hk|(hk|((hk|hk)|hk))|hk
        ·exact .inl (.inl hk)
        ·exact .inl (.inr (.inl (.inl hk)))
        ·exact .inl (.inr (.inl (.inr (.inl (.inl hk)))))
        ·rcases d3 k hk with hk|hk
         ·exact .inl (.inr (.inl (.inr (.inl (.inr hk)))))
         ·exact .inr hk
        ·exact .inl (.inr (.inl (.inr (.inr hk))))
        ·exact .inl (.inr (.inr hk))
     ·cases hp
    ·cases hp
   ·cases hl
  ·cases hl
end
end

end Go.Proofs.YtcpligincipmhaaGreat.Vf
