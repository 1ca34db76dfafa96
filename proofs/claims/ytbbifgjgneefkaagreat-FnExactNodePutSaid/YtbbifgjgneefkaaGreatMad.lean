import Derived.Test.YtbbifgjgneefkaaGreatMac
import Derived.Laws.CopyRow
set_option linter.all false
namespace Go.Proofs.YtbbifgjgneefkaaGreat.Vf
open Go
open List (length getD)
open Int (toNat)
open Go.IntKind (wrap)
open BitVec (ofInt)
def Vd:=@List.mem_cons_of_mem
def Vk:=@List.mem_cons
def Vl:=@List.length_take
def Vm:=@Int.toNat_natCast
def Vp:=@List.length_nil
def Vy:=@List.length_drop
def Wa:=@Nat.mul_le_mul_right
def Wh:=@List.getElem?_eq_some_iff
def Wl:=@List.drop_of_length_le
def Wo:=@List.take_append_drop
def Ye:=@List.getElem?_append_right
def Yg:=@List.getElem?_append_left
def Yi:=@Array.length_toList
def Yj:=@List.drop_eq_getElem_cons
def Zb:=@List.take_of_length_le
def Zc:=@Option.getD_some
def Zf:=@Nat.min_eq_left
def Zg:=@Option.getD_none
def Zk:=@List.mem_of_mem_drop
def Zm:=@List.take_take
def Zn:=@List.map_congr_left
def Ria:=@List.size_toArray
def Rla:=@List.map_map
def Rma:=@List.getElem?_eq_none
def Rua:=@Nat.lt_or_ge
def Rva:=@Nat.le_of_eq
def S1a:=@List.drop_eq_nil_of_le
def S2a:=@List.length_eq_one_iff
def S9a:=@Nat.sub_zero
def Saa:=@List.getElem?_toArray
def Sda:=@List.mem_of_mem_take
def Sea:=@List.take_succ_cons
def Sja:=@Nat.succ_mul
def Sna:=@Int.toNat_zero
def Sza:=@Option.some.inj
def T0a:=@Option.map_some

section
variable {X:Cx} {S:Sit} {a:Act} {E:En} {A:Ab} {o:Oper} {R:Type} {Kc:List Up→Option R} {r:R}
def A5.impAt {P:Program} {S S':Sit} {f f':Nat→Lab}:∀ {j:Nat} {xs:List Lf} {us:List Value},(∀ n,j≤n→n<j+xs.length→∀ x u,Af P S (f n) x u→Af P S' (f' n) x u)→A5 P S f j xs us→A5 P S' f' j xs us
 |_,[],[],_,_=>trivial
 |j,_::xs,_::_,hi,h=>⟨hi j (Vq _) (by simp) _ _ h.1,h.2.impAt (λ n h1 h2=>hi n (by omega) (by simp only[Vg];omega))⟩
 |_,[],_::_,_,h=>h.elim
 |_,_::_,[],_,h=>h.elim
def A5.setAll {P:Program} {S:Sit} {f:Nat→Lab} {l m:List Lf} {us ms:List Value} {off:Nat} (h1:A5 P S f 0 (l.take off) (us.take off)) (h2:A5 P S f off m ms) (h3:A5 P S f (off+m.length) (l.drop (off+m.length)) (us.drop (off+m.length)))
  (hl:off+m.length≤l.length):A5 P S f 0 (setAll l off m) (us.take off++ms++us.drop (off+m.length)):=by
 unfold Vf.setAll
 have e1:(l.take off).length=off:=by rw[Vl];omega
 refine A5.app (A5.app h1 ?_) ?_
 ·rw[e1,Wb];exact h2
 ·rw[Vh,e1,Wb];exact h3
def Eea {P:Program} {w:World} {T:TypeId} {x:Operand} {j:Nat} {t:TI} {off z:Nat} {ag:Bool} (ht:TOk P T t) (ha:t.ag=true) (hf:nth t.fo j=some (off,z,ag)) (ho:o.op = .field T x j) {us:List Value} (he:a.eval x = .agg us.toArray) (hl:off+z≤us.length):
  ∃ u ws,(if ag then u = .agg ws.toArray else (z=1→ws=[u]))∧ws=(us.drop off).take z∧(execOp a.eval o).run P w = .ok (.value u) w:=by
 obtain⟨fs,hu,hfs⟩:=Pj ht ha;obtain⟨fd,h1,h2,h3,h4,h5,d,h6⟩:=Ku hfs hf
 have h1':fs[j]? = some fd:=by simpa using h1
 cases ag with
 |true=>
  refine⟨_,_,rfl,rfl,?_⟩;unfold execOp;simp only[ho,he,Vx];unfold Instr.field;rw[Vx,run_underlying hu];simp only[Vw,h1',asAgg,Vx,Wn,part,Jh h6 h5,Hb h3,if_true];simp[h2,List.extract_eq_take_drop]
 |false=>
  have hlt:off<us.length:=by simp only at h4;omega
  refine⟨us[off],_,?_,rfl,?_⟩
  ·simp only[Wd,if_false];intro hz;subst hz;show List.take 1 _=_;rw[Yj hlt,Sea,Rka]
  ·unfold execOp;simp only[ho,he,Vx];unfold Instr.field;rw[Vx,run_underlying hu];simp only[Vw,h1',asAgg,Vx,Wn,part,Jh h6 h5,Wd,if_false];simp[h2,hlt]
def I6a (hE:Gx X E) (K:Ah X S a) (hg:S.g=get A) {T:TypeId} {t j d:Nat} (ho:o.op = .field T (.tmp t) j) (hod:o.dst=some d) (hd:d<X.nt) (h:Ai E o A Kc=some r):Fw X o a S.w A Kc r:=by
 unfold Ai at h;rw[ho,hod]at h;simp only at h;split at h
 ·rename_i ti l hti hgt;split at h
  ·rename_i off z ag hf;split at h
   ·rename_i s hs;obtain⟨hq,h⟩:=cs h;simp only[Va]at hq;obtain⟨⟨ha,hb⟩,hle⟩:=hq;have hle:off+z≤l.length:=Ve hle;have ht:t<X.nt:=hE.nt ▸ (Ve hb:t+1≤E.nt);have he:a.eval (.tmp t)=S.ph t:=K.sl t ht
    have hok:Gi X.P S t (.agg l) (S.ph t):=by have:=K.at_ t;rwa [hg,hgt]at this
    obtain⟨us,e1,hls⟩:=hok;have hlen:=hls.len;obtain⟨u,ws,e2,e3,hrun⟩:=Eea (w:=S.w) (hE.ti _ _ hti) ha hf ho (he.trans e1) (by omega)
    have e4:if ag then u = .agg ws.toArray else ws=[u]:=by
     cases ag
     case true=>exact e2
     simp only[Wd,if_false]at e2 ⊢;unfold I0 at hs;simp only[cond_false]at hs;split at hs
     ·rename_i x hx
      have:((l.drop off).take z).length=1:=by rw[hx];rfl
      rw[Vl,Vy]at this;exact e2 (by omega)
     ·cases hs
    have hpart:A5 X.P S (λ n => .pl t [n]) off ((l.drop off).take z) ws:=by
     have:=(hls.drop off).take z;rw[Wb,← e3]at this;exact this
    cases hown:Db ((l.drop off).take z) with
    |false=>
     rw[hown,cond_false]at h
     have hso:Gi X.P S d s u:=J0 hs e4 (A5.shift (j:=0) (f:=λ n => .pl d (if ag then [n-off] else [])) off (by
      rw[Wb];exact hpart.relab hown) |>.imp (λ n x u hx=>by simpa using hx))
     have K2:=K.put0 hd s u d (by rw[Lw hs,hown]) hso;refine⟨_,h,Ac (S:=Hq S (λ _ _=>none) d s u) hrun (by rw[hod];exact K2) ?_⟩;show upd S.g d _=_;rw[A8,← hg]
    |true=>
     rw[hown,cond_true]at h
     let f:List Nat→Option (List Nat):=λ p=>match p with
      |[n]=>if off≤n∧n<off+z then some [n-off] else none
      |_=>none
     let s0:Sv := .agg (Vf.setAll l off (List.replicate z .dead))
     have L1:=Iz S t 0 f s0
     have hst:∀ n,¬ (off≤n∧n<off+z)→∀ x u,Af X.P S (.pl t [n]) x u→Af X.P (N6 S t 0 f s0) (.pl t [n]) x u:=λ n hn x u hx=>
      hx.later L1 (λ k hk=>⟨Ada hk (by simp only[f];rw[if_neg hn]),rfl⟩)
     obtain⟨K1,h1,_⟩:=S6 K t 0 f s0 (by simp[s0]) ⟨us,e1,by
      have hz:(List.replicate z Lf.dead).length=z:=by simp
      have hws:ws.length=z:=by rw[e3,Vl,Vy];omega
      have:=A5.setAll (P:=X.P) (S:=N6 S t 0 f s0) (f:=λ n => .pl t [n]) (l:=l) (us:=us) (m:=List.replicate z .dead) (ms:=ws) (off:=off)
       ((hls.take off).impAt (λ n _ h2=>hst n (by rw[Vl]at h2;omega)))
       (by rw[← hws];exact A5.deads ws) (by
        rw[hz];refine A5.impAt (λ n h1 _=>hst n (by omega)) ?_;have:=hls.drop (off+z)
        rwa [Wb]at this) (by rw[hz];exact hle)
      rw[hz,e3,← Wp,Vj,Wo,Wo]at this
      exact this⟩
     have L2:=Dy (N6 S t 0 f s0) (Nd d ag) d (K.lt0 hd) s u
     have hl2:A5 X.P (Hq (N6 S t 0 f s0) (Nd d ag) d s u) (λ n => .pl d (if ag then [n] else [])) 0 ((l.drop off).take z) ws:=by
      have h5:A5 X.P (Hq (N6 S t 0 f s0) (Nd d ag) d s u) (λ n => .pl d (if ag then [n-off] else [])) off ((l.drop off).take z) ws:=by
       refine A5.impAt (λ n n1 n2 x u hx=>?_) hpart
       have n3:n<off+z:=by rw[Vl]at n2;omega
       exact(h1 [n] [n-off] x u (by simp[f,n1,n3]) hx).later L2 (λ k hk=>⟨G6 hk (by simp[Nd]),rfl⟩)
      have:=A5.shift (j:=0) off (by rw[Wb];exact h5);exact this.imp (λ n x u hx=>by simpa using hx)
     have K2:=K1.put hd (Nd d ag) (Aea d ag) s u (J0 hs e4 hl2);refine⟨_,h,Ac (S:=Hq (N6 S t 0 f s0) (Nd d ag) d s u) hrun (by rw[hod];exact K2) ?_⟩;show upd (N6 S t 0 f s0).g d _=_;rw[show ∀ u1 u2,ups A [u1,u2]=ups (ups A [u1]) [u2] from λ _ _=>rfl,A8,A8,← hg];rfl
   ·cases h
  ·cases h
 ·cases h
def Kw (hE:Gx X E) (K:Ah X S a) (hg:S.g=get A) {x:Option Operand} {n:Option Int} (h:Rw E A x=some n):x.map a.eval=n.map (Value.int .i64):=by
 unfold Rw at h;split at h
 ·cases h;rfl
 ·rename_i x;split at h
  ·rename_i n hn;cases h;simp[(Io hE K hg hn).1]
  ·cases h
def Kf {lo hi:Option Int} {n:Nat} {Kb:Unit→Option R} (h:Wy lo hi n Kb=some r):Kb ()=some r∧0≤lo.getD 0∧lo.getD 0≤hi.getD n∧hi.getD n≤n:=by
 unfold Wy at h;split at h
 ·exact⟨h,by simp⟩
 ·rename_i l
  by_cases h1:0≤l
  ·by_cases h2:l≤(n:Int)
   ·simp only[h1,h2,decide_true,cond_true]at h;exact⟨h,by simpa using ⟨h1,h2⟩⟩
   ·simp[h1,h2]at h
  ·simp[h1]at h
 ·rename_i l
  by_cases h1:0≤l
  ·by_cases h2:l≤(n:Int)
   ·simp only[h1,h2,decide_true,cond_true]at h;exact⟨h,by simpa using ⟨h1,h2⟩⟩
   ·simp[h1,h2]at h
  ·simp[h1]at h
 ·rename_i l l2
  by_cases h1:0≤l
  ·by_cases h2:l≤l2
   ·by_cases h3:l2≤(n:Int)
    ·simp only[h1,h2,h3,decide_true,cond_true]at h;exact⟨h,by simpa using ⟨h1,h2,h3⟩⟩
    ·simp[h1,h2,h3]at h
   ·simp[h1,h2]at h
  ·simp[h1]at h
def R4 {P:Program} {w:World} (sl:Bool) {n cap:Nat} {lo hi:Option Int} (hc:n≤cap) (h0:0≤lo.getD 0) (h1:lo.getD 0≤hi.getD n) (h2:hi.getD n≤n):
  (Instr.sliceBounds sl n cap (lo.map (Value.int .i64)) (hi.map (Value.int .i64)) none).run P w = .ok ((lo.getD 0).toNat,(hi.getD n).toNat,cap) w:=by
 cases lo with
 |none=>
  cases hi with
  |none=>simp[Instr.sliceBounds]
  |some b=>
   simp only[Zc,Zg]at h0 h1 h2;simp[Instr.sliceBounds,run_sliceBound,(by omega:0≤b),(by omega:b≤(cap:Int))]
 |some l=>
  cases hi with
  |none=>
   simp only[Zc,Zg]at h0 h1 h2;simp[Instr.sliceBounds,run_sliceBound,h0,h1]
  |some b=>
   simp only[Zc]at h0 h1 h2;have eb:(b.toNat:Int)=b:=Int.toNat_of_nonneg (by omega);simp[Instr.sliceBounds,run_sliceBound,(by omega:0≤b),(by omega:b≤(cap:Int)),h0,eb,h1]
def S8 {α:Type} {xs:List α} {lo hi:Option Int} (h2:hi.getD xs.length≤xs.length):X9 xs lo hi=(xs.take (hi.getD xs.length).toNat).drop (lo.getD 0).toNat:=by
 unfold X9
 cases lo<;>cases hi<;>simp
def S9 {P:Program} {w:World} {T:TypeId} {x:Operand} {lo hi:Option Operand} {s:ByteArray} {l h:Option Int} (hu:P.underlying T=some .string) (ho:o.op = .slice T x lo hi none) (he:a.eval x = .string s)
  (hl:lo.map a.eval=l.map (Value.int .i64)) (hh:hi.map a.eval=h.map (Value.int .i64)) (h0:0≤l.getD 0) (h1:l.getD 0≤h.getD s.size) (h2:h.getD s.size≤s.size):
  (execOp a.eval o).run P w = .ok (.value (.string (s.extract (l.getD 0).toNat (h.getD s.size).toNat))) w:=by
 have hb:=R4 (P:=P) (w:=w) false (Vq s.size) h0 h1 h2;unfold execOp;simp only[ho,he,hl,hh,Option.map_none,Vx];unfold Instr.sliceAt;rw[Vx,run_underlying hu];simp only[Vw];unfold Instr.slice;rw[Vx,run_underlying hu];simp[hb]
def Gy {P:Program} {w:World} {T e:TypeId} {sz:Nat} {x:Operand} {lo hi:Option Operand} {ad:Option Addr} {n cap:Nat} {l h:Option Int} (hu:P.underlying T=some (.slice e)) (hs:Pd P e sz) (ho:o.op = .slice T x lo hi none) (he:a.eval x = .slice ad n cap)
  (hl:lo.map a.eval=l.map (Value.int .i64)) (hh:hi.map a.eval=h.map (Value.int .i64)) (hc:n≤cap) (h0:0≤l.getD 0) (h1:l.getD 0≤h.getD n) (h2:h.getD n≤n):
  (execOp a.eval o).run P w = .ok (.value (.slice (if cap=(l.getD 0).toNat then ad else ad.map (·.add ((l.getD 0).toNat*sz))) ((h.getD n).toNat-(l.getD 0).toNat) (cap-(l.getD 0).toNat))) w:=by
 have hb:=R4 (P:=P) (w:=w) true hc h0 h1 h2;unfold execOp;simp only[ho,he,hl,hh,Option.map_none,Vx];unfold Instr.sliceAt;rw[Vx,run_underlying hu];simp only[Vw];unfold Instr.slice;rw[Vx,run_underlying hu];simp only[Vw,Vx,hb,Hb hs,Wn]
def Je.cut {α:Type} {G:Nat→Prop} {w:World} {R':α→List Value→Prop} {sz:Nat} (hn:∀ x c,R' x c→c.length=sz) {xs:List α} {ad:Option Addr} {n cap l h:Nat} (hr:Je G w R' xs (.slice ad n cap)) (h1:l≤h) (h2:h≤n):
  n=xs.length∧n≤cap∧Je G w R' ((xs.take h).drop l) (.slice (if cap=l then ad else ad.map (·.add (l*sz))) (h-l) (cap-l)):=by
 obtain⟨ad',cap',cs,e,hc,hrow,hne⟩:=hr;cases e;refine⟨rfl,hc,if cap=l then ad else ad.map (·.add (l*sz)),cap-l,(cs.take (h*sz)).drop (l*sz),?_,?_,(hrow.take hn h).drop hn l,λ hx=>?_⟩
 ·rw[Vy,Vl,Zf h2]
 ·rw[Vy,Vl];omega
 ·have hlh:l<h:=by
   rcases Rua l h with hlt|hge
   ·exact hlt
   ·exact absurd (S1a (by rw[Vl];omega)) hx
  obtain⟨k,o',rfl,hk,hcs⟩:=hne (by intro e;subst e;simp at h2;omega);refine⟨k,o'+l*sz,?_,hk,λ j u hu=>?_⟩
  ·rw[if_neg (by omega)];simp[Hx]
  ·rw[Ya,Wg]at hu;split at hu
   ·rw[Ys];exact hcs _ _ hu
   ·cases hu
def Cs.take {P:Program} {O:Nat→Lab} {w:World} {lab:Lab} {e:TypeId} {r':Ty} {xs:List r'.den} {u:Value} (h:Cs P O w lab e r' xs u) (n:Nat) (hn:n≤xs.length):
  ∃ ad cap,u = .slice ad xs.length cap∧xs.length≤cap∧(∀ k,ad=some k→k.spot=none)∧Cs P O w lab e r' (xs.take n) (.slice ad n cap):=by
 obtain⟨bs,⟨v,cs,b2,ev,hs,ho,hd,eb⟩,hnd,hk⟩:=h;simp only[Wq,and_true]at ev;subst ev
 have hlen:(xs.take n).length=n:=by rw[Vl];omega
 rcases Da ho with⟨rfl,hm,rfl⟩|⟨k,cap,cur,rfl,hg,h1,h2,h3,h4⟩
 ·have hx:xs=[]:=Xs hm;subst hx
  have:n=0:=by simpa using hn
  subst this;exact⟨none,0,rfl,by simp,by simp,[],⟨_,[],[],rfl,hs,World.ownsRow_nil _ _ _ _,by simp[C0],rfl⟩,by simp,by simp⟩
 ·obtain⟨b',h5,h6⟩:=hd.take (Ty.dep_len r') n;have e1:(Value.slice (some ⟨k,0,none⟩) n cap).ownBlock.toList++b'=k::b':=rfl;have e2:(Value.slice (some ⟨k,0,none⟩) xs.length cap).ownBlock.toList++b2=k::b2:=rfl;rw[e2]at eb;subst eb;have hsub:(k::b').Sublist (k::b2):=h6.cons_cons k;refine⟨_,cap,rfl,h1,by simp,k::b',⟨_,cs.take (n*r'.sz),b',rfl,hs,⟨?_,.inr ⟨k,cap,cur,by rw[hlen],Wf _,hg,by omega,h2,h3,?_⟩⟩,h5,rfl⟩,hnd.sublist hsub,λ j hj=>hk j (hsub.subset hj)⟩
  ·rw[Vl,ho.1,hlen];have:=Wa r'.sz hn;omega
  ·rw[hlen,← h4,Zm];congr 1;have:=Wa r'.sz hn;omega
def Xe.cut {P:Program} {S:Sit} {p:Nat} {e:TypeId} {r':Ty} {xs:List r'.den} {ad:Option Addr} {n cap l h:Nat} (hb:Xe P S p e r' xs (.slice ad n cap)) (h1:l≤h) (h2:h≤n):
  n=xs.length∧n≤cap∧Xe P S p e r' ((xs.take h).drop l) (.slice (if cap=l then ad else ad.map (·.add (l*r'.sz))) (h-l) (cap-l)):=by
 obtain⟨hs,ad',cap',cs,bs,e1,hc,hrow,hm,hne⟩:=hb;cases e1;obtain⟨b1,d1,d2⟩:=hrow.take (Ty.dep_len r') h;obtain⟨b2,d3,d4⟩:=d1.drop (Ty.dep_len r') l;refine⟨rfl,hc,hs,if cap=l then ad else ad.map (·.add (l*r'.sz)),cap-l,(cs.take (h*r'.sz)).drop (l*r'.sz),b2,?_,?_,d3,λ k hk=>hm k ((d4.trans d2).subset hk),λ hx=>?_⟩
 ·rw[Vy,Vl,Zf h2]
 ·rw[Vy,Vl];omega
 ·have hlh:l<h:=by
   rcases Rua l h with hlt|hge
   ·exact hlt
   ·exact absurd (S1a (by rw[Vl];omega)) hx
  obtain⟨k,o',rfl,hk,hcs⟩:=hne (by intro e;subst e;simp at h2;omega);refine⟨k,o'+l*r'.sz,?_,hk,λ j u hu=>?_⟩
  ·rw[if_neg (by omega)];simp[Hx]
  ·rw[Ya,Wg]at hu;split at hu
   ·rw[Ys];exact hcs _ _ hu
   ·cases hu
def Oq (hE:Gx X E) (K:Ah X S a) (hg:S.g=get A) {T e:TypeId} {r':Ty} {xs:List r'.den} {x:Operand} {lo hi:Option Operand} {l h:Option Int} {d:Nat} {u:Value} {w:World}
  (he:a.eval x=u) (hw:S.w=w) (ho:o.op = .slice T x lo hi none) (hod:o.dst=some d) (hd:d<X.nt) (hel:Lj E T e=true) (hl:lo.map a.eval=l.map (Value.int .i64)) (hh:hi.map a.eval=h.map (Value.int .i64))
  (h0:0≤l.getD 0) (h1:l.getD 0≤h.getD xs.length) (h2:h.getD xs.length≤xs.length) (hf:∃ lab,Af X.P S lab (.fz e r' xs) u):E7a X o a w (ups A [⟨d,false,.one (.fz e r' (X9 xs l h))⟩]):=by
 subst hw;obtain⟨lab,v,e1,hsz,hsl⟩:=hf;cases e1;obtain⟨ad,cap,cs,e2,_⟩:=id hsl;rw[e2]at hsl;obtain⟨_,hc,hcut⟩:=Je.cut (Ty.rep_len r') (l:=(l.getD 0).toNat) (h:=(h.getD xs.length).toNat) hsl (by omega) (by omega);rw[← S8 h2]at hcut;have hrun:=Gy (w:=S.w) (Gd hel hE.ti) hsz ho (he.trans e2) hl hh hc h0 h1 h2;have hsv:Gi X.P S 0 (.one (.fz e r' (X9 xs l h))) _:=⟨_,rfl,hsz,hcut⟩;have K2:=K.put0 hd _ _ 0 rfl hsv;refine Ac (S:=Hq S (λ _ _=>none) d _ _) hrun (by rw[hod];exact K2) ?_;show upd S.g d _=_;rw[A8,← hg]
def Kx {y:Lf} {e:TypeId} {r':Ty} {xs:List r'.den} (hsn:H9 A y = .own e r' xs) (hne:∀ e r (xs:List r.den),y = .own e r xs→False):∃ p v,y = .al p v∧get A p=(v,.one (.own e r' xs)):=by
 cases y<;>first|(simp only[H9]at hsn;cases hsn;done)|skip
 ·simp only[H9]at hsn;exact(hne _ _ _ rfl).elim
 ·rename_i p v;simp only[H9]at hsn;split at hsn
  ·rename_i n e' r'' xs' hp;cases hb:Nat.beq n v
   ·rw[hb]at hsn;simp at hsn
   rw[hb,cond_true]at hsn
   have:n=v:=by simpa using hb
   subst this;refine⟨p,n,rfl,?_⟩;rw[hp,hsn]
  ·rename_i n e' r'' xs' hp
   cases hb:Nat.beq n v<;>rw[hb]at hsn<;>simp at hsn
  ·cases hsn
def Aga (hE:Gx X E) (K:Ah X S a) (hg:S.g=get A) {T e:TypeId} {x:Operand} {lo hi:Option Operand} {d p v:Nat} {pi:Option (List (Int×Nat))} {r':Ty} {xs:List r'.den} {l u:Option Int} (ho:o.op = .slice T x lo hi none) (hod:o.dst=some d) (hd:d<X.nt) (hq:Lj E T e=true)
  (hda:Dka X.P S p v pi e r' xs (a.eval x)) (hv:(S.g p).1=v) (hl:lo.map a.eval=l.map (Value.int .i64)) (hu:hi.map a.eval=u.map (Value.int .i64)) (h0:0≤l.getD 0) (h1:l.getD 0≤u.getD xs.length) (h2:u.getD xs.length≤xs.length):
  E7a X o a S.w (ups A [⟨d,false,.one (.da p v none e r' (X9 xs l u))⟩]):=by
 obtain⟨d1,d2,d3⟩:=hda;obtain⟨d4,d5,_⟩:=d3 hv;obtain⟨hs,ad,cap,cs,bs,e1,hc,rest⟩:=id d5;rw[e1]at d5;have hrun:=Gy (w:=S.w) (Gd hq hE.ti) hs ho e1 hl hu hc h0 h1 h2;obtain⟨_,_,hcut⟩:=d5.cut (l:=(l.getD 0).toNat) (h:=(u.getD xs.length).toNat) (by omega) (by omega)
 have hsv:Gi X.P S 0 (.one (.da p v none e r' (X9 xs l u))) (.slice (if cap=(l.getD 0).toNat then ad else ad.map (·.add ((l.getD 0).toNat*r'.sz))) ((u.getD xs.length).toNat-(l.getD 0).toNat) (cap-(l.getD 0).toNat)):=by
  refine⟨d1,d2,λ _=>⟨d4,?_,λ q hq=>by cases hq⟩⟩;rw[S8 h2];exact hcut
 have K2:=K.put0 hd _ _ 0 rfl hsv;refine Ac (S:=Hq S (λ _ _=>none) d _ _) hrun (by rw[hod];exact K2) ?_;show upd S.g d _=_;rw[A8,← hg]
def C0.halves {α:Type} {R:α→List Value→List Nat→Prop} {n:Nat} (hn:∀ x c b,R x c b→c.length=n):∀ {xs:List α} {cs:List Value} {bs:List Nat} (_:C0 R xs cs bs) (k:Nat),∃ b1 b2,bs=b1++b2∧C0 R (xs.take k) (cs.take (k*n)) b1∧C0 R (xs.drop k) (cs.drop (k*n)) b2
 |[],cs,bs,h,k=>by
  obtain⟨rfl,rfl⟩:=h;exact⟨[],[],rfl,by simp[C0],by simp[C0]⟩
 |x::xs,cs,bs,h,0=>⟨[],bs,rfl,by simp[C0],by simpa using h⟩
 |x::xs,cs,bs,⟨c,d,b,b',e1,e2,h1,h2⟩,k+1=>by
  subst e1 e2;obtain⟨b1,b2,rfl,h3,h4⟩:=C0.halves hn h2 k;have hl:=hn _ _ _ h1
  have e3:(c++d).take ((k+1)*n)=c++d.take (k*n):=by
   rw[List.take_append,Zb (by rw[hl,Sja];omega),hl,show (k+1)*n-n=k*n by rw[Sja];omega]
  have e4:(c++d).drop ((k+1)*n)=d.drop (k*n):=by
   rw[List.drop_append,Wl (by rw[hl,Sja];omega),hl,show (k+1)*n-n=k*n by rw[Sja];omega,Wc]
  refine⟨b++b1,b2,by rw[Vj],⟨c,_,b,b1,e3,rfl,h1,h3⟩,?_⟩;rw[e4];exact h4
def Efa (hE:Gx X E) (K:Ah X S a) (hg:S.g=get A) {T:TypeId} {x:Operand} {lo hi:Option Operand} {d:Nat} (ho:o.op = .slice T x lo hi none) (hod:o.dst=some d) (hd:d<X.nt) {q:Bool×List Up} (h:Qx E A T x lo hi d=some q) (hq:q.1=true):E7a X o a S.w (ups A q.2):=by
 unfold Qx at h;split at h
 ·rename_i q0 v1 v2 hs;obtain⟨pl,hsv⟩:=Fc hE K hg hs;obtain⟨_,_,ad0,n0,cap0,hev,hcap0,hp1,hp2⟩:Af X.P S (.pl pl []) (.two q0 v1 v2) (a.eval x):=hsv
  let hf:Nat→List Nat→Option Lab:=λ n q=>if n=0 then some (.pl d q) else none
  have hfok:∀ n q p,hf n q=some p→∃ p',p = .pl d p':=by intro n q p hp;simp only[hf]at hp;split at hp<;>first|(cases hp;exact⟨q,rfl⟩)|cases hp
  cases lo with
  |none=>
   cases hi with
   |none=>cases h
   |some y=>
    simp only at h;split at h
    ·rename_i n e r' ys m h0 hp hu
     replace hu:=Kw hE K hg hu
     have hh:=cs h;clear h;obtain⟨hc1,h⟩:=hh;have hqe:=Sza h;subst hqe;simp only[decide_eq_true_eq]at hq;simp only[Va]at hc1;obtain⟨⟨q1,q2⟩,q3⟩:=hc1;have hnv:n=v1:=Vb q1;have hm:m=0:=Vb q3;subst hnv hm
     have hpg:S.g q0=(n,.one (.par e r' ys 0)):=by rw[hg,hp]
     obtain⟨k,hk,hph⟩:=hp1 (by rw[hpg]);obtain⟨K1,g1,_⟩:=Im K q0 0
     have hok:Af X.P S (.pl q0 []) (.par e r' ys 0) (S.ph q0):=by have:=K.at_ q0;rwa [hpg]at this
     have hpar:=g1 [] (.par e r' ys 0) _ hok;obtain⟨hsz,ad,cap,cs,bs,⟨e1,hcap⟩,_⟩:Qq X.P (Hz S q0 0).O (Hz S q0 0).w (.tm 0 []) e r' ys 0 (S.ph q0):=id hpar;rw[hph]at e1;simp only[Value.slice.injEq]at e1;obtain⟨rfl,hky,rfl⟩:=e1;have hrun:=Gy (w:=S.w) (Gd q2 hE.ti) hsz ho hev (l:=none) (h:=some h0) rfl hu hcap0 (by simp) (by simp;omega) (by simp;omega)
     have hval:(if cap0=((none:Option Int).getD 0).toNat then ad0 else ad0.map (·.add (((none:Option Int).getD 0).toNat*r'.sz)))=ad0:=by
      split
      ·rfl
      ·cases ad0<;>simp[Addr.add]
     rw[hval]at hrun;simp only[Zg,Zc,Sna,S9a]at hrun;rw[hq,Vm,← hky,← hph]at hrun;have L2:=Dy (Hz S q0 0) hf d (K.lt0 hd) (.one (.par e r' ys 0)) (S.ph q0)
     have hso:Gi X.P (Hq (Hz S q0 0) hf d (.one (.par e r' ys 0)) (S.ph q0)) d (.one (.par e r' ys 0)) (S.ph q0):=
      Af.later (P:=X.P) (S:=Hz S q0 0) (x := .par e r' ys 0) (lab := .tm 0 []) (lab' := .pl d []) L2 hpar (λ k hk=>⟨G6 hk (by simp[hf]),rfl⟩)
     have K2:=K1.put hd hf hfok _ _ hso;refine Ac (S:=Hq (Hz S q0 0) hf d _ _) hrun (by rw[hod];exact K2) ?_;show upd (upd S.g q0 _) d _=_;rw[show ∀ u1 u2,ups A [u1,u2]=ups (ups A [u1]) [u2] from λ _ _=>rfl,A8,A8,← hg];rfl
    ·cases h
  |some y=>
   cases hi with
   |some _=>cases h
   |none=>
    simp only at h;split at h
    ·rename_i n e r' xs m l0 hp hl
     replace hl:=Kw hE K hg hl
     have hh:=cs h;clear h;obtain⟨hc1,h⟩:=hh;have hqe:=Sza h;subst hqe;simp only[Va,decide_eq_true_eq]at hq hc1;obtain⟨⟨h0,h2⟩,h3⟩:=hq;obtain⟨q1,q2⟩:=hc1;have h3:m≤l0.toNat:=Ve h3;have hnv:n=v2:=Vb q1;subst hnv
     have hpg:S.g (q0+1)=(n,.one (.par e r' xs m)):=by rw[hg,hp]
     have he:S.ph (q0+1)=a.eval x:=hp2 (by rw[hpg]);obtain⟨K1,g1,_⟩:=Im K (q0+1) 0
     have hok:Af X.P S (.pl (q0+1) []) (.par e r' xs m) (S.ph (q0+1)):=by have:=K.at_ (q0+1);rwa [hpg]at this
     obtain⟨hsz,ad,cap,cs,bs,⟨e1,hcap⟩,hclen,hd2,hnd,hk,hne⟩:Qq X.P (Hz S (q0+1) 0).O (Hz S (q0+1) 0).w (.tm 0 []) e r' xs m (a.eval x):=by rw[← he];exact g1 [] (.par e r' xs m) _ hok
     obtain⟨b',hd3,hsub⟩:=hd2.drop (Ty.dep_len r') (l0.toNat-m);rw[Wp,Wp,show m+(l0.toNat-m)=l0.toNat by omega,show m*r'.sz+(l0.toNat-m)*r'.sz=l0.toNat*r'.sz by rw[← Yh,show m+(l0.toNat-m)=l0.toNat by omega]]at hd3;have hrun:=Gy (w:=S.w) (Gd q2 hE.ti) hsz ho e1 (l:=some l0) (h:=none) hl rfl hcap (by simpa using h0) (by simpa using h2) (by simp);simp only[Zg,Zc,Vm]at hrun
     have hpar:Qq X.P (Hz S (q0+1) 0).O (Hz S (q0+1) 0).w (.tm 0 []) e r' (xs.drop l0.toNat) 0 (.slice (if cap=l0.toNat then ad else ad.map (·.add (l0.toNat*r'.sz))) (xs.length-l0.toNat) (cap-l0.toNat)):=by
      refine⟨hsz,_,_,cs.drop (l0.toNat*r'.sz),b',⟨by rw[Vy],by rw[Vy];omega⟩,?_,?_,hnd.sublist hsub,λ k hkk=>hk k (hsub.subset hkk),λ hn=>?_⟩
      ·rw[Vy,Vy,hclen,Nat.sub_mul]
      ·rw[We,Zh,We];exact hd3
      ·rw[Vy]at hn;obtain⟨k,o',rfl,hk2,hcs⟩:=hne (by omega);refine⟨k,o'+l0.toNat*r'.sz,?_,hk2,λ j u hu=>?_⟩
       ·rw[if_neg (by omega)];simp[Hx]
       ·rw[Ya]at hu;rw[Ys];exact hcs _ _ hu
     have L2:=Dy (Hz S (q0+1) 0) hf d (K.lt0 hd) (.one (.par e r' (xs.drop l0.toNat) 0)) (.slice (if cap=l0.toNat then ad else ad.map (·.add (l0.toNat*r'.sz))) (xs.length-l0.toNat) (cap-l0.toNat))
     have hso:Gi X.P (Hq (Hz S (q0+1) 0) hf d (.one (.par e r' (xs.drop l0.toNat) 0)) (.slice (if cap=l0.toNat then ad else ad.map (·.add (l0.toNat*r'.sz))) (xs.length-l0.toNat) (cap-l0.toNat))) d (.one (.par e r' (xs.drop l0.toNat) 0)) _:=
      Af.later (P:=X.P) (S:=Hz S (q0+1) 0) (x := .par e r' (xs.drop l0.toNat) 0) (lab := .tm 0 []) (lab' := .pl d []) L2 hpar (λ k hk=>⟨G6 hk (by simp[hf]),rfl⟩)
     have K2:=K1.put hd hf hfok _ _ hso;refine Ac (S:=Hq (Hz S (q0+1) 0) hf d _ _) hrun (by rw[hod];exact K2) ?_;show upd (upd S.g (q0+1) _) d _=_;rw[show ∀ u1 u2,ups A [u1,u2]=ups (ups A [u1]) [u2] from λ _ _=>rfl,A8,A8,← hg];rfl
    ·cases h
 ·cases h
def I7a (hE:Gx X E) (K:Ah X S a) (hg:S.g=get A) {T:TypeId} {x:Operand} {lo hi:Option Operand} {d:Nat} (ho:o.op = .slice T x lo hi none) (hod:o.dst=some d) (hd:d<X.nt) (h:Ai E o A Kc=some r):Fw X o a S.w A Kc r:=by
 unfold Ai at h;rw[ho,hod]at h;simp only at h;split at h
 ·rename_i q hpc;obtain⟨hq,h⟩:=cs h;exact⟨_,h,Efa hE K hg ho hod hd hpc hq⟩
 split at h
 ·rename_i s l u hs hl hu;obtain⟨hq,h⟩:=cs h;obtain⟨hk,h0,h1,h2⟩:=Kf h;have e1:=(Io hE K hg hs).1;have hr:=S9 (P:=X.P) (w:=S.w) (Oo hq hE.ti) ho e1 (Kw hE K hg hl) (Kw hE K hg hu) h0 h1 h2;refine K5 K hg hod hd rfl hr ?_;rw[← hk]
  cases l<;>cases u<;>simp
 ·rename_i y l u hy hs hl hu;have hl:=Kw hE K hg hl;have hu:=Kw hE K hg hu;obtain⟨pl,hsv⟩:=Fc hE K hg hs;have hlf:Af X.P S (.pl pl []) y (a.eval x):=hsv;split at h
  ·rename_i e r' xs e0 r0 xs0 hsn;have this:Lf.own e r' xs=Lf.own e0 r0 xs0:=hsn
   injection this with i1 i2 i3
   subst i1 i2;cases i3;obtain⟨hq,h⟩:=cs h;have hown:Cs X.P S.O S.w (.pl pl []) e r' xs (a.eval x):=hlf;split at h
   ·-- from its beginning
    obtain⟨hk,h0,h1,h2⟩:=Kf h;refine⟨_,hk,?_⟩
    have hcut:X9 xs none u=xs.take (u.getD xs.length).toNat:=by rw[S8 h2];simp
    rw[hcut];simp only[Zg]at h0 h1;rcases I5 hE K hg hs with⟨t,rfl,ht,hst,het,hok⟩|⟨hnt,y',ey,hy'⟩
    ·obtain⟨K1,g1,_⟩:=Im K t 0;have hown1:Cs X.P (Hz S t 0).O (Hz S t 0).w (.tm 0 []) e r' xs (a.eval (.tmp t)):=g1 [] (.own e r' xs) _ hok;obtain⟨ad,cap,e1,hc,hspot,hown2⟩:=hown1.take (u.getD xs.length).toNat (by omega);have hrun:=Gy (w:=S.w) (Gd hq hE.ti) hown.top.1 ho e1 hl hu hc (by simp) (by simpa using h1) h2
     have hval:(if cap=((none:Option Int).getD 0).toNat then ad else ad.map (·.add (((none:Option Int).getD 0).toNat*r'.sz)))=ad:=by
      split
      ·rfl
      ·cases ad<;>simp[Addr.add]
     rw[hval]at hrun;simp only[Zg,Sna,S9a]at hrun
     let hf:Nat→List Nat→Option Lab:=λ n q=>if n=0 then some (.pl d q) else none
     have L:=Dy (Hz S t 0) hf d (K.lt0 hd) (.one (.own e r' (xs.take (u.getD xs.length).toNat))) (.slice ad (u.getD xs.length).toNat cap)
     have hso:Gi X.P (Hq (Hz S t 0) hf d (.one (.own e r' (xs.take (u.getD xs.length).toNat))) (.slice ad (u.getD xs.length).toNat cap)) d (.one (.own e r' (xs.take (u.getD xs.length).toNat))) (.slice ad (u.getD xs.length).toNat cap):=
      Af.later (P:=X.P) (x := .own e r' (xs.take (u.getD xs.length).toNat)) (lab := .tm 0 []) (lab' := .pl d []) L hown2 (λ k hk=>⟨G6 hk (by simp[hf]),rfl⟩)
     have K2:=K1.put hd hf (by intro n q p hp;simp only[hf]at hp;split at hp<;>first|(cases hp;exact⟨q,rfl⟩)|cases hp) _ _ hso
     refine Ac (S:=Hq (Hz S t 0) hf d _ _) hrun (by rw[hod];exact K2) ?_;show upd (Hz S t 0).g d _=_;rw[show gone (.tmp t) (.one (.own e r' xs))=[⟨t,false,.one .dead⟩] from rfl,Yb,show ∀ u1 u2,ups A [u1,u2]=ups (ups A [u1]) [u2] from λ _ _=>rfl,A8,A8,← hg];rfl
    ·cases ey
     have hgo:gone x (.one (.own e r' xs))=[]:=by
      unfold gone;split
      ·exact absurd rfl (hnt _)
      ·rfl
     rw[hgo,Wc];obtain⟨ad,cap,e1,hc,hspot,hown2⟩:=Cs.take (hy' (.pl d [])) (u.getD xs.length).toNat (by omega);have hrun:=Gy (w:=S.w) (Gd hq hE.ti) hown.top.1 ho e1 hl hu hc (by simp) (by simpa using h1) h2
     have hval:(if cap=((none:Option Int).getD 0).toNat then ad else ad.map (·.add (((none:Option Int).getD 0).toNat*r'.sz)))=ad:=by
      split
      ·rfl
      ·cases ad<;>simp[Addr.add]
     rw[hval]at hrun;simp only[Zg,Sna,S9a]at hrun
     have hso:Gi X.P (Hq S (λ _ _=>none) d (.one (.own e r' (xs.take (u.getD xs.length).toNat))) (.slice ad (u.getD xs.length).toNat cap)) d (.one (.own e r' (xs.take (u.getD xs.length).toNat))) (.slice ad (u.getD xs.length).toNat cap):=
      Af.later (P:=X.P) (x := .own e r' (xs.take (u.getD xs.length).toNat)) (lab := .pl d []) (lab' := .pl d []) (Dy S (λ _ _=>none) d (K.lt0 hd) _ _) hown2 (λ k hk=>⟨Am (h:=λ _ _=>none) (o := .pl d []) hk (by simp),rfl⟩)
     have K2:=K.put hd (λ _ _=>none) (by simp) _ _ hso;refine Ac (S:=Hq S (λ _ _=>none) d _ _) hrun (by rw[hod];exact K2) ?_;show upd S.g d _=_;rw[A8,← hg]
   ·obtain⟨hk,h0,h1,h2⟩:=Kf h;refine⟨_,hk,?_⟩;rcases I5 hE K hg hs with⟨t,rfl,ht,hst,het,hok⟩|⟨hnt,y',ey,hy'⟩
    ·obtain⟨K1,_,hf⟩:=Ph K (p:=t) hst.symm;obtain⟨K2,g1,_⟩:=Im K1 t 0;rw[Ae];refine Oq (S:=Hz (frS S t e r' xs) t 0) hE K2 ?_ (u:=a.eval (.tmp t)) rfl rfl ho hod hd hq hl hu h0 h1 h2 ⟨.no,?_⟩
     ·show upd (upd S.g t _) t _=_;rw[show gone (.tmp t) (.one (.own e r' xs))=[⟨t,false,.one .dead⟩] from rfl,A8,← hg];funext k;unfold upd
      split<;>simp[frS]
     ·rw[het];exact(Af.relab (lab' := .tm 5 []) rfl hf).later (lab' := .tm 5 []) (Hp _ t 0) (λ k hk=>⟨(Fb (by simp[hk])).trans hk,rfl⟩) |>.relab rfl
    ·cases ey
     have hgo:gone x (.one (.own e r' xs))=[]:=by
      unfold gone;split
      ·exact absurd rfl (hnt _)
      ·rfl
     rw[hgo,Wc];refine Oq hE K hg rfl rfl ho hod hd hq hl hu h0 h1 h2 ⟨.no,?_⟩;have hown4:Cs X.P S.O S.w .fz e r' xs (a.eval x):=hy' .fz;exact hown4.reads (λ k hk=>hk) (λ k hk=>hk)
  ·rename_i p v e r' xs hsn;obtain⟨hq,h⟩:=cs h;have hal:=Kx hsn (λ e r xs hy=>by cases hy);obtain⟨p',v',e0,hp⟩:=hal;cases e0;have he:a.eval x=S.ph p:=hlf.2 (by rw[hg,hp])
   cases hmv:E.mv d with
   |true=>
    rw[hmv,cond_true]at h;split at h
    ·obtain⟨hk,h0,h1,h2⟩:=Kf h;refine⟨_,hk,?_⟩
     have hcut:X9 xs none u=xs.take (u.getD xs.length).toNat:=by rw[S8 h2];simp
     rw[hcut];simp only[Zg]at h0 h1;obtain⟨K1,g1,_⟩:=Im K p 0
     have hok:Af X.P S (.pl p []) (.own e r' xs) (S.ph p):=by have:=K.at_ p;rwa [hg,hp]at this
     have hown1:Cs X.P (Hz S p 0).O (Hz S p 0).w (.tm 0 []) e r' xs (a.eval x):=by rw[he];exact g1 [] (.own e r' xs) _ hok
     obtain⟨ad,cap,e1,hc,hspot,hown2⟩:=hown1.take (u.getD xs.length).toNat (by omega);have hrun:=Gy (w:=S.w) (Gd hq hE.ti) hown1.top.1 ho e1 hl hu hc (by simp) (by simpa using h1) h2
     have hval:(if cap=((none:Option Int).getD 0).toNat then ad else ad.map (·.add (((none:Option Int).getD 0).toNat*r'.sz)))=ad:=by
      split
      ·rfl
      ·cases ad<;>simp[Addr.add]
     rw[hval]at hrun;simp only[Zg,Sna,S9a]at hrun
     let hf:Nat→List Nat→Option Lab:=λ n q=>if n=0 then some (.pl d q) else none
     have L:=Dy (Hz S p 0) hf d (K.lt0 hd) (.one (.own e r' (xs.take (u.getD xs.length).toNat))) (.slice ad (u.getD xs.length).toNat cap)
     have hso:Gi X.P (Hq (Hz S p 0) hf d (.one (.own e r' (xs.take (u.getD xs.length).toNat))) (.slice ad (u.getD xs.length).toNat cap)) d (.one (.own e r' (xs.take (u.getD xs.length).toNat))) (.slice ad (u.getD xs.length).toNat cap):=
      Af.later (P:=X.P) (x := .own e r' (xs.take (u.getD xs.length).toNat)) (lab := .tm 0 []) (lab' := .pl d []) L hown2 (λ k hk=>⟨G6 hk (by simp[hf]),rfl⟩)
     have K2:=K1.put hd hf (by intro n q p hp;simp only[hf]at hp;split at hp<;>first|(cases hp;exact⟨q,rfl⟩)|cases hp) _ _ hso
     refine Ac (S:=Hq (Hz S p 0) hf d _ _) hrun (by rw[hod];exact K2) ?_;show upd (Hz S p 0).g d _=_;rw[show ∀ u1 u2,ups A [u1,u2]=ups (ups A [u1]) [u2] from λ _ _=>rfl,A8,A8,← hg];rfl
    ·cases h
   |false=>
    rw[hmv,cond_false]at h
    cases hno:Hh r' with
    |true=>
     rw[hno,cond_true]at h;obtain⟨hk,h0,h1,h2⟩:=Kf h;refine⟨_,hk,?_⟩
     have hco:On A (.al p v)=[⟨p,true,.one (.fz e r' xs)⟩]:=by simp[On,hp]
     obtain⟨K1,_,hf⟩:=Ph K (p:=p) (e:=e) (r:=r') (xs:=xs) (by rw[hg,hp]);rw[hco,Ae];refine Oq (S:=frS S p e r' xs) hE K1 ?_ (u:=S.ph p) he rfl ho hod hd hq hl hu h0 h1 h2 ⟨.no,hf⟩;show upd S.g p _=_;rw[Kt,← hg]
    |false=>
     rw[hno,cond_false]at h;obtain⟨hao,h⟩:=cs h;obtain⟨hk,h0,h1,h2⟩:=Kf h;refine⟨_,hk,?_⟩
     have hpg:S.g p=(v,.one (.own e r' xs)):=by rw[hg,hp]
     have hown:Cs X.P S.O S.w (.pl p []) e r' xs (S.ph p):=by have:=K.at_ p;rw[hpg]at this;exact this
     have hda:=Eda (P:=X.P) (S:=S) hpg hno hao hown;exact Aga hE K hg ho hod hd hq (by rw[he];exact hda) (by rw[hpg]) hl hu h0 h1 h2
  ·rename_i p v pi e r' xs;obtain⟨hq,h⟩:=cs h;simp only[Va]at hq;obtain⟨hk,h0,h1,h2⟩:=Kf h;exact⟨_,hk,Aga hE K hg ho hod hd hq.1 hlf (by rw[hg];exact Vb hq.2) hl hu h0 h1 h2⟩
  ·rename_i e r' xs _ hsn;obtain⟨hq,h⟩:=cs h;obtain⟨hk,h0,h1,h2⟩:=Kf h;obtain⟨lab',hl2⟩:=Lv K hg hlf;rw[hsn]at hl2;exact⟨_,hk,Oq hE K hg rfl rfl ho hod hd hq hl hu h0 h1 h2 ⟨lab',hl2⟩⟩
  ·cases h
 ·cases h
end

def pth:Sv→Nat→List Nat
 |.agg _,n=>[n]
 |_,_=>[]
def Nf (s:Sv) (u:Value) (us:List Value):Prop:=match s with
 |.agg _=>u = .agg us.toArray
 |_=>us=[u]
def Frz (g g':Nat→Nat×Sv):Prop:=∀ p,g' p=g p∨∃ n e r,∃ xs:List (Ty.den r),g p=(n,.one (.own e r xs))∧g' p=(n,.one (.fz e r xs))
structure Qr (X:Cx) (S S':Sit):Prop where
 w:S'.w=S.w
 ph:S'.ph=S.ph
 bb:S'.bb=S.bb
 later:Ct S S'
 tm:∀ n q k,S.O k = .tm n q→S'.O k = .tm n q
 pl:∀ l p k,S.O k = .pl l p→p≠[]→S'.O k = .pl l p
 bx:∀ b k,S.O k = .bx b→S'.O k = .bx b
 no:∀ k,S.O k = .no→S'.O k = .no
section
variable {X:Cx} {S S' S'':Sit} {a:Act} {E:En} {A:Ab} {o:Oper} {R:Type} {Kc:List Up→Option R} {r:R}
def Ct.refl (S:Sit):Ct S S:=⟨λ _=>Vq _,λ _ _=>rfl,λ p v e r xs' h _=>⟨xs',h,rfl⟩,λ _ _=>rfl,λ k h=>⟨h,rfl⟩,Ct.box_of (λ _ _ _ h=>h) (λ _ _ h=>⟨h,rfl⟩),λ p _ hd=>⟨hd,λ _ _ _ h=>h,λ k hk=>⟨.inl hk,rfl⟩⟩,λ _ _=>rfl⟩
def Ct.trans (L:Ct S S') (L':Ct S' S''):Ct S S'' where
 ver:=λ p=>Yq (L.ver p) (L'.ver p)
 ph:=λ p e=>by
  have e1:(S'.g p).1=(S.g p).1:=Yr (e ▸ L'.ver p) (L.ver p);rw[L'.ph p (e.trans e1.symm),L.ph p e1]
 own:=λ p v e r xs' h hv=>by
  have e1:(S'.g p).1=v:=Yr (by have:=L'.ver p;rw[h]at this;exact this) (hv ▸ L.ver p);obtain⟨ys,hy,hl⟩:=L'.own p v e r xs' h e1;obtain⟨zs,hz,hl'⟩:=L.own p v e r ys hy hv;exact⟨zs,hz,hl'.trans hl⟩
 bb:=λ b e=>by
  have e1:(S'.g (H b)).1=(S.g (H b)).1:=Yr (e ▸ L'.ver _) (L.ver _);rw[L'.bb b (e.trans e1.symm),L.bb b e1]
 fz:=λ k h=>⟨(L'.fz k (L.fz k h).1).1,(L'.fz k (L.fz k h).1).2.trans (L.fz k h).2⟩
 box:=λ b n e hh hO=>by
  have e1:(S'.g (H b)).1=(S.g (H b)).1:=Yr (e ▸ L'.ver _) (L.ver _);obtain⟨d1,d2,d3⟩:=L.box b n e1 hh hO;rw[← L.bb b e1]at d2;obtain⟨d4,d5,d6⟩:=L'.box b n (e.trans e1.symm) d1 d2;rw[L.bb b e1]at d5 d6;refine⟨d4,d5,λ c e' f hc=>?_⟩;obtain⟨c1,c2,c3,c4⟩:=d3 c e' f hc;obtain⟨c5,c6,c7,c8⟩:=d6 c1 e' f c2;exact⟨c5,c6,c7.trans c3,λ j hj=>(c8 j hj).trans (c4 j hj)⟩
 bor:=λ p e hd=>by
  have e1:(S'.g p).1=(S.g p).1:=Yr (e ▸ L'.ver p) (L.ver p);obtain⟨d1,d2,d3⟩:=L.bor p e1 hd;obtain⟨d4,d5,d6⟩:=L'.bor p (e.trans e1.symm) d1;refine⟨d4,λ E R XS h=>d2 E R XS (d5 E R XS h),λ k hk=>?_⟩;obtain⟨d7,d8⟩:=d3 k hk;rcases d7 with d7|d7
  ·exact⟨(d6 k d7).1,(d6 k d7).2.trans d8⟩
  ·exact⟨.inr (L'.fz k d7).1,(L'.fz k d7).2.trans d8⟩
 io:=λ p hp=>(L'.io p hp).trans (L.io p hp)
def Qr.refl (S:Sit):Qr X S S:=⟨rfl,rfl,rfl,.refl S,λ _ _ _ h=>h,λ _ _ _ h _=>h,λ _ _ h=>h,λ _ h=>h⟩
def Qr.trans (h:Qr X S S') (h':Qr X S' S''):Qr X S S'':=
 ⟨h'.w.trans h.w,h'.ph.trans h.ph,h'.bb.trans h.bb,h.later.trans h'.later,λ n q k e=>h'.tm n q k (h.tm n q k e),λ l p k e hp=>h'.pl l p k (h.pl l p k e hp) hp,λ b k e=>h'.bx b k (h.bx b k e),λ k e=>h'.no k (h.no k e)⟩
def U9 {p:Nat} {e:TypeId} {r':Ty} {xs:List r'.den} (K:Ah X S a) (hp:(S.g p).2 = .one (.own e r' xs)):Qr X S (frS S p e r' xs):=by
 have hown:Cs X.P S.O S.w (.pl p []) e r' xs (S.ph p):=by have:=K.at_ p;rw[hp]at this;exact this
 have other:∀ k o,S.O k=o→o ≠ .pl p []→(frS S p e r' xs).O k=o:=λ k o h ho=>by
  show (if S.O k = .pl p [] then Lab.fz else S.O k)=o;rw[if_neg (by rw[h];exact ho),h]
 exact⟨rfl,rfl,rfl,Tw S p e r' xs hp,λ n q k h=>other k _ h (by simp),λ l q k h hq=>other k _ h (by simp[hq]),λ b k h=>other k _ h (by simp),λ k h=>other k _ h (by simp)⟩
def Sa:∀ (l:List Lf) {S:Sit} {A':Ab},Ah X S a→S.g=get A'→Frz (get A) (get A')→∃ S',Ah X S' a∧S'.g=get (ups A' (H7 A l))∧Qr X S S'∧Frz (get A) S'.g∧
  ∀ p v,Lf.al p v∈l→∀ n e r,∀ xs:List (Ty.den r),get A p=(n,.one (.own e r xs))→n=v→S'.g p=(n,.one (.fz e r xs))
 |[],S,A',K,hg,hf=>⟨S,K,hg,.refl S,by rw[hg];exact hf,by simp⟩
 |x::l,S,A',K,hg,hf=>by
  have first:∃ S1,Ah X S1 a∧S1.g=get (ups A' (On A x))∧Qr X S S1∧Frz (get A) S1.g∧∀ p v,x=Lf.al p v→∀ n e r,∀ xs:List (Ty.den r),get A p=(n,.one (.own e r xs))→n=v→S1.g p=(n,.one (.fz e r xs)):=by
   cases x with
   |al p v=>
    by_cases hown:∃ e r,∃ xs:List (Ty.den r),get A p=(v,.one (.own e r xs))
    ·obtain⟨e,r',xs,hp⟩:=hown
     have hc:On A (.al p v)=[⟨p,true,.one (.fz e r' xs)⟩]:=by simp[On,hp]
     rw[hc]
     have hfix:∀ S1:Sit,S1.g=get (ups A' [⟨p,true,.one (.fz e r' xs)⟩])→S1.g p=(v,.one (.fz e r' xs))→∀ p' v',Lf.al p v=Lf.al p' v'→∀ n e r,∀ xs:List (Ty.den r),get A p'=(n,.one (.own e r xs))→n=v'→S1.g p'=(n,.one (.fz e r xs)):=by
      intro S1 _ h1 p' v' h2 n e2 r2 xs2 h3 h4;cases h2;rw[hp]at h3;cases h3;exact h1
     rcases hf p with h0|⟨n,e2,r2,xs2,h1,h2⟩
     ·have hSp:S.g p=(v,.one (.own e r' xs)):=by rw[hg,h0,hp]
      have hg1:(frS S p e r' xs).g=get (ups A' [⟨p,true,.one (.fz e r' xs)⟩]):=by
       show upd S.g p _=_;rw[Kt,← hg]
      refine⟨_,(Ph K (by rw[hSp])).1,hg1,U9 K (by rw[hSp]),λ q=>?_,hfix _ hg1 (by show upd S.g p _ p=_;rw[A9,hSp])⟩
      by_cases hq:q=p
      ·subst hq;exact .inr ⟨v,e,r',xs,hp,by show upd S.g q _ q=_;rw[A9,hSp]⟩
      ·have:(frS S p e r' xs).g q=get A' q:=by show upd S.g p _ q=_;rw[Aa _ _ hq,hg]
       rw[this];exact hf q
     ·rw[hp]at h1;cases h1
      have hg1:S.g=get (ups A' [⟨p,true,.one (.fz e r' xs)⟩]):=by
       rw[Kt,hg];funext q
       by_cases hq:q=p
       ·subst hq;rw[A9,h2]
       ·rw[Aa _ _ hq]
      exact⟨S,K,hg1,.refl S,by rw[hg];exact hf,hfix S hg1 (by rw[hg,h2])⟩
    ·have hc:On A (.al p v)=[]:=by
      simp only[On];split
      ·rename_i n e r' xs hp;cases hb:Nat.beq n v
       ·rfl
       have:n=v:=by simpa using hb
       subst this;exact absurd ⟨e,r',xs,hp⟩ hown
      ·rfl
     rw[hc];refine⟨S,K,hg,.refl S,by rw[hg];exact hf,λ p' v' h1 n e r xs h2 h3=>?_⟩;cases h1;subst h3;exact absurd ⟨e,r,xs,h2⟩ hown
   |_=>exact⟨S,K,hg,.refl S,by rw[hg];exact hf,by simp⟩
  obtain⟨S1,K1,hg1,E1,F1,P1⟩:=first
  obtain⟨S2,K2,hg2,E2,F2,P2⟩:=Sa l K1 hg1 (by rw[← hg1];exact F1);refine⟨S2,K2,by rw[hg2,H7,Ae],E1.trans E2,F2,λ p v hm n e r xs h1 h2=>?_⟩;rcases Vk.1 hm with hx|hl
  ·have h3:=P1 p v hx.symm n e r xs h1 h2;rcases F2 p with h4|⟨n',e',r',xs',h4,h5⟩
   ·-- it was read by all already
    have hv:=E2.later.ver p;have hA:=h4;rw[h1]at hA;obtain⟨ys,hy,_⟩:=E2.later.own p n e r xs hA (by rw[h3]);rw[h3]at hy;simp at hy
   ·rw[h1]at h4;cases h4;exact h5
  ·exact P2 p v hl n e r xs h1 h2
def Ega (hE:Gx X E) (K:Ah X S a) (hg:S.g=get A) {T:TypeId} {y:Operand} {s:Sv} (hs:opT E T A y=some s) (hnt:∀ vs,s ≠ .tup vs) (i:Nat):
  ∃ S',Ah X S' a∧S'.g=get (ups A (H7 A (parts s)++gone y s))∧S'.w=S.w∧S'.bb=S.bb∧S'.ph=S.ph∧Ct S S'∧(∀ b k,S.O k = .bx b→S'.O k = .bx b)∧(∀ b,(S'.g (H b)).1=(S.g (H b)).1∧∀ n,(S.g (H b)).2 = .one (.hd n)→S'.g (H b)=S.g (H b))∧
   (∀ n q x u,Af X.P S (.tm n q) x u→Af X.P S' (.tm n q) x u)∧
   ∃ us,Nf s (a.eval y) us∧A5 X.P S' (λ n => .tm i (pth s n)) 0 ((parts s).map (Hn A)) us:=by
 obtain⟨S1,K1,hg1,E1,F1,P1⟩:=Sa (X:=X) (a:=a) (A:=A) (parts s) K hg (λ p => .inl rfl)
 have keep:∀ (f:Nat→Lab) (hf:∀ n k,S.O k=f n→S1.O k=f n) (l:List Lf),(∀ x∈l,x∈parts s)→∀ j us,A5 X.P S f j l us→A5 X.P S1 f j (l.map (Hn A)) us:=by
  intro f hf l
  induction l with
  |nil=>
   intro _ j us h
   cases us with
   |nil=>trivial
   |cons=>exact h.elim
  |cons x l ih=>
   intro hm j us h
   cases us with
   |nil=>exact h.elim
   |cons u us=>
    refine⟨?_,ih (λ z hz=>hm z (Vd _ hz)) _ _ h.2⟩;have h1:Af X.P S (f j) x u:=h.1
    cases x with
    |al p v=>
     show Af X.P S1 (f j) (Iu (H9 A (.al p v))) u;simp only[H9];split
     ·rename_i n e r' xs hp;cases hb:Nat.beq n v
      ·exact trivial
      have hnv:n=v:=by simpa using hb
      subst hnv;rw[cond_true];show Af X.P S1 (f j) (.fz e r' xs) u;have h2:=P1 p n (hm _ (by simp)) n e r' xs hp rfl;have h3:=K1.at_ p;rw[h2,E1.ph,← h1.2 (by rw[hg,hp])]at h3;exact Af.relab (lab := .pl p []) rfl h3
     ·rename_i n e r' xs hp;cases hb:Nat.beq n v
      ·exact trivial
      have hnv:n=v:=by simpa using hb
      subst hnv;rw[cond_true];show Af X.P S1 (f j) (.fz e r' xs) u;have h3:=K.at_ p;rw[hg,hp,← h1.2 (by rw[hg,hp])]at h3;have h4:Af X.P S (.pl p []) (.fz e r' xs) u:=h3;exact(Af.relab (lab':=f j) rfl h4).later E1.later (λ k hk=>⟨hf j k hk,by rw[E1.w]⟩)
     ·exact trivial
    |_=>exact h1.later E1.later (λ k hk=>⟨hf j k hk,by rw[E1.w]⟩)
 have base:∀ n q x u,Af X.P S (.tm n q) x u→Af X.P S1 (.tm n q) x u:=λ n q x u h=>h.later E1.later (λ k hk=>⟨E1.tm n q k hk,by rw[E1.w]⟩)
 have heads:∀ b,(S1.g (H b)).1=(S.g (H b)).1∧∀ n,(S.g (H b)).2 = .one (.hd n)→S1.g (H b)=S.g (H b):=λ b=>by
  rcases F1 (H b) with h1|⟨n',e,r',xs,h1,h2⟩
  ·exact⟨by rw[h1,hg],λ n _=>by rw[h1,hg]⟩
  ·exact⟨by rw[hg,h1,h2],λ n h=>by rw[hg,h1]at h;cases h⟩
 have calmOwn:∀ l:List Lf,Db l=false→Db (l.map (Hn A))=false:=by
  intro l
  induction l with
  |nil=>intro;rfl
  |cons x l ih=>
   intro h
   have hc:∀ z:Lf,Db (Iu z::l.map (Hn A))=Db (l.map (Hn A)):=by intro z;cases z<;>rfl
   cases x with
   |own e r xs=>simp[Db]at h
   |opn e r xs i b v=>simp[Db]at h
   |par e r xs m=>simp[Db]at h
   |al p v=>rw[Yd];exact(hc _).trans (ih (by simpa[Db] using h))
   |_=>exact ih (by simpa[Db] using h)
 have finish:∀ (us:List Value),Nf s (a.eval y) us→(Ix s=false→∃ f,A5 X.P S1 f 0 ((parts s).map (Hn A)) us)→
   (∀ t,y = .tmp t→Ix s=true→A5 X.P S1 (λ n => .pl t (pth s n)) 0 ((parts s).map (Hn A)) us)→((∀ t,y ≠ .tmp t)→A5 X.P S1 (λ n => .tm i (pth s n)) 0 ((parts s).map (Hn A)) us)→
   ∃ S',Ah X S' a∧S'.g=get (ups A (H7 A (parts s)++gone y s))∧S'.w=S.w∧S'.bb=S.bb∧S'.ph=S.ph∧Ct S S'∧(∀ b k,S.O k = .bx b→S'.O k = .bx b)∧(∀ b,(S'.g (H b)).1=(S.g (H b)).1∧∀ n,(S.g (H b)).2 = .one (.hd n)→S'.g (H b)=S.g (H b))∧
   (∀ n q x u,Af X.P S (.tm n q) x u→Af X.P S' (.tm n q) x u)∧
   ∃ us,Nf s (a.eval y) us∧A5 X.P S' (λ n => .tm i (pth s n)) 0 ((parts s).map (Hn A)) us:=by
  intro us hus h1 h2 h3
  cases ho:Ix s with
  |false=>
   obtain⟨f,h4⟩:=h1 ho
   have hgo:gone y s=[]:=by unfold gone;split<;>simp[ho]
   have hp:Db (parts s)=false:=by
    cases s with
    |one x=>exact ho
    |agg l=>exact ho
    |tup vs=>exact absurd rfl (hnt vs)
   exact⟨S1,K1,by rw[hgo,Yf];exact hg1,E1.w,E1.bb,E1.ph,E1.later,E1.bx,heads,base,us,hus,h4.relab (calmOwn _ hp)⟩
  |true=>
   by_cases hy:∃ t,y = .tmp t
   ·obtain⟨t,rfl⟩:=hy;obtain⟨K2,g1,g2⟩:=Im K1 t i
    have hgo:gone (.tmp t) s=[⟨t,false,.one .dead⟩]:=by simp[gone,ho]
    have htn:t<1000:=by
     rcases I5 hE K hg hs with⟨t',e,ht,_⟩|⟨hn,_⟩
     ·cases e;exact Wm ht K.nt
     ·exact absurd rfl (hn t)
    refine⟨_,K2,?_,E1.w,E1.bb,E1.ph,E1.later.trans (Hp S1 t i),λ b k hk=>(Fb (by simp[E1.bx b k hk])).trans (E1.bx b k hk),λ b=>?_,λ n q x u h=>g2 n q x u (base n q x u h),us,hus,(h2 t rfl ho).imp (λ n x u h=>g1 _ x u h)⟩
    ·rw[hgo,Ae,A8,← hg1];rfl
    ·have:(Hz S1 t i).g (H b)=S1.g (H b):=Aa _ _ (λ e=>by have h1:=Nsa b;rw[e]at h1;exact absurd htn (Nat.not_lt.2 h1));rw[this];exact heads b
   ·have hy':∀ t,y ≠ .tmp t:=λ t e=>hy ⟨t,e⟩
    have hgo:gone y s=[]:=by
     unfold gone;split
     ·exact absurd rfl (hy' _)
     ·rfl
    exact⟨S1,K1,by rw[hgo,Yf];exact hg1,E1.w,E1.bb,E1.ph,E1.later,E1.bx,heads,base,us,hus,h3 hy'⟩
 rcases I5 hE K hg hs with⟨t,rfl,ht,hst,het,hok⟩|⟨hnt',x,rfl,hx⟩
 ·cases s with
  |tup vs=>exact absurd rfl (hnt vs)
  |one x=>
   have hok':A5 X.P S (λ _ => .pl t []) 0 [x] [a.eval (.tmp t)]:=⟨hok,trivial⟩;refine finish [a.eval (.tmp t)] rfl (λ ho=>?_) (λ t' e ho=>?_) (λ h=>absurd rfl (h t))
   ·have:=keep (λ _ => .tm 0 []) (λ n k hk=>E1.tm _ _ k hk) [x] (by simp[parts]) 0 _ (hok'.relab ho);exact⟨_,this⟩
   ·cases e
    have hx:H7 A (parts (.one x))=[]∧Hn A x=x:=by cases x<;>first|(simp[Ix,Db]at ho;done)|exact⟨rfl,rfl⟩
    have hS1:S1.g t=(S.g t):=by
     have:=hg1;rw[hx.1]at this;rw[this,hg];rfl
    have hnow:=K1.at_ t;rw[hS1,← hst,E1.ph,← het]at hnow;refine⟨?_,trivial⟩;show Af X.P S1 _ (Hn A x) _;rw[hx.2];exact hnow
  |agg l=>
   obtain⟨us,e1,hl⟩:=hok;refine finish us e1 (λ ho=>?_) (λ t' e ho=>?_) (λ h=>absurd rfl (h t))
   ·have:=keep (λ _ => .tm 0 []) (λ n k hk=>E1.tm _ _ k hk) l (by simp[parts]) 0 us (hl.relab ho);exact⟨_,this⟩
   ·cases e;exact keep (λ n => .pl t [n]) (λ n k hk=>E1.pl t [n] k hk (by simp)) l (by simp[parts]) 0 us hl
 ·refine finish [a.eval y] rfl (λ ho=>?_) (λ t e=>absurd e (hnt' t)) (λ _=>?_)
  ·exact⟨_,keep (λ _ => .tm i []) (λ n k hk=>E1.tm _ _ k hk) [x] (by simp[parts]) 0 [a.eval y] ⟨hx _,trivial⟩⟩
  ·exact keep (λ _ => .tm i []) (λ n k hk=>E1.tm _ _ k hk) [x] (by simp[parts]) 0 [a.eval y] ⟨hx _,trivial⟩
end

def Ji (g:Nat→Nat×Sv) (b j:Nat) (l:List Lf):Nat→Nat×Sv:=λ p=>if C b j≤p∧p<C b j+l.length then ((g p).1+1,.one (l.getD (p-C b j) .dead)) else g p
def Hc (ph:Nat→Value) (b j:Nat) (us:List Value):Nat→Value:=λ p=>if C b j≤p∧p<C b j+us.length then us.getD (p-C b j) undef else ph p
def Gz (b:Nat):∀ (l:List Lf) (A:Ab) (j:Nat),get (ups A (Bo b j l))=Ji (get A) b j l
 |[],A,j=>by
  funext p;simp only[Bo,ups,Ji,Vp,Yu];rw[if_neg (by omega)]
 |x::l,A,j=>by
  show get (ups (up A ⟨C b j,false,.one x⟩) (Bo b (j+1) l))=_;rw[Gz b l _ (j+1),Il];have hc:C b (j+1)=C b j+1:=rfl;funext p;unfold Ji;rw[hc];simp only[Vg]
  by_cases h1:p=C b j
  ·subst h1;rw[if_neg (by omega),if_pos (by omega),A9];simp
  ·rw[Aa _ _ h1]
   by_cases h2:C b j+1≤p∧p<C b j+1+l.length
   ·rw[if_pos h2,if_pos (by omega)];rw[show p-C b j=(p-(C b j+1))+1 by omega,List.getD_cons_succ]
   ·rw[if_neg h2,if_neg (by omega)]
def Ql (b off:Nat):Nat→List Nat→Option Lab:=λ n q=>if n=0 then (match q with
 |[]=>some (.pl (C b off) [])
 |[j]=>some (.pl (C b (off+j)) [])
 |_=>none) else none
section
variable {X:Cx} {S S':Sit} {a:Act} {E:En} {A:Ab} {o:Oper} {R:Type} {Kc:List Up→Option R} {r:R}
def A5.at {P:Program} {f:Nat→Lab}:∀ {j:Nat} {xs:List Lf} {us:List Value} (i:Nat),A5 P S f j xs us→i<xs.length→∃ x u,xs.getD i .dead=x∧us.getD i undef=u∧us[i]? = some u∧Af P S (f (j+i)) x u
 |_,[],_,i,_,hi=>by simp at hi
 |j,x::xs,u::us,0,h,_=>⟨x,u,rfl,rfl,rfl,h.1⟩
 |j,x::xs,u::us,i+1,h,hi=>by
  obtain⟨x',u',h1,h2,h3,h4⟩:=h.2.at i (by simpa using hi);exact⟨x',u',by simpa using h1,by simpa using h2,by simpa using h3,by rw[show j+(i+1)=j+1+i by omega];exact h4⟩
 |_,_::_,[],_,h,_=>h.elim
def E9 {b b' off n:Nat} (h:off+n≤999):¬ (C b off≤H b'∧H b'<C b off+n):=by unfold C H;omega
def Lx {b b' off n j:Nat} (h:off+n≤999) (hj:j<999) (hne:b'≠b):¬ (C b off≤C b' j∧C b' j<C b off+n):=by unfold C;omega
def Ic {b off n t:Nat} (ht:t<1000):¬ (C b off≤t∧t<C b off+n):=by unfold C;omega
def Sc (S:Sit) (hb:Nat→List Nat→Option Lab) (b off:Nat) (m:List Lf) (us:List Value) (w:World):Sit:=
 { S with O:=atO S.O hb,g:=Ji S.g b off m,ph:=Hc S.ph b off us,w:=w }
def Ah.cells (K:Ah X S a) {b n off:Nat} {m:List Lf} {us:List Value} {q:Nat→List Nat} {c:Array Value} {e:TypeId} (hh:(S.g (H b)).2 = .one (.hd n)) (hoff:off+m.length≤n)
  (hc:S.w.heap[(S.bb b).1]? = some (.cells c e (0,0))) (hl:A5 X.P S (λ j => .tm 0 (q j)) 0 m us) (hq:∀ j,j<m.length→Ql b off 0 (q j)=some (.pl (C b (off+j)) [])) (hnh:∀ k,.hd k∉m):
  Ah X (Sc S (Ql b off) b off m us (S.w.setRow (S.bb b).1 (c.toList.take ((S.bb b).2+off)++us++c.toList.drop ((S.bb b).2+off+us.length)).toArray)) a∧
  Ct S (Sc S (Ql b off) b off m us (S.w.setRow (S.bb b).1 (c.toList.take ((S.bb b).2+off)++us++c.toList.drop ((S.bb b).2+off+us.length)).toArray)):=by
 obtain⟨hn,c0,e0,h1,h2,h3,h4⟩:=K.box b n hh;rw[hc]at h1;cases h1;have hlen:=hl.len;generalize hw:S.w.setRow (S.bb b).1 (c.toList.take ((S.bb b).2+off)++us++c.toList.drop ((S.bb b).2+off+us.length)).toArray=w'
 have hnew:w'.heap[(S.bb b).1]? = some (.cells (c.toList.take ((S.bb b).2+off)++us++c.toList.drop ((S.bb b).2+off+us.length)).toArray e (0,0)):=by rw[← hw];exact setRow_heap _ _ _ _ _ _ hc
 have hold:∀ k,S.O k ≠ .bx b→w'.heap[k]? = S.w.heap[k]? := λ k hk=>by
  rw[← hw];exact setRow_other _ _ _ _ (λ e=>hk (e ▸ h2))
 have hsz:(c.toList.take ((S.bb b).2+off)++us++c.toList.drop ((S.bb b).2+off+us.length)).toArray.size=c.size:=by
  simp only[Ria,Vh,Vl,Vy,Yi];omega
 have hcell:∀ i,(i<(S.bb b).2+off∨(S.bb b).2+off+us.length≤i)→(c.toList.take ((S.bb b).2+off)++us++c.toList.drop ((S.bb b).2+off+us.length)).toArray[i]? = c[i]?:=by
  intro i hi
  have ht:(c.toList.take ((S.bb b).2+off)).length=(S.bb b).2+off:=by rw[Vl,Yi];omega
  rw[Saa,← Yv];rcases hi with hi|hi
  ·rw[Vj,Yg (by omega),Wg,if_pos hi]
  ·rw[Ye (by rw[Vh,ht];omega),Vh,ht,Ya];congr 1;omega
 have hcell2:∀ i,i<us.length→(c.toList.take ((S.bb b).2+off)++us++c.toList.drop ((S.bb b).2+off+us.length)).toArray[(S.bb b).2+off+i]? = us[i]?:=by
  intro i hi
  have ht:(c.toList.take ((S.bb b).2+off)).length=(S.bb b).2+off:=by rw[Vl,Yi];omega
  rw[Saa,Yg (by rw[Vh,ht];omega),Ye (by omega),ht];congr 1;omega
 have gout:∀ p,¬ (C b off≤p∧p<C b off+m.length)→Ji S.g b off m p=S.g p∧Hc S.ph b off us p=S.ph p:=λ p hp=>by
  unfold Ji Hc;rw[if_neg hp,if_neg (by rw[hlen];exact hp)];exact⟨rfl,rfl⟩
 have phio:∀ p,3001000≤p→Hc S.ph b off us p=S.ph p:=λ p hp=>by
  have h3:=(K.rgn b n hh).2.2.2;have h9:=(K.box b n hh).1;refine(gout p (λ hin=>?_)).2
  have:C b off≤3000999:=by unfold C;omega
  have:C b off+m.length≤3001000:=by unfold C;omega
  omega
 have L:Ct S (Sc S (Ql b off) b off m us w'):=by
  refine⟨λ p=>?_,λ p hp=>?_,λ p v e r xs' hp hv=>?_,λ _ _=>rfl,λ k hk=>⟨Am hk (by simp),hold k (by simp[hk])⟩,λ b' m' hv hb' hO=>?_,λ p hp hd=>?_,λ p hp=>phio p hp⟩
  ·show (S.g p).1≤(Ji S.g b off m p).1;unfold Ji
   split<;>simp
  ·show Hc S.ph b off us p=S.ph p
   by_cases hin:C b off≤p∧p<C b off+m.length
   ·have:(Ji S.g b off m p).1=(S.g p).1:=hp;unfold Ji at this;rw[if_pos hin]at this;simp at this
   ·exact(gout p hin).2
  ·have hp':Ji S.g b off m p=(v,.one (.own e r xs')):=hp
   by_cases hin:C b off≤p∧p<C b off+m.length
   ·unfold Ji at hp';rw[if_pos hin]at hp';simp only[Vu]at hp';omega
   ·rw[(gout p hin).1]at hp';exact⟨xs',hp',rfl⟩
  ·refine⟨?_,Am hO (by simp),λ c1 e1 f1 hc1=>?_⟩
   ·show (Ji S.g b off m (H b')).2=_;rw[(gout _ (E9 (by omega))).1];exact hb'
   ·by_cases hbb:b'=b
    ·subst hbb;have hc1':S.w.heap[(S.bb b').1]? = some (.cells c1 e1 f1):=hc1;rw[hc]at hc1';cases hc1';rw[hh]at hb';cases hb';exact⟨_,hnew,hsz,λ j hj=>hcell j (by rw[hlen];have hj':j<(S.bb b').2∨(S.bb b').2+n≤j:=hj;omega)⟩
    ·exact⟨c1,(hold _ (by rw[hO];simp[hbb])).trans hc1,rfl,λ _ _=>rfl⟩
  ·have hout:¬ (C b off≤p∧p<C b off+m.length):=λ hin=>by
    have:(Ji S.g b off m p).1=(S.g p).1:=hp;unfold Ji at this;rw[if_pos hin]at this;simp at this
   have hgp:(Sc S (Ql b off) b off m us w').g p=S.g p:=(gout p hout).1;rw[hgp];exact⟨hd,λ _ _ _ h=>h,λ k hk=>⟨.inl (Am hk (by simp)),hold k (by simp[hk])⟩⟩
 refine⟨⟨K.nt,λ k hk=>?_,λ l=>?_,λ b' n' hb'=>?_,λ b' n' hb'=>?_,λ t ht=>?_,K.sz,K.df,?_,λ p hp=>(phio p hp).trans (K.io p hp)⟩,L⟩
 ·have:k<S.w.heap.size:=K.lt k (λ e=>hk (Am e (by simp)));show k<w'.heap.size;rw[← hw]
  simpa[World.setRow] using this
 ·show Gi X.P _ l (Ji S.g b off m l).2 (Hc S.ph b off us l)
  by_cases hin:C b off≤l∧l<C b off+m.length
  ·obtain⟨x,u,e1,e2,e3,e4⟩:=hl.at (l-C b off) (by omega);unfold Ji Hc;rw[if_pos hin,if_pos (by rw[hlen];exact hin),e1,e2];refine Af.later L e4 (λ k hk=>⟨?_,hold k (by simp[hk])⟩);rw[Wb]at hk;have:=G6 (h:=Ql b off) hk (hq _ (by omega));rwa [show C b (off+(l-C b off))=l by (have:C b (off+(l-C b off))=C b off+(l-C b off):=by (unfold C;omega));omega]at this
  ·rw[(gout l hin).1,(gout l hin).2];exact(K.at_ l).later L (λ p k hk=>⟨Am hk (by simp),hold k (by simp[hk])⟩)
 ·have e1:(S.g (H b')).2 = .one (.hd n'):=by
   have:(Ji S.g b off m (H b')).2 = .one (.hd n'):=hb';rwa [(gout _ (E9 (by omega))).1]at this
  obtain⟨g1,c1,e2,g2,g3,g4,g5⟩:=K.box b' n' e1
  by_cases hbb:b'=b
  ·subst hbb;rw[hc]at g2;cases g2;rw[hh]at e1;cases e1;refine⟨g1,_,_,hnew,Am g3 (by simp),by rw[hsz];exact g4,λ j hj=>?_⟩;show (_:Array Value)[(S.bb b').2+j]? = some (Hc S.ph b' off us (C b' j))
   by_cases hin:C b' off≤C b' j∧C b' j<C b' off+m.length
   ·have h5:off≤j∧j<off+m.length:=by unfold C at hin;omega
    have h6:C b' j-C b' off=j-off:=by unfold C;omega
    unfold Hc;rw[if_pos (by rw[hlen];exact hin),h6,show (S.bb b').2+j=(S.bb b').2+off+(j-off) by omega,hcell2 _ (by omega)];rw[Vn,Vs (by omega)];rfl
   ·rw[(gout _ hin).2,← g5 j hj];refine hcell _ ?_;unfold C at hin;omega
  ·have hne:S.O (S.bb b').1 ≠ .bx b:=by rw[g3];simp[hbb]
   refine⟨g1,c1,e2,(hold _ hne).trans g2,Am g3 (by simp),g4,λ j hj=>?_⟩;show _=some (Hc S.ph b off us (C b' j));rw[(gout _ (Lx (by omega) (by omega) hbb)).2];exact g5 j hj
 ·have e1:(S.g (H b')).2 = .one (.hd n'):=by
   have:(Ji S.g b off m (H b')).2 = .one (.hd n'):=hb';rwa [(gout _ (E9 (by omega))).1]at this
  exact K.rgn b' n' e1
 ·show a.tmps.getD t undef=Hc S.ph b off us t;rw[(gout _ (Ic (Wm ht K.nt))).2];exact K.sl t ht
 ·have F:=K.fr;refine⟨?_,?_,?_,?_,λ k hk h0=>?_,λ k hk h0=>?_,λ k b' hk h0=>?_⟩
  ·rw[show (Sc S (Ql b off) b off m us w').w=w' from rfl,← hw];exact F.os
  ·rw[show (Sc S (Ql b off) b off m us w').w=w' from rfl,← hw];exact F.tape
  ·rw[show (Sc S (Ql b off) b off m us w').w=w' from rfl,← hw];exact F.out
  ·show _≤w'.heap.size;rw[← hw]
   simpa[World.setRow] using F.size
  ·obtain⟨f1,f2⟩:=F.no k hk h0;exact⟨Am f1 (by simp),(hold k (by simp[f1])).trans f2⟩
  ·obtain⟨f1,f2⟩:=F.fz k hk h0;exact⟨Am f1 (by simp),(hold k (by simp[f1])).trans f2⟩
  ·obtain⟨f1,c1,c2,e1,f,f2,f3,f4,f5⟩:=F.bx k b' hk h0;refine⟨Am f1 (by simp),?_⟩
   by_cases hbk:k=(S.bb b).1
   ·subst hbk;rw[h2]at f1;cases f1;rw[hc]at f3;cases f3;obtain⟨q1,_,q3⟩:=K.rgn b n hh;have hb2:b<2000:=Nat.lt_of_not_le λ h=>q3.1 h hk b h0;obtain⟨r1,r2,r3⟩:=q1 hb2 hk;refine⟨c1,_,_,_,f2,hnew,hsz.trans f4,λ i hi=>?_⟩;rw[hcell i (by omega)];exact f5 i hi
   ·refine⟨c1,c2,e1,f,f2,?_,f4,f5⟩;rw[← f3];show w'.heap[k]? = _;rw[← hw];exact setRow_other _ _ _ _ hbk
end

section
attribute [local irreducible] C H
def Og (S:Sit) (w:World) (O:Nat→Lab):Sit := { S with O:=O,w:=w }
def Wz (S:Sit) (d k o:Nat) (m:List Lf) (us:List Value):Sit:=
 { O:=λ j=>if j=k then .bx d else atO S.O (Ql d 0) j,bb:=upd S.bb d (k,o),g:=Ji (upd S.g (H d) ((S.g (H d)).1+1,.one (.hd m.length))) d 0 m,ph:=Hc S.ph d 0 us,w:=S.w }
section
variable {X:Cx} {S S':Sit} {a:Act} {E:En} {A:Ab} {o:Oper} {R:Type} {Kc:List Up→Option R} {r:R}
def Ah.grow (K:Ah X S a) {w':World} {row:Option Nat} {O':Nat→Lab} (hw:S.w.grownBy w' row) (hrow:∀ k,row=some k→∃ n q,S.O k = .tm n q)
  (hO:∀ k,k<S.w.heap.size→(∀ n q,S.O k ≠ .tm n q)→O' k=S.O k) (hlt:∀ k,O' k ≠ .no→k<w'.heap.size):
  Ah X (Og S w' O') a∧Ct S (Og S w' O'):=by
 have keep:∀ k o,S.O k=o→k<S.w.heap.size→(∀ n q,o ≠ .tm n q)→O' k=o∧w'.heap[k]? = S.w.heap[k]?:=by
  intro k o' h hk ho;refine⟨(hO k hk (by rw[h];exact ho)).trans h,hw.block k hk (λ e=>?_)⟩;obtain⟨n,q,h2⟩:=hrow k e.symm;exact ho n q (h.symm.trans h2)
 have keep':∀ k o,S.O k=o→o ≠ .no→(∀ n q,o ≠ .tm n q)→O' k=o∧w'.heap[k]? = S.w.heap[k]? := λ k o' h hn ho=>keep k o' h (K.lt k (by rw[h];exact hn)) ho
 have L:Ct S (Og S w' O'):=⟨λ _=>Vq _,λ _ _=>rfl,λ p v e r xs' h _=>⟨xs',h,rfl⟩,λ _ _=>rfl,λ k h=>keep' k _ h (by simp) (by simp),Ct.box_of (λ _ _ _ h=>h) (λ k b h=>keep' k _ h (by simp) (by simp)),λ p _ hd=>⟨hd,λ _ _ _ h=>h,λ k hk=>by
  obtain⟨h1,h2⟩:=keep' k _ hk (by simp) (by simp)
  exact⟨.inl h1,h2⟩⟩,λ _ _=>rfl⟩
 have F:=K.fr;refine⟨⟨K.nt,hlt,λ l=>(K.at_ l).later L (λ p k h=>keep' k _ h (by simp) (by simp)),λ b n h=>?_,K.rgn,K.sl,K.sz,K.df,⟨hw.os.trans F.os,hw.tape.trans F.tape,hw.output.trans F.out,Yq F.size hw.size,λ k hk h0=>?_,λ k hk h0=>?_,λ k b hk h0=>?_⟩,K.io⟩,L⟩
 ·obtain⟨hn,c,e,e1,e2,e3,e4⟩:=K.box b n h;obtain⟨h5,h6⟩:=keep' _ _ e2 (by simp) (by simp);exact⟨hn,c,e,h6.trans e1,h5,e3,e4⟩
 ·obtain⟨f1,f2⟩:=F.no k hk h0;obtain⟨h5,h6⟩:=keep k _ f1 (Wm hk F.size) (by simp);exact⟨h5,h6.trans f2⟩
 ·obtain⟨f1,f2⟩:=F.fz k hk h0;obtain⟨h5,h6⟩:=keep k _ f1 (Wm hk F.size) (by simp);exact⟨h5,h6.trans f2⟩
 ·obtain⟨f1,c,c',e,f,f2,f3,f4,f5⟩:=F.bx k b hk h0;obtain⟨h5,h6⟩:=keep k _ f1 (Wm hk F.size) (by simp);exact⟨h5,c,c',e,f,f2,h6.trans f3,f4,f5⟩
def Ah.newbox (K:Ah X S a) {d k o:Nat} {m:List Lf} {us:List Value} {q:Nat→List Nat} {c:Array Value} {e:TypeId} {l0:List Nat} {n0:Nat} (hk:S.O k = .tm n0 l0) (hn0:n0≠0) (hk0:X.w0.heap.size≤k)
  (hc:S.w.heap[k]? = some (.cells c e (0,0))) (ho:o+m.length≤c.size) (hcs:∀ j,j<m.length→c[o+j]? = us[j]?) (hl:A5 X.P S (λ j => .tm 0 (q j)) 0 m us)
  (hq:∀ j,j<m.length→Ql d 0 0 (q j)=some (.pl (C d (0+j)) [])) (hm:m.length<999) (hnh:∀ k,.hd k∉m) (hnp:X.np≤d) (hd1:d<1000):
  Ah X (Wz S d k o m us) a∧Ct S (Wz S d k o m us):=by
 have hlen:=hl.len
 have gout:∀ p,p≠H d→¬ (C d 0≤p∧p<C d 0+m.length)→(Wz S d k o m us).g p=S.g p∧Hc S.ph d 0 us p=S.ph p:=λ p hp1 hp=>by
  refine⟨?_,?_⟩
  ·show Ji _ d 0 m p=_;unfold Ji;rw[if_neg hp,Aa _ _ hp1]
  ·unfold Hc;rw[if_neg (by rw[hlen];exact hp)]
 have hH:¬ (C d 0≤H d∧H d<C d 0+m.length):=E9 (by omega)
 have gH:(Wz S d k o m us).g (H d)=((S.g (H d)).1+1,.one (.hd m.length)):=by
  show Ji _ d 0 m (H d)=_;unfold Ji;rw[if_neg hH,A9]
 have gin:∀ p,(C d 0≤p∧p<C d 0+m.length)→(Wz S d k o m us).g p=((S.g p).1+1,.one (m.getD (p-C d 0) .dead))∧Hc S.ph d 0 us p=us.getD (p-C d 0) undef:=λ p hp=>by
  refine⟨?_,?_⟩
  ·show Ji _ d 0 m p=_;unfold Ji;rw[if_pos hp,Aa _ _ (λ e=>by rw[e]at hp;exact hH hp)]
  ·unfold Hc;rw[if_pos (by rw[hlen];exact hp)]
 have keep:∀ j o',S.O j=o'→(∀ n q,o' ≠ .tm n q)→(Wz S d k o m us).O j=o':=λ j o' h ho'=>by
  have:j≠k:=λ e=>ho' n0 l0 (by rw[← h,e,hk]);show (if j=k then _ else _)=_;rw[if_neg this];exact Am h ho'
 have phio:∀ p,3001000≤p→Hc S.ph d 0 us p=S.ph p:=λ p hp=>by
  unfold Hc;rw[if_neg (by rw[hlen];unfold C;omega)]
 have L:Ct S (Wz S d k o m us):=by
  refine⟨λ p=>?_,λ p hp=>?_,λ p v e r xs' hp hv=>?_,λ b hb=>?_,λ j hj=>⟨keep j _ hj (by simp),rfl⟩,Ct.box_of (λ b n hv hh=>?_) (λ j b h=>⟨keep j _ h (by simp),rfl⟩),λ p hp hd=>?_,phio⟩
  ·by_cases h1:p=H d
   ·subst h1;rw[gH];simp
   ·by_cases h2:C d 0≤p∧p<C d 0+m.length
    ·rw[(gin p h2).1];simp
    ·rw[(gout p h1 h2).1];exact Vq _
  ·show Hc S.ph d 0 us p=_
   by_cases h2:C d 0≤p∧p<C d 0+m.length
   ·rw[(gin p h2).1]at hp;simp at hp
   ·unfold Hc;rw[if_neg (by rw[hlen];exact h2)]
  ·by_cases h1:p=H d
   ·subst h1;rw[gH]at hp;simp at hp
   ·by_cases h2:C d 0≤p∧p<C d 0+m.length
    ·rw[(gin p h2).1]at hp;simp only[Vu]at hp;omega
    ·rw[(gout p h1 h2).1]at hp;exact⟨xs',hp,rfl⟩
  ·by_cases hbd:b=d
   ·subst hbd;rw[gH]at hb;simp at hb
   ·exact Aa _ _ hbd
  ·have hbd:H b≠H d:=λ e=>by rw[e,gH]at hv;simp at hv
   rw[(gout _ hbd (E9 (by omega))).1];exact hh
  ·have h1:p≠H d:=λ e=>by subst e;rw[gH]at hp;simp at hp
   have h2:¬ (C d 0≤p∧p<C d 0+m.length):=λ h=>by rw[(gin p h).1]at hp;simp at hp
   rw[(gout p h1 h2).1];exact⟨hd,λ _ _ _ h=>h,λ j hj=>⟨.inl (keep j _ hj (by simp)),rfl⟩⟩
 have F:=K.fr;refine⟨⟨K.nt,λ j hj=>?_,λ l=>?_,λ b n hb=>?_,λ b n hb=>?_,λ t ht=>?_,K.sz,K.df,⟨F.os,F.tape,F.out,F.size,λ j hj h0=>?_,λ j hj h0=>?_,λ j b hj h0=>?_⟩,λ p hp=>(phio p hp).trans (K.io p hp)⟩,L⟩
 ·exact K.lt j (λ e=>hj (keep j _ e (by simp)))
 ·show Gi X.P _ l ((Wz S d k o m us).g l).2 (Hc S.ph d 0 us l)
  by_cases h1:l=H d
  ·subst h1;rw[gH];trivial
  ·by_cases h2:C d 0≤l∧l<C d 0+m.length
   ·obtain⟨x,u,e1,e2,e3,e4⟩:=hl.at (l-C d 0) (by omega);rw[(gin l h2).1,(gin l h2).2,e1,e2];refine Af.later L e4 (λ j hj=>⟨?_,rfl⟩);rw[Wb]at hj;have hjk:j≠k:=λ e=>hn0 (by rw[e,hk]at hj;cases hj;rfl);show (if j=k then _ else _)=_;rw[if_neg hjk];have:=G6 (h:=Ql d 0) hj (hq _ (by omega));rwa [show C d (0+(l-C d 0))=l by (have:C d (0+(l-C d 0))=C d 0+(l-C d 0):=by (unfold C;omega));omega]at this
   ·rw[(gout l h1 h2).1,(gout l h1 h2).2];exact(K.at_ l).later L (λ p j hj=>⟨keep j _ hj (by simp),rfl⟩)
 ·by_cases hbd:b=d
  ·subst hbd;rw[gH]at hb;cases hb;refine⟨hm,c,e,?_,?_,?_,λ j hj=>?_⟩
   ·show S.w.heap[(upd S.bb b (k,o) b).1]? = _;rw[A9];exact hc
   ·show (if (upd S.bb b (k,o) b).1=k then _ else _)=_;rw[A9,if_pos rfl]
   ·show (upd S.bb b (k,o) b).2+_≤_;rw[A9];exact ho
   ·show c[(upd S.bb b (k,o) b).2+j]? = some (Hc S.ph b 0 us (C b j))
    have h2:C b 0≤C b j∧C b j<C b 0+m.length:=by unfold C;omega
    rw[A9,(gin _ h2).2,hcs j hj,show C b j-C b 0=j by unfold C;omega];rw[Vn,Vs (by omega)];rfl
  ·have h1:H b≠H d:=λ e=>hbd (Rz e)
   have e1:(S.g (H b)).2 = .one (.hd n):=by rwa [(gout _ h1 (E9 (by omega))).1]at hb
   obtain⟨g1,c1,e2,g2,g3,g4,g5⟩:=K.box b n e1;have hbb:(Wz S d k o m us).bb b=S.bb b:=Aa _ _ hbd;rw[hbb];refine⟨g1,c1,e2,g2,keep _ _ g3 (by simp),g4,λ j hj=>?_⟩;show _=some (Hc S.ph d 0 us (C b j));rw[(gout _ (Nra (by omega)) (Lx (by omega) (by omega) hbd)).2];exact g5 j hj
 ·by_cases hbd:b=d
  ·subst hbd;refine⟨λ _ hlt=>?_,λ h=>absurd h (by unfold Cx.pb;omega),λ h=>absurd h (by omega),by omega⟩;have:(upd S.bb b (k,o) b).1<X.w0.heap.size:=hlt;rw[A9]at this;exact absurd this (by simpa using hk0)
  ·have h1:H b≠H d:=λ e=>hbd (Rz e)
   have e1:(S.g (H b)).2 = .one (.hd n):=by rwa [(gout _ h1 (E9 (by omega))).1]at hb
   have hbb:(Wz S d k o m us).bb b=S.bb b:=Aa _ _ hbd;rw[hbb];exact K.rgn b n e1
 ·show a.tmps.getD t undef=Hc S.ph d 0 us t;have:=Ic (b:=d) (off:=0) (n:=us.length) (Wm ht K.nt);unfold Hc;rw[if_neg this];exact K.sl t ht
 ·obtain⟨f1,f2⟩:=F.no j hj h0;exact⟨keep j _ f1 (by simp),f2⟩
 ·obtain⟨f1,f2⟩:=F.fz j hj h0;exact⟨keep j _ f1 (by simp),f2⟩
 ·obtain⟨f1,rest⟩:=F.bx j b hj h0;exact⟨keep j _ f1 (by simp),rest⟩
def J1:∀ t:Ty,(Dk t).length=t.sz
 |.i _=>rfl
 |.b=>rfl
 |.s=>rfl
 |.sl _ _=>rfl
 |.ow _ _=>rfl
 |.pr x y=>by show (Dk x++Dk y).length=x.sz+y.sz;rw[Vh,J1 x,J1 y]
def Xj {P:Program} {T:TypeId} {t:TI} (h:TOk P T t):∃ d,P.underlying T=some d∧Tx (P.underlying T)=t.ag:=by
 have:=h.desc;unfold Nb at this
 split at this<;>first|(cases this;done)|(rename_i hu;exact⟨_,hu,by rw[hu];rfl⟩)
def Eha {P:Program} {T:TypeId} {t:TI} (h:TOk P T t) (ha:t.ag=false):t.ty.sz=1:=by
 obtain⟨i,_,_,_,_,h4⟩:=h.info;have:=congrArg length (h4 ha);rw[J1]at this;exact this
def Ky {P:Program} {T:TypeId} {t:TI} (h:TOk P T t):(P.info? T).map (λ i=>i.size)=some t.ty.sz:=by
 obtain⟨i,h1,h2,_⟩:=h.info;rw[h1,T0a,h2]
def Xk {P:Program} {w:World} {T:TypeId} {t:TI} {x:Operand} {k o':Nat} {cs:List Value} (ht:TOk P T t) (ho:o.op = .load T x) (he:a.eval x = .pointer (some ⟨k,o',none⟩)) (hc:Ck w k o' cs) (hl:cs.length=t.ty.sz):
  ∃ u,(if t.ag then u = .agg cs.toArray else cs=[u])∧(execOp a.eval o).run P w = .ok (.value u) w:=by
 obtain⟨d,hd,hagg⟩:=Xj ht
 have hc':∀ j v,cs[j]? = some v→w.cell? (Addr.add ⟨k,o',none⟩ j)=some v:=λ j v hj=>by rw[Hx];exact hc j v hj
 cases ha:t.ag with
 |true=>
  rw[ha]at hagg;refine⟨_,rfl,?_⟩;unfold execOp;have hlc:=run_loadCells_list (P:=P) w ⟨k,o',none⟩ cs hc';simp only[ho,he,Instr.loadAt,Instr.sureAddr,Vx,Wn,Vw,loadVar,Jh hd hagg,if_true,Hb (Ky ht),← hl,hlc]
 |false=>
  rw[ha]at hagg;have h1:=Eha ht ha;rw[h1]at hl;obtain⟨u,rfl⟩:∃ u,cs=[u]:=S2a.1 hl;refine⟨u,rfl,?_⟩;have h0:=hc 0 u rfl;rw[Yu]at h0;unfold execOp;simp[ho,he,Instr.loadAt,Instr.sureAddr,loadVar,Jh hd hagg,h0]
def Me (hE:Gx X E) (K:Ah X S a) (hg:S.g=get A) {T:TypeId} {t:TI} {x:Operand} {d k o':Nat} {l:List Lf} {cs:List Value} {s:Sv} (ht:TOk X.P T t) (ho:o.op = .load T x) (hod:o.dst=some d) (hd:d<X.nt)
  (he:a.eval x = .pointer (some ⟨k,o',none⟩)) (hc:Ck S.w k o' cs) (hlen:l.length=t.ty.sz) (hs:I0 t.ag l=some s) (hown:Db l=false) {f:Nat→Lab} (hl:A5 X.P S f 0 l cs):
  E7a X o a S.w (ups A [⟨d,false,s⟩]):=by
 obtain⟨u,e1,hrun⟩:=Xk (P:=X.P) ht ho he hc (hl.len.trans hlen);have hsv:Gi X.P S d s u:=J0 hs e1 (hl.relab hown);have K2:=K.put0 hd s u d (by rw[Lw hs,hown]) hsv;refine Ac (S:=Hq S (λ _ _=>none) d s u) hrun (by rw[hod];exact K2) ?_;show upd S.g d _=_;rw[A8,← hg]
def Kz (K:Ah X S a) (hg:S.g=get A) (b:Nat):∀ (n j:Nat),(cellsOf A b j n).length=n∧Db (cellsOf A b j n)=false∧∀ f i,A5 X.P S f i (cellsOf A b j n) ((List.range n).map λ i=>S.ph (C b (j+i)))
 |0,j=>⟨rfl,rfl,λ f i=>trivial⟩
 |n+1,j=>by
  obtain⟨h1,h2,h3⟩:=Kz K hg b n (j+1);have hat:=K.at_ (C b j);rw[hg]at hat
  have hr:(List.range (n+1)).map (λ i=>S.ph (C b (j+i)))=S.ph (C b j)::(List.range n).map (λ i=>S.ph (C b (j+1+i))):=by
   rw[List.range_succ_eq_map,Yd,Rla,Yu];congr 1;apply Zn;intro i _;show S.ph (C b (j+(i+1)))=_;rw[show j+(i+1)=j+1+i by omega]
  refine⟨by simp[cellsOf,h1],?_,λ f i=>?_⟩
  ·unfold cellsOf;split
   ·exact h2
   ·exact h2
   ·exact h2
   ·rename_i v x hne hne2 hne3 hp
    cases x<;>first|exact h2|exact(hne _ _ _ rfl).elim|exact(hne2 _ _ _ _ _ _ rfl).elim|exact(hne3 _ _ _ _ rfl).elim
   ·exact h2
  ·rw[hr];unfold cellsOf;refine⟨?_,h3 f (i+1)⟩;split
   ·rename_i v e r' xs hp;exact⟨by rw[hg,hp];exact Vq _,λ _=>rfl⟩
   ·rename_i hp;exact⟨by rw[hg,hp];exact Vq _,λ _=>rfl⟩
   ·rename_i hp;exact⟨by rw[hg,hp];exact Vq _,λ _=>rfl⟩
   ·rename_i v x hne hne2 hne3 hp;rw[hp]at hat;refine Af.relab (lab := .pl (C b j) []) ?_ hat
    cases x<;>first|rfl|exact(hne _ _ _ rfl).elim|exact(hne2 _ _ _ _ _ _ rfl).elim|exact(hne3 _ _ _ _ rfl).elim
   ·trivial
def A5.ofRep {P:Program} {l:List Lf} {us:List Value} (h:Hw (Ha P (λ k=>S.O k = .fz) S.w) l us):∀ (f:Nat→Lab) (j:Nat),A5 P S f j l us:=by
 induction h with
 |nil=>intro f j;trivial
 |@cons x u xs us hx _ ih=>
  intro f j;refine⟨?_,ih f (j+1)⟩
  cases x<;>first|exact hx|exact hx.elim
def Ua {P:Program} {G:Nat→Prop} {w:World} {l:List Lf} {us:List Value} (h:Hw (Ha P G w) l us):Db l=false:=by
 induction h with
 |nil=>rfl
 |@cons x u xs us hx _ ih=>cases x<;>first|exact ih|exact hx.elim
def Hl {w:World} {k o':Nat} {cs:List Value} (h:Ck w k o' cs) (off n:Nat):Ck w k (o'+off) ((cs.drop off).take n):=by
 intro j u hu;rw[Wg]at hu;split at hu
 ·rw[Ya]at hu;rw[Ys];exact h _ _ hu
 ·cases hu
def Aha (K:Ah X S a) {p v:Nat} {i:Int} {off:Nat} {lab:Lab} {u:Value} {e:TypeId} {r':Ty} {xs:List r'.den} (hno:Hh r'=true) (hp:S.g p=(v,.one (.own e r' xs))) (h:Af X.P S lab (.ep p v i off) u):
  ∃ k cs cur cap,u = .pointer (some ⟨k,i.toNat*r'.sz+off,none⟩)∧r'.rep X.P (λ k=>S.O k = .fz) S.w (xs.getD i.toNat r'.dflt) cs∧Ck S.w k (i.toNat*r'.sz) cs∧i.toNat<xs.length∧
   S.ph p = .slice (some ⟨k,0,none⟩) xs.length cap∧S.w.heap[k]? = some (.cells cur e (0,0))∧S.O k = .pl p []:=by
 obtain⟨_,h2⟩:=h;obtain⟨h0,h1,k,cap,h3,h4⟩:=h2 e r' xs hp
 have hown:Cs X.P S.O S.w (.pl p []) e r' xs (S.ph p):=by have:=K.at_ p;rw[hp]at this;exact this
 obtain⟨_,cs,hrow,hrows,hk⟩:=(Cs.flat hno).1 hown;rcases Da hrow with⟨e1,_⟩|⟨k',cap',cur,e1,hcur,_,_,_,ht⟩
 ·rw[h3]at e1;cases e1
 ·rw[h3]at e1;cases e1;obtain⟨c,hc1,hc2⟩:=Eca (S:=S) (Ty.rep_len r') hrows (i:=i.toNat) (x:=xs.getD i.toNat r'.dflt) (by rw[Vn,Vs h1];rfl) (Gb hcur ht);rw[Wb]at hc2;exact⟨k,c,cur,cap,h4,hc1,hc2,h1,h3,hcur,hk k (by rw[h3];rfl)⟩
def G8:∀ (t:Ty) (x:t.den),(A4 t x).length=t.sz
 |.i _,_=>rfl
 |.b,_=>rfl
 |.s,_=>rfl
 |.sl _ _,_=>rfl
 |.ow _ _,_=>rfl
 |.pr x y,p=>by
  show (A4 x p.1++A4 y p.2).length=x.sz+y.sz;rw[Vh,G8 x p.1,G8 y p.2]
def Eia {p v:Nat} {pi:Option (List (Int×Nat))} {i:Int}:∀ {j:Nat} {l:List Lf},(daL p v pi i j l).length=l.length
 |_,[]=>rfl
 |j,x::l=>by cases x<;>simp[daL,Eia]
def Eja {p v:Nat} {pi:Option (List (Int×Nat))} {i:Int}:∀ {j:Nat} {l m:List Lf},daL p v pi i j (l++m)=daL p v pi i j l++daL p v pi i (j+l.length) m
 |j,[],m=>by simp[daL]
 |j,x::l,m=>by
  have e:j+(x::l).length=j+1+l.length:=by simp only[Vg];omega
  rw[e]
  cases x<;>simp[daL,Eja]
def Ub {p v:Nat} {pi:Option (List (Int×Nat))} {i:Int}:∀ (j:Nat) (l:List Lf),∀ y∈daL p v pi i j l,y.isOwn=false
 |_,[]=>by simp[daL]
 |j,x::l=>by
  have ih:=Ub (p:=p) (v:=v) (pi:=pi) (i:=i) (j+1) l
  cases x<;>(intro y hy;simp only[daL,Vk]at hy;rcases hy with rfl|hy<;>first|rfl|exact ih y hy)
def Pk:∀ {l:List Lf},(∀ y∈l,y.isOwn=false)→Db l=false
 |[],_=>rfl
 |x::l,h=>by
  have h1:=h x (by simp);have h2:=Pk (λ y hy=>h y (Vd _ hy))
  cases x<;>first|(simp[Lf.isOwn]at h1;done)|exact h2
def Cda {l:List Lf} (h:∀ y∈l,y.isOwn=false) (n m:Nat):Db ((l.drop n).take m)=false:=Pk λ y hy=>h y (Zk (Sda hy))
def Hd:∀ t:Ty,(Ew t).length=t.sz
 |.i _=>rfl
 |.b=>rfl
 |.s=>rfl
 |.sl _ _=>rfl
 |.ow _ _=>rfl
 |.pr x y=>by show (Ew x++Ew y).length=x.sz+y.sz;rw[Vh,Hd x,Hd y]
def J2:∀ {t:Ty} {x:t.den} {j:Nat} {e:TypeId} {r:Ty} {ys:List r.den},nth (A4 t x) j=some (.own e r ys)→nth (Ew t) j=some (.ow e r)
 |.i _,_,0,_,_,_,h=>by simp[A4,nth]at h
 |.i _,_,_+1,_,_,_,h=>by simp[A4,nth]at h
 |.b,_,0,_,_,_,h=>by simp[A4,nth]at h
 |.b,_,_+1,_,_,_,h=>by simp[A4,nth]at h
 |.s,_,0,_,_,_,h=>by simp[A4,nth]at h
 |.s,_,_+1,_,_,_,h=>by simp[A4,nth]at h
 |.sl _ _,_,0,_,_,_,h=>by simp[A4,nth]at h
 |.sl _ _,_,_+1,_,_,_,h=>by simp[A4,nth]at h
 |.ow _ _,_,0,_,_,_,h=>by
  simp only[A4,nth,Vc]at h;cases h;rfl
 |.ow _ _,_,_+1,_,_,_,h=>by simp[A4,nth]at h
 |.pr x y,p,j,e,r,ys,h=>by
  rw[Fy]at h ⊢;have h:(A4 x p.1++A4 y p.2)[j]? = some (.own e r ys):=h;show (Ew x++Ew y)[j]? = _
  by_cases hj:j<x.sz
  ·rw[Yg (by rw[G8];exact hj),← Fy]at h;rw[Yg (by rw[Hd];exact hj),← Fy];exact J2 h
  ·rw[Ye (by rw[G8];omega),G8,← Fy]at h;rw[Ye (by rw[Hd];omega),Hd,← Fy];exact J2 h
def Aia {e1:TypeId} {r1:Ty} {ys:List r1.den} {i:Int} {j:Nat} {e2:TypeId} {r2:Ty} {zs:List r2.den} (hi:0≤i∧i.toNat<ys.length) (hn:nth (A4 r1 (ys.getD i.toNat r1.dflt)) j=some (.own e2 r2 zs)):
  ∀ (q:List (Int×Nat)) (e:TypeId) (r:Ty) (xs:List r.den),Aba q e r xs=some ⟨e1,r1,ys⟩→Aba (q++[(i,j)]) e r xs=some ⟨e2,r2,zs⟩
 |[],e,r,xs,h=>by
  simp only[Aba,Vc]at h;cases h;simp only[Wc,Aba];rw[if_pos hi,hn]
 |(i',j')::q,e,r,xs,h=>by
  simp only[Aba,List.cons_append]at h ⊢
  by_cases hc:0≤i'∧i'.toNat<xs.length
  ·rw[if_pos hc]at h ⊢;split at h
   ·rename_i e3 r3 ws hw;exact Aia hi hn q e3 r3 ws h
   ·cases h
  ·rw[if_neg hc]at h;cases h
def Ln.app {G:Nat→Prop} {w:World} {i:Int} {j k o n cap:Nat} {e2:TypeId} {r1 r2:Ty} {u2:Value} (hG:G k) (hc:w.cell? ⟨k,o+(i.toNat*r1.sz+j),none⟩=some u2) (hs:nth (Ew r1) j=some (.ow e2 r2)) {e1:TypeId} {ys:List r1.den}:
  ∀ (q:List (Int×Nat)) (e:TypeId) (r:Ty) (xs:List r.den) (u:Value),Aba q e r xs=some ⟨e1,r1,ys⟩→Ln G w q r u (.slice (some ⟨k,o,none⟩) n cap)→Ln G w (q++[(i,j)]) r u u2
 |[],e,r,xs,u,hl,h=>by
  simp only[Aba,Vc]at hl;cases hl;exact⟨k,o,n,cap,e2,r2,u2,h.symm,hG,hc,hs,rfl⟩
 |(i',j')::q,e,r,xs,u,hl,⟨k',o',n',cap',e3,r3,u3,h1,h2,h3,h4,h5⟩=>by
  simp only[Aba]at hl;split at hl
  ·split at hl
   ·rename_i e4 r4 ws hw;have hsl:nth (Ew r) j'=some (.ow e4 r4):=J2 hw;rw[h4]at hsl;cases hsl;exact⟨k',o',n',cap',e3,r3,u3,h1,h2,h3,h4,h5.app hG hc hs q e3 r3 ws u3 hl⟩
   ·cases hl
  ·cases hl
def Eka {P:Program} {S:Sit} {p v:Nat} {pi:Option (List (Int×Nat))} {i:Int} (hv:(S.g p).1=v) (hdeep:Xd (S.g p).2=true):∀ (t:Ty) (x:t.den) (c:List Value) (b:List Nat) (j0:Nat),Eh t=true→t.dep P (λ k=>S.O k = .fz) S.w x c b→(∀ k∈b,Kfa S p k)→
  (∀ n e1 r1 ys u1,nth (A4 t x) n=some (.own e1 r1 ys)→c[n]? = some u1→Kga S p (match pi with|some q=>some (q++[(i,j0+n)])|none=>none) e1 r1 ys u1)→
  ∀ (f:Nat→Lab) (m:Nat),A5 P S f m (daL p v pi i j0 (A4 t x)) c
 |.i _,_,_,_,_,_,⟨e,_⟩,_,_=>by subst e;exact λ f m=>⟨⟨rfl,rfl⟩,trivial⟩
 |.b,_,_,_,_,_,⟨e,_⟩,_,_=>by subst e;exact λ f m=>⟨⟨rfl,rfl⟩,trivial⟩
 |.s,_,_,_,_,_,⟨e,_⟩,_,_=>by subst e;exact λ f m=>⟨⟨rfl,rfl⟩,trivial⟩
 |.sl _ _,_,_,_,_,h,_,_,_=>by simp[Eh]at h
 |.ow e r,xs,c,b,j0,h,⟨u,cs,b2,ev,hs,ho,hd,eb⟩,hm,hp=>by
  subst ev;refine λ f m=>⟨⟨h,Rva hv.symm,λ _=>⟨hdeep,⟨hs,?_⟩,?_⟩⟩,trivial⟩
  ·rcases Da ho with⟨rfl,e2,rfl⟩|⟨k,cap,cur,rfl,hc,h1,_,_,ht⟩
   ·exact⟨none,0,[],b2,by rw[e2],by omega,hd,λ k hk=>hm k (by rw[eb];exact Vi _ hk),λ hn=>absurd (Xs e2) hn⟩
   ·exact⟨_,cap,cs,b2,rfl,h1,hd,λ k hk=>hm k (by rw[eb];exact Vi _ hk),λ _=>⟨k,0,rfl,hm k (by rw[eb];simp[Value.ownBlock]),Gb hc ht⟩⟩
  ·have:=hp 0 e r xs u rfl rfl;exact this
 |.pr y z,x,c,b,j0,h,⟨c1,c2,b1,b2,ec,eb,h1,h2⟩,hm,hp=>by
  simp only[Eh,Va]at h;subst ec eb;have l1:=Ty.dep_len y x.1 c1 b1 h1;have l2:=G8 y x.1
  have i1:=Eka (P:=P) hv hdeep y x.1 c1 b1 j0 h.1 h1 (λ k hk=>hm k (Vt _ hk)) (λ n e1 r1 ys u1 hn hu=>hp n e1 r1 ys u1 (by
   rw[Fy]at hn ⊢;show (A4 y x.1++A4 z x.2)[n]? = _;rw[Yg (Wh.1 hn).1]
   exact hn) (by rw[Yg (Wh.1 hu).1];exact hu))
  have i2:=Eka (P:=P) hv hdeep z x.2 c2 b2 (j0+y.sz) h.2 h2 (λ k hk=>hm k (Vi _ hk)) (λ n e1 r1 ys u1 hn hu=>by
   have:=hp (y.sz+n) e1 r1 ys u1 (by
    rw[Fy]at hn ⊢;show (A4 y x.1++A4 z x.2)[y.sz+n]? = _;rw[Ye (by omega),l2,show y.sz+n-y.sz=n by omega]
    exact hn) (by rw[Ye (by omega),l1,show y.sz+n-y.sz=n by omega];exact hu)
   rw[← Ys]at this
   exact this)
  intro f m;show A5 P S f m (daL p v pi i j0 (A4 y x.1++A4 z x.2)) (c1++c2);rw[Eja,l2];exact A5.app (i1 f m) (i2 f _)
def I8a {P:Program} {S:Sit} {p v:Nat} {pi:Option (List (Int×Nat))} {e:TypeId} {r':Ty} {xs:List r'.den} {i:Int} {off:Nat} {h u:Value} (hda:Dka P S p v pi e r' xs h) (hv:(S.g p).1=v)
  (hdp:0≤i∧i.toNat<xs.length∧∃ k o cap,h = .slice (some ⟨k,o,none⟩) xs.length cap∧u = .pointer (some ⟨k,o+(i.toNat*r'.sz+off),none⟩)):
  ∃ k o' c,u = .pointer (some ⟨k,o'+off,none⟩)∧Ck S.w k o' c∧∀ f m,A5 P S f m (daL p v pi i 0 (A4 r' (xs.getD i.toNat r'.dflt))) c:=by
 obtain⟨i0,i1,k,o,cap,e1,e2⟩:=hdp;obtain⟨d1,_,d2⟩:=hda;obtain⟨d3,⟨d4,ad,cap',cs,bs,d5,d6,d7,d8,d9⟩,d10⟩:=d2 hv;rw[e1]at d5;cases d5;obtain⟨k',o',e3,m1,hc⟩:=d9 (by intro e0;subst e0;simp at i1);cases e3
 have hx:xs[i.toNat]? = some (xs.getD i.toNat r'.dflt):=by rw[Vn,Vs i1];rfl
 obtain⟨b,g1,g2⟩:=d7.get (Ty.dep_len r') i.toNat _ hx;have hce:Ck S.w k (o+i.toNat*r'.sz) ((cs.drop (i.toNat*r'.sz)).take r'.sz):=Hl hc _ _;refine⟨k,o+i.toNat*r'.sz,_,by rw[e2,Ys],hce,Eka hv d3 r' _ _ b 0 d1 g1 (λ k hk=>d8 k (g2.subset hk)) (λ n e4 r4 ys u4 hn hu q hq E R XS hgp=>?_)⟩
 cases pi with
 |none=>cases hq
 |some q0=>
  cases hq;obtain⟨f1,f2⟩:=d10 q0 rfl E R XS hgp;rw[e1]at f2;rw[Wb];refine⟨Aia ⟨i0,i1⟩ hn q0 E R XS f1,Ln.app (r1:=r') (i:=i) (j:=n) m1 ?_ (J2 hn) q0 E R XS _ f1 f2⟩;have:=hce n u4 hu;rw[Ys]at this;exact this
def Lla (hE:Gx X E) (K:Ah X S a) (hg:S.g=get A) {T:TypeId} {x:Operand} {d:Nat} (ho:o.op = .load T x) (hod:o.dst=some d) (hd:d<X.nt) (h:Ai E o A Kc=some r):Fw X o a S.w A Kc r:=by
 unfold Ai at h;rw[ho,hod]at h;simp only at h;split at h
 ·rename_i ti b v off hti hs;obtain⟨pl,hsv⟩:=Fc hE K hg hs;have hlf:Af X.P S (.pl pl []) (.bp b v off) (a.eval x):=hsv;split at h
  ·rename_i n m hp;rw[csi]at h;obtain⟨hq,h⟩:=h;simp only[Va]at hq
   have hnv:n=v:=by simpa using hq.1
   have hle:off+ti.ty.sz≤m:=Ve hq.2;subst hnv;split at h
   ·rename_i s hof;obtain⟨_,c,e,h1,h2,h3,h4⟩:=K.box b m (by rw[hg,hp]);obtain⟨c1,c2,c3⟩:=Kz K hg b ti.ty.sz off;refine⟨_,h,Me hE K hg (hE.ti _ _ hti) ho hod hd (hlf.2 (by rw[hg,hp])) (cs:=(List.range ti.ty.sz).map λ i=>S.ph (C b (off+i))) (λ j u hu=>?_) c1 hof c2 (c3 (λ _ => .no) 0)⟩
    have hj:j<ti.ty.sz:=by
     rcases Rua j ti.ty.sz with h|h
     ·exact h
     ·rw[Rma (by simpa using h)]at hu;cases hu
    simp[hj]at hu;subst hu;simp[World.cell?,h1,Ys,h4 (off+j) (by omega)]
   ·cases h
  ·cases h
 ·rename_i ti p v i off hti hs;obtain⟨pl,hsv⟩:=Fc hE K hg hs;have hlf:Af X.P S (.pl pl []) (.ep p v i off) (a.eval x):=hsv;split at h
  ·rename_i n e r' xs hp;rw[csi]at h;obtain⟨hq,h⟩:=h;simp only[Va]at hq
   have hnv:n=v:=by simpa using hq.1.1
   have hle:off+ti.ty.sz≤r'.sz:=Ve hq.2;subst hnv;split at h
   ·rename_i s hof;obtain⟨k,cs,cur,cap,e1,e2,e3,_⟩:=Aha K hq.1.2 (by rw[hg,hp]) hlf;have hrep:=((Jf _ _ _ e2).drop off).take ti.ty.sz;exact⟨_,h,Me hE K hg (hE.ti _ _ hti) ho hod hd e1 (Hl e3 off ti.ty.sz) (by rw[Vl,Vy,Ry];omega) hof (Ua hrep) (A5.ofRep hrep (λ _ => .no) 0)⟩
   ·cases h
  ·cases h
 ·rename_i ti p v pi e r' xs i off hti hs;obtain⟨pl,hsv⟩:=Fc hE K hg hs;obtain⟨hd',hda,hdp⟩:Af X.P S (.pl pl []) (.dp p v pi e r' xs i off) (a.eval x):=hsv;rw[csi]at h;obtain⟨hq,h⟩:=h;simp only[Va]at hq
  have hv:(S.g p).1=v:=by rw[hg];exact Vb hq.1
  have hle:off+ti.ty.sz≤r'.sz:=Ve hq.2;split at h
  ·rename_i s hof;obtain⟨k,o',c,e1,e2,e3⟩:=I8a hda hv (hdp hv);exact⟨_,h,Me hE K hg (hE.ti _ _ hti) ho hod hd e1 (Hl e2 off ti.ty.sz) (by rw[Vl,Vy,Eia,G8];omega) hof (Cda (Ub _ _) off _) (A5.shift (j:=0) off (((e3 (λ _ => .no) 0).drop off).take ti.ty.sz))⟩
  ·cases h
 ·rename_i ti r' y off hti hs;obtain⟨pl,hsv⟩:=Fc hE K hg hs;obtain⟨k,o',cs,e1,e2,e3,e4⟩:Af X.P S (.pl pl []) (.fp r' y off) (a.eval x):=hsv;rw[csi]at h;obtain⟨hq,h⟩:=h;have hle:off+ti.ty.sz≤r'.sz:=Ve hq;split at h
  ·rename_i s hof;have hrep:=((Jf _ _ _ e3).drop off).take ti.ty.sz;exact⟨_,h,Me hE K hg (hE.ti _ _ hti) ho hod hd e1 (Hl e4 off ti.ty.sz) (by rw[Vl,Vy,Ry];omega) hof (Ua hrep) (A5.ofRep hrep (λ _ => .no) 0)⟩
  ·cases h
 ·cases h
end
end

section
attribute [local irreducible] C H
def Nya (P:Program) (G:Nat→Prop) (w:World):Lf→Value→List Nat→Prop
 |.sc v,u,bs=>u=v∧X5 v=true∧bs=[]
 |.own e r xs,u,bs=>(Ty.ow e r).dep P G w xs [u] bs
 |_,_,_=>False
def Gr (P:Program) (G:Nat→Prop) (w:World):List Lf→List Value→List Nat→Prop
 |[],us,bs=>us=[]∧bs=[]
 |x::xs,us,bs=>∃ u us' b1 b2,us=u::us'∧bs=b1++b2∧Nya P G w x u b1∧Gr P G w xs us' b2
section
variable {P:Program} {G G':Nat→Prop} {w w':World}
def Gr.app:∀ {l m:List Lf} {us vs:List Value} {bs es:List Nat},Gr P G w l us bs→Gr P G w m vs es→Gr P G w (l++m) (us++vs) (bs++es)
 |[],_,_,_,_,_,h,h'=>by obtain⟨rfl,rfl⟩:=h;exact h'
 |_::_,_,_,_,_,_,⟨u,us',b1,b2,e1,e2,h1,h2⟩,h'=>by subst e1 e2;exact⟨u,_,b1,_,rfl,by rw[Vj],h1,h2.app h'⟩
def Gr.len:∀ {l:List Lf} {us:List Value} {bs:List Nat},Gr P G w l us bs→us.length=l.length
 |[],_,_,h=>by obtain⟨rfl,_⟩:=h;rfl
 |_::_,_,_,⟨_,_,_,_,e,_,_,h⟩=>by subst e;simp[h.len]
def Gr.split:∀ {l m:List Lf} {us:List Value} {bs:List Nat},Gr P G w (l++m) us bs→∃ b1 b2,bs=b1++b2∧Gr P G w l (us.take l.length) b1∧Gr P G w m (us.drop l.length) b2
 |[],m,us,bs,h=>⟨[],bs,rfl,⟨rfl,rfl⟩,by simpa using h⟩
 |x::l,m,us,bs,⟨u,us',b1,b2,e1,e2,h1,h2⟩=>by
  subst e1 e2;obtain⟨b3,b4,e3,h3,h4⟩:=h2.split;subst e3;exact⟨b1++b3,b4,by rw[Vj],⟨u,us'.take l.length,b1,b3,rfl,rfl,h1,h3⟩,h4⟩
def Nya.mono (hG:∀ k,G k→G' k) (hw:∀ k,G k→w'.heap[k]? = w.heap[k]?) {x:Lf} {u:Value} {bs:List Nat} (hb:∀ k∈bs,w'.heap[k]? = w.heap[k]?) (h:Nya P G w x u bs):Nya P G' w' x u bs:=by
 cases x with
 |own e r xs=>exact Ty.dep_mono hG hw (.ow e r) xs [u] bs hb h
 |_=>exact h
def Gr.mono (hG:∀ k,G k→G' k) (hw:∀ k,G k→w'.heap[k]? = w.heap[k]?):∀ {l:List Lf} {us:List Value} {bs:List Nat},(∀ k∈bs,w'.heap[k]? = w.heap[k]?)→Gr P G w l us bs→Gr P G' w' l us bs
 |[],_,_,_,h=>h
 |_::_,_,_,hb,⟨u,us',b1,b2,e1,e2,h1,h2⟩=>⟨u,us',b1,b2,e1,e2,h1.mono hG hw (λ k hk=>hb k (by rw[e2];exact Vt _ hk)),h2.mono hG hw (λ k hk=>hb k (by rw[e2];exact Vi _ hk))⟩
def J3:∀ (t:Ty) (x:t.den) (vs:List Value) (bs:List Nat),Eh t=true→t.dep P G w x vs bs→Gr P G w (A4 t x) vs bs
 |.i _,_,_,_,_,⟨e,e'⟩=>by subst e e';exact⟨_,[],[],[],rfl,rfl,⟨rfl,rfl,rfl⟩,rfl,rfl⟩
 |.b,_,_,_,_,⟨e,e'⟩=>by subst e e';exact⟨_,[],[],[],rfl,rfl,⟨rfl,rfl,rfl⟩,rfl,rfl⟩
 |.s,_,_,_,_,⟨e,e'⟩=>by subst e e';exact⟨_,[],[],[],rfl,rfl,⟨rfl,rfl,rfl⟩,rfl,rfl⟩
 |.sl _ _,_,_,_,h,_=>by simp[Eh]at h
 |.ow e r,xs,vs,bs,_,h=>by
  obtain⟨v,cs,b2,ev,hs,ho,hd,eb⟩:=h;subst ev;exact⟨v,[],bs,[],rfl,by simp,⟨v,cs,b2,rfl,hs,ho,hd,eb⟩,rfl,rfl⟩
 |.pr x y,p,_,_,h,⟨c,d,b1,b2,e,eb,h1,h2⟩=>by
  simp only[Eh,Va]at h;subst e eb;exact(J3 x p.1 c b1 h.1 h1).app (J3 y p.2 d b2 h.2 h2)
def I9a {e:TypeId} {r r':Ty} {xs:List r'.den} {ys:List r.den} {vs:List Value} {bs:List Nat} (hc:Li r r' xs=some ys) (h:(Ty.ow e r').dep P G w xs vs bs):(Ty.ow e r).dep P G w ys vs bs:=by
 rcases R3 hc with⟨e1,e2⟩|⟨e1,rfl,rfl⟩
 ·subst e1 e2;exact h
 ·obtain⟨v,cs,b2,ev,hs,ho,hd,eb⟩:=h
  have hsz:r'.sz=r.sz:=by rw[← Ho r',e1,Ho r]
  exact⟨v,cs,b2,ev,by rw[← hsz];exact hs,by rw[← hsz];exact ho,hd,eb⟩
def Lma:∀ (t:Ty) (l l':List Lf) (x:t.den) (us:List Value) (bs:List Nat),Eh t=true→mkT t l=some (x,l')→Gr P G w l us bs→
  ∃ vs ws b1 b2,us=vs++ws∧bs=b1++b2∧t.dep P G w x vs b1∧Gr P G w l' ws b2:=by
 intro t
 induction t with
 |i k=>
  intro l l' x us bs _ h hl
  cases l with
  |nil=>simp[mkT]at h
  |cons y ys=>
   obtain⟨u,us',b1,b2,e1,e2,hy,hys⟩:=hl
   cases y<;>first|(simp[mkT]at h;done)|skip
   rename_i v
   cases v<;>first|(simp[mkT]at h;done)|skip
   rename_i k' n;simp only[mkT]at h
   by_cases hk:k=k'
   ·subst hk;simp at h;obtain⟨rfl,rfl⟩:=h;obtain⟨rfl,_,rfl⟩:=hy;exact⟨[_],us',[],b2,e1,e2,⟨rfl,rfl⟩,hys⟩
   ·simp[hk]at h
 |b=>
  intro l l' x us bs _ h hl
  cases l with
  |nil=>simp[mkT]at h
  |cons y ys=>
   obtain⟨u,us',b1,b2,e1,e2,hy,hys⟩:=hl
   cases y<;>first|(simp[mkT]at h;done)|skip
   rename_i v
   cases v<;>first|(simp[mkT]at h;done)|skip
   simp[mkT]at h;obtain⟨rfl,rfl⟩:=h;obtain⟨rfl,_,rfl⟩:=hy;exact⟨[_],us',[],b2,e1,e2,⟨rfl,rfl⟩,hys⟩
 |s=>
  intro l l' x us bs _ h hl
  cases l with
  |nil=>simp[mkT]at h
  |cons y ys=>
   obtain⟨u,us',b1,b2,e1,e2,hy,hys⟩:=hl
   cases y<;>first|(simp[mkT]at h;done)|skip
   rename_i v
   cases v<;>first|(simp[mkT]at h;done)|skip
   simp[mkT]at h;obtain⟨rfl,rfl⟩:=h;obtain⟨rfl,_,rfl⟩:=hy;exact⟨[_],us',[],b2,e1,e2,⟨rfl,rfl⟩,hys⟩
 |sl e r _=>intro l l' x us bs h;simp[Eh]at h
 |ow e r _=>
  intro l l' x us bs _ h hl
  cases l with
  |nil=>simp[mkT]at h
  |cons y ys=>
   obtain⟨u,us',b1,b2,e1,e2,hy,hys⟩:=hl
   cases y<;>first|(simp[mkT]at h;done)|skip
   rename_i e' r' xs;simp only[mkT]at h;rw[csi]at h;obtain⟨he,h⟩:=h;split at h
   ·rename_i zs hz;have:e=e':=Vb he;subst this;cases h;exact⟨[u],us',b1,b2,e1,e2,I9a hz hy,hys⟩
   ·cases h
 |pr x y ihx ihy=>
  intro l l' p us bs ha h hl;simp only[Eh,Va]at ha;simp only[mkT]at h;split at h
  ·rename_i q l1 h1;split at h
   ·rename_i q2 l2 h2;simp at h;obtain⟨rfl,rfl⟩:=h;obtain⟨vs,ws,b1,b2,rfl,rfl,r1,hw1⟩:=ihx _ _ _ _ _ ha.1 h1 hl;obtain⟨vs2,ws2,b3,b4,rfl,rfl,r2,hw2⟩:=ihy _ _ _ _ _ ha.2 h2 hw1;exact⟨vs++vs2,ws2,b1++b3,b4,by rw[Vj],by rw[Vj],⟨vs,vs2,b1,b3,rfl,rfl,r1,r2⟩,hw2⟩
   ·cases h
  ·cases h
def Sd {t:Ty} {l:List Lf} {x:t.den} {us:List Value} {bs:List Nat} (ha:Eh t=true) (h:mkW t l=some x) (hl:Gr P G w l us bs):t.dep P G w x us bs:=by
 unfold mkW at h;split at h
 ·rename_i y hy;simp at h;subst h;obtain⟨vs,ws,b1,b2,rfl,rfl,hr,hw⟩:=Lma _ _ _ _ _ _ ha hy hl;obtain⟨rfl,rfl⟩:=hw;rw[Yf,Yf];exact hr
 ·cases h
def Pl:∀ {t:Ty} {j:Nat} {e:TypeId} {r:Ty},Eh t=true→nth (Ew t) j=some (.ow e r)→Eh r=true
 |.i _,0,_,_,_,h=>by simp[Ew,nth]at h
 |.i _,_+1,_,_,_,h=>by simp[Ew,nth]at h
 |.b,0,_,_,_,h=>by simp[Ew,nth]at h
 |.b,_+1,_,_,_,h=>by simp[Ew,nth]at h
 |.s,0,_,_,_,h=>by simp[Ew,nth]at h
 |.s,_+1,_,_,_,h=>by simp[Ew,nth]at h
 |.sl _ _,_,_,_,ha,_=>by simp[Eh]at ha
 |.ow _ _,0,_,_,ha,h=>by
  simp only[Ew,nth,Vc]at h;cases h;exact ha
 |.ow _ _,_+1,_,_,_,h=>by simp[Ew,nth]at h
 |.pr x y,j,e,r,ha,h=>by
  simp only[Eh,Va]at ha;rw[Fy]at h;have h:(Ew x++Ew y)[j]? = some (.ow e r):=h
  by_cases hj:j<(Ew x).length
  ·rw[Yg hj,← Fy]at h;exact Pl ha.1 h
  ·rw[Ye (by omega),← Fy]at h;exact Pl ha.2 h
def Gr.set {l m:List Lf} {cs us:List Value} {bs mb:List Nat} {off:Nat} (h:Gr P G w l cs bs) (hm:Gr P G w m us mb) (hle:off+m.length≤l.length):
  ∃ ba bx bc,bs=ba++bx++bc∧Gr P G w (l.take off) (cs.take off) ba∧Gr P G w ((l.drop off).take m.length) ((cs.drop off).take m.length) bx∧
   Gr P G w (Vf.setAll l off m) (cs.take off++us++cs.drop (off+us.length)) (ba++mb++bc):=by
 have e0:l=l.take off++((l.drop off).take m.length++l.drop (off+m.length)):=by
  rw[← Wp,Wo,Wo]
 have h0:=h;rw[e0]at h0;obtain⟨b1,b2,e1,h1,h2⟩:=h0.split;obtain⟨b3,b4,e2,h3,h4⟩:=h2.split
 have l1:(l.take off).length=off:=by rw[Vl];omega
 have l2:((l.drop off).take m.length).length=m.length:=by rw[Vl,Vy];omega
 rw[l1]at h1 h3 h4;rw[l2]at h3 h4;subst e1 e2;refine⟨b1,b3,b4,by rw[Vj],h1,h3,?_⟩;unfold Vf.setAll;rw[hm.len];rw[Wp]at h4;exact(h1.app hm).app h4
def C0.set {α:Type} {R:α→List Value→List Nat→Prop} {n:Nat} (hn:∀ x c b,R x c b→c.length=n):∀ {xs:List α} {cs:List Value} {bs:List Nat} (_:C0 R xs cs bs) (i:Nat) (x:α),xs[i]? = some x→
  ∃ ba b bc,bs=ba++b++bc∧R x ((cs.drop (i*n)).take n) b∧∀ (R':α→List Value→List Nat→Prop) (z:α) (c':List Value) (b':List Nat),R' z c' b'→(∀ y c b0,(∀ k∈b0,k∈ba∨k∈bc)→R y c b0→R' y c b0)→C0 R' (xs.set i z) (cs.take (i*n)++c'++cs.drop (i*n+n)) (ba++b'++bc)
 |[],_,_,_,i,x,hx=>by simp at hx
 |y::ys,_,_,⟨c,d,b1,b2,e,eb,h1,h2⟩,0,x,hx=>by
  simp at hx;subst hx e eb;have hl:=hn _ _ _ h1;refine⟨[],b1,b2,rfl,?_,λ R' z c' b' hz ho=>?_⟩
  ·simp only[Zh,We];rw[← hl,Rpa];exact h1
  ·refine⟨c',d,b',b2,?_,rfl,hz,h2.mono (λ x c b hb hx=>ho x c b (λ k hk => .inr (hb k hk)) hx)⟩;simp only[Zh,Rka,Wc,Wb,← hl,Yw]
 |y::ys,_,_,⟨c,d,b1,b2,e,eb,h1,h2⟩,i+1,x,hx=>by
  subst e eb;have hl:=hn _ _ _ h1;obtain⟨ba,b,bc,e1,h3,h4⟩:=C0.set hn h2 i x (by simpa using hx);subst e1
  have e2:(i+1)*n=c.length+i*n:=by rw[hl,Yh,Ym,Zd]
  refine⟨b1++ba,b,bc,by simp[Vj],?_,λ R' z c' b' hz ho=>?_⟩
  ·rw[e2,← Wp,Yw];exact h3
  ·refine⟨c,_,b1,ba++b'++bc,?_,by simp[Vj],ho y c b1 (λ k hk => .inl (Vt _ hk)) h1,h4 R' z c' b' hz (λ y c b0 hb hy=>ho y c b0 (λ k hk=>(hb k hk).imp (Vi _) id) hy)⟩;rw[e2,Ze,Ys,← Wp,Yw];simp[Vj]
end
end

end Go.Proofs.YtbbifgjgneefkaaGreat.Vf
