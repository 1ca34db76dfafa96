import Derived.Test.YtcpligincipmhaaGreatMad
import Derived.Laws.CopyRow
set_option linter.all false
namespace Go.Proofs.YtcpligincipmhaaGreat.Vf
open Go
open List (length getD)
open Int (toNat)
open Go.IntKind (wrap)
open BitVec (ofInt)
def Vm:=@List.mem_append
def Vp:=@List.mem_singleton
def Vv:=@List.length_set
def Xs:=@List.nodup_append
def Yl:=@List.nodup_cons
def Zw:=@Bool.or_eq_true
def D3b:=@List.take_of_length_le
def D7b:=@List.set_eq_take_append_cons_drop
def Dab:=@Nat.le_succ
def Dyb:=@List.drop_take
def E1b:=@Ne.symm
def F0b:=@List.Sublist.trans
def F1b:=@Nat.beq_refl
def F6b:=@Classical.byContradiction
def Fsb:=@List.take_add

section
attribute [local irreducible] C H
def U3a {cs us:List Value} {i sz off:Nat} (h1:i+sz≤cs.length) (h2:off+us.length≤sz):
  cs.take (i+off)++us++cs.drop (i+off+us.length)=cs.take i++(((cs.drop i).take sz).take off++us++((cs.drop i).take sz).drop (off+us.length))++cs.drop (i+sz):=by
 have e1:cs.take (i+off)=cs.take i++((cs.drop i).take sz).take off:=by
  rw[Dmb,D0b (by omega),← Fsb]
 have e2:cs.drop (i+off+us.length)=((cs.drop i).take sz).drop (off+us.length)++cs.drop (i+sz):=by
  rw[Dyb,Yo,← Zk]
  have:cs.drop (i+sz)=(cs.drop (i+off+us.length)).drop (sz-(off+us.length)):=by rw[Yo];congr 1;omega
  rw[this,Wi]
 rw[e1,e2];simp[Vo]
def Tz {L us:List Value} {j n:Nat} (h:j+us.length≤n) (hn:n≤L.length):(L.take j++us++L.drop (j+us.length)).take n=(L.take n).take j++us++(L.take n).drop (j+us.length):=by
 have hl:(L.take j++us).length=j+us.length:=by rw[Vi,Vq];omega
 rw[Dmb,D0b (by omega),Dyb,List.take_append,D3b (by rw[hl];exact h),hl]
def Jka {l1 bx mb l2:List Nat} (h:(l1++bx++l2).Nodup) (hm:mb.Nodup) (hd:∀ k∈mb,k∉l1++bx++l2):(l1++mb++l2).Nodup:=by
 simp only[Xs,Vm,not_or]at h hd ⊢;obtain⟨⟨n1,n2,n3⟩,n4,n5⟩:=h;refine⟨⟨n1,hm,λ a ha b hb e=>(hd b hb).1.1 (e ▸ ha)⟩,n4,λ a ha b hb e=>?_⟩;rcases ha with ha|ha
 ·exact n5 a (.inl ha) b hb e
 ·exact(hd a ha).2 (e ▸ hb)
def F1a {l1 bx mb l2:List Nat} (h:(l1++bx++l2).Nodup) (hm:mb.Nodup) (hd:∀ k∈mb,k∈l1++bx++l2→k∈bx):(l1++mb++l2).Nodup:=by
 simp only[Xs,Vm]at h hd ⊢;obtain⟨⟨n1,n2,n3⟩,n4,n5⟩:=h;refine⟨⟨n1,hm,λ a ha b hb e=>?_⟩,n4,λ a ha b hb e=>?_⟩
 ·subst e;exact n3 a ha a (hd a hb (.inl (.inl ha))) rfl
 ·subst e;rcases ha with ha|ha
  ·exact n5 a (.inl ha) a hb rfl
  ·exact n5 a (.inr (hd a ha (.inr hb))) a hb rfl
section
variable {P:Program} {G:Nat→Prop} {w:World}
def I8.parts {l:List Lf} {cs:List Value} {bs:List Nat} {off z:Nat} (h:I8 P G w l cs bs) (hle:off+z≤l.length):
  ∃ ba bx bc,bs=ba++bx++bc∧I8 P G w (l.take off) (cs.take off) ba∧I8 P G w ((l.drop off).take z) ((cs.drop off).take z) bx∧I8 P G w (l.drop (off+z)) (cs.drop (off+z)) bc:=by
 have e0:l=l.take off++((l.drop off).take z++l.drop (off+z)):=by
  rw[← Yo,Wi,Wi]
 have h0:=h;rw[e0]at h0;obtain⟨b1,b2,e1,h1,h2⟩:=h0.split;obtain⟨b3,b4,e2,h3,h4⟩:=h2.split
 have l1:(l.take off).length=off:=by rw[Vq];omega
 have l2:((l.drop off).take z).length=z:=by rw[Vq,We];omega
 rw[l1]at h1 h3 h4;rw[l2]at h3 h4;rw[Yo]at h4;exact⟨b1,b3,b4,by rw[e1,e2,Vo],h1,h3,h4⟩
def W1a (cur:Array Value) (j:Nat) (us:List Value):Array Value:=(cur.toList.take j++us++cur.toList.drop (j+us.length)).toArray
def Jla {e:TypeId} {r:Ty} {xs:List r.den} {u:Value} {bs mb:List Nat} {k0 o n cap i off:Nat} {m:List Lf} {us:List Value} {z:r.den} (hd:(Ty.ow e r).dep P G w xs [u] bs) (hn:bs.Nodup) (ha:Gx r=true) (hu:u = .slice (some ⟨k0,o,none⟩) n cap) (hi:i<xs.length)
  (hm:I8 P G w m us mb) (hmn:mb.Nodup) (hdis:∀ k∈mb,k∉bs) (hz:mkW r (Vf.setAll (A6 r (xs.getD i r.dflt)) off m)=some z) (hle:off+m.length≤r.sz) (hG:∀ k∈bs,¬ G k):
  ∃ cur e0,w.heap[k0]? = some (.cells cur e0 (0,0))∧k0∈bs∧o=0∧i*r.sz+off+us.length≤cur.size∧
   ∃ bs',(Ty.ow e r).dep P G (w.setRow k0 (W1a cur (i*r.sz+off) us)) (xs.set i z) [u] bs'∧bs'.Nodup∧∀ k∈bs',k∈bs∨k∈mb:=by
 obtain⟨v,cs,b2,ev,hs,ho,hrows,eb⟩:=hd;simp only[Yh,and_true]at ev;subst ev;rcases Fl ho with⟨e1,_⟩|⟨k,cap',cur,e1,hc,h1,h2,h3,h4⟩
 ·rw[hu]at e1;cases e1
 ·rw[hu]at e1;cases e1
  have hob:u.ownBlock.toList=[k0]:=by rw[hu];rfl
  rw[hob]at eb;subst eb
  have hk0:k0∉b2:=by
   have:=hn;simp only[Yq,Yl]at this;exact this.1
  have hk0m:k0∉mb:=λ h=>hdis k0 h (by simp);have hul:=hm.len;have hlt:(i+1)*r.sz≤xs.length*r.sz:=Wk _ hi;have hcl:cs.length=xs.length*r.sz:=ho.1;have hcap:xs.length*r.sz≤cap*r.sz:=Wk _ h1;rw[Zd,Zh]at hlt
  let w':=w.setRow k0 (W1a cur (i*r.sz+off) us)
  have hold:∀ j,j≠k0→w'.heap[j]? = w.heap[j]? := λ j hj=>setRow_other _ _ _ _ hj;have hGh:∀ k,G k→w'.heap[k]? = w.heap[k]? := λ k hk=>hold k (λ e=>hG k0 (by simp) (e ▸ hk));obtain⟨ba,b,bc,e2,hx,hset⟩:=Er.set (Ty.dep_len r) hrows i (xs.getD i r.dflt) (by rw[Vb,Vg hi];rfl);subst e2;have hlv:=Lw r _ _ _ ha hx;obtain⟨ba',bx,bc',e3,_,_,hnew⟩:=hlv.set (off:=off) hm (by rw[Ho];exact hle);subst e3;have hz1:=A1a ha hz hnew
  have hz2:r.dep P G w' z (((cs.drop (i*r.sz)).take r.sz).take off++us++((cs.drop (i*r.sz)).take r.sz).drop (off+us.length)) (ba'++mb++bc'):=
   Ty.dep_mono (λ _ h=>h) hGh r _ _ _ (λ k hk=>hold k (λ e=>by
    subst e;simp only[Vm]at hk hk0;rcases hk with (hk|hk)|hk
    ·exact hk0 (.inl (.inr (.inl (.inl hk))))
    ·exact hk0m hk
    ·exact hk0 (.inl (.inr (.inr hk))))) hz1
  have hrows2:=hset (λ x c b=>r.dep P G w' x c b) z _ _ hz2 (λ y c b0 hb hy=>Ty.dep_mono (λ _ h=>h) hGh r y c b0 (λ k hk=>hold k (λ e=>by
   subst e;simp only[Vm]at hk0;rcases hb k hk with hk|hk
   ·exact hk0 (.inl (.inl hk))
   ·exact hk0 (.inr hk))) hy)
  rw[← U3a (by omega) (by omega)]at hrows2;refine⟨cur,e,hc,by simp,rfl,by omega,k0::(ba++(ba'++mb++bc')++bc),⟨u,_,_,rfl,hs,⟨?_,.inr ⟨k0,cap,_,by rw[Vv];exact hu,Vu _,setRow_heap _ _ _ _ _ _ hc,by rw[Vv];exact h1,h2,?_,?_⟩⟩,hrows2,by rw[hob];rfl⟩,?_,?_⟩
  ·simp only[Vi,Vq,We,Vv];omega
  ·simp only[W1a,Ddb,Vi,Vq,We,Ze];omega
  ·rw[Vv,← h4];exact Tz (n:=xs.length*r.sz) (by omega) (by have h9:cur.toList.length=cur.size:=Ze;omega)
  ·have:=Jka (l1:=k0::(ba++ba')) (bx:=bx) (mb:=mb) (l2:=bc'++bc) (by simpa[Vo] using hn) hmn (λ k hk h=>hdis k hk (by simpa[Vo] using h))
   simpa[Vo] using this
  ·intro k hk;simp only[Vk,Vm,Vp,Yq]at hk ⊢;rcases hk with hk|(hk|((hk|hk)|hk))|hk
   ·exact .inl (.inl hk)
   ·exact .inl (.inr (.inl (.inl hk)))
   ·exact .inl (.inr (.inl (.inr (.inl (.inl hk)))))
   ·exact .inr hk
   ·exact .inl (.inr (.inl (.inr (.inr hk))))
   ·exact .inl (.inr (.inr hk))
def C9a {e1:TypeId} {r1:Ty} {ys:List r1.den} {mb:List Nat} {k0 o n cap i off:Nat} {m:List Lf} {us:List Value} {z:r1.den} {Gm:Nat→Prop} (hi:i<ys.length)
  (hm:I8 P G w m us mb) (hmn:mb.Nodup) (hz:mkW r1 (Vf.setAll (A6 r1 (ys.getD i r1.dflt)) off m)=some z) (hle:off+m.length≤r1.sz) (hGm:∀ k∈mb,¬ G k):
  ∀ (q:List (Int×Nat)) (e:TypeId) (r:Ty) (xs xs':List r.den) (u:Value) (bs:List Nat),(Ty.ow e r).dep P G w xs [u] bs→bs.Nodup→Gx r=true→(∀ k∈mb,k∉bs)→(∀ k∈bs,¬ G k)→
   Gta q e r xs=some ⟨e1,r1,ys⟩→P5 Gm w q r u (.slice (some ⟨k0,o,none⟩) n cap)→Jea r1 (ys.set i z) q r xs=some xs'→
  ∃ cur e0,w.heap[k0]? = some (.cells cur e0 (0,0))∧k0∈bs∧o=0∧i*r1.sz+off+us.length≤cur.size∧
   ∃ bs',(Ty.ow e r).dep P G (w.setRow k0 (W1a cur (i*r1.sz+off) us)) xs' [u] bs'∧bs'.Nodup∧∀ k∈bs',k∈bs∨k∈mb
 |[],e,r,xs,xs',u,bs,hd,hn,ha,hdis,hG,hl,hh,hp=>by
  simp only[Gta,Vc]at hl;cases hl;simp only[Jea]at hp;simp only[dite_true,Vc]at hp;subst hp;exact Jla hd hn ha (Eq.symm hh) hi hm hmn hdis hz hle hG
 |(i',j')::q,e,r,xs,xs',u,bs,hd,hn,ha,hdis,hG,hl,⟨k',o',n',cap',e3',r3',u3,hu,_,hcell,hsl,hh⟩,hp=>by
  simp only[Gta]at hl;split at hl
  ·rename_i hrange;simp only[Jea]at hp;split at hl
   ·rename_i e3 r3 ws hw;rw[hw]at hp;simp only at hp;have:=Nm hw;rw[hsl]at this;cases this;split at hp
    ·rename_i ws' hws;split at hp
     ·rename_i z' hz';cases hp;obtain⟨v,cs,b2,ev,hs,ho,hrows,eb⟩:=hd;simp only[Yh,and_true]at ev;subst ev;rcases Fl ho with⟨e0,_⟩|⟨k,cap2,cur2,e0,hc,h1,h2,h3,h4⟩
      ·rw[hu]at e0;cases e0
      ·rw[hu]at e0;cases e0
       have hob:u.ownBlock.toList=[k']:=by rw[hu];rfl
       rw[hob]at eb;subst eb
       have hk':k'∉b2:=by
        have:=hn;simp only[Yq,Yl]at this;exact this.1
       have hnb2:b2.Nodup:=by
        have:=hn;simp only[Yq,Yl]at this;exact this.2
       have hcl:cs.length=xs.length*r.sz:=ho.1;have hlt:(i'.toNat+1)*r.sz≤xs.length*r.sz:=Wk _ hrange.2;rw[Zd,Zh]at hlt
       have hjl:j'<r.sz:=by
        rw[Ht]at hw;have:=(Yk.1 hw).1;rwa [Ho]at this
       have hgetx:xs[i'.toNat]? = some (xs.getD i'.toNat r.dflt):=by rw[Vb,Vg hrange.2];rfl
       obtain⟨ba0,b0,bc0,e20,hx0,hset⟩:=Er.set (Ty.dep_len r) hrows i'.toNat _ hgetx;have hlv:=Lw r _ _ _ ha hx0;obtain⟨ba',bx,bc',e3,g1,g2,g3⟩:=hlv.parts (off:=j') (z:=1) (by rw[Ho];omega)
       have hu3:((cs.drop (i'.toNat*r.sz)).take r.sz)[j']? = some u3:=by
        rw[Wp,if_pos hjl,Yv]
        have hj2:i'.toNat*r.sz+j'<cs.length:=by omega
        have:=Ia hc h4 (i'.toNat*r.sz+j') cs[i'.toNat*r.sz+j'] (Vg hj2);rw[hcell]at this;cases this;exact Vg hj2
       have hone:(List.take 1 (List.drop j' (A6 r (xs.getD i'.toNat r.dflt))))=[.own e3' r3' ws]:=by
        rw[Ht]at hw;obtain⟨hh1,hh2⟩:=Yk.1 hw;rw[Zj hh1,hh2,Ewb,Cxb]
       have honeu:(List.take 1 (List.drop j' ((cs.drop (i'.toNat*r.sz)).take r.sz)))=[u3]:=by
        obtain⟨hh1,hh2⟩:=Yk.1 hu3;rw[Zj hh1,hh2,Ewb,Cxb]
       rw[hone,honeu]at g2;obtain⟨u4,us4,bb1,bb2,e5,e6,g4,e7,e8⟩:=g2;simp only[Yh]at e5;obtain⟨e5,e5'⟩:=e5;subst e5;subst e8;rw[Wo]at e6;subst e6;have ha3:Gx r3'=true:=Tx ha hsl
       have hsub:∀ k∈bx,k∈k'::b2:=λ k hk=>by rw[e20,e3];simp[hk]
       have hnx:bx.Nodup:=by
        have h0:bx.Sublist b2:=by
         rw[e20,e3];refine F0b ?_ (E5b (ba0++(ba'++bx++bc')) bc0);refine F0b ?_ (D9b ba0 _);refine F0b ?_ (E5b (ba'++bx) bc');exact D9b ba' bx
        exact hnb2.sublist h0
       obtain⟨cur,e0,c1,c2,c3,c4,bs3,d1,d2,d3⟩:=C9a hi hm hmn hz hle hGm q e3' r3' ws ws' u3 bx g4 hnx ha3 (λ k hk h=>hdis k hk (hsub k h)) (λ k hk=>hG k (hsub k hk)) hl hh hws;refine⟨cur,e0,c1,hsub k0 c2,c3,c4,?_⟩;generalize hwe:w.setRow k0 (W1a cur (i*r1.sz+off) us)=w' at d1
       have hold:∀ j,j≠k0→w'.heap[j]? = w.heap[j]? := λ j hj=>by rw[← hwe];exact setRow_other _ _ _ _ hj
       have hGh:∀ k,G k→w'.heap[k]? = w.heap[k]? := λ k hk=>hold k (λ e=>hG k0 (hsub k0 c2) (e ▸ hk))
       have hnd:(ba0++(ba'++bx++bc')++bc0).Nodup:=by rw[← e3,← e20];exact hnb2
       have notin:∀ k,k∈ba0∨k∈bc0∨k∈ba'∨k∈bc'→k≠k0:=by
        intro k hk e9;subst e9;simp only[Xs,Vm]at hnd;obtain⟨⟨_,⟨⟨_,_,n3⟩,_,n5⟩,n6⟩,_,n8⟩:=hnd;rcases hk with hk|hk|hk|hk
        ·exact n6 k hk k (.inl (.inr c2)) rfl
        ·exact n8 k (.inr (.inl (.inr c2))) k hk rfl
        ·exact n3 k hk k c2 rfl
        ·exact n5 k (.inr c2) k hk rfl
       have g1':=I8.mono (G':=G) (w':=w') (λ _ h=>h) hGh (λ k hk=>hold k (notin k (.inr (.inr (.inl hk))))) g1;have g3':=I8.mono (G':=G) (w':=w') (λ _ h=>h) hGh (λ k hk=>hold k (notin k (.inr (.inr (.inr hk))))) g3;have hmid:I8 P G w' [.own e3' r3' ws'] [u3] bs3:=⟨u3,[],bs3,[],rfl,by simp,d1,rfl,rfl⟩;have hnew:=(g1'.app hmid).app g3';have hz3:=A1a ha hz' (by unfold Vf.setAll;exact hnew)
       have hcells:((cs.drop (i'.toNat*r.sz)).take r.sz).take j'++[u3]++((cs.drop (i'.toNat*r.sz)).take r.sz).drop (j'+1)=(cs.drop (i'.toNat*r.sz)).take r.sz:=by
        rw[← honeu,← Yo,Vo,Wi,Wi]
       rw[hcells]at hz3;have hrows2:=hset (λ x c b=>r.dep P G w' x c b) z' _ _ hz3 (λ y c b0 hb hy=>Ty.dep_mono (λ _ h=>h) hGh r y c b0 (λ k hk=>hold k (notin k ((hb k hk).imp id .inl))) hy)
       have hcs:cs.take (i'.toNat*r.sz)++(cs.drop (i'.toNat*r.sz)).take r.sz++cs.drop (i'.toNat*r.sz+r.sz)=cs:=by
        rw[← Yo,Vo,Wi,Wi]
       rw[hcs]at hrows2;have hkk:k'≠k0:=λ e9=>hk' (by rw[e20,e3];have:=c2;rw[e9];simp[this]);refine⟨k'::(ba0++(ba'++bs3++bc')++bc0),⟨u,cs,_,rfl,hs,?_,hrows2,by rw[hob];rfl⟩,?_,?_⟩
       ·rw[Vv];exact Nh ho (λ k hk=>hold k (by rw[hu]at hk;simp only[Value.ownBlock,Vc]at hk;rw[← hk];exact hkk))
       ·have hdis3:∀ k∈bs3,k∈(k'::(ba0++ba'))++bx++(bc'++bc0)→k∈bx:=λ k hk h=>by
         rcases d3 k hk with h9|h9
         ·exact h9
         ·exact absurd (by rw[e20,e3];simpa[Vo] using h) (hdis k h9)
        have hn2:((k'::(ba0++ba'))++bx++(bc'++bc0)).Nodup:=by
         have:=hn;rw[e20,e3]at this
         simpa[Vo] using this
        have:=F1a hn2 d2 hdis3
        simpa[Vo] using this
       ·intro k hk;rw[e20,e3];simp only[Vk,Vm,Vp,Yq]at hk ⊢;rcases hk with hk|(hk|((hk|hk)|hk))|hk
        ·exact .inl (.inl hk)
        ·exact .inl (.inr (.inl (.inl hk)))
        ·exact .inl (.inr (.inl (.inr (.inl (.inl hk)))))
        ·rcases d3 k hk with hk|hk
         ·exact .inl (.inr (.inl (.inr (.inl (.inr hk)))))
         ·exact .inr hk
        ·exact .inl (.inr (.inl (.inr (.inr hk))))
        ·exact .inl (.inr (.inr hk))
     ·cases hp
    ·cases hp
   ·cases hl
  ·cases hl
end
end

section
attribute [local irreducible] C H
section
variable {X:Cx} {S S':Sit} {a:Act} {E:En} {A:Ab} {o:Oper} {R:Type} {Kc:List Up→Option R} {r:R}
structure Nn (X:Cx) (S S':Sit):Prop where
 w:S'.w=S.w
 bb:S'.bb=S.bb
 ph:S'.ph=S.ph
 later:Fg S S'
 bx:∀ b k,S.O k = .bx b→S'.O k = .bx b
 heads:∀ b n,(S.g (H b)).2 = .one (.hd n)→S'.g (H b)=S.g (H b)
 tms:∀ n q x u,Bm X.P S (.tm n q) x u→Bm X.P S' (.tm n q) x u
 tm:∀ n q k,S.O k = .tm n q→S'.O k = .tm n q
def Nn.refl (S:Sit):Nn X S S:=⟨rfl,rfl,rfl,.refl S,λ _ _ h=>h,λ _ _ _=>rfl,λ _ _ _ _ h=>h,λ _ _ _ h=>h⟩
def Nn.trans {S1 S2:Sit} (h:Nn X S S1) (h':Nn X S1 S2):Nn X S S2:=
 ⟨h'.w.trans h.w,h'.bb.trans h.bb,h'.ph.trans h.ph,h.later.trans h'.later,λ b k e=>h'.bx b k (h.bx b k e),λ b n e=>by
  have e1:=h.heads b n e
  exact(h'.heads b n (by rw[e1];exact e)).trans e1,λ n q x u hx=>h'.tms n q x u (h.tms n q x u hx),λ n q k hk=>h'.tm n q k (h.tm n q k hk)⟩
def Pl {A:Ab} {x:Lf} {l m:List Lf} {us:List Up} (hx:∀ p v,x ≠ .al p v) (h:J7 A (x::l)=some (m,us)):∃ m',m=x::m'∧J7 A l=some (m',us):=by
 have e:J7 A (x::l)=match J7 A l with|some (m,us)=>some (x::m,us)|none=>none:=by
  cases x<;>first|rfl|exact absurd rfl (hx _ _)
 rw[e]at h;split at h
 ·rename_i m' us' h';cases h;exact⟨m',rfl,h'⟩
 ·cases h
def U0 (i:Nat) (path:Nat→List Nat):∀ (l:List Lf) {S:Sit} {A:Ab} {j:Nat} {us:List Value} {m:List Lf} {vs:List Up},Bd X S a→S.g=get A→J7 A l=some (m,vs)→Ac X.P S (λ n => .tm i (path n)) j l us→
  ∃ S',Bd X S' a∧S'.g=get (ups A vs)∧Nn X S S'∧Ac X.P S' (λ n => .tm i (path n)) j m us
 |[],S,A,j,[],m,vs,K,hg,h,_=>by
  simp only[J7,Vc,Vx]at h;obtain⟨rfl,rfl⟩:=h;exact⟨S,K,hg,.refl S,trivial⟩
 |[],S,A,j,_::_,m,vs,K,hg,h,hl=>hl.elim
 |_::_,S,A,j,[],m,vs,K,hg,h,hl=>hl.elim
 |x::l,S,A,j,u::us,m,vs,K,hg,h,hl=>by
  by_cases hal:∃ p v,x = .al p v
  ·obtain⟨p,v,rfl⟩:=hal;simp only[J7]at h;split at h
   ·rename_i e r' xs hsn;obtain⟨p',v',e0,hp⟩:=Og hsn (λ e r xs hy=>by cases hy);cases e0;split at h
    ·rename_i m' vs' hrec;cases h;have he:u=S.ph p:=hl.1.2 (by rw[hg,hp])
     let f:List Nat→Option (List Nat):=λ q=>match q with|[]=>some (path j)|_=>none
     have L1:=Lt S p i f (.one .dead);obtain⟨K1,h1,h2⟩:=Z5 K p i f (.one .dead) (by simp) trivial
     have hown:Bm X.P S (.pl p []) (.own e r' xs) (S.ph p):=by have:=K.at_ p;rw[hg,hp]at this;exact this
     have hown1:=h1 [] (path j) _ _ rfl hown
     have g1:(R4 S p i f (.one .dead)).g=get (up A ⟨p,false,.one .dead⟩):=by
      show upd S.g p _=_;rw[L6,← hg];rfl
     have G1:Nn X S (R4 S p i f (.one .dead)):=⟨rfl,rfl,rfl,L1,λ b k hk=>(Hn (by simp[hk])).trans hk,λ b n hn=>B7 _ _ (λ e1=>by rw[e1,hg,hp]at hn;cases hn),h2,λ n q k hk=>(Hn (by simp[hk])).trans hk⟩;have hrest:Ac X.P (R4 S p i f (.one .dead)) (λ n => .tm i (path n)) (j+1) l us:=hl.2.imp (λ n x u hx=>h2 i (path n) x u hx);obtain⟨S2,K2,g2,G2,hl2⟩:=U0 i path l K1 g1 hrec hrest;refine⟨S2,K2,g2,G1.trans G2,?_,hl2⟩;rw[he];exact G2.tms _ _ _ _ hown1
    ·cases h
   ·cases h
  ·obtain⟨m',rfl,h'⟩:=Pl (λ p v e=>hal ⟨p,v,e⟩) h;obtain⟨S2,K2,g2,G2,hl2⟩:=U0 i path l K hg h' hl.2;exact⟨S2,K2,g2,G2,G2.tms _ _ _ _ hl.1,hl2⟩
def Lya (hE:Iu X E) (K:Bd X S a) (hg:S.g=get A) {T:TypeId} {y:Operand} {s:Sv} {m:List Lf} {vs:List Up} (hs:opT E T A y=some s) (hnt:∀ vs,s ≠ .tup vs) (h:give A y s=some (m,vs)) (i:Nat):
  ∃ S',Bd X S' a∧S'.g=get (ups A vs)∧Nn X S S'∧∃ us,Sq s (a.eval y) us∧Ac X.P S' (λ n => .tm i (pth s n)) 0 m us:=by
 unfold give at h;split at h
 ·rename_i m0 vs0 ht;cases h
  have first:∃ S1,Bd X S1 a∧S1.g=get (ups A (gone y s))∧Nn X S S1∧∃ us,Sq s (a.eval y) us∧Ac X.P S1 (λ n => .tm i (pth s n)) 0 (parts s) us:=by
   rcases L8 hE K hg hs with⟨t,rfl,htl,hst,het,hok⟩|⟨hnt',x,rfl,hx⟩
   ·cases ho:Lr s with
    |false=>
     have hgo:gone (.tmp t) s=[]:=by simp[gone,ho]
     refine⟨S,K,by rw[hgo];exact hg,.refl S,?_⟩
     cases s with
     |tup vs=>exact absurd rfl (hnt vs)
     |one x=>exact⟨[_],rfl,(Ac.relab (f:=λ _ => .pl t []) ho ⟨hok,trivial⟩)⟩
     |agg l=>
      obtain⟨us,e1,hl⟩:=hok;exact⟨us,e1,hl.relab ho⟩
    |true=>
     have hgo:gone (.tmp t) s=[⟨t,false,.one .dead⟩]:=by simp[gone,ho]
     obtain⟨K1,h1,h2⟩:=Ni K t i;have G1:Nn X S (Mi S t i):=⟨rfl,rfl,rfl,Jj S t i,λ b k hk=>(H5 (by simp[hk])).trans hk,λ b n hn=>B7 _ _ (λ e1=>by rw[e1,← hst]at hn;subst hn;simp[Lr,Fk]at ho),h2,λ n q k hk=>(H5 (by simp[hk])).trans hk⟩;refine⟨_,K1,?_,G1,?_⟩
     ·rw[hgo,Au,← hg];rfl
     ·cases s with
      |tup vs=>exact absurd rfl (hnt vs)
      |one x=>exact⟨[_],rfl,h1 [] x _ hok,trivial⟩
      |agg l=>
       obtain⟨us,e1,hl⟩:=hok;exact⟨us,e1,hl.imp (λ n x u hx=>h1 [n] x u hx)⟩
   ·have hgo:gone y (.one x)=[]:=by
     unfold gone;split
     ·exact absurd rfl (hnt' _)
     ·rfl
    exact⟨S,K,by rw[hgo];exact hg,.refl S,[_],rfl,hx _,trivial⟩
  obtain⟨S1,K1,g1,G1,us,hsh,hl⟩:=first
  obtain⟨S2,K2,g2,G2,hl2⟩:=U0 i (pth s) (parts s) K1 g1 ht hl;exact⟨S2,K2,by rw[Bb];exact g2,G1.trans G2,us,hsh,hl2⟩
 ·cases h
def Oj {P:Program} {S:Sit} {f:Nat→Lab}:∀ {m:List Lf} {j:Nat} {us:List Value},Pf m=true→Ac P S f j m us→(∀ n n',j≤n→n<j+m.length→j≤n'→n'<j+m.length→f n=f n'→n=n')→
  ∃ mb,I8 P (λ k=>S.O k = .fz) S.w m us mb∧mb.Nodup∧∀ k∈mb,∃ n,j≤n∧n<j+m.length∧S.O k=f n
 |[],j,[],_,_,_=>⟨[],⟨rfl,rfl⟩,by simp,by simp⟩
 |[],j,_::_,_,h,_=>h.elim
 |_::_,j,[],_,h,_=>h.elim
 |x::m,j,u::us,ho,h,hi=>by
  have hrest:Pf m=true:=by cases x<;>first|(simp[Pf]at ho;done)|simpa[Pf] using ho
  obtain⟨mb,h1,h2,h3⟩:=Oj hrest h.2 (λ n n' a1 a2 a3 a4 e=>hi n n' (by omega) (by simp only[Vh];omega) (by omega) (by simp only[Vh];omega) e)
  have hx:∃ b,Z4a P (λ k=>S.O k = .fz) S.w x u b∧b.Nodup∧∀ k∈b,S.O k=f j:=by
   cases x with
   |sc v=>exact⟨[],⟨h.1.1,h.1.2,rfl⟩,by simp,by simp⟩
   |own e r xs=>exact h.1
   |_=>simp[Pf]at ho
  obtain⟨b,b1,b2,b3⟩:=hx;refine⟨b++mb,⟨u,us,b,mb,rfl,rfl,b1,h1⟩,?_,λ k hk=>?_⟩
  ·rw[Xs];refine⟨b2,h2,λ k hk k' hk' e=>?_⟩;subst e;obtain⟨n,n1,n2,n3⟩:=h3 k hk';have:=hi j n (Vw _) (by simp) (by omega) (by simp only[Vh];omega) ((b3 k hk).symm.trans n3);omega
  ·rcases Vm.1 hk with hk|hk
   ·exact⟨j,Vw _,by simp,b3 k hk⟩
   ·obtain⟨n,n1,n2,n3⟩:=h3 k hk;exact⟨n,by omega,by simp only[Vh];omega,n3⟩
def Lza {s:Sv} {m:List Lf} {i:Nat} (hnt:∀ vs,s ≠ .tup vs) (hl:m.length=(parts s).length):∀ n n',0≤n→n<0+m.length→0≤n'→n'<0+m.length→Lab.tm i (pth s n) = .tm i (pth s n')→n=n':=by
 intro n n' _ h1 _ h2 e
 cases s with
 |one x=>simp only[parts,Vh,Vs]at hl;omega
 |agg l=>simpa[pth] using e
 |tup vs=>exact absurd rfl (hnt vs)
def Rf:∀ (l:List Lf) {A:Ab} {m:List Lf} {us:List Up},J7 A l=some (m,us)→m.length=l.length
 |[],A,m,us,h=>by
  simp only[J7,Vc,Vx]at h;obtain⟨rfl,_⟩:=h;rfl
 |x::l,A,m,us,h=>by
  by_cases hal:∃ p v,x = .al p v
  ·obtain⟨p,v,rfl⟩:=hal;simp only[J7]at h;split at h
   ·split at h
    ·rename_i m' vs' hrec;cases h;simp[Rf l hrec]
    ·cases h
   ·cases h
  ·obtain⟨m',rfl,h'⟩:=Pl (λ p v e=>hal ⟨p,v,e⟩) h;simp[Rf l h']
def T0 {y:Operand} {s:Sv} {m:List Lf} {us:List Up} (h:give A y s=some (m,us)):m.length=(parts s).length:=by
 unfold give at h;split at h
 ·rename_i m0 vs0 ht;cases h;exact Rf _ ht
 ·cases h
def toP (p:Nat):Nat→List Nat→Option Lab:=λ n _=>if n=0 then some (.pl p []) else none
def Bd.rewriteD (K:Bd X S a) {p n:Nat} {e:TypeId} {r':Ty} {xs ys:List r'.den} {w':World} (hp:S.g p=(n,.one (.own e r' xs))) (hold:∀ j o',S.O j=o'→o' ≠ .pl p []→w'.heap[j]? = S.w.heap[j]?)
  (hsz:w'.heap.size=S.w.heap.size) (h1:w'.os=S.w.os) (h2:w'.tape=S.w.tape) (h3:w'.output=S.w.output) (hown:Ff X.P (atO S.O (toP p)) w' (.pl p []) e r' ys (S.ph p)):
  Bd X { S with O:=atO S.O (toP p),g:=upd S.g p (n+1,.one (.own e r' ys)),w:=w' } a:=by
 have keep:∀ k o',S.O k=o'→(∀ n q,o' ≠ .tm n q)→atO S.O (toP p) k=o':=λ k o' h h'=>Bi h h'
 have L:Fg S { S with O:=atO S.O (toP p),g:=upd S.g p (n+1,.one (.own e r' ys)),w:=w' }:=by
  refine⟨λ q=>?_,λ _ _=>rfl,λ q v e2 r2 xs' hq hv=>?_,λ _ _=>rfl,λ j hj=>⟨keep j _ hj (by simp),hold j _ hj (by simp)⟩,Fg.box_of (λ b m hv hh=>?_) (λ j b h=>⟨keep j _ h (by simp),hold j _ h (by simp)⟩),λ q hv hd=>?_⟩
  ·show _≤(upd S.g p _ q).1
   by_cases h:q=p
   ·subst h;rw[Ay,hp];exact Dab _
   ·rw[B7 _ _ h];exact Vw _
  ·have hq':upd S.g p (n+1,.one (.own e r' ys)) q=(v,.one (.own e2 r2 xs')):=hq
   by_cases h:q=p
   ·subst h;rw[Ay]at hq';cases hq';rw[hp]at hv;simp at hv
   ·rw[B7 _ _ h]at hq';exact⟨xs',hq',rfl⟩
  ·have hb:H b≠p:=λ e=>by subst e;rw[hp]at hh;cases hh
   exact(congrArg Prod.snd (B7 _ _ hb)).trans hh
  ·have hv':(upd S.g p (n+1,.one (.own e r' ys)) q).1=(S.g q).1:=hv
   have h:q≠p:=λ e=>by subst e;rw[Ay,hp]at hv';simp at hv'
   have e1:({ S with O:=atO S.O (toP p),g:=upd S.g p (n+1,.one (.own e r' ys)),w:=w' }:Sit).g q=S.g q:=B7 _ _ h;rw[e1];exact⟨hd,λ _ _ _ h=>h,λ k hk=>⟨.inl (keep k _ hk (by simp)),hold k _ hk (by simp[h])⟩⟩
 have F:=K.fr;refine⟨K.nt,λ j hj=>?_,λ l=>?_,λ b m hb=>?_,λ b m hb=>?_,K.sl,K.sz,K.df,⟨h1.trans F.os,h2.trans F.tape,h3.trans F.out,?_,λ j hj h0=>?_,λ j hj h0=>?_,λ j b hj h0=>?_⟩⟩
 ·show j<w'.heap.size;rw[hsz];refine K.lt j (λ e=>hj (keep j _ e (by simp)))
 ·show Ib X.P _ l (upd S.g p _ l).2 _
  by_cases h:l=p
  ·subst h;rw[Ay];exact hown
  ·rw[B7 _ _ h];exact(K.at_ l).later L (λ q j hj=>⟨keep j _ hj (by simp),hold j _ hj (by simp[h])⟩)
 ·have hne:H b≠p:=by
   intro e2;have:(upd S.g p (n+1,.one (.own e r' ys)) (H b)).2 = .one (.hd m):=hb;rw[e2,Ay]at this;cases this
  have hb':(S.g (H b)).2 = .one (.hd m):=by
   have:(upd S.g p (n+1,.one (.own e r' ys)) (H b)).2 = .one (.hd m):=hb;rwa [B7 _ _ hne]at this
  obtain⟨hn,c,e1,e2,e3,e4⟩:=K.box b m hb';exact⟨hn,c,e1,(hold _ _ e3 (by simp)).trans e2,keep _ _ e3 (by simp),e4⟩
 ·have hne:H b≠p:=by
   intro e2;have:(upd S.g p (n+1,.one (.own e r' ys)) (H b)).2 = .one (.hd m):=hb;rw[e2,Ay]at this;cases this
  have hb':(S.g (H b)).2 = .one (.hd m):=by
   have:(upd S.g p (n+1,.one (.own e r' ys)) (H b)).2 = .one (.hd m):=hb;rwa [B7 _ _ hne]at this
  exact K.rgn b m hb'
 ·show _≤w'.heap.size;rw[hsz];exact F.size
 ·obtain⟨f1,f2⟩:=F.no j hj h0;exact⟨keep j _ f1 (by simp),(hold j _ f1 (by simp)).trans f2⟩
 ·obtain⟨f1,f2⟩:=F.fz j hj h0;exact⟨keep j _ f1 (by simp),(hold j _ f1 (by simp)).trans f2⟩
 ·obtain⟨f1,c,c',e1,f,f2,f3,f4,f5⟩:=F.bx j b hj h0;exact⟨keep j _ f1 (by simp),c,c',e1,f,f2,(hold j _ f1 (by simp)).trans f3,f4,f5⟩
def Jma (K:Bd X S a) {p v:Nat} {q:List (Int×Nat)} {e:TypeId} {r1:Ty} {xs:List r1.den} {i:Int} {off:Nat} {h u:Value} {E0:TypeId} {R0:Ty} {XS XS':List R0.den} {m:List Lf} {us:List Value} {path:Nat→List Nat} {z:r1.den}
  (hp:S.g p=(v,.one (.own E0 R0 XS))) (hda:L2a X.P S p v (some q) e r1 xs h) (hdp:0≤i∧i.toNat<xs.length∧∃ k o cap,h = .slice (some ⟨k,o,none⟩) xs.length cap∧u = .pointer (some ⟨k,o+(i.toNat*r1.sz+off),none⟩))
  (hall:Gx R0=true) (ho:Pf m=true) (hl:Ac X.P S (λ n => .tm 0 (path n)) 0 m us) (hinj:∀ n n',0≤n→n<0+m.length→0≤n'→n'<0+m.length→Lab.tm 0 (path n) = .tm 0 (path n')→n=n')
  (hz:mkW r1 (Vf.setAll (A6 r1 (xs.getD i.toNat r1.dflt)) off m)=some z) (hle:off+m.length≤r1.sz) (hput:Jea r1 (xs.set i.toNat z) q R0 XS=some XS'):
  ∃ k j cur e0,u = .pointer (some ⟨k,j,none⟩)∧S.w.heap[k]? = some (.cells cur e0 (0,0))∧j+us.length≤cur.size∧
   Bd X { S with O:=atO S.O (toP p),g:=upd S.g p (v+1,.one (.own E0 R0 XS')),w:=S.w.setRow k (W1a cur j us) } a:=by
 obtain⟨i0,i1,k,o,cap,e1,e2⟩:=hdp;obtain⟨d1,_,d2⟩:=hda;obtain⟨_,_,hpath⟩:=d2 (by rw[hp]);obtain⟨f1,f2⟩:=hpath q rfl E0 R0 XS (by rw[hp])
 have hown:Ff X.P S.O S.w (.pl p []) E0 R0 XS (S.ph p):=by have:=K.at_ p;rw[hp]at this;exact this
 obtain⟨bs,hd,hn,hb⟩:=hown;obtain⟨mb,m1,m2,m3⟩:=Oj ho hl hinj
 have hmt:∀ k∈mb,∃ n,S.O k = .tm 0 (path n):=λ k hk=>by obtain⟨n,_,_,h⟩:=m3 k hk;exact⟨n,h⟩
 rw[e1]at f2
 obtain⟨cur,e0,c1,c2,c3,c4,bs',g1,g2,g3⟩:=C9a (i:=i.toNat) (off:=off) i1 m1 m2 hz hle (λ k hk hf=>by obtain⟨n,hn⟩:=hmt k hk;rw[hn]at hf;cases hf) q E0 R0 XS XS' (S.ph p) bs hd hn hall
  (λ k hk hk'=>by obtain⟨n,hn⟩:=hmt k hk;rw[hb k hk']at hn;cases hn) (λ k hk hf=>by rw[hb k hk]at hf;cases hf) f1 f2 hput
 subst c3;refine⟨k,i.toNat*r1.sz+off,cur,e0,by rw[e2,Wh],c1,c4,?_⟩;have hkl:=hb k c2;refine K.rewriteD hp (λ j o' hj ho'=>setRow_other _ _ _ _ (λ e=>ho' (by rw[← hj,e];exact hkl))) (by simp[World.setRow]) rfl rfl rfl ⟨bs',?_,g2,λ j hj=>?_⟩
 ·refine Ty.dep_mono (G:=λ k=>S.O k = .fz) (w:=S.w.setRow k (W1a cur (i.toNat*r1.sz+off) us)) (λ j hj=>Bi hj (by simp)) (λ _ _=>rfl) (.ow E0 R0) XS' _ bs' (λ _ _=>rfl) g1
 ·rcases g3 j hj with h9|h9
  ·exact Bi (hb j h9) (by simp)
  ·obtain⟨n,hn⟩:=hmt j h9;exact I6 hn (by simp[toP])
end
end

section
attribute [local irreducible] C H
section
variable {X:Cx} {S S':Sit} {a:Act} {E:En} {A:Ab} {o:Oper} {R:Type} {Kc:List Up→Option R} {r:R}
def Bd.retm (K:Bd X S a) (O':Nat→Lab) (h:∀ k o,S.O k=o→(∀ n q,o ≠ .tm n q)→O' k=o):Bd X { S with O:=O' } a∧Fg S { S with O:=O' }:=by
 have L:Fg S { S with O:=O' }:=⟨λ _=>Vw _,λ _ _=>rfl,λ p v e r xs' h _=>⟨xs',h,rfl⟩,λ _ _=>rfl,λ k hk=>⟨h k _ hk (by simp),rfl⟩,Fg.box_of (λ _ _ _ h=>h) (λ k b hk=>⟨h k _ hk (by simp),rfl⟩),λ p _ hd=>⟨hd,λ _ _ _ h=>h,λ k hk=>⟨.inl (h k _ hk (by simp)),rfl⟩⟩⟩
 exact⟨K.ghost _ _ (λ k e=>h k _ e (by simp)) (λ k e1 e2=>e1 (h k _ e2 (by simp))) (λ k e=>h k _ e (by simp)) (λ k b e=>h k _ e (by simp)) (λ _ _ e=>e)
  (λ l=>(K.at_ l).later L (λ p k e=>⟨h k _ e (by simp),rfl⟩)),L⟩
def Z5a (K:Bd X S a) {i:Nat} {q:List Nat} {e:TypeId} {r r':Ty} {xs:List r'.den} {ys:List r.den} {u:Value} (hno:J6 r=true) (hc:Pe r r' xs=some ys) (h:Ff X.P S.O S.w (.tm i q) e r' xs u):
  ∃ O',(∀ k,S.O k ≠ .tm i q→O' k=S.O k)∧Bd X { S with O:=O' } a∧Fg S { S with O:=O' }∧Ff X.P O' S.w (.tm i q) e r ys u:=by
 obtain⟨bs,⟨v,cs,b2,ev,hs,ho,hd,eb⟩,hn,hk⟩:=h;simp only[Yh,and_true]at ev;subst ev
 let O':Nat→Lab:=λ k=>if k∈b2 then .fz else S.O k
 have hlab:∀ k∈b2,S.O k = .tm i q:=λ k hk2=>hk k (by rw[eb];exact Vn _ hk2);have hO:∀ k,S.O k ≠ .tm i q→O' k=S.O k:=λ k h1=>if_neg (λ h2=>h1 (hlab k h2));obtain⟨K1,L1⟩:=K.retm O' (λ k o h1 h2=>(hO k (by rw[h1];exact h2 i q)).trans h1);refine⟨O',hO,K1,L1,(Ff.flat hno).2 ?_⟩;obtain⟨e1,rfl⟩:=Ra hc
 have hsz:r'.sz=r.sz:=by rw[← Jh r',e1,Jh r]
 have hf:∀ k,S.O k = .fz→O' k = .fz:=λ k h1=>(hO k (by rw[h1];simp)).trans h1;refine⟨by rw[← hsz];exact hs,cs,by rw[← hsz,Vz];exact ho,?_,λ k h1=>?_⟩
 ·have hr:Rows (λ x c=>r'.rep X.P (λ k=>O' k = .fz) S.w x c) xs cs:=hd.rows (λ x c b hb h=>Ty.dep_rep hf r' x c b (λ k hk=>if_pos (hb k hk)) h);exact hr.map (λ x c hx=>(Lka e1 x c).1 hx)
 ·have h2:k∉b2:=λ h3=>by
   rw[eb,h1]at hn;simp only[Option.toList_some,Yq,Yl]at hn;exact hn.1 h3
  exact(if_neg h2).trans (hk k (by rw[eb,h1];simp))
structure G7 (X:Cx) (S S':Sit) (ex:Nat→List Nat→Prop):Prop where
 w:S'.w=S.w
 bb:S'.bb=S.bb
 ph:S'.ph=S.ph
 later:Fg S S'
 bx:∀ b k,S.O k = .bx b→S'.O k = .bx b
 heads:∀ b n,(S.g (H b)).2 = .one (.hd n)→S'.g (H b)=S.g (H b)
 tms:∀ n q x u,¬ ex n q→Bm X.P S (.tm n q) x u→Bm X.P S' (.tm n q) x u
 tm:∀ n q k,¬ ex n q→S.O k = .tm n q→S'.O k = .tm n q
def G7.trans {S1 S2:Sit} {e1 e2 e3:Nat→List Nat→Prop} (h1:∀ n q,e1 n q→e3 n q) (h2:∀ n q,e2 n q→e3 n q) (h:G7 X S S1 e1) (h':G7 X S1 S2 e2):G7 X S S2 e3:=
 ⟨h'.w.trans h.w,h'.bb.trans h.bb,h'.ph.trans h.ph,h.later.trans h'.later,λ b k e=>h'.bx b k (h.bx b k e),λ b n e=>by
  have e1:=h.heads b n e
  exact(h'.heads b n (by rw[e1];exact e)).trans e1,λ n q x u hn hx=>h'.tms n q x u (λ h=>hn (h2 n q h)) (h.tms n q x u (λ h=>hn (h1 n q h)) hx),λ n q k hn hk=>h'.tm n q k (λ h=>hn (h2 n q h)) (h.tm n q k (λ h=>hn (h1 n q h)) hk)⟩
def G7.refl (S:Sit) (ex:Nat→List Nat→Prop):G7 X S S ex:=⟨rfl,rfl,rfl,.refl S,λ _ _ h=>h,λ _ _ _=>rfl,λ _ _ _ _ _ h=>h,λ _ _ _ _ h=>h⟩
def Nn.x {ex:Nat→List Nat→Prop} (h:Nn X S S'):G7 X S S' ex:=⟨h.w,h.bb,h.ph,h.later,h.bx,h.heads,λ n q x u _ hx=>h.tms n q x u hx,λ n q k _ hk=>h.tm n q k hk⟩
def H1a (K:Bd X S a) {i:Nat} {q:List Nat} {e:TypeId} {r:Ty} {x y:Lf} {u:Value} (ha:Ela e r x=some y) (h:Bm X.P S (.tm i q) x u):
  ∃ S',Bd X S' a∧S'.g=S.g∧G7 X S S' (λ n q'=>n=i∧q'=q)∧Bm X.P S' (.tm i q) y u:=by
 unfold Ela at ha;split at ha
 ·rename_i e' r' xs;rw[csi]at ha;obtain⟨hb,ha⟩:=ha;have he:e=e':=Ve hb;subst he;split at ha
  ·rename_i ys hys;cases ha;exact⟨S,K,rfl,.refl S _,Ff.cast hys h⟩
  ·rw[csi]at ha;obtain⟨hno,ha⟩:=ha;split at ha
   ·rename_i ys hys;cases ha;obtain⟨O',h1,K1,L1,h2⟩:=Z5a K hno hys h;have hO:∀ k n q',¬ (n=i∧q'=q)→S.O k = .tm n q'→O' k = .tm n q':=λ k n q' hn hk=>(h1 k (by rw[hk];intro e1;cases e1;exact hn ⟨rfl,rfl⟩)).trans hk;exact⟨_,K1,rfl,⟨rfl,rfl,rfl,L1,λ b k hk=>(h1 k (by rw[hk];simp)).trans hk,λ _ _ _=>rfl,λ n q' x u hn hx=>hx.later L1 (λ k hk=>⟨hO k n q' hn hk,rfl⟩),λ n q' k hn hk=>hO k n q' hn hk⟩,h2⟩
   ·cases ha
 ·cases ha
def Lx:∀ (ts:List Ty) (l:List Lf) {A:Ab} {m:List Lf} {us:List Up},G6 A ts l=some (m,us)→m.length=l.length∧ts.length=l.length
 |[],[],A,m,us,h=>by
  simp only[G6,Vc,Vx]at h;obtain⟨rfl,_⟩:=h;exact⟨rfl,rfl⟩
 |[],_::_,A,m,us,h=>by simp[G6]at h
 |t::ts,[],A,m,us,h=>by cases t<;>simp[G6]at h
 |t::ts,x::l,A,m,us,h=>by
  have rest:∀ {A:Ab} {m':List Lf} {us':List Up},G6 A ts l=some (m',us')→m'.length=l.length∧ts.length=l.length:=λ h=>Lx ts l h
  cases t with
  |ow e r=>
   simp only[G6]at h;split at h
   ·split at h
    ·rename_i hr;cases h;simp[rest hr]
    ·cases h
   ·cases h
  |_=>
   simp only[G6]at h;split at h
   ·rename_i hr;cases h;simp[rest hr]
   ·cases h
def Mm {x:Lf} {l:List Lf} (h:A5 (x::l)=true):A5 l=true∧((∃ v,x = .sc v)∨(∃ e r,∃ xs:List (Ty.den r),x = .fz e r xs)∨∃ e r,∃ xs:List (Ty.den r),x = .own e r xs):=by
 cases x<;>first|(simp[A5]at h;done)|skip
 ·exact⟨by simpa[A5] using h,.inl ⟨_,rfl⟩⟩
 ·exact⟨by simpa[A5] using h,.inr (.inl ⟨_,_,_,rfl⟩)⟩
 ·exact⟨by simpa[A5] using h,.inr (.inr ⟨_,_,_,rfl⟩)⟩
def U1 (i:Nat) (path:Nat→List Nat):∀ (ts:List Ty) (l:List Lf) {S:Sit} {A:Ab} {j:Nat} {us:List Value} {m:List Lf} {vs:List Up},Bd X S a→S.g=get A→G6 A ts l=some (m,vs)→A5 m=true→Ac X.P S (λ n => .tm i (path n)) j l us→
  (∀ n n',j≤n→n<j+l.length→j≤n'→n'<j+l.length→path n=path n'→n=n')→
  ∃ S',Bd X S' a∧S'.g=get (ups A vs)∧G7 X S S' (λ n q=>n=i∧∃ k,j≤k∧k<j+l.length∧q=path k)∧Ac X.P S' (λ n => .tm i (path n)) j m us
 |[],[],S,A,j,[],m,vs,K,hg,h,_,_,_=>by
  simp only[G6,Vc,Vx]at h;obtain⟨rfl,rfl⟩:=h;exact⟨S,K,hg,.refl S _,trivial⟩
 |[],[],S,A,j,_::_,m,vs,K,hg,h,_,hl,_=>hl.elim
 |[],_::_,S,A,j,us,m,vs,K,hg,h,_,hl,_=>by simp[G6]at h
 |t::_,[],S,A,j,us,m,vs,K,hg,h,_,hl,_=>by cases t<;>simp[G6]at h
 |_::_,_::_,S,A,j,[],m,vs,K,hg,h,_,hl,_=>hl.elim
 |t::ts,x::l,S,A,j,u::us,m,vs,K,hg,h,hst,hl,hi=>by
  have go:∀ {y:Lf} {v0 vs':List Up} {m':List Lf} {S1:Sit},m=y::m'→vs=v0++vs'→G6 (ups A v0) ts l=some (m',vs')→Bd X S1 a→S1.g=get (ups A v0)→G7 X S S1 (λ n q=>n=i∧q=path j)→Bm X.P S1 (.tm i (path j)) y u→
    ∃ S',Bd X S' a∧S'.g=get (ups A vs)∧G7 X S S' (λ n q=>n=i∧∃ k,j≤k∧k<j+(x::l).length∧q=path k)∧Ac X.P S' (λ n => .tm i (path n)) j m (u::us):=by
   intro y v0 vs' m' S1 e1 e2 hrec K1 g1 G1 hy;subst e1 e2
   have hrest:Ac X.P S1 (λ n => .tm i (path n)) (j+1) l us:=Ac.impAt (λ n n1 n2 x u hx=>G1.tms _ _ _ _ (λ h=>by
    have:=hi n j (by omega) (by simp only[Vh];omega) (Vw _) (by simp only[Vh];omega) h.2
    omega) hx) hl.2
   obtain⟨S2,K2,g2,G2,hl2⟩:=U1 i path ts l K1 g1 hrec (Mm hst).1 hrest (λ n n' a1 a2 a3 a4 e=>hi n n' (by omega) (by simp only[Vh];omega) (by omega) (by simp only[Vh];omega) e);refine⟨S2,K2,by rw[Bb];exact g2,G7.trans (λ n q h=>⟨h.1,j,Vw _,by simp only[Vh];omega,h.2⟩) (λ n q h=>?_) G1 G2,G2.tms _ _ _ _ (λ h=>?_) hy,hl2⟩
   ·obtain⟨h1,k,k1,k2,k3⟩:=h;exact⟨h1,k,by omega,by simp only[Vh];omega,k3⟩
   ·obtain⟨_,k,k1,k2,k3⟩:=h;have:=hi j k (Vw _) (by simp only[Vh];omega) (by omega) (by simp only[Vh];omega) k3;omega
  have h0:Bm X.P S (.tm i (path j)) x u:=hl.1
  have plain:G6 A (t::ts) (x::l)=(match G6 (ups A (Sw A x)) ts l with|some (m,us)=>some (Lk (kept A x)::m,Sw A x++us)|none=>none)→
    ∃ S',Bd X S' a∧S'.g=get (ups A vs)∧G7 X S S' (λ n q=>n=i∧∃ k,j≤k∧k<j+(x::l).length∧q=path k)∧Ac X.P S' (λ n => .tm i (path n)) j m (u::us):=by
   intro hpl;rw[hpl]at h;split at h
   ·rename_i m' vs' hrec;cases h;obtain⟨hst1,hst2⟩:=Mm hst
    cases x with
    |al p v=>
     have hk:kept A (.al p v)=Lk (Jb A (.al p v)):=rfl
     by_cases hown:∃ e r,∃ xs:List (Ty.den r),get A p=(v,.one (.own e r xs))
     ·obtain⟨e,r',xs,hp⟩:=hown
      have hc:Sw A (.al p v)=[⟨p,true,.one (.fz e r' xs)⟩]:=by simp[Sw,hp]
      have hs:Lk (kept A (.al p v)) = .fz e r' xs:=by simp[kept,Jb,hp,Lk]
      rw[hc]at hrec;rw[hc,hs]at go ⊢
      have hSp:(S.g p).2 = .one (.own e r' xs):=by rw[hg,hp]
      obtain⟨K1,_,hf⟩:=Tr K hSp;have E1:=C6a K hSp
      have g1:(frS S p e r' xs).g=get (ups A [⟨p,true,.one (.fz e r' xs)⟩]):=by
       show upd S.g p _=_;rw[Oe,← hg]
      refine go rfl rfl hrec K1 g1 ⟨rfl,rfl,rfl,E1.later,λ b k hk=>E1.bx b k hk,λ b n hn=>B7 _ _ (λ e1=>by rw[e1,hSp]at hn;cases hn),λ n q x u _ hx=>hx.later E1.later (λ k hk=>⟨E1.tm n q k hk,rfl⟩),λ n q k _ hk=>E1.tm n q k hk⟩ ?_;rw[h0.2 (by rw[hg,hp])];exact Bm.relab (lab' := .tm i (path j)) rfl hf
     ·have hc:Sw A (.al p v)=[]:=by
       simp only[Sw];split
       ·rename_i n e r' xs hp;cases hb:Nat.beq n v
        ·rfl
        have:n=v:=by simpa using hb
        subst this;exact absurd ⟨e,r',xs,hp⟩ hown
       ·rfl
      rw[hc]at hrec;rw[hc]at go ⊢;refine go rfl rfl hrec K hg (.refl S _) ?_;rw[hk]at hst2 ⊢;simp only[Jb]at hst2 ⊢;split
      ·rename_i n e r' xs hp;cases hb:Nat.beq n v
       ·exact trivial
       have:n=v:=by simpa using hb
       subst this;exact absurd ⟨e,r',xs,hp⟩ hown
      ·rename_i n e r' xs hp;cases hb:Nat.beq n v
       ·exact trivial
       have hnv:n=v:=by simpa using hb
       subst hnv;rw[cond_true];have h3:=K.at_ p;rw[hg,hp,← h0.2 (by rw[hg,hp])]at h3;exact Bm.relab (x := .fz e r' xs) (lab := .pl p []) (lab' := .tm i (path j)) rfl h3
      ·exact trivial
    |own e r' xs=>
     obtain⟨K1,L1⟩:=K.retm (atO S.O (λ n q=>if n=i∧q=path j then some .fz else none)) (λ k o e1 ho=>Bi e1 ho);have hO:∀ n q k,¬ (n=i∧q=path j)→S.O k = .tm n q→atO S.O (λ n q=>if n=i∧q=path j then some .fz else none) k = .tm n q:=λ n q k hn hk=>L7 hk (if_neg hn);refine go (v0:=[]) rfl rfl hrec K1 hg ⟨rfl,rfl,rfl,L1,λ b k hk=>Bi hk (by simp),λ _ _ _=>rfl,λ n q x u hn hx=>hx.later L1 (λ k hk=>⟨hO n q k hn hk,rfl⟩),λ n q k hn hk=>hO n q k hn hk⟩ ?_;exact Ff.reads (O':=atO S.O (λ n q=>if n=i∧q=path j then some .fz else none)) h0 (λ k hk=>Bi hk (by simp)) (λ k hk=>I6 hk (if_pos ⟨rfl,rfl⟩))
    |sc v=>exact go (v0:=[]) rfl rfl hrec K hg (.refl S _) h0
    |fz e r' xs=>exact go (v0:=[]) rfl rfl hrec K hg (.refl S _) h0
    |_=>rcases hst2 with⟨_,e1⟩|⟨_,_,_,e1⟩|⟨_,_,_,e1⟩<;>simp[kept,Lk]at e1
   ·cases h
  cases t with
  |ow e r=>
   simp only[G6]at h;split at h
   ·rename_i y hy;split at h
    ·rename_i m' vs' hrec;cases h
     by_cases hal:∃ p v,x = .al p v
     ·obtain⟨p,v,rfl⟩:=hal
      have hown:∃ e' r',∃ xs:List (Ty.den r'),Jb A (.al p v) = .own e' r' xs:=by
       generalize Jb A (.al p v)=z at hy;unfold Ela at hy;split at hy
       ·exact⟨_,_,_,rfl⟩
       ·cases hy
      obtain⟨e',r',xs,hsn⟩:=hown;obtain⟨p',v',e0,hp⟩:=Og hsn (λ e r xs hy=>by cases hy);cases e0;rw[hsn]at hy;have he:u=S.ph p:=h0.2 (by rw[hg,hp])
      let f:List Nat→Option (List Nat):=λ q=>match q with|[]=>some (path j)|_=>none
      have L1:=Lt S p i f (.one .dead);obtain⟨K1,h1,h2⟩:=Z5 K p i f (.one .dead) (by simp) trivial
      have hown:Bm X.P S (.pl p []) (.own e' r' xs) (S.ph p):=by have:=K.at_ p;rw[hg,hp]at this;exact this
      have hown1:=h1 [] (path j) _ _ rfl hown
      have g1:(R4 S p i f (.one .dead)).g=get (ups A (Ema (.al p v))):=by
       show upd S.g p _=get (ups A [⟨p,false,.one .dead⟩]);rw[Au,← hg]
      have G1:G7 X S (R4 S p i f (.one .dead)) (λ n q=>n=i∧q=path j):=⟨rfl,rfl,rfl,L1,λ b k hk=>(Hn (by simp[hk])).trans hk,λ b n hn=>B7 _ _ (λ e1=>by rw[e1,hg,hp]at hn;cases hn),λ n q x u _ hx=>h2 n q x u hx,λ n q k _ hk=>(Hn (by simp[hk])).trans hk⟩;obtain⟨S2,K2,g2,G2,hy2⟩:=H1a K1 hy hown1;exact go rfl rfl hrec K2 (g2.trans g1) (G7.trans (λ _ _ h=>h) (λ _ _ h=>h) G1 G2) (by rw[he];exact hy2)
     ·have ht:Ema x=[]:=by cases x<;>first|rfl|exact absurd ⟨_,_,rfl⟩ hal
      have hsn:Jb A x=x:=by cases x<;>first|rfl|exact absurd ⟨_,_,rfl⟩ hal
      rw[hsn]at hy;rw[ht]at hrec;rw[ht]at go ⊢;obtain⟨S2,K2,g2,G2,hy2⟩:=H1a K hy h0;exact go rfl rfl hrec K2 (g2.trans hg) G2 hy2
    ·cases h
   ·cases h
  |_=>exact plain rfl
def R4a {s:Sv} {l:List Lf} (hnt:∀ vs,s ≠ .tup vs) (hl:l=parts s):∀ n n',0≤n→n<0+l.length→0≤n'→n'<0+l.length→pth s n=pth s n'→n=n':=by
 intro n n' _ h1 _ h2 e;subst hl
 cases s with
 |one x=>simp only[parts,Vh,Vs]at h1 h2;omega
 |agg l=>simpa[pth] using e
 |tup vs=>exact absurd rfl (hnt vs)
def H2a (hE:Iu X E) (K:Bd X S a) (hg:S.g=get A) {T:TypeId} {y:Operand} {s:Sv} {ts:List Ty} {m:List Lf} {vs:List Up} (hs:(opT E T A y=some s∨∃ x,s = .one x∧(∀ t,y ≠ .tmp t)∧∀ lab,Bm X.P S lab x (a.eval y))) (hnt:∀ vs,s ≠ .tup vs) (h:R6 A y s ts=some (m,vs)) (i:Nat):
  ∃ S',Bd X S' a∧S'.g=get (ups A vs)∧G7 X S S' (λ n _=>n=i)∧A5 m=true∧m.length=ts.length∧∃ us,Sq s (a.eval y) us∧Ac X.P S' (λ n => .tm i (pth s n)) 0 m us:=by
 unfold R6 at h;split at h
 ·rename_i m0 vs0 ht
  cases hst:A5 m0 with
  |false=>rw[hst]at h;simp at h
  |true=>
  rw[hst]at h;simp only[cond_true,Vc,Vx]at h;obtain⟨rfl,rfl⟩:=h
  have none1:∀ x,s = .one x→(∀ t,y ≠ .tmp t)→(∀ lab,Bm X.P S lab x (a.eval y))→∃ S1,Bd X S1 a∧S1.g=get (ups A (gone y s))∧Nn X S S1∧∃ us,Sq s (a.eval y) us∧Ac X.P S1 (λ n => .tm i (pth s n)) 0 (parts s) us:=by
   intro x e hnt' hx;subst e
   have hgo:gone y (.one x)=[]:=by
    unfold gone;split
    ·exact absurd rfl (hnt' _)
    ·rfl
   exact⟨S,K,by rw[hgo];exact hg,.refl S,[_],rfl,hx _,trivial⟩
  have first:∃ S1,Bd X S1 a∧S1.g=get (ups A (gone y s))∧Nn X S S1∧∃ us,Sq s (a.eval y) us∧Ac X.P S1 (λ n => .tm i (pth s n)) 0 (parts s) us:=by
   rcases hs with hs|⟨x,e,hnt',hx⟩
   ·rcases L8 hE K hg hs with⟨t,rfl,htl,hst,het,hok⟩|⟨hnt',x,e,hx⟩
    ·cases ho:Lr s with
     |false=>
      have hgo:gone (.tmp t) s=[]:=by simp[gone,ho]
      refine⟨S,K,by rw[hgo];exact hg,.refl S,?_⟩
      cases s with
      |tup vs=>exact absurd rfl (hnt vs)
      |one x=>exact⟨[_],rfl,(Ac.relab (f:=λ _ => .pl t []) ho ⟨hok,trivial⟩)⟩
      |agg l=>
       obtain⟨us,e1,hl⟩:=hok;exact⟨us,e1,hl.relab ho⟩
     |true=>
      have hgo:gone (.tmp t) s=[⟨t,false,.one .dead⟩]:=by simp[gone,ho]
      obtain⟨K1,h1,h2⟩:=Ni K t i;have G1:Nn X S (Mi S t i):=⟨rfl,rfl,rfl,Jj S t i,λ b k hk=>(H5 (by simp[hk])).trans hk,λ b n hn=>B7 _ _ (λ e1=>by rw[e1,← hst]at hn;subst hn;simp[Lr,Fk]at ho),h2,λ n q k hk=>(H5 (by simp[hk])).trans hk⟩;refine⟨_,K1,?_,G1,?_⟩
      ·rw[hgo,Au,← hg];rfl
      ·cases s with
       |tup vs=>exact absurd rfl (hnt vs)
       |one x=>exact⟨[_],rfl,h1 [] x _ hok,trivial⟩
       |agg l=>
        obtain⟨us,e1,hl⟩:=hok;exact⟨us,e1,hl.imp (λ n x u hx=>h1 [n] x u hx)⟩
    ·exact none1 x e hnt' hx
   ·exact none1 x e hnt' hx
  obtain⟨S1,K1,g1,G1,us,hsh,hl⟩:=first
  obtain⟨S2,K2,g2,G2,hl2⟩:=U1 i (pth s) ts (parts s) K1 g1 ht hst hl (R4a hnt rfl);obtain⟨l1,l2⟩:=Lx _ _ ht;exact⟨S2,K2,by rw[Bb];exact g2,G7.trans (λ n q h=>h) (λ n q h=>h.1) (Nn.x (ex:=λ n _=>n=i) G1) G2,hst,by rw[l1,← l2],us,hsh,hl2⟩
 ·cases h
def H3a (hE:Iu X E) (K:Bd X S a) (hg:S.g=get A) {T:TypeId} {y:Operand} {s:Sv} {t:Ty} {m:List Lf} {vs:List Up} (hs:(opT E T A y=some s∨∃ x,s = .one x∧(∀ t,y ≠ .tmp t)∧∀ lab,Bm X.P S lab x (a.eval y))) (hnt:∀ vs,s ≠ .tup vs) (h:R7 A y s t=some (m,vs)) (i:Nat):
  ∃ S',Bd X S' a∧S'.g=get (ups A vs)∧G7 X S S' (λ n _=>n=i)∧A5 m=true∧m.length=t.sz∧∃ us,Sq s (a.eval y) us∧Ac X.P S' (λ n => .tm i (pth s n)) 0 m us:=by
 rw[← Ko];exact H2a hE K hg hs hnt h i
def T1 (K:Bd X S a) (hg:S.g=get A) {b v:Nat} {t t':Ty} {m:List Lf} {vs:List Up} (h:Pg A b v t t'=some (m,vs)) (i:Nat):
  (S.g (H b)).1=v∧(S.g (H b)).2 = .one (.hd t.sz)∧t'.sz=t.sz∧A5 m=true∧m.length=t.sz∧
  ∃ S',Bd X S' a∧S'.g=get (ups A vs)∧G7 X S S' (λ n _=>n=i)∧Ac X.P S' (λ n => .tm i [n]) 0 m ((List.range t.sz).map λ j=>S.ph (C b (0+j))):=by
 unfold Pg at h;split at h
 ·rename_i n hd hp;obtain⟨hq,h⟩:=cs h;simp only[Va]at hq;obtain⟨⟨q1,q2⟩,q3⟩:=hq;have e1:n=v:=Ve q1;have e2:hd=t.sz:=Ve q2;have e3:hd=t'.sz:=Ve q3;split at h
  ·rename_i l us hx;cases hst:A5 l
   ·rw[hst]at h;simp at h
   rw[hst]at h;simp only[cond_true,Vc,Vx]at h;obtain⟨rfl,rfl⟩:=h;obtain⟨c1,c2,c3⟩:=Oi K hg b hd 0;obtain⟨S2,K2,g2,G2,hl2⟩:=U1 i (λ n=>[n]) (Hu t) (cellsOf A b 0 hd) K hg hx hst (c3 _ 0) (λ n n' _ _ _ _ e=>by simpa using e);obtain⟨l1,l2⟩:=Lx _ _ hx;rw[e2]at hl2;exact⟨by rw[hg,hp];exact e1,by rw[hg,hp,e2],by omega,hst,by rw[l1,c1,e2],S2,K2,g2,G7.trans (λ n q h=>h) (λ n q h=>h.1) (G7.refl S (λ n _=>n=i)) G2,hl2⟩
  ·cases h
 ·cases h
end
end

section
attribute [local irreducible] C H
def Er.split {α:Type} {R:α→List Value→List Nat→Prop} {n:Nat} (hn:∀ x c b,R x c b→c.length=n) (d:α):∀ {xs:List α} {cs:List Value} {bs:List Nat} (_:Er R xs cs bs) (i:Nat) (_:i<xs.length),
  ∃ b1 bi b2,bs=b1++(bi++b2)∧Er R (xs.take i) (cs.take (i*n)) b1∧R (xs.getD i d) ((cs.drop (i*n)).take n) bi∧Er R (xs.drop (i+1)) (cs.drop (i*n+n)) b2
 |[],_,_,_,i,hi=>absurd hi (by simp)
 |x::xs,cs,bs,⟨c,d',b1,b2,e,eb,h1,h2⟩,0,_=>by
  subst e eb;have hl:=hn _ _ _ h1;refine⟨[],b1,b2,rfl,by simp[Er],?_,?_⟩
  ·simp only[Djb,Yu];rw[← hl,Dxb];exact h1
  ·simp only[Djb,Wh];rw[← hl,Zm];exact h2
 |x::xs,cs,bs,⟨c,d',b1,b2,e,eb,h1,h2⟩,i+1,hi=>by
  subst e eb;have hl:=hn _ _ _ h1;obtain⟨b3,bi,b4,e3,r1,r2,r3⟩:=h2.split hn d i (by simpa using hi)
  have em:(i+1)*n=c.length+i*n:=by rw[hl,Zd,Zh,Ctb]
  refine⟨b1++b3,bi,b4,by rw[e3,Vo],⟨c,_,b1,b3,?_,rfl,h1,r1⟩,?_,?_⟩
  ·rw[em,Zz]
  ·rw[em,← Yo,Zm];exact r2
  ·rw[em,Zk c.length,List.drop_length_add_append];exact r3
def Caa {P:Program} {S:Sit}:∀ {l:List Lf} {us:List Value} {bs:List Nat} (j0:Nat),I8 P (λ k=>S.O k = .fz) S.w l us bs→bs.Nodup→
  ∃ f:Nat→Option Nat,(∀ k,k∉bs→f k=none)∧(∀ k∈bs,∃ j,f k=some j∧j0≤j∧j<j0+l.length)∧
   ∀ (S':Sit) (lab:Nat→Lab),S'.w=S.w→(∀ k,S.O k = .fz→S'.O k = .fz)→(∀ k j,f k=some j→S'.O k=lab j)→Ac P S' lab j0 l us
 |[],us,bs,j0,h,_=>by
  obtain⟨rfl,rfl⟩:=h;exact⟨λ _=>none,λ _ _=>rfl,by simp,λ _ _ _ _ _=>trivial⟩
 |x::l,us,bs,j0,⟨u,us',b1,b2,e1,e2,h1,h2⟩,hn=>by
  subst e1 e2;rw[Xs]at hn;obtain⟨n1,n2,n3⟩:=hn;obtain⟨f,f1,f2,f3⟩:=Caa (j0+1) h2 n2
  have hb:∀ k j,f k=some j→k∉b1:=λ k j hk h'=>by
   by_cases hk2:k∈b2
   ·exact n3 k h' k hk2 rfl
   ·rw[f1 k hk2]at hk;cases hk
  refine⟨λ k=>if k∈b1 then some j0 else f k,λ k hk=>?_,λ k hk=>?_,λ S' lab hw hf hl=>⟨?_,f3 S' lab hw hf (λ k j hk=>hl k j ((if_neg (hb k j hk)).trans hk))⟩⟩
  ·exact(if_neg (λ h=>hk (Vy _ h))).trans (f1 k (λ h=>hk (Vn _ h)))
  ·rcases Vm.1 hk with h|h
   ·exact⟨j0,if_pos h,Vw _,by simp⟩
   ·obtain⟨j,h3,h4,h5⟩:=f2 k h;exact⟨j,(if_neg (hb k j h3)).trans h3,by omega,by simp only[Vh];omega⟩
  ·cases x with
   |sc v=>exact⟨h1.1,h1.2.1⟩
   |own e r xs=>exact⟨b1,Ty.dep_mono hf (λ k _=>by rw[hw]) (.ow e r) xs [u] b1 (λ k _=>by rw[hw]) h1,n1,λ k hk=>hl k j0 (if_pos hk)⟩
   |_=>exact h1.elim
def T2:∀ (t:Ty) (x:t.den),J6 t=true→A6 t x=lvs t x
 |.i _,_,_=>rfl
 |.b,_,_=>rfl
 |.s,_,_=>rfl
 |.sl _ _,_,_=>rfl
 |.ow _ _,_,h=>by simp[J6]at h
 |.pr x y,p,h=>by
  simp only[J6,Va]at h;show A6 x p.1++A6 y p.2=lvs x p.1++lvs y p.2;rw[T2 x p.1 h.1,T2 y p.2 h.2]
section
variable {X:Cx} {S S':Sit} {a:Act} {E:En} {A:Ab} {o:Oper} {R:Type} {Kc:List Up→Option R} {r:R}
def W2a {P:Program} {S:Sit} {r:Ty} (hr:J6 r=true∨Gx r=true) {x:r.den} {c:List Value} {bs:List Nat} (h:r.dep P (λ k=>S.O k = .fz) S.w x c bs) (hn:bs.Nodup):
  ∃ f:Nat→Option Nat,(∀ k,k∉bs→f k=none)∧(∀ k∈bs,∃ j,f k=some j∧j<r.sz)∧
   ∀ (S':Sit) (lab:Nat→Lab),S'.w=S.w→(∀ k,S.O k = .fz→S'.O k = .fz)→(∀ k j,f k=some j→S'.O k=lab j)→Ac P S' lab 0 (A6 r x) c:=by
 rcases hr with hr|hr
 ·obtain⟨h1,rfl⟩:=(Ty.dep_flat r x c bs hr).1 h;refine⟨λ _=>none,λ _ _=>rfl,by simp,λ S' lab hw hf _=>?_⟩;rw[T2 r x hr];exact Ac.ofRep (Mh r x c (Ty.rep_mono hf (λ k _=>by rw[hw]) r x c h1)) lab 0
 ·obtain⟨f,f1,f2,f3⟩:=Caa 0 (Lw r x c bs hr h) hn;exact⟨f,f1,λ k hk=>by obtain⟨j,h1,_,h2⟩:=f2 k hk;exact⟨j,h1,by rw[Ho]at h2;omega⟩,f3⟩
def B2b (g:Nat→Nat×Sv) (p B:Nat) (e:TypeId) (r:Ty) (xs:List r.den) (i:Int) (l:List Lf):Nat→Nat×Sv:=λ q=>
 if q=p then ((g p).1+1,.one (.opn e r xs i B ((g (H B)).1+1))) else if q=H B then ((g (H B)).1+1,.one (.hd r.sz)) else
 if C B 0≤q∧q<C B 0+l.length then ((g q).1+1,.one (l.getD (q-C B 0) .dead)) else g q
def R5a {p B:Nat} {e:TypeId} {r:Ty} {xs:List r.den} {i:Int} {l:List Lf} (hpH:p≠H B) (hpC:¬ (C B 0≤p∧p<C B 0+l.length)) (hl:l.length≤999):
  get (ups A (⟨p,false,.one (.opn e r xs i B ((get A (H B)).1+1))⟩::⟨H B,false,.one (.hd r.sz)⟩::D8 B 0 l))=B2b (get A) p B e r xs i l:=by
 have hHC:¬ (C B 0≤H B∧H B<C B 0+l.length):=Fy (by omega)
 have e1:get (ups A (⟨p,false,.one (.opn e r xs i B ((get A (H B)).1+1))⟩::⟨H B,false,.one (.hd r.sz)⟩::D8 B 0 l))=Ml (upd (upd (get A) p ((get A p).1+1,.one (.opn e r xs i B ((get A (H B)).1+1)))) (H B) ((get A (H B)).1+1,.one (.hd r.sz))) B 0 l:=by
  show get (ups (up (up A ⟨p,false,.one (.opn e r xs i B ((get A (H B)).1+1))⟩) ⟨H B,false,.one (.hd r.sz)⟩) (D8 B 0 l))=_;rw[Id,L6,L6];simp only[cond_false];rw[B7 _ _ (E1b hpH)]
 rw[e1];funext q;unfold B2b Ml
 by_cases h2:C B 0≤q∧q<C B 0+l.length
 ·have h3:q≠p:=λ e=>hpC (e ▸ h2);have h4:q≠H B:=λ e=>hHC (e ▸ h2);rw[if_pos h2,B7 _ _ h4,B7 _ _ h3,if_neg h3,if_neg h4,if_pos h2]
 ·rw[if_neg h2]
  by_cases h3:q=p
  ·subst h3;rw[B7 _ _ hpH,Ay,if_pos rfl]
  ·rw[if_neg h3]
   by_cases h4:q=H B
   ·subst h4;rw[Ay,if_pos rfl]
   ·rw[B7 _ _ h4,B7 _ _ h3,if_neg h4,if_neg h2]
def M0a (K:Bd X S a) {p v B:Nat} {e:TypeId} {r:Ty} {xs:List r.den} {i:Int} (hB:2000≤B) (hp:S.g p=(v,.one (.own e r xs))) (hpH:p≠H B) (hpC:¬ (C B 0≤p∧p<C B 0+r.sz)) (hr:J6 r=true∨Gx r=true) (hz:r.sz<999)
  (i0:0≤i) (i1:i.toNat<xs.length):
  ∃ S' k cap,Bd X S' a∧S'.g=B2b S.g p B e r xs i (A6 r (xs.getD i.toNat r.dflt))∧S'.w=S.w∧S.ph p = .slice (some ⟨k,0,none⟩) xs.length cap∧S'.bb B=(k,i.toNat*r.sz)∧(∀ q,¬ (C B 0≤q∧q<C B 0+r.sz)→S'.ph q=S.ph q):=by
 have hown:Ff X.P S.O S.w (.pl p []) e r xs (S.ph p):=by have:=K.at_ p;rw[hp]at this;exact this
 obtain⟨bs,⟨u,cs,b0,eu,hs,ho,hrows,eb⟩,hnd,hlab⟩:=hown;simp only[Yh,and_true]at eu;subst eu;rcases Fl ho with⟨_,e1,_⟩|⟨k,cap,cur,hph,hc,h1,h2,h3,h4⟩
 ·omega
 rw[hph]at ho eb;simp only[Value.ownBlock,Option.toList_some,Yq]at eb;obtain⟨b1,bi,b2,e2,r1,r2,r3⟩:=hrows.split (Ty.dep_len r) r.dflt i.toNat i1;subst e2 eb;have hki:k∉b1++(bi++b2):=(Yl.1 hnd).1;have hnd2:=(Yl.1 hnd).2;rw[Xs]at hnd2;obtain⟨n1,n2,n3⟩:=hnd2;rw[Xs]at n2;obtain⟨n4,n5,n6⟩:=n2;have hlk:S.O k = .pl p []:=hlab k (by simp);have hl1:∀ j∈b1,S.O j = .pl p []:=λ j hj=>hlab j (by simp[hj]);have hli:∀ j∈bi,S.O j = .pl p []:=λ j hj=>hlab j (by simp[hj]);have hl2:∀ j∈b2,S.O j = .pl p []:=λ j hj=>hlab j (by simp[hj]);obtain⟨f,f1,f2,f3⟩:=W2a (P:=X.P) (S:=S) hr r2 n4;generalize hrow:(cs.drop (i.toNat*r.sz)).take r.sz=row at r2 f3;have hrl:row.length=r.sz:=Ty.dep_len _ _ _ _ r2
 let O':Nat→Lab:=λ j=>if j=k then .bx B else match f j with
  |some n => .pl (C B n) []
  |none=>S.O j
 have hfn:∀ j n,f j=some n→j∈bi:=λ j n h=>F6b λ h'=>by rw[f1 j h']at h;cases h
 have hOk:O' k = .bx B:=if_pos rfl
 have hOi:∀ j n,f j=some n→O' j = .pl (C B n) []:=λ j n h=>by
  have h5:j≠k:=λ e=>hki (by rw[← e];simp[hfn j n h]);show (if j=k then _ else _)=_;rw[if_neg h5,h]
 have hOo:∀ j o',S.O j=o'→o' ≠ .pl p []→O' j=o':=λ j o' h ho'=>by
  have h5:j≠k:=λ e=>ho' (by rw[← h,e,hlk]);have h6:f j=none:=f1 j (λ hj=>ho' (by rw[← h,hli j hj]));show (if j=k then _ else _)=_;rw[if_neg h5,h6];exact h
 have hOb:∀ j,j∈b1∨j∈b2→O' j = .pl p []:=λ j hj=>by
  have h5:j≠k:=λ e=>hki (by rw[← e];rcases hj with hj|hj<;>simp[hj])
  have h6:f j=none:=f1 j (λ hj'=>by
   rcases hj with hj|hj
   ·exact n3 j hj j (by simp[hj']) rfl
   ·exact n6 j hj' j hj rfl)
  show (if j=k then _ else _)=_;rw[if_neg h5,h6];rcases hj with hj|hj
  ·exact hl1 j hj
  ·exact hl2 j hj
 let S':Sit:=⟨O',upd S.bb B (k,i.toNat*r.sz),B2b S.g p B e r xs i (A6 r (xs.getD i.toNat r.dflt)),Jf S.ph B 0 row,S.w⟩
 have hll:(A6 r (xs.getD i.toNat r.dflt)).length=r.sz:=Ho _ _;have gp:S'.g p=((S.g p).1+1,.one (.opn e r xs i B ((S.g (H B)).1+1))):=if_pos rfl
 have gH:S'.g (H B)=((S.g (H B)).1+1,.one (.hd r.sz)):=by
  show (if H B=p then _ else _)=_;rw[if_neg (E1b hpH),if_pos rfl]
 have hHC:¬ (C B 0≤H B∧H B<C B 0+r.sz):=Fy (by omega)
 have gC:∀ q,C B 0≤q∧q<C B 0+r.sz→S'.g q=((S.g q).1+1,.one ((A6 r (xs.getD i.toNat r.dflt)).getD (q-C B 0) .dead)):=λ q hq=>by
  show (if q=p then _ else _)=_;rw[if_neg (λ h:q=p=>hpC (h ▸ hq)),if_neg (λ h:q=H B=>hHC (h ▸ hq)),if_pos (by rw[hll];exact hq)]
 have gO:∀ q,q≠p→q≠H B→¬ (C B 0≤q∧q<C B 0+r.sz)→S'.g q=S.g q:=λ q q2 q3 q4=>by
  show (if q=p then _ else _)=_;rw[if_neg q2,if_neg q3,if_neg (by rw[hll];exact q4)]
 have same:∀ q,(S'.g q).1=(S.g q).1→S'.g q=S.g q∧q≠p∧q≠H B∧¬ (C B 0≤q∧q<C B 0+r.sz):=λ q hq=>by
  have q2:q≠p:=λ e=>by rw[e,gp]at hq;simp at hq
  have q3:q≠H B:=λ e=>by rw[e,gH]at hq;simp at hq
  have q4:¬ (C B 0≤q∧q<C B 0+r.sz):=λ e=>by rw[gC q e]at hq;simp at hq
  exact⟨gO q q2 q3 q4,q2,q3,q4⟩
 have phO:∀ q,¬ (C B 0≤q∧q<C B 0+r.sz)→S'.ph q=S.ph q:=λ q hq=>by
  show Jf S.ph B 0 row q=_;unfold Jf;rw[if_neg (by rw[hrl];exact hq)]
 have L:Fg S S':=by
  refine⟨λ q=>?_,λ q hq=>phO q (same q hq).2.2.2,λ q v' e' r' xs' hq hv=>?_,λ b hb=>?_,λ j hj=>⟨hOo j _ hj (by simp),rfl⟩,λ b n hb hh hO=>?_,λ q hq hdp=>?_⟩
  ·by_cases q2:q=p
   ·rw[q2,gp];exact Dab _
   by_cases q3:q=H B
   ·rw[q3,gH];exact Dab _
   by_cases q4:C B 0≤q∧q<C B 0+r.sz
   ·rw[gC q q4];exact Dab _
   ·rw[gO q q2 q3 q4];exact Vw _
  ·have:=(same q (by rw[hq];exact hv.symm)).1;rw[this]at hq;exact⟨xs',hq,rfl⟩
  ·have h5:b≠B:=λ e=>(same _ hb).2.2.1 (by rw[e]);exact B7 _ _ h5
  ·have h5:=(same _ hb).1;refine⟨by rw[h5];exact hh,hOo _ _ hO (by simp),λ c e' f' hc'=>⟨c,hc',rfl,λ _ _=>rfl⟩⟩
  ·obtain⟨h5,q2,_⟩:=same q hq;rw[h5];exact⟨hdp,λ _ _ _ h=>h,λ j hj=>⟨.inl (hOo j _ hj (by simp[q2])),rfl⟩⟩
 have hcell:∀ j,j<r.sz→cur[i.toNat*r.sz+j]? = row[j]? := λ j hj=>by
  rw[← hrow,Wp,if_pos hj,Yv,← h4,Wp,Zq];have:(i.toNat+1)*r.sz≤xs.length*r.sz:=Wk _ i1;rw[Zd,Zh]at this;rw[if_pos (by omega)]
 have hfit:i.toNat*r.sz+r.sz≤cur.size:=by
  have h5:(i.toNat+1)*r.sz≤xs.length*r.sz:=Wk _ i1;have h6:xs.length*r.sz≤cap*r.sz:=Wk _ h1;rw[Zd,Zh]at h5;omega
 refine⟨S',k,cap,⟨K.nt,λ j hj=>?_,λ l=>?_,λ b n hb=>?_,λ b n hb=>?_,λ t ht=>?_,K.sz,K.df,K.fr.relab (λ j h=>hOo j _ h (by simp)) (λ j h=>hOo j _ h (by simp)) (λ j b h=>hOo j _ h (by simp))⟩,rfl,rfl,hph,Ay _ _ _,phO⟩
 ·-- blocks
  refine K.lt j (λ e=>hj (hOo j _ e (by simp)))
 ·show Ib X.P S' l (S'.g l).2 (S'.ph l)
  by_cases q2:l=p
  ·rw[q2,gp,phO p hpC,hph];refine⟨by rw[gH];exact Vw _,⟨hs,i0,i1,k,cap,rfl⟩,λ _=>⟨k,cap,cur,b1,b2,rfl,hs,hc,⟨h1,h2,h3⟩,⟨i0,i1⟩,Ay _ _ _,hOk,by rw[gH],?_,?_,?_,λ j hj=>hOb j (Vm.1 hj)⟩⟩
   ·have h5:cs.take (i.toNat*r.sz)=cur.toList.take (i.toNat*r.sz):=by
     rw[← h4,Dmb,D0b (Wk _ (Nat.le_of_lt i1))]
    rw[h5]at r1;exact r1.mono (λ x c b hb h=>Ty.dep_mono (λ j hj=>hOo j _ hj (by simp)) (λ _ _=>rfl) r x c b (λ _ _=>rfl) h)
   ·rw[h4];exact r3.mono (λ x c b hb h=>Ty.dep_mono (λ j hj=>hOo j _ hj (by simp)) (λ _ _=>rfl) r x c b (λ _ _=>rfl) h)
   ·rw[Xs];exact⟨n1,n5,λ x hx y hy=>n3 x hx y (Vn _ hy)⟩
  by_cases q3:l=H B
  ·rw[q3,gH];trivial
  by_cases q4:C B 0≤l∧l<C B 0+r.sz
  ·rw[gC l q4];have h5:=f3 S' (λ n => .pl (C B n) []) rfl (λ j hj=>hOo j _ hj (by simp)) hOi;obtain⟨x,u',w1,w2,w3,w4⟩:=h5.at (l-C B 0) (by rw[hll];omega)
   have w5:S'.ph l=u':=by
    show Jf S.ph B 0 row l=_;unfold Jf;rw[if_pos (by rw[hrl];exact q4),w2]
   rw[w1,w5];rw[Wh]at w4
   have w6:C B (l-C B 0)=l:=by
    have:C B (l-C B 0)=C B 0+(l-C B 0):=by unfold C;omega
    omega
   rw[w6]at w4;exact w4
  ·rw[gO l q2 q3 q4,phO l q4];exact(K.at_ l).later L (λ q j hj=>⟨hOo j _ hj (by simp[q2]),rfl⟩)
 ·by_cases hbB:b=B
  ·subst hbB;rw[gH]at hb;cases hb;refine⟨hz,cur,e,?_,?_,?_,λ j hj=>?_⟩
   ·show S.w.heap[(upd S.bb b (k,i.toNat*r.sz) b).1]? = _;rw[Ay];exact hc
   ·show O' (upd S.bb b (k,i.toNat*r.sz) b).1=_;rw[Ay];exact hOk
   ·show (upd S.bb b (k,i.toNat*r.sz) b).2+_≤_;rw[Ay];exact hfit
   ·show cur[(upd S.bb b (k,i.toNat*r.sz) b).2+j]? = some (Jf S.ph b 0 row (C b j));rw[Ay,hcell j hj];unfold Jf
    have h2':C b 0≤C b j∧C b j<C b 0+row.length:=by unfold C;omega
    rw[if_pos h2',show C b j-C b 0=j by unfold C;omega,Vb,Vg (by omega)];rfl
  ·have hne:H b≠H B:=λ e=>hbB (Z2 e);have h6:¬ (C B 0≤H b∧H b<C B 0+r.sz):=Fy (by omega)
   have h7:H b≠p:=λ e=>by rw[e,gp]at hb;cases hb
   rw[gO _ h7 hne h6]at hb;obtain⟨g1,c1,e2,g2,g3,g4,g5⟩:=K.box b n hb;have hbb:S'.bb b=S.bb b:=B7 _ _ hbB;rw[hbb];refine⟨g1,c1,e2,g2,hOo _ _ g3 (by simp),g4,λ j hj=>?_⟩;rw[phO _ (Pk (by omega) (by omega) hbB)];exact g5 j hj
 ·by_cases hbB:b=B
  ·subst hbB;refine⟨λ h=>absurd h (by omega),λ h=>absurd h (by unfold Cx.pb;omega),λ _ hlt b' h0=>?_⟩
   have h5:X.O0 k = .bx b':=by
    have:X.O0 (upd S.bb b (k,i.toNat*r.sz) b).1 = .bx b':=h0;rwa [Ay]at this
   have h6:k<X.w0.heap.size:=by
    have:(upd S.bb b (k,i.toNat*r.sz) b).1<X.w0.heap.size:=hlt;rwa [Ay]at this
   have:=(K.fr.bx k b' h6 h5).1;rw[hlk]at this;cases this
  ·have hne:H b≠H B:=λ e=>hbB (Z2 e);have h6:¬ (C B 0≤H b∧H b<C B 0+r.sz):=Fy (by omega)
   have h7:H b≠p:=λ e=>by rw[e,gp]at hb;cases hb
   rw[gO _ h7 hne h6]at hb;have hbb:S'.bb b=S.bb b:=B7 _ _ hbB;rw[hbb];exact K.rgn b n hb
 ·show a.tmps.getD t undef=S'.ph t;rw[phO t (Km (Yf ht K.nt))];exact K.sl t ht
end
end

section
attribute [local irreducible] C H
def W3a {p B:Nat} (h:Nat.beq (p/1000) (B+1)=false) {n:Nat} (hn:n≤999):p≠H B∧¬ (C B 0≤p∧p<C B 0+n):=by
 have h1:p/1000≠B+1:=λ e=>by rw[e,F1b]at h;cases h
 refine⟨λ e=>h1 ?_,λ ⟨h2,h3⟩=>h1 ?_⟩
 ·rw[e];unfold H;omega
 ·have:C B 0=1000*(B+1):=by unfold C;omega
  omega
section
variable {X:Cx} {S S':Sit} {a:Act} {E:En} {A:Ab} {o:Oper} {R:Type} {Kc:List Up→Option R} {r:R}
def Q7 (K:Bd X S a) (hg:S.g=get A) {p v B:Nat} {e:TypeId} {r:Ty} {xs:List r.den} {i:Int} {us:List Up} (hp:S.g p=(v,.one (.own e r xs))) (h:Q1 A B p e r xs i=some us):
  ∃ S' k cap,Bd X S' a∧S'.g=get (ups A us)∧S'.w=S.w∧S.ph p = .slice (some ⟨k,0,none⟩) xs.length cap∧S'.bb B=(k,i.toNat*r.sz)∧(∀ q,q<1000→S'.ph q=S.ph q)∧(S'.g (H B)).1=(S.g (H B)).1+1∧
   (∀ q,q<1000→q≠p→S'.g q=S.g q):=by
 unfold Q1 at h;obtain⟨hq,h⟩:=cs h;simp only[Va,Zw,Wb]at hq;obtain⟨⟨⟨q1,q2⟩,q3⟩,q4⟩:=hq;have hz:r.sz<999:=Vl q2;have hB:2000≤B:=Vl q4
 by_cases h0:0≤i
 ·by_cases h1:i<(xs.length:Int)
  ·simp only[h0,h1,decide_true,cond_true,Vc]at h;subst h;obtain⟨hpH,hpC⟩:=W3a q3 (n:=r.sz) (by omega);obtain⟨S',k,cap,K',g',w',ph',bb',pq⟩:=M0a K hB hp hpH hpC q1 hz h0 (by omega);have hl:(A6 r (xs.getD i.toNat r.dflt)).length=r.sz:=Ho _ _
   have hg':S'.g=get (ups A (⟨p,false,.one (.opn e r xs i B ((get A (H B)).1+1))⟩::⟨H B,false,.one (.hd r.sz)⟩::D8 B 0 (A6 r (xs.getD i.toNat r.dflt)))):=by
    rw[R5a hpH (by rw[hl];exact hpC) (by omega),← hg,g']
   refine⟨S',k,cap,K',hg',w',ph',bb',λ q hq=>pq q (Km hq),?_,λ q hq hne=>?_⟩
   ·rw[g'];show (if H B=p then _ else _:Nat×Sv).1=_;rw[if_neg (E1b hpH),if_pos rfl]
   ·rw[g'];show (if q=p then _ else _:Nat×Sv)=_;rw[if_neg hne,if_neg (λ e=>by have:=Yxa B;omega),if_neg (Km hq)]
  ·simp[h0,h1]at h
 ·simp[h0]at h
def Bd.point (K:Bd X S a) {d:Nat} (hd:d<X.nt) {z:Lf} (hz:Bm X.P S (.pl d []) z (S.ph d)) (hown:z.isOwn=false) (hnh:∀ n,z ≠ .hd n):Bd X { S with g:=upd S.g d ((S.g d).1+1,.one z) } a:=by
 have hd1:d<1000:=Yf hd K.nt
 have hdH:∀ b,H b≠d:=λ b e=>by have:=Yxa b;omega
 have L:Fg S { S with g:=upd S.g d ((S.g d).1+1,.one z) }:=by
  refine⟨λ p=>?_,λ _ _=>rfl,λ p v e r xs' hp hv=>?_,λ _ _=>rfl,λ k h=>⟨h,rfl⟩,Fg.box_of (λ b n hv hh=>?_) (λ _ _ h=>⟨h,rfl⟩),λ p hp hdp=>?_⟩
  ·by_cases h:p=d
   ·subst h;show _≤(upd S.g p _ p).1;rw[Ay];exact Dab _
   ·show _≤(upd S.g d _ p).1;rw[B7 _ _ h];exact Vw _
  ·have hp':upd S.g d ((S.g d).1+1,.one z) p=(v,.one (.own e r xs')):=hp
   by_cases h:p=d
   ·subst h;rw[Ay]at hp';simp only[Vx]at hp';omega
   ·rw[B7 _ _ h]at hp';exact⟨xs',hp',rfl⟩
  ·exact(congrArg Prod.snd (B7 _ _ (hdH b))).trans hh
  ·have hp':(upd S.g d ((S.g d).1+1,.one z) p).1=(S.g p).1:=hp
   have h:p≠d:=λ e=>by subst e;rw[Ay]at hp';simp at hp'
   have e1:({ S with g:=upd S.g d ((S.g d).1+1,.one z) }:Sit).g p=S.g p:=B7 _ _ h;rw[e1];exact⟨hdp,λ _ _ _ h=>h,λ k hk=>⟨.inl hk,rfl⟩⟩
 refine K.ghost S.O _ (λ _ h=>h) (λ _ h=>h) (λ _ h=>h) (λ _ _ h=>h) (λ b n h=>?_) (λ l=>?_)
 ·rwa [B7 _ _ (hdH b)]at h
 ·by_cases h:l=d
  ·subst h;show Ib X.P _ l (upd S.g l _ l).2 _;rw[Ay];exact Bm.later L hz (λ k hk=>⟨hk,rfl⟩)
  ·show Ib X.P _ l (upd S.g d _ l).2 _;rw[B7 _ _ h];exact(K.at_ l).later L (λ p k hk=>⟨hk,rfl⟩)
def R6a (K:Bd X S a) (hg:S.g=get A) {p t B:Nat} {us:List Up} (h:Qma A p t B=some us):∃ S',Bd X S' a∧S'.g=get (ups A us)∧S'.w=S.w:=by
 unfold Qma at h;split at h
 ·rename_i e r xs k i hp _;obtain⟨S',_,_,K',g',w',_⟩:=Q7 K hg (p:=p) (v:=(S.g p).1) (by rw[← hg]at hp;rw[← hp]) h;exact⟨S',K',g',w'⟩
 ·cases h
def H4a (K:Bd X S a) (hg:S.g=get A) {d B:Nat} (hd:d<X.nt) {us:List Up} (h:Jga A d B=some us):∃ S',Bd X S' a∧S'.g=get (ups A us)∧S'.w=S.w:=by
 have hd1:d<1000:=Yf hd K.nt;have hat:=K.at_ d
 have go:∀ {p v:Nat} {e:TypeId} {r:Ty} {xs:List r.den} {i:Int} {off:Nat} {us0:List Up},S.g p=(v,.one (.own e r xs))→p≠d→Q1 A B p e r xs i=some us0→us=us0++[⟨d,false,.one (.bp B ((get A (H B)).1+1) off)⟩]→
   (∀ k cap,S.ph p = .slice (some ⟨k,0,none⟩) xs.length cap→S.ph d = .pointer (some ⟨k,i.toNat*r.sz+off,none⟩))→∃ S',Bd X S' a∧S'.g=get (ups A us)∧S'.w=S.w:=by
  intro p v e r xs i off us0 hp hpd ho hus hpt;obtain⟨S',k,cap,K',g',w',ph',bb',pq,gH,gq⟩:=Q7 K hg hp ho
  have hz:Bm X.P S' (.pl d []) (.bp B ((S.g (H B)).1+1) off) (S'.ph d):=by
   refine⟨by rw[gH];exact Vw _,λ _=>?_⟩;rw[pq d hd1,hpt k cap ph',bb']
  refine⟨_,K'.point hd hz rfl (by simp),?_,w'⟩;show upd S'.g d _=_;rw[hus,Bb,Au,← g',← hg]
 unfold Jga at h;split at h
 ·rename_i p v i off hd2
  have hat':Bm X.P S (.pl d []) (.ep p v i off) (S.ph d):=by rw[hg,hd2]at hat;exact hat
  split at h
  ·rename_i n e r xs hp;rw[csi]at h;obtain⟨hq,h⟩:=h;simp only[Va,Wb]at hq;obtain⟨⟨q1,q2⟩,q3⟩:=hq;have hnv:n=v:=Ve q1;subst hnv
   have hpd:p≠d:=λ e=>by rw[e,F1b]at q3;cases q3
   split at h
   ·rename_i us0 ho;simp only[Vc]at h
    have hp':S.g p=(n,.one (.own e r xs)):=by rw[hg,hp]
    refine go hp' hpd ho h.symm (λ k cap hk=>?_);obtain⟨_,_,k',cap',e1,e2⟩:=hat'.2 e r xs hp';rw[hk]at e1;cases e1;exact e2
   ·cases h
  ·cases h
 ·rename_i p v e0 r0 xs0 i off hd2
  have hat':Bm X.P S (.pl d []) (.dp p v (some []) e0 r0 xs0 i off) (S.ph d):=by rw[hg,hd2]at hat;exact hat
  split at h
  ·rename_i n e r xs hp;rw[csi]at h;obtain⟨hq,h⟩:=h;simp only[Va,Wb]at hq;obtain⟨⟨q1,q2⟩,q3⟩:=hq;have hnv:n=v:=Ve q1;subst hnv
   have hpd:p≠d:=λ e=>by rw[e,F1b]at q3;cases q3
   split at h
   ·rename_i us0 ho;simp only[Vc]at h
    have hp':S.g p=(n,.one (.own e r xs)):=by rw[hg,hp]
    have hv:(S.g p).1=n:=by rw[hp']
    refine go hp' hpd ho h.symm (λ k cap hk=>?_);obtain⟨hh,hda,hdp⟩:=hat';obtain⟨_,_,k',o',cap',e1,e2⟩:=hdp hv;obtain⟨_,_,hpath⟩:=hda.2.2 hv;obtain⟨f1,f2⟩:=hpath [] rfl e r xs (by rw[hp']);simp only[Gta,Vc]at f1;cases f1;have f3:hh=S.ph p:=f2;rw[f3,hk]at e1;cases e1;rw[e2,Wh]
   ·cases h
  ·cases h
 ·cases h
def Er.set3 {α:Type} {R:α→List Value→List Nat→Prop} {xs:List α} {i:Nat} {z:α} {c1 c c2:List Value} {b1 bi b2:List Nat} (hi:i<xs.length) (h1:Er R (xs.take i) c1 b1) (h:R z c bi) (h2:Er R (xs.drop (i+1)) c2 b2):
  Er R (xs.set i z) (c1++(c++c2)) (b1++(bi++b2)):=by
 rw[D7b,if_pos hi];exact h1.append ⟨c,c2,bi,b2,rfl,rfl,h,h2⟩
def R7a (K:Bd X S a) (hg:S.g=get A) {p:Nat} {us:List Up} (h:Lca A p=some us):∃ S',Bd X S' a∧S'.g=get (ups A us)∧S'.w=S.w:=by
 unfold Lca at h;split at h
 ·rename_i e0 r0 xs0 i0 b v hop0;split at h
  ·rename_i l us1 hgive;obtain⟨_,_,_,hst,hlen,S1,K1,g1,G1,hls⟩:=T1 K hg hgive 7;split at h
   ·rename_i e r xs i b' v' hop;rw[csi]at h;obtain⟨hq,h⟩:=h;simp only[Va]at hq;obtain⟨⟨⟨⟨q1,q2⟩,q3⟩,q5⟩,q4⟩:=hq;have hbb':b=b':=Ve q1;subst hbb';have hb2:2000≤b:=Vl q3
    have hv:(S1.g (H b)).1=v':=by rw[g1];exact Ve q2
    split at h
    ·rename_i z hz;simp only[Vc]at h
     have hat:Bm X.P S1 (.pl p []) (.opn e r xs i b v') (S1.ph p):=by have:=K1.at_ p;rw[g1,hop]at this;exact this
     obtain⟨_,_,hopn⟩:=hat;obtain⟨k,cap,cur,b1,b2,h1,h2,h3,⟨h4,h5,h6⟩,⟨i0,i1⟩,h8,h9,h10,h11,h12,h13,h14⟩:=hopn hv;obtain⟨hn,c,e',x1,x2,x3,x4⟩:=K1.box b r.sz h10;rw[h8]at x1 x2 x3 x4;rw[h3]at x1;cases x1
     have hrl:((List.range r0.sz).map λ j=>S.ph (C b (0+j))).length=l.length:=by rw[Vz,List.length_range,hlen]
     have hzl:l.length=r.sz:=Ve q5
     have hr0:r0.sz=r.sz:=by omega
     generalize hrow:(List.range r0.sz).map (λ j=>S.ph (C b (0+j)))=row at hls hrl
     have hrow2:row=(cur.toList.drop (i.toNat*r.sz)).take r.sz:=by
      refine Dsb λ j=>?_;rw[Wp,Yv]
      by_cases hj:j<r.sz
      ·have e1:cur.toList[i.toNat*r.sz+j]? = cur[i.toNat*r.sz+j]? := Zq;have e2:cur[i.toNat*r.sz+j]? = some (S1.ph (C b j)):=x4 j hj;rw[if_pos hj,e1,e2,G1.ph,← hrow];simp[hr0,hj]
      ·rw[if_neg hj,Yx (by omega)]
     have hdep:∃ bi,r.dep X.P (λ k=>S1.O k = .fz) S1.w z row bi∧bi.Nodup∧∀ k∈bi,∃ q,S1.O k = .tm 7 q:=by
      rcases Zw _ _ ▸ q4 with q|q
      ·simp only[Va,Wb]at q
       have hrep:Jt (It X.P (λ k=>S1.O k = .fz) S1.w) l row:=by
        have key:∀ (l:List Lf) (j:Nat) (us:List Value),A5 l=true→Fk l=false→Ac X.P S1 (λ n => .tm 7 [n]) j l us→Jt (It X.P (λ k=>S1.O k = .fz) S1.w) l us:=by
         intro l
         induction l with
         |nil=>intro j us _ _ h;cases us<;>first|exact .nil|exact h.elim
         |cons x l ih=>
          intro j us hs ho h
          cases us with
          |nil=>exact h.elim
          |cons u us=>
           cases x with
           |sc v=>exact .cons h.1 (ih _ _ (by simpa[A5] using hs) (by simpa[Fk] using ho) h.2)
           |fz e r xs=>exact .cons h.1 (ih _ _ (by simpa[A5] using hs) (by simpa[Fk] using ho) h.2)
           |own e r xs=>simp[Fk]at ho
           |_=>simp[A5]at hs
        exact key l 0 row hst q.2 hls
       exact⟨[],(Ty.dep_flat r z row [] q.1).2 ⟨Tp hz hrep,rfl⟩,by simp,by simp⟩
      ·simp only[Va]at q;obtain⟨mb,m1,m2,m3⟩:=Oj q.2 hls (λ n n' _ _ _ _ e=>by simpa using e);exact⟨mb,A1a q.1 hz m1,m2,λ k hk=>by obtain⟨n,_,_,h⟩:=m3 k hk;exact⟨_,h⟩⟩
     obtain⟨bi,hd1,hd2,hd3⟩:=hdep
     let O':Nat→Lab:=λ j=>if j=k then .pl p [] else match S1.O j with
      |.tm 7 _ => .pl p []
      |o=>o
     have hOk:O' k = .pl p []:=if_pos rfl
     have hOn:∀ j o',S1.O j=o'→j≠k→(∀ q,o' ≠ .tm 7 q)→O' j=o':=λ j o' hj h3 h2=>by
      show (if j=k then _ else _)=_;rw[if_neg h3,hj]
      cases o'<;>first|rfl|skip
      rename_i n q
      by_cases hn7:n=7
      ·subst hn7;exact absurd rfl (h2 q)
      ·split
       ·rename_i heq;simp only[Lab.tm.injEq]at heq;exact absurd heq.1 hn7
       ·rfl
     have hOo:∀ j o',S1.O j=o'→o' ≠ .bx b→(∀ q,o' ≠ .tm 7 q)→O' j=o':=λ j o' hj h1 h2=>hOn j o' hj (λ e=>h1 (by rw[← hj,e,h9])) h2
     have hO7:∀ j q,S1.O j = .tm 7 q→O' j = .pl p []:=λ j q hj=>by
      have h3:j≠k:=λ e=>by rw[e,h9]at hj;cases hj
      show (if j=k then _ else _)=_;rw[if_neg h3,hj];rfl
     let g':=upd (upd S1.g (H b) ((S1.g (H b)).1+1,.one .dead)) p ((S1.g p).1+1,.one (.own e r (xs.set i.toNat z)))
     have hpH:p≠H b:=λ e=>by rw[e,← g1,h10]at hop;cases hop
     let S':Sit := { S1 with O:=O',g:=g' }
     have gp:S'.g p=((S1.g p).1+1,.one (.own e r (xs.set i.toNat z))):=Ay _ _ _;have gH:S'.g (H b)=((S1.g (H b)).1+1,.one .dead):=(B7 _ _ (E1b hpH)).trans (Ay _ _ _);have gO:∀ q,q≠p→q≠H b→S'.g q=S1.g q:=λ q q1 q2=>(B7 _ _ q1).trans (B7 _ _ q2)
     have same:∀ q,(S'.g q).1=(S1.g q).1→S'.g q=S1.g q∧q≠p∧q≠H b:=λ q hq=>by
      have q1:q≠p:=λ e=>by rw[e,gp]at hq;simp at hq
      have q2:q≠H b:=λ e=>by rw[e,gH]at hq;simp at hq
      exact⟨gO q q1 q2,q1,q2⟩
     have hfz:∀ j,S1.O j = .fz→O' j = .fz:=λ j hj=>hOo j _ hj (by simp) (by simp)
     have L:Fg S1 S':=by
      refine⟨λ q=>?_,λ _ _=>rfl,λ q v2 e2 r2 xs' hq hv2=>?_,λ _ _=>rfl,λ j hj=>⟨hfz j hj,rfl⟩,λ b3 n hb hh hO=>?_,λ q hq hdp=>?_⟩
      ·by_cases q1:q=p
       ·rw[q1,gp];exact Dab _
       by_cases q2:q=H b
       ·rw[q2,gH];exact Dab _
       ·rw[gO q q1 q2];exact Vw _
      ·have:=(same q (by rw[hq];exact hv2.symm)).1;rw[this]at hq;exact⟨xs',hq,rfl⟩
      ·obtain⟨s1,_,s2⟩:=same _ hb;have hb3:b3≠b:=λ e=>s2 (by rw[e]);exact⟨by rw[s1];exact hh,hOo _ _ hO (by simp[hb3]) (by simp),λ c e' f' hc'=>⟨c,hc',rfl,λ _ _=>rfl⟩⟩
      ·obtain⟨s1,_,_⟩:=same q hq;rw[s1];exact⟨hdp,λ _ _ _ h=>h,λ j hj=>⟨.inl (hOo j _ hj (by simp) (by simp)),rfl⟩⟩
     have hnd:(k::(b1++(bi++b2))).Nodup:=by
      rw[Xs]at h13;obtain⟨n1,n2,n3⟩:=h13;rw[Yl,Xs,Xs]
      have hk1:∀ j∈b1++b2,j≠k:=λ j hj e=>by have:=h14 j hj;rw[e,h9]at this;cases this
      refine⟨λ hk=>?_,n1,⟨hd2,n2,λ x hx y hy e=>?_⟩,λ x hx y hy e=>?_⟩
      ·rcases Vm.1 hk with hk|hk
       ·exact hk1 k (Vy _ hk) rfl
       ·rcases Vm.1 hk with hk|hk
        ·obtain⟨q,hq⟩:=hd3 k hk;rw[h9]at hq;cases hq
        ·exact hk1 k (Vn _ hk) rfl
      ·obtain⟨q,hq⟩:=hd3 x hx;have:=h14 y (Vn _ hy);rw[← e,hq]at this;cases this
      ·rcases Vm.1 hy with hy|hy
       ·obtain⟨q,hq⟩:=hd3 y hy;have:=h14 x (Vy _ hx);rw[e,hq]at this;cases this
       ·exact n3 x hx y hy e
     have hown:Ff X.P O' S1.w (.pl p []) e r (xs.set i.toNat z) (S1.ph p):=by
      have hcs:cur.toList.take (xs.length*r.sz)=cur.toList.take (i.toNat*r.sz)++(row++(cur.toList.take (xs.length*r.sz)).drop (i.toNat*r.sz+r.sz)):=by
       have hle:(i.toNat+1)*r.sz≤xs.length*r.sz:=Wk _ i1;rw[Zd,Zh]at hle
       have e1:cur.toList.take (i.toNat*r.sz)=(cur.toList.take (xs.length*r.sz)).take (i.toNat*r.sz):=by rw[Dmb,D0b (by omega)]
       have e2:row=((cur.toList.take (xs.length*r.sz)).drop (i.toNat*r.sz)).take r.sz:=by
        rw[hrow2];refine Dsb λ j=>?_;rw[Wp,Wp];split
        ·rw[Yv,Yv,Wp,if_pos (by omega)]
        ·rfl
       rw[e1,e2,← Yo];rw[Wi,Wi]
      refine⟨k::(b1++(bi++b2)),⟨S1.ph p,cur.toList.take (xs.length*r.sz),b1++(bi++b2),rfl,h2,⟨?_,.inr ⟨k,cap,cur,by rw[Vv];exact h1,Vu _,h3,by rw[Vv];exact h4,h5,h6,by rw[Vv]⟩⟩,?_,?_⟩,hnd,λ j hj=>?_⟩
      ·have e1:cur.toList.length=cur.size:=Ze;rw[Vq,Vv,e1];have:=Wk r.sz h4;omega
      ·rw[hcs];have mono:∀ {x:r.den} {c:List Value} {d:List Nat},r.dep X.P (λ k=>S1.O k = .fz) S1.w x c d→r.dep X.P (λ k=>O' k = .fz) S1.w x c d:=λ h=>Ty.dep_mono hfz (λ _ _=>rfl) r _ _ _ (λ _ _=>rfl) h;exact Er.set3 i1 (h11.mono (λ x c d _ h=>mono h)) (mono hd1) (h12.mono (λ x c d _ h=>mono h))
      ·rw[h1];rfl
      ·rcases Vk.1 hj with rfl|hj
       ·exact hOk
       ·rcases Vm.1 hj with hj|hj
        ·exact hOo j _ (h14 j (Vy _ hj)) (by simp) (by simp)
        ·rcases Vm.1 hj with hj|hj
         ·obtain⟨q,hq⟩:=hd3 j hj;exact hO7 j q hq
         ·exact hOo j _ (h14 j (Vn _ hj)) (by simp) (by simp)
     refine⟨S',⟨K1.nt,λ j hj=>?_,λ q=>?_,λ b3 n hb=>?_,λ b3 n hb=>?_,K1.sl,K1.sz,K1.df,⟨K1.fr.os,K1.fr.tape,K1.fr.out,K1.fr.size,λ j hj h0=>?_,λ j hj h0=>?_,λ j b3 hj h0=>?_⟩⟩,?_,G1.w⟩
     ·exact K1.lt j (λ e=>hj (hOo j _ e (by simp) (by simp)))
     ·show Ib X.P S' q (S'.g q).2 (S1.ph q)
      by_cases q1:q=p
      ·rw[q1,gp];exact hown
      by_cases q2:q=H b
      ·rw[q2,gH];trivial
      ·rw[gO q q1 q2];exact(K1.at_ q).later L (λ w j hj=>⟨hOo j _ hj (by simp) (by simp),rfl⟩)
     ·have hb3:b3≠b:=λ e=>by rw[e,gH]at hb;cases hb
      have hbp:H b3≠p:=λ e=>by rw[e,gp]at hb;cases hb
      rw[gO _ hbp (λ e=>hb3 (Z2 e))]at hb;obtain⟨y1,c1,e1,y2,y3,y4,y5⟩:=K1.box b3 n hb;exact⟨y1,c1,e1,y2,hOo _ _ y3 (by simp[hb3]) (by simp),y4,y5⟩
     ·have hb3:b3≠b:=λ e=>by rw[e,gH]at hb;cases hb
      have hbp:H b3≠p:=λ e=>by rw[e,gp]at hb;cases hb
      rw[gO _ hbp (λ e=>hb3 (Z2 e))]at hb;exact K1.rgn b3 n hb
     ·obtain⟨f1,f2⟩:=K1.fr.no j hj h0;exact⟨hOo j _ f1 (by simp) (by simp),f2⟩
     ·obtain⟨f1,f2⟩:=K1.fr.fz j hj h0;exact⟨hOo j _ f1 (by simp) (by simp),f2⟩
     ·obtain⟨f1,rest⟩:=K1.fr.bx j b3 hj h0;refine⟨hOn j _ f1 (λ e=>?_) (by simp),rest⟩;rw[e]at hj h0;exact(K1.rgn b r.sz h10).2.2 hb2 (by rw[h8];exact hj) b3 (by rw[h8];exact h0)
     ·show upd (upd S1.g (H b) _) p _=_;rw[← h,Bb];show _=get (ups (up (ups A us1) ⟨H b,false,.one .dead⟩) [⟨p,false,.one (.own e r (xs.set i.toNat z))⟩]);rw[Au,L6,← g1];simp only[cond_false];rw[B7 _ _ hpH]
    ·cases h
   ·cases h
  ·cases h
 ·cases h
def Q8 {R:Type} {B p:Nat} {e:TypeId} {r:Ty} {xs:List r.den} {i:Int} {K:List Up→Option R} {Z:Option R} {y:R} (h:Tk A B p e r xs i K Z=some y):Z=some y∨∃ us,Q1 A B p e r xs i=some us∧K us=some y:=by
 unfold Tk at h;unfold Q1;cases h1:((J6 r||Gx r)&&Nat.blt r.sz 999&&!(Nat.beq (p/1000) (B+1))&&Nat.ble 2000 B)
 ·rw[h1,cond_false]at h;exact .inl h
 rw[h1,cond_true]at h;cases h2:decide (0≤i)
 ·rw[h2]at h;simp at h
 rw[h2,cond_true]at h;cases h3:decide (i<(xs.length:Int))
 ·rw[h3]at h;simp at h
 rw[h3,cond_true]at h;exact .inr ⟨_,rfl,h⟩
def R8a {R:Type} {K':Ab→Option R} {y:R} (hE:Iu X E) (g:Gh) (K:Bd X S a) (hg:S.g=get A) (h:X4 E A K' g=some y):∃ A' S',K' A'=some y∧Bd X S' a∧S'.g=get A'∧S'.w=S.w:=by
 have keep:K' A=some y→∃ A' S',K' A'=some y∧Bd X S' a∧S'.g=get A'∧S'.w=S.w:=λ h=>⟨A,S,h,K,hg,rfl⟩
 cases g with
 |cl p=>
  simp only[X4]at h;split at h
  ·rename_i us hus;obtain⟨S1,K1,g1,w1⟩:=R7a K hg hus;exact⟨_,S1,h,K1,g1,w1⟩
  ·exact keep h
 |op p t B=>
  simp only[X4]at h;cases hb:Nat.blt t E.nt
  ·rw[hb,cond_false]at h;exact keep h
  rw[hb,cond_true]at h;split at h
  ·rename_i e r xs k i hp ht;rcases Q8 h with h|⟨us,hus,h⟩
   ·exact keep h
   ·have:Qma A p t B=some us:=by unfold Qma;rw[hp,ht];exact hus
    obtain⟨S1,K1,g1,w1⟩:=R6a K hg this;exact⟨_,S1,h,K1,g1,w1⟩
  ·exact keep h
 |oc p i B=>
  simp only[X4]at h;split at h
  ·rename_i e r xs hp;rcases Q8 h with h|⟨us,hus,h⟩
   ·exact keep h
   ·obtain⟨S1,_,_,K1,g1,w1,_⟩:=Q7 K hg (p:=p) (v:=(S.g p).1) (by rw[← hg]at hp;rw[← hp]) hus;exact⟨_,S1,h,K1,g1,w1⟩
  ·exact keep h
 |od d B=>
  simp only[X4]at h;cases hb:Nat.blt d E.nt
  ·rw[hb,cond_false]at h;exact keep h
  have hd:d<X.nt:=hE.nt ▸ (Vl hb:d+1≤E.nt);rw[hb,cond_true]at h;split at h
  ·rename_i p v i off hp;split at h
   ·rename_i n e r xs hpp;cases hq:(Nat.beq n v&&J6 r&&!(Nat.beq p d))
    ·rw[hq,cond_false]at h;exact keep h
    rw[hq,cond_true]at h;rcases Q8 h with h|⟨us,hus,h⟩
    ·exact keep h
    ·have:Jga A d B=some (us++[⟨d,false,.one (.bp B ((get A (H B)).1+1) off)⟩]):=by unfold Jga;simp only[hp,hpp,hq,cond_true,hus]
     obtain⟨S1,K1,g1,w1⟩:=H4a K hg hd this;exact⟨_,S1,h,K1,g1,w1⟩
   ·exact keep h
  ·rename_i p v e0 r0 xs0 i off hp;split at h
   ·rename_i n e r xs hpp;cases hq:(Nat.beq n v&&!(J6 r)&&!(Nat.beq p d))
    ·rw[hq,cond_false]at h;exact keep h
    rw[hq,cond_true]at h;rcases Q8 h with h|⟨us,hus,h⟩
    ·exact keep h
    ·have:Jga A d B=some (us++[⟨d,false,.one (.bp B ((get A (H B)).1+1) off)⟩]):=by unfold Jga;simp only[hp,hpp,hq,cond_true,hus]
     obtain⟨S1,K1,g1,w1⟩:=H4a K hg hd this;exact⟨_,S1,h,K1,g1,w1⟩
   ·exact keep h
  ·exact keep h
def Ly {R:Type} {K':Ab→Option R} {y:R} (hE:Iu X E):∀ (l:List Gh) {S:Sit} {A:Ab},Bd X S a→S.g=get A→Mf E l A K'=some y→∃ A' S',K' A'=some y∧Bd X S' a∧S'.g=get A'∧S'.w=S.w
 |[],S,A,K,hg,h=>⟨A,S,h,K,hg,rfl⟩
 |g::l,S,A,K,hg,h=>by
  obtain⟨A1,S1,h1,K1,g1,w1⟩:=R8a hE g K hg h;obtain⟨A2,S2,h2,K2,g2,w2⟩:=Ly hE l K1 g1 h1;exact⟨A2,S2,h2,K2,g2,w2.trans w1⟩
end
end

section
attribute [local irreducible] C H
section
variable {X:Cx} {S S':Sit} {a:Act} {E:En} {A:Ab} {o:Oper} {R:Type} {Kc:List Up→Option R} {r:R}
def Cba (hE:Iu X E) (K:Bd X S a) (hg:S.g=get A) {T:TypeId} {x i:Operand} {d:Nat} (ho:o.op = .indexAddr T x i) (hod:o.dst=some d) (hd:d<X.nt) (hopn:E.opn d=true) (h:B6 E o A Kc=some r):Hh X o a S.w A Kc r:=by
 unfold B6 at h;rw[ho,hod]at h;simp only[hopn,cond_true]at h;split at h
 ·rename_i p v k n hs hn;have ei:=(L9 hE K hg hn).1;obtain⟨l,hl⟩:=Hd hE K hg hs;have hl':Bm X.P S (.pl l []) (.al p v) (a.eval x):=hl;split at h
  ·rename_i m e r' xs hp;rw[csi]at h;obtain⟨hq,h⟩:=h;simp only[Va,Wb]at hq;obtain⟨⟨q1,q2⟩,q3⟩:=hq;have hmv:m=v:=Ve q1;subst hmv
   have hpd:p≠d:=λ e=>by rw[e,F1b]at q3;cases q3
   rcases Q8 h with h|⟨us,hus,h⟩
   ·cases h
   ·have hp':S.g p=(m,.one (.own e r' xs)):=by rw[hg,hp]
    have he:a.eval x=S.ph p:=hl'.2 (by rw[hp'])
    have hown:Ff X.P S.O S.w (.pl p []) e r' xs (S.ph p):=by have:=K.at_ p;rw[hp']at this;exact this
    have hb:0≤n∧n<(xs.length:Int):=by
     unfold Q1 at hus;generalize ((J6 r'||Gx r')&&Nat.blt r'.sz 999&&!(Nat.beq (p/1000) (2000+d+1))&&Nat.ble 2000 (2000+d))=bb at hus;cases bb
     ·simp at hus
     rw[cond_true]at hus
     by_cases h0:0≤n
     ·by_cases h1:n<(xs.length:Int)
      ·exact⟨h0,h1⟩
      ·simp[h0,h1]at hus
     ·simp[h0]at hus
    obtain⟨S',k',cap,K',g',w',ph',bb',pq,gH,gq⟩:=Q7 K hg hp' hus;have hr:=Ij (w:=S.w) (Ic q2 hE.ti) hown.top.1 ho (he.trans ph') ei hb.1 hb.2;rw[Wh,← w']at hr
    have hsv:Ib X.P S' 0 (.one (.bp (2000+d) ((S.g (H (2000+d))).1+1) 0)) (.pointer (some ⟨k',n.toNat*r'.sz,none⟩)):=by
     refine⟨by rw[gH];exact Vw _,λ _=>?_⟩;rw[bb'];rfl
    have K2:=K'.put0 hd _ _ 0 rfl hsv;refine⟨_,h,?_⟩;rw[← w'];refine Av (S:=Jz S' (λ _ _=>none) d _ _) hr (by rw[hod];exact K2) ?_;show upd S'.g d _=_;rw[Bb,Au,← g',← hg]
  ·cases h
 ·cases h
end
end

end Go.Proofs.YtcpligincipmhaaGreat.Vf
