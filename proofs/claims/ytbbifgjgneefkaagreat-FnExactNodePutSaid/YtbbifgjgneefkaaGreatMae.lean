import Derived.Test.YtbbifgjgneefkaaGreatMad
import Derived.Laws.CopyRow
set_option linter.all false
namespace Go.Proofs.YtbbifgjgneefkaaGreat.Vf
open Go
open List (length getD)
open Int (toNat)
open Go.IntKind (wrap)
open BitVec (ofInt)
def Vo:=@List.mem_append
def Vz:=@List.mem_singleton
def Yc:=@List.nodup_append
def Yl:=@List.length_set
def Yt:=@List.nodup_cons
def Zj:=@Nat.le_succ
def Rna:=@Bool.or_eq_true
def Rwa:=@Nat.beq_refl
def S5a:=@Ne.symm
def S8a:=@List.drop_take
def Ska:=@List.Sublist.trans

section
attribute [local irreducible] C H
def Kia {cs us:List Value} {i sz off:Nat} (h1:i+sz≤cs.length) (h2:off+us.length≤sz):
  cs.take (i+off)++us++cs.drop (i+off+us.length)=cs.take i++(((cs.drop i).take sz).take off++us++((cs.drop i).take sz).drop (off+us.length))++cs.drop (i+sz):=by
 have e1:cs.take (i+off)=cs.take i++((cs.drop i).take sz).take off:=by
  rw[Zm,Zf (by omega),← List.take_add]
 have e2:cs.drop (i+off+us.length)=((cs.drop i).take sz).drop (off+us.length)++cs.drop (i+sz):=by
  rw[S8a,Wp,← Ys]
  have:cs.drop (i+sz)=(cs.drop (i+off+us.length)).drop (sz-(off+us.length)):=by rw[Wp];congr 1;omega
  rw[this,Wo]
 rw[e1,e2];simp[Vj]
def Pm {L us:List Value} {j n:Nat} (h:j+us.length≤n) (hn:n≤L.length):(L.take j++us++L.drop (j+us.length)).take n=(L.take n).take j++us++(L.take n).drop (j+us.length):=by
 have hl:(L.take j++us).length=j+us.length:=by rw[Vh,Vl];omega
 rw[Zm,Zf (by omega),S8a,List.take_append,Zb (by rw[hl];exact h),hl]
def Cea {l1 bx mb l2:List Nat} (h:(l1++bx++l2).Nodup) (hm:mb.Nodup) (hd:∀ k∈mb,k∉l1++bx++l2):(l1++mb++l2).Nodup:=by
 simp only[Yc,Vo,not_or]at h hd ⊢;obtain⟨⟨n1,n2,n3⟩,n4,n5⟩:=h;refine⟨⟨n1,hm,λ a ha b hb e=>(hd b hb).1.1 (e ▸ ha)⟩,n4,λ a ha b hb e=>?_⟩;rcases ha with ha|ha
 ·exact n5 a (.inl ha) b hb e
 ·exact(hd a ha).2 (e ▸ hb)
def Xl {l1 bx mb l2:List Nat} (h:(l1++bx++l2).Nodup) (hm:mb.Nodup) (hd:∀ k∈mb,k∈l1++bx++l2→k∈bx):(l1++mb++l2).Nodup:=by
 simp only[Yc,Vo]at h hd ⊢;obtain⟨⟨n1,n2,n3⟩,n4,n5⟩:=h;refine⟨⟨n1,hm,λ a ha b hb e=>?_⟩,n4,λ a ha b hb e=>?_⟩
 ·subst e;exact n3 a ha a (hd a hb (.inl (.inl ha))) rfl
 ·subst e;rcases ha with ha|ha
  ·exact n5 a (.inl ha) a hb rfl
  ·exact n5 a (.inr (hd a ha (.inr hb))) a hb rfl
section
variable {P:Program} {G:Nat→Prop} {w:World}
def Gr.parts {l:List Lf} {cs:List Value} {bs:List Nat} {off z:Nat} (h:Gr P G w l cs bs) (hle:off+z≤l.length):
  ∃ ba bx bc,bs=ba++bx++bc∧Gr P G w (l.take off) (cs.take off) ba∧Gr P G w ((l.drop off).take z) ((cs.drop off).take z) bx∧Gr P G w (l.drop (off+z)) (cs.drop (off+z)) bc:=by
 have e0:l=l.take off++((l.drop off).take z++l.drop (off+z)):=by
  rw[← Wp,Wo,Wo]
 have h0:=h;rw[e0]at h0;obtain⟨b1,b2,e1,h1,h2⟩:=h0.split;obtain⟨b3,b4,e2,h3,h4⟩:=h2.split
 have l1:(l.take off).length=off:=by rw[Vl];omega
 have l2:((l.drop off).take z).length=z:=by rw[Vl,Vy];omega
 rw[l1]at h1 h3 h4;rw[l2]at h3 h4;rw[Wp]at h4;exact⟨b1,b3,b4,by rw[e1,e2,Vj],h1,h3,h4⟩
def Lna (cur:Array Value) (j:Nat) (us:List Value):Array Value:=(cur.toList.take j++us++cur.toList.drop (j+us.length)).toArray
def Cfa {e:TypeId} {r:Ty} {xs:List r.den} {u:Value} {bs mb:List Nat} {k0 o n cap i off:Nat} {m:List Lf} {us:List Value} {z:r.den} (hd:(Ty.ow e r).dep P G w xs [u] bs) (hn:bs.Nodup) (ha:Eh r=true) (hu:u = .slice (some ⟨k0,o,none⟩) n cap) (hi:i<xs.length)
  (hm:Gr P G w m us mb) (hmn:mb.Nodup) (hdis:∀ k∈mb,k∉bs) (hz:mkW r (Vf.setAll (A4 r (xs.getD i r.dflt)) off m)=some z) (hle:off+m.length≤r.sz) (hG:∀ k∈bs,¬ G k):
  ∃ cur e0,w.heap[k0]? = some (.cells cur e0 (0,0))∧k0∈bs∧o=0∧i*r.sz+off+us.length≤cur.size∧
   ∃ bs',(Ty.ow e r).dep P G (w.setRow k0 (Lna cur (i*r.sz+off) us)) (xs.set i z) [u] bs'∧bs'.Nodup∧∀ k∈bs',k∈bs∨k∈mb:=by
 obtain⟨v,cs,b2,ev,hs,ho,hrows,eb⟩:=hd;simp only[Wq,and_true]at ev;subst ev;rcases Da ho with⟨e1,_⟩|⟨k,cap',cur,e1,hc,h1,h2,h3,h4⟩
 ·rw[hu]at e1;cases e1
 ·rw[hu]at e1;cases e1
  have hob:u.ownBlock.toList=[k0]:=by rw[hu];rfl
  rw[hob]at eb;subst eb
  have hk0:k0∉b2:=by
   have:=hn;simp only[Yb,Yt]at this;exact this.1
  have hk0m:k0∉mb:=λ h=>hdis k0 h (by simp);have hul:=hm.len;have hlt:(i+1)*r.sz≤xs.length*r.sz:=Wa _ hi;have hcl:cs.length=xs.length*r.sz:=ho.1;have hcap:xs.length*r.sz≤cap*r.sz:=Wa _ h1;rw[Yh,Ym]at hlt
  let w':=w.setRow k0 (Lna cur (i*r.sz+off) us)
  have hold:∀ j,j≠k0→w'.heap[j]? = w.heap[j]? := λ j hj=>setRow_other _ _ _ _ hj;have hGh:∀ k,G k→w'.heap[k]? = w.heap[k]? := λ k hk=>hold k (λ e=>hG k0 (by simp) (e ▸ hk));obtain⟨ba,b,bc,e2,hx,hset⟩:=C0.set (Ty.dep_len r) hrows i (xs.getD i r.dflt) (by rw[Vn,Vs hi];rfl);subst e2;have hlv:=J3 r _ _ _ ha hx;obtain⟨ba',bx,bc',e3,_,_,hnew⟩:=hlv.set (off:=off) hm (by rw[G8];exact hle);subst e3;have hz1:=Sd ha hz hnew
  have hz2:r.dep P G w' z (((cs.drop (i*r.sz)).take r.sz).take off++us++((cs.drop (i*r.sz)).take r.sz).drop (off+us.length)) (ba'++mb++bc'):=
   Ty.dep_mono (λ _ h=>h) hGh r _ _ _ (λ k hk=>hold k (λ e=>by
    subst e;simp only[Vo]at hk hk0;rcases hk with (hk|hk)|hk
    ·exact hk0 (.inl (.inr (.inl (.inl hk))))
    ·exact hk0m hk
    ·exact hk0 (.inl (.inr (.inr hk))))) hz1
  have hrows2:=hset (λ x c b=>r.dep P G w' x c b) z _ _ hz2 (λ y c b0 hb hy=>Ty.dep_mono (λ _ h=>h) hGh r y c b0 (λ k hk=>hold k (λ e=>by
   subst e;simp only[Vo]at hk0;rcases hb k hk with hk|hk
   ·exact hk0 (.inl (.inl hk))
   ·exact hk0 (.inr hk))) hy)
  rw[← Kia (by omega) (by omega)]at hrows2;refine⟨cur,e,hc,by simp,rfl,by omega,k0::(ba++(ba'++mb++bc')++bc),⟨u,_,_,rfl,hs,⟨?_,.inr ⟨k0,cap,_,by rw[Yl];exact hu,Wf _,setRow_heap _ _ _ _ _ _ hc,by rw[Yl];exact h1,h2,?_,?_⟩⟩,hrows2,by rw[hob];rfl⟩,?_,?_⟩
  ·simp only[Vh,Vl,Vy,Yl];omega
  ·simp only[Lna,Ria,Vh,Vl,Vy,Yi];omega
  ·rw[Yl,← h4];exact Pm (n:=xs.length*r.sz) (by omega) (by have h9:cur.toList.length=cur.size:=Yi;omega)
  ·have:=Cea (l1:=k0::(ba++ba')) (bx:=bx) (mb:=mb) (l2:=bc'++bc) (by simpa[Vj] using hn) hmn (λ k hk h=>hdis k hk (by simpa[Vj] using h))
   simpa[Vj] using this
  ·intro k hk;simp only[Vk,Vo,Vz,Yb]at hk ⊢;rcases hk with hk|(hk|((hk|hk)|hk))|hk
   ·exact .inl (.inl hk)
   ·exact .inl (.inr (.inl (.inl hk)))
   ·exact .inl (.inr (.inl (.inr (.inl (.inl hk)))))
   ·exact .inr hk
   ·exact .inl (.inr (.inl (.inr (.inr hk))))
   ·exact .inl (.inr (.inr hk))
def Uc {e1:TypeId} {r1:Ty} {ys:List r1.den} {mb:List Nat} {k0 o n cap i off:Nat} {m:List Lf} {us:List Value} {z:r1.den} {Gm:Nat→Prop} (hi:i<ys.length)
  (hm:Gr P G w m us mb) (hmn:mb.Nodup) (hz:mkW r1 (Vf.setAll (A4 r1 (ys.getD i r1.dflt)) off m)=some z) (hle:off+m.length≤r1.sz) (hGm:∀ k∈mb,¬ G k):
  ∀ (q:List (Int×Nat)) (e:TypeId) (r:Ty) (xs xs':List r.den) (u:Value) (bs:List Nat),(Ty.ow e r).dep P G w xs [u] bs→bs.Nodup→Eh r=true→(∀ k∈mb,k∉bs)→(∀ k∈bs,¬ G k)→
   Aba q e r xs=some ⟨e1,r1,ys⟩→Ln Gm w q r u (.slice (some ⟨k0,o,none⟩) n cap)→C7a r1 (ys.set i z) q r xs=some xs'→
  ∃ cur e0,w.heap[k0]? = some (.cells cur e0 (0,0))∧k0∈bs∧o=0∧i*r1.sz+off+us.length≤cur.size∧
   ∃ bs',(Ty.ow e r).dep P G (w.setRow k0 (Lna cur (i*r1.sz+off) us)) xs' [u] bs'∧bs'.Nodup∧∀ k∈bs',k∈bs∨k∈mb
 |[],e,r,xs,xs',u,bs,hd,hn,ha,hdis,hG,hl,hh,hp=>by
  simp only[Aba,Vc]at hl;cases hl;simp only[C7a]at hp;simp only[dite_true,Vc]at hp;subst hp;exact Cfa hd hn ha (Eq.symm hh) hi hm hmn hdis hz hle hG
 |(i',j')::q,e,r,xs,xs',u,bs,hd,hn,ha,hdis,hG,hl,⟨k',o',n',cap',e3',r3',u3,hu,_,hcell,hsl,hh⟩,hp=>by
  simp only[Aba]at hl;split at hl
  ·rename_i hrange;simp only[C7a]at hp;split at hl
   ·rename_i e3 r3 ws hw;rw[hw]at hp;simp only at hp;have:=J2 hw;rw[hsl]at this;cases this;split at hp
    ·rename_i ws' hws;split at hp
     ·rename_i z' hz';cases hp;obtain⟨v,cs,b2,ev,hs,ho,hrows,eb⟩:=hd;simp only[Wq,and_true]at ev;subst ev;rcases Da ho with⟨e0,_⟩|⟨k,cap2,cur2,e0,hc,h1,h2,h3,h4⟩
      ·rw[hu]at e0;cases e0
      ·rw[hu]at e0;cases e0
       have hob:u.ownBlock.toList=[k']:=by rw[hu];rfl
       rw[hob]at eb;subst eb
       have hk':k'∉b2:=by
        have:=hn;simp only[Yb,Yt]at this;exact this.1
       have hnb2:b2.Nodup:=by
        have:=hn;simp only[Yb,Yt]at this;exact this.2
       have hcl:cs.length=xs.length*r.sz:=ho.1;have hlt:(i'.toNat+1)*r.sz≤xs.length*r.sz:=Wa _ hrange.2;rw[Yh,Ym]at hlt
       have hjl:j'<r.sz:=by
        rw[Fy]at hw;have:=(Wh.1 hw).1;rwa [G8]at this
       have hgetx:xs[i'.toNat]? = some (xs.getD i'.toNat r.dflt):=by rw[Vn,Vs hrange.2];rfl
       obtain⟨ba0,b0,bc0,e20,hx0,hset⟩:=C0.set (Ty.dep_len r) hrows i'.toNat _ hgetx;have hlv:=J3 r _ _ _ ha hx0;obtain⟨ba',bx,bc',e3,g1,g2,g3⟩:=hlv.parts (off:=j') (z:=1) (by rw[G8];omega)
       have hu3:((cs.drop (i'.toNat*r.sz)).take r.sz)[j']? = some u3:=by
        rw[Wg,if_pos hjl,Ya]
        have hj2:i'.toNat*r.sz+j'<cs.length:=by omega
        have:=Gb hc h4 (i'.toNat*r.sz+j') cs[i'.toNat*r.sz+j'] (Vs hj2);rw[hcell]at this;cases this;exact Vs hj2
       have hone:(List.take 1 (List.drop j' (A4 r (xs.getD i'.toNat r.dflt))))=[.own e3' r3' ws]:=by
        rw[Fy]at hw;obtain⟨hh1,hh2⟩:=Wh.1 hw;rw[Yj hh1,hh2,Sea,Rka]
       have honeu:(List.take 1 (List.drop j' ((cs.drop (i'.toNat*r.sz)).take r.sz)))=[u3]:=by
        obtain⟨hh1,hh2⟩:=Wh.1 hu3;rw[Yj hh1,hh2,Sea,Rka]
       rw[hone,honeu]at g2;obtain⟨u4,us4,bb1,bb2,e5,e6,g4,e7,e8⟩:=g2;simp only[Wq]at e5;obtain⟨e5,e5'⟩:=e5;subst e5;subst e8;rw[Yf]at e6;subst e6;have ha3:Eh r3'=true:=Pl ha hsl
       have hsub:∀ k∈bx,k∈k'::b2:=λ k hk=>by rw[e20,e3];simp[hk]
       have hnx:bx.Nodup:=by
        have h0:bx.Sublist b2:=by
         rw[e20,e3];refine Ska ?_ (Rsa (ba0++(ba'++bx++bc')) bc0);refine Ska ?_ (Zr ba0 _);refine Ska ?_ (Rsa (ba'++bx) bc');exact Zr ba' bx
        exact hnb2.sublist h0
       obtain⟨cur,e0,c1,c2,c3,c4,bs3,d1,d2,d3⟩:=Uc hi hm hmn hz hle hGm q e3' r3' ws ws' u3 bx g4 hnx ha3 (λ k hk h=>hdis k hk (hsub k h)) (λ k hk=>hG k (hsub k hk)) hl hh hws;refine⟨cur,e0,c1,hsub k0 c2,c3,c4,?_⟩;generalize hwe:w.setRow k0 (Lna cur (i*r1.sz+off) us)=w' at d1
       have hold:∀ j,j≠k0→w'.heap[j]? = w.heap[j]? := λ j hj=>by rw[← hwe];exact setRow_other _ _ _ _ hj
       have hGh:∀ k,G k→w'.heap[k]? = w.heap[k]? := λ k hk=>hold k (λ e=>hG k0 (hsub k0 c2) (e ▸ hk))
       have hnd:(ba0++(ba'++bx++bc')++bc0).Nodup:=by rw[← e3,← e20];exact hnb2
       have notin:∀ k,k∈ba0∨k∈bc0∨k∈ba'∨k∈bc'→k≠k0:=by
        intro k hk e9;subst e9;simp only[Yc,Vo]at hnd;obtain⟨⟨_,⟨⟨_,_,n3⟩,_,n5⟩,n6⟩,_,n8⟩:=hnd;rcases hk with hk|hk|hk|hk
        ·exact n6 k hk k (.inl (.inr c2)) rfl
        ·exact n8 k (.inr (.inl (.inr c2))) k hk rfl
        ·exact n3 k hk k c2 rfl
        ·exact n5 k (.inr c2) k hk rfl
       have g1':=Gr.mono (G':=G) (w':=w') (λ _ h=>h) hGh (λ k hk=>hold k (notin k (.inr (.inr (.inl hk))))) g1;have g3':=Gr.mono (G':=G) (w':=w') (λ _ h=>h) hGh (λ k hk=>hold k (notin k (.inr (.inr (.inr hk))))) g3;have hmid:Gr P G w' [.own e3' r3' ws'] [u3] bs3:=⟨u3,[],bs3,[],rfl,by simp,d1,rfl,rfl⟩;have hnew:=(g1'.app hmid).app g3';have hz3:=Sd ha hz' (by unfold Vf.setAll;exact hnew)
       have hcells:((cs.drop (i'.toNat*r.sz)).take r.sz).take j'++[u3]++((cs.drop (i'.toNat*r.sz)).take r.sz).drop (j'+1)=(cs.drop (i'.toNat*r.sz)).take r.sz:=by
        rw[← honeu,← Wp,Vj,Wo,Wo]
       rw[hcells]at hz3;have hrows2:=hset (λ x c b=>r.dep P G w' x c b) z' _ _ hz3 (λ y c b0 hb hy=>Ty.dep_mono (λ _ h=>h) hGh r y c b0 (λ k hk=>hold k (notin k ((hb k hk).imp id .inl))) hy)
       have hcs:cs.take (i'.toNat*r.sz)++(cs.drop (i'.toNat*r.sz)).take r.sz++cs.drop (i'.toNat*r.sz+r.sz)=cs:=by
        rw[← Wp,Vj,Wo,Wo]
       rw[hcs]at hrows2;have hkk:k'≠k0:=λ e9=>hk' (by rw[e20,e3];have:=c2;rw[e9];simp[this]);refine⟨k'::(ba0++(ba'++bs3++bc')++bc0),⟨u,cs,_,rfl,hs,?_,hrows2,by rw[hob];rfl⟩,?_,?_⟩
       ·rw[Yl];exact Ka ho (λ k hk=>hold k (by rw[hu]at hk;simp only[Value.ownBlock,Vc]at hk;rw[← hk];exact hkk))
       ·have hdis3:∀ k∈bs3,k∈(k'::(ba0++ba'))++bx++(bc'++bc0)→k∈bx:=λ k hk h=>by
         rcases d3 k hk with h9|h9
         ·exact h9
         ·exact absurd (by rw[e20,e3];simpa[Vj] using h) (hdis k h9)
        have hn2:((k'::(ba0++ba'))++bx++(bc'++bc0)).Nodup:=by
         have:=hn;rw[e20,e3]at this
         simpa[Vj] using this
        have:=Xl hn2 d2 hdis3
        simpa[Vj] using this
       ·intro k hk;rw[e20,e3];simp only[Vk,Vo,Vz,Yb]at hk ⊢;rcases hk with hk|(hk|((hk|hk)|hk))|hk
        ·exact .inl (.inl hk)
        ·exact .inl (.inr (.inl (.inl hk)))
        ·exact .inl (.inr (.inl (.inr (.inl (.inl hk)))))
        ·rcases d3 k hk with hk|hk
         ·exact .inl (.inr (.inl (.inr (.inl (.inr hk)))))
         ·exact .inr hk
        ·exact .inl (.inr (.inl (.inr (.inr hk))))
        ·exact .inl (.inr (.inr hk))
     ·cases hp
    ·cases hp
   ·cases hl
  ·cases hl
end
end

section
attribute [local irreducible] C H
section
variable {X:Cx} {S S':Sit} {a:Act} {E:En} {A:Ab} {o:Oper} {R:Type} {Kc:List Up→Option R} {r:R}
structure Kg (X:Cx) (S S':Sit):Prop where
 w:S'.w=S.w
 bb:S'.bb=S.bb
 ph:S'.ph=S.ph
 later:Ct S S'
 bx:∀ b k,S.O k = .bx b→S'.O k = .bx b
 heads:∀ b n,(S.g (H b)).2 = .one (.hd n)→S'.g (H b)=S.g (H b)
 tms:∀ n q x u,Af X.P S (.tm n q) x u→Af X.P S' (.tm n q) x u
 tm:∀ n q k,S.O k = .tm n q→S'.O k = .tm n q
def Kg.refl (S:Sit):Kg X S S:=⟨rfl,rfl,rfl,.refl S,λ _ _ h=>h,λ _ _ _=>rfl,λ _ _ _ _ h=>h,λ _ _ _ h=>h⟩
def Kg.trans {S1 S2:Sit} (h:Kg X S S1) (h':Kg X S1 S2):Kg X S S2:=
 ⟨h'.w.trans h.w,h'.bb.trans h.bb,h'.ph.trans h.ph,h.later.trans h'.later,λ b k e=>h'.bx b k (h.bx b k e),λ b n e=>by
  have e1:=h.heads b n e
  exact(h'.heads b n (by rw[e1];exact e)).trans e1,λ n q x u hx=>h'.tms n q x u (h.tms n q x u hx),λ n q k hk=>h'.tm n q k (h.tm n q k hk)⟩
def Ly {A:Ab} {x:Lf} {l m:List Lf} {us:List Up} (hx:∀ p v,x ≠ .al p v) (h:Hi A (x::l)=some (m,us)):∃ m',m=x::m'∧Hi A l=some (m',us):=by
 have e:Hi A (x::l)=match Hi A l with|some (m,us)=>some (x::m,us)|none=>none:=by
  cases x<;>first|rfl|exact absurd rfl (hx _ _)
 rw[e]at h;split at h
 ·rename_i m' us' h';cases h;exact⟨m',rfl,h'⟩
 ·cases h
def Pn (i:Nat) (path:Nat→List Nat):∀ (l:List Lf) {S:Sit} {A:Ab} {j:Nat} {us:List Value} {m:List Lf} {vs:List Up},Ah X S a→S.g=get A→Hi A l=some (m,vs)→A5 X.P S (λ n => .tm i (path n)) j l us→
  ∃ S',Ah X S' a∧S'.g=get (ups A vs)∧Kg X S S'∧A5 X.P S' (λ n => .tm i (path n)) j m us
 |[],S,A,j,[],m,vs,K,hg,h,_=>by
  simp only[Hi,Vc,Vu]at h;obtain⟨rfl,rfl⟩:=h;exact⟨S,K,hg,.refl S,trivial⟩
 |[],S,A,j,_::_,m,vs,K,hg,h,hl=>hl.elim
 |_::_,S,A,j,[],m,vs,K,hg,h,hl=>hl.elim
 |x::l,S,A,j,u::us,m,vs,K,hg,h,hl=>by
  by_cases hal:∃ p v,x = .al p v
  ·obtain⟨p,v,rfl⟩:=hal;simp only[Hi]at h;split at h
   ·rename_i e r' xs hsn;obtain⟨p',v',e0,hp⟩:=Kx hsn (λ e r xs hy=>by cases hy);cases e0;split at h
    ·rename_i m' vs' hrec;cases h;have he:u=S.ph p:=hl.1.2 (by rw[hg,hp])
     let f:List Nat→Option (List Nat):=λ q=>match q with|[]=>some (path j)|_=>none
     have L1:=Iz S p i f (.one .dead);obtain⟨K1,h1,h2⟩:=S6 K p i f (.one .dead) (by simp) trivial
     have hown:Af X.P S (.pl p []) (.own e r' xs) (S.ph p):=by have:=K.at_ p;rw[hg,hp]at this;exact this
     have hown1:=h1 [] (path j) _ _ rfl hown
     have g1:(N6 S p i f (.one .dead)).g=get (up A ⟨p,false,.one .dead⟩):=by
      show upd S.g p _=_;rw[Il,← hg];rfl
     have G1:Kg X S (N6 S p i f (.one .dead)):=⟨rfl,rfl,rfl,L1,λ b k hk=>(G7 (by simp[hk])).trans hk,λ b n hn=>Aa _ _ (λ e1=>by rw[e1,hg,hp]at hn;cases hn),h2,λ n q k hk=>(G7 (by simp[hk])).trans hk⟩;have hrest:A5 X.P (N6 S p i f (.one .dead)) (λ n => .tm i (path n)) (j+1) l us:=hl.2.imp (λ n x u hx=>h2 i (path n) x u hx);obtain⟨S2,K2,g2,G2,hl2⟩:=Pn i path l K1 g1 hrec hrest;refine⟨S2,K2,g2,G1.trans G2,?_,hl2⟩;rw[he];exact G2.tms _ _ _ _ hown1
    ·cases h
   ·cases h
  ·obtain⟨m',rfl,h'⟩:=Ly (λ p v e=>hal ⟨p,v,e⟩) h;obtain⟨S2,K2,g2,G2,hl2⟩:=Pn i path l K hg h' hl.2;exact⟨S2,K2,g2,G2,G2.tms _ _ _ _ hl.1,hl2⟩
def Ela (hE:Gx X E) (K:Ah X S a) (hg:S.g=get A) {T:TypeId} {y:Operand} {s:Sv} {m:List Lf} {vs:List Up} (hs:opT E T A y=some s) (hnt:∀ vs,s ≠ .tup vs) (h:Dia A y s=some (m,vs)) (i:Nat):
  ∃ S',Ah X S' a∧S'.g=get (ups A vs)∧Kg X S S'∧∃ us,Nf s (a.eval y) us∧A5 X.P S' (λ n => .tm i (pth s n)) 0 m us:=by
 unfold Dia at h;split at h
 ·rename_i m0 vs0 ht;cases h
  have first:∃ S1,Ah X S1 a∧S1.g=get (ups A (gone y s))∧Kg X S S1∧∃ us,Nf s (a.eval y) us∧A5 X.P S1 (λ n => .tm i (pth s n)) 0 (parts s) us:=by
   rcases I5 hE K hg hs with⟨t,rfl,htl,hst,het,hok⟩|⟨hnt',x,rfl,hx⟩
   ·cases ho:Ix s with
    |false=>
     have hgo:gone (.tmp t) s=[]:=by simp[gone,ho]
     refine⟨S,K,by rw[hgo];exact hg,.refl S,?_⟩
     cases s with
     |tup vs=>exact absurd rfl (hnt vs)
     |one x=>exact⟨[_],rfl,(A5.relab (f:=λ _ => .pl t []) ho ⟨hok,trivial⟩)⟩
     |agg l=>
      obtain⟨us,e1,hl⟩:=hok;exact⟨us,e1,hl.relab ho⟩
    |true=>
     have hgo:gone (.tmp t) s=[⟨t,false,.one .dead⟩]:=by simp[gone,ho]
     obtain⟨K1,h1,h2⟩:=Im K t i;have G1:Kg X S (Hz S t i):=⟨rfl,rfl,rfl,Hp S t i,λ b k hk=>(Fb (by simp[hk])).trans hk,λ b n hn=>Aa _ _ (λ e1=>by rw[e1,← hst]at hn;subst hn;simp[Ix,Db]at ho),h2,λ n q k hk=>(Fb (by simp[hk])).trans hk⟩;refine⟨_,K1,?_,G1,?_⟩
     ·rw[hgo,A8,← hg];rfl
     ·cases s with
      |tup vs=>exact absurd rfl (hnt vs)
      |one x=>exact⟨[_],rfl,h1 [] x _ hok,trivial⟩
      |agg l=>
       obtain⟨us,e1,hl⟩:=hok;exact⟨us,e1,hl.imp (λ n x u hx=>h1 [n] x u hx)⟩
   ·have hgo:gone y (.one x)=[]:=by
     unfold gone;split
     ·exact absurd rfl (hnt' _)
     ·rfl
    exact⟨S,K,by rw[hgo];exact hg,.refl S,[_],rfl,hx _,trivial⟩
  obtain⟨S1,K1,g1,G1,us,hsh,hl⟩:=first
  obtain⟨S2,K2,g2,G2,hl2⟩:=Pn i (pth s) (parts s) K1 g1 ht hl;exact⟨S2,K2,by rw[Ae];exact g2,G1.trans G2,us,hsh,hl2⟩
 ·cases h
def L3 {P:Program} {S:Sit} {f:Nat→Lab}:∀ {m:List Lf} {j:Nat} {us:List Value},Lt m=true→A5 P S f j m us→(∀ n n',j≤n→n<j+m.length→j≤n'→n'<j+m.length→f n=f n'→n=n')→
  ∃ mb,Gr P (λ k=>S.O k = .fz) S.w m us mb∧mb.Nodup∧∀ k∈mb,∃ n,j≤n∧n<j+m.length∧S.O k=f n
 |[],j,[],_,_,_=>⟨[],⟨rfl,rfl⟩,by simp,by simp⟩
 |[],j,_::_,_,h,_=>h.elim
 |_::_,j,[],_,h,_=>h.elim
 |x::m,j,u::us,ho,h,hi=>by
  have hrest:Lt m=true:=by cases x<;>first|(simp[Lt]at ho;done)|simpa[Lt] using ho
  obtain⟨mb,h1,h2,h3⟩:=L3 hrest h.2 (λ n n' a1 a2 a3 a4 e=>hi n n' (by omega) (by simp only[Vg];omega) (by omega) (by simp only[Vg];omega) e)
  have hx:∃ b,Nya P (λ k=>S.O k = .fz) S.w x u b∧b.Nodup∧∀ k∈b,S.O k=f j:=by
   cases x with
   |sc v=>exact⟨[],⟨h.1.1,h.1.2,rfl⟩,by simp,by simp⟩
   |own e r xs=>exact h.1
   |_=>simp[Lt]at ho
  obtain⟨b,b1,b2,b3⟩:=hx;refine⟨b++mb,⟨u,us,b,mb,rfl,rfl,b1,h1⟩,?_,λ k hk=>?_⟩
  ·rw[Yc];refine⟨b2,h2,λ k hk k' hk' e=>?_⟩;subst e;obtain⟨n,n1,n2,n3⟩:=h3 k hk';have:=hi j n (Vq _) (by simp) (by omega) (by simp only[Vg];omega) ((b3 k hk).symm.trans n3);omega
  ·rcases Vo.1 hk with hk|hk
   ·exact⟨j,Vq _,by simp,b3 k hk⟩
   ·obtain⟨n,n1,n2,n3⟩:=h3 k hk;exact⟨n,by omega,by simp only[Vg];omega,n3⟩
def Ema {s:Sv} {m:List Lf} {i:Nat} (hnt:∀ vs,s ≠ .tup vs) (hl:m.length=(parts s).length):∀ n n',0≤n→n<0+m.length→0≤n'→n'<0+m.length→Lab.tm i (pth s n) = .tm i (pth s n')→n=n':=by
 intro n n' _ h1 _ h2 e
 cases s with
 |one x=>simp only[parts,Vg,Vp]at hl;omega
 |agg l=>simpa[pth] using e
 |tup vs=>exact absurd rfl (hnt vs)
def Ng:∀ (l:List Lf) {A:Ab} {m:List Lf} {us:List Up},Hi A l=some (m,us)→m.length=l.length
 |[],A,m,us,h=>by
  simp only[Hi,Vc,Vu]at h;obtain⟨rfl,_⟩:=h;rfl
 |x::l,A,m,us,h=>by
  by_cases hal:∃ p v,x = .al p v
  ·obtain⟨p,v,rfl⟩:=hal;simp only[Hi]at h;split at h
   ·split at h
    ·rename_i m' vs' hrec;cases h;simp[Ng l hrec]
    ·cases h
   ·cases h
  ·obtain⟨m',rfl,h'⟩:=Ly (λ p v e=>hal ⟨p,v,e⟩) h;simp[Ng l h']
def Ot {y:Operand} {s:Sv} {m:List Lf} {us:List Up} (h:Dia A y s=some (m,us)):m.length=(parts s).length:=by
 unfold Dia at h;split at h
 ·rename_i m0 vs0 ht;cases h;exact Ng _ ht
 ·cases h
def toP (p:Nat):Nat→List Nat→Option Lab:=λ n _=>if n=0 then some (.pl p []) else none
def Ah.rewriteD (K:Ah X S a) {p n:Nat} {e:TypeId} {r':Ty} {xs ys:List r'.den} {w':World} (hp:S.g p=(n,.one (.own e r' xs))) (hold:∀ j o',S.O j=o'→o' ≠ .pl p []→w'.heap[j]? = S.w.heap[j]?)
  (hsz:w'.heap.size=S.w.heap.size) (h1:w'.os=S.w.os) (h2:w'.tape=S.w.tape) (h3:w'.output=S.w.output) (hown:Cs X.P (atO S.O (toP p)) w' (.pl p []) e r' ys (S.ph p)):
  Ah X { S with O:=atO S.O (toP p),g:=upd S.g p (n+1,.one (.own e r' ys)),w:=w' } a:=by
 have keep:∀ k o',S.O k=o'→(∀ n q,o' ≠ .tm n q)→atO S.O (toP p) k=o':=λ k o' h h'=>Am h h'
 have L:Ct S { S with O:=atO S.O (toP p),g:=upd S.g p (n+1,.one (.own e r' ys)),w:=w' }:=by
  refine⟨λ q=>?_,λ _ _=>rfl,λ q v e2 r2 xs' hq hv=>?_,λ _ _=>rfl,λ j hj=>⟨keep j _ hj (by simp),hold j _ hj (by simp)⟩,Ct.box_of (λ b m hv hh=>?_) (λ j b h=>⟨keep j _ h (by simp),hold j _ h (by simp)⟩),λ q hv hd=>?_,λ _ _=>rfl⟩
  ·show _≤(upd S.g p _ q).1
   by_cases h:q=p
   ·subst h;rw[A9,hp];exact Zj _
   ·rw[Aa _ _ h];exact Vq _
  ·have hq':upd S.g p (n+1,.one (.own e r' ys)) q=(v,.one (.own e2 r2 xs')):=hq
   by_cases h:q=p
   ·subst h;rw[A9]at hq';cases hq';rw[hp]at hv;simp at hv
   ·rw[Aa _ _ h]at hq';exact⟨xs',hq',rfl⟩
  ·have hb:H b≠p:=λ e=>by subst e;rw[hp]at hh;cases hh
   exact(congrArg Prod.snd (Aa _ _ hb)).trans hh
  ·have hv':(upd S.g p (n+1,.one (.own e r' ys)) q).1=(S.g q).1:=hv
   have h:q≠p:=λ e=>by subst e;rw[A9,hp]at hv';simp at hv'
   have e1:({ S with O:=atO S.O (toP p),g:=upd S.g p (n+1,.one (.own e r' ys)),w:=w' }:Sit).g q=S.g q:=Aa _ _ h;rw[e1];exact⟨hd,λ _ _ _ h=>h,λ k hk=>⟨.inl (keep k _ hk (by simp)),hold k _ hk (by simp[h])⟩⟩
 have F:=K.fr;refine⟨K.nt,λ j hj=>?_,λ l=>?_,λ b m hb=>?_,λ b m hb=>?_,K.sl,K.sz,K.df,⟨h1.trans F.os,h2.trans F.tape,h3.trans F.out,?_,λ j hj h0=>?_,λ j hj h0=>?_,λ j b hj h0=>?_⟩,K.io⟩
 ·show j<w'.heap.size;rw[hsz];refine K.lt j (λ e=>hj (keep j _ e (by simp)))
 ·show Gi X.P _ l (upd S.g p _ l).2 _
  by_cases h:l=p
  ·subst h;rw[A9];exact hown
  ·rw[Aa _ _ h];exact(K.at_ l).later L (λ q j hj=>⟨keep j _ hj (by simp),hold j _ hj (by simp[h])⟩)
 ·have hne:H b≠p:=by
   intro e2;have:(upd S.g p (n+1,.one (.own e r' ys)) (H b)).2 = .one (.hd m):=hb;rw[e2,A9]at this;cases this
  have hb':(S.g (H b)).2 = .one (.hd m):=by
   have:(upd S.g p (n+1,.one (.own e r' ys)) (H b)).2 = .one (.hd m):=hb;rwa [Aa _ _ hne]at this
  obtain⟨hn,c,e1,e2,e3,e4⟩:=K.box b m hb';exact⟨hn,c,e1,(hold _ _ e3 (by simp)).trans e2,keep _ _ e3 (by simp),e4⟩
 ·have hne:H b≠p:=by
   intro e2;have:(upd S.g p (n+1,.one (.own e r' ys)) (H b)).2 = .one (.hd m):=hb;rw[e2,A9]at this;cases this
  have hb':(S.g (H b)).2 = .one (.hd m):=by
   have:(upd S.g p (n+1,.one (.own e r' ys)) (H b)).2 = .one (.hd m):=hb;rwa [Aa _ _ hne]at this
  exact K.rgn b m hb'
 ·show _≤w'.heap.size;rw[hsz];exact F.size
 ·obtain⟨f1,f2⟩:=F.no j hj h0;exact⟨keep j _ f1 (by simp),(hold j _ f1 (by simp)).trans f2⟩
 ·obtain⟨f1,f2⟩:=F.fz j hj h0;exact⟨keep j _ f1 (by simp),(hold j _ f1 (by simp)).trans f2⟩
 ·obtain⟨f1,c,c',e1,f,f2,f3,f4,f5⟩:=F.bx j b hj h0;exact⟨keep j _ f1 (by simp),c,c',e1,f,f2,(hold j _ f1 (by simp)).trans f3,f4,f5⟩
def Cga (K:Ah X S a) {p v:Nat} {q:List (Int×Nat)} {e:TypeId} {r1:Ty} {xs:List r1.den} {i:Int} {off:Nat} {h u:Value} {E0:TypeId} {R0:Ty} {XS XS':List R0.den} {m:List Lf} {us:List Value} {path:Nat→List Nat} {z:r1.den}
  (hp:S.g p=(v,.one (.own E0 R0 XS))) (hda:Dka X.P S p v (some q) e r1 xs h) (hdp:0≤i∧i.toNat<xs.length∧∃ k o cap,h = .slice (some ⟨k,o,none⟩) xs.length cap∧u = .pointer (some ⟨k,o+(i.toNat*r1.sz+off),none⟩))
  (hall:Eh R0=true) (ho:Lt m=true) (hl:A5 X.P S (λ n => .tm 0 (path n)) 0 m us) (hinj:∀ n n',0≤n→n<0+m.length→0≤n'→n'<0+m.length→Lab.tm 0 (path n) = .tm 0 (path n')→n=n')
  (hz:mkW r1 (Vf.setAll (A4 r1 (xs.getD i.toNat r1.dflt)) off m)=some z) (hle:off+m.length≤r1.sz) (hput:C7a r1 (xs.set i.toNat z) q R0 XS=some XS'):
  ∃ k j cur e0,u = .pointer (some ⟨k,j,none⟩)∧S.w.heap[k]? = some (.cells cur e0 (0,0))∧j+us.length≤cur.size∧
   Ah X { S with O:=atO S.O (toP p),g:=upd S.g p (v+1,.one (.own E0 R0 XS')),w:=S.w.setRow k (Lna cur j us) } a:=by
 obtain⟨i0,i1,k,o,cap,e1,e2⟩:=hdp;obtain⟨d1,_,d2⟩:=hda;obtain⟨_,_,hpath⟩:=d2 (by rw[hp]);obtain⟨f1,f2⟩:=hpath q rfl E0 R0 XS (by rw[hp])
 have hown:Cs X.P S.O S.w (.pl p []) E0 R0 XS (S.ph p):=by have:=K.at_ p;rw[hp]at this;exact this
 obtain⟨bs,hd,hn,hb⟩:=hown;obtain⟨mb,m1,m2,m3⟩:=L3 ho hl hinj
 have hmt:∀ k∈mb,∃ n,S.O k = .tm 0 (path n):=λ k hk=>by obtain⟨n,_,_,h⟩:=m3 k hk;exact⟨n,h⟩
 rw[e1]at f2
 obtain⟨cur,e0,c1,c2,c3,c4,bs',g1,g2,g3⟩:=Uc (i:=i.toNat) (off:=off) i1 m1 m2 hz hle (λ k hk hf=>by obtain⟨n,hn⟩:=hmt k hk;rw[hn]at hf;cases hf) q E0 R0 XS XS' (S.ph p) bs hd hn hall
  (λ k hk hk'=>by obtain⟨n,hn⟩:=hmt k hk;rw[hb k hk']at hn;cases hn) (λ k hk hf=>by rw[hb k hk]at hf;cases hf) f1 f2 hput
 subst c3;refine⟨k,i.toNat*r1.sz+off,cur,e0,by rw[e2,Wb],c1,c4,?_⟩;have hkl:=hb k c2;refine K.rewriteD hp (λ j o' hj ho'=>setRow_other _ _ _ _ (λ e=>ho' (by rw[← hj,e];exact hkl))) (by simp[World.setRow]) rfl rfl rfl ⟨bs',?_,g2,λ j hj=>?_⟩
 ·refine Ty.dep_mono (G:=λ k=>S.O k = .fz) (w:=S.w.setRow k (Lna cur (i.toNat*r1.sz+off) us)) (λ j hj=>Am hj (by simp)) (λ _ _=>rfl) (.ow E0 R0) XS' _ bs' (λ _ _=>rfl) g1
 ·rcases g3 j hj with h9|h9
  ·exact Am (hb j h9) (by simp)
  ·obtain⟨n,hn⟩:=hmt j h9;exact G6 hn (by simp[toP])
end
end

section
attribute [local irreducible] C H
section
variable {X:Cx} {S S':Sit} {a:Act} {E:En} {A:Ab} {o:Oper} {R:Type} {Kc:List Up→Option R} {r:R}
def Ah.retm (K:Ah X S a) (O':Nat→Lab) (h:∀ k o,S.O k=o→(∀ n q,o ≠ .tm n q)→O' k=o):Ah X { S with O:=O' } a∧Ct S { S with O:=O' }:=by
 have L:Ct S { S with O:=O' }:=⟨λ _=>Vq _,λ _ _=>rfl,λ p v e r xs' h _=>⟨xs',h,rfl⟩,λ _ _=>rfl,λ k hk=>⟨h k _ hk (by simp),rfl⟩,Ct.box_of (λ _ _ _ h=>h) (λ k b hk=>⟨h k _ hk (by simp),rfl⟩),λ p _ hd=>⟨hd,λ _ _ _ h=>h,λ k hk=>⟨.inl (h k _ hk (by simp)),rfl⟩⟩,λ _ _=>rfl⟩
 exact⟨K.ghost _ _ (λ k e=>h k _ e (by simp)) (λ k e1 e2=>e1 (h k _ e2 (by simp))) (λ k e=>h k _ e (by simp)) (λ k b e=>h k _ e (by simp)) (λ _ _ e=>e)
  (λ l=>(K.at_ l).later L (λ p k e=>⟨h k _ e (by simp),rfl⟩)),L⟩
def Nza (K:Ah X S a) {i:Nat} {q:List Nat} {e:TypeId} {r r':Ty} {xs:List r'.den} {ys:List r.den} {u:Value} (hno:Hh r=true) (hc:Ls r r' xs=some ys) (h:Cs X.P S.O S.w (.tm i q) e r' xs u):
  ∃ O',(∀ k,S.O k ≠ .tm i q→O' k=S.O k)∧Ah X { S with O:=O' } a∧Ct S { S with O:=O' }∧Cs X.P O' S.w (.tm i q) e r ys u:=by
 obtain⟨bs,⟨v,cs,b2,ev,hs,ho,hd,eb⟩,hn,hk⟩:=h;simp only[Wq,and_true]at ev;subst ev
 let O':Nat→Lab:=λ k=>if k∈b2 then .fz else S.O k
 have hlab:∀ k∈b2,S.O k = .tm i q:=λ k hk2=>hk k (by rw[eb];exact Vi _ hk2);have hO:∀ k,S.O k ≠ .tm i q→O' k=S.O k:=λ k h1=>if_neg (λ h2=>h1 (hlab k h2));obtain⟨K1,L1⟩:=K.retm O' (λ k o h1 h2=>(hO k (by rw[h1];exact h2 i q)).trans h1);refine⟨O',hO,K1,L1,(Cs.flat hno).2 ?_⟩;obtain⟨e1,rfl⟩:=N9 hc
 have hsz:r'.sz=r.sz:=by rw[← Ho r',e1,Ho r]
 have hf:∀ k,S.O k = .fz→O' k = .fz:=λ k h1=>(hO k (by rw[h1];simp)).trans h1;refine⟨by rw[← hsz];exact hs,cs,by rw[← hsz,Yk];exact ho,?_,λ k h1=>?_⟩
 ·have hr:Rows (λ x c=>r'.rep X.P (λ k=>O' k = .fz) S.w x c) xs cs:=hd.rows (λ x c b hb h=>Ty.dep_rep hf r' x c b (λ k hk=>if_pos (hb k hk)) h);exact hr.map (λ x c hx=>(E5a e1 x c).1 hx)
 ·have h2:k∉b2:=λ h3=>by
   rw[eb,h1]at hn;simp only[Option.toList_some,Yb,Yt]at hn;exact hn.1 h3
  exact(if_neg h2).trans (hk k (by rw[eb,h1];simp))
structure Cr (X:Cx) (S S':Sit) (ex:Nat→List Nat→Prop):Prop where
 w:S'.w=S.w
 bb:S'.bb=S.bb
 ph:S'.ph=S.ph
 later:Ct S S'
 bx:∀ b k,S.O k = .bx b→S'.O k = .bx b
 heads:∀ b n,(S.g (H b)).2 = .one (.hd n)→S'.g (H b)=S.g (H b)
 tms:∀ n q x u,¬ ex n q→Af X.P S (.tm n q) x u→Af X.P S' (.tm n q) x u
 tm:∀ n q k,¬ ex n q→S.O k = .tm n q→S'.O k = .tm n q
def Cr.trans {S1 S2:Sit} {e1 e2 e3:Nat→List Nat→Prop} (h1:∀ n q,e1 n q→e3 n q) (h2:∀ n q,e2 n q→e3 n q) (h:Cr X S S1 e1) (h':Cr X S1 S2 e2):Cr X S S2 e3:=
 ⟨h'.w.trans h.w,h'.bb.trans h.bb,h'.ph.trans h.ph,h.later.trans h'.later,λ b k e=>h'.bx b k (h.bx b k e),λ b n e=>by
  have e1:=h.heads b n e
  exact(h'.heads b n (by rw[e1];exact e)).trans e1,λ n q x u hn hx=>h'.tms n q x u (λ h=>hn (h2 n q h)) (h.tms n q x u (λ h=>hn (h1 n q h)) hx),λ n q k hn hk=>h'.tm n q k (λ h=>hn (h2 n q h)) (h.tm n q k (λ h=>hn (h1 n q h)) hk)⟩
def Cr.refl (S:Sit) (ex:Nat→List Nat→Prop):Cr X S S ex:=⟨rfl,rfl,rfl,.refl S,λ _ _ h=>h,λ _ _ _=>rfl,λ _ _ _ _ _ h=>h,λ _ _ _ _ h=>h⟩
def Kg.x {ex:Nat→List Nat→Prop} (h:Kg X S S'):Cr X S S' ex:=⟨h.w,h.bb,h.ph,h.later,h.bx,h.heads,λ n q x u _ hx=>h.tms n q x u hx,λ n q k _ hk=>h.tm n q k hk⟩
def Aja (K:Ah X S a) {i:Nat} {q:List Nat} {e:TypeId} {r:Ty} {x y:Lf} {u:Value} (ha:Qp e r x=some y) (h:Af X.P S (.tm i q) x u):
  ∃ S',Ah X S' a∧S'.g=S.g∧Cr X S S' (λ n q'=>n=i∧q'=q)∧Af X.P S' (.tm i q) y u:=by
 unfold Qp at ha;split at ha
 ·rename_i e' r' xs;rw[csi]at ha;obtain⟨hb,ha⟩:=ha;have he:e=e':=Vb hb;subst he;split at ha
  ·rename_i ys hys;cases ha;exact⟨S,K,rfl,.refl S _,Cs.cast hys h⟩
  ·rw[csi]at ha;obtain⟨hno,ha⟩:=ha;split at ha
   ·rename_i ys hys;cases ha;obtain⟨O',h1,K1,L1,h2⟩:=Nza K hno hys h;have hO:∀ k n q',¬ (n=i∧q'=q)→S.O k = .tm n q'→O' k = .tm n q':=λ k n q' hn hk=>(h1 k (by rw[hk];intro e1;cases e1;exact hn ⟨rfl,rfl⟩)).trans hk;exact⟨_,K1,rfl,⟨rfl,rfl,rfl,L1,λ b k hk=>(h1 k (by rw[hk];simp)).trans hk,λ _ _ _=>rfl,λ n q' x u hn hx=>hx.later L1 (λ k hk=>⟨hO k n q' hn hk,rfl⟩),λ n q' k hn hk=>hO k n q' hn hk⟩,h2⟩
   ·cases ha
 ·cases ha
def Ia:∀ (ts:List Ty) (l:List Lf) {A:Ab} {m:List Lf} {us:List Up},D5 A ts l=some (m,us)→m.length=l.length∧ts.length=l.length
 |[],[],A,m,us,h=>by
  simp only[D5,Vc,Vu]at h;obtain⟨rfl,_⟩:=h;exact⟨rfl,rfl⟩
 |[],_::_,A,m,us,h=>by simp[D5]at h
 |t::ts,[],A,m,us,h=>by cases t<;>simp[D5]at h
 |t::ts,x::l,A,m,us,h=>by
  have rest:∀ {A:Ab} {m':List Lf} {us':List Up},D5 A ts l=some (m',us')→m'.length=l.length∧ts.length=l.length:=λ h=>Ia ts l h
  cases t with
  |ow e r=>
   simp only[D5]at h;split at h
   ·split at h
    ·rename_i hr;cases h;simp[rest hr]
    ·cases h
   ·cases h
  |_=>
   simp only[D5]at h;split at h
   ·rename_i hr;cases h;simp[rest hr]
   ·cases h
def Jj {x:Lf} {l:List Lf} (h:A3 (x::l)=true):A3 l=true∧((∃ v,x = .sc v)∨(∃ e r,∃ xs:List (Ty.den r),x = .fz e r xs)∨∃ e r,∃ xs:List (Ty.den r),x = .own e r xs):=by
 cases x<;>first|(simp[A3]at h;done)|skip
 ·exact⟨by simpa[A3] using h,.inl ⟨_,rfl⟩⟩
 ·exact⟨by simpa[A3] using h,.inr (.inl ⟨_,_,_,rfl⟩)⟩
 ·exact⟨by simpa[A3] using h,.inr (.inr ⟨_,_,_,rfl⟩)⟩
def Kh (i:Nat) (path:Nat→List Nat):∀ (ts:List Ty) (l:List Lf) {S:Sit} {A:Ab} {j:Nat} {us:List Value} {m:List Lf} {vs:List Up},Ah X S a→S.g=get A→D5 A ts l=some (m,vs)→A3 m=true→A5 X.P S (λ n => .tm i (path n)) j l us→
  (∀ n n',j≤n→n<j+l.length→j≤n'→n'<j+l.length→path n=path n'→n=n')→
  ∃ S',Ah X S' a∧S'.g=get (ups A vs)∧Cr X S S' (λ n q=>n=i∧∃ k,j≤k∧k<j+l.length∧q=path k)∧A5 X.P S' (λ n => .tm i (path n)) j m us
 |[],[],S,A,j,[],m,vs,K,hg,h,_,_,_=>by
  simp only[D5,Vc,Vu]at h;obtain⟨rfl,rfl⟩:=h;exact⟨S,K,hg,.refl S _,trivial⟩
 |[],[],S,A,j,_::_,m,vs,K,hg,h,_,hl,_=>hl.elim
 |[],_::_,S,A,j,us,m,vs,K,hg,h,_,hl,_=>by simp[D5]at h
 |t::_,[],S,A,j,us,m,vs,K,hg,h,_,hl,_=>by cases t<;>simp[D5]at h
 |_::_,_::_,S,A,j,[],m,vs,K,hg,h,_,hl,_=>hl.elim
 |t::ts,x::l,S,A,j,u::us,m,vs,K,hg,h,hst,hl,hi=>by
  have go:∀ {y:Lf} {v0 vs':List Up} {m':List Lf} {S1:Sit},m=y::m'→vs=v0++vs'→D5 (ups A v0) ts l=some (m',vs')→Ah X S1 a→S1.g=get (ups A v0)→Cr X S S1 (λ n q=>n=i∧q=path j)→Af X.P S1 (.tm i (path j)) y u→
    ∃ S',Ah X S' a∧S'.g=get (ups A vs)∧Cr X S S' (λ n q=>n=i∧∃ k,j≤k∧k<j+(x::l).length∧q=path k)∧A5 X.P S' (λ n => .tm i (path n)) j m (u::us):=by
   intro y v0 vs' m' S1 e1 e2 hrec K1 g1 G1 hy;subst e1 e2
   have hrest:A5 X.P S1 (λ n => .tm i (path n)) (j+1) l us:=A5.impAt (λ n n1 n2 x u hx=>G1.tms _ _ _ _ (λ h=>by
    have:=hi n j (by omega) (by simp only[Vg];omega) (Vq _) (by simp only[Vg];omega) h.2
    omega) hx) hl.2
   obtain⟨S2,K2,g2,G2,hl2⟩:=Kh i path ts l K1 g1 hrec (Jj hst).1 hrest (λ n n' a1 a2 a3 a4 e=>hi n n' (by omega) (by simp only[Vg];omega) (by omega) (by simp only[Vg];omega) e);refine⟨S2,K2,by rw[Ae];exact g2,Cr.trans (λ n q h=>⟨h.1,j,Vq _,by simp only[Vg];omega,h.2⟩) (λ n q h=>?_) G1 G2,G2.tms _ _ _ _ (λ h=>?_) hy,hl2⟩
   ·obtain⟨h1,k,k1,k2,k3⟩:=h;exact⟨h1,k,by omega,by simp only[Vg];omega,k3⟩
   ·obtain⟨_,k,k1,k2,k3⟩:=h;have:=hi j k (Vq _) (by simp only[Vg];omega) (by omega) (by simp only[Vg];omega) k3;omega
  have h0:Af X.P S (.tm i (path j)) x u:=hl.1
  have plain:D5 A (t::ts) (x::l)=(match D5 (ups A (On A x)) ts l with|some (m,us)=>some (Iu (Hn A x)::m,On A x++us)|none=>none)→
    ∃ S',Ah X S' a∧S'.g=get (ups A vs)∧Cr X S S' (λ n q=>n=i∧∃ k,j≤k∧k<j+(x::l).length∧q=path k)∧A5 X.P S' (λ n => .tm i (path n)) j m (u::us):=by
   intro hpl;rw[hpl]at h;split at h
   ·rename_i m' vs' hrec;cases h;obtain⟨hst1,hst2⟩:=Jj hst
    cases x with
    |al p v=>
     have hk:Hn A (.al p v)=Iu (H9 A (.al p v)):=rfl
     by_cases hown:∃ e r,∃ xs:List (Ty.den r),get A p=(v,.one (.own e r xs))
     ·obtain⟨e,r',xs,hp⟩:=hown
      have hc:On A (.al p v)=[⟨p,true,.one (.fz e r' xs)⟩]:=by simp[On,hp]
      have hs:Iu (Hn A (.al p v)) = .fz e r' xs:=by simp[Hn,H9,hp,Iu]
      rw[hc]at hrec;rw[hc,hs]at go ⊢
      have hSp:(S.g p).2 = .one (.own e r' xs):=by rw[hg,hp]
      obtain⟨K1,_,hf⟩:=Ph K hSp;have E1:=U9 K hSp
      have g1:(frS S p e r' xs).g=get (ups A [⟨p,true,.one (.fz e r' xs)⟩]):=by
       show upd S.g p _=_;rw[Kt,← hg]
      refine go rfl rfl hrec K1 g1 ⟨rfl,rfl,rfl,E1.later,λ b k hk=>E1.bx b k hk,λ b n hn=>Aa _ _ (λ e1=>by rw[e1,hSp]at hn;cases hn),λ n q x u _ hx=>hx.later E1.later (λ k hk=>⟨E1.tm n q k hk,rfl⟩),λ n q k _ hk=>E1.tm n q k hk⟩ ?_;rw[h0.2 (by rw[hg,hp])];exact Af.relab (lab' := .tm i (path j)) rfl hf
     ·have hc:On A (.al p v)=[]:=by
       simp only[On];split
       ·rename_i n e r' xs hp;cases hb:Nat.beq n v
        ·rfl
        have:n=v:=by simpa using hb
        subst this;exact absurd ⟨e,r',xs,hp⟩ hown
       ·rfl
      rw[hc]at hrec;rw[hc]at go ⊢;refine go rfl rfl hrec K hg (.refl S _) ?_;rw[hk]at hst2 ⊢;simp only[H9]at hst2 ⊢;split
      ·rename_i n e r' xs hp;cases hb:Nat.beq n v
       ·exact trivial
       have:n=v:=by simpa using hb
       subst this;exact absurd ⟨e,r',xs,hp⟩ hown
      ·rename_i n e r' xs hp;cases hb:Nat.beq n v
       ·exact trivial
       have hnv:n=v:=by simpa using hb
       subst hnv;rw[cond_true];have h3:=K.at_ p;rw[hg,hp,← h0.2 (by rw[hg,hp])]at h3;exact Af.relab (x := .fz e r' xs) (lab := .pl p []) (lab' := .tm i (path j)) rfl h3
      ·exact trivial
    |own e r' xs=>
     obtain⟨K1,L1⟩:=K.retm (atO S.O (λ n q=>if n=i∧q=path j then some .fz else none)) (λ k o e1 ho=>Am e1 ho);have hO:∀ n q k,¬ (n=i∧q=path j)→S.O k = .tm n q→atO S.O (λ n q=>if n=i∧q=path j then some .fz else none) k = .tm n q:=λ n q k hn hk=>I6 hk (if_neg hn);refine go (v0:=[]) rfl rfl hrec K1 hg ⟨rfl,rfl,rfl,L1,λ b k hk=>Am hk (by simp),λ _ _ _=>rfl,λ n q x u hn hx=>hx.later L1 (λ k hk=>⟨hO n q k hn hk,rfl⟩),λ n q k hn hk=>hO n q k hn hk⟩ ?_;exact Cs.reads (O':=atO S.O (λ n q=>if n=i∧q=path j then some .fz else none)) h0 (λ k hk=>Am hk (by simp)) (λ k hk=>G6 hk (if_pos ⟨rfl,rfl⟩))
    |sc v=>exact go (v0:=[]) rfl rfl hrec K hg (.refl S _) h0
    |fz e r' xs=>exact go (v0:=[]) rfl rfl hrec K hg (.refl S _) h0
    |_=>rcases hst2 with⟨_,e1⟩|⟨_,_,_,e1⟩|⟨_,_,_,e1⟩<;>simp[Hn,Iu]at e1
   ·cases h
  cases t with
  |ow e r=>
   simp only[D5]at h;split at h
   ·rename_i y hy;split at h
    ·rename_i m' vs' hrec;cases h
     by_cases hal:∃ p v,x = .al p v
     ·obtain⟨p,v,rfl⟩:=hal
      have hown:∃ e' r',∃ xs:List (Ty.den r'),H9 A (.al p v) = .own e' r' xs:=by
       generalize H9 A (.al p v)=z at hy;unfold Qp at hy;split at hy
       ·exact⟨_,_,_,rfl⟩
       ·cases hy
      obtain⟨e',r',xs,hsn⟩:=hown;obtain⟨p',v',e0,hp⟩:=Kx hsn (λ e r xs hy=>by cases hy);cases e0;rw[hsn]at hy;have he:u=S.ph p:=h0.2 (by rw[hg,hp])
      let f:List Nat→Option (List Nat):=λ q=>match q with|[]=>some (path j)|_=>none
      have L1:=Iz S p i f (.one .dead);obtain⟨K1,h1,h2⟩:=S6 K p i f (.one .dead) (by simp) trivial
      have hown:Af X.P S (.pl p []) (.own e' r' xs) (S.ph p):=by have:=K.at_ p;rw[hg,hp]at this;exact this
      have hown1:=h1 [] (path j) _ _ rfl hown
      have g1:(N6 S p i f (.one .dead)).g=get (ups A (X7 (.al p v))):=by
       show upd S.g p _=get (ups A [⟨p,false,.one .dead⟩]);rw[A8,← hg]
      have G1:Cr X S (N6 S p i f (.one .dead)) (λ n q=>n=i∧q=path j):=⟨rfl,rfl,rfl,L1,λ b k hk=>(G7 (by simp[hk])).trans hk,λ b n hn=>Aa _ _ (λ e1=>by rw[e1,hg,hp]at hn;cases hn),λ n q x u _ hx=>h2 n q x u hx,λ n q k _ hk=>(G7 (by simp[hk])).trans hk⟩;obtain⟨S2,K2,g2,G2,hy2⟩:=Aja K1 hy hown1;exact go rfl rfl hrec K2 (g2.trans g1) (Cr.trans (λ _ _ h=>h) (λ _ _ h=>h) G1 G2) (by rw[he];exact hy2)
     ·have ht:X7 x=[]:=by cases x<;>first|rfl|exact absurd ⟨_,_,rfl⟩ hal
      have hsn:H9 A x=x:=by cases x<;>first|rfl|exact absurd ⟨_,_,rfl⟩ hal
      rw[hsn]at hy;rw[ht]at hrec;rw[ht]at go ⊢;obtain⟨S2,K2,g2,G2,hy2⟩:=Aja K hy h0;exact go rfl rfl hrec K2 (g2.trans hg) G2 hy2
    ·cases h
   ·cases h
  |_=>exact plain rfl
def Iaa {s:Sv} {l:List Lf} (hnt:∀ vs,s ≠ .tup vs) (hl:l=parts s):∀ n n',0≤n→n<0+l.length→0≤n'→n'<0+l.length→pth s n=pth s n'→n=n':=by
 intro n n' _ h1 _ h2 e;subst hl
 cases s with
 |one x=>simp only[parts,Vg,Vp]at h1 h2;omega
 |agg l=>simpa[pth] using e
 |tup vs=>exact absurd rfl (hnt vs)
def Aka (hE:Gx X E) (K:Ah X S a) (hg:S.g=get A) {T:TypeId} {y:Operand} {s:Sv} {ts:List Ty} {m:List Lf} {vs:List Up} (hs:(opT E T A y=some s∨∃ x,s = .one x∧(∀ t,y ≠ .tmp t)∧∀ lab,Af X.P S lab x (a.eval y))) (hnt:∀ vs,s ≠ .tup vs) (h:N7 A y s ts=some (m,vs)) (i:Nat):
  ∃ S',Ah X S' a∧S'.g=get (ups A vs)∧Cr X S S' (λ n _=>n=i)∧A3 m=true∧m.length=ts.length∧∃ us,Nf s (a.eval y) us∧A5 X.P S' (λ n => .tm i (pth s n)) 0 m us:=by
 unfold N7 at h;split at h
 ·rename_i m0 vs0 ht
  cases hst:A3 m0 with
  |false=>rw[hst]at h;simp at h
  |true=>
  rw[hst]at h;simp only[cond_true,Vc,Vu]at h;obtain⟨rfl,rfl⟩:=h
  have none1:∀ x,s = .one x→(∀ t,y ≠ .tmp t)→(∀ lab,Af X.P S lab x (a.eval y))→∃ S1,Ah X S1 a∧S1.g=get (ups A (gone y s))∧Kg X S S1∧∃ us,Nf s (a.eval y) us∧A5 X.P S1 (λ n => .tm i (pth s n)) 0 (parts s) us:=by
   intro x e hnt' hx;subst e
   have hgo:gone y (.one x)=[]:=by
    unfold gone;split
    ·exact absurd rfl (hnt' _)
    ·rfl
   exact⟨S,K,by rw[hgo];exact hg,.refl S,[_],rfl,hx _,trivial⟩
  have first:∃ S1,Ah X S1 a∧S1.g=get (ups A (gone y s))∧Kg X S S1∧∃ us,Nf s (a.eval y) us∧A5 X.P S1 (λ n => .tm i (pth s n)) 0 (parts s) us:=by
   rcases hs with hs|⟨x,e,hnt',hx⟩
   ·rcases I5 hE K hg hs with⟨t,rfl,htl,hst,het,hok⟩|⟨hnt',x,e,hx⟩
    ·cases ho:Ix s with
     |false=>
      have hgo:gone (.tmp t) s=[]:=by simp[gone,ho]
      refine⟨S,K,by rw[hgo];exact hg,.refl S,?_⟩
      cases s with
      |tup vs=>exact absurd rfl (hnt vs)
      |one x=>exact⟨[_],rfl,(A5.relab (f:=λ _ => .pl t []) ho ⟨hok,trivial⟩)⟩
      |agg l=>
       obtain⟨us,e1,hl⟩:=hok;exact⟨us,e1,hl.relab ho⟩
     |true=>
      have hgo:gone (.tmp t) s=[⟨t,false,.one .dead⟩]:=by simp[gone,ho]
      obtain⟨K1,h1,h2⟩:=Im K t i;have G1:Kg X S (Hz S t i):=⟨rfl,rfl,rfl,Hp S t i,λ b k hk=>(Fb (by simp[hk])).trans hk,λ b n hn=>Aa _ _ (λ e1=>by rw[e1,← hst]at hn;subst hn;simp[Ix,Db]at ho),h2,λ n q k hk=>(Fb (by simp[hk])).trans hk⟩;refine⟨_,K1,?_,G1,?_⟩
      ·rw[hgo,A8,← hg];rfl
      ·cases s with
       |tup vs=>exact absurd rfl (hnt vs)
       |one x=>exact⟨[_],rfl,h1 [] x _ hok,trivial⟩
       |agg l=>
        obtain⟨us,e1,hl⟩:=hok;exact⟨us,e1,hl.imp (λ n x u hx=>h1 [n] x u hx)⟩
    ·exact none1 x e hnt' hx
   ·exact none1 x e hnt' hx
  obtain⟨S1,K1,g1,G1,us,hsh,hl⟩:=first
  obtain⟨S2,K2,g2,G2,hl2⟩:=Kh i (pth s) ts (parts s) K1 g1 ht hst hl (Iaa hnt rfl);obtain⟨l1,l2⟩:=Ia _ _ ht;exact⟨S2,K2,by rw[Ae];exact g2,Cr.trans (λ n q h=>h) (λ n q h=>h.1) (Kg.x (ex:=λ n _=>n=i) G1) G2,hst,by rw[l1,← l2],us,hsh,hl2⟩
 ·cases h
def Se (hE:Gx X E) (K:Ah X S a) (hg:S.g=get A) {T:TypeId} {y:Operand} {s:Sv} {t:Ty} {m:List Lf} {vs:List Up} (hs:(opT E T A y=some s∨∃ x,s = .one x∧(∀ t,y ≠ .tmp t)∧∀ lab,Af X.P S lab x (a.eval y))) (hnt:∀ vs,s ≠ .tup vs) (h:M8 A y s t=some (m,vs)) (i:Nat):
  ∃ S',Ah X S' a∧S'.g=get (ups A vs)∧Cr X S S' (λ n _=>n=i)∧A3 m=true∧m.length=t.sz∧∃ us,Nf s (a.eval y) us∧A5 X.P S' (λ n => .tm i (pth s n)) 0 m us:=by
 rw[← Hd];exact Aka hE K hg hs hnt h i
def Ou (K:Ah X S a) (hg:S.g=get A) {b v:Nat} {t t':Ty} {m:List Lf} {vs:List Up} (h:Lu A b v t t'=some (m,vs)) (i:Nat):
  (S.g (H b)).1=v∧(S.g (H b)).2 = .one (.hd t.sz)∧t'.sz=t.sz∧A3 m=true∧m.length=t.sz∧
  ∃ S',Ah X S' a∧S'.g=get (ups A vs)∧Cr X S S' (λ n _=>n=i)∧A5 X.P S' (λ n => .tm i [n]) 0 m ((List.range t.sz).map λ j=>S.ph (C b (0+j))):=by
 unfold Lu at h;split at h
 ·rename_i n hd hp;obtain⟨hq,h⟩:=cs h;simp only[Va]at hq;obtain⟨⟨q1,q2⟩,q3⟩:=hq;have e1:n=v:=Vb q1;have e2:hd=t.sz:=Vb q2;have e3:hd=t'.sz:=Vb q3;split at h
  ·rename_i l us hx;cases hst:A3 l
   ·rw[hst]at h;simp at h
   rw[hst]at h;simp only[cond_true,Vc,Vu]at h;obtain⟨rfl,rfl⟩:=h;obtain⟨c1,c2,c3⟩:=Kz K hg b hd 0;obtain⟨S2,K2,g2,G2,hl2⟩:=Kh i (λ n=>[n]) (Ew t) (cellsOf A b 0 hd) K hg hx hst (c3 _ 0) (λ n n' _ _ _ _ e=>by simpa using e);obtain⟨l1,l2⟩:=Ia _ _ hx;rw[e2]at hl2;exact⟨by rw[hg,hp];exact e1,by rw[hg,hp,e2],by omega,hst,by rw[l1,c1,e2],S2,K2,g2,Cr.trans (λ n q h=>h) (λ n q h=>h.1) (Cr.refl S (λ n _=>n=i)) G2,hl2⟩
  ·cases h
 ·cases h
end
end

section
attribute [local irreducible] C H
def C0.split {α:Type} {R:α→List Value→List Nat→Prop} {n:Nat} (hn:∀ x c b,R x c b→c.length=n) (d:α):∀ {xs:List α} {cs:List Value} {bs:List Nat} (_:C0 R xs cs bs) (i:Nat) (_:i<xs.length),
  ∃ b1 bi b2,bs=b1++(bi++b2)∧C0 R (xs.take i) (cs.take (i*n)) b1∧R (xs.getD i d) ((cs.drop (i*n)).take n) bi∧C0 R (xs.drop (i+1)) (cs.drop (i*n+n)) b2
 |[],_,_,_,i,hi=>absurd hi (by simp)
 |x::xs,cs,bs,⟨c,d',b1,b2,e,eb,h1,h2⟩,0,_=>by
  subst e eb;have hl:=hn _ _ _ h1;refine⟨[],b1,b2,rfl,by simp[C0],?_,?_⟩
  ·simp only[Zh,We];rw[← hl,Rpa];exact h1
  ·simp only[Zh,Wb];rw[← hl,Yw];exact h2
 |x::xs,cs,bs,⟨c,d',b1,b2,e,eb,h1,h2⟩,i+1,hi=>by
  subst e eb;have hl:=hn _ _ _ h1;obtain⟨b3,bi,b4,e3,r1,r2,r3⟩:=h2.split hn d i (by simpa using hi)
  have em:(i+1)*n=c.length+i*n:=by rw[hl,Yh,Ym,Zd]
  refine⟨b1++b3,bi,b4,by rw[e3,Vj],⟨c,_,b1,b3,?_,rfl,h1,r1⟩,?_,?_⟩
  ·rw[em,Ze]
  ·rw[em,← Wp,Yw];exact r2
  ·rw[em,Ys c.length,List.drop_length_add_append];exact r3
def Ud {P:Program} {S:Sit}:∀ {l:List Lf} {us:List Value} {bs:List Nat} (j0:Nat),Gr P (λ k=>S.O k = .fz) S.w l us bs→bs.Nodup→
  ∃ f:Nat→Option Nat,(∀ k,k∉bs→f k=none)∧(∀ k∈bs,∃ j,f k=some j∧j0≤j∧j<j0+l.length)∧
   ∀ (S':Sit) (lab:Nat→Lab),S'.w=S.w→(∀ k,S.O k = .fz→S'.O k = .fz)→(∀ k j,f k=some j→S'.O k=lab j)→A5 P S' lab j0 l us
 |[],us,bs,j0,h,_=>by
  obtain⟨rfl,rfl⟩:=h;exact⟨λ _=>none,λ _ _=>rfl,by simp,λ _ _ _ _ _=>trivial⟩
 |x::l,us,bs,j0,⟨u,us',b1,b2,e1,e2,h1,h2⟩,hn=>by
  subst e1 e2;rw[Yc]at hn;obtain⟨n1,n2,n3⟩:=hn;obtain⟨f,f1,f2,f3⟩:=Ud (j0+1) h2 n2
  have hb:∀ k j,f k=some j→k∉b1:=λ k j hk h'=>by
   by_cases hk2:k∈b2
   ·exact n3 k h' k hk2 rfl
   ·rw[f1 k hk2]at hk;cases hk
  refine⟨λ k=>if k∈b1 then some j0 else f k,λ k hk=>?_,λ k hk=>?_,λ S' lab hw hf hl=>⟨?_,f3 S' lab hw hf (λ k j hk=>hl k j ((if_neg (hb k j hk)).trans hk))⟩⟩
  ·exact(if_neg (λ h=>hk (Vt _ h))).trans (f1 k (λ h=>hk (Vi _ h)))
  ·rcases Vo.1 hk with h|h
   ·exact⟨j0,if_pos h,Vq _,by simp⟩
   ·obtain⟨j,h3,h4,h5⟩:=f2 k h;exact⟨j,(if_neg (hb k j h3)).trans h3,by omega,by simp only[Vg];omega⟩
  ·cases x with
   |sc v=>exact⟨h1.1,h1.2.1⟩
   |own e r xs=>exact⟨b1,Ty.dep_mono hf (λ k _=>by rw[hw]) (.ow e r) xs [u] b1 (λ k _=>by rw[hw]) h1,n1,λ k hk=>hl k j0 (if_pos hk)⟩
   |_=>exact h1.elim
def Ov:∀ (t:Ty) (x:t.den),Hh t=true→A4 t x=lvs t x
 |.i _,_,_=>rfl
 |.b,_,_=>rfl
 |.s,_,_=>rfl
 |.sl _ _,_,_=>rfl
 |.ow _ _,_,h=>by simp[Hh]at h
 |.pr x y,p,h=>by
  simp only[Hh,Va]at h;show A4 x p.1++A4 y p.2=lvs x p.1++lvs y p.2;rw[Ov x p.1 h.1,Ov y p.2 h.2]
section
variable {X:Cx} {S S':Sit} {a:Act} {E:En} {A:Ab} {o:Oper} {R:Type} {Kc:List Up→Option R} {r:R}
def Loa {P:Program} {S:Sit} {r:Ty} (hr:Hh r=true∨Eh r=true) {x:r.den} {c:List Value} {bs:List Nat} (h:r.dep P (λ k=>S.O k = .fz) S.w x c bs) (hn:bs.Nodup):
  ∃ f:Nat→Option Nat,(∀ k,k∉bs→f k=none)∧(∀ k∈bs,∃ j,f k=some j∧j<r.sz)∧
   ∀ (S':Sit) (lab:Nat→Lab),S'.w=S.w→(∀ k,S.O k = .fz→S'.O k = .fz)→(∀ k j,f k=some j→S'.O k=lab j)→A5 P S' lab 0 (A4 r x) c:=by
 rcases hr with hr|hr
 ·obtain⟨h1,rfl⟩:=(Ty.dep_flat r x c bs hr).1 h;refine⟨λ _=>none,λ _ _=>rfl,by simp,λ S' lab hw hf _=>?_⟩;rw[Ov r x hr];exact A5.ofRep (Jf r x c (Ty.rep_mono hf (λ k _=>by rw[hw]) r x c h1)) lab 0
 ·obtain⟨f,f1,f2,f3⟩:=Ud 0 (J3 r x c bs hr h) hn;exact⟨f,f1,λ k hk=>by obtain⟨j,h1,_,h2⟩:=f2 k hk;exact⟨j,h1,by rw[G8]at h2;omega⟩,f3⟩
def Pha (g:Nat→Nat×Sv) (p B:Nat) (e:TypeId) (r:Ty) (xs:List r.den) (i:Int) (l:List Lf):Nat→Nat×Sv:=λ q=>
 if q=p then ((g p).1+1,.one (.opn e r xs i B ((g (H B)).1+1))) else if q=H B then ((g (H B)).1+1,.one (.hd r.sz)) else
 if C B 0≤q∧q<C B 0+l.length then ((g q).1+1,.one (l.getD (q-C B 0) .dead)) else g q
def Iba {p B:Nat} {e:TypeId} {r:Ty} {xs:List r.den} {i:Int} {l:List Lf} (hpH:p≠H B) (hpC:¬ (C B 0≤p∧p<C B 0+l.length)) (hl:l.length≤999):
  get (ups A (⟨p,false,.one (.opn e r xs i B ((get A (H B)).1+1))⟩::⟨H B,false,.one (.hd r.sz)⟩::Bo B 0 l))=Pha (get A) p B e r xs i l:=by
 have hHC:¬ (C B 0≤H B∧H B<C B 0+l.length):=E9 (by omega)
 have e1:get (ups A (⟨p,false,.one (.opn e r xs i B ((get A (H B)).1+1))⟩::⟨H B,false,.one (.hd r.sz)⟩::Bo B 0 l))=Ji (upd (upd (get A) p ((get A p).1+1,.one (.opn e r xs i B ((get A (H B)).1+1)))) (H B) ((get A (H B)).1+1,.one (.hd r.sz))) B 0 l:=by
  show get (ups (up (up A ⟨p,false,.one (.opn e r xs i B ((get A (H B)).1+1))⟩) ⟨H B,false,.one (.hd r.sz)⟩) (Bo B 0 l))=_;rw[Gz,Il,Il];simp only[cond_false];rw[Aa _ _ (S5a hpH)]
 rw[e1];funext q;unfold Pha Ji
 by_cases h2:C B 0≤q∧q<C B 0+l.length
 ·have h3:q≠p:=λ e=>hpC (e ▸ h2);have h4:q≠H B:=λ e=>hHC (e ▸ h2);rw[if_pos h2,Aa _ _ h4,Aa _ _ h3,if_neg h3,if_neg h4,if_pos h2]
 ·rw[if_neg h2]
  by_cases h3:q=p
  ·subst h3;rw[Aa _ _ hpH,A9,if_pos rfl]
  ·rw[if_neg h3]
   by_cases h4:q=H B
   ·subst h4;rw[A9,if_pos rfl]
   ·rw[Aa _ _ h4,Aa _ _ h3,if_neg h4,if_neg h2]
def Ena (K:Ah X S a) {p v B:Nat} {e:TypeId} {r:Ty} {xs:List r.den} {i:Int} (hB:2000≤B) (hB3:B<3000) (hp:S.g p=(v,.one (.own e r xs))) (hpH:p≠H B) (hpC:¬ (C B 0≤p∧p<C B 0+r.sz)) (hr:Hh r=true∨Eh r=true) (hz:r.sz<999)
  (i0:0≤i) (i1:i.toNat<xs.length):
  ∃ S' k cap,Ah X S' a∧S'.g=Pha S.g p B e r xs i (A4 r (xs.getD i.toNat r.dflt))∧S'.w=S.w∧S.ph p = .slice (some ⟨k,0,none⟩) xs.length cap∧S'.bb B=(k,i.toNat*r.sz)∧(∀ q,¬ (C B 0≤q∧q<C B 0+r.sz)→S'.ph q=S.ph q):=by
 have hown:Cs X.P S.O S.w (.pl p []) e r xs (S.ph p):=by have:=K.at_ p;rw[hp]at this;exact this
 obtain⟨bs,⟨u,cs,b0,eu,hs,ho,hrows,eb⟩,hnd,hlab⟩:=hown;simp only[Wq,and_true]at eu;subst eu;rcases Da ho with⟨_,e1,_⟩|⟨k,cap,cur,hph,hc,h1,h2,h3,h4⟩
 ·omega
 rw[hph]at ho eb;simp only[Value.ownBlock,Option.toList_some,Yb]at eb;obtain⟨b1,bi,b2,e2,r1,r2,r3⟩:=hrows.split (Ty.dep_len r) r.dflt i.toNat i1;subst e2 eb;have hki:k∉b1++(bi++b2):=(Yt.1 hnd).1;have hnd2:=(Yt.1 hnd).2;rw[Yc]at hnd2;obtain⟨n1,n2,n3⟩:=hnd2;rw[Yc]at n2;obtain⟨n4,n5,n6⟩:=n2;have hlk:S.O k = .pl p []:=hlab k (by simp);have hl1:∀ j∈b1,S.O j = .pl p []:=λ j hj=>hlab j (by simp[hj]);have hli:∀ j∈bi,S.O j = .pl p []:=λ j hj=>hlab j (by simp[hj]);have hl2:∀ j∈b2,S.O j = .pl p []:=λ j hj=>hlab j (by simp[hj]);obtain⟨f,f1,f2,f3⟩:=Loa (P:=X.P) (S:=S) hr r2 n4;generalize hrow:(cs.drop (i.toNat*r.sz)).take r.sz=row at r2 f3;have hrl:row.length=r.sz:=Ty.dep_len _ _ _ _ r2
 let O':Nat→Lab:=λ j=>if j=k then .bx B else match f j with
  |some n => .pl (C B n) []
  |none=>S.O j
 have hfn:∀ j n,f j=some n→j∈bi:=λ j n h=>Classical.byContradiction λ h'=>by rw[f1 j h']at h;cases h
 have hOk:O' k = .bx B:=if_pos rfl
 have hOi:∀ j n,f j=some n→O' j = .pl (C B n) []:=λ j n h=>by
  have h5:j≠k:=λ e=>hki (by rw[← e];simp[hfn j n h]);show (if j=k then _ else _)=_;rw[if_neg h5,h]
 have hOo:∀ j o',S.O j=o'→o' ≠ .pl p []→O' j=o':=λ j o' h ho'=>by
  have h5:j≠k:=λ e=>ho' (by rw[← h,e,hlk]);have h6:f j=none:=f1 j (λ hj=>ho' (by rw[← h,hli j hj]));show (if j=k then _ else _)=_;rw[if_neg h5,h6];exact h
 have hOb:∀ j,j∈b1∨j∈b2→O' j = .pl p []:=λ j hj=>by
  have h5:j≠k:=λ e=>hki (by rw[← e];rcases hj with hj|hj<;>simp[hj])
  have h6:f j=none:=f1 j (λ hj'=>by
   rcases hj with hj|hj
   ·exact n3 j hj j (by simp[hj']) rfl
   ·exact n6 j hj' j hj rfl)
  show (if j=k then _ else _)=_;rw[if_neg h5,h6];rcases hj with hj|hj
  ·exact hl1 j hj
  ·exact hl2 j hj
 let S':Sit:=⟨O',upd S.bb B (k,i.toNat*r.sz),Pha S.g p B e r xs i (A4 r (xs.getD i.toNat r.dflt)),Hc S.ph B 0 row,S.w⟩
 have hll:(A4 r (xs.getD i.toNat r.dflt)).length=r.sz:=G8 _ _;have gp:S'.g p=((S.g p).1+1,.one (.opn e r xs i B ((S.g (H B)).1+1))):=if_pos rfl
 have gH:S'.g (H B)=((S.g (H B)).1+1,.one (.hd r.sz)):=by
  show (if H B=p then _ else _)=_;rw[if_neg (S5a hpH),if_pos rfl]
 have hHC:¬ (C B 0≤H B∧H B<C B 0+r.sz):=E9 (by omega)
 have gC:∀ q,C B 0≤q∧q<C B 0+r.sz→S'.g q=((S.g q).1+1,.one ((A4 r (xs.getD i.toNat r.dflt)).getD (q-C B 0) .dead)):=λ q hq=>by
  show (if q=p then _ else _)=_;rw[if_neg (λ h:q=p=>hpC (h ▸ hq)),if_neg (λ h:q=H B=>hHC (h ▸ hq)),if_pos (by rw[hll];exact hq)]
 have gO:∀ q,q≠p→q≠H B→¬ (C B 0≤q∧q<C B 0+r.sz)→S'.g q=S.g q:=λ q q2 q3 q4=>by
  show (if q=p then _ else _)=_;rw[if_neg q2,if_neg q3,if_neg (by rw[hll];exact q4)]
 have same:∀ q,(S'.g q).1=(S.g q).1→S'.g q=S.g q∧q≠p∧q≠H B∧¬ (C B 0≤q∧q<C B 0+r.sz):=λ q hq=>by
  have q2:q≠p:=λ e=>by rw[e,gp]at hq;simp at hq
  have q3:q≠H B:=λ e=>by rw[e,gH]at hq;simp at hq
  have q4:¬ (C B 0≤q∧q<C B 0+r.sz):=λ e=>by rw[gC q e]at hq;simp at hq
  exact⟨gO q q2 q3 q4,q2,q3,q4⟩
 have phO:∀ q,¬ (C B 0≤q∧q<C B 0+r.sz)→S'.ph q=S.ph q:=λ q hq=>by
  show Hc S.ph B 0 row q=_;unfold Hc;rw[if_neg (by rw[hrl];exact hq)]
 have L:Ct S S':=by
  refine⟨λ q=>?_,λ q hq=>phO q (same q hq).2.2.2,λ q v' e' r' xs' hq hv=>?_,λ b hb=>?_,λ j hj=>⟨hOo j _ hj (by simp),rfl⟩,λ b n hb hh hO=>?_,λ q hq hdp=>?_,λ q hq=>phO q (by unfold C;omega)⟩
  ·by_cases q2:q=p
   ·rw[q2,gp];exact Zj _
   by_cases q3:q=H B
   ·rw[q3,gH];exact Zj _
   by_cases q4:C B 0≤q∧q<C B 0+r.sz
   ·rw[gC q q4];exact Zj _
   ·rw[gO q q2 q3 q4];exact Vq _
  ·have:=(same q (by rw[hq];exact hv.symm)).1;rw[this]at hq;exact⟨xs',hq,rfl⟩
  ·have h5:b≠B:=λ e=>(same _ hb).2.2.1 (by rw[e]);exact Aa _ _ h5
  ·have h5:=(same _ hb).1;refine⟨by rw[h5];exact hh,hOo _ _ hO (by simp),λ c e' f' hc'=>⟨c,hc',rfl,λ _ _=>rfl⟩⟩
  ·obtain⟨h5,q2,_⟩:=same q hq;rw[h5];exact⟨hdp,λ _ _ _ h=>h,λ j hj=>⟨.inl (hOo j _ hj (by simp[q2])),rfl⟩⟩
 have hcell:∀ j,j<r.sz→cur[i.toNat*r.sz+j]? = row[j]? := λ j hj=>by
  rw[← hrow,Wg,if_pos hj,Ya,← h4,Wg,Yv];have:(i.toNat+1)*r.sz≤xs.length*r.sz:=Wa _ i1;rw[Yh,Ym]at this;rw[if_pos (by omega)]
 have hfit:i.toNat*r.sz+r.sz≤cur.size:=by
  have h5:(i.toNat+1)*r.sz≤xs.length*r.sz:=Wa _ i1;have h6:xs.length*r.sz≤cap*r.sz:=Wa _ h1;rw[Yh,Ym]at h5;omega
 refine⟨S',k,cap,⟨K.nt,λ j hj=>?_,λ l=>?_,λ b n hb=>?_,λ b n hb=>?_,λ t ht=>?_,K.sz,K.df,K.fr.relab (λ j h=>hOo j _ h (by simp)) (λ j h=>hOo j _ h (by simp)) (λ j b h=>hOo j _ h (by simp)),λ q hq=>(phO q (by unfold C;omega)).trans (K.io q hq)⟩,rfl,rfl,hph,A9 _ _ _,phO⟩
 ·-- blocks
  refine K.lt j (λ e=>hj (hOo j _ e (by simp)))
 ·show Gi X.P S' l (S'.g l).2 (S'.ph l)
  by_cases q2:l=p
  ·rw[q2,gp,phO p hpC,hph];refine⟨by rw[gH];exact Vq _,⟨hs,i0,i1,k,cap,rfl⟩,λ _=>⟨k,cap,cur,b1,b2,rfl,hs,hc,⟨h1,h2,h3⟩,⟨i0,i1⟩,A9 _ _ _,hOk,by rw[gH],?_,?_,?_,λ j hj=>hOb j (Vo.1 hj)⟩⟩
   ·have h5:cs.take (i.toNat*r.sz)=cur.toList.take (i.toNat*r.sz):=by
     rw[← h4,Zm,Zf (Wa _ (Nat.le_of_lt i1))]
    rw[h5]at r1;exact r1.mono (λ x c b hb h=>Ty.dep_mono (λ j hj=>hOo j _ hj (by simp)) (λ _ _=>rfl) r x c b (λ _ _=>rfl) h)
   ·rw[h4];exact r3.mono (λ x c b hb h=>Ty.dep_mono (λ j hj=>hOo j _ hj (by simp)) (λ _ _=>rfl) r x c b (λ _ _=>rfl) h)
   ·rw[Yc];exact⟨n1,n5,λ x hx y hy=>n3 x hx y (Vi _ hy)⟩
  by_cases q3:l=H B
  ·rw[q3,gH];trivial
  by_cases q4:C B 0≤l∧l<C B 0+r.sz
  ·rw[gC l q4];have h5:=f3 S' (λ n => .pl (C B n) []) rfl (λ j hj=>hOo j _ hj (by simp)) hOi;obtain⟨x,u',w1,w2,w3,w4⟩:=h5.at (l-C B 0) (by rw[hll];omega)
   have w5:S'.ph l=u':=by
    show Hc S.ph B 0 row l=_;unfold Hc;rw[if_pos (by rw[hrl];exact q4),w2]
   rw[w1,w5];rw[Wb]at w4
   have w6:C B (l-C B 0)=l:=by
    have:C B (l-C B 0)=C B 0+(l-C B 0):=by unfold C;omega
    omega
   rw[w6]at w4;exact w4
  ·rw[gO l q2 q3 q4,phO l q4];exact(K.at_ l).later L (λ q j hj=>⟨hOo j _ hj (by simp[q2]),rfl⟩)
 ·by_cases hbB:b=B
  ·subst hbB;rw[gH]at hb;cases hb;refine⟨hz,cur,e,?_,?_,?_,λ j hj=>?_⟩
   ·show S.w.heap[(upd S.bb b (k,i.toNat*r.sz) b).1]? = _;rw[A9];exact hc
   ·show O' (upd S.bb b (k,i.toNat*r.sz) b).1=_;rw[A9];exact hOk
   ·show (upd S.bb b (k,i.toNat*r.sz) b).2+_≤_;rw[A9];exact hfit
   ·show cur[(upd S.bb b (k,i.toNat*r.sz) b).2+j]? = some (Hc S.ph b 0 row (C b j));rw[A9,hcell j hj];unfold Hc
    have h2':C b 0≤C b j∧C b j<C b 0+row.length:=by unfold C;omega
    rw[if_pos h2',show C b j-C b 0=j by unfold C;omega,Vn,Vs (by omega)];rfl
  ·have hne:H b≠H B:=λ e=>hbB (Rz e);have h6:¬ (C B 0≤H b∧H b<C B 0+r.sz):=E9 (by omega)
   have h7:H b≠p:=λ e=>by rw[e,gp]at hb;cases hb
   rw[gO _ h7 hne h6]at hb;obtain⟨g1,c1,e2,g2,g3,g4,g5⟩:=K.box b n hb;have hbb:S'.bb b=S.bb b:=Aa _ _ hbB;rw[hbb];refine⟨g1,c1,e2,g2,hOo _ _ g3 (by simp),g4,λ j hj=>?_⟩;rw[phO _ (Lx (by omega) (by omega) hbB)];exact g5 j hj
 ·by_cases hbB:b=B
  ·subst hbB;refine⟨λ h=>absurd h (by omega),λ h=>absurd h (by unfold Cx.pb;omega),λ _ hlt b' h0=>?_,hB3⟩
   have h5:X.O0 k = .bx b':=by
    have:X.O0 (upd S.bb b (k,i.toNat*r.sz) b).1 = .bx b':=h0;rwa [A9]at this
   have h6:k<X.w0.heap.size:=by
    have:(upd S.bb b (k,i.toNat*r.sz) b).1<X.w0.heap.size:=hlt;rwa [A9]at this
   have:=(K.fr.bx k b' h6 h5).1;rw[hlk]at this;cases this
  ·have hne:H b≠H B:=λ e=>hbB (Rz e);have h6:¬ (C B 0≤H b∧H b<C B 0+r.sz):=E9 (by omega)
   have h7:H b≠p:=λ e=>by rw[e,gp]at hb;cases hb
   rw[gO _ h7 hne h6]at hb;have hbb:S'.bb b=S.bb b:=Aa _ _ hbB;rw[hbb];exact K.rgn b n hb
 ·show a.tmps.getD t undef=S'.ph t;rw[phO t (Ic (Wm ht K.nt))];exact K.sl t ht
end
end

section
attribute [local irreducible] C H
def Lpa {p B:Nat} (h:Nat.beq (p/1000) (B+1)=false) {n:Nat} (hn:n≤999):p≠H B∧¬ (C B 0≤p∧p<C B 0+n):=by
 have h1:p/1000≠B+1:=λ e=>by rw[e,Rwa]at h;cases h
 refine⟨λ e=>h1 ?_,λ ⟨h2,h3⟩=>h1 ?_⟩
 ·rw[e];unfold H;omega
 ·have:C B 0=1000*(B+1):=by unfold C;omega
  omega
section
variable {X:Cx} {S S':Sit} {a:Act} {E:En} {A:Ab} {o:Oper} {R:Type} {Kc:List Up→Option R} {r:R}
def Mf (K:Ah X S a) (hg:S.g=get A) {p v B:Nat} {e:TypeId} {r:Ty} {xs:List r.den} {i:Int} {us:List Up} (hp:S.g p=(v,.one (.own e r xs))) (h:M9 A B p e r xs i=some us):
  ∃ S' k cap,Ah X S' a∧S'.g=get (ups A us)∧S'.w=S.w∧S.ph p = .slice (some ⟨k,0,none⟩) xs.length cap∧S'.bb B=(k,i.toNat*r.sz)∧(∀ q,q<1000→S'.ph q=S.ph q)∧(S'.g (H B)).1=(S.g (H B)).1+1∧
   (∀ q,q<1000→q≠p→S'.g q=S.g q):=by
 unfold M9 at h;obtain⟨hq,h⟩:=cs h;simp only[Va,Rna,Wi]at hq;obtain⟨⟨⟨q1,q2⟩,q3⟩,q4⟩:=hq;have hz:r.sz<999:=Ve q2;have hB:2000≤B:=Ve q4.1;have hB3:B<3000:=Ve q4.2
 by_cases h0:0≤i
 ·by_cases h1:i<(xs.length:Int)
  ·simp only[h0,h1,decide_true,cond_true,Vc]at h;subst h;obtain⟨hpH,hpC⟩:=Lpa q3 (n:=r.sz) (by omega);obtain⟨S',k,cap,K',g',w',ph',bb',pq⟩:=Ena K hB hB3 hp hpH hpC q1 hz h0 (by omega);have hl:(A4 r (xs.getD i.toNat r.dflt)).length=r.sz:=G8 _ _
   have hg':S'.g=get (ups A (⟨p,false,.one (.opn e r xs i B ((get A (H B)).1+1))⟩::⟨H B,false,.one (.hd r.sz)⟩::Bo B 0 (A4 r (xs.getD i.toNat r.dflt)))):=by
    rw[Iba hpH (by rw[hl];exact hpC) (by omega),← hg,g']
   refine⟨S',k,cap,K',hg',w',ph',bb',λ q hq=>pq q (Ic hq),?_,λ q hq hne=>?_⟩
   ·rw[g'];show (if H B=p then _ else _:Nat×Sv).1=_;rw[if_neg (S5a hpH),if_pos rfl]
   ·rw[g'];show (if q=p then _ else _:Nat×Sv)=_;rw[if_neg hne,if_neg (λ e=>by have:=Nsa B;omega),if_neg (Ic hq)]
  ·simp[h0,h1]at h
 ·simp[h0]at h
def Ah.point (K:Ah X S a) {d:Nat} (hd:d<X.nt) {z:Lf} (hz:Af X.P S (.pl d []) z (S.ph d)) (hown:z.isOwn=false) (hnh:∀ n,z ≠ .hd n):Ah X { S with g:=upd S.g d ((S.g d).1+1,.one z) } a:=by
 have hd1:d<1000:=Wm hd K.nt
 have hdH:∀ b,H b≠d:=λ b e=>by have:=Nsa b;omega
 have L:Ct S { S with g:=upd S.g d ((S.g d).1+1,.one z) }:=by
  refine⟨λ p=>?_,λ _ _=>rfl,λ p v e r xs' hp hv=>?_,λ _ _=>rfl,λ k h=>⟨h,rfl⟩,Ct.box_of (λ b n hv hh=>?_) (λ _ _ h=>⟨h,rfl⟩),λ p hp hdp=>?_,λ _ _=>rfl⟩
  ·by_cases h:p=d
   ·subst h;show _≤(upd S.g p _ p).1;rw[A9];exact Zj _
   ·show _≤(upd S.g d _ p).1;rw[Aa _ _ h];exact Vq _
  ·have hp':upd S.g d ((S.g d).1+1,.one z) p=(v,.one (.own e r xs')):=hp
   by_cases h:p=d
   ·subst h;rw[A9]at hp';simp only[Vu]at hp';omega
   ·rw[Aa _ _ h]at hp';exact⟨xs',hp',rfl⟩
  ·exact(congrArg Prod.snd (Aa _ _ (hdH b))).trans hh
  ·have hp':(upd S.g d ((S.g d).1+1,.one z) p).1=(S.g p).1:=hp
   have h:p≠d:=λ e=>by subst e;rw[A9]at hp';simp at hp'
   have e1:({ S with g:=upd S.g d ((S.g d).1+1,.one z) }:Sit).g p=S.g p:=Aa _ _ h;rw[e1];exact⟨hdp,λ _ _ _ h=>h,λ k hk=>⟨.inl hk,rfl⟩⟩
 refine K.ghost S.O _ (λ _ h=>h) (λ _ h=>h) (λ _ h=>h) (λ _ _ h=>h) (λ b n h=>?_) (λ l=>?_)
 ·rwa [Aa _ _ (hdH b)]at h
 ·by_cases h:l=d
  ·subst h;show Gi X.P _ l (upd S.g l _ l).2 _;rw[A9];exact Af.later L hz (λ k hk=>⟨hk,rfl⟩)
  ·show Gi X.P _ l (upd S.g d _ l).2 _;rw[Aa _ _ h];exact(K.at_ l).later L (λ p k hk=>⟨hk,rfl⟩)
def Ica (K:Ah X S a) (hg:S.g=get A) {p t B:Nat} {us:List Up} (h:Hva A p t B=some us):∃ S',Ah X S' a∧S'.g=get (ups A us)∧S'.w=S.w:=by
 unfold Hva at h;split at h
 ·rename_i e r xs k i hp _;obtain⟨S',_,_,K',g',w',_⟩:=Mf K hg (p:=p) (v:=(S.g p).1) (by rw[← hg]at hp;rw[← hp]) h;exact⟨S',K',g',w'⟩
 ·cases h
def Ala (K:Ah X S a) (hg:S.g=get A) {d B:Nat} (hd:d<X.nt) {us:List Up} (h:C9a A d B=some us):∃ S',Ah X S' a∧S'.g=get (ups A us)∧S'.w=S.w:=by
 have hd1:d<1000:=Wm hd K.nt;have hat:=K.at_ d
 have go:∀ {p v:Nat} {e:TypeId} {r:Ty} {xs:List r.den} {i:Int} {off:Nat} {us0:List Up},S.g p=(v,.one (.own e r xs))→p≠d→M9 A B p e r xs i=some us0→us=us0++[⟨d,false,.one (.bp B ((get A (H B)).1+1) off)⟩]→
   (∀ k cap,S.ph p = .slice (some ⟨k,0,none⟩) xs.length cap→S.ph d = .pointer (some ⟨k,i.toNat*r.sz+off,none⟩))→∃ S',Ah X S' a∧S'.g=get (ups A us)∧S'.w=S.w:=by
  intro p v e r xs i off us0 hp hpd ho hus hpt;obtain⟨S',k,cap,K',g',w',ph',bb',pq,gH,gq⟩:=Mf K hg hp ho
  have hz:Af X.P S' (.pl d []) (.bp B ((S.g (H B)).1+1) off) (S'.ph d):=by
   refine⟨by rw[gH];exact Vq _,λ _=>?_⟩;rw[pq d hd1,hpt k cap ph',bb']
  refine⟨_,K'.point hd hz rfl (by simp),?_,w'⟩;show upd S'.g d _=_;rw[hus,Ae,A8,← g',← hg]
 unfold C9a at h;split at h
 ·rename_i p v i off hd2
  have hat':Af X.P S (.pl d []) (.ep p v i off) (S.ph d):=by rw[hg,hd2]at hat;exact hat
  split at h
  ·rename_i n e r xs hp;rw[csi]at h;obtain⟨hq,h⟩:=h;simp only[Va,Wi]at hq;obtain⟨⟨q1,q2⟩,q3⟩:=hq;have hnv:n=v:=Vb q1;subst hnv
   have hpd:p≠d:=λ e=>by rw[e,Rwa]at q3;cases q3
   split at h
   ·rename_i us0 ho;simp only[Vc]at h
    have hp':S.g p=(n,.one (.own e r xs)):=by rw[hg,hp]
    refine go hp' hpd ho h.symm (λ k cap hk=>?_);obtain⟨_,_,k',cap',e1,e2⟩:=hat'.2 e r xs hp';rw[hk]at e1;cases e1;exact e2
   ·cases h
  ·cases h
 ·rename_i p v e0 r0 xs0 i off hd2
  have hat':Af X.P S (.pl d []) (.dp p v (some []) e0 r0 xs0 i off) (S.ph d):=by rw[hg,hd2]at hat;exact hat
  split at h
  ·rename_i n e r xs hp;rw[csi]at h;obtain⟨hq,h⟩:=h;simp only[Va,Wi]at hq;obtain⟨⟨q1,q2⟩,q3⟩:=hq;have hnv:n=v:=Vb q1;subst hnv
   have hpd:p≠d:=λ e=>by rw[e,Rwa]at q3;cases q3
   split at h
   ·rename_i us0 ho;simp only[Vc]at h
    have hp':S.g p=(n,.one (.own e r xs)):=by rw[hg,hp]
    have hv:(S.g p).1=n:=by rw[hp']
    refine go hp' hpd ho h.symm (λ k cap hk=>?_);obtain⟨hh,hda,hdp⟩:=hat';obtain⟨_,_,k',o',cap',e1,e2⟩:=hdp hv;obtain⟨_,_,hpath⟩:=hda.2.2 hv;obtain⟨f1,f2⟩:=hpath [] rfl e r xs (by rw[hp']);simp only[Aba,Vc]at f1;cases f1;have f3:hh=S.ph p:=f2;rw[f3,hk]at e1;cases e1;rw[e2,Wb]
   ·cases h
  ·cases h
 ·cases h
def C0.set3 {α:Type} {R:α→List Value→List Nat→Prop} {xs:List α} {i:Nat} {z:α} {c1 c c2:List Value} {b1 bi b2:List Nat} (hi:i<xs.length) (h1:C0 R (xs.take i) c1 b1) (h:R z c bi) (h2:C0 R (xs.drop (i+1)) c2 b2):
  C0 R (xs.set i z) (c1++(c++c2)) (b1++(bi++b2)):=by
 rw[List.set_eq_take_append_cons_drop,if_pos hi];exact h1.append ⟨c,c2,bi,b2,rfl,rfl,h,h2⟩
def Ida (K:Ah X S a) (hg:S.g=get A) {p:Nat} {us:List Up} (h:Dva A p=some us):∃ S',Ah X S' a∧S'.g=get (ups A us)∧S'.w=S.w:=by
 unfold Dva at h;split at h
 ·rename_i e0 r0 xs0 i0 b v hop0;split at h
  ·rename_i l us1 hgive;obtain⟨_,_,_,hst,hlen,S1,K1,g1,G1,hls⟩:=Ou K hg hgive 7;split at h
   ·rename_i e r xs i b' v' hop;rw[csi]at h;obtain⟨hq,h⟩:=h;simp only[Va]at hq;obtain⟨⟨⟨⟨q1,q2⟩,q3⟩,q5⟩,q4⟩:=hq;have hbb':b=b':=Vb q1;subst hbb';have hb2:2000≤b:=Ve q3
    have hv:(S1.g (H b)).1=v':=by rw[g1];exact Vb q2
    split at h
    ·rename_i z hz;simp only[Vc]at h
     have hat:Af X.P S1 (.pl p []) (.opn e r xs i b v') (S1.ph p):=by have:=K1.at_ p;rw[g1,hop]at this;exact this
     obtain⟨_,_,hopn⟩:=hat;obtain⟨k,cap,cur,b1,b2,h1,h2,h3,⟨h4,h5,h6⟩,⟨i0,i1⟩,h8,h9,h10,h11,h12,h13,h14⟩:=hopn hv;obtain⟨hn,c,e',x1,x2,x3,x4⟩:=K1.box b r.sz h10;rw[h8]at x1 x2 x3 x4;rw[h3]at x1;cases x1
     have hrl:((List.range r0.sz).map λ j=>S.ph (C b (0+j))).length=l.length:=by rw[Yk,List.length_range,hlen]
     have hzl:l.length=r.sz:=Vb q5
     have hr0:r0.sz=r.sz:=by omega
     generalize hrow:(List.range r0.sz).map (λ j=>S.ph (C b (0+j)))=row at hls hrl
     have hrow2:row=(cur.toList.drop (i.toNat*r.sz)).take r.sz:=by
      refine S4a λ j=>?_;rw[Wg,Ya]
      by_cases hj:j<r.sz
      ·have e1:cur.toList[i.toNat*r.sz+j]? = cur[i.toNat*r.sz+j]? := Yv;have e2:cur[i.toNat*r.sz+j]? = some (S1.ph (C b j)):=x4 j hj;rw[if_pos hj,e1,e2,G1.ph,← hrow];simp[hr0,hj]
      ·rw[if_neg hj,Rma (by omega)]
     have hdep:∃ bi,r.dep X.P (λ k=>S1.O k = .fz) S1.w z row bi∧bi.Nodup∧∀ k∈bi,∃ q,S1.O k = .tm 7 q:=by
      rcases Rna _ _ ▸ q4 with q|q
      ·simp only[Va,Wi]at q
       have hrep:Hw (Ha X.P (λ k=>S1.O k = .fz) S1.w) l row:=by
        have key:∀ (l:List Lf) (j:Nat) (us:List Value),A3 l=true→Db l=false→A5 X.P S1 (λ n => .tm 7 [n]) j l us→Hw (Ha X.P (λ k=>S1.O k = .fz) S1.w) l us:=by
         intro l
         induction l with
         |nil=>intro j us _ _ h;cases us<;>first|exact .nil|exact h.elim
         |cons x l ih=>
          intro j us hs ho h
          cases us with
          |nil=>exact h.elim
          |cons u us=>
           cases x with
           |sc v=>exact .cons h.1 (ih _ _ (by simpa[A3] using hs) (by simpa[Db] using ho) h.2)
           |fz e r xs=>exact .cons h.1 (ih _ _ (by simpa[A3] using hs) (by simpa[Db] using ho) h.2)
           |own e r xs=>simp[Db]at ho
           |_=>simp[A3]at hs
        exact key l 0 row hst q.2 hls
       exact⟨[],(Ty.dep_flat r z row [] q.1).2 ⟨Pf hz hrep,rfl⟩,by simp,by simp⟩
      ·simp only[Va]at q;obtain⟨mb,m1,m2,m3⟩:=L3 q.2 hls (λ n n' _ _ _ _ e=>by simpa using e);exact⟨mb,Sd q.1 hz m1,m2,λ k hk=>by obtain⟨n,_,_,h⟩:=m3 k hk;exact⟨_,h⟩⟩
     obtain⟨bi,hd1,hd2,hd3⟩:=hdep
     let O':Nat→Lab:=λ j=>if j=k then .pl p [] else match S1.O j with
      |.tm 7 _ => .pl p []
      |o=>o
     have hOk:O' k = .pl p []:=if_pos rfl
     have hOn:∀ j o',S1.O j=o'→j≠k→(∀ q,o' ≠ .tm 7 q)→O' j=o':=λ j o' hj h3 h2=>by
      show (if j=k then _ else _)=_;rw[if_neg h3,hj]
      cases o'<;>first|rfl|skip
      rename_i n q
      by_cases hn7:n=7
      ·subst hn7;exact absurd rfl (h2 q)
      ·split
       ·rename_i heq;simp only[Lab.tm.injEq]at heq;exact absurd heq.1 hn7
       ·rfl
     have hOo:∀ j o',S1.O j=o'→o' ≠ .bx b→(∀ q,o' ≠ .tm 7 q)→O' j=o':=λ j o' hj h1 h2=>hOn j o' hj (λ e=>h1 (by rw[← hj,e,h9])) h2
     have hO7:∀ j q,S1.O j = .tm 7 q→O' j = .pl p []:=λ j q hj=>by
      have h3:j≠k:=λ e=>by rw[e,h9]at hj;cases hj
      show (if j=k then _ else _)=_;rw[if_neg h3,hj];rfl
     let g':=upd (upd S1.g (H b) ((S1.g (H b)).1+1,.one .dead)) p ((S1.g p).1+1,.one (.own e r (xs.set i.toNat z)))
     have hpH:p≠H b:=λ e=>by rw[e,← g1,h10]at hop;cases hop
     let S':Sit := { S1 with O:=O',g:=g' }
     have gp:S'.g p=((S1.g p).1+1,.one (.own e r (xs.set i.toNat z))):=A9 _ _ _;have gH:S'.g (H b)=((S1.g (H b)).1+1,.one .dead):=(Aa _ _ (S5a hpH)).trans (A9 _ _ _);have gO:∀ q,q≠p→q≠H b→S'.g q=S1.g q:=λ q q1 q2=>(Aa _ _ q1).trans (Aa _ _ q2)
     have same:∀ q,(S'.g q).1=(S1.g q).1→S'.g q=S1.g q∧q≠p∧q≠H b:=λ q hq=>by
      have q1:q≠p:=λ e=>by rw[e,gp]at hq;simp at hq
      have q2:q≠H b:=λ e=>by rw[e,gH]at hq;simp at hq
      exact⟨gO q q1 q2,q1,q2⟩
     have hfz:∀ j,S1.O j = .fz→O' j = .fz:=λ j hj=>hOo j _ hj (by simp) (by simp)
     have L:Ct S1 S':=by
      refine⟨λ q=>?_,λ _ _=>rfl,λ q v2 e2 r2 xs' hq hv2=>?_,λ _ _=>rfl,λ j hj=>⟨hfz j hj,rfl⟩,λ b3 n hb hh hO=>?_,λ q hq hdp=>?_,λ _ _=>rfl⟩
      ·by_cases q1:q=p
       ·rw[q1,gp];exact Zj _
       by_cases q2:q=H b
       ·rw[q2,gH];exact Zj _
       ·rw[gO q q1 q2];exact Vq _
      ·have:=(same q (by rw[hq];exact hv2.symm)).1;rw[this]at hq;exact⟨xs',hq,rfl⟩
      ·obtain⟨s1,_,s2⟩:=same _ hb;have hb3:b3≠b:=λ e=>s2 (by rw[e]);exact⟨by rw[s1];exact hh,hOo _ _ hO (by simp[hb3]) (by simp),λ c e' f' hc'=>⟨c,hc',rfl,λ _ _=>rfl⟩⟩
      ·obtain⟨s1,_,_⟩:=same q hq;rw[s1];exact⟨hdp,λ _ _ _ h=>h,λ j hj=>⟨.inl (hOo j _ hj (by simp) (by simp)),rfl⟩⟩
     have hnd:(k::(b1++(bi++b2))).Nodup:=by
      rw[Yc]at h13;obtain⟨n1,n2,n3⟩:=h13;rw[Yt,Yc,Yc]
      have hk1:∀ j∈b1++b2,j≠k:=λ j hj e=>by have:=h14 j hj;rw[e,h9]at this;cases this
      refine⟨λ hk=>?_,n1,⟨hd2,n2,λ x hx y hy e=>?_⟩,λ x hx y hy e=>?_⟩
      ·rcases Vo.1 hk with hk|hk
       ·exact hk1 k (Vt _ hk) rfl
       ·rcases Vo.1 hk with hk|hk
        ·obtain⟨q,hq⟩:=hd3 k hk;rw[h9]at hq;cases hq
        ·exact hk1 k (Vi _ hk) rfl
      ·obtain⟨q,hq⟩:=hd3 x hx;have:=h14 y (Vi _ hy);rw[← e,hq]at this;cases this
      ·rcases Vo.1 hy with hy|hy
       ·obtain⟨q,hq⟩:=hd3 y hy;have:=h14 x (Vt _ hx);rw[e,hq]at this;cases this
       ·exact n3 x hx y hy e
     have hown:Cs X.P O' S1.w (.pl p []) e r (xs.set i.toNat z) (S1.ph p):=by
      have hcs:cur.toList.take (xs.length*r.sz)=cur.toList.take (i.toNat*r.sz)++(row++(cur.toList.take (xs.length*r.sz)).drop (i.toNat*r.sz+r.sz)):=by
       have hle:(i.toNat+1)*r.sz≤xs.length*r.sz:=Wa _ i1;rw[Yh,Ym]at hle
       have e1:cur.toList.take (i.toNat*r.sz)=(cur.toList.take (xs.length*r.sz)).take (i.toNat*r.sz):=by rw[Zm,Zf (by omega)]
       have e2:row=((cur.toList.take (xs.length*r.sz)).drop (i.toNat*r.sz)).take r.sz:=by
        rw[hrow2];refine S4a λ j=>?_;rw[Wg,Wg];split
        ·rw[Ya,Ya,Wg,if_pos (by omega)]
        ·rfl
       rw[e1,e2,← Wp];rw[Wo,Wo]
      refine⟨k::(b1++(bi++b2)),⟨S1.ph p,cur.toList.take (xs.length*r.sz),b1++(bi++b2),rfl,h2,⟨?_,.inr ⟨k,cap,cur,by rw[Yl];exact h1,Wf _,h3,by rw[Yl];exact h4,h5,h6,by rw[Yl]⟩⟩,?_,?_⟩,hnd,λ j hj=>?_⟩
      ·have e1:cur.toList.length=cur.size:=Yi;rw[Vl,Yl,e1];have:=Wa r.sz h4;omega
      ·rw[hcs];have mono:∀ {x:r.den} {c:List Value} {d:List Nat},r.dep X.P (λ k=>S1.O k = .fz) S1.w x c d→r.dep X.P (λ k=>O' k = .fz) S1.w x c d:=λ h=>Ty.dep_mono hfz (λ _ _=>rfl) r _ _ _ (λ _ _=>rfl) h;exact C0.set3 i1 (h11.mono (λ x c d _ h=>mono h)) (mono hd1) (h12.mono (λ x c d _ h=>mono h))
      ·rw[h1];rfl
      ·rcases Vk.1 hj with rfl|hj
       ·exact hOk
       ·rcases Vo.1 hj with hj|hj
        ·exact hOo j _ (h14 j (Vt _ hj)) (by simp) (by simp)
        ·rcases Vo.1 hj with hj|hj
         ·obtain⟨q,hq⟩:=hd3 j hj;exact hO7 j q hq
         ·exact hOo j _ (h14 j (Vi _ hj)) (by simp) (by simp)
     refine⟨S',⟨K1.nt,λ j hj=>?_,λ q=>?_,λ b3 n hb=>?_,λ b3 n hb=>?_,K1.sl,K1.sz,K1.df,⟨K1.fr.os,K1.fr.tape,K1.fr.out,K1.fr.size,λ j hj h0=>?_,λ j hj h0=>?_,λ j b3 hj h0=>?_⟩,K1.io⟩,?_,G1.w⟩
     ·exact K1.lt j (λ e=>hj (hOo j _ e (by simp) (by simp)))
     ·show Gi X.P S' q (S'.g q).2 (S1.ph q)
      by_cases q1:q=p
      ·rw[q1,gp];exact hown
      by_cases q2:q=H b
      ·rw[q2,gH];trivial
      ·rw[gO q q1 q2];exact(K1.at_ q).later L (λ w j hj=>⟨hOo j _ hj (by simp) (by simp),rfl⟩)
     ·have hb3:b3≠b:=λ e=>by rw[e,gH]at hb;cases hb
      have hbp:H b3≠p:=λ e=>by rw[e,gp]at hb;cases hb
      rw[gO _ hbp (λ e=>hb3 (Rz e))]at hb;obtain⟨y1,c1,e1,y2,y3,y4,y5⟩:=K1.box b3 n hb;exact⟨y1,c1,e1,y2,hOo _ _ y3 (by simp[hb3]) (by simp),y4,y5⟩
     ·have hb3:b3≠b:=λ e=>by rw[e,gH]at hb;cases hb
      have hbp:H b3≠p:=λ e=>by rw[e,gp]at hb;cases hb
      rw[gO _ hbp (λ e=>hb3 (Rz e))]at hb;exact K1.rgn b3 n hb
     ·obtain⟨f1,f2⟩:=K1.fr.no j hj h0;exact⟨hOo j _ f1 (by simp) (by simp),f2⟩
     ·obtain⟨f1,f2⟩:=K1.fr.fz j hj h0;exact⟨hOo j _ f1 (by simp) (by simp),f2⟩
     ·obtain⟨f1,rest⟩:=K1.fr.bx j b3 hj h0;refine⟨hOn j _ f1 (λ e=>?_) (by simp),rest⟩;rw[e]at hj h0;exact(K1.rgn b r.sz h10).2.2.1 hb2 (by rw[h8];exact hj) b3 (by rw[h8];exact h0)
     ·show upd (upd S1.g (H b) _) p _=_;rw[← h,Ae];show _=get (ups (up (ups A us1) ⟨H b,false,.one .dead⟩) [⟨p,false,.one (.own e r (xs.set i.toNat z))⟩]);rw[A8,Il,← g1];simp only[cond_false];rw[Aa _ _ hpH]
    ·cases h
   ·cases h
  ·cases h
 ·cases h
def Mg {R:Type} {B p:Nat} {e:TypeId} {r:Ty} {xs:List r.den} {i:Int} {K:List Up→Option R} {Z:Option R} {y:R} (h:P8 A B p e r xs i K Z=some y):Z=some y∨∃ us,M9 A B p e r xs i=some us∧K us=some y:=by
 unfold P8 at h;unfold M9;cases h1:((Hh r||Eh r)&&Nat.blt r.sz 999&&!(Nat.beq (p/1000) (B+1))&&(Nat.ble 2000 B&&Nat.blt B 3000))
 ·rw[h1,cond_false]at h;exact .inl h
 rw[h1,cond_true]at h;cases h2:decide (0≤i)
 ·rw[h2]at h;simp at h
 rw[h2,cond_true]at h;cases h3:decide (i<(xs.length:Int))
 ·rw[h3]at h;simp at h
 rw[h3,cond_true]at h;exact .inr ⟨_,rfl,h⟩
def Iea (K:Ah X S a) (hg:S.g=get A) {p n B:Nat} {e:TypeId} {r':Ty} {xs:List r'.den} {k:Nat} (hB:B<3000) (hp0:p≠C B 0) (hp1:p≠C B 1) (hpg:S.g p=(n,.one (.own e r' xs))) (hH:(S.g (H B)).2 = .one .dead) (hkx:k≤xs.length):
  ∃ S',Ah X S' a∧S'.g=get (ups A [⟨C B 0,false,.one (.par e r' (xs.take k) 0)⟩,⟨C B 1,false,.one (.par e r' xs k)⟩,⟨p,false,.one (.two (C B 0) ((get A (C B 0)).1+1) ((get A (C B 1)).1+1))⟩])∧S'.w=S.w:=by
 have hown:Cs X.P S.O S.w (.pl p []) e r' xs (S.ph p):=by have:=K.at_ p;rw[hpg]at this;exact this
 obtain⟨bs,⟨u,cs,b2,ev,hsz,hro,hd2,eb⟩,hnd,hk⟩:=hown;simp only[Wq,and_true]at ev
 have hshape:∃ ad cap,S.ph p = .slice ad xs.length cap∧xs.length≤cap∧cs.length=xs.length*r'.sz∧(xs.length≠0→∃ k o,ad=some ⟨k,o,none⟩∧u.ownBlock=some k∧Ck S.w k o cs):=by
  rw[ev];rcases Da hro with⟨e1,e2,e3⟩|⟨k,cap,cur,e1,hc,g1,g2,g3,g4⟩
  ·exact⟨none,0,by rw[e1,e2],by omega,by rw[e3,e2];simp,λ hne=>absurd e2 hne⟩
  ·exact⟨_,cap,e1,g1,hd2.len (Ty.dep_len r'),λ _=>⟨k,0,rfl,by rw[e1];rfl,Gb hc g4⟩⟩
 obtain⟨ad,cap,e1,hcap,hclen,hne⟩:=hshape;obtain⟨bA,bB,rfl,hA,hB2⟩:=hd2.halves (Ty.dep_len r') k;subst eb;rw[Yc]at hnd;obtain⟨_,hnd2,hnd3⟩:=hnd;rw[Yc]at hnd2;obtain⟨hnA,hnB,hnAB⟩:=hnd2
 have labs:∀ k,(u.ownBlock=some k∨k∈bA∨k∈bB)→S.O k = .pl p []:=λ k hkk=>hk k (by
  rcases hkk with h|h|h
  ·rw[h];simp
  ·simp[h]
  ·simp[h])
 have h01:C B 0≠C B 1:=by unfold C;omega
 have hC3:C B 0<3001000∧C B 1<3001000∧1000≤C B 0∧1000≤C B 1:=by unfold C;omega
 have hHC:∀ b,H b≠C B 0∧H b≠C B 1:=λ b=>by unfold H C;omega
 let O1:Nat→Lab:=λ k=>if u.ownBlock=some k then .fz else if k∈bA then .pl (C B 0) [] else if k∈bB then .pl (C B 1) [] else S.O k
 have same:∀ k,S.O k ≠ .pl p []→O1 k=S.O k:=λ k hkk=>by
  show (if _ then _ else _)=_;rw[if_neg (λ h=>hkk (labs k (.inl h))),if_neg (λ h=>hkk (labs k (.inr (.inl h)))),if_neg (λ h=>hkk (labs k (.inr (.inr h))))]
 have fzs:∀ k,S.O k = .fz→O1 k = .fz:=λ k hkk=>(same k (by rw[hkk];simp)).trans hkk
 have kA:∀ k∈bA,O1 k = .pl (C B 0) []:=λ k hkk=>by
  show (if _ then _ else _)=_;rw[if_neg (λ h=>hnd3 k (by rw[h];simp) k (Vt _ hkk) rfl),if_pos hkk]
 have kB:∀ k∈bB,O1 k = .pl (C B 1) []:=λ k hkk=>by
  show (if _ then _ else _)=_;rw[if_neg (λ h=>hnd3 k (by rw[h];simp) k (Vi _ hkk) rfl),if_neg (λ h=>hnAB k h k hkk rfl),if_pos hkk]
 have kO:∀ k,u.ownBlock=some k→O1 k = .fz:=λ k hkk=>if_pos hkk;have knew:∀ k,S.O k = .no→O1 k = .no:=λ k h=>(same k (by rw[h];simp)).trans h
 let G:Nat→Nat×Sv:=upd (upd (upd S.g (C B 0) ((S.g (C B 0)).1+1,.one (.par e r' (xs.take k) 0))) (C B 1) ((S.g (C B 1)).1+1,.one (.par e r' xs k))) p (n+1,.one (.two (C B 0) ((S.g (C B 0)).1+1) ((S.g (C B 1)).1+1)))
 let PH:Nat→Value:=upd (upd S.ph (C B 0) (.slice ad k cap)) (C B 1) (S.ph p)
 have gp:G p=(n+1,.one (.two (C B 0) ((S.g (C B 0)).1+1) ((S.g (C B 1)).1+1))):=A9 _ _ _
 have g1:G (C B 1)=((S.g (C B 1)).1+1,.one (.par e r' xs k)):=by
  show upd _ p _ (C B 1)=_;rw[Aa _ _ (S5a hp1),A9]
 have g0:G (C B 0)=((S.g (C B 0)).1+1,.one (.par e r' (xs.take k) 0)):=by
  show upd _ p _ (C B 0)=_;rw[Aa _ _ (S5a hp0),Aa _ _ h01,A9]
 have gO:∀ q,q≠p→q≠C B 0→q≠C B 1→G q=S.g q:=λ q h1 h2 h3=>by
  show upd _ p _ q=_;rw[Aa _ _ h1,Aa _ _ h3,Aa _ _ h2]
 have phO:∀ q,q≠C B 0→q≠C B 1→PH q=S.ph q:=λ q h2 h3=>by
  show upd _ (C B 1) _ q=_;rw[Aa _ _ h3,Aa _ _ h2]
 have ph0:PH (C B 0) = .slice ad k cap:=by
  show upd _ (C B 1) _ (C B 0)=_;rw[Aa _ _ h01,A9]
 have ph1:PH (C B 1)=S.ph p:=A9 _ _ _
 have chg:∀ q,(G q).1=(S.g q).1→q≠p∧q≠C B 0∧q≠C B 1:=λ q hq=>
  ⟨λ e=>by rw[e,gp,hpg]at hq;simp at hq,λ e=>by rw[e,g0]at hq;simp at hq,λ e=>by rw[e,g1]at hq;simp at hq⟩
 have L:Ct S ⟨O1,S.bb,G,PH,S.w⟩:=by
  refine⟨λ q=>?_,λ q hq=>?_,λ q v' e' r'' xs' hp' hv'=>?_,λ _ _=>rfl,λ k hkk=>⟨fzs k hkk,rfl⟩,Ct.box_of (λ b m hv' hb=>?_) (λ k b hkk=>⟨(same k (by rw[hkk];simp)).trans hkk,rfl⟩),λ q hv' hdp=>?_,λ q hq=>?_⟩
  ·show _≤(G q).1
   by_cases h1:q=p
   ·rw[h1,gp,hpg];exact Zj _
   by_cases h2:q=C B 0
   ·rw[h2,g0];exact Zj _
   by_cases h3:q=C B 1
   ·rw[h3,g1];exact Zj _
   rw[gO q h1 h2 h3];exact Vq _
  ·obtain⟨_,h2,h3⟩:=chg q hq;exact phO q h2 h3
  ·have hp'':G q=(v',.one (.own e' r'' xs')):=hp'
   have hv'':(G q).1=(S.g q).1:=by rw[hp'',hv']
   obtain⟨h1,h2,h3⟩:=chg q hv'';rw[gO q h1 h2 h3]at hp'';exact⟨xs',hp'',rfl⟩
  ·obtain⟨h1,h2,h3⟩:=chg (H b) hv';show (G (H b)).2=_;rw[gO _ h1 h2 h3];exact hb
  ·obtain⟨h1,h2,h3⟩:=chg q hv';have e9:(⟨O1,S.bb,G,PH,S.w⟩:Sit).g q=S.g q:=gO q h1 h2 h3;rw[e9];exact⟨hdp,λ _ _ _ h=>h,λ k hkk=>⟨.inl ((same k (by rw[hkk];simp[h1])).trans hkk),rfl⟩⟩
  ·exact phO q (by omega) (by omega)
 have hlen:(xs.take k).length=k:=by rw[Vl];omega
 have hd:∀ b m,(G (H b)).2 = .one (.hd m)→b≠B∧(S.g (H b)).2 = .one (.hd m):=λ b m hb=>by
  have hpb:H b≠p:=λ e=>by rw[e,gp]at hb;cases hb
  rw[gO _ hpb (hHC b).1 (hHC b).2]at hb;exact⟨λ e=>(by rw[e,hH]at hb;cases hb),hb⟩
 refine⟨⟨O1,S.bb,G,PH,S.w⟩,⟨K.nt,λ j hj=>?_,λ q=>?_,λ b m hb=>?_,λ b m hb=>K.rgn b m (hd b m hb).2,λ t ht=>?_,K.sz,K.df,K.fr.relab knew fzs (λ k b h=>(same k (by rw[h];simp)).trans h),λ q hq=>?_⟩,?_,rfl⟩
 ·refine K.lt j (λ e9=>hj ?_);exact knew j e9
 ·show Gi X.P _ q (G q).2 (PH q)
  by_cases h1:q=p
  ·subst h1;rw[gp,phO q hp0 hp1];exact⟨by show _≤(G (C B 0)).1;rw[g0];exact Vq _,by show _≤(G (C B 0+1)).1;rw[show C B 0+1=C B 1 by unfold C;omega,g1];exact Vq _,ad,xs.length,cap,e1,hcap,λ _=>⟨k,hkx,ph0⟩,λ _=>by show PH (C B 0+1)=_;rw[show C B 0+1=C B 1 by unfold C;omega];exact ph1⟩
  by_cases h2:q=C B 0
  ·subst h2;rw[g0,ph0];refine⟨hsz,ad,cap,cs.take (k*r'.sz),bA,⟨by rw[hlen],by rw[hlen];omega⟩,?_,?_,hnA,kA,λ hn=>?_⟩
   ·rw[hlen,Vl,hclen];have:=Wa r'.sz hkx;omega
   ·rw[We,Zh,We];exact hA.mono (λ x c b hb hx=>Ty.dep_mono (λ k hk=>fzs k hk) (λ _ _=>rfl) r' x c b (λ _ _=>rfl) hx)
   ·obtain⟨k',o',q1,q2,q3⟩:=hne (by rw[hlen]at hn;omega);refine⟨k',o',q1,kO k' q2,λ j u hj=>q3 j u ?_⟩;rw[Wg]at hj;split at hj
    ·exact hj
    ·cases hj
  by_cases h3:q=C B 1
  ·subst h3;rw[g1,ph1];refine⟨hsz,ad,cap,cs,bB,⟨e1,hcap⟩,hclen,hB2.mono (λ x c b hb hx=>Ty.dep_mono (λ k hk=>fzs k hk) (λ _ _=>rfl) r' x c b (λ _ _=>rfl) hx),hnB,kB,λ hn=>?_⟩;obtain⟨k',o',q1,q2,q3⟩:=hne hn;exact⟨k',o',q1,kO k' q2,q3⟩
  rw[gO q h1 h2 h3,phO q h2 h3];exact(K.at_ q).later L (λ w j hj=>⟨(same j (by rw[hj];simp[h1])).trans hj,rfl⟩)
 ·obtain⟨hbB,hb'⟩:=hd b m hb;obtain⟨y1,c1,e2,y2,y3,y4,y5⟩:=K.box b m hb';refine⟨y1,c1,e2,y2,(same _ (by rw[y3];simp)).trans y3,y4,λ j hj=>?_⟩;show _=some (PH (C b j))
  have hcc:C b j≠C B 0∧C b j≠C B 1:=by unfold C;omega
  rw[phO _ hcc.1 hcc.2];exact y5 j hj
 ·show _=PH t;have:t<1000:=Wm ht K.nt;rw[phO t (by omega) (by omega)];exact K.sl t ht
 ·show PH q=_;rw[phO q (by omega) (by omega)];exact K.io q hq
 ·show G=_;rw[show ∀ u1 u2 u3,ups A [u1,u2,u3]=ups (ups (ups A [u1]) [u2]) [u3] from λ _ _ _=>rfl,A8,A8,A8,← hg];show upd _ p _=upd _ p _;rw[Aa _ _ hp1,Aa _ _ hp0,Aa _ _ (S5a h01),hpg]
def Ifa {R:Type} {K':Ab→Option R} {y:R} (hE:Gx X E) (g:Gh) (K:Ah X S a) (hg:S.g=get A) (h:P9 E A K' g=some y):∃ A' S',K' A'=some y∧Ah X S' a∧S'.g=get A'∧S'.w=S.w:=by
 have keep:K' A=some y→∃ A' S',K' A'=some y∧Ah X S' a∧S'.g=get A'∧S'.w=S.w:=λ h=>⟨A,S,h,K,hg,rfl⟩
 cases g with
 |cl p=>
  simp only[P9]at h;split at h
  ·rename_i us hus;obtain⟨S1,K1,g1,w1⟩:=Ida K hg hus;exact⟨_,S1,h,K1,g1,w1⟩
  ·exact keep h
 |op p t B=>
  simp only[P9]at h;cases hb:Nat.blt t E.nt
  ·rw[hb,cond_false]at h;exact keep h
  rw[hb,cond_true]at h;split at h
  ·rename_i e r xs k i hp ht;rcases Mg h with h|⟨us,hus,h⟩
   ·exact keep h
   ·have:Hva A p t B=some us:=by unfold Hva;rw[hp,ht];exact hus
    obtain⟨S1,K1,g1,w1⟩:=Ica K hg this;exact⟨_,S1,h,K1,g1,w1⟩
  ·exact keep h
 |sp p t B=>
  simp only[P9]at h;cases hb:(Nat.blt t E.nt&&(Nat.ble 2000 B&&Nat.blt B 3000)&&!(Nat.beq p (C B 0))&&!(Nat.beq p (C B 1)))
  ·rw[hb,cond_false]at h;exact keep h
  rw[hb,cond_true]at h;simp only[Va,Wi]at hb;obtain⟨⟨⟨_,_,b3⟩,b4⟩,b5⟩:=hb;split at h
  ·rename_i n e r xs k i hp ht hH;cases hao:Eh r
   ·rw[hao,cond_false]at h;exact keep h
   rw[hao,cond_true]at h;rw[csi]at h;obtain⟨hq,h⟩:=h;simp only[Va,decide_eq_true_eq]at hq;obtain⟨S1,K1,g1,w1⟩:=Iea K hg (p:=p) (n:=n) (B:=B) (e:=e) (r':=r) (xs:=xs) (k:=i.toNat) (Ve b3) (λ e=>by rw[e,Rwa]at b4;cases b4) (λ e=>by rw[e,Rwa]at b5;cases b5) (by rw[hg,hp]) (by rw[hg,hH]) (by omega);exact⟨_,S1,h,K1,g1,w1⟩
  ·exact keep h
 |oc p i B=>
  simp only[P9]at h;split at h
  ·rename_i e r xs hp;rcases Mg h with h|⟨us,hus,h⟩
   ·exact keep h
   ·obtain⟨S1,_,_,K1,g1,w1,_⟩:=Mf K hg (p:=p) (v:=(S.g p).1) (by rw[← hg]at hp;rw[← hp]) hus;exact⟨_,S1,h,K1,g1,w1⟩
  ·exact keep h
 |od d B=>
  simp only[P9]at h;cases hb:Nat.blt d E.nt
  ·rw[hb,cond_false]at h;exact keep h
  have hd:d<X.nt:=hE.nt ▸ (Ve hb:d+1≤E.nt);rw[hb,cond_true]at h;split at h
  ·rename_i p v i off hp;split at h
   ·rename_i n e r xs hpp;cases hq:(Nat.beq n v&&Hh r&&!(Nat.beq p d))
    ·rw[hq,cond_false]at h;exact keep h
    rw[hq,cond_true]at h;rcases Mg h with h|⟨us,hus,h⟩
    ·exact keep h
    ·have:C9a A d B=some (us++[⟨d,false,.one (.bp B ((get A (H B)).1+1) off)⟩]):=by unfold C9a;simp only[hp,hpp,hq,cond_true,hus]
     obtain⟨S1,K1,g1,w1⟩:=Ala K hg hd this;exact⟨_,S1,h,K1,g1,w1⟩
   ·exact keep h
  ·rename_i p v e0 r0 xs0 i off hp;split at h
   ·rename_i n e r xs hpp;cases hq:(Nat.beq n v&&!(Hh r)&&!(Nat.beq p d))
    ·rw[hq,cond_false]at h;exact keep h
    rw[hq,cond_true]at h;rcases Mg h with h|⟨us,hus,h⟩
    ·exact keep h
    ·have:C9a A d B=some (us++[⟨d,false,.one (.bp B ((get A (H B)).1+1) off)⟩]):=by unfold C9a;simp only[hp,hpp,hq,cond_true,hus]
     obtain⟨S1,K1,g1,w1⟩:=Ala K hg hd this;exact⟨_,S1,h,K1,g1,w1⟩
   ·exact keep h
  ·exact keep h
def J4 {R:Type} {K':Ab→Option R} {y:R} (hE:Gx X E):∀ (l:List Gh) {S:Sit} {A:Ab},Ah X S a→S.g=get A→Jd E l A K'=some y→∃ A' S',K' A'=some y∧Ah X S' a∧S'.g=get A'∧S'.w=S.w
 |[],S,A,K,hg,h=>⟨A,S,h,K,hg,rfl⟩
 |g::l,S,A,K,hg,h=>by
  obtain⟨A1,S1,h1,K1,g1,w1⟩:=Ifa hE g K hg h;obtain⟨A2,S2,h2,K2,g2,w2⟩:=J4 hE l K1 g1 h1;exact⟨A2,S2,h2,K2,g2,w2.trans w1⟩
end
end

section
attribute [local irreducible] C H
section
variable {X:Cx} {S S':Sit} {a:Act} {E:En} {A:Ab} {o:Oper} {R:Type} {Kc:List Up→Option R} {r:R}
def Ue (hE:Gx X E) (K:Ah X S a) (hg:S.g=get A) {T:TypeId} {x i:Operand} {d:Nat} (ho:o.op = .indexAddr T x i) (hod:o.dst=some d) (hd:d<X.nt) (hopn:E.opn d=true) (h:Ai E o A Kc=some r):Fw X o a S.w A Kc r:=by
 unfold Ai at h;rw[ho,hod]at h;simp only[hopn,cond_true]at h;split at h
 ·rename_i p v k n hs hn;have ei:=(Io hE K hg hn).1;obtain⟨l,hl⟩:=Fc hE K hg hs;have hl':Af X.P S (.pl l []) (.al p v) (a.eval x):=hl;split at h
  ·rename_i m e r' xs hp;rw[csi]at h;obtain⟨hq,h⟩:=h;simp only[Va,Wi]at hq;obtain⟨⟨q1,q2⟩,q3⟩:=hq;have hmv:m=v:=Vb q1;subst hmv
   have hpd:p≠d:=λ e=>by rw[e,Rwa]at q3;cases q3
   rcases Mg h with h|⟨us,hus,h⟩
   ·cases h
   ·have hp':S.g p=(m,.one (.own e r' xs)):=by rw[hg,hp]
    have he:a.eval x=S.ph p:=hl'.2 (by rw[hp'])
    have hown:Cs X.P S.O S.w (.pl p []) e r' xs (S.ph p):=by have:=K.at_ p;rw[hp']at this;exact this
    have hb:0≤n∧n<(xs.length:Int):=by
     unfold M9 at hus;generalize ((Hh r'||Eh r')&&Nat.blt r'.sz 999&&!(Nat.beq (p/1000) (2000+d+1))&&(Nat.ble 2000 (2000+d)&&Nat.blt (2000+d) 3000))=bb at hus;cases bb
     ·simp at hus
     rw[cond_true]at hus
     by_cases h0:0≤n
     ·by_cases h1:n<(xs.length:Int)
      ·exact⟨h0,h1⟩
      ·simp[h0,h1]at hus
     ·simp[h0]at hus
    obtain⟨S',k',cap,K',g',w',ph',bb',pq,gH,gq⟩:=Mf K hg hp' hus;have hr:=H3 (w:=S.w) (Gd q2 hE.ti) hown.top.1 ho (he.trans ph') ei hb.1 hb.2;rw[Wb,← w']at hr
    have hsv:Gi X.P S' 0 (.one (.bp (2000+d) ((S.g (H (2000+d))).1+1) 0)) (.pointer (some ⟨k',n.toNat*r'.sz,none⟩)):=by
     refine⟨by rw[gH];exact Vq _,λ _=>?_⟩;rw[bb'];rfl
    have K2:=K'.put0 hd _ _ 0 rfl hsv;refine⟨_,h,?_⟩;rw[← w'];refine Ac (S:=Hq S' (λ _ _=>none) d _ _) hr (by rw[hod];exact K2) ?_;show upd S'.g d _=_;rw[Ae,A8,← g',← hg]
  ·cases h
 ·cases h
end
end

end Go.Proofs.YtbbifgjgneefkaaGreat.Vf
