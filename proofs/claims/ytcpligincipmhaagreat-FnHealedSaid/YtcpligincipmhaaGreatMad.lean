import Derived.Test.YtcpligincipmhaaGreatMac
import Derived.Laws.Slices
import Derived.Laws.BytesArg
import Derived.Laws.CopyRow
set_option linter.all false
namespace Go.Proofs.YtcpligincipmhaaGreat.Vf
open Go
open List (length getD)
open Int (toNat)
open Go.IntKind (wrap)
open BitVec (ofInt)
def Vd:=@List.mem_cons_of_mem
def Vk:=@List.mem_cons
def Vq:=@List.length_take
def Vs:=@List.length_nil
def We:=@List.length_drop
def Wi:=@List.take_append_drop
def Wk:=@Nat.mul_le_mul_right
def Wm:=@Option.getD_some
def Yd:=@List.getElem?_append_right
def Yj:=@List.getElem?_append_left
def Yk:=@List.getElem?_eq_some_iff
def Yx:=@List.getElem?_eq_none
def Ze:=@Array.length_toList
def Zj:=@List.drop_eq_getElem_cons
def Zl:=@Option.isSome_iff_exists
def Zp:=@List.mem_of_mem_drop
def Zv:=@Nat.add_zero
def Csb:=@List.mem_of_mem_take
def D0b:=@Nat.min_eq_left
def D1b:=@List.map_congr_left
def D5b:=@Option.getD_none
def Ddb:=@List.size_toArray
def Dmb:=@List.take_take
def Dob:=@Nat.lt_or_ge
def Dpb:=@Option.map_some
def Dqb:=@List.map_map
def E7b:=@Nat.sub_zero
def E8b:=@Nat.le_of_eq
def Edb:=@List.drop_eq_nil_of_le
def Eeb:=@List.length_eq_one_iff
def Ehb:=@List.getElem?_toArray
def Ewb:=@List.take_succ_cons
def Fpb:=@Int.toNat_zero

def Ke (k o n:Nat):Addr.add ⟨k,o,none⟩ n=⟨k,o+n,none⟩:=Addr.add_lit k o n
section
variable {P:Program} {w:World}
def Iv {t:TypeId} {n:Nat} (h:(P.info? t).map (λ i=>i.size)=some n):(sizeOf t).run P w = .ok n w:=by
 cases hi:P.info? t with
 |none=>simp[hi]at h
 |some i=>
  simp[hi]at h;simp[sizeOf,typeInfo,hi,h]
def Tu {T:TypeId} {t:TI} (h:TOk P T t) (ha:t.ag=true):∃ fs,P.underlying T=some (.struct fs)∧K5 P fs.toList t.fo=true:=by
 have:=h.desc;unfold Rc at this
 split at this<;>first|(simp_all;done)|skip
def Of:∀ {fs:List Field} {os:List (Nat×Nat×Bool)} {j:Nat} {o:Nat×Nat×Bool},K5 P fs os=true→nth os j=some o→
  ∃ f,fs[j]? = some f∧f.offset=o.1∧(P.info? f.type).map (λ i=>i.size)=some o.2.1∧0<o.2.1∧Bwa (P.underlying f.type)=o.2.2∧∃ d,P.underlying f.type=some d
 |[],[],j,o,_,h=>by simp[nth]at h
 |[],_::_,_,_,h,_=>by simp[K5]at h
 |_::_,[],_,_,h,_=>by simp[K5]at h
 |f::fs,o'::os,j,o,h,hn=>by
  simp only[K5,Va]at h;obtain⟨⟨⟨⟨⟨h1,h2⟩,h3⟩,h4⟩,h6⟩,h5⟩:=h
  cases j with
  |zero=>
   simp[nth]at hn;subst hn;refine⟨f,rfl,by simpa using h1,by simpa using h2,?_,by simpa using h4,Zl.mp h6⟩;have:Nat.ble 1 o'.2.1=true:=h3;exact Vl this
  |succ j=>exact Of (fs:=fs) h5 (by simpa[nth] using hn)
def Mj {t:TypeId} {b:Bool} {d:TypeDesc} (hd:P.underlying t=some d) (h:Bwa (P.underlying t)=b):(isAgg t).run P w = .ok b w:=by
 rw[hd]at h;unfold isAgg;rw[Wd,run_underlying hd]
 cases d<;>simp_all [Bwa]
end
section
variable {X:Cx} {S:Sit} {a:Act} {E:En} {A:Ab} {o:Oper} {R:Type} {Kc:List Up→Option R} {r:R}
def Eya (hE:Iu X E) (K:Bd X S a) (hg:S.g=get A) {x:Operand} {d:Nat} (ho:o.op = .nilCheck x) (hod:o.dst=some d) (hd:d<X.nt) (h:B6 E o A Kc=some r):Hh X o a S.w A Kc r:=by
 unfold B6 at h;rw[ho,hod]at h;simp only at h;split at h
 ·rename_i y hs;obtain⟨l,hl⟩:=Hd hE K hg hs
  have key:(∃ ad,a.eval x = .pointer (some ad))→Lr (.one y)=false→Kc [⟨d,false,.one y⟩]=some r→Hh X o a S.w A Kc r:=by
   intro ⟨ad,he⟩ ho' hk;have K2:=K.put0 hd (.one y) (a.eval x) l ho' hl;refine⟨_,hk,Av (S:=Jz S (λ _ _=>none) d (.one y) (a.eval x)) ?_ (by rw[hod];exact K2) ?_⟩
   ·show _=Result.ok _ S.w;unfold execOp;simp[ho,he]
   ·show upd S.g d _=_;rw[Au,← hg]
  rw[csi]at h;obtain⟨hlv,h⟩:=h;unfold W8 at hlv;split at hlv
  ·rename_i b v n;exact key ⟨_,hl.2 (by rw[hg];simpa using hlv)⟩ rfl h
  ·rename_i p v i n;split at hlv
   ·rename_i m e r' xs hp
    have:m=v:=by simpa using hlv
    subst this;obtain⟨_,_,k,cap,_,e2⟩:=hl.2 e r' xs (by rw[hg,hp]);exact key ⟨_,e2⟩ rfl h
   ·cases hlv
  ·obtain⟨k,o',cs,e,_⟩:=hl;exact key ⟨_,e⟩ rfl h
  ·obtain⟨hd',h1,h2⟩:=hl;obtain⟨_,_,k,o',cap,_,e⟩:=h2 (by rw[hg];simpa using hlv);exact key ⟨_,e⟩ rfl h
  ·cases hlv
 ·cases h
def Z6 {P:Program} {w:World} {T:TypeId} {x:Operand} {j:Nat} {t:TI} {f:Nat×Nat×Bool} (ht:TOk P T t) (ha:t.ag=true) (hf:nth t.fo j=some f) (ho:o.op = .fieldAddr T x j) {k off:Nat} (he:a.eval x = .pointer (some ⟨k,off,none⟩)):
  (execOp a.eval o).run P w = .ok (.value (.pointer (some ⟨k,off+f.1,none⟩))) w:=by
 obtain⟨fs,hu,hfs⟩:=Tu ht ha;obtain⟨fd,h1,h2,h3,h4,h5,_⟩:=Of hfs hf
 have h1':fs[j]? = some fd:=by simpa using h1
 unfold execOp;simp only[ho,he,Wd];unfold Instr.fieldAt;rw[Wd,run_underlying hu];simp only[Wc,h1',Instr.sureAddr,Wd,Yb,fieldPlace,Iv h3];rw[if_neg (by omega)];simp only[Yb,Wc,Ke,h2]
def C4a (hE:Iu X E) (K:Bd X S a) (hg:S.g=get A) {T:TypeId} {x:Operand} {j d:Nat} (ho:o.op = .fieldAddr T x j) (hod:o.dst=some d) (hd:d<X.nt) (h:B6 E o A Kc=some r):Hh X o a S.w A Kc r:=by
 unfold B6 at h;rw[ho,hod]at h;simp only at h;split at h
 ·rename_i ti y hti hs;obtain⟨l,hl⟩:=Hd hE K hg hs;split at h
  ·rename_i f hf;rw[csi]at h;obtain⟨hq,h⟩:=h;simp only[Va]at hq;obtain⟨ha,hlv⟩:=hq
   have key:∀ (k off:Nat),a.eval x = .pointer (some ⟨k,off,none⟩)→Lr (.one (L8a y f.1))=false→Ib X.P S l (.one (L8a y f.1)) (.pointer (some ⟨k,off+f.1,none⟩))→Hh X o a S.w A Kc r:=by
    intro k off he ho' hsv;have K2:=K.put0 hd _ _ l ho' hsv;refine⟨_,h,Av (S:=Jz S (λ _ _=>none) d _ _) ?_ (by rw[hod];exact K2) ?_⟩
    ·exact Z6 (hE.ti _ _ hti) ha hf ho he
    ·show upd S.g d _=_;rw[Au,← hg]
   unfold W8 at hlv;split at hlv
   ·rename_i b v n;refine key _ _ (hl.2 (by rw[hg];simpa using hlv)) rfl ⟨hl.1,λ hv=>?_⟩;rw[Zk]
   ·rename_i p v i n;split at hlv
    ·rename_i m e r' xs hp
     have:m=v:=by simpa using hlv
     subst this;obtain⟨_,_,k,cap,_,e2⟩:=hl.2 e r' xs (by rw[hg,hp]);refine key _ _ e2 rfl ⟨hl.1,λ e1 r1 xs1 hv=>?_⟩;obtain⟨g1,g2,k',cap',g3,g4⟩:=hl.2 e1 r1 xs1 hv;rw[e2]at g4;simp only[Value.pointer.injEq,Vc,Addr.mk.injEq,and_true]at g4;obtain⟨rfl,g5⟩:=g4;refine⟨g1,g2,_,cap',g3,?_⟩;congr 3;omega
    ·cases hlv
   ·obtain⟨k,o',cs,e,h1,h2,h3⟩:=hl;refine key _ _ e rfl ⟨k,o',cs,?_,h1,h2,h3⟩;rw[Zk]
   ·obtain⟨hd',h1,h2⟩:=hl;obtain⟨g1,g2,k,o',cap,g3,e⟩:=h2 (by rw[hg];simpa using hlv);refine key _ _ e rfl ⟨hd',h1,λ _=>⟨g1,g2,k,o',cap,g3,?_⟩⟩;congr 3;omega
   ·cases hlv
  ·cases h
 ·cases h
def Lqa {α:Type} {R':α→List Value→Prop} {n:Nat} (hn:∀ x c,R' x c→c.length=n) {xs:List α} {cs:List Value} (h:Rows R' xs cs) {k o i:Nat} {x:α} (hx:xs[i]? = some x) (hc:Ep S.w k o cs):
  ∃ c,R' x c∧Ep S.w k (o+i*n) c:=by
 refine⟨_,h.get hn i x hx,λ j u hu=>?_⟩;rw[Wp]at hu;split at hu
 ·rw[Yv]at hu;rw[Zk];exact hc _ _ hu
 ·cases hu
def Ij {P:Program} {w:World} {T e:TypeId} {x i:Operand} {k:IntKind} {n:Int} {b off len cap sz:Nat} (hu:P.underlying T=some (.slice e)) (hs:W5 P e sz) (ho:o.op = .indexAddr T x i)
  (he:a.eval x = .slice (some ⟨b,off,none⟩) len cap) (hi:a.eval i = .int k n) (h0:0≤n) (h1:n<(len:Int)):
  (execOp a.eval o).run P w = .ok (.value (.pointer (some ⟨b,off+n.toNat*sz,none⟩))) w:=by
 unfold execOp;simp only[ho,he,hi,Wd];unfold Instr.indexAt;simp[asIntOf,run_underlying hu,h0,h1,Iv hs,Ke]
def Gxa {y:Lf} {e:TypeId} {r':Ty} {xs:List r'.den} (h:Jb A y = .own e r' xs) (hn:∀ p v,y = .al p v→False):y = .own e r' xs:=by
 cases y<;>first|exact h|skip
 exact(hn _ _ rfl).elim
def Lra {P:Program} {S:Sit} {p v:Nat} {e:TypeId} {r:Ty} {xs:List r.den} (hp:S.g p=(v,.one (.own e r xs))) (hno:J6 r=false) (hao:Gx r=true) (h:Ff P S.O S.w (.pl p []) e r xs (S.ph p)):L2a P S p v (some []) e r xs (S.ph p):=by
 obtain⟨bs,⟨v',cs,b2,ev,hs,ho,hd,eb⟩,hn,hk⟩:=h;simp only[Yh,and_true]at ev;subst ev;refine⟨hao,by rw[hp];exact Vw _,λ _=>⟨by rw[hp];simp[Eta,Qta,hno],⟨hs,?_⟩,λ q hq E R XS hg=>?_⟩⟩
 ·rcases Fl ho with⟨e1,e2,rfl⟩|⟨k,cap,cur,e1,hc,h1,_,_,ht⟩
  ·refine⟨none,0,[],b2,by rw[e1,e2],by omega,hd,λ k hk' => .inl (hk k (by rw[eb];exact Vn _ hk')),λ hn=>absurd (Wl e2) hn⟩
  ·refine⟨_,cap,cs,b2,e1,h1,hd,λ k hk' => .inl (hk k (by rw[eb];exact Vn _ hk')),λ _=>⟨k,0,rfl,.inl (hk k (by rw[eb,e1];simp[Value.ownBlock])),Ia hc ht⟩⟩
 ·cases hq;rw[hp]at hg;cases hg;exact⟨rfl,rfl⟩
def C5a (hE:Iu X E) (K:Bd X S a) (hg:S.g=get A) {T:TypeId} {x i:Operand} {d:Nat} (ho:o.op = .indexAddr T x i) (hod:o.dst=some d) (hd:d<X.nt) (hopn:E.opn d=false) (h:B6 E o A Kc=some r):Hh X o a S.w A Kc r:=by
 unfold B6 at h;rw[ho,hod]at h;simp only[hopn,cond_false]at h;split at h
 ·rename_i y k n hs hn;have ei:=(L9 hE K hg hn).1;obtain⟨l,hl⟩:=Hd hE K hg hs
  have keyO:∀ (p v e:Nat) (r':Ty) (xs:List r'.den),S.g p=(v,.one (.own e r' xs))→a.eval x=S.ph p→
    (bif Q0 E T e&&decide (0≤n) then (bif decide (n<(xs.length:Int)) then (bif J6 r' then Kc [⟨d,false,.one (.ep p v n 0)⟩] else bif Gx r' then Kc [⟨d,false,.one (.dp p v (some []) e r' xs n 0)⟩] else none) else none) else none)=some r→Hh X o a S.w A Kc r:=by
   intro p v e r' xs hp he hk;cases hq:(Q0 E T e&&decide (0≤n))
   ·rw[hq]at hk;simp at hk
   rw[hq,cond_true]at hk;simp only[Va,decide_eq_true_eq]at hq
   by_cases hlt:n<(xs.length:Int)
   ·simp only[hlt,decide_true,cond_true]at hk
    have hown:Ff X.P S.O S.w (.pl p []) e r' xs (S.ph p):=by have:=K.at_ p;rw[hp]at this;exact this
    cases hno:J6 r' with
    |false=>
     rw[hno,cond_false]at hk;cases hao:Gx r'
     ·rw[hao]at hk;simp at hk
     rw[hao,cond_true]at hk;have hda:=Lra (xs:=xs) (P:=X.P) (S:=S) hp hno hao hown
     obtain⟨k',cap,e1⟩:∃ k' cap,S.ph p = .slice (some ⟨k',0,none⟩) xs.length cap:=by
      obtain⟨_,cs,hrow,_⟩:=hown.top;rcases Fl hrow with⟨_,hm,_⟩|⟨k',cap,cur,e1,_⟩
      ·omega
      ·exact⟨k',cap,e1⟩
     have hr:=Ij (w:=S.w) (Ic hq.1 hE.ti) hown.top.1 ho (he.trans e1) ei hq.2 hlt
     have hsv:Ib X.P S 0 (.one (.dp p v (some []) e r' xs n 0)) (.pointer (some ⟨k',0+n.toNat*r'.sz,none⟩)):=
      ⟨S.ph p,hda,λ _=>⟨hq.2,by omega,k',0,cap,e1,by rw[Zv]⟩⟩
     have K2:=K.put0 hd _ _ 0 rfl hsv;refine⟨_,hk,Av (S:=Jz S (λ _ _=>none) d _ _) hr (by rw[hod];exact K2) ?_⟩;show upd S.g d _=_;rw[Au,← hg]
    |true=>
    rw[hno,cond_true]at hk;obtain⟨hsz,cs,hrow,_⟩:=hown.top;rcases Fl hrow with⟨_,hm,_⟩|⟨k',cap,cur,e1,_⟩
    ·omega
    ·have hr:=Ij (w:=S.w) (Ic hq.1 hE.ti) hsz ho (he.trans e1) ei hq.2 hlt;rw[Wh]at hr
     have hsv:Ib X.P S 0 (.one (.ep p v n 0)) (.pointer (some ⟨k',n.toNat*r'.sz,none⟩)):=by
      refine⟨by rw[hp];exact Vw _,λ e2 r2 xs2 hp2=>?_⟩;rw[hp]at hp2;cases hp2;exact⟨hq.2,by omega,k',cap,e1,by rw[Zv]⟩
     have K2:=K.put0 hd _ _ 0 rfl hsv;refine⟨_,hk,Av (S:=Jz S (λ _ _=>none) d _ _) hr (by rw[hod];exact K2) ?_⟩;show upd S.g d _=_;rw[Au,← hg]
   ·simp[hlt]at hk
  have keyF:∀ (e:Nat) (r':Ty) (xs:List r'.den) (lab:Lab),Bm X.P S lab (.fz e r' xs) (a.eval x)→
    (bif Q0 E T e&&decide (0≤n) then (bif decide (n<(xs.length:Int)) then Kc [⟨d,false,.one (.fp r' (xs.getD n.toNat r'.dflt) 0)⟩] else none) else none)=some r→Hh X o a S.w A Kc r:=by
   intro e r' xs lab hf hk;cases hq:(Q0 E T e&&decide (0≤n))
   ·rw[hq]at hk;simp at hk
   rw[hq,cond_true]at hk;simp only[Va,decide_eq_true_eq]at hq
   by_cases hlt:n<(xs.length:Int)
   ·simp only[hlt,decide_true,cond_true]at hk;obtain⟨v,e1,hsz,ad,cap,cs,e2,hc,hrows,hne⟩:=hf;cases e1
    have hnn:xs≠[]:=by intro e3;subst e3;simp at hlt;omega
    obtain⟨k',o',rfl,hk',hcs⟩:=hne hnn;have hr:=Ij (w:=S.w) (Ic hq.1 hE.ti) hsz ho e2 ei hq.2 hlt
    have hi':n.toNat<xs.length:=by omega
    obtain⟨c,hc1,hc2⟩:=Lqa (S:=S) (Ty.rep_len r') hrows (i:=n.toNat) (x:=xs.getD n.toNat r'.dflt) (by rw[Vb,Vg hi'];rfl) hcs;have hsv:Ib X.P S 0 (.one (.fp r' (xs.getD n.toNat r'.dflt) 0)) (.pointer (some ⟨k',o'+n.toNat*r'.sz,none⟩)):=⟨k',_,c,rfl,hk',hc1,hc2⟩;have K2:=K.put0 hd _ _ 0 rfl hsv;refine⟨_,hk,Av (S:=Jz S (λ _ _=>none) d _ _) hr (by rw[hod];exact K2) ?_⟩;show upd S.g d _=_;rw[Au,← hg]
   ·simp[hlt]at hk
  have hl':Bm X.P S (.pl l []) y (a.eval x):=hl;split at h
  rotate_left 2
  ·-- an opened place
   rename_i p v _;split at h
   ·rename_i m e r0 xs0 i0 b vb hp;cases hq:(Nat.beq m v&&Q0 E T e)
    ·rw[hq]at h;simp at h
    rw[hq,cond_true]at h;simp only[Va]at hq
    by_cases hni:n=i0
    ·subst hni;simp only[decide_true,cond_true]at h;have hmv:m=v:=Ve hq.1;subst hmv;have he:a.eval x=S.ph p:=hl'.2 (by rw[hg,hp])
     have hat:Bm X.P S (.pl p []) (.opn e r0 xs0 n b vb) (S.ph p):=by have:=K.at_ p;rw[hg,hp]at this;exact this
     obtain⟨h1,⟨hsz,h2,h3,k,cap,h4⟩,h5⟩:=hat;have hr:=Ij (w:=S.w) (Ic hq.2 hE.ti) hsz ho (he.trans h4) ei h2 (by omega);rw[Wh]at hr
     have hsv:Ib X.P S 0 (.one (.bp b vb 0)) (.pointer (some ⟨k,n.toNat*r0.sz,none⟩)):=by
      refine⟨h1,λ hv=>?_⟩;obtain⟨k',cap',cur,b1,b2,e1,_,_,_,_,e2,_⟩:=h5 hv;rw[h4]at e1;cases e1;rw[e2];rfl
     have K2:=K.put0 hd _ _ 0 rfl hsv;refine⟨_,h,Av (S:=Jz S (λ _ _=>none) d _ _) hr (by rw[hod];exact K2) ?_⟩;show upd S.g d _=_;rw[Au,← hg]
    ·simp[hni]at h
   ·cases h
  rotate_right 1
  ·rename_i p v pi e r' xs;cases hq:(Q0 E T e&&Nat.beq (get A p).1 v&&decide (0≤n))
   ·rw[hq]at h;simp at h
   rw[hq,cond_true]at h;simp only[Va,decide_eq_true_eq]at hq
   by_cases hlt:n<(xs.length:Int)
   ·simp only[hlt,decide_true,cond_true]at h;have hda:L2a X.P S p v pi e r' xs (a.eval x):=hl';obtain⟨_,⟨hsz,ad,cap,cs,bs,e1,_,_,_,hne⟩,_⟩:=hda.2.2 (by rw[hg];exact Ve hq.1.2);obtain⟨k',o',rfl,_⟩:=hne (by intro e0;subst e0;simp at hlt;omega);have hr:=Ij (w:=S.w) (Ic hq.1.1 hE.ti) hsz ho e1 ei hq.2 hlt
    have hsv:Ib X.P S 0 (.one (.dp p v pi e r' xs n 0)) (.pointer (some ⟨k',o'+n.toNat*r'.sz,none⟩)):=
     ⟨a.eval x,hda,λ _=>⟨hq.2,by omega,k',o',cap,e1,by rw[Zv]⟩⟩
    have K2:=K.put0 hd _ _ 0 rfl hsv;refine⟨_,h,Av (S:=Jz S (λ _ _=>none) d _ _) hr (by rw[hod];exact K2) ?_⟩;show upd S.g d _=_;rw[Au,← hg]
   ·simp[hlt]at h
  rotate_right 1
  ·rename_i p v e r' xs hsn;simp only[Jb]at hsn;split at hsn
   ·rename_i n' e' r'' xs' hp;cases hb:Nat.beq n' v
    ·rw[hb]at hsn;simp at hsn
    rw[hb,cond_true]at hsn;cases hsn
    have:n'=v:=by simpa using hb
    subst this;exact keyO p n' e r' xs (by rw[hg,hp]) (hl'.2 (by rw[hg,hp])) h
   ·rename_i n' e' r'' xs' hp
    cases hb:Nat.beq n' v<;>rw[hb]at hsn<;>simp at hsn
   ·cases hsn
  ·rename_i e r' xs _ hsn;obtain⟨lab',hl2⟩:=Pi K hg hl';rw[hsn]at hl2;exact keyF e r' xs lab' hl2 h
  ·rename_i e r' xs hne _ hsn;split at h
   ·rename_i t;rcases L8 hE K hg hs with⟨t',ht',htl,hst,het,_⟩|⟨hnt,_⟩
    ·cases ht';have hy:=Gxa hsn hne;rw[hy]at hst;exact keyO t (get A t).1 e r' xs (by rw[← hg,hst]) het h
    ·exact absurd rfl (hnt t)
   ·cases h
  ·cases h
 ·cases h
end

section
variable {X:Cx} {S:Sit} {a:Act} {E:En} {A:Ab} {o:Oper} {R:Type} {Kc:List Up→Option R} {r:R}
def Ac.impAt {P:Program} {S S':Sit} {f f':Nat→Lab}:∀ {j:Nat} {xs:List Lf} {us:List Value},(∀ n,j≤n→n<j+xs.length→∀ x u,Bm P S (f n) x u→Bm P S' (f' n) x u)→Ac P S f j xs us→Ac P S' f' j xs us
 |_,[],[],_,_=>trivial
 |j,_::xs,_::_,hi,h=>⟨hi j (Vw _) (by simp) _ _ h.1,h.2.impAt (λ n h1 h2=>hi n (by omega) (by simp only[Vh];omega))⟩
 |_,[],_::_,_,h=>h.elim
 |_,_::_,[],_,h=>h.elim
def Ac.setAll {P:Program} {S:Sit} {f:Nat→Lab} {l m:List Lf} {us ms:List Value} {off:Nat} (h1:Ac P S f 0 (l.take off) (us.take off)) (h2:Ac P S f off m ms) (h3:Ac P S f (off+m.length) (l.drop (off+m.length)) (us.drop (off+m.length)))
  (hl:off+m.length≤l.length):Ac P S f 0 (setAll l off m) (us.take off++ms++us.drop (off+m.length)):=by
 unfold Vf.setAll
 have e1:(l.take off).length=off:=by rw[Vq];omega
 refine Ac.app (Ac.app h1 ?_) ?_
 ·rw[e1,Wh];exact h2
 ·rw[Vi,e1,Wh];exact h3
def Lsa {P:Program} {w:World} {T:TypeId} {x:Operand} {j:Nat} {t:TI} {off z:Nat} {ag:Bool} (ht:TOk P T t) (ha:t.ag=true) (hf:nth t.fo j=some (off,z,ag)) (ho:o.op = .field T x j) {us:List Value} (he:a.eval x = .agg us.toArray) (hl:off+z≤us.length):
  ∃ u ws,(if ag then u = .agg ws.toArray else (z=1→ws=[u]))∧ws=(us.drop off).take z∧(execOp a.eval o).run P w = .ok (.value u) w:=by
 obtain⟨fs,hu,hfs⟩:=Tu ht ha;obtain⟨fd,h1,h2,h3,h4,h5,d,h6⟩:=Of hfs hf
 have h1':fs[j]? = some fd:=by simpa using h1
 cases ag with
 |true=>
  refine⟨_,_,rfl,rfl,?_⟩;unfold execOp;simp only[ho,he,Wd];unfold Instr.field;rw[Wd,run_underlying hu];simp only[Wc,h1',asAgg,Wd,Yb,part,Mj h6 h5,Iv h3,if_true];simp[h2,List.extract_eq_take_drop]
 |false=>
  have hlt:off<us.length:=by simp only at h4;omega
  refine⟨us[off],_,?_,rfl,?_⟩
  ·simp only[Wq,if_false];intro hz;subst hz;show List.take 1 _=_;rw[Zj hlt,Ewb,Cxb]
  ·unfold execOp;simp only[ho,he,Wd];unfold Instr.field;rw[Wd,run_underlying hu];simp only[Wc,h1',asAgg,Wd,Yb,part,Mj h6 h5,Wq,if_false];simp[h2,hlt]
def R0a (hE:Iu X E) (K:Bd X S a) (hg:S.g=get A) {T:TypeId} {t j d:Nat} (ho:o.op = .field T (.tmp t) j) (hod:o.dst=some d) (hd:d<X.nt) (h:B6 E o A Kc=some r):Hh X o a S.w A Kc r:=by
 unfold B6 at h;rw[ho,hod]at h;simp only at h;split at h
 ·rename_i ti l hti hgt;split at h
  ·rename_i off z ag hf;split at h
   ·rename_i s hs;obtain⟨hq,h⟩:=cs h;simp only[Va]at hq;obtain⟨⟨ha,hb⟩,hle⟩:=hq;have hle:off+z≤l.length:=Vl hle;have ht:t<X.nt:=hE.nt ▸ (Vl hb:t+1≤E.nt);have he:a.eval (.tmp t)=S.ph t:=K.sl t ht
    have hok:Ib X.P S t (.agg l) (S.ph t):=by have:=K.at_ t;rwa [hg,hgt]at this
    obtain⟨us,e1,hls⟩:=hok;have hlen:=hls.len;obtain⟨u,ws,e2,e3,hrun⟩:=Lsa (w:=S.w) (hE.ti _ _ hti) ha hf ho (he.trans e1) (by omega)
    have e4:if ag then u = .agg ws.toArray else ws=[u]:=by
     cases ag
     case true=>exact e2
     simp only[Wq,if_false]at e2 ⊢;unfold Jx at hs;simp only[cond_false]at hs;split at hs
     ·rename_i x hx
      have:((l.drop off).take z).length=1:=by rw[hx];rfl
      rw[Vq,We]at this;exact e2 (by omega)
     ·cases hs
    have hpart:Ac X.P S (λ n => .pl t [n]) off ((l.drop off).take z) ws:=by
     have:=(hls.drop off).take z;rw[Wh,← e3]at this;exact this
    cases hown:Fk ((l.drop off).take z) with
    |false=>
     rw[hown,cond_false]at h
     have hso:Ib X.P S d s u:=Lu hs e4 (Ac.shift (j:=0) (f:=λ n => .pl d (if ag then [n-off] else [])) off (by
      rw[Wh];exact hpart.relab hown) |>.imp (λ n x u hx=>by simpa using hx))
     have K2:=K.put0 hd s u d (by rw[Pj hs,hown]) hso;refine⟨_,h,Av (S:=Jz S (λ _ _=>none) d s u) hrun (by rw[hod];exact K2) ?_⟩;show upd S.g d _=_;rw[Au,← hg]
    |true=>
     rw[hown,cond_true]at h
     let f:List Nat→Option (List Nat):=λ p=>match p with
      |[n]=>if off≤n∧n<off+z then some [n-off] else none
      |_=>none
     let s0:Sv := .agg (Vf.setAll l off (List.replicate z .dead))
     have L1:=Lt S t 0 f s0
     have hst:∀ n,¬ (off≤n∧n<off+z)→∀ x u,Bm X.P S (.pl t [n]) x u→Bm X.P (R4 S t 0 f s0) (.pl t [n]) x u:=λ n hn x u hx=>
      hx.later L1 (λ k hk=>⟨Gva hk (by simp only[f];rw[if_neg hn]),rfl⟩)
     obtain⟨K1,h1,_⟩:=Z5 K t 0 f s0 (by simp[s0]) ⟨us,e1,by
      have hz:(List.replicate z Lf.dead).length=z:=by simp
      have hws:ws.length=z:=by rw[e3,Vq,We];omega
      have:=Ac.setAll (P:=X.P) (S:=R4 S t 0 f s0) (f:=λ n => .pl t [n]) (l:=l) (us:=us) (m:=List.replicate z .dead) (ms:=ws) (off:=off)
       ((hls.take off).impAt (λ n _ h2=>hst n (by rw[Vq]at h2;omega)))
       (by rw[← hws];exact Ac.deads ws) (by
        rw[hz];refine Ac.impAt (λ n h1 _=>hst n (by omega)) ?_;have:=hls.drop (off+z)
        rwa [Wh]at this) (by rw[hz];exact hle)
      rw[hz,e3,← Yo,Vo,Wi,Wi]at this
      exact this⟩
     have L2:=Ga (R4 S t 0 f s0) (Re d ag) d s u
     have hl2:Ac X.P (Jz (R4 S t 0 f s0) (Re d ag) d s u) (λ n => .pl d (if ag then [n] else [])) 0 ((l.drop off).take z) ws:=by
      have h5:Ac X.P (Jz (R4 S t 0 f s0) (Re d ag) d s u) (λ n => .pl d (if ag then [n-off] else [])) off ((l.drop off).take z) ws:=by
       refine Ac.impAt (λ n n1 n2 x u hx=>?_) hpart
       have n3:n<off+z:=by rw[Vq]at n2;omega
       exact(h1 [n] [n-off] x u (by simp[f,n1,n3]) hx).later L2 (λ k hk=>⟨I6 hk (by simp[Re]),rfl⟩)
      have:=Ac.shift (j:=0) off (by rw[Wh];exact h5);exact this.imp (λ n x u hx=>by simpa using hx)
     have K2:=K1.put hd (Re d ag) (Gwa d ag) s u (Lu hs e4 hl2);refine⟨_,h,Av (S:=Jz (R4 S t 0 f s0) (Re d ag) d s u) hrun (by rw[hod];exact K2) ?_⟩;show upd (R4 S t 0 f s0).g d _=_;rw[show ∀ u1 u2,ups A [u1,u2]=ups (ups A [u1]) [u2] from λ _ _=>rfl,Au,Au,← hg];rfl
   ·cases h
  ·cases h
 ·cases h
def Sy (hE:Iu X E) (K:Bd X S a) (hg:S.g=get A) {x:Option Operand} {n:Option Int} (h:Epa E A x=some n):x.map a.eval=n.map (Value.int .i64):=by
 unfold Epa at h;split at h
 ·cases h;rfl
 ·rename_i x;split at h
  ·rename_i n hn;cases h;simp[(L9 hE K hg hn).1]
  ·cases h
def Nl {lo hi:Option Int} {n:Nat} {Kb:Unit→Option R} (h:Eha lo hi n Kb=some r):Kb ()=some r∧0≤lo.getD 0∧lo.getD 0≤hi.getD n∧hi.getD n≤n:=by
 unfold Eha at h;split at h
 ·exact⟨h,by simp⟩
 ·rename_i l
  by_cases h1:0≤l
  ·by_cases h2:l≤(n:Int)
   ·simp only[h1,h2,decide_true,cond_true]at h;exact⟨h,by simpa using ⟨h1,h2⟩⟩
   ·simp[h1,h2]at h
  ·simp[h1]at h
 ·rename_i l
  by_cases h1:0≤l
  ·by_cases h2:l≤(n:Int)
   ·simp only[h1,h2,decide_true,cond_true]at h;exact⟨h,by simpa using ⟨h1,h2⟩⟩
   ·simp[h1,h2]at h
  ·simp[h1]at h
 ·rename_i l l2
  by_cases h1:0≤l
  ·by_cases h2:l≤l2
   ·by_cases h3:l2≤(n:Int)
    ·simp only[h1,h2,h3,decide_true,cond_true]at h;exact⟨h,by simpa using ⟨h1,h2,h3⟩⟩
    ·simp[h1,h2,h3]at h
   ·simp[h1,h2]at h
  ·simp[h1]at h
def X8 {P:Program} {w:World} (sl:Bool) {n cap:Nat} {lo hi:Option Int} (hc:n≤cap) (h0:0≤lo.getD 0) (h1:lo.getD 0≤hi.getD n) (h2:hi.getD n≤n):
  (Instr.sliceBounds sl n cap (lo.map (Value.int .i64)) (hi.map (Value.int .i64)) none).run P w = .ok ((lo.getD 0).toNat,(hi.getD n).toNat,cap) w:=by
 cases lo with
 |none=>
  cases hi with
  |none=>simp[Instr.sliceBounds]
  |some b=>
   simp only[Wm,D5b]at h0 h1 h2;simp[Instr.sliceBounds,run_sliceBound,(by omega:0≤b),(by omega:b≤(cap:Int))]
 |some l=>
  cases hi with
  |none=>
   simp only[Wm,D5b]at h0 h1 h2;simp[Instr.sliceBounds,run_sliceBound,h0,h1]
  |some b=>
   simp only[Wm]at h0 h1 h2;have eb:(b.toNat:Int)=b:=Int.toNat_of_nonneg (by omega);simp[Instr.sliceBounds,run_sliceBound,(by omega:0≤b),(by omega:b≤(cap:Int)),h0,eb,h1]
def Z7 {α:Type} {xs:List α} {lo hi:Option Int} (h2:hi.getD xs.length≤xs.length):Eoa xs lo hi=(xs.take (hi.getD xs.length).toNat).drop (lo.getD 0).toNat:=by
 unfold Eoa
 cases lo<;>cases hi<;>simp
def Z8 {P:Program} {w:World} {T:TypeId} {x:Operand} {lo hi:Option Operand} {s:ByteArray} {l h:Option Int} (hu:P.underlying T=some .string) (ho:o.op = .slice T x lo hi none) (he:a.eval x = .string s)
  (hl:lo.map a.eval=l.map (Value.int .i64)) (hh:hi.map a.eval=h.map (Value.int .i64)) (h0:0≤l.getD 0) (h1:l.getD 0≤h.getD s.size) (h2:h.getD s.size≤s.size):
  (execOp a.eval o).run P w = .ok (.value (.string (s.extract (l.getD 0).toNat (h.getD s.size).toNat))) w:=by
 have hb:=X8 (P:=P) (w:=w) false (Vw s.size) h0 h1 h2;unfold execOp;simp only[ho,he,hl,hh,Option.map_none,Wd];unfold Instr.sliceAt;rw[Wd,run_underlying hu];simp only[Wc];unfold Instr.slice;rw[Wd,run_underlying hu];simp[hb]
def Jw {P:Program} {w:World} {T e:TypeId} {sz:Nat} {x:Operand} {lo hi:Option Operand} {ad:Option Addr} {n cap:Nat} {l h:Option Int} (hu:P.underlying T=some (.slice e)) (hs:W5 P e sz) (ho:o.op = .slice T x lo hi none) (he:a.eval x = .slice ad n cap)
  (hl:lo.map a.eval=l.map (Value.int .i64)) (hh:hi.map a.eval=h.map (Value.int .i64)) (hc:n≤cap) (h0:0≤l.getD 0) (h1:l.getD 0≤h.getD n) (h2:h.getD n≤n):
  (execOp a.eval o).run P w = .ok (.value (.slice (if cap=(l.getD 0).toNat then ad else ad.map (·.add ((l.getD 0).toNat*sz))) ((h.getD n).toNat-(l.getD 0).toNat) (cap-(l.getD 0).toNat))) w:=by
 have hb:=X8 (P:=P) (w:=w) true hc h0 h1 h2;unfold execOp;simp only[ho,he,hl,hh,Option.map_none,Wd];unfold Instr.sliceAt;rw[Wd,run_underlying hu];simp only[Wc];unfold Instr.slice;rw[Wd,run_underlying hu];simp only[Wc,Wd,hb,Iv hs,Yb]
def Mg.cut {α:Type} {G:Nat→Prop} {w:World} {R':α→List Value→Prop} {sz:Nat} (hn:∀ x c,R' x c→c.length=sz) {xs:List α} {ad:Option Addr} {n cap l h:Nat} (hr:Mg G w R' xs (.slice ad n cap)) (h1:l≤h) (h2:h≤n):
  n=xs.length∧n≤cap∧Mg G w R' ((xs.take h).drop l) (.slice (if cap=l then ad else ad.map (·.add (l*sz))) (h-l) (cap-l)):=by
 obtain⟨ad',cap',cs,e,hc,hrow,hne⟩:=hr;cases e;refine⟨rfl,hc,if cap=l then ad else ad.map (·.add (l*sz)),cap-l,(cs.take (h*sz)).drop (l*sz),?_,?_,(hrow.take hn h).drop hn l,λ hx=>?_⟩
 ·rw[We,Vq,D0b h2]
 ·rw[We,Vq];omega
 ·have hlh:l<h:=by
   rcases Dob l h with hlt|hge
   ·exact hlt
   ·exact absurd (Edb (by rw[Vq];omega)) hx
  obtain⟨k,o',rfl,hk,hcs⟩:=hne (by intro e;subst e;simp at h2;omega);refine⟨k,o'+l*sz,?_,hk,λ j u hu=>?_⟩
  ·rw[if_neg (by omega)];simp[Ke]
  ·rw[Yv,Wp]at hu;split at hu
   ·rw[Zk];exact hcs _ _ hu
   ·cases hu
def Ff.take {P:Program} {O:Nat→Lab} {w:World} {lab:Lab} {e:TypeId} {r':Ty} {xs:List r'.den} {u:Value} (h:Ff P O w lab e r' xs u) (n:Nat) (hn:n≤xs.length):
  ∃ ad cap,u = .slice ad xs.length cap∧xs.length≤cap∧(∀ k,ad=some k→k.spot=none)∧Ff P O w lab e r' (xs.take n) (.slice ad n cap):=by
 obtain⟨bs,⟨v,cs,b2,ev,hs,ho,hd,eb⟩,hnd,hk⟩:=h;simp only[Yh,and_true]at ev;subst ev
 have hlen:(xs.take n).length=n:=by rw[Vq];omega
 rcases Fl ho with⟨rfl,hm,rfl⟩|⟨k,cap,cur,rfl,hg,h1,h2,h3,h4⟩
 ·have hx:xs=[]:=Wl hm;subst hx
  have:n=0:=by simpa using hn
  subst this;exact⟨none,0,rfl,by simp,by simp,[],⟨_,[],[],rfl,hs,World.ownsRow_nil _ _ _ _,by simp[Er],rfl⟩,by simp,by simp⟩
 ·obtain⟨b',h5,h6⟩:=hd.take (Ty.dep_len r') n;have e1:(Value.slice (some ⟨k,0,none⟩) n cap).ownBlock.toList++b'=k::b':=rfl;have e2:(Value.slice (some ⟨k,0,none⟩) xs.length cap).ownBlock.toList++b2=k::b2:=rfl;rw[e2]at eb;subst eb;have hsub:(k::b').Sublist (k::b2):=h6.cons_cons k;refine⟨_,cap,rfl,h1,by simp,k::b',⟨_,cs.take (n*r'.sz),b',rfl,hs,⟨?_,.inr ⟨k,cap,cur,by rw[hlen],Vu _,hg,by omega,h2,h3,?_⟩⟩,h5,rfl⟩,hnd.sublist hsub,λ j hj=>hk j (hsub.subset hj)⟩
  ·rw[Vq,ho.1,hlen];have:=Wk r'.sz hn;omega
  ·rw[hlen,← h4,Dmb];congr 1;have:=Wk r'.sz hn;omega
def Eua.cut {P:Program} {S:Sit} {p:Nat} {e:TypeId} {r':Ty} {xs:List r'.den} {ad:Option Addr} {n cap l h:Nat} (hb:Eua P S p e r' xs (.slice ad n cap)) (h1:l≤h) (h2:h≤n):
  n=xs.length∧n≤cap∧Eua P S p e r' ((xs.take h).drop l) (.slice (if cap=l then ad else ad.map (·.add (l*r'.sz))) (h-l) (cap-l)):=by
 obtain⟨hs,ad',cap',cs,bs,e1,hc,hrow,hm,hne⟩:=hb;cases e1;obtain⟨b1,d1,d2⟩:=hrow.take (Ty.dep_len r') h;obtain⟨b2,d3,d4⟩:=d1.drop (Ty.dep_len r') l;refine⟨rfl,hc,hs,if cap=l then ad else ad.map (·.add (l*r'.sz)),cap-l,(cs.take (h*r'.sz)).drop (l*r'.sz),b2,?_,?_,d3,λ k hk=>hm k ((d4.trans d2).subset hk),λ hx=>?_⟩
 ·rw[We,Vq,D0b h2]
 ·rw[We,Vq];omega
 ·have hlh:l<h:=by
   rcases Dob l h with hlt|hge
   ·exact hlt
   ·exact absurd (Edb (by rw[Vq];omega)) hx
  obtain⟨k,o',rfl,hk,hcs⟩:=hne (by intro e;subst e;simp at h2;omega);refine⟨k,o'+l*r'.sz,?_,hk,λ j u hu=>?_⟩
  ·rw[if_neg (by omega)];simp[Ke]
  ·rw[Yv,Wp]at hu;split at hu
   ·rw[Zk];exact hcs _ _ hu
   ·cases hu
def Sz (hE:Iu X E) (K:Bd X S a) (hg:S.g=get A) {T e:TypeId} {r':Ty} {xs:List r'.den} {x:Operand} {lo hi:Option Operand} {l h:Option Int} {d:Nat} {u:Value} {w:World}
  (he:a.eval x=u) (hw:S.w=w) (ho:o.op = .slice T x lo hi none) (hod:o.dst=some d) (hd:d<X.nt) (hel:Q0 E T e=true) (hl:lo.map a.eval=l.map (Value.int .i64)) (hh:hi.map a.eval=h.map (Value.int .i64))
  (h0:0≤l.getD 0) (h1:l.getD 0≤h.getD xs.length) (h2:h.getD xs.length≤xs.length) (hf:∃ lab,Bm X.P S lab (.fz e r' xs) u):Qwa X o a w (ups A [⟨d,false,.one (.fz e r' (Eoa xs l h))⟩]):=by
 subst hw;obtain⟨lab,v,e1,hsz,hsl⟩:=hf;cases e1;obtain⟨ad,cap,cs,e2,_⟩:=id hsl;rw[e2]at hsl;obtain⟨_,hc,hcut⟩:=Mg.cut (Ty.rep_len r') (l:=(l.getD 0).toNat) (h:=(h.getD xs.length).toNat) hsl (by omega) (by omega);rw[← Z7 h2]at hcut;have hrun:=Jw (w:=S.w) (Ic hel hE.ti) hsz ho (he.trans e2) hl hh hc h0 h1 h2;have hsv:Ib X.P S 0 (.one (.fz e r' (Eoa xs l h))) _:=⟨_,rfl,hsz,hcut⟩;have K2:=K.put0 hd _ _ 0 rfl hsv;refine Av (S:=Jz S (λ _ _=>none) d _ _) hrun (by rw[hod];exact K2) ?_;show upd S.g d _=_;rw[Au,← hg]
def Og {y:Lf} {e:TypeId} {r':Ty} {xs:List r'.den} (hsn:Jb A y = .own e r' xs) (hne:∀ e r (xs:List r.den),y = .own e r xs→False):∃ p v,y = .al p v∧get A p=(v,.one (.own e r' xs)):=by
 cases y<;>first|(simp only[Jb]at hsn;cases hsn;done)|skip
 ·simp only[Jb]at hsn;exact(hne _ _ _ rfl).elim
 ·rename_i p v;simp only[Jb]at hsn;split at hsn
  ·rename_i n e' r'' xs' hp;cases hb:Nat.beq n v
   ·rw[hb]at hsn;simp at hsn
   rw[hb,cond_true]at hsn
   have:n=v:=by simpa using hb
   subst this;refine⟨p,n,rfl,?_⟩;rw[hp,hsn]
  ·rename_i n e' r'' xs' hp
   cases hb:Nat.beq n v<;>rw[hb]at hsn<;>simp at hsn
  ·cases hsn
def Gya (hE:Iu X E) (K:Bd X S a) (hg:S.g=get A) {T e:TypeId} {x:Operand} {lo hi:Option Operand} {d p v:Nat} {pi:Option (List (Int×Nat))} {r':Ty} {xs:List r'.den} {l u:Option Int} (ho:o.op = .slice T x lo hi none) (hod:o.dst=some d) (hd:d<X.nt) (hq:Q0 E T e=true)
  (hda:L2a X.P S p v pi e r' xs (a.eval x)) (hv:(S.g p).1=v) (hl:lo.map a.eval=l.map (Value.int .i64)) (hu:hi.map a.eval=u.map (Value.int .i64)) (h0:0≤l.getD 0) (h1:l.getD 0≤u.getD xs.length) (h2:u.getD xs.length≤xs.length):
  Qwa X o a S.w (ups A [⟨d,false,.one (.da p v none e r' (Eoa xs l u))⟩]):=by
 obtain⟨d1,d2,d3⟩:=hda;obtain⟨d4,d5,_⟩:=d3 hv;obtain⟨hs,ad,cap,cs,bs,e1,hc,rest⟩:=id d5;rw[e1]at d5;have hrun:=Jw (w:=S.w) (Ic hq hE.ti) hs ho e1 hl hu hc h0 h1 h2;obtain⟨_,_,hcut⟩:=d5.cut (l:=(l.getD 0).toNat) (h:=(u.getD xs.length).toNat) (by omega) (by omega)
 have hsv:Ib X.P S 0 (.one (.da p v none e r' (Eoa xs l u))) (.slice (if cap=(l.getD 0).toNat then ad else ad.map (·.add ((l.getD 0).toNat*r'.sz))) ((u.getD xs.length).toNat-(l.getD 0).toNat) (cap-(l.getD 0).toNat)):=by
  refine⟨d1,d2,λ _=>⟨d4,?_,λ q hq=>by cases hq⟩⟩;rw[Z7 h2];exact hcut
 have K2:=K.put0 hd _ _ 0 rfl hsv;refine Av (S:=Jz S (λ _ _=>none) d _ _) hrun (by rw[hod];exact K2) ?_;show upd S.g d _=_;rw[Au,← hg]
def R1a (hE:Iu X E) (K:Bd X S a) (hg:S.g=get A) {T:TypeId} {x:Operand} {lo hi:Option Operand} {d:Nat} (ho:o.op = .slice T x lo hi none) (hod:o.dst=some d) (hd:d<X.nt) (h:B6 E o A Kc=some r):Hh X o a S.w A Kc r:=by
 unfold B6 at h;rw[ho,hod]at h;simp only at h;split at h
 ·rename_i s l u hs hl hu;obtain⟨hq,h⟩:=cs h;obtain⟨hk,h0,h1,h2⟩:=Nl h;have e1:=(L9 hE K hg hs).1;have hr:=Z8 (P:=X.P) (w:=S.w) (Sx hq hE.ti) ho e1 (Sy hE K hg hl) (Sy hE K hg hu) h0 h1 h2;refine N7 K hg hod hd rfl hr ?_;rw[← hk]
  cases l<;>cases u<;>simp
 ·rename_i y l u hy hs hl hu;have hl:=Sy hE K hg hl;have hu:=Sy hE K hg hu;obtain⟨pl,hsv⟩:=Hd hE K hg hs;have hlf:Bm X.P S (.pl pl []) y (a.eval x):=hsv;split at h
  ·rename_i e r' xs e0 r0 xs0 hsn;have this:Lf.own e r' xs=Lf.own e0 r0 xs0:=hsn
   injection this with i1 i2 i3
   subst i1 i2;cases i3;obtain⟨hq,h⟩:=cs h;have hown:Ff X.P S.O S.w (.pl pl []) e r' xs (a.eval x):=hlf;split at h
   ·-- from its beginning
    obtain⟨hk,h0,h1,h2⟩:=Nl h;refine⟨_,hk,?_⟩
    have hcut:Eoa xs none u=xs.take (u.getD xs.length).toNat:=by rw[Z7 h2];simp
    rw[hcut];simp only[D5b]at h0 h1;rcases L8 hE K hg hs with⟨t,rfl,ht,hst,het,hok⟩|⟨hnt,y',ey,hy'⟩
    ·obtain⟨K1,g1,_⟩:=Ni K t 0;have hown1:Ff X.P (Mi S t 0).O (Mi S t 0).w (.tm 0 []) e r' xs (a.eval (.tmp t)):=g1 [] (.own e r' xs) _ hok;obtain⟨ad,cap,e1,hc,hspot,hown2⟩:=hown1.take (u.getD xs.length).toNat (by omega);have hrun:=Jw (w:=S.w) (Ic hq hE.ti) hown.top.1 ho e1 hl hu hc (by simp) (by simpa using h1) h2
     have hval:(if cap=((none:Option Int).getD 0).toNat then ad else ad.map (·.add (((none:Option Int).getD 0).toNat*r'.sz)))=ad:=by
      split
      ·rfl
      ·cases ad<;>simp[Addr.add]
     rw[hval]at hrun;simp only[D5b,Fpb,E7b]at hrun
     let hf:Nat→List Nat→Option Lab:=λ n q=>if n=0 then some (.pl d q) else none
     have L:=Ga (Mi S t 0) hf d (.one (.own e r' (xs.take (u.getD xs.length).toNat))) (.slice ad (u.getD xs.length).toNat cap)
     have hso:Ib X.P (Jz (Mi S t 0) hf d (.one (.own e r' (xs.take (u.getD xs.length).toNat))) (.slice ad (u.getD xs.length).toNat cap)) d (.one (.own e r' (xs.take (u.getD xs.length).toNat))) (.slice ad (u.getD xs.length).toNat cap):=
      Bm.later (P:=X.P) (x := .own e r' (xs.take (u.getD xs.length).toNat)) (lab := .tm 0 []) (lab' := .pl d []) L hown2 (λ k hk=>⟨I6 hk (by simp[hf]),rfl⟩)
     have K2:=K1.put hd hf (by intro n q p hp;simp only[hf]at hp;split at hp<;>first|(cases hp;exact⟨q,rfl⟩)|cases hp) _ _ hso
     refine Av (S:=Jz (Mi S t 0) hf d _ _) hrun (by rw[hod];exact K2) ?_;show upd (Mi S t 0).g d _=_;rw[show gone (.tmp t) (.one (.own e r' xs))=[⟨t,false,.one .dead⟩] from rfl,Yq,show ∀ u1 u2,ups A [u1,u2]=ups (ups A [u1]) [u2] from λ _ _=>rfl,Au,Au,← hg];rfl
    ·cases ey
     have hgo:gone x (.one (.own e r' xs))=[]:=by
      unfold gone;split
      ·exact absurd rfl (hnt _)
      ·rfl
     rw[hgo,Wn];obtain⟨ad,cap,e1,hc,hspot,hown2⟩:=Ff.take (hy' (.pl d [])) (u.getD xs.length).toNat (by omega);have hrun:=Jw (w:=S.w) (Ic hq hE.ti) hown.top.1 ho e1 hl hu hc (by simp) (by simpa using h1) h2
     have hval:(if cap=((none:Option Int).getD 0).toNat then ad else ad.map (·.add (((none:Option Int).getD 0).toNat*r'.sz)))=ad:=by
      split
      ·rfl
      ·cases ad<;>simp[Addr.add]
     rw[hval]at hrun;simp only[D5b,Fpb,E7b]at hrun
     have hso:Ib X.P (Jz S (λ _ _=>none) d (.one (.own e r' (xs.take (u.getD xs.length).toNat))) (.slice ad (u.getD xs.length).toNat cap)) d (.one (.own e r' (xs.take (u.getD xs.length).toNat))) (.slice ad (u.getD xs.length).toNat cap):=
      Bm.later (P:=X.P) (x := .own e r' (xs.take (u.getD xs.length).toNat)) (lab := .pl d []) (lab' := .pl d []) (Ga S (λ _ _=>none) d _ _) hown2 (λ k hk=>⟨Bi (h:=λ _ _=>none) (o := .pl d []) hk (by simp),rfl⟩)
     have K2:=K.put hd (λ _ _=>none) (by simp) _ _ hso;refine Av (S:=Jz S (λ _ _=>none) d _ _) hrun (by rw[hod];exact K2) ?_;show upd S.g d _=_;rw[Au,← hg]
   ·obtain⟨hk,h0,h1,h2⟩:=Nl h;refine⟨_,hk,?_⟩;rcases L8 hE K hg hs with⟨t,rfl,ht,hst,het,hok⟩|⟨hnt,y',ey,hy'⟩
    ·obtain⟨K1,_,hf⟩:=Tr K (p:=t) hst.symm;obtain⟨K2,g1,_⟩:=Ni K1 t 0;rw[Bb];refine Sz (S:=Mi (frS S t e r' xs) t 0) hE K2 ?_ (u:=a.eval (.tmp t)) rfl rfl ho hod hd hq hl hu h0 h1 h2 ⟨.no,?_⟩
     ·show upd (upd S.g t _) t _=_;rw[show gone (.tmp t) (.one (.own e r' xs))=[⟨t,false,.one .dead⟩] from rfl,Au,← hg];funext k;unfold upd
      split<;>simp[frS]
     ·rw[het];exact(Bm.relab (lab' := .tm 5 []) rfl hf).later (lab' := .tm 5 []) (Jj _ t 0) (λ k hk=>⟨(H5 (by simp[hk])).trans hk,rfl⟩) |>.relab rfl
    ·cases ey
     have hgo:gone x (.one (.own e r' xs))=[]:=by
      unfold gone;split
      ·exact absurd rfl (hnt _)
      ·rfl
     rw[hgo,Wn];refine Sz hE K hg rfl rfl ho hod hd hq hl hu h0 h1 h2 ⟨.no,?_⟩;have hown4:Ff X.P S.O S.w .fz e r' xs (a.eval x):=hy' .fz;exact hown4.reads (λ k hk=>hk) (λ k hk=>hk)
  ·rename_i p v e r' xs hsn;obtain⟨hq,h⟩:=cs h;have hal:=Og hsn (λ e r xs hy=>by cases hy);obtain⟨p',v',e0,hp⟩:=hal;cases e0;have he:a.eval x=S.ph p:=hlf.2 (by rw[hg,hp])
   cases hmv:E.mv d with
   |true=>
    rw[hmv,cond_true]at h;split at h
    ·obtain⟨hk,h0,h1,h2⟩:=Nl h;refine⟨_,hk,?_⟩
     have hcut:Eoa xs none u=xs.take (u.getD xs.length).toNat:=by rw[Z7 h2];simp
     rw[hcut];simp only[D5b]at h0 h1;obtain⟨K1,g1,_⟩:=Ni K p 0
     have hok:Bm X.P S (.pl p []) (.own e r' xs) (S.ph p):=by have:=K.at_ p;rwa [hg,hp]at this
     have hown1:Ff X.P (Mi S p 0).O (Mi S p 0).w (.tm 0 []) e r' xs (a.eval x):=by rw[he];exact g1 [] (.own e r' xs) _ hok
     obtain⟨ad,cap,e1,hc,hspot,hown2⟩:=hown1.take (u.getD xs.length).toNat (by omega);have hrun:=Jw (w:=S.w) (Ic hq hE.ti) hown1.top.1 ho e1 hl hu hc (by simp) (by simpa using h1) h2
     have hval:(if cap=((none:Option Int).getD 0).toNat then ad else ad.map (·.add (((none:Option Int).getD 0).toNat*r'.sz)))=ad:=by
      split
      ·rfl
      ·cases ad<;>simp[Addr.add]
     rw[hval]at hrun;simp only[D5b,Fpb,E7b]at hrun
     let hf:Nat→List Nat→Option Lab:=λ n q=>if n=0 then some (.pl d q) else none
     have L:=Ga (Mi S p 0) hf d (.one (.own e r' (xs.take (u.getD xs.length).toNat))) (.slice ad (u.getD xs.length).toNat cap)
     have hso:Ib X.P (Jz (Mi S p 0) hf d (.one (.own e r' (xs.take (u.getD xs.length).toNat))) (.slice ad (u.getD xs.length).toNat cap)) d (.one (.own e r' (xs.take (u.getD xs.length).toNat))) (.slice ad (u.getD xs.length).toNat cap):=
      Bm.later (P:=X.P) (x := .own e r' (xs.take (u.getD xs.length).toNat)) (lab := .tm 0 []) (lab' := .pl d []) L hown2 (λ k hk=>⟨I6 hk (by simp[hf]),rfl⟩)
     have K2:=K1.put hd hf (by intro n q p hp;simp only[hf]at hp;split at hp<;>first|(cases hp;exact⟨q,rfl⟩)|cases hp) _ _ hso
     refine Av (S:=Jz (Mi S p 0) hf d _ _) hrun (by rw[hod];exact K2) ?_;show upd (Mi S p 0).g d _=_;rw[show ∀ u1 u2,ups A [u1,u2]=ups (ups A [u1]) [u2] from λ _ _=>rfl,Au,Au,← hg];rfl
    ·cases h
   |false=>
    rw[hmv,cond_false]at h
    cases hno:J6 r' with
    |true=>
     rw[hno,cond_true]at h;obtain⟨hk,h0,h1,h2⟩:=Nl h;refine⟨_,hk,?_⟩
     have hco:Sw A (.al p v)=[⟨p,true,.one (.fz e r' xs)⟩]:=by simp[Sw,hp]
     obtain⟨K1,_,hf⟩:=Tr K (p:=p) (e:=e) (r:=r') (xs:=xs) (by rw[hg,hp]);rw[hco,Bb];refine Sz (S:=frS S p e r' xs) hE K1 ?_ (u:=S.ph p) he rfl ho hod hd hq hl hu h0 h1 h2 ⟨.no,hf⟩;show upd S.g p _=_;rw[Oe,← hg]
    |false=>
     rw[hno,cond_false]at h;obtain⟨hao,h⟩:=cs h;obtain⟨hk,h0,h1,h2⟩:=Nl h;refine⟨_,hk,?_⟩
     have hpg:S.g p=(v,.one (.own e r' xs)):=by rw[hg,hp]
     have hown:Ff X.P S.O S.w (.pl p []) e r' xs (S.ph p):=by have:=K.at_ p;rw[hpg]at this;exact this
     have hda:=Lra (P:=X.P) (S:=S) hpg hno hao hown;exact Gya hE K hg ho hod hd hq (by rw[he];exact hda) (by rw[hpg]) hl hu h0 h1 h2
  ·rename_i p v pi e r' xs;obtain⟨hq,h⟩:=cs h;simp only[Va]at hq;obtain⟨hk,h0,h1,h2⟩:=Nl h;exact⟨_,hk,Gya hE K hg ho hod hd hq.1 hlf (by rw[hg];exact Ve hq.2) hl hu h0 h1 h2⟩
  ·rename_i e r' xs _ hsn;obtain⟨hq,h⟩:=cs h;obtain⟨hk,h0,h1,h2⟩:=Nl h;obtain⟨lab',hl2⟩:=Pi K hg hlf;rw[hsn]at hl2;exact⟨_,hk,Sz hE K hg rfl rfl ho hod hd hq hl hu h0 h1 h2 ⟨lab',hl2⟩⟩
  ·cases h
 ·cases h
end

def pth:Sv→Nat→List Nat
 |.agg _,n=>[n]
 |_,_=>[]
def Sq (s:Sv) (u:Value) (us:List Value):Prop:=match s with
 |.agg _=>u = .agg us.toArray
 |_=>us=[u]
def Frz (g g':Nat→Nat×Sv):Prop:=∀ p,g' p=g p∨∃ n e r,∃ xs:List (Ty.den r),g p=(n,.one (.own e r xs))∧g' p=(n,.one (.fz e r xs))
structure Wr (X:Cx) (S S':Sit):Prop where
 w:S'.w=S.w
 ph:S'.ph=S.ph
 bb:S'.bb=S.bb
 later:Fg S S'
 tm:∀ n q k,S.O k = .tm n q→S'.O k = .tm n q
 pl:∀ l p k,S.O k = .pl l p→p≠[]→S'.O k = .pl l p
 bx:∀ b k,S.O k = .bx b→S'.O k = .bx b
 no:∀ k,S.O k = .no→S'.O k = .no
section
variable {X:Cx} {S S' S'':Sit} {a:Act} {E:En} {A:Ab} {o:Oper} {R:Type} {Kc:List Up→Option R} {r:R}
def Fg.refl (S:Sit):Fg S S:=⟨λ _=>Vw _,λ _ _=>rfl,λ p v e r xs' h _=>⟨xs',h,rfl⟩,λ _ _=>rfl,λ k h=>⟨h,rfl⟩,Fg.box_of (λ _ _ _ h=>h) (λ _ _ h=>⟨h,rfl⟩),λ p _ hd=>⟨hd,λ _ _ _ h=>h,λ k hk=>⟨.inl hk,rfl⟩⟩⟩
def Fg.trans (L:Fg S S') (L':Fg S' S''):Fg S S'' where
 ver:=λ p=>Zu (L.ver p) (L'.ver p)
 ph:=λ p e=>by
  have e1:(S'.g p).1=(S.g p).1:=Zr (e ▸ L'.ver p) (L.ver p);rw[L'.ph p (e.trans e1.symm),L.ph p e1]
 own:=λ p v e r xs' h hv=>by
  have e1:(S'.g p).1=v:=Zr (by have:=L'.ver p;rw[h]at this;exact this) (hv ▸ L.ver p);obtain⟨ys,hy,hl⟩:=L'.own p v e r xs' h e1;obtain⟨zs,hz,hl'⟩:=L.own p v e r ys hy hv;exact⟨zs,hz,hl'.trans hl⟩
 bb:=λ b e=>by
  have e1:(S'.g (H b)).1=(S.g (H b)).1:=Zr (e ▸ L'.ver _) (L.ver _);rw[L'.bb b (e.trans e1.symm),L.bb b e1]
 fz:=λ k h=>⟨(L'.fz k (L.fz k h).1).1,(L'.fz k (L.fz k h).1).2.trans (L.fz k h).2⟩
 box:=λ b n e hh hO=>by
  have e1:(S'.g (H b)).1=(S.g (H b)).1:=Zr (e ▸ L'.ver _) (L.ver _);obtain⟨d1,d2,d3⟩:=L.box b n e1 hh hO;rw[← L.bb b e1]at d2;obtain⟨d4,d5,d6⟩:=L'.box b n (e.trans e1.symm) d1 d2;rw[L.bb b e1]at d5 d6;refine⟨d4,d5,λ c e' f hc=>?_⟩;obtain⟨c1,c2,c3,c4⟩:=d3 c e' f hc;obtain⟨c5,c6,c7,c8⟩:=d6 c1 e' f c2;exact⟨c5,c6,c7.trans c3,λ j hj=>(c8 j hj).trans (c4 j hj)⟩
 bor:=λ p e hd=>by
  have e1:(S'.g p).1=(S.g p).1:=Zr (e ▸ L'.ver p) (L.ver p);obtain⟨d1,d2,d3⟩:=L.bor p e1 hd;obtain⟨d4,d5,d6⟩:=L'.bor p (e.trans e1.symm) d1;refine⟨d4,λ E R XS h=>d2 E R XS (d5 E R XS h),λ k hk=>?_⟩;obtain⟨d7,d8⟩:=d3 k hk;rcases d7 with d7|d7
  ·exact⟨(d6 k d7).1,(d6 k d7).2.trans d8⟩
  ·exact⟨.inr (L'.fz k d7).1,(L'.fz k d7).2.trans d8⟩
def Wr.refl (S:Sit):Wr X S S:=⟨rfl,rfl,rfl,.refl S,λ _ _ _ h=>h,λ _ _ _ h _=>h,λ _ _ h=>h,λ _ h=>h⟩
def Wr.trans (h:Wr X S S') (h':Wr X S' S''):Wr X S S'':=
 ⟨h'.w.trans h.w,h'.ph.trans h.ph,h'.bb.trans h.bb,h.later.trans h'.later,λ n q k e=>h'.tm n q k (h.tm n q k e),λ l p k e hp=>h'.pl l p k (h.pl l p k e hp) hp,λ b k e=>h'.bx b k (h.bx b k e),λ k e=>h'.no k (h.no k e)⟩
def C6a {p:Nat} {e:TypeId} {r':Ty} {xs:List r'.den} (K:Bd X S a) (hp:(S.g p).2 = .one (.own e r' xs)):Wr X S (frS S p e r' xs):=by
 have hown:Ff X.P S.O S.w (.pl p []) e r' xs (S.ph p):=by have:=K.at_ p;rw[hp]at this;exact this
 have other:∀ k o,S.O k=o→o ≠ .pl p []→(frS S p e r' xs).O k=o:=λ k o h ho=>by
  show (if S.O k = .pl p [] then Lab.fz else S.O k)=o;rw[if_neg (by rw[h];exact ho),h]
 exact⟨rfl,rfl,rfl,Bva S p e r' xs hp,λ n q k h=>other k _ h (by simp),λ l q k h hq=>other k _ h (by simp[hq]),λ b k h=>other k _ h (by simp),λ k h=>other k _ h (by simp)⟩
def Z9:∀ (l:List Lf) {S:Sit} {A':Ab},Bd X S a→S.g=get A'→Frz (get A) (get A')→∃ S',Bd X S' a∧S'.g=get (ups A' (Ip A l))∧Wr X S S'∧Frz (get A) S'.g∧
  ∀ p v,Lf.al p v∈l→∀ n e r,∀ xs:List (Ty.den r),get A p=(n,.one (.own e r xs))→n=v→S'.g p=(n,.one (.fz e r xs))
 |[],S,A',K,hg,hf=>⟨S,K,hg,.refl S,by rw[hg];exact hf,by simp⟩
 |x::l,S,A',K,hg,hf=>by
  have first:∃ S1,Bd X S1 a∧S1.g=get (ups A' (Sw A x))∧Wr X S S1∧Frz (get A) S1.g∧∀ p v,x=Lf.al p v→∀ n e r,∀ xs:List (Ty.den r),get A p=(n,.one (.own e r xs))→n=v→S1.g p=(n,.one (.fz e r xs)):=by
   cases x with
   |al p v=>
    by_cases hown:∃ e r,∃ xs:List (Ty.den r),get A p=(v,.one (.own e r xs))
    ·obtain⟨e,r',xs,hp⟩:=hown
     have hc:Sw A (.al p v)=[⟨p,true,.one (.fz e r' xs)⟩]:=by simp[Sw,hp]
     rw[hc]
     have hfix:∀ S1:Sit,S1.g=get (ups A' [⟨p,true,.one (.fz e r' xs)⟩])→S1.g p=(v,.one (.fz e r' xs))→∀ p' v',Lf.al p v=Lf.al p' v'→∀ n e r,∀ xs:List (Ty.den r),get A p'=(n,.one (.own e r xs))→n=v'→S1.g p'=(n,.one (.fz e r xs)):=by
      intro S1 _ h1 p' v' h2 n e2 r2 xs2 h3 h4;cases h2;rw[hp]at h3;cases h3;exact h1
     rcases hf p with h0|⟨n,e2,r2,xs2,h1,h2⟩
     ·have hSp:S.g p=(v,.one (.own e r' xs)):=by rw[hg,h0,hp]
      have hg1:(frS S p e r' xs).g=get (ups A' [⟨p,true,.one (.fz e r' xs)⟩]):=by
       show upd S.g p _=_;rw[Oe,← hg]
      refine⟨_,(Tr K (by rw[hSp])).1,hg1,C6a K (by rw[hSp]),λ q=>?_,hfix _ hg1 (by show upd S.g p _ p=_;rw[Ay,hSp])⟩
      by_cases hq:q=p
      ·subst hq;exact .inr ⟨v,e,r',xs,hp,by show upd S.g q _ q=_;rw[Ay,hSp]⟩
      ·have:(frS S p e r' xs).g q=get A' q:=by show upd S.g p _ q=_;rw[B7 _ _ hq,hg]
       rw[this];exact hf q
     ·rw[hp]at h1;cases h1
      have hg1:S.g=get (ups A' [⟨p,true,.one (.fz e r' xs)⟩]):=by
       rw[Oe,hg];funext q
       by_cases hq:q=p
       ·subst hq;rw[Ay,h2]
       ·rw[B7 _ _ hq]
      exact⟨S,K,hg1,.refl S,by rw[hg];exact hf,hfix S hg1 (by rw[hg,h2])⟩
    ·have hc:Sw A (.al p v)=[]:=by
      simp only[Sw];split
      ·rename_i n e r' xs hp;cases hb:Nat.beq n v
       ·rfl
       have:n=v:=by simpa using hb
       subst this;exact absurd ⟨e,r',xs,hp⟩ hown
      ·rfl
     rw[hc];refine⟨S,K,hg,.refl S,by rw[hg];exact hf,λ p' v' h1 n e r xs h2 h3=>?_⟩;cases h1;subst h3;exact absurd ⟨e,r,xs,h2⟩ hown
   |_=>exact⟨S,K,hg,.refl S,by rw[hg];exact hf,by simp⟩
  obtain⟨S1,K1,hg1,E1,F1,P1⟩:=first
  obtain⟨S2,K2,hg2,E2,F2,P2⟩:=Z9 l K1 hg1 (by rw[← hg1];exact F1);refine⟨S2,K2,by rw[hg2,Ip,Bb],E1.trans E2,F2,λ p v hm n e r xs h1 h2=>?_⟩;rcases Vk.1 hm with hx|hl
  ·have h3:=P1 p v hx.symm n e r xs h1 h2;rcases F2 p with h4|⟨n',e',r',xs',h4,h5⟩
   ·-- it was read by all already
    have hv:=E2.later.ver p;have hA:=h4;rw[h1]at hA;obtain⟨ys,hy,_⟩:=E2.later.own p n e r xs hA (by rw[h3]);rw[h3]at hy;simp at hy
   ·rw[h1]at h4;cases h4;exact h5
  ·exact P2 p v hl n e r xs h1 h2
def Lta (hE:Iu X E) (K:Bd X S a) (hg:S.g=get A) {T:TypeId} {y:Operand} {s:Sv} (hs:opT E T A y=some s) (hnt:∀ vs,s ≠ .tup vs) (i:Nat):
  ∃ S',Bd X S' a∧S'.g=get (ups A (Ip A (parts s)++gone y s))∧S'.w=S.w∧S'.bb=S.bb∧S'.ph=S.ph∧Fg S S'∧(∀ b k,S.O k = .bx b→S'.O k = .bx b)∧(∀ b,(S'.g (H b)).1=(S.g (H b)).1∧∀ n,(S.g (H b)).2 = .one (.hd n)→S'.g (H b)=S.g (H b))∧
   (∀ n q x u,Bm X.P S (.tm n q) x u→Bm X.P S' (.tm n q) x u)∧
   ∃ us,Sq s (a.eval y) us∧Ac X.P S' (λ n => .tm i (pth s n)) 0 ((parts s).map (kept A)) us:=by
 obtain⟨S1,K1,hg1,E1,F1,P1⟩:=Z9 (X:=X) (a:=a) (A:=A) (parts s) K hg (λ p => .inl rfl)
 have keep:∀ (f:Nat→Lab) (hf:∀ n k,S.O k=f n→S1.O k=f n) (l:List Lf),(∀ x∈l,x∈parts s)→∀ j us,Ac X.P S f j l us→Ac X.P S1 f j (l.map (kept A)) us:=by
  intro f hf l
  induction l with
  |nil=>
   intro _ j us h
   cases us with
   |nil=>trivial
   |cons=>exact h.elim
  |cons x l ih=>
   intro hm j us h
   cases us with
   |nil=>exact h.elim
   |cons u us=>
    refine⟨?_,ih (λ z hz=>hm z (Vd _ hz)) _ _ h.2⟩;have h1:Bm X.P S (f j) x u:=h.1
    cases x with
    |al p v=>
     show Bm X.P S1 (f j) (Lk (Jb A (.al p v))) u;simp only[Jb];split
     ·rename_i n e r' xs hp;cases hb:Nat.beq n v
      ·exact trivial
      have hnv:n=v:=by simpa using hb
      subst hnv;rw[cond_true];show Bm X.P S1 (f j) (.fz e r' xs) u;have h2:=P1 p n (hm _ (by simp)) n e r' xs hp rfl;have h3:=K1.at_ p;rw[h2,E1.ph,← h1.2 (by rw[hg,hp])]at h3;exact Bm.relab (lab := .pl p []) rfl h3
     ·rename_i n e r' xs hp;cases hb:Nat.beq n v
      ·exact trivial
      have hnv:n=v:=by simpa using hb
      subst hnv;rw[cond_true];show Bm X.P S1 (f j) (.fz e r' xs) u;have h3:=K.at_ p;rw[hg,hp,← h1.2 (by rw[hg,hp])]at h3;have h4:Bm X.P S (.pl p []) (.fz e r' xs) u:=h3;exact(Bm.relab (lab':=f j) rfl h4).later E1.later (λ k hk=>⟨hf j k hk,by rw[E1.w]⟩)
     ·exact trivial
    |_=>exact h1.later E1.later (λ k hk=>⟨hf j k hk,by rw[E1.w]⟩)
 have base:∀ n q x u,Bm X.P S (.tm n q) x u→Bm X.P S1 (.tm n q) x u:=λ n q x u h=>h.later E1.later (λ k hk=>⟨E1.tm n q k hk,by rw[E1.w]⟩)
 have heads:∀ b,(S1.g (H b)).1=(S.g (H b)).1∧∀ n,(S.g (H b)).2 = .one (.hd n)→S1.g (H b)=S.g (H b):=λ b=>by
  rcases F1 (H b) with h1|⟨n',e,r',xs,h1,h2⟩
  ·exact⟨by rw[h1,hg],λ n _=>by rw[h1,hg]⟩
  ·exact⟨by rw[hg,h1,h2],λ n h=>by rw[hg,h1]at h;cases h⟩
 have calmOwn:∀ l:List Lf,Fk l=false→Fk (l.map (kept A))=false:=by
  intro l
  induction l with
  |nil=>intro;rfl
  |cons x l ih=>
   intro h
   have hc:∀ z:Lf,Fk (Lk z::l.map (kept A))=Fk (l.map (kept A)):=by intro z;cases z<;>rfl
   cases x with
   |own e r xs=>simp[Fk]at h
   |opn e r xs i b v=>simp[Fk]at h
   |al p v=>rw[Ya];exact(hc _).trans (ih (by simpa[Fk] using h))
   |_=>exact ih (by simpa[Fk] using h)
 have finish:∀ (us:List Value),Sq s (a.eval y) us→(Lr s=false→∃ f,Ac X.P S1 f 0 ((parts s).map (kept A)) us)→
   (∀ t,y = .tmp t→Lr s=true→Ac X.P S1 (λ n => .pl t (pth s n)) 0 ((parts s).map (kept A)) us)→((∀ t,y ≠ .tmp t)→Ac X.P S1 (λ n => .tm i (pth s n)) 0 ((parts s).map (kept A)) us)→
   ∃ S',Bd X S' a∧S'.g=get (ups A (Ip A (parts s)++gone y s))∧S'.w=S.w∧S'.bb=S.bb∧S'.ph=S.ph∧Fg S S'∧(∀ b k,S.O k = .bx b→S'.O k = .bx b)∧(∀ b,(S'.g (H b)).1=(S.g (H b)).1∧∀ n,(S.g (H b)).2 = .one (.hd n)→S'.g (H b)=S.g (H b))∧
   (∀ n q x u,Bm X.P S (.tm n q) x u→Bm X.P S' (.tm n q) x u)∧
   ∃ us,Sq s (a.eval y) us∧Ac X.P S' (λ n => .tm i (pth s n)) 0 ((parts s).map (kept A)) us:=by
  intro us hus h1 h2 h3
  cases ho:Lr s with
  |false=>
   obtain⟨f,h4⟩:=h1 ho
   have hgo:gone y s=[]:=by unfold gone;split<;>simp[ho]
   have hp:Fk (parts s)=false:=by
    cases s with
    |one x=>exact ho
    |agg l=>exact ho
    |tup vs=>exact absurd rfl (hnt vs)
   exact⟨S1,K1,by rw[hgo,Wo];exact hg1,E1.w,E1.bb,E1.ph,E1.later,E1.bx,heads,base,us,hus,h4.relab (calmOwn _ hp)⟩
  |true=>
   by_cases hy:∃ t,y = .tmp t
   ·obtain⟨t,rfl⟩:=hy;obtain⟨K2,g1,g2⟩:=Ni K1 t i
    have hgo:gone (.tmp t) s=[⟨t,false,.one .dead⟩]:=by simp[gone,ho]
    have htn:t<1000:=by
     rcases L8 hE K hg hs with⟨t',e,ht,_⟩|⟨hn,_⟩
     ·cases e;exact Yf ht K.nt
     ·exact absurd rfl (hn t)
    refine⟨_,K2,?_,E1.w,E1.bb,E1.ph,E1.later.trans (Jj S1 t i),λ b k hk=>(H5 (by simp[E1.bx b k hk])).trans (E1.bx b k hk),λ b=>?_,λ n q x u h=>g2 n q x u (base n q x u h),us,hus,(h2 t rfl ho).imp (λ n x u h=>g1 _ x u h)⟩
    ·rw[hgo,Bb,Au,← hg1];rfl
    ·have:(Mi S1 t i).g (H b)=S1.g (H b):=B7 _ _ (λ e=>by have h1:=Yxa b;rw[e]at h1;exact absurd htn (Nat.not_lt.2 h1));rw[this];exact heads b
   ·have hy':∀ t,y ≠ .tmp t:=λ t e=>hy ⟨t,e⟩
    have hgo:gone y s=[]:=by
     unfold gone;split
     ·exact absurd rfl (hy' _)
     ·rfl
    exact⟨S1,K1,by rw[hgo,Wo];exact hg1,E1.w,E1.bb,E1.ph,E1.later,E1.bx,heads,base,us,hus,h3 hy'⟩
 rcases L8 hE K hg hs with⟨t,rfl,ht,hst,het,hok⟩|⟨hnt',x,rfl,hx⟩
 ·cases s with
  |tup vs=>exact absurd rfl (hnt vs)
  |one x=>
   have hok':Ac X.P S (λ _ => .pl t []) 0 [x] [a.eval (.tmp t)]:=⟨hok,trivial⟩;refine finish [a.eval (.tmp t)] rfl (λ ho=>?_) (λ t' e ho=>?_) (λ h=>absurd rfl (h t))
   ·have:=keep (λ _ => .tm 0 []) (λ n k hk=>E1.tm _ _ k hk) [x] (by simp[parts]) 0 _ (hok'.relab ho);exact⟨_,this⟩
   ·cases e
    have hx:Ip A (parts (.one x))=[]∧kept A x=x:=by cases x<;>first|(simp[Lr,Fk]at ho;done)|exact⟨rfl,rfl⟩
    have hS1:S1.g t=(S.g t):=by
     have:=hg1;rw[hx.1]at this;rw[this,hg];rfl
    have hnow:=K1.at_ t;rw[hS1,← hst,E1.ph,← het]at hnow;refine⟨?_,trivial⟩;show Bm X.P S1 _ (kept A x) _;rw[hx.2];exact hnow
  |agg l=>
   obtain⟨us,e1,hl⟩:=hok;refine finish us e1 (λ ho=>?_) (λ t' e ho=>?_) (λ h=>absurd rfl (h t))
   ·have:=keep (λ _ => .tm 0 []) (λ n k hk=>E1.tm _ _ k hk) l (by simp[parts]) 0 us (hl.relab ho);exact⟨_,this⟩
   ·cases e;exact keep (λ n => .pl t [n]) (λ n k hk=>E1.pl t [n] k hk (by simp)) l (by simp[parts]) 0 us hl
 ·refine finish [a.eval y] rfl (λ ho=>?_) (λ t e=>absurd e (hnt' t)) (λ _=>?_)
  ·exact⟨_,keep (λ _ => .tm i []) (λ n k hk=>E1.tm _ _ k hk) [x] (by simp[parts]) 0 [a.eval y] ⟨hx _,trivial⟩⟩
  ·exact keep (λ _ => .tm i []) (λ n k hk=>E1.tm _ _ k hk) [x] (by simp[parts]) 0 [a.eval y] ⟨hx _,trivial⟩
end

def Ml (g:Nat→Nat×Sv) (b j:Nat) (l:List Lf):Nat→Nat×Sv:=λ p=>if C b j≤p∧p<C b j+l.length then ((g p).1+1,.one (l.getD (p-C b j) .dead)) else g p
def Jf (ph:Nat→Value) (b j:Nat) (us:List Value):Nat→Value:=λ p=>if C b j≤p∧p<C b j+us.length then us.getD (p-C b j) undef else ph p
def Id (b:Nat):∀ (l:List Lf) (A:Ab) (j:Nat),get (ups A (D8 b j l))=Ml (get A) b j l
 |[],A,j=>by
  funext p;simp only[D8,ups,Ml,Vs,Zv];rw[if_neg (by omega)]
 |x::l,A,j=>by
  show get (ups (up A ⟨C b j,false,.one x⟩) (D8 b (j+1) l))=_;rw[Id b l _ (j+1),L6];have hc:C b (j+1)=C b j+1:=rfl;funext p;unfold Ml;rw[hc];simp only[Vh]
  by_cases h1:p=C b j
  ·subst h1;rw[if_neg (by omega),if_pos (by omega),Ay];simp
  ·rw[B7 _ _ h1]
   by_cases h2:C b j+1≤p∧p<C b j+1+l.length
   ·rw[if_pos h2,if_pos (by omega)];rw[show p-C b j=(p-(C b j+1))+1 by omega,List.getD_cons_succ]
   ·rw[if_neg h2,if_neg (by omega)]
def W6 (b off:Nat):Nat→List Nat→Option Lab:=λ n q=>if n=0 then (match q with
 |[]=>some (.pl (C b off) [])
 |[j]=>some (.pl (C b (off+j)) [])
 |_=>none) else none
section
variable {X:Cx} {S S':Sit} {a:Act} {E:En} {A:Ab} {o:Oper} {R:Type} {Kc:List Up→Option R} {r:R}
def Ac.at {P:Program} {f:Nat→Lab}:∀ {j:Nat} {xs:List Lf} {us:List Value} (i:Nat),Ac P S f j xs us→i<xs.length→∃ x u,xs.getD i .dead=x∧us.getD i undef=u∧us[i]? = some u∧Bm P S (f (j+i)) x u
 |_,[],_,i,_,hi=>by simp at hi
 |j,x::xs,u::us,0,h,_=>⟨x,u,rfl,rfl,rfl,h.1⟩
 |j,x::xs,u::us,i+1,h,hi=>by
  obtain⟨x',u',h1,h2,h3,h4⟩:=h.2.at i (by simpa using hi);exact⟨x',u',by simpa using h1,by simpa using h2,by simpa using h3,by rw[show j+(i+1)=j+1+i by omega];exact h4⟩
 |_,_::_,[],_,h,_=>h.elim
def Fy {b b' off n:Nat} (h:off+n≤999):¬ (C b off≤H b'∧H b'<C b off+n):=by unfold C H;omega
def Pk {b b' off n j:Nat} (h:off+n≤999) (hj:j<999) (hne:b'≠b):¬ (C b off≤C b' j∧C b' j<C b off+n):=by unfold C;omega
def Km {b off n t:Nat} (ht:t<1000):¬ (C b off≤t∧t<C b off+n):=by unfold C;omega
def A0a (S:Sit) (hb:Nat→List Nat→Option Lab) (b off:Nat) (m:List Lf) (us:List Value) (w:World):Sit:=
 { S with O:=atO S.O hb,g:=Ml S.g b off m,ph:=Jf S.ph b off us,w:=w }
def Bd.cells (K:Bd X S a) {b n off:Nat} {m:List Lf} {us:List Value} {q:Nat→List Nat} {c:Array Value} {e:TypeId} (hh:(S.g (H b)).2 = .one (.hd n)) (hoff:off+m.length≤n)
  (hc:S.w.heap[(S.bb b).1]? = some (.cells c e (0,0))) (hl:Ac X.P S (λ j => .tm 0 (q j)) 0 m us) (hq:∀ j,j<m.length→W6 b off 0 (q j)=some (.pl (C b (off+j)) [])) (hnh:∀ k,.hd k∉m):
  Bd X (A0a S (W6 b off) b off m us (S.w.setRow (S.bb b).1 (c.toList.take ((S.bb b).2+off)++us++c.toList.drop ((S.bb b).2+off+us.length)).toArray)) a∧
  Fg S (A0a S (W6 b off) b off m us (S.w.setRow (S.bb b).1 (c.toList.take ((S.bb b).2+off)++us++c.toList.drop ((S.bb b).2+off+us.length)).toArray)):=by
 obtain⟨hn,c0,e0,h1,h2,h3,h4⟩:=K.box b n hh;rw[hc]at h1;cases h1;have hlen:=hl.len;generalize hw:S.w.setRow (S.bb b).1 (c.toList.take ((S.bb b).2+off)++us++c.toList.drop ((S.bb b).2+off+us.length)).toArray=w'
 have hnew:w'.heap[(S.bb b).1]? = some (.cells (c.toList.take ((S.bb b).2+off)++us++c.toList.drop ((S.bb b).2+off+us.length)).toArray e (0,0)):=by rw[← hw];exact setRow_heap _ _ _ _ _ _ hc
 have hold:∀ k,S.O k ≠ .bx b→w'.heap[k]? = S.w.heap[k]? := λ k hk=>by
  rw[← hw];exact setRow_other _ _ _ _ (λ e=>hk (e ▸ h2))
 have hsz:(c.toList.take ((S.bb b).2+off)++us++c.toList.drop ((S.bb b).2+off+us.length)).toArray.size=c.size:=by
  simp only[Ddb,Vi,Vq,We,Ze];omega
 have hcell:∀ i,(i<(S.bb b).2+off∨(S.bb b).2+off+us.length≤i)→(c.toList.take ((S.bb b).2+off)++us++c.toList.drop ((S.bb b).2+off+us.length)).toArray[i]? = c[i]?:=by
  intro i hi
  have ht:(c.toList.take ((S.bb b).2+off)).length=(S.bb b).2+off:=by rw[Vq,Ze];omega
  rw[Ehb,← Zq];rcases hi with hi|hi
  ·rw[Vo,Yj (by omega),Wp,if_pos hi]
  ·rw[Yd (by rw[Vi,ht];omega),Vi,ht,Yv];congr 1;omega
 have hcell2:∀ i,i<us.length→(c.toList.take ((S.bb b).2+off)++us++c.toList.drop ((S.bb b).2+off+us.length)).toArray[(S.bb b).2+off+i]? = us[i]?:=by
  intro i hi
  have ht:(c.toList.take ((S.bb b).2+off)).length=(S.bb b).2+off:=by rw[Vq,Ze];omega
  rw[Ehb,Yj (by rw[Vi,ht];omega),Yd (by omega),ht];congr 1;omega
 have gout:∀ p,¬ (C b off≤p∧p<C b off+m.length)→Ml S.g b off m p=S.g p∧Jf S.ph b off us p=S.ph p:=λ p hp=>by
  unfold Ml Jf;rw[if_neg hp,if_neg (by rw[hlen];exact hp)];exact⟨rfl,rfl⟩
 have L:Fg S (A0a S (W6 b off) b off m us w'):=by
  refine⟨λ p=>?_,λ p hp=>?_,λ p v e r xs' hp hv=>?_,λ _ _=>rfl,λ k hk=>⟨Bi hk (by simp),hold k (by simp[hk])⟩,λ b' m' hv hb' hO=>?_,λ p hp hd=>?_⟩
  ·show (S.g p).1≤(Ml S.g b off m p).1;unfold Ml
   split<;>simp
  ·show Jf S.ph b off us p=S.ph p
   by_cases hin:C b off≤p∧p<C b off+m.length
   ·have:(Ml S.g b off m p).1=(S.g p).1:=hp;unfold Ml at this;rw[if_pos hin]at this;simp at this
   ·exact(gout p hin).2
  ·have hp':Ml S.g b off m p=(v,.one (.own e r xs')):=hp
   by_cases hin:C b off≤p∧p<C b off+m.length
   ·unfold Ml at hp';rw[if_pos hin]at hp';simp only[Vx]at hp';omega
   ·rw[(gout p hin).1]at hp';exact⟨xs',hp',rfl⟩
  ·refine⟨?_,Bi hO (by simp),λ c1 e1 f1 hc1=>?_⟩
   ·show (Ml S.g b off m (H b')).2=_;rw[(gout _ (Fy (by omega))).1];exact hb'
   ·by_cases hbb:b'=b
    ·subst hbb;have hc1':S.w.heap[(S.bb b').1]? = some (.cells c1 e1 f1):=hc1;rw[hc]at hc1';cases hc1';rw[hh]at hb';cases hb';exact⟨_,hnew,hsz,λ j hj=>hcell j (by rw[hlen];have hj':j<(S.bb b').2∨(S.bb b').2+n≤j:=hj;omega)⟩
    ·exact⟨c1,(hold _ (by rw[hO];simp[hbb])).trans hc1,rfl,λ _ _=>rfl⟩
  ·have hout:¬ (C b off≤p∧p<C b off+m.length):=λ hin=>by
    have:(Ml S.g b off m p).1=(S.g p).1:=hp;unfold Ml at this;rw[if_pos hin]at this;simp at this
   have hgp:(A0a S (W6 b off) b off m us w').g p=S.g p:=(gout p hout).1;rw[hgp];exact⟨hd,λ _ _ _ h=>h,λ k hk=>⟨.inl (Bi hk (by simp)),hold k (by simp[hk])⟩⟩
 refine⟨⟨K.nt,λ k hk=>?_,λ l=>?_,λ b' n' hb'=>?_,λ b' n' hb'=>?_,λ t ht=>?_,K.sz,K.df,?_⟩,L⟩
 ·have:k<S.w.heap.size:=K.lt k (λ e=>hk (Bi e (by simp)));show k<w'.heap.size;rw[← hw]
  simpa[World.setRow] using this
 ·show Ib X.P _ l (Ml S.g b off m l).2 (Jf S.ph b off us l)
  by_cases hin:C b off≤l∧l<C b off+m.length
  ·obtain⟨x,u,e1,e2,e3,e4⟩:=hl.at (l-C b off) (by omega);unfold Ml Jf;rw[if_pos hin,if_pos (by rw[hlen];exact hin),e1,e2];refine Bm.later L e4 (λ k hk=>⟨?_,hold k (by simp[hk])⟩);rw[Wh]at hk;have:=I6 (h:=W6 b off) hk (hq _ (by omega));rwa [show C b (off+(l-C b off))=l by (have:C b (off+(l-C b off))=C b off+(l-C b off):=by (unfold C;omega));omega]at this
  ·rw[(gout l hin).1,(gout l hin).2];exact(K.at_ l).later L (λ p k hk=>⟨Bi hk (by simp),hold k (by simp[hk])⟩)
 ·have e1:(S.g (H b')).2 = .one (.hd n'):=by
   have:(Ml S.g b off m (H b')).2 = .one (.hd n'):=hb';rwa [(gout _ (Fy (by omega))).1]at this
  obtain⟨g1,c1,e2,g2,g3,g4,g5⟩:=K.box b' n' e1
  by_cases hbb:b'=b
  ·subst hbb;rw[hc]at g2;cases g2;rw[hh]at e1;cases e1;refine⟨g1,_,_,hnew,Bi g3 (by simp),by rw[hsz];exact g4,λ j hj=>?_⟩;show (_:Array Value)[(S.bb b').2+j]? = some (Jf S.ph b' off us (C b' j))
   by_cases hin:C b' off≤C b' j∧C b' j<C b' off+m.length
   ·have h5:off≤j∧j<off+m.length:=by unfold C at hin;omega
    have h6:C b' j-C b' off=j-off:=by unfold C;omega
    unfold Jf;rw[if_pos (by rw[hlen];exact hin),h6,show (S.bb b').2+j=(S.bb b').2+off+(j-off) by omega,hcell2 _ (by omega)];rw[Vb,Vg (by omega)];rfl
   ·rw[(gout _ hin).2,← g5 j hj];refine hcell _ ?_;unfold C at hin;omega
  ·have hne:S.O (S.bb b').1 ≠ .bx b:=by rw[g3];simp[hbb]
   refine⟨g1,c1,e2,(hold _ hne).trans g2,Bi g3 (by simp),g4,λ j hj=>?_⟩;show _=some (Jf S.ph b off us (C b' j));rw[(gout _ (Pk (by omega) (by omega) hbb)).2];exact g5 j hj
 ·have e1:(S.g (H b')).2 = .one (.hd n'):=by
   have:(Ml S.g b off m (H b')).2 = .one (.hd n'):=hb';rwa [(gout _ (Fy (by omega))).1]at this
  exact K.rgn b' n' e1
 ·show a.tmps.getD t undef=Jf S.ph b off us t;rw[(gout _ (Km (Yf ht K.nt))).2];exact K.sl t ht
 ·have F:=K.fr;refine⟨?_,?_,?_,?_,λ k hk h0=>?_,λ k hk h0=>?_,λ k b' hk h0=>?_⟩
  ·rw[show (A0a S (W6 b off) b off m us w').w=w' from rfl,← hw];exact F.os
  ·rw[show (A0a S (W6 b off) b off m us w').w=w' from rfl,← hw];exact F.tape
  ·rw[show (A0a S (W6 b off) b off m us w').w=w' from rfl,← hw];exact F.out
  ·show _≤w'.heap.size;rw[← hw]
   simpa[World.setRow] using F.size
  ·obtain⟨f1,f2⟩:=F.no k hk h0;exact⟨Bi f1 (by simp),(hold k (by simp[f1])).trans f2⟩
  ·obtain⟨f1,f2⟩:=F.fz k hk h0;exact⟨Bi f1 (by simp),(hold k (by simp[f1])).trans f2⟩
  ·obtain⟨f1,c1,c2,e1,f,f2,f3,f4,f5⟩:=F.bx k b' hk h0;refine⟨Bi f1 (by simp),?_⟩
   by_cases hbk:k=(S.bb b).1
   ·subst hbk;rw[h2]at f1;cases f1;rw[hc]at f3;cases f3;obtain⟨q1,_,q3⟩:=K.rgn b n hh;have hb2:b<2000:=Nat.lt_of_not_le λ h=>q3 h hk b h0;obtain⟨r1,r2,r3⟩:=q1 hb2 hk;refine⟨c1,_,_,_,f2,hnew,hsz.trans f4,λ i hi=>?_⟩;rw[hcell i (by omega)];exact f5 i hi
   ·refine⟨c1,c2,e1,f,f2,?_,f4,f5⟩;rw[← f3];show w'.heap[k]? = _;rw[← hw];exact setRow_other _ _ _ _ hbk
end

section
attribute [local irreducible] C H
def Tv (S:Sit) (w:World) (O:Nat→Lab):Sit := { S with O:=O,w:=w }
def Eia (S:Sit) (d k o:Nat) (m:List Lf) (us:List Value):Sit:=
 { O:=λ j=>if j=k then .bx d else atO S.O (W6 d 0) j,bb:=upd S.bb d (k,o),g:=Ml (upd S.g (H d) ((S.g (H d)).1+1,.one (.hd m.length))) d 0 m,ph:=Jf S.ph d 0 us,w:=S.w }
section
variable {X:Cx} {S S':Sit} {a:Act} {E:En} {A:Ab} {o:Oper} {R:Type} {Kc:List Up→Option R} {r:R}
def Bd.grow (K:Bd X S a) {w':World} {row:Option Nat} {O':Nat→Lab} (hw:S.w.grownBy w' row) (hrow:∀ k,row=some k→∃ n q,S.O k = .tm n q)
  (hO:∀ k,k<S.w.heap.size→(∀ n q,S.O k ≠ .tm n q)→O' k=S.O k) (hlt:∀ k,O' k ≠ .no→k<w'.heap.size):
  Bd X (Tv S w' O') a∧Fg S (Tv S w' O'):=by
 have keep:∀ k o,S.O k=o→k<S.w.heap.size→(∀ n q,o ≠ .tm n q)→O' k=o∧w'.heap[k]? = S.w.heap[k]?:=by
  intro k o' h hk ho;refine⟨(hO k hk (by rw[h];exact ho)).trans h,hw.block k hk (λ e=>?_)⟩;obtain⟨n,q,h2⟩:=hrow k e.symm;exact ho n q (h.symm.trans h2)
 have keep':∀ k o,S.O k=o→o ≠ .no→(∀ n q,o ≠ .tm n q)→O' k=o∧w'.heap[k]? = S.w.heap[k]? := λ k o' h hn ho=>keep k o' h (K.lt k (by rw[h];exact hn)) ho
 have L:Fg S (Tv S w' O'):=⟨λ _=>Vw _,λ _ _=>rfl,λ p v e r xs' h _=>⟨xs',h,rfl⟩,λ _ _=>rfl,λ k h=>keep' k _ h (by simp) (by simp),Fg.box_of (λ _ _ _ h=>h) (λ k b h=>keep' k _ h (by simp) (by simp)),λ p _ hd=>⟨hd,λ _ _ _ h=>h,λ k hk=>by
  obtain⟨h1,h2⟩:=keep' k _ hk (by simp) (by simp)
  exact⟨.inl h1,h2⟩⟩⟩
 have F:=K.fr;refine⟨⟨K.nt,hlt,λ l=>(K.at_ l).later L (λ p k h=>keep' k _ h (by simp) (by simp)),λ b n h=>?_,K.rgn,K.sl,K.sz,K.df,⟨hw.os.trans F.os,hw.tape.trans F.tape,hw.output.trans F.out,Zu F.size hw.size,λ k hk h0=>?_,λ k hk h0=>?_,λ k b hk h0=>?_⟩⟩,L⟩
 ·obtain⟨hn,c,e,e1,e2,e3,e4⟩:=K.box b n h;obtain⟨h5,h6⟩:=keep' _ _ e2 (by simp) (by simp);exact⟨hn,c,e,h6.trans e1,h5,e3,e4⟩
 ·obtain⟨f1,f2⟩:=F.no k hk h0;obtain⟨h5,h6⟩:=keep k _ f1 (Yf hk F.size) (by simp);exact⟨h5,h6.trans f2⟩
 ·obtain⟨f1,f2⟩:=F.fz k hk h0;obtain⟨h5,h6⟩:=keep k _ f1 (Yf hk F.size) (by simp);exact⟨h5,h6.trans f2⟩
 ·obtain⟨f1,c,c',e,f,f2,f3,f4,f5⟩:=F.bx k b hk h0;obtain⟨h5,h6⟩:=keep k _ f1 (Yf hk F.size) (by simp);exact⟨h5,c,c',e,f,f2,h6.trans f3,f4,f5⟩
def Bd.newbox (K:Bd X S a) {d k o:Nat} {m:List Lf} {us:List Value} {q:Nat→List Nat} {c:Array Value} {e:TypeId} {l0:List Nat} {n0:Nat} (hk:S.O k = .tm n0 l0) (hn0:n0≠0) (hk0:X.w0.heap.size≤k)
  (hc:S.w.heap[k]? = some (.cells c e (0,0))) (ho:o+m.length≤c.size) (hcs:∀ j,j<m.length→c[o+j]? = us[j]?) (hl:Ac X.P S (λ j => .tm 0 (q j)) 0 m us)
  (hq:∀ j,j<m.length→W6 d 0 0 (q j)=some (.pl (C d (0+j)) [])) (hm:m.length<999) (hnh:∀ k,.hd k∉m) (hnp:X.np≤d) (hd1:d<1000):
  Bd X (Eia S d k o m us) a∧Fg S (Eia S d k o m us):=by
 have hlen:=hl.len
 have gout:∀ p,p≠H d→¬ (C d 0≤p∧p<C d 0+m.length)→(Eia S d k o m us).g p=S.g p∧Jf S.ph d 0 us p=S.ph p:=λ p hp1 hp=>by
  refine⟨?_,?_⟩
  ·show Ml _ d 0 m p=_;unfold Ml;rw[if_neg hp,B7 _ _ hp1]
  ·unfold Jf;rw[if_neg (by rw[hlen];exact hp)]
 have hH:¬ (C d 0≤H d∧H d<C d 0+m.length):=Fy (by omega)
 have gH:(Eia S d k o m us).g (H d)=((S.g (H d)).1+1,.one (.hd m.length)):=by
  show Ml _ d 0 m (H d)=_;unfold Ml;rw[if_neg hH,Ay]
 have gin:∀ p,(C d 0≤p∧p<C d 0+m.length)→(Eia S d k o m us).g p=((S.g p).1+1,.one (m.getD (p-C d 0) .dead))∧Jf S.ph d 0 us p=us.getD (p-C d 0) undef:=λ p hp=>by
  refine⟨?_,?_⟩
  ·show Ml _ d 0 m p=_;unfold Ml;rw[if_pos hp,B7 _ _ (λ e=>by rw[e]at hp;exact hH hp)]
  ·unfold Jf;rw[if_pos (by rw[hlen];exact hp)]
 have keep:∀ j o',S.O j=o'→(∀ n q,o' ≠ .tm n q)→(Eia S d k o m us).O j=o':=λ j o' h ho'=>by
  have:j≠k:=λ e=>ho' n0 l0 (by rw[← h,e,hk]);show (if j=k then _ else _)=_;rw[if_neg this];exact Bi h ho'
 have L:Fg S (Eia S d k o m us):=by
  refine⟨λ p=>?_,λ p hp=>?_,λ p v e r xs' hp hv=>?_,λ b hb=>?_,λ j hj=>⟨keep j _ hj (by simp),rfl⟩,Fg.box_of (λ b n hv hh=>?_) (λ j b h=>⟨keep j _ h (by simp),rfl⟩),λ p hp hd=>?_⟩
  ·by_cases h1:p=H d
   ·subst h1;rw[gH];simp
   ·by_cases h2:C d 0≤p∧p<C d 0+m.length
    ·rw[(gin p h2).1];simp
    ·rw[(gout p h1 h2).1];exact Vw _
  ·show Jf S.ph d 0 us p=_
   by_cases h2:C d 0≤p∧p<C d 0+m.length
   ·rw[(gin p h2).1]at hp;simp at hp
   ·unfold Jf;rw[if_neg (by rw[hlen];exact h2)]
  ·by_cases h1:p=H d
   ·subst h1;rw[gH]at hp;simp at hp
   ·by_cases h2:C d 0≤p∧p<C d 0+m.length
    ·rw[(gin p h2).1]at hp;simp only[Vx]at hp;omega
    ·rw[(gout p h1 h2).1]at hp;exact⟨xs',hp,rfl⟩
  ·by_cases hbd:b=d
   ·subst hbd;rw[gH]at hb;simp at hb
   ·exact B7 _ _ hbd
  ·have hbd:H b≠H d:=λ e=>by rw[e,gH]at hv;simp at hv
   rw[(gout _ hbd (Fy (by omega))).1];exact hh
  ·have h1:p≠H d:=λ e=>by subst e;rw[gH]at hp;simp at hp
   have h2:¬ (C d 0≤p∧p<C d 0+m.length):=λ h=>by rw[(gin p h).1]at hp;simp at hp
   rw[(gout p h1 h2).1];exact⟨hd,λ _ _ _ h=>h,λ j hj=>⟨.inl (keep j _ hj (by simp)),rfl⟩⟩
 have F:=K.fr;refine⟨⟨K.nt,λ j hj=>?_,λ l=>?_,λ b n hb=>?_,λ b n hb=>?_,λ t ht=>?_,K.sz,K.df,⟨F.os,F.tape,F.out,F.size,λ j hj h0=>?_,λ j hj h0=>?_,λ j b hj h0=>?_⟩⟩,L⟩
 ·exact K.lt j (λ e=>hj (keep j _ e (by simp)))
 ·show Ib X.P _ l ((Eia S d k o m us).g l).2 (Jf S.ph d 0 us l)
  by_cases h1:l=H d
  ·subst h1;rw[gH];trivial
  ·by_cases h2:C d 0≤l∧l<C d 0+m.length
   ·obtain⟨x,u,e1,e2,e3,e4⟩:=hl.at (l-C d 0) (by omega);rw[(gin l h2).1,(gin l h2).2,e1,e2];refine Bm.later L e4 (λ j hj=>⟨?_,rfl⟩);rw[Wh]at hj;have hjk:j≠k:=λ e=>hn0 (by rw[e,hk]at hj;cases hj;rfl);show (if j=k then _ else _)=_;rw[if_neg hjk];have:=I6 (h:=W6 d 0) hj (hq _ (by omega));rwa [show C d (0+(l-C d 0))=l by (have:C d (0+(l-C d 0))=C d 0+(l-C d 0):=by (unfold C;omega));omega]at this
   ·rw[(gout l h1 h2).1,(gout l h1 h2).2];exact(K.at_ l).later L (λ p j hj=>⟨keep j _ hj (by simp),rfl⟩)
 ·by_cases hbd:b=d
  ·subst hbd;rw[gH]at hb;cases hb;refine⟨hm,c,e,?_,?_,?_,λ j hj=>?_⟩
   ·show S.w.heap[(upd S.bb b (k,o) b).1]? = _;rw[Ay];exact hc
   ·show (if (upd S.bb b (k,o) b).1=k then _ else _)=_;rw[Ay,if_pos rfl]
   ·show (upd S.bb b (k,o) b).2+_≤_;rw[Ay];exact ho
   ·show c[(upd S.bb b (k,o) b).2+j]? = some (Jf S.ph b 0 us (C b j))
    have h2:C b 0≤C b j∧C b j<C b 0+m.length:=by unfold C;omega
    rw[Ay,(gin _ h2).2,hcs j hj,show C b j-C b 0=j by unfold C;omega];rw[Vb,Vg (by omega)];rfl
  ·have h1:H b≠H d:=λ e=>hbd (Z2 e)
   have e1:(S.g (H b)).2 = .one (.hd n):=by rwa [(gout _ h1 (Fy (by omega))).1]at hb
   obtain⟨g1,c1,e2,g2,g3,g4,g5⟩:=K.box b n e1;have hbb:(Eia S d k o m us).bb b=S.bb b:=B7 _ _ hbd;rw[hbb];refine⟨g1,c1,e2,g2,keep _ _ g3 (by simp),g4,λ j hj=>?_⟩;show _=some (Jf S.ph d 0 us (C b j));rw[(gout _ (Ywa (by omega)) (Pk (by omega) (by omega) hbd)).2];exact g5 j hj
 ·by_cases hbd:b=d
  ·subst hbd;refine⟨λ _ hlt=>?_,λ h=>absurd h (by unfold Cx.pb;omega),λ h=>absurd h (by omega)⟩;have:(upd S.bb b (k,o) b).1<X.w0.heap.size:=hlt;rw[Ay]at this;exact absurd this (by simpa using hk0)
  ·have h1:H b≠H d:=λ e=>hbd (Z2 e)
   have e1:(S.g (H b)).2 = .one (.hd n):=by rwa [(gout _ h1 (Fy (by omega))).1]at hb
   have hbb:(Eia S d k o m us).bb b=S.bb b:=B7 _ _ hbd;rw[hbb];exact K.rgn b n e1
 ·show a.tmps.getD t undef=Jf S.ph d 0 us t;have:=Km (b:=d) (off:=0) (n:=us.length) (Yf ht K.nt);unfold Jf;rw[if_neg this];exact K.sl t ht
 ·obtain⟨f1,f2⟩:=F.no j hj h0;exact⟨keep j _ f1 (by simp),f2⟩
 ·obtain⟨f1,f2⟩:=F.fz j hj h0;exact⟨keep j _ f1 (by simp),f2⟩
 ·obtain⟨f1,rest⟩:=F.bx j b hj h0;exact⟨keep j _ f1 (by simp),rest⟩
def Lv:∀ t:Ty,(Fb t).length=t.sz
 |.i _=>rfl
 |.b=>rfl
 |.s=>rfl
 |.sl _ _=>rfl
 |.ow _ _=>rfl
 |.pr x y=>by show (Fb x++Fb y).length=x.sz+y.sz;rw[Vi,Lv x,Lv y]
def Eza {P:Program} {T:TypeId} {t:TI} (h:TOk P T t):∃ d,P.underlying T=some d∧Bwa (P.underlying T)=t.ag:=by
 have:=h.desc;unfold Rc at this
 split at this<;>first|(cases this;done)|(rename_i hu;exact⟨_,hu,by rw[hu];rfl⟩)
def Lua {P:Program} {T:TypeId} {t:TI} (h:TOk P T t) (ha:t.ag=false):t.ty.sz=1:=by
 obtain⟨i,_,_,_,_,h4⟩:=h.info;have:=congrArg length (h4 ha);rw[Lv]at this;exact this
def Oh {P:Program} {T:TypeId} {t:TI} (h:TOk P T t):(P.info? T).map (λ i=>i.size)=some t.ty.sz:=by
 obtain⟨i,h1,h2,_⟩:=h.info;rw[h1,Dpb,h2]
def F0a {P:Program} {w:World} {T:TypeId} {t:TI} {x:Operand} {k o':Nat} {cs:List Value} (ht:TOk P T t) (ho:o.op = .load T x) (he:a.eval x = .pointer (some ⟨k,o',none⟩)) (hc:Ep w k o' cs) (hl:cs.length=t.ty.sz):
  ∃ u,(if t.ag then u = .agg cs.toArray else cs=[u])∧(execOp a.eval o).run P w = .ok (.value u) w:=by
 obtain⟨d,hd,hagg⟩:=Eza ht
 have hc':∀ j v,cs[j]? = some v→w.cell? (Addr.add ⟨k,o',none⟩ j)=some v:=λ j v hj=>by rw[Ke];exact hc j v hj
 cases ha:t.ag with
 |true=>
  rw[ha]at hagg;refine⟨_,rfl,?_⟩;unfold execOp;have hlc:=run_loadCells_list (P:=P) w ⟨k,o',none⟩ cs hc';simp only[ho,he,Instr.loadAt,Instr.sureAddr,Wd,Yb,Wc,loadVar,Mj hd hagg,if_true,Iv (Oh ht),← hl,hlc]
 |false=>
  rw[ha]at hagg;have h1:=Lua ht ha;rw[h1]at hl;obtain⟨u,rfl⟩:∃ u,cs=[u]:=Eeb.1 hl;refine⟨u,rfl,?_⟩;have h0:=hc 0 u rfl;rw[Zv]at h0;unfold execOp;simp[ho,he,Instr.loadAt,Instr.sureAddr,loadVar,Mj hd hagg,h0]
def Q6 (hE:Iu X E) (K:Bd X S a) (hg:S.g=get A) {T:TypeId} {t:TI} {x:Operand} {d k o':Nat} {l:List Lf} {cs:List Value} {s:Sv} (ht:TOk X.P T t) (ho:o.op = .load T x) (hod:o.dst=some d) (hd:d<X.nt)
  (he:a.eval x = .pointer (some ⟨k,o',none⟩)) (hc:Ep S.w k o' cs) (hlen:l.length=t.ty.sz) (hs:Jx t.ag l=some s) (hown:Fk l=false) {f:Nat→Lab} (hl:Ac X.P S f 0 l cs):
  Qwa X o a S.w (ups A [⟨d,false,s⟩]):=by
 obtain⟨u,e1,hrun⟩:=F0a (P:=X.P) ht ho he hc (hl.len.trans hlen);have hsv:Ib X.P S d s u:=Lu hs e1 (hl.relab hown);have K2:=K.put0 hd s u d (by rw[Pj hs,hown]) hsv;refine Av (S:=Jz S (λ _ _=>none) d s u) hrun (by rw[hod];exact K2) ?_;show upd S.g d _=_;rw[Au,← hg]
def Oi (K:Bd X S a) (hg:S.g=get A) (b:Nat):∀ (n j:Nat),(cellsOf A b j n).length=n∧Fk (cellsOf A b j n)=false∧∀ f i,Ac X.P S f i (cellsOf A b j n) ((List.range n).map λ i=>S.ph (C b (j+i)))
 |0,j=>⟨rfl,rfl,λ f i=>trivial⟩
 |n+1,j=>by
  obtain⟨h1,h2,h3⟩:=Oi K hg b n (j+1);have hat:=K.at_ (C b j);rw[hg]at hat
  have hr:(List.range (n+1)).map (λ i=>S.ph (C b (j+i)))=S.ph (C b j)::(List.range n).map (λ i=>S.ph (C b (j+1+i))):=by
   rw[List.range_succ_eq_map,Ya,Dqb,Zv];congr 1;apply D1b;intro i _;show S.ph (C b (j+(i+1)))=_;rw[show j+(i+1)=j+1+i by omega]
  refine⟨by simp[cellsOf,h1],?_,λ f i=>?_⟩
  ·unfold cellsOf;split
   ·exact h2
   ·exact h2
   ·rename_i v x hne hne2 hp
    cases x<;>first|exact h2|exact(hne _ _ _ rfl).elim|exact(hne2 _ _ _ _ _ _ rfl).elim
   ·exact h2
  ·rw[hr];unfold cellsOf;refine⟨?_,h3 f (i+1)⟩;split
   ·rename_i v e r' xs hp;exact⟨by rw[hg,hp];exact Vw _,λ _=>rfl⟩
   ·rename_i hp;exact⟨by rw[hg,hp];exact Vw _,λ _=>rfl⟩
   ·rename_i v x hne hne2 hp;rw[hp]at hat;refine Bm.relab (lab := .pl (C b j) []) ?_ hat
    cases x<;>first|rfl|exact(hne _ _ _ rfl).elim|exact(hne2 _ _ _ _ _ _ rfl).elim
   ·trivial
def Ac.ofRep {P:Program} {l:List Lf} {us:List Value} (h:Jt (It P (λ k=>S.O k = .fz) S.w) l us):∀ (f:Nat→Lab) (j:Nat),Ac P S f j l us:=by
 induction h with
 |nil=>intro f j;trivial
 |@cons x u xs us hx _ ih=>
  intro f j;refine⟨?_,ih f (j+1)⟩
  cases x<;>first|exact hx|exact hx.elim
def C7a {P:Program} {G:Nat→Prop} {w:World} {l:List Lf} {us:List Value} (h:Jt (It P G w) l us):Fk l=false:=by
 induction h with
 |nil=>rfl
 |@cons x u xs us hx _ ih=>cases x<;>first|exact ih|exact hx.elim
def Jg {w:World} {k o':Nat} {cs:List Value} (h:Ep w k o' cs) (off n:Nat):Ep w k (o'+off) ((cs.drop off).take n):=by
 intro j u hu;rw[Wp]at hu;split at hu
 ·rw[Yv]at hu;rw[Zk];exact h _ _ hu
 ·cases hu
def Gza (K:Bd X S a) {p v:Nat} {i:Int} {off:Nat} {lab:Lab} {u:Value} {e:TypeId} {r':Ty} {xs:List r'.den} (hno:J6 r'=true) (hp:S.g p=(v,.one (.own e r' xs))) (h:Bm X.P S lab (.ep p v i off) u):
  ∃ k cs cur cap,u = .pointer (some ⟨k,i.toNat*r'.sz+off,none⟩)∧r'.rep X.P (λ k=>S.O k = .fz) S.w (xs.getD i.toNat r'.dflt) cs∧Ep S.w k (i.toNat*r'.sz) cs∧i.toNat<xs.length∧
   S.ph p = .slice (some ⟨k,0,none⟩) xs.length cap∧S.w.heap[k]? = some (.cells cur e (0,0))∧S.O k = .pl p []:=by
 obtain⟨_,h2⟩:=h;obtain⟨h0,h1,k,cap,h3,h4⟩:=h2 e r' xs hp
 have hown:Ff X.P S.O S.w (.pl p []) e r' xs (S.ph p):=by have:=K.at_ p;rw[hp]at this;exact this
 obtain⟨_,cs,hrow,hrows,hk⟩:=(Ff.flat hno).1 hown;rcases Fl hrow with⟨e1,_⟩|⟨k',cap',cur,e1,hcur,_,_,_,ht⟩
 ·rw[h3]at e1;cases e1
 ·rw[h3]at e1;cases e1;obtain⟨c,hc1,hc2⟩:=Lqa (S:=S) (Ty.rep_len r') hrows (i:=i.toNat) (x:=xs.getD i.toNat r'.dflt) (by rw[Vb,Vg h1];rfl) (Ia hcur ht);rw[Wh]at hc2;exact⟨k,c,cur,cap,h4,hc1,hc2,h1,h3,hcur,hk k (by rw[h3];rfl)⟩
def Ho:∀ (t:Ty) (x:t.den),(A6 t x).length=t.sz
 |.i _,_=>rfl
 |.b,_=>rfl
 |.s,_=>rfl
 |.sl _ _,_=>rfl
 |.ow _ _,_=>rfl
 |.pr x y,p=>by
  show (A6 x p.1++A6 y p.2).length=x.sz+y.sz;rw[Vi,Ho x p.1,Ho y p.2]
def Lva {p v:Nat} {pi:Option (List (Int×Nat))} {i:Int}:∀ {j:Nat} {l:List Lf},(daL p v pi i j l).length=l.length
 |_,[]=>rfl
 |j,x::l=>by cases x<;>simp[daL,Lva]
def Lwa {p v:Nat} {pi:Option (List (Int×Nat))} {i:Int}:∀ {j:Nat} {l m:List Lf},daL p v pi i j (l++m)=daL p v pi i j l++daL p v pi i (j+l.length) m
 |j,[],m=>by simp[daL]
 |j,x::l,m=>by
  have e:j+(x::l).length=j+1+l.length:=by simp only[Vh];omega
  rw[e]
  cases x<;>simp[daL,Lwa]
def C8a {p v:Nat} {pi:Option (List (Int×Nat))} {i:Int}:∀ (j:Nat) (l:List Lf),∀ y∈daL p v pi i j l,y.isOwn=false
 |_,[]=>by simp[daL]
 |j,x::l=>by
  have ih:=C8a (p:=p) (v:=v) (pi:=pi) (i:=i) (j+1) l
  cases x<;>(intro y hy;simp only[daL,Vk]at hy;rcases hy with rfl|hy<;>first|rfl|exact ih y hy)
def Tw:∀ {l:List Lf},(∀ y∈l,y.isOwn=false)→Fk l=false
 |[],_=>rfl
 |x::l,h=>by
  have h1:=h x (by simp);have h2:=Tw (λ y hy=>h y (Vd _ hy))
  cases x<;>first|(simp[Lf.isOwn]at h1;done)|exact h2
def Jja {l:List Lf} (h:∀ y∈l,y.isOwn=false) (n m:Nat):Fk ((l.drop n).take m)=false:=Tw λ y hy=>h y (Zp (Csb hy))
def Ko:∀ t:Ty,(Hu t).length=t.sz
 |.i _=>rfl
 |.b=>rfl
 |.s=>rfl
 |.sl _ _=>rfl
 |.ow _ _=>rfl
 |.pr x y=>by show (Hu x++Hu y).length=x.sz+y.sz;rw[Vi,Ko x,Ko y]
def Nm:∀ {t:Ty} {x:t.den} {j:Nat} {e:TypeId} {r:Ty} {ys:List r.den},nth (A6 t x) j=some (.own e r ys)→nth (Hu t) j=some (.ow e r)
 |.i _,_,0,_,_,_,h=>by simp[A6,nth]at h
 |.i _,_,_+1,_,_,_,h=>by simp[A6,nth]at h
 |.b,_,0,_,_,_,h=>by simp[A6,nth]at h
 |.b,_,_+1,_,_,_,h=>by simp[A6,nth]at h
 |.s,_,0,_,_,_,h=>by simp[A6,nth]at h
 |.s,_,_+1,_,_,_,h=>by simp[A6,nth]at h
 |.sl _ _,_,0,_,_,_,h=>by simp[A6,nth]at h
 |.sl _ _,_,_+1,_,_,_,h=>by simp[A6,nth]at h
 |.ow _ _,_,0,_,_,_,h=>by
  simp only[A6,nth,Vc]at h;cases h;rfl
 |.ow _ _,_,_+1,_,_,_,h=>by simp[A6,nth]at h
 |.pr x y,p,j,e,r,ys,h=>by
  rw[Ht]at h ⊢;have h:(A6 x p.1++A6 y p.2)[j]? = some (.own e r ys):=h;show (Hu x++Hu y)[j]? = _
  by_cases hj:j<x.sz
  ·rw[Yj (by rw[Ho];exact hj),← Ht]at h;rw[Yj (by rw[Ko];exact hj),← Ht];exact Nm h
  ·rw[Yd (by rw[Ho];omega),Ho,← Ht]at h;rw[Yd (by rw[Ko];omega),Ko,← Ht];exact Nm h
def H0a {e1:TypeId} {r1:Ty} {ys:List r1.den} {i:Int} {j:Nat} {e2:TypeId} {r2:Ty} {zs:List r2.den} (hi:0≤i∧i.toNat<ys.length) (hn:nth (A6 r1 (ys.getD i.toNat r1.dflt)) j=some (.own e2 r2 zs)):
  ∀ (q:List (Int×Nat)) (e:TypeId) (r:Ty) (xs:List r.den),Gta q e r xs=some ⟨e1,r1,ys⟩→Gta (q++[(i,j)]) e r xs=some ⟨e2,r2,zs⟩
 |[],e,r,xs,h=>by
  simp only[Gta,Vc]at h;cases h;simp only[Wn,Gta];rw[if_pos hi,hn]
 |(i',j')::q,e,r,xs,h=>by
  simp only[Gta,List.cons_append]at h ⊢
  by_cases hc:0≤i'∧i'.toNat<xs.length
  ·rw[if_pos hc]at h ⊢;split at h
   ·rename_i e3 r3 ws hw;exact H0a hi hn q e3 r3 ws h
   ·cases h
  ·rw[if_neg hc]at h;cases h
def P5.app {G:Nat→Prop} {w:World} {i:Int} {j k o n cap:Nat} {e2:TypeId} {r1 r2:Ty} {u2:Value} (hG:G k) (hc:w.cell? ⟨k,o+(i.toNat*r1.sz+j),none⟩=some u2) (hs:nth (Hu r1) j=some (.ow e2 r2)) {e1:TypeId} {ys:List r1.den}:
  ∀ (q:List (Int×Nat)) (e:TypeId) (r:Ty) (xs:List r.den) (u:Value),Gta q e r xs=some ⟨e1,r1,ys⟩→P5 G w q r u (.slice (some ⟨k,o,none⟩) n cap)→P5 G w (q++[(i,j)]) r u u2
 |[],e,r,xs,u,hl,h=>by
  simp only[Gta,Vc]at hl;cases hl;exact⟨k,o,n,cap,e2,r2,u2,h.symm,hG,hc,hs,rfl⟩
 |(i',j')::q,e,r,xs,u,hl,⟨k',o',n',cap',e3,r3,u3,h1,h2,h3,h4,h5⟩=>by
  simp only[Gta]at hl;split at hl
  ·split at hl
   ·rename_i e4 r4 ws hw;have hsl:nth (Hu r) j'=some (.ow e4 r4):=Nm hw;rw[h4]at hsl;cases hsl;exact⟨k',o',n',cap',e3,r3,u3,h1,h2,h3,h4,h5.app hG hc hs q e3 r3 ws u3 hl⟩
   ·cases hl
  ·cases hl
def Lxa {P:Program} {S:Sit} {p v:Nat} {pi:Option (List (Int×Nat))} {i:Int} (hv:(S.g p).1=v) (hdeep:Eta (S.g p).2=true):∀ (t:Ty) (x:t.den) (c:List Value) (b:List Nat) (j0:Nat),Gx t=true→t.dep P (λ k=>S.O k = .fz) S.w x c b→(∀ k∈b,U1a S p k)→
  (∀ n e1 r1 ys u1,nth (A6 t x) n=some (.own e1 r1 ys)→c[n]? = some u1→U2a S p (match pi with|some q=>some (q++[(i,j0+n)])|none=>none) e1 r1 ys u1)→
  ∀ (f:Nat→Lab) (m:Nat),Ac P S f m (daL p v pi i j0 (A6 t x)) c
 |.i _,_,_,_,_,_,⟨e,_⟩,_,_=>by subst e;exact λ f m=>⟨⟨rfl,rfl⟩,trivial⟩
 |.b,_,_,_,_,_,⟨e,_⟩,_,_=>by subst e;exact λ f m=>⟨⟨rfl,rfl⟩,trivial⟩
 |.s,_,_,_,_,_,⟨e,_⟩,_,_=>by subst e;exact λ f m=>⟨⟨rfl,rfl⟩,trivial⟩
 |.sl _ _,_,_,_,_,h,_,_,_=>by simp[Gx]at h
 |.ow e r,xs,c,b,j0,h,⟨u,cs,b2,ev,hs,ho,hd,eb⟩,hm,hp=>by
  subst ev;refine λ f m=>⟨⟨h,E8b hv.symm,λ _=>⟨hdeep,⟨hs,?_⟩,?_⟩⟩,trivial⟩
  ·rcases Fl ho with⟨rfl,e2,rfl⟩|⟨k,cap,cur,rfl,hc,h1,_,_,ht⟩
   ·exact⟨none,0,[],b2,by rw[e2],by omega,hd,λ k hk=>hm k (by rw[eb];exact Vn _ hk),λ hn=>absurd (Wl e2) hn⟩
   ·exact⟨_,cap,cs,b2,rfl,h1,hd,λ k hk=>hm k (by rw[eb];exact Vn _ hk),λ _=>⟨k,0,rfl,hm k (by rw[eb];simp[Value.ownBlock]),Ia hc ht⟩⟩
  ·have:=hp 0 e r xs u rfl rfl;exact this
 |.pr y z,x,c,b,j0,h,⟨c1,c2,b1,b2,ec,eb,h1,h2⟩,hm,hp=>by
  simp only[Gx,Va]at h;subst ec eb;have l1:=Ty.dep_len y x.1 c1 b1 h1;have l2:=Ho y x.1
  have i1:=Lxa (P:=P) hv hdeep y x.1 c1 b1 j0 h.1 h1 (λ k hk=>hm k (Vy _ hk)) (λ n e1 r1 ys u1 hn hu=>hp n e1 r1 ys u1 (by
   rw[Ht]at hn ⊢;show (A6 y x.1++A6 z x.2)[n]? = _;rw[Yj (Yk.1 hn).1]
   exact hn) (by rw[Yj (Yk.1 hu).1];exact hu))
  have i2:=Lxa (P:=P) hv hdeep z x.2 c2 b2 (j0+y.sz) h.2 h2 (λ k hk=>hm k (Vn _ hk)) (λ n e1 r1 ys u1 hn hu=>by
   have:=hp (y.sz+n) e1 r1 ys u1 (by
    rw[Ht]at hn ⊢;show (A6 y x.1++A6 z x.2)[y.sz+n]? = _;rw[Yd (by omega),l2,show y.sz+n-y.sz=n by omega]
    exact hn) (by rw[Yd (by omega),l1,show y.sz+n-y.sz=n by omega];exact hu)
   rw[← Zk]at this
   exact this)
  intro f m;show Ac P S f m (daL p v pi i j0 (A6 y x.1++A6 z x.2)) (c1++c2);rw[Lwa,l2];exact Ac.app (i1 f m) (i2 f _)
def R2a {P:Program} {S:Sit} {p v:Nat} {pi:Option (List (Int×Nat))} {e:TypeId} {r':Ty} {xs:List r'.den} {i:Int} {off:Nat} {h u:Value} (hda:L2a P S p v pi e r' xs h) (hv:(S.g p).1=v)
  (hdp:0≤i∧i.toNat<xs.length∧∃ k o cap,h = .slice (some ⟨k,o,none⟩) xs.length cap∧u = .pointer (some ⟨k,o+(i.toNat*r'.sz+off),none⟩)):
  ∃ k o' c,u = .pointer (some ⟨k,o'+off,none⟩)∧Ep S.w k o' c∧∀ f m,Ac P S f m (daL p v pi i 0 (A6 r' (xs.getD i.toNat r'.dflt))) c:=by
 obtain⟨i0,i1,k,o,cap,e1,e2⟩:=hdp;obtain⟨d1,_,d2⟩:=hda;obtain⟨d3,⟨d4,ad,cap',cs,bs,d5,d6,d7,d8,d9⟩,d10⟩:=d2 hv;rw[e1]at d5;cases d5;obtain⟨k',o',e3,m1,hc⟩:=d9 (by intro e0;subst e0;simp at i1);cases e3
 have hx:xs[i.toNat]? = some (xs.getD i.toNat r'.dflt):=by rw[Vb,Vg i1];rfl
 obtain⟨b,g1,g2⟩:=d7.get (Ty.dep_len r') i.toNat _ hx;have hce:Ep S.w k (o+i.toNat*r'.sz) ((cs.drop (i.toNat*r'.sz)).take r'.sz):=Jg hc _ _;refine⟨k,o+i.toNat*r'.sz,_,by rw[e2,Zk],hce,Lxa hv d3 r' _ _ b 0 d1 g1 (λ k hk=>d8 k (g2.subset hk)) (λ n e4 r4 ys u4 hn hu q hq E R XS hgp=>?_)⟩
 cases pi with
 |none=>cases hq
 |some q0=>
  cases hq;obtain⟨f1,f2⟩:=d10 q0 rfl E R XS hgp;rw[e1]at f2;rw[Wh];refine⟨H0a ⟨i0,i1⟩ hn q0 E R XS f1,P5.app (r1:=r') (i:=i) (j:=n) m1 ?_ (Nm hn) q0 E R XS _ f1 f2⟩;have:=hce n u4 hu;rw[Zk]at this;exact this
def Vza (hE:Iu X E) (K:Bd X S a) (hg:S.g=get A) {T:TypeId} {x:Operand} {d:Nat} (ho:o.op = .load T x) (hod:o.dst=some d) (hd:d<X.nt) (h:B6 E o A Kc=some r):Hh X o a S.w A Kc r:=by
 unfold B6 at h;rw[ho,hod]at h;simp only at h;split at h
 ·rename_i ti b v off hti hs;obtain⟨pl,hsv⟩:=Hd hE K hg hs;have hlf:Bm X.P S (.pl pl []) (.bp b v off) (a.eval x):=hsv;split at h
  ·rename_i n m hp;rw[csi]at h;obtain⟨hq,h⟩:=h;simp only[Va]at hq
   have hnv:n=v:=by simpa using hq.1
   have hle:off+ti.ty.sz≤m:=Vl hq.2;subst hnv;split at h
   ·rename_i s hof;obtain⟨_,c,e,h1,h2,h3,h4⟩:=K.box b m (by rw[hg,hp]);obtain⟨c1,c2,c3⟩:=Oi K hg b ti.ty.sz off;refine⟨_,h,Q6 hE K hg (hE.ti _ _ hti) ho hod hd (hlf.2 (by rw[hg,hp])) (cs:=(List.range ti.ty.sz).map λ i=>S.ph (C b (off+i))) (λ j u hu=>?_) c1 hof c2 (c3 (λ _ => .no) 0)⟩
    have hj:j<ti.ty.sz:=by
     rcases Dob j ti.ty.sz with h|h
     ·exact h
     ·rw[Yx (by simpa using h)]at hu;cases hu
    simp[hj]at hu;subst hu;simp[World.cell?,h1,Zk,h4 (off+j) (by omega)]
   ·cases h
  ·cases h
 ·rename_i ti p v i off hti hs;obtain⟨pl,hsv⟩:=Hd hE K hg hs;have hlf:Bm X.P S (.pl pl []) (.ep p v i off) (a.eval x):=hsv;split at h
  ·rename_i n e r' xs hp;rw[csi]at h;obtain⟨hq,h⟩:=h;simp only[Va]at hq
   have hnv:n=v:=by simpa using hq.1.1
   have hle:off+ti.ty.sz≤r'.sz:=Vl hq.2;subst hnv;split at h
   ·rename_i s hof;obtain⟨k,cs,cur,cap,e1,e2,e3,_⟩:=Gza K hq.1.2 (by rw[hg,hp]) hlf;have hrep:=((Mh _ _ _ e2).drop off).take ti.ty.sz;exact⟨_,h,Q6 hE K hg (hE.ti _ _ hti) ho hod hd e1 (Jg e3 off ti.ty.sz) (by rw[Vq,We,Z1];omega) hof (C7a hrep) (Ac.ofRep hrep (λ _ => .no) 0)⟩
   ·cases h
  ·cases h
 ·rename_i ti p v pi e r' xs i off hti hs;obtain⟨pl,hsv⟩:=Hd hE K hg hs;obtain⟨hd',hda,hdp⟩:Bm X.P S (.pl pl []) (.dp p v pi e r' xs i off) (a.eval x):=hsv;rw[csi]at h;obtain⟨hq,h⟩:=h;simp only[Va]at hq
  have hv:(S.g p).1=v:=by rw[hg];exact Ve hq.1
  have hle:off+ti.ty.sz≤r'.sz:=Vl hq.2;split at h
  ·rename_i s hof;obtain⟨k,o',c,e1,e2,e3⟩:=R2a hda hv (hdp hv);exact⟨_,h,Q6 hE K hg (hE.ti _ _ hti) ho hod hd e1 (Jg e2 off ti.ty.sz) (by rw[Vq,We,Lva,Ho];omega) hof (Jja (C8a _ _) off _) (Ac.shift (j:=0) off (((e3 (λ _ => .no) 0).drop off).take ti.ty.sz))⟩
  ·cases h
 ·rename_i ti r' y off hti hs;obtain⟨pl,hsv⟩:=Hd hE K hg hs;obtain⟨k,o',cs,e1,e2,e3,e4⟩:Bm X.P S (.pl pl []) (.fp r' y off) (a.eval x):=hsv;rw[csi]at h;obtain⟨hq,h⟩:=h;have hle:off+ti.ty.sz≤r'.sz:=Vl hq;split at h
  ·rename_i s hof;have hrep:=((Mh _ _ _ e3).drop off).take ti.ty.sz;exact⟨_,h,Q6 hE K hg (hE.ti _ _ hti) ho hod hd e1 (Jg e4 off ti.ty.sz) (by rw[Vq,We,Z1];omega) hof (C7a hrep) (Ac.ofRep hrep (λ _ => .no) 0)⟩
  ·cases h
 ·cases h
end
end

section
attribute [local irreducible] C H
def Z4a (P:Program) (G:Nat→Prop) (w:World):Lf→Value→List Nat→Prop
 |.sc v,u,bs=>u=v∧Gsa v=true∧bs=[]
 |.own e r xs,u,bs=>(Ty.ow e r).dep P G w xs [u] bs
 |_,_,_=>False
def I8 (P:Program) (G:Nat→Prop) (w:World):List Lf→List Value→List Nat→Prop
 |[],us,bs=>us=[]∧bs=[]
 |x::xs,us,bs=>∃ u us' b1 b2,us=u::us'∧bs=b1++b2∧Z4a P G w x u b1∧I8 P G w xs us' b2
section
variable {P:Program} {G G':Nat→Prop} {w w':World}
def I8.app:∀ {l m:List Lf} {us vs:List Value} {bs es:List Nat},I8 P G w l us bs→I8 P G w m vs es→I8 P G w (l++m) (us++vs) (bs++es)
 |[],_,_,_,_,_,h,h'=>by obtain⟨rfl,rfl⟩:=h;exact h'
 |_::_,_,_,_,_,_,⟨u,us',b1,b2,e1,e2,h1,h2⟩,h'=>by subst e1 e2;exact⟨u,_,b1,_,rfl,by rw[Vo],h1,h2.app h'⟩
def I8.len:∀ {l:List Lf} {us:List Value} {bs:List Nat},I8 P G w l us bs→us.length=l.length
 |[],_,_,h=>by obtain⟨rfl,_⟩:=h;rfl
 |_::_,_,_,⟨_,_,_,_,e,_,_,h⟩=>by subst e;simp[h.len]
def I8.split:∀ {l m:List Lf} {us:List Value} {bs:List Nat},I8 P G w (l++m) us bs→∃ b1 b2,bs=b1++b2∧I8 P G w l (us.take l.length) b1∧I8 P G w m (us.drop l.length) b2
 |[],m,us,bs,h=>⟨[],bs,rfl,⟨rfl,rfl⟩,by simpa using h⟩
 |x::l,m,us,bs,⟨u,us',b1,b2,e1,e2,h1,h2⟩=>by
  subst e1 e2;obtain⟨b3,b4,e3,h3,h4⟩:=h2.split;subst e3;exact⟨b1++b3,b4,by rw[Vo],⟨u,us'.take l.length,b1,b3,rfl,rfl,h1,h3⟩,h4⟩
def Z4a.mono (hG:∀ k,G k→G' k) (hw:∀ k,G k→w'.heap[k]? = w.heap[k]?) {x:Lf} {u:Value} {bs:List Nat} (hb:∀ k∈bs,w'.heap[k]? = w.heap[k]?) (h:Z4a P G w x u bs):Z4a P G' w' x u bs:=by
 cases x with
 |own e r xs=>exact Ty.dep_mono hG hw (.ow e r) xs [u] bs hb h
 |_=>exact h
def I8.mono (hG:∀ k,G k→G' k) (hw:∀ k,G k→w'.heap[k]? = w.heap[k]?):∀ {l:List Lf} {us:List Value} {bs:List Nat},(∀ k∈bs,w'.heap[k]? = w.heap[k]?)→I8 P G w l us bs→I8 P G' w' l us bs
 |[],_,_,_,h=>h
 |_::_,_,_,hb,⟨u,us',b1,b2,e1,e2,h1,h2⟩=>⟨u,us',b1,b2,e1,e2,h1.mono hG hw (λ k hk=>hb k (by rw[e2];exact Vy _ hk)),h2.mono hG hw (λ k hk=>hb k (by rw[e2];exact Vn _ hk))⟩
def Lw:∀ (t:Ty) (x:t.den) (vs:List Value) (bs:List Nat),Gx t=true→t.dep P G w x vs bs→I8 P G w (A6 t x) vs bs
 |.i _,_,_,_,_,⟨e,e'⟩=>by subst e e';exact⟨_,[],[],[],rfl,rfl,⟨rfl,rfl,rfl⟩,rfl,rfl⟩
 |.b,_,_,_,_,⟨e,e'⟩=>by subst e e';exact⟨_,[],[],[],rfl,rfl,⟨rfl,rfl,rfl⟩,rfl,rfl⟩
 |.s,_,_,_,_,⟨e,e'⟩=>by subst e e';exact⟨_,[],[],[],rfl,rfl,⟨rfl,rfl,rfl⟩,rfl,rfl⟩
 |.sl _ _,_,_,_,h,_=>by simp[Gx]at h
 |.ow e r,xs,vs,bs,_,h=>by
  obtain⟨v,cs,b2,ev,hs,ho,hd,eb⟩:=h;subst ev;exact⟨v,[],bs,[],rfl,by simp,⟨v,cs,b2,rfl,hs,ho,hd,eb⟩,rfl,rfl⟩
 |.pr x y,p,_,_,h,⟨c,d,b1,b2,e,eb,h1,h2⟩=>by
  simp only[Gx,Va]at h;subst e eb;exact(Lw x p.1 c b1 h.1 h1).app (Lw y p.2 d b2 h.2 h2)
def R3a {e:TypeId} {r r':Ty} {xs:List r'.den} {ys:List r.den} {vs:List Value} {bs:List Nat} (hc:Sn r r' xs=some ys) (h:(Ty.ow e r').dep P G w xs vs bs):(Ty.ow e r).dep P G w ys vs bs:=by
 rcases X7 hc with⟨e1,e2⟩|⟨e1,rfl,rfl⟩
 ·subst e1 e2;exact h
 ·obtain⟨v,cs,b2,ev,hs,ho,hd,eb⟩:=h
  have hsz:r'.sz=r.sz:=by rw[← Jh r',e1,Jh r]
  exact⟨v,cs,b2,ev,by rw[← hsz];exact hs,by rw[← hsz];exact ho,hd,eb⟩
def W0a:∀ (t:Ty) (l l':List Lf) (x:t.den) (us:List Value) (bs:List Nat),Gx t=true→mkT t l=some (x,l')→I8 P G w l us bs→
  ∃ vs ws b1 b2,us=vs++ws∧bs=b1++b2∧t.dep P G w x vs b1∧I8 P G w l' ws b2:=by
 intro t
 induction t with
 |i k=>
  intro l l' x us bs _ h hl
  cases l with
  |nil=>simp[mkT]at h
  |cons y ys=>
   obtain⟨u,us',b1,b2,e1,e2,hy,hys⟩:=hl
   cases y<;>first|(simp[mkT]at h;done)|skip
   rename_i v
   cases v<;>first|(simp[mkT]at h;done)|skip
   rename_i k' n;simp only[mkT]at h
   by_cases hk:k=k'
   ·subst hk;simp at h;obtain⟨rfl,rfl⟩:=h;obtain⟨rfl,_,rfl⟩:=hy;exact⟨[_],us',[],b2,e1,e2,⟨rfl,rfl⟩,hys⟩
   ·simp[hk]at h
 |b=>
  intro l l' x us bs _ h hl
  cases l with
  |nil=>simp[mkT]at h
  |cons y ys=>
   obtain⟨u,us',b1,b2,e1,e2,hy,hys⟩:=hl
   cases y<;>first|(simp[mkT]at h;done)|skip
   rename_i v
   cases v<;>first|(simp[mkT]at h;done)|skip
   simp[mkT]at h;obtain⟨rfl,rfl⟩:=h;obtain⟨rfl,_,rfl⟩:=hy;exact⟨[_],us',[],b2,e1,e2,⟨rfl,rfl⟩,hys⟩
 |s=>
  intro l l' x us bs _ h hl
  cases l with
  |nil=>simp[mkT]at h
  |cons y ys=>
   obtain⟨u,us',b1,b2,e1,e2,hy,hys⟩:=hl
   cases y<;>first|(simp[mkT]at h;done)|skip
   rename_i v
   cases v<;>first|(simp[mkT]at h;done)|skip
   simp[mkT]at h;obtain⟨rfl,rfl⟩:=h;obtain⟨rfl,_,rfl⟩:=hy;exact⟨[_],us',[],b2,e1,e2,⟨rfl,rfl⟩,hys⟩
 |sl e r _=>intro l l' x us bs h;simp[Gx]at h
 |ow e r _=>
  intro l l' x us bs _ h hl
  cases l with
  |nil=>simp[mkT]at h
  |cons y ys=>
   obtain⟨u,us',b1,b2,e1,e2,hy,hys⟩:=hl
   cases y<;>first|(simp[mkT]at h;done)|skip
   rename_i e' r' xs;simp only[mkT]at h;rw[csi]at h;obtain⟨he,h⟩:=h;split at h
   ·rename_i zs hz;have:e=e':=Ve he;subst this;cases h;exact⟨[u],us',b1,b2,e1,e2,R3a hz hy,hys⟩
   ·cases h
 |pr x y ihx ihy=>
  intro l l' p us bs ha h hl;simp only[Gx,Va]at ha;simp only[mkT]at h;split at h
  ·rename_i q l1 h1;split at h
   ·rename_i q2 l2 h2;simp at h;obtain⟨rfl,rfl⟩:=h;obtain⟨vs,ws,b1,b2,rfl,rfl,r1,hw1⟩:=ihx _ _ _ _ _ ha.1 h1 hl;obtain⟨vs2,ws2,b3,b4,rfl,rfl,r2,hw2⟩:=ihy _ _ _ _ _ ha.2 h2 hw1;exact⟨vs++vs2,ws2,b1++b3,b4,by rw[Vo],by rw[Vo],⟨vs,vs2,b1,b3,rfl,rfl,r1,r2⟩,hw2⟩
   ·cases h
  ·cases h
def A1a {t:Ty} {l:List Lf} {x:t.den} {us:List Value} {bs:List Nat} (ha:Gx t=true) (h:mkW t l=some x) (hl:I8 P G w l us bs):t.dep P G w x us bs:=by
 unfold mkW at h;split at h
 ·rename_i y hy;simp at h;subst h;obtain⟨vs,ws,b1,b2,rfl,rfl,hr,hw⟩:=W0a _ _ _ _ _ _ ha hy hl;obtain⟨rfl,rfl⟩:=hw;rw[Wo,Wo];exact hr
 ·cases h
def Tx:∀ {t:Ty} {j:Nat} {e:TypeId} {r:Ty},Gx t=true→nth (Hu t) j=some (.ow e r)→Gx r=true
 |.i _,0,_,_,_,h=>by simp[Hu,nth]at h
 |.i _,_+1,_,_,_,h=>by simp[Hu,nth]at h
 |.b,0,_,_,_,h=>by simp[Hu,nth]at h
 |.b,_+1,_,_,_,h=>by simp[Hu,nth]at h
 |.s,0,_,_,_,h=>by simp[Hu,nth]at h
 |.s,_+1,_,_,_,h=>by simp[Hu,nth]at h
 |.sl _ _,_,_,_,ha,_=>by simp[Gx]at ha
 |.ow _ _,0,_,_,ha,h=>by
  simp only[Hu,nth,Vc]at h;cases h;exact ha
 |.ow _ _,_+1,_,_,_,h=>by simp[Hu,nth]at h
 |.pr x y,j,e,r,ha,h=>by
  simp only[Gx,Va]at ha;rw[Ht]at h;have h:(Hu x++Hu y)[j]? = some (.ow e r):=h
  by_cases hj:j<(Hu x).length
  ·rw[Yj hj,← Ht]at h;exact Tx ha.1 h
  ·rw[Yd (by omega),← Ht]at h;exact Tx ha.2 h
def I8.set {l m:List Lf} {cs us:List Value} {bs mb:List Nat} {off:Nat} (h:I8 P G w l cs bs) (hm:I8 P G w m us mb) (hle:off+m.length≤l.length):
  ∃ ba bx bc,bs=ba++bx++bc∧I8 P G w (l.take off) (cs.take off) ba∧I8 P G w ((l.drop off).take m.length) ((cs.drop off).take m.length) bx∧
   I8 P G w (Vf.setAll l off m) (cs.take off++us++cs.drop (off+us.length)) (ba++mb++bc):=by
 have e0:l=l.take off++((l.drop off).take m.length++l.drop (off+m.length)):=by
  rw[← Yo,Wi,Wi]
 have h0:=h;rw[e0]at h0;obtain⟨b1,b2,e1,h1,h2⟩:=h0.split;obtain⟨b3,b4,e2,h3,h4⟩:=h2.split
 have l1:(l.take off).length=off:=by rw[Vq];omega
 have l2:((l.drop off).take m.length).length=m.length:=by rw[Vq,We];omega
 rw[l1]at h1 h3 h4;rw[l2]at h3 h4;subst e1 e2;refine⟨b1,b3,b4,by rw[Vo],h1,h3,?_⟩;unfold Vf.setAll;rw[hm.len];rw[Yo]at h4;exact(h1.app hm).app h4
def Er.set {α:Type} {R:α→List Value→List Nat→Prop} {n:Nat} (hn:∀ x c b,R x c b→c.length=n):∀ {xs:List α} {cs:List Value} {bs:List Nat} (_:Er R xs cs bs) (i:Nat) (x:α),xs[i]? = some x→
  ∃ ba b bc,bs=ba++b++bc∧R x ((cs.drop (i*n)).take n) b∧∀ (R':α→List Value→List Nat→Prop) (z:α) (c':List Value) (b':List Nat),R' z c' b'→(∀ y c b0,(∀ k∈b0,k∈ba∨k∈bc)→R y c b0→R' y c b0)→Er R' (xs.set i z) (cs.take (i*n)++c'++cs.drop (i*n+n)) (ba++b'++bc)
 |[],_,_,_,i,x,hx=>by simp at hx
 |y::ys,_,_,⟨c,d,b1,b2,e,eb,h1,h2⟩,0,x,hx=>by
  simp at hx;subst hx e eb;have hl:=hn _ _ _ h1;refine⟨[],b1,b2,rfl,?_,λ R' z c' b' hz ho=>?_⟩
  ·simp only[Djb,Yu];rw[← hl,Dxb];exact h1
  ·refine⟨c',d,b',b2,?_,rfl,hz,h2.mono (λ x c b hb hx=>ho x c b (λ k hk => .inr (hb k hk)) hx)⟩;simp only[Djb,Cxb,Wn,Wh,← hl,Zm]
 |y::ys,_,_,⟨c,d,b1,b2,e,eb,h1,h2⟩,i+1,x,hx=>by
  subst e eb;have hl:=hn _ _ _ h1;obtain⟨ba,b,bc,e1,h3,h4⟩:=Er.set hn h2 i x (by simpa using hx);subst e1
  have e2:(i+1)*n=c.length+i*n:=by rw[hl,Zd,Zh,Ctb]
  refine⟨b1++ba,b,bc,by simp[Vo],?_,λ R' z c' b' hz ho=>?_⟩
  ·rw[e2,← Yo,Zm];exact h3
  ·refine⟨c,_,b1,ba++b'++bc,?_,by simp[Vo],ho y c b1 (λ k hk => .inl (Vy _ hk)) h1,h4 R' z c' b' hz (λ y c b0 hb hy=>ho y c b0 (λ k hk=>(hb k hk).imp (Vn _) id) hy)⟩;rw[e2,Zz,Zk,← Yo,Zm];simp[Vo]
end
end

end Go.Proofs.YtcpligincipmhaaGreat.Vf
