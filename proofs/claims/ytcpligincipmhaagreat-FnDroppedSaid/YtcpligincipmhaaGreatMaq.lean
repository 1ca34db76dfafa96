import Derived.Test.YtcpligincipmhaaGreatMak
import Derived.Test.YtcpligincipmhaaGreatMap
set_option linter.unusedVariables false
set_option linter.unusedSimpArgs false
namespace Go.Proofs.YtcpligincipmhaaGreat.Pure
open Go Go.RowKit Go.Proofs.YtcpligincipmhaaGreat.Vf
theorem I4a (a:List Int) (hb:(a.length:Int)≤1048576):Tot (λ k=>Cg k a) (λ r=>WIp 201 r.1∧Jr r.2.1):=by
 unfold Cg;refine Gab (S6a a hb) ?_;intro c hc;obtain⟨n,e,n0,n1⟩:=Y1a a hb 16 (by decide);refine Gab (Gmb (Q:=λ r=>r=n) e rfl) ?_;rintro _ rfl;refine Gab (Paa c hc _ (by omega)) ?_;rintro⟨w,c1⟩ ⟨hp,k1⟩;dsimp only at hp k1 ⊢;obtain⟨s,c2,e2,hs,k2⟩:=Pf c1 k1;refine Gab (Gmb (Q:=λ r=>r=(s,c2)) e2 rfl) ?_;rintro _ rfl;obtain⟨t,c3,e3,_,k3⟩:=Kz c2 k2 [w.2.2.2.1.1,IntKind.wrap .i64 (w.2.2.2.1.1+1),0,(-1)] (Nat.succ_pos _) (by simp);refine Gab (Gmb (Q:=λ r=>r=(t,c3)) e3 rfl) ?_;rintro _ rfl;refine Gab (Pda c3 k3) ?_;intro r _;exact G9b ⟨hp,hs⟩
theorem Uwa {m:Nat} {w:Wld} (h:WIm m w) (hm:m≤1999000) (s:ByteArray) (t:Int) (rc:List Int) (hs:Jr s):Tot (λ k=>Gf k w s t rc) (λ r=>r=Erb w s ((0,0,0),true,[]) t rc):=by
 have hw:=h.win (by omega);unfold Gf Erb;refine Gab (Uma h (by omega)) ?_;rintro r rfl;refine Gab (B8a r hw) ?_;rintro b rfl;cases hk:Sg r
 ·exact Gcb rfl (G9b rfl)
 have ho:=h.wo hk;refine Gbb rfl (Gab (C6b r s ((0,0,0),true,[]) t rc ho.ring ho.ns ho.clk hs (λ _=>rfl) ho.wlen) ?_);rintro _ rfl;exact G9b rfl
theorem Uxa {m:Nat} {w:Wld} (h:WIm m w) (hm:m≤1999000) (s:ByteArray) (t:Int) (rc:List Int) (hs:Jr s):Tot (λ k=>Gi k w s t rc) (λ r=>r=Erb w s ((0,0,0),true,[]) t rc):=by
 have hw:=h.win (by omega);unfold Gi Erb;refine Gab (Hza h (by omega)) ?_;rintro r rfl;refine Gab (U0a r hw) ?_;rintro b rfl;cases hk:Sg r
 ·exact Gbb rfl (G9b rfl)
 have ho:=h.wo hk;refine Gcb rfl (Gab (Kia r s ((0,0,0),true,[]) t rc ho.ring ho.ns ho.clk hs (λ _=>rfl) (by have:=ho.wlen;omega)) ?_);rintro _ rfl;exact G9b rfl
theorem Uya (w:Wld) (s:ByteArray) (f:Fil) (t:Int) (rc:List Int):(Vf.ask w s f t rc).2.2.2.2.2.2=w.2.2.2.2.2∧
  ((Vf.ask w s f t rc).1=0∨((Vf.ask w s f t rc).1=1∧(Vf.ask w s f t rc).2.2.2.2.2.1.length=w.2.2.2.2.1.length+1)∨((Vf.ask w s f t rc).1=2∧(Vf.ask w s f t rc).2=w)∨((Vf.ask w s f t rc).1=3∧(Vf.ask w s f t rc).2=w)):=by
 unfold Vf.ask
 cases !(Ao s) with
 |true=>exact⟨rfl,.inr (.inr (.inl ⟨rfl,rfl⟩))⟩
 |false=>
 rw[cond_false]
 cases decide ((f.2.2.length:Int) > 200) with
 |true=>exact⟨rfl,.inr (.inr (.inl ⟨rfl,rfl⟩))⟩
 |false=>
 rw[cond_false]
 cases !(inR t 0 1000000000) with
 |true=>exact⟨rfl,.inr (.inr (.inl ⟨rfl,rfl⟩))⟩
 |false=>
 rw[cond_false]
 cases (w.2.2.2.2.1.length:Int)==200 with
 |true=>exact⟨rfl,.inr (.inr (.inr ⟨rfl,rfl⟩))⟩
 |false=>
 rw[cond_false]
 cases (K8 w.2.2.2.1 t 0).1==w.2.2.2.1.1&&((K8 w.2.2.2.1 t 0).2.1==w.2.2.2.1.2.1&&(K8 w.2.2.2.1 t 0).2.2==w.2.2.2.1.2.2) with
 |true=>exact⟨rfl,.inr (.inr (.inr ⟨rfl,rfl⟩))⟩
 |false=>
 rw[cond_false];unfold Pj;refine⟨rfl,?_⟩
 cases decide ((wrN (w.1,w.2.1,w.2.2.1,K8 w.2.2.2.1 t 0,w.2.2.2.2) s (K8 w.2.2.2.1 t 0,f.2) rc).2.2≥quo (w.1,w.2.1,w.2.2.1,K8 w.2.2.2.1 t 0,w.2.2.2.2).2.1.1) with
 |true=>exact .inl rfl
 |false=>exact .inr (.inl ⟨rfl,by dsimp only;rw[List.length_append,List.length_singleton]⟩)
theorem FnDropped:∀ (a0:List Int),Ty.fit ti (.sl 5 (.i .u8)) a0→∃ k,Ib k a0=some true:=by
 intro a0 _;refine Tot.law (f:=λ k=>Ib k a0) ?_;unfold Ib Nu;refine Gab (G9b (Q:=λ b=>b=decide ((List.length a0:Int) > 1048576)) rfl) ?_;rintro b rfl;refine Ggb (λ _=>G9b rfl) (λ hb=>?_);refine Gab (I4a a0 (by omega)) ?_;rintro⟨w,s,t,rc⟩ ⟨hp,hs⟩;dsimp only at hp hs ⊢;have hm:=hp.1;have hw:=hm.win (by decide);refine Gab (Uwa hm (by decide) s t rc hs) ?_;rintro _ rfl;refine Gab (Uxa hm (by decide) s t rc hs) ?_;rintro _ rfl;refine Gbb (by rw[bne,beq_self_eq_true];rfl) ?_;unfold Erb
 cases hk:Sg w with
 |false=>exact Gcb rfl (Gbb rfl (Gcb rfl (G9b (by rw[cond_false,beq_self_eq_true]))))
 |true=>
  have ho:=hm.wo hk;rw[cond_true];obtain⟨hsp,hsh⟩:=Uya w s ((0,0,0),true,[]) t rc;have hxo:=ho.ask (s:=s) (f:=((0,0,0),true,[])) (t:=t) (rc:=rc) (λ x hx=>nomatch hx) (λ _=>rfl);have hwl:=ho.wlen;rcases hsh with h0|⟨h1,hl⟩|⟨h2,e2⟩|⟨h3,e3⟩
  ·have hgone:=λ hq=>Y9a ho (λ hq m hm o s ho'=>Ksa ho.wok hq hm ho') (s:=s) (t:=t) (rc:=rc) hq h0;rw[h0];generalize (Vf.ask w s ((0,0,0),true,[]) t rc).2=x at *;have hxw:=(hxo.wim (m:=201) (by decide) (by rw[hsp];exact hm.2.2.2.2.1)).win (by decide);refine Gbb rfl (Gab (Y8a x s rc hxw hs) ?_);rintro _ rfl;refine Gab (B8a x hxw) ?_;rintro _ rfl;refine Gcb hxo.ok (Gab (Kha w hw) ?_);rintro _ rfl
   cases hq:Qs w with
   |false=>exact Gcb rfl (G9b rfl)
   |true=>exact Gbb rfl (G9b (by rw[hgone hq];rfl))
  ·rw[h1,hl];exact Gcb rfl (Gcb rfl (Gcb (by rw[w64 (by omega) (by omega),beq_iff_eq];omega) (G9b rfl)))
  ·rw[h2,e2];exact Gcb rfl (Gbb rfl (Gcb rfl (G9b (by rw[beq_self_eq_true]))))
  ·rw[h3,e3];exact Gcb rfl (Gbb rfl (Gcb rfl (G9b (by rw[beq_self_eq_true]))))
end Go.Proofs.YtcpligincipmhaaGreat.Pure
