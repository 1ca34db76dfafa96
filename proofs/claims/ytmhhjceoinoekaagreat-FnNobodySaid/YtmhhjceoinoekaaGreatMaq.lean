import Derived.Test.YtmhhjceoinoekaaGreatMap
import Derived.Test.YtmhhjceoinoekaaGreatMak
set_option linter.unusedVariables false
set_option linter.unusedSimpArgs false
namespace Go.Proofs.YtmhhjceoinoekaaGreat.Vf
open Go

def Bdb (w:Wld) (s:ByteArray) (f:Fil) (t:Int) (rc:List Int):Wld×Int:=bif Qf w then ((ask w s f t rc).2,(ask w s f t rc).1) else (w,2)
theorem X1a {m:Nat} {w:Wld} (h:WIm m w) (hm:m≤1999000) (s:ByteArray) (l:List Int) (t:Int) (rc:List Int) (hs:Km s) (hl:l.length≤1000000000):Tot (λ k=>Hp k w s l t rc) (λ r=>r=Bdb w s ((0,0,0),false,l) t rc):=by
 have hw:=h.win (by omega)
 unfold Hp Bdb
 refine Tot.bind (Tla h (by omega)) ?_
 rintro r rfl
 refine Tot.bind (Ua r hw) ?_
 rintro b rfl
 cases hk:Qf r with
 |false=>exact Tot.yes rfl (Tot.pure rfl)
 |true=>
  have ho:=h.wo hk
  rw [Mh l (by omega)]
  simp only [Option.bind_some]
  refine Tot.no rfl (Tot.bind (Awb r s ((0,0,0),false,l) t rc ho.ring ho.ns ho.clk hs (λ c=>by cases c) ho.wlen) ?_)
  rintro _ rfl
  exact Tot.pure rfl
theorem X2a {m:Nat} {w:Wld} (h:WIm m w) (hm:m≤1999000) (s:ByteArray) (l:List Int) (t:Int) (rc:List Int) (hs:Km s) (hl:l.length≤1000000000):Tot (λ k=>Hs k w s l t rc) (λ r=>r=Bdb w s ((0,0,0),false,l) t rc):=by
 have hw:=h.win (by omega)
 unfold Hs Bdb
 refine Tot.bind (Tia h (by omega)) ?_
 rintro r rfl
 refine Tot.bind (Sva r hw) ?_
 rintro b rfl
 cases hk:Qf r with
 |false=>exact Tot.no rfl (Tot.pure rfl)
 |true=>
  have ho:=h.wo hk
  refine Tot.yes rfl (Tot.ble (by rw [List.length_nil]; omega) (Tot.bind (Jua r s ((0,0,0),false,l) t rc ho.ring ho.ns ho.clk hs (λ c=>by cases c) (by have:=ho.wlen; omega)) ?_))
  rintro _ rfl
  exact Tot.pure rfl
theorem X3a {w:Wld} {s:ByteArray} {f:Fil} {rc:List Int} (h:∀ j,rch rc j=0):wrN w s f rc=(w.2.2.1,0,0):=by
 unfold wrN
 refine Mv (λ _ (a:List Nod×Int×Int)=>a=(w.2.2.1,0,0)) rfl (λ j a hj e=>?_)
 subst e
 unfold wst
 rw [h j]
 cases decide (((w.2.2.1,(0:Int),(0:Int)).2.1:Int)<w.2.1.1)<;>rfl
theorem X4a {w:Wld} {s:ByteArray} {rc:List Int} (h:∀ j,rch rc j=0):gtR w s rc=(0,0,false,Dxa):=by
 unfold gtR
 refine Mv (λ _ (a:Int×Int×Bool×Fil)=>a=(0,0,false,Dxa)) rfl (λ j a hj e=>?_)
 subst e
 unfold Toa
 rw [h j]
 cases decide ((((0:Int),(0:Int),false,Dxa).1:Int)<w.2.1.1)<;>rfl

end Go.Proofs.YtmhhjceoinoekaaGreat.Vf

section
set_option linter.unusedVariables false
set_option linter.unusedSimpArgs false
namespace Go.Proofs.YtmhhjceoinoekaaGreat.Pure
open Go Go.RowKit Go.Proofs.YtmhhjceoinoekaaGreat.Vf
abbrev Mqa:ByteArray:=⟨#[97]⟩
theorem Hba (w:Wld) (h:WI w):Tot (λ k=>Bh k w (⟨#[]⟩:ByteArray) (⟨#[]⟩:ByteArray) 9 [0,2,3]) (λ r=>r.2=1):=by
 have hw:=h.win
 have hr:=hw.1
 have hn:=hw.2.2.1.1
 have hwl:=T4 hr hn
 unfold Bh
 refine Tot.bind (Ua w hw) ?_
 rintro b rfl
 refine Tot.no (by rw [h.rightB]; rfl) (Tot.bind (Joa w hr hn) ?_)
 rintro l rfl
 have hrc:∀ j:Nat,(rch [0,2,3] j==1)=false:=by
  intro j
  match j with
  |0=>rfl
  |1=>rfl
  |2=>rfl
  |j+3=>
   unfold rch
   rw [decide_eq_false (show ¬ j+3<[(0:Int),2,3].length by simp),Bool.false_and]
   rfl
 refine Tot.bind (Q:=λ r=>r=(Ni,Ni,9,[],0)) ?_ ?_
 ·refine Tot.up (L:=λ k i (_:Unit)=>Bs k Ni Ni 9 [0,2,3] [] 0 (Kk w) ((Kk w).length:Int) i w) (Q:=λ r=>r=(Ni,Ni,9,[],0)) (Kk w).length (λ _ _=>True) ?_ ?_ 0 () (Nat.zero_le _) trivial
  ·intro _ _
   simp (disch:=omega) only [Bs,dF]
   exact Tot.pure rfl
  ·intro j _ hj _ next
   simp (disch:=omega) only [Bs,dT,Int.toNat_natCast,w64,Jpa,Option.bind_some]
   exact Tot.no (hrc j) (next () trivial)
 ·rintro r rfl
  exact Tot.yes rfl (Tot.pure rfl)
theorem FnNobody:∀ (a0:List Int),Ty.fit ti (.sl 5 (.i .u8)) a0→∃ k,J5 k a0=some true:=by
 intro a0 _
 refine Tot.law (f:=λ k=>J5 k a0) ?_
 unfold J5 Nm
 refine Tot.bind (Tot.pure (Q:=λ b=>b=decide ((List.length a0:Int) > 1048576)) rfl) ?_
 rintro b rfl
 refine Tot.dite (λ _=>Tot.pure rfl) (λ hb=>?_)
 refine Tot.bind (Eha a0 (by omega)) ?_
 intro w h
 have hw:=h.win
 have hA:Km Mqa:=by unfold Km; decide
 have hAn:Ar Mqa=true:=by decide
 have r0:∀ j,rch [] j=0:=λ j=>by
  unfold rch
  rw [decide_eq_false (by simp)]
  rfl
 have r1:∀ j:Nat,rch [0,0] j=0:=by
  intro j
  match j with
  |0=>rfl
  |1=>rfl
  |j+2=>
   unfold rch
   rw [decide_eq_false (show ¬ j+2<[(0:Int),0].length by simp)]
   rfl
 refine Tot.bind (X0a w Mqa [] hw hA) ?_
 rintro _ rfl
 refine Tot.bind (Hba w h) ?_
 rintro ⟨l,d⟩ hd
 dsimp only at hd ⊢
 subst hd
 refine Tot.bind (X1a h.wim (by decide) Mqa [1] 0 [0,0] hA (by decide)) ?_
 rintro _ rfl
 have hg:(Dnb w Mqa []).2=1:=by
  unfold Dnb
  rw [h.rightB,hAn,X4a r0]
  rfl
 have hput:Bdb w Mqa ((0,0,0),false,[1]) 0 [0,0]=((Vf.ask w Mqa ((0,0,0),false,[1]) 0 [0,0]).2,(Vf.ask w Mqa ((0,0,0),false,[1]) 0 [0,0]).1):=by
  unfold Bdb
  rw [h.rightB]
  rfl
 rw [hput]
 have hask:=h.ask (s:=Mqa) (f:=((0,0,0),false,[1])) (t:=0) (rc:=[0,0]) (by intro x hx; rw [List.mem_singleton.1 hx]; decide) (λ c=>by cases c)
 have hwl:=h.wlen
 have key:(Vf.ask w Mqa ((0,0,0),false,[1]) 0 [0,0]).1=3∨((Vf.ask w Mqa ((0,0,0),false,[1]) 0 [0,0]).1=1∧∃ x,x.2.2=false∧(Vf.ask w Mqa ((0,0,0),false,[1]) 0 [0,0]).2.2.2.2.2.1=w.2.2.2.2.1++[x]):=by
  have hq:quo w.2.1.1≥1:=by
   have:=(Ax.1 h.ring).2.1
   unfold quo
   omega
  unfold Vf.ask
  rw [hAn,Bool.not_true,cond_false,decide_eq_false (show ¬ ((((0,0,0),false,[1]):Fil).2.2.length:Int) > 200 by decide),cond_false,show inR 0 0 1000000000=true from rfl,Bool.not_true,cond_false]
  cases (w.2.2.2.2.1.length:Int)==200 with
  |true=>exact .inl rfl
  |false=>
   rw [cond_false]
   cases (Ll w.2.2.2.1 0 0).1==w.2.2.2.1.1&&((Ll w.2.2.2.1 0 0).2.1==w.2.2.2.1.2.1&&(Ll w.2.2.2.1 0 0).2.2==w.2.2.2.1.2.2) with
   |true=>exact .inl rfl
   |false=>
    rw [cond_false]
    unfold Uc
    rw [X3a r1,decide_eq_false (by dsimp only; omega)]
    exact .inr ⟨rfl,_,rfl,rfl⟩
 generalize Vf.ask w Mqa ((0,0,0),false,[1]) 0 [0,0]=q at *
 rcases key with k3|⟨k1,x,hx,hws⟩
 ·rw [k3]
  refine Tot.yes rfl (Tot.bind (X2a h.wim (by decide) Mqa [1] 0 [0,0] hA (by decide)) ?_)
  rintro _ rfl
  rw [hput,k3]
  exact Tot.pure rfl
 ·rw [k1,hg,hws]
  have hl:(w.2.2.2.2.1++[x]).length=w.2.2.2.2.1.length+1:=by rw [List.length_append,List.length_singleton]
  refine Tot.no rfl (Tot.yes rfl (Tot.yes rfl (Tot.yes rfl ?_)))
  rw [hl,w64 (n:=(w.2.2.2.2.1.length:Int)+1) (by omega) (by omega),w64 (n:=((w.2.2.2.2.1.length+1:Nat):Int) - 1) (by omega) (by omega)]
  refine Tot.yes (by rw [beq_iff_eq]; omega) (Tot.dec (by omega) (Tot.dec (by omega) (Tot.yes ?_ (Tot.bind (Wla _ hask.win) ?_))))
  ·rw [show (((w.2.2.2.2.1.length+1:Nat):Int) - 1).toNat=w.2.2.2.2.1.length by omega,List.getD_eq_getElem?_getD,List.getElem?_append_right (Nat.le_refl _),Nat.sub_self]
   show (!x.2.2)=true
   rw [hx]
   rfl
  ·rintro _ rfl
   exact Tot.pure (by rw [hask.safe]; rfl)
end Go.Proofs.YtmhhjceoinoekaaGreat.Pure
end
