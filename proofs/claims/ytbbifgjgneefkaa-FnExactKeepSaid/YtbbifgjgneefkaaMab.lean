import Derived.Test.YtbbifgjgneefkaaMaa
import Derived.Laws.AppendOwn
import Derived.Laws.Cells
import Derived.Laws.World
set_option linter.all false
namespace Go.Proofs.Ytbbifgjgneefkaa.Vf
open Go
open List (length getD)
open Int (toNat)
open Go.IntKind (wrap)
open BitVec (ofInt)
def Va:=@Bool.and_eq_true
def Vb:=@Nat.eq_of_beq_eq_true
def Vc:=@Option.some.injEq
def Vg:=@List.length_cons
def Vh:=@List.length_append
def Vi:=@List.mem_append_right
def Vj:=@List.append_assoc
def Vt:=@List.mem_append_left
def Wb:=@Nat.zero_add
def Wd:=@List.getElem?_take
def Wf:=@List.nil_append
def Wj:=@List.drop_zero
def Wn:=@List.drop_drop
def Wp:=@List.cons.injEq
def Wq:=@List.eq_nil_of_length_eq_zero
def Xs:=@List.getElem?_drop
def Ye:=@List.append_nil
def Yg:=@Nat.add_mul
def Yj:=@List.length_map
def Yk:=@Nat.one_mul
def Yo:=@Nat.le_antisymm
def Yp:=@Nat.le_trans
def Yr:=@Nat.add_assoc
def Yv:=@Array.getElem?_toList
def Yw:=@List.drop_left
def Zd:=@Nat.add_comm
def Ze:=@List.take_length_add_append
def Zh:=@Nat.zero_mul
def Zq:=@List.sublist_append_right
def Ota:=@List.take_zero
def Oya:=@List.take_left
def P0a:=@List.replicate_succ
def P1a:=@List.sublist_append_left
def Paa:=@List.Sublist.refl
def Pba:=@List.ext_getElem?
def Psa:=@Iff.rfl

abbrev y0:=(Int×Int×Int)
abbrev y1:=(ByteArray×(List Int))
abbrev y2:=((List Int)×Int×Bool)
abbrev y3:=(y0×Bool×(List Int))
abbrev y4:=((List y1)×(List y1))
def Cz (a0:List Int) (a1:Int):Option (Int):=cond (decide ((wrap .i64 (a1-(length a0:Int)))<0)) (some (-1)) (some (wrap .i64 (a1-(length a0:Int))))
def E3 (a0:y1) (a1:Int):Option (Int):=cond (decide ((wrap .i64 (a1-(ByteArray.size a0.1:Int)))<0)) (some (-1)) ((Cz a0.2 (wrap .i64 (a1-(ByteArray.size a0.1:Int)))).bind λ r1=>cond (decide (r1<0)) (some (-1)) (some r1))
def C9:Nat→(List y1)→Int→Int→Option (Sum (Int) (Int))
 |0,_,_,_=>none
 |k+1,c,d,b=>cond (decide (b<(length c:Int))) (cond (decide ((0:Int)≤b)) (cond (decide (b<(length c:Int))) ((E3 (getD c (toNat b) ((⟨#[]⟩:ByteArray),[])) d).bind λ r2=>cond (decide (r2<0)) (some (.inl (-1))) (C9 k c r2 (wrap .i64 (b+1)))) none) none) (some (.inr d))
def Ay (k:Nat) (a0:List y1) (a1:Int):Option (Int):=cond (decide ((wrap .i64 (a1-(length a0:Int)))<0)) (some (-1)) ((C9 k a0 (wrap .i64 (a1-(length a0:Int))) 0).bind λ r1=>Sum.elim (λ y2=>some y2) (λ z3=>some z3) r1)
def Em (k:Nat) (a0:y4) (a1:Int):Option (Int):=(Ay k a0.1 a1).bind λ r1=>cond (decide (r1<0)) (some (-1)) ((Ay k a0.2 r1).bind λ r2=>cond (decide (r2<0)) (some (-1)) (some r2))
def C0:Nat→(List Int)→(List Int)→Int→Option (List Int)
 |0,_,_,_=>none
 |k+1,c,d,b=>cond (decide (b<(length c:Int))) (cond (decide ((0:Int)≤b)) (cond (decide (b<(length c:Int))) (cond (decide ((0:Int)≤b)) (cond (decide (b<(length d:Int))) (C0 k c (List.set d (toNat b) (getD c (toNat b) (0:Int))) (wrap .i64 (b+1))) none) none) none) none) (some d)
def C1 (k:Nat) (a0:List Int):Option (List Int):=cond (decide ((length a0:Int)=(length a0:Int))) (cond (decide ((0:Int)≤(length a0:Int))) (cond (decide ((length a0:Int)*(1:Nat)≤140737488355328)) ((C0 k a0 (List.replicate (toNat (length a0:Int)) (0:Int)) 0).bind λ r1=>some r1) none) none) none
def E4 (k:Nat) (a0:y1):Option y1:=(C1 k a0.2).bind λ r1=>some (a0.1,r1)
def Bo:Nat→(List y1)→(List y1)→Int→Option (List y1)
 |0,_,_,_=>none
 |k+1,c,d,b=>cond (decide (b<(length c:Int))) (cond (decide ((0:Int)≤b)) (cond (decide (b<(length c:Int))) ((E4 k (getD c (toNat b) ((⟨#[]⟩:ByteArray),[]))).bind λ r2=>cond (decide ((0:Int)≤b)) (cond (decide (b<(length d:Int))) (Bo k c (List.set d (toNat b) r2) (wrap .i64 (b+1))) none) none) none) none) (some d)
def Az (k:Nat) (a0:List y1):Option (List y1):=cond (decide ((length a0:Int)=(length a0:Int))) (cond (decide ((0:Int)≤(length a0:Int))) (cond (decide ((length a0:Int)*(40:Nat)≤140737488355328)) ((Bo k a0 (List.replicate (toNat (length a0:Int)) ((⟨#[]⟩:ByteArray),[])) 0).bind λ r1=>some r1) none) none) none
def Dc (k:Nat) (a0:y4):Option y4:=(Az k a0.1).bind λ r1=>(Az k a0.2).bind λ r2=>some (r1,r2)
def C2:Nat→(List Int)→(List Int)→Int→Option (Sum (Bool) (Unit))
 |0,_,_,_=>none
 |k+1,c,d,b=>cond (decide (b<(length c:Int))) (cond (decide ((0:Int)≤b)) (cond (decide (b<(length c:Int))) (cond (decide ((0:Int)≤b)) (cond (decide (b<(length d:Int))) (cond ((getD c (toNat b) (0:Int)) != (getD d (toNat b) (0:Int))) (some (.inl false)) (C2 k c d (wrap .i64 (b+1)))) none) none) none) none) (some (.inr ()))
def C3 (k:Nat) (a0:List Int) (a1:List Int):Option (Bool):=cond ((length a0:Int) != (length a1:Int)) (some false) ((C2 k a0 a1 0).bind λ r1=>Sum.elim (λ y2=>some y2) (λ z3=>some true) r1)
def E5 (k:Nat) (a0:y1) (a1:y1):Option (Bool):=cond (!(a0.1.toList==a1.1.toList)) (some false) ((C3 k a0.2 a1.2).bind λ r1=>cond (!r1) (some false) (some true))
def Bp:Nat→(List y1)→(List y1)→Int→Option (Sum (Bool) (Unit))
 |0,_,_,_=>none
 |k+1,c,d,b=>cond (decide (b<(length c:Int))) (cond (decide ((0:Int)≤b)) (cond (decide (b<(length c:Int))) (cond (decide ((0:Int)≤b)) (cond (decide (b<(length d:Int))) ((E5 k (getD c (toNat b) ((⟨#[]⟩:ByteArray),[])) (getD d (toNat b) ((⟨#[]⟩:ByteArray),[]))).bind λ r3=>cond (!r3) (some (.inl false)) (Bp k c d (wrap .i64 (b+1)))) none) none) none) none) (some (.inr ()))
def B0 (k:Nat) (a0:List y1) (a1:List y1):Option (Bool):=cond ((length a0:Int) != (length a1:Int)) (some false) ((Bp k a0 a1 0).bind λ r1=>Sum.elim (λ y2=>some y2) (λ z3=>some true) r1)
def Dd (k:Nat) (a0:y4) (a1:y4):Option (Bool):=(B0 k a0.1 a1.1).bind λ r1=>cond (!r1) (some false) ((B0 k a0.2 a1.2).bind λ r2=>cond (!r2) (some false) (some true))
def Bb:Nat→Int→Int→(List Int)→Option (Int×(List Int))
 |0,_,_,_=>none
 |k+1,d,b,c=>cond (decide (b<(length c:Int))) (cond (decide ((0:Int)≤b)) (cond (decide (b<(length c:Int))) (Bb k (wrap .i64 (d+1)) (wrap .i64 (b+1)) (List.set c (toNat b) (wrap .u8 d))) none) none) (some (d,c))
def B5 (k:Nat) (a0:List Int) (a1:Int):Option (Int×(List Int)):=(Bb k a1 0 a0).bind λ r1=>some (r1.1,r1.2)
def Bq:Nat→Int→ByteArray→Option (ByteArray)
 |0,_,_=>none
 |k+1,b,c=>cond (decide (b > 0)) (cond (Nat.ble (ByteArray.size (Ft [wrap .u8 (wrap .i64 (48+(Int.tmod b 10)))])+ByteArray.size c) 9223372036854775807) (Bq k (wrap .i64 (Int.tdiv b 10)) ((Ft [wrap .u8 (wrap .i64 (48+(Int.tmod b 10)))])++c)) none) (some c)
def B8 (k:Nat) (a0:Int):Option (ByteArray):=cond (decide (a0≤0)) (some (⟨#[109,48]⟩:ByteArray)) ((Bq k a0 (⟨#[]⟩:ByteArray)).bind λ r1=>cond (Nat.ble (ByteArray.size (⟨#[109]⟩:ByteArray)+ByteArray.size r1) 9223372036854775807) (some ((⟨#[109]⟩:ByteArray)++r1)) none)
def B1:Nat→Int→Int→(List y1)→Option (Int×(List y1))
 |0,_,_,_=>none
 |k+1,d,b,c=>cond (decide (b<(length c:Int))) ((B8 k d).bind λ r1=>cond (decide ((0:Int)≤b)) (cond (decide (b<(length c:Int))) (let v3:=List.set c (toNat b) (r1,(getD c (toNat b) ((⟨#[]⟩:ByteArray),[])).2);cond (decide ((0:Int)≤b)) (cond (decide (b<(length v3:Int))) (let v4:=getD v3 (toNat b) ((⟨#[]⟩:ByteArray),[]);(B5 k v4.2 (wrap .i64 (d+1))).bind λ r5=>B1 k r5.1 (wrap .i64 (b+1)) (List.set v3 (toNat b) (v4.1,r5.2))) none) none) none) none) (some (d,c))
def An (k:Nat) (a0:List y1) (a1:Int):Option (Int×(List y1)):=(B1 k a1 0 a0).bind λ r1=>some (r1.1,r1.2)
def Cf (k:Nat) (a0:y4) (a1:Int):Option (Int×y4):=(An k a0.1 a1).bind λ r1=>(An k a0.2 r1.1).bind λ r2=>some (r2.1,(r1.2,r2.2))
def Bc:Nat→(List Int)→Int→Int→Option (Sum (Int) (Int))
 |0,_,_,_=>none
 |k+1,c,d,b=>cond (decide (b<(length c:Int))) (cond (decide ((0:Int)≤b)) (cond (decide (b<(length c:Int))) (cond ((getD c (toNat b) (0:Int)) != (wrap .u8 d)) (some (.inl (-1))) (Bc k c (wrap .i64 (d+1)) (wrap .i64 (b+1)))) none) none) (some (.inr d))
def Ca (k:Nat) (a0:List Int) (a1:Int):Option (Int):=(Bc k a0 a1 0).bind λ r1=>Sum.elim (λ y2=>some y2) (λ z3=>some z3) r1
def B2:Nat→(List y1)→Int→Int→Option (Sum (Int) (Int))
 |0,_,_,_=>none
 |k+1,c,d,b=>cond (decide (b<(length c:Int))) (cond (decide ((0:Int)≤b)) (cond (decide (b<(length c:Int))) ((B8 k d).bind λ r2=>cond (!((getD c (toNat b) ((⟨#[]⟩:ByteArray),[])).1.toList==r2.toList)) (some (.inl (-1))) (cond (decide ((0:Int)≤b)) (cond (decide (b<(length c:Int))) ((Ca k (getD c (toNat b) ((⟨#[]⟩:ByteArray),[])).2 (wrap .i64 (d+1))).bind λ r4=>cond (decide (r4<0)) (some (.inl (-1))) (B2 k c r4 (wrap .i64 (b+1)))) none) none)) none) none) (some (.inr d))
def Ao (k:Nat) (a0:List y1) (a1:Int):Option (Int):=(B2 k a0 a1 0).bind λ r1=>Sum.elim (λ y2=>some y2) (λ z3=>some z3) r1
def Cg (k:Nat) (a0:y4) (a1:Int):Option (Int):=(Ao k a0.1 a1).bind λ r1=>cond (decide (r1<0)) (some (-1)) ((Ao k a0.2 r1).bind λ r2=>cond (decide (r2<0)) (some (-1)) (some r2))
def Eo (a0:y3) (a1:Int):Option (Int):=(Cz a0.2.2 a1).bind λ r1=>cond (decide (r1<0)) (some (-1)) (some r1)
def B3:Nat→(List y1)→(List y1)→Int→Option (List y1)
 |0,_,_,_=>none
 |k+1,c,d,b=>cond (decide (b<(length c:Int))) (cond (decide ((0:Int)≤b)) (cond (decide (b<(length c:Int))) (let v1:=getD c (toNat b) ((⟨#[]⟩:ByteArray),[]);cond (decide ((0:Int)≤b)) (cond (decide (b<(length c:Int))) (let v2:=getD c (toNat b) ((⟨#[]⟩:ByteArray),[]);cond (Nat.ble ((length ([]:List Int)+length v2.2)*1) 140737488355328) (cond (Nat.ble ((length d+length [(v1.1,([]:List Int)++v2.2)])*40) 140737488355328) (B3 k c (d++[(v1.1,([]:List Int)++v2.2)]) (wrap .i64 (b+1))) none) none) none) none) none) none) (some d)
def Bd (k:Nat) (a0:List y1):Option (List y1):=(B3 k a0 ([]:List y1) 0).bind λ r1=>some r1
def A9 (k:Nat) (a0:y4):Option y4:=(Bd k a0.1).bind λ r1=>(Bd k a0.2).bind λ r2=>some (r1,r2)
def As:Nat→(List y1)→ByteArray→(List y1)→Bool→Int→ByteArray→(List Int)→Option ((List y1)×Bool×y1)
 |0,_,_,_,_,_,_,_=>none
 |k+1,c,d,e,h,b,f,g=>cond (decide (b<(length c:Int))) (cond (!h) (cond (decide ((0:Int)≤b)) (cond (decide (b<(length c:Int))) (cond (!(Op.bytesLess (getD c (toNat b) ((⟨#[]⟩:ByteArray),[])).1.toList d.toList)) (cond (Nat.ble ((length e+length [(f,g)])*40) 140737488355328) (let v2:List y1:=e++[(f,g)];cond (decide ((0:Int)≤b)) (cond (decide (b<(length c:Int))) (cond (!((getD c (toNat b) ((⟨#[]⟩:ByteArray),[])).1.toList==d.toList)) (cond (decide ((0:Int)≤b)) (cond (decide (b<(length c:Int))) (let v4:=getD c (toNat b) ((⟨#[]⟩:ByteArray),[]);cond (Nat.ble ((length v2+length [v4])*40) 140737488355328) (As k c d (v2++[v4]) true (wrap .i64 (b+1)) f g) none) none) none) (As k c d v2 true (wrap .i64 (b+1)) f g)) none) none) none) (cond (decide ((0:Int)≤b)) (cond (decide (b<(length c:Int))) (cond (!((getD c (toNat b) ((⟨#[]⟩:ByteArray),[])).1.toList==d.toList)) (cond (decide ((0:Int)≤b)) (cond (decide (b<(length c:Int))) (let v6:=getD c (toNat b) ((⟨#[]⟩:ByteArray),[]);cond (Nat.ble ((length e+length [v6])*40) 140737488355328) (As k c d (e++[v6]) h (wrap .i64 (b+1)) f g) none) none) none) (As k c d e h (wrap .i64 (b+1)) f g)) none) none)) none) none) (cond (decide ((0:Int)≤b)) (cond (decide (b<(length c:Int))) (cond (!((getD c (toNat b) ((⟨#[]⟩:ByteArray),[])).1.toList==d.toList)) (cond (decide ((0:Int)≤b)) (cond (decide (b<(length c:Int))) (let v8:=getD c (toNat b) ((⟨#[]⟩:ByteArray),[]);cond (Nat.ble ((length e+length [v8])*40) 140737488355328) (As k c d (e++[v8]) h (wrap .i64 (b+1)) f g) none) none) none) (As k c d e h (wrap .i64 (b+1)) f g)) none) none)) (some (e,h,f,g))
def De (k:Nat) (a0:List y1) (a1:ByteArray) (a2:List Int):Option (List y1):=cond (Nat.ble ((length ([]:List Int)+length a2)*1) 140737488355328) ((As k a0 a1 ([]:List y1) false 0 a1 (([]:List Int)++a2)).bind λ r1=>cond (!r1.2.1) (cond (Nat.ble ((length r1.1+length [r1.2.2])*40) 140737488355328) (some (r1.1++[r1.2.2])) none) (some r1.1)) none
def Da (a0:Int) (a1:Int) (a2:Int):Option (Bool):=cond (decide (a0≥a1)) (some (decide (a0≤a2))) (some false)
def B6:Nat→ByteArray→Int→Option (Sum (Bool) (ByteArray))
 |0,_,_=>none
 |k+1,b,c=>cond (decide (c<(ByteArray.size b:Int))) (cond (decide ((0:Int)≤c)) (cond (decide (c<(ByteArray.size b:Int))) ((Da (wrap .i64 (bt b c)) 97 122).bind λ r1=>cond (!r1) ((Da (wrap .i64 (bt b c)) 48 57).bind λ r2=>cond (!r2) (cond ((wrap .i64 (bt b c)) != 45) (cond ((wrap .i64 (bt b c)) != 95) (cond ((wrap .i64 (bt b c)) != 47) (some (.inl false)) (B6 k b (wrap .i64 (c+1)))) (B6 k b (wrap .i64 (c+1)))) (B6 k b (wrap .i64 (c+1)))) (B6 k b (wrap .i64 (c+1)))) (B6 k b (wrap .i64 (c+1)))) none) none) (some (.inr b))
def Av (k:Nat) (a0:ByteArray):Option (Bool):=(B6 k a0 0).bind λ r1=>Sum.elim (λ y2=>some y2) (λ z3=>(Da (ByteArray.size z3:Int) 1 20).bind λ r4=>some r4) r1
def Cb:Nat→(List y1)→Int→Option (Sum (Bool) (List y1))
 |0,_,_=>none
 |k+1,c,b=>cond (decide (b<(length c:Int))) (cond (decide ((0:Int)≤b)) (cond (decide (b<(length c:Int))) ((Av k (getD c (toNat b) ((⟨#[]⟩:ByteArray),[])).1).bind λ r2=>cond (!r2) (some (.inl false)) (cond (decide ((0:Int)≤b)) (cond (decide (b<(length c:Int))) (cond (decide ((length (getD c (toNat b) ((⟨#[]⟩:ByteArray),[])).2:Int) > 400)) (some (.inl false)) (cond (decide (b > 0)) (cond (decide ((0:Int)≤wrap .i64 (b-1))) (cond (decide (wrap .i64 (b-1)<(length c:Int))) (cond (decide ((0:Int)≤b)) (cond (decide (b<(length c:Int))) (cond (!(Op.bytesLess (getD c (toNat (wrap .i64 (b-1))) ((⟨#[]⟩:ByteArray),[])).1.toList (getD c (toNat b) ((⟨#[]⟩:ByteArray),[])).1.toList)) (some (.inl false)) (Cb k c (wrap .i64 (b+1)))) none) none) none) none) (Cb k c (wrap .i64 (b+1))))) none) none)) none) none) (some (.inr c))
def C4 (k:Nat) (a0:List y1):Option (Bool):=(Cb k a0 0).bind λ r1=>Sum.elim (λ y2=>some y2) (λ z3=>some (decide ((length z3:Int)≤60))) r1
def Cv (k:Nat) (a0:y4):Option (Bool):=(C4 k a0.1).bind λ r1=>cond r1 ((C4 k a0.2).bind λ r2=>some r2) (some false)
def Cj (k:Nat) (a0:y4) (a1:y4) (a2:ByteArray):Option (y4×Bool):=(Cv k a0).bind λ r1=>cond (!r1) ((A9 k a0).bind λ r2=>some (r2,false)) ((Av k a2).bind λ r3=>cond (!r3) ((A9 k a0).bind λ r4=>some (r4,false)) ((Cv k a1).bind λ r5=>cond (!r5) ((A9 k a0).bind λ r6=>some (r6,false)) (some (a1,true))))
def Bj (k:Nat) (a0:y4) (a1:ByteArray) (a2:List Int):Option (y4×Bool):=(A9 k a0).bind λ r1=>(De k r1.1 a1 a2).bind λ r2=>(Cj k a0 (r2,r1.2) a1).bind λ r3=>some (r3.1,r3.2)
def Di:Nat→(List y1)→ByteArray→Int→Option (Sum (Int) (Unit))
 |0,_,_,_=>none
 |k+1,c,d,b=>cond (decide (b<(length c:Int))) (cond (decide ((0:Int)≤b)) (cond (decide (b<(length c:Int))) (cond ((getD c (toNat b) ((⟨#[]⟩:ByteArray),[])).1.toList==d.toList) (some (.inl b)) (Di k c d (wrap .i64 (b+1)))) none) none) (some (.inr ()))
def Fg (k:Nat) (a0:List y1) (a1:ByteArray):Option (Int):=(Di k a0 a1 0).bind λ r1=>Sum.elim (λ y2=>some y2) (λ z3=>some (-1)) r1
def Bx (k:Nat) (a0:y4) (a1:ByteArray):Option ((List Int)×Bool):=(Fg k a0.1 a1).bind λ r1=>cond (decide (r1<0)) (some (([]:List Int),false)) (cond (decide ((0:Int)≤r1)) (cond (decide (r1<(length a0.1:Int))) (let v2:=getD a0.1 (toNat r1) ((⟨#[]⟩:ByteArray),[]);cond (Nat.ble ((length ([]:List Int)+length v2.2)*1) 140737488355328) (some (([]:List Int)++v2.2,true)) none) none) none)
def Cs:Nat→(List y1)→ByteArray→(List y1)→Int→Option (List y1)
 |0,_,_,_,_=>none
 |k+1,c,e,d,b=>cond (decide (b<(length c:Int))) (cond (decide ((0:Int)≤b)) (cond (decide (b<(length c:Int))) (cond (!((getD c (toNat b) ((⟨#[]⟩:ByteArray),[])).1.toList==e.toList)) (cond (decide ((0:Int)≤b)) (cond (decide (b<(length c:Int))) (let v2:=getD c (toNat b) ((⟨#[]⟩:ByteArray),[]);cond (Nat.ble ((length d+length [v2])*40) 140737488355328) (Cs k c e (d++[v2]) (wrap .i64 (b+1))) none) none) none) (Cs k c e d (wrap .i64 (b+1)))) none) none) (some d)
def Ej (k:Nat) (a0:List y1) (a1:ByteArray):Option (List y1):=(Cs k a0 a1 ([]:List y1) 0).bind λ r1=>some r1
def B9 (k:Nat) (a0:y4) (a1:ByteArray):Option (y4×Bool):=(A9 k a0).bind λ r1=>(Bx k a0 a1).bind λ r2=>(Ej k r1.2 a1).bind λ r3=>cond r2.2 ((De k r3 a1 r2.1).bind λ r4=>(Cj k a0 (r1.1,r4) a1).bind λ r5=>some (r5.1,r5.2)) ((Cj k a0 (r1.1,r3) a1).bind λ r6=>some (r6.1,r6.2))
def Dj (a0:y0):Option (Bool):=(Da a0.1 0 1000000000).bind λ r1=>cond r1 ((Da a0.2.1 0 1000000).bind λ r2=>cond r2 ((Da a0.2.2 0 20).bind λ r3=>some r3) (some false)) (some false)
def C5 (a0:y3):Option (Bool):=(Dj a0.1).bind λ r1=>cond r1 (cond (decide ((length a0.2.2:Int)≤200)) (cond (!a0.2.1) (some true) (some ((length a0.2.2:Int)==0))) (some false)) (some false)
def B7:Nat→Int→(List Int)→Option (Int×(List Int))
 |0,_,_=>none
 |k+1,b,c=>cond (decide (b > 127)) (cond (Nat.ble ((length c+length [wrap .u8 (wrap .i64 ((ofInt (IntKind.bits .i64) (wrap .i64 ((ofInt (IntKind.bits .i64) b &&& ofInt (IntKind.bits .i64) 127).toNat)) ||| ofInt (IntKind.bits .i64) 128).toNat))])*1) 140737488355328) (B7 k (Int.fdiv b (2 ^ (min (toNat 7) (IntKind.bits .i64)))) (c++[wrap .u8 (wrap .i64 ((ofInt (IntKind.bits .i64) (wrap .i64 ((ofInt (IntKind.bits .i64) b &&& ofInt (IntKind.bits .i64) 127).toNat)) ||| ofInt (IntKind.bits .i64) 128).toNat))])) none) (some (b,c))
def Be (k:Nat) (a0:List Int) (a1:Int):Option (List Int):=cond (Nat.ble ((length ([]:List Int)+length a0)*1) 140737488355328) (cond (decide (a1 > 1000000000)) (cond (decide ((1000000000:Int)<0)) ((B7 k 0 (([]:List Int)++a0)).bind λ r1=>cond (Nat.ble ((length r1.2+length [wrap .u8 r1.1])*1) 140737488355328) (some (r1.2++[wrap .u8 r1.1])) none) ((B7 k 1000000000 (([]:List Int)++a0)).bind λ r3=>cond (Nat.ble ((length r3.2+length [wrap .u8 r3.1])*1) 140737488355328) (some (r3.2++[wrap .u8 r3.1])) none)) (cond (decide (a1<0)) ((B7 k 0 (([]:List Int)++a0)).bind λ r5=>cond (Nat.ble ((length r5.2+length [wrap .u8 r5.1])*1) 140737488355328) (some (r5.2++[wrap .u8 r5.1])) none) ((B7 k a1 (([]:List Int)++a0)).bind λ r7=>cond (Nat.ble ((length r7.2+length [wrap .u8 r7.1])*1) 140737488355328) (some (r7.2++[wrap .u8 r7.1])) none))) none
def Dk (k:Nat) (a0:List Int) (a1:ByteArray):Option (List Int):=(Be k a0 (ByteArray.size a1:Int)).bind λ r1=>cond (Nat.ble ((length r1+ByteArray.size a1)*1) 140737488355328) (some (r1++bytesOf a1)) none
def Dl (k:Nat) (a0:List Int) (a1:y0):Option (List Int):=(Be k a0 a1.1).bind λ r1=>(Be k r1 a1.2.1).bind λ r2=>(Be k r2 a1.2.2).bind λ r3=>some r3
def Ep (a0:Bool):Option (Int):=cond a0 (some 1) (some 0)
def Dy:Nat→(List Int)→Int→Int→Int→Option ((List Int)×Int×Int)
 |0,_,_,_,_=>none
 |k+1,c,b,d,e=>cond (decide (e<8)) (cond ((wrap .i64 ((ofInt (IntKind.bits .i64) b &&& ofInt (IntKind.bits .i64) 1).toNat))==1) (Dy k c (wrap .i64 ((ofInt (IntKind.bits .i64) (Int.fdiv b (2 ^ (min (toNat 1) (IntKind.bits .i64)))) ^^^ ofInt (IntKind.bits .i64) 2197175160).toNat)) d (wrap .i64 (e+1))) (Dy k c (Int.fdiv b (2 ^ (min (toNat 1) (IntKind.bits .i64)))) d (wrap .i64 (e+1)))) (some (c,b,d))
def E8:Nat→(List Int)→Int→Int→Option (Int)
 |0,_,_,_=>none
 |k+1,c,d,b=>cond (decide (b<(length c:Int))) (cond (decide ((0:Int)≤b)) (cond (decide (b<(length c:Int))) ((Dy k c (wrap .i64 ((ofInt (IntKind.bits .i64) d ^^^ ofInt (IntKind.bits .i64) (wrap .i64 (getD c (toNat b) (0:Int)))).toNat)) b 0).bind λ r2=>E8 k r2.1 r2.2.1 (wrap .i64 (r2.2.2+1))) none) none) (some d)
def Fu (k:Nat) (a0:List Int):Option (Int):=(E8 k a0 4294967295 0).bind λ r1=>some (wrap .i64 ((ofInt (IntKind.bits .i64) r1 ^^^ ofInt (IntKind.bits .i64) 4294967295).toNat))
def Bu (k:Nat) (a0:y3):Option (List Int):=(C5 a0).bind λ r1=>cond (!r1) (some ([]:List Int)) ((Dl k ([]:List Int) a0.1).bind λ r2=>(Ep a0.2.1).bind λ r3=>(Be k r2 r3).bind λ r4=>(Dk k r4 (Ft a0.2.2)).bind λ r5=>(Fu k r5).bind λ r6=>cond (Nat.ble ((length r5+length [wrap .u8 (Int.fdiv r6 (2 ^ (min (toNat 24) (IntKind.bits .i64)))),wrap .u8 (Int.fdiv r6 (2 ^ (min (toNat 16) (IntKind.bits .i64)))),wrap .u8 (Int.fdiv r6 (2 ^ (min (toNat 8) (IntKind.bits .i64)))),wrap .u8 r6])*1) 140737488355328) (some (r5++[wrap .u8 (Int.fdiv r6 (2 ^ (min (toNat 24) (IntKind.bits .i64)))),wrap .u8 (Int.fdiv r6 (2 ^ (min (toNat 16) (IntKind.bits .i64)))),wrap .u8 (Int.fdiv r6 (2 ^ (min (toNat 8) (IntKind.bits .i64)))),wrap .u8 r6])) none)
def Bt:Nat→(List Int)→Int→Int→Int→Option (Sum (Int×Int×Bool) (Unit))
 |0,_,_,_,_=>none
 |k+1,d,c,e,b=>cond (decide (b<5)) (cond (decide (c≥0)) (cond (decide (c<(length d:Int))) (cond (decide ((wrap .i64 (c+b))<(length d:Int))) (cond (decide ((0:Int)≤wrap .i64 (c+b))) (cond (decide (wrap .i64 (c+b)<(length d:Int))) (let v1:=getD d (toNat (wrap .i64 (c+b))) (0:Int);cond (decide ((wrap .u64 (wrap .i64 (7*b)))<0)) none (cond (decide ((wrap .i64 v1) > 127)) (Bt k d c (wrap .i64 ((ofInt (IntKind.bits .i64) e ||| ofInt (IntKind.bits .i64) (wrap .i64 ((wrap .i64 ((ofInt (IntKind.bits .i64) (wrap .i64 v1) &&& ofInt (IntKind.bits .i64) 127).toNat))*2 ^ (min (toNat (wrap .u64 (wrap .i64 (7*b)))) (IntKind.bits .i64))))).toNat)) (wrap .i64 (b+1))) (cond (decide (b > 0)) (cond ((wrap .i64 v1)==0) (some (.inl (0,0,false))) (cond (decide ((wrap .i64 ((ofInt (IntKind.bits .i64) e ||| ofInt (IntKind.bits .i64) (wrap .i64 ((wrap .i64 ((ofInt (IntKind.bits .i64) (wrap .i64 v1) &&& ofInt (IntKind.bits .i64) 127).toNat))*2 ^ (min (toNat (wrap .u64 (wrap .i64 (7*b)))) (IntKind.bits .i64))))).toNat)) > 1000000000)) (some (.inl (0,0,false))) (some (.inl (wrap .i64 ((ofInt (IntKind.bits .i64) e ||| ofInt (IntKind.bits .i64) (wrap .i64 ((wrap .i64 ((ofInt (IntKind.bits .i64) (wrap .i64 v1) &&& ofInt (IntKind.bits .i64) 127).toNat))*2 ^ (min (toNat (wrap .u64 (wrap .i64 (7*b)))) (IntKind.bits .i64))))).toNat),wrap .i64 ((wrap .i64 (c+b))+1),true))))) (cond (decide ((wrap .i64 ((ofInt (IntKind.bits .i64) e ||| ofInt (IntKind.bits .i64) (wrap .i64 ((wrap .i64 ((ofInt (IntKind.bits .i64) (wrap .i64 v1) &&& ofInt (IntKind.bits .i64) 127).toNat))*2 ^ (min (toNat (wrap .u64 (wrap .i64 (7*b)))) (IntKind.bits .i64))))).toNat)) > 1000000000)) (some (.inl (0,0,false))) (some (.inl (wrap .i64 ((ofInt (IntKind.bits .i64) e ||| ofInt (IntKind.bits .i64) (wrap .i64 ((wrap .i64 ((ofInt (IntKind.bits .i64) (wrap .i64 v1) &&& ofInt (IntKind.bits .i64) 127).toNat))*2 ^ (min (toNat (wrap .u64 (wrap .i64 (7*b)))) (IntKind.bits .i64))))).toNat),wrap .i64 ((wrap .i64 (c+b))+1),true))))))) none) none) (some (.inr ()))) (some (.inr ()))) (some (.inr ()))) (some (.inr ()))
def Bf (k:Nat) (a0:List Int) (a1:Int):Option (Int×Int×Bool):=(Bt k a0 a1 0 0).bind λ r1=>Sum.elim (λ y2=>some (y2.1,y2.2.1,y2.2.2)) (λ z3=>some (0,0,false)) r1
def C6 (k:Nat) (a0:List Int) (a1:Int):Option (y0×Int×Bool):=(Bf k a0 a1).bind λ r1=>(Bf k a0 r1.2.1).bind λ r2=>(Bf k a0 r2.2.1).bind λ r3=>cond r1.2.2 (cond r2.2.2 (some ((r1.1,r2.1,r3.1),r3.2.1,r3.2.2)) (some ((r1.1,r2.1,r3.1),r3.2.1,false))) (some ((r1.1,r2.1,r3.1),r3.2.1,false))
def Dm (k:Nat) (a0:List Int) (a1:Int):Option (ByteArray×Int×Bool):=(Bf k a0 a1).bind λ r1=>cond (!r1.2.2) (some ((⟨#[]⟩:ByteArray),0,false)) (cond (decide (r1.1 > (wrap .i64 ((length a0:Int)-r1.2.1)))) (some ((⟨#[]⟩:ByteArray),0,false)) (cond (decide ((0:Int)≤r1.2.1)) (cond (decide (r1.2.1≤wrap .i64 (r1.2.1+r1.1))) (cond (decide (wrap .i64 (r1.2.1+r1.1)≤(length a0:Int))) (some (Ft (List.drop (toNat r1.2.1) (List.take (toNat (wrap .i64 (r1.2.1+r1.1))) a0)),wrap .i64 (r1.2.1+r1.1),true)) none) none) none))
def Dn (k:Nat) (a0:List Int):Option (y3×Bool):=(C6 k a0 0).bind λ r1=>(Bf k a0 r1.2.1).bind λ r2=>(Dm k a0 r2.2.1).bind λ r3=>cond (!r1.2.2) (some (((0,0,0),false,([]:List Int)),false)) (cond (!r2.2.2) (some (((0,0,0),false,([]:List Int)),false)) (cond (!r3.2.2) (some (((0,0,0),false,([]:List Int)),false)) (cond (decide (r2.1 > 1)) (some (((0,0,0),false,([]:List Int)),false)) (cond ((wrap .i64 (r3.2.1+4)) != (length a0:Int)) (some (((0,0,0),false,([]:List Int)),false)) (cond (Nat.ble ((length ([]:List Int)+ByteArray.size r3.1)*1) 140737488355328) (let v4:List Int:=([]:List Int)++bytesOf r3.1;(C5 (r1.1,r2.1==1,v4)).bind λ r5=>cond (!r5) (some (((0,0,0),false,([]:List Int)),false)) ((Bu k (r1.1,r2.1==1,v4)).bind λ r6=>cond (!((Ft r6).toList==(Ft a0).toList)) (some (((0,0,0),false,([]:List Int)),false)) (some ((r1.1,r2.1==1,v4),true)))) none)))))
def Fn (k:Nat) (a0:y4) (a1:ByteArray):Option (y3×Int):=(Bx k a0 a1).bind λ r1=>cond (!r1.2) (some (((0,0,0),false,([]:List Int)),1)) ((Dn k r1.1).bind λ r2=>cond (!r2.2) (some (((0,0,0),false,([]:List Int)),2)) (some (r2.1,0)))
def Co (a0:y0) (a1:y0):Option (Bool):=cond (a0.1 != a1.1) (some (decide (a0.1<a1.1))) (cond (a0.2.1 != a1.2.1) (some (decide (a0.2.1<a1.2.1))) (some (decide (a0.2.2<a1.2.2))))
def Ev (a0:y3) (a1:y3):Option (Bool):=(Co a1.1 a0.1).bind λ r1=>some r1
def Fh (k:Nat) (a0:y4) (a1:ByteArray) (a2:y3) (a3:Bool):Option (y4×Int):=(Cv k a0).bind λ r1=>cond (!r1) ((A9 k a0).bind λ r2=>some (r2,2)) ((Av k a1).bind λ r3=>cond (!r3) ((A9 k a0).bind λ r4=>some (r4,2)) ((C5 a2).bind λ r5=>cond (!r5) ((A9 k a0).bind λ r6=>some (r6,2)) ((Fn k a0 a1).bind λ r7=>cond (r7.2==0) ((Ev a2 r7.1).bind λ r8=>cond (!r8) ((A9 k a0).bind λ r9=>cond a3 ((B9 k a0 a1).bind λ r10=>cond (!r10.2) ((A9 k a0).bind λ r11=>some (r11,3)) (some (r10.1,1))) (some (r9,1))) ((Bu k a2).bind λ r12=>(Bj k a0 a1 r12).bind λ r13=>cond r13.2 (cond a3 ((B9 k r13.1 a1).bind λ r14=>cond (!r14.2) ((A9 k a0).bind λ r15=>some (r15,3)) (some (r14.1,0))) (cond (!r13.2) ((A9 k a0).bind λ r16=>some (r16,3)) (some (r13.1,0)))) (cond (!r13.2) ((A9 k a0).bind λ r17=>some (r17,3)) (some (r13.1,0))))) ((Bu k a2).bind λ r18=>(Bj k a0 a1 r18).bind λ r19=>cond r19.2 (cond a3 ((B9 k r19.1 a1).bind λ r20=>cond (!r20.2) ((A9 k a0).bind λ r21=>some (r21,3)) (some (r20.1,0))) (cond (!r19.2) ((A9 k a0).bind λ r22=>some (r22,3)) (some (r19.1,0)))) (cond (!r19.2) ((A9 k a0).bind λ r23=>some (r23,3)) (some (r19.1,0)))))))
def E6 (a0:y0):Option y0:=some a0
def D5 (k:Nat) (a0:y3):Option y3:=(E6 a0.1).bind λ r1=>(C1 k a0.2.2).bind λ r2=>some (r1,a0.2.1,r2)
def Am (a0:List Int):Option (List Int):=cond (Nat.ble ((length ([]:List Int)+length a0)*1) 140737488355328) (some (([]:List Int)++a0)) none
def Bg:Nat→(List y1)→(List y1)→Int→Int→Option (List y1)
 |0,_,_,_,_=>none
 |k+1,c,d,e,b=>cond (decide (b<e)) (cond (decide ((0:Int)≤b)) (cond (decide (b<(length d:Int))) (let v1:=getD d (toNat b) ((⟨#[]⟩:ByteArray),[]);(Am v1.2).bind λ r2=>cond (Nat.ble ((length c+length [(v1.1,r2)])*40) 140737488355328) (Bg k (c++[(v1.1,r2)]) d e (wrap .i64 (b+1))) none) none) none) (some c)
def Aq (k:Nat) (a0:List y1):Option (List y1):=(Bg k ([]:List y1) a0 (length a0:Int) 0).bind λ r1=>some r1
def A6 (k:Nat) (a0:y4):Option y4:=(Aq k a0.1).bind λ r1=>(Aq k a0.2).bind λ r2=>some (r1,r2)
def G3 (a0:Int) (a1:Int) (a2:Int):Option (Bool):=cond (decide (a0≥a1)) (some (decide (a0≤a2))) (some false)
def Ad:Nat→ByteArray→Int→Option (Sum (Bool) (ByteArray))
 |0,_,_=>none
 |k+1,b,c=>cond (decide (c<(ByteArray.size b:Int))) (cond (decide ((0:Int)≤c)) (cond (decide (c<(ByteArray.size b:Int))) (cond (decide ((bt b c)≥97)) (cond (!(decide ((bt b c)≤122))) (cond (decide ((bt b c)≥48)) (cond (!(decide ((bt b c)≤57))) (cond ((bt b c) != 45) (cond ((bt b c) != 95) (cond ((bt b c) != 47) (some (.inl false)) (Ad k b (wrap .i64 (c+1)))) (Ad k b (wrap .i64 (c+1)))) (Ad k b (wrap .i64 (c+1)))) (Ad k b (wrap .i64 (c+1)))) (cond ((bt b c) != 45) (cond ((bt b c) != 95) (cond ((bt b c) != 47) (some (.inl false)) (Ad k b (wrap .i64 (c+1)))) (Ad k b (wrap .i64 (c+1)))) (Ad k b (wrap .i64 (c+1))))) (Ad k b (wrap .i64 (c+1)))) (cond (decide ((bt b c)≥48)) (cond (!(decide ((bt b c)≤57))) (cond ((bt b c) != 45) (cond ((bt b c) != 95) (cond ((bt b c) != 47) (some (.inl false)) (Ad k b (wrap .i64 (c+1)))) (Ad k b (wrap .i64 (c+1)))) (Ad k b (wrap .i64 (c+1)))) (Ad k b (wrap .i64 (c+1)))) (cond ((bt b c) != 45) (cond ((bt b c) != 95) (cond ((bt b c) != 47) (some (.inl false)) (Ad k b (wrap .i64 (c+1)))) (Ad k b (wrap .i64 (c+1)))) (Ad k b (wrap .i64 (c+1)))))) none) none) (some (.inr b))
def Ap (k:Nat) (a0:ByteArray):Option (Bool):=(Ad k a0 0).bind λ r1=>Sum.elim (λ y2=>some y2) (λ z3=>(G3 (ByteArray.size z3:Int) 1 20).bind λ r4=>some r4) r1
def Br:Nat→(List y1)→(List y1)→Int→Int→Option (Sum (Bool) (List y1))
 |0,_,_,_,_=>none
 |k+1,c,d,e,b=>cond (decide (b<e)) (cond (decide ((0:Int)≤b)) (cond (decide (b<(length d:Int))) (let v1:=getD d (toNat b) ((⟨#[]⟩:ByteArray),[]);(Ap k v1.1).bind λ r2=>cond (!r2) (some (.inl false)) (cond (decide ((length v1.2:Int) > 400)) (some (.inl false)) (cond (decide (b > 0)) (cond (decide ((0:Int)≤wrap .i64 (b-1))) (cond (decide (wrap .i64 (b-1)<(length c:Int))) (cond (!(Op.bytesLess (getD c (toNat (wrap .i64 (b-1))) ((⟨#[]⟩:ByteArray),[])).1.toList v1.1.toList)) (some (.inl false)) (Br k c d e (wrap .i64 (b+1)))) none) none) (Br k c d e (wrap .i64 (b+1)))))) none) none) (some (.inr c))
def Bm (k:Nat) (a0:List y1):Option (Bool):=(Br k a0 a0 (length a0:Int) 0).bind λ r1=>Sum.elim (λ y2=>some y2) (λ z3=>some (decide ((length z3:Int)≤60))) r1
def C7 (k:Nat) (a0:y4):Option (Bool):=(Bm k a0.1).bind λ r1=>cond r1 ((Bm k a0.2).bind λ r2=>some r2) (some false)
def E9:Nat→(List y1)→Int→ByteArray→(List Int)→Option ((List y1)×Int×y1)
 |0,_,_,_,_=>none
 |k+1,c,b,d,e=>cond (decide (b<(length c:Int))) (cond (decide ((0:Int)≤b)) (cond (decide (b<(length c:Int))) (cond (Op.bytesLess (getD c (toNat b) ((⟨#[]⟩:ByteArray),[])).1.toList d.toList) (E9 k c (wrap .i64 (b+1)) d e) (some (c,b,d,e))) none) none) (some (c,b,d,e))
def Fa (k:Nat) (a0:List y1) (a1:y1):Option (List y1):=(E9 k a0 0 a1.1 a1.2).bind λ r1=>cond (decide (0≤r1.2.1)&&decide (r1.2.1≤(length r1.1:Int))) (cond (decide (r1.2.1=(length (List.take (toNat r1.2.1) r1.1):Int))) (cond (Nat.ble ((length ([]:List y1)+length (List.take (toNat r1.2.1) r1.1))*40) 140737488355328) (let v2:List y1:=([]:List y1)++(List.take (toNat r1.2.1) r1.1);cond (Nat.ble ((length v2+length [r1.2.2])*40) 140737488355328) (cond (decide (0≤r1.2.1)&&decide (r1.2.1≤(length r1.1:Int))&&Nat.ble (toNat r1.2.1) (toNat r1.2.1)) (cond (Nat.ble ((length (v2++[r1.2.2])+length (List.drop (toNat r1.2.1) r1.1))*40) 140737488355328) (some ((v2++[r1.2.2])++(List.drop (toNat r1.2.1) r1.1))) none) none) none) none) none) none
def Ew:Nat→ByteArray→(List y1)→Int→Int→Option (Sum (Int) (Unit))
 |0,_,_,_,_=>none
 |k+1,d,c,e,b=>cond (decide (b<e)) (cond (decide ((0:Int)≤b)) (cond (decide (b<(length c:Int))) (cond ((getD c (toNat b) ((⟨#[]⟩:ByteArray),[])).1.toList==d.toList) (some (.inl b)) (Ew k d c e (wrap .i64 (b+1)))) none) none) (some (.inr ()))
def Fj (k:Nat) (a0:List y1) (a1:ByteArray):Option (Int):=(Ew k a1 a0 (length a0:Int) 0).bind λ r1=>Sum.elim (λ y2=>some y2) (λ z3=>some (-1)) r1
def Ek (k:Nat) (a0:List y1) (a1:ByteArray):Option (List y1):=(Fj k a0 a1).bind λ r1=>cond (decide (r1<0)) (some a0) (cond (decide (0≤r1)&&decide (r1≤(length a0:Int))) (cond (decide (r1=(length (List.take (toNat r1) a0):Int))) (cond (Nat.ble ((length ([]:List y1)+length (List.take (toNat r1) a0))*40) 140737488355328) (let v2:List y1:=([]:List y1)++(List.take (toNat r1) a0);cond (decide (0≤wrap .i64 (r1+1))&&decide (wrap .i64 (r1+1)≤(length a0:Int))&&Nat.ble (toNat r1) (toNat (wrap .i64 (r1+1)))) (cond (Nat.ble ((length v2+length (List.drop (toNat (wrap .i64 (r1+1))) a0))*40) 140737488355328) (some (v2++(List.drop (toNat (wrap .i64 (r1+1))) a0))) none) none) none) none) none)
def Bl (k:Nat) (a0:y4) (a1:ByteArray) (a2:List Int):Option (y4×Bool):=(A6 k a0).bind λ r1=>(C7 k a0).bind λ r2=>cond (!r2) (some (r1,false)) ((Ap k a1).bind λ r3=>cond (!r3) (some (r1,false)) (cond (decide ((length a2:Int) > 400)) (some (r1,false)) ((Ek k r1.1 a1).bind λ r4=>(Am a2).bind λ r5=>(Fa k r4 (a1,r5)).bind λ r6=>cond (decide ((length r6:Int) > 60)) ((A6 k a0).bind λ r7=>some (r7,false)) (some ((r6,r1.2),true)))))
def Ba (k:Nat) (a0:y4) (a1:ByteArray):Option (y4×Bool):=(A6 k a0).bind λ r1=>(C7 k a0).bind λ r2=>cond (!r2) (some (r1,false)) ((Ap k a1).bind λ r3=>cond (!r3) (some (r1,false)) ((Ek k r1.2 a1).bind λ r4=>(Fj k a0.1 a1).bind λ r5=>cond (decide (r5≥0)) (cond (decide ((0:Int)≤r5)) (cond (decide (r5<(length a0.1:Int))) ((Am (getD a0.1 (toNat r5) ((⟨#[]⟩:ByteArray),[])).2).bind λ r7=>(Fa k r4 (a1,r7)).bind λ r8=>cond (decide ((length r8:Int) > 60)) ((A6 k a0).bind λ r9=>some (r9,false)) (some ((r1.1,r8),true))) none) none) (cond (decide ((length r4:Int) > 60)) ((A6 k a0).bind λ r10=>some (r10,false)) (some ((r1.1,r4),true)))))
def Dp (a0:y0):Option (Bool):=(G3 a0.1 0 1000000000).bind λ r1=>cond r1 ((G3 a0.2.1 0 1000000).bind λ r2=>cond r2 ((G3 a0.2.2 0 20).bind λ r3=>some r3) (some false)) (some false)
def D6 (a0:y3):Option (Bool):=(Dp a0.1).bind λ r1=>cond r1 (cond (decide ((length a0.2.2:Int)≤200)) (cond (!a0.2.1) (some true) (some ((length a0.2.2:Int)==0))) (some false)) (some false)
def D7 (k:Nat) (a0:y4) (a1:ByteArray):Option ((List Int)×Bool):=(Fj k a0.1 a1).bind λ r1=>cond (decide (r1<0)) (some (([]:List Int),false)) (cond (decide ((0:Int)≤r1)) (cond (decide (r1<(length a0.1:Int))) ((Am (getD a0.1 (toNat r1) ((⟨#[]⟩:ByteArray),[])).2).bind λ r3=>some (r3,true)) none) none)
def Cp:Nat→(List Int)→Int→Option ((List Int)×Int)
 |0,_,_=>none
 |k+1,c,b=>cond (decide (b > 127)) (cond (Nat.ble ((length c+length [wrap .u8 (wrap .i64 ((Int.tmod b 128)+128))])*1) 140737488355328) (Cp k (c++[wrap .u8 (wrap .i64 ((Int.tmod b 128)+128))]) (wrap .i64 (Int.tdiv b 128))) none) (some (c,b))
def Bw (k:Nat) (a0:List Int) (a1:Int):Option (List Int):=let v1:=if (1000000000:Int)<a1 then 1000000000 else a1;(Cp k a0 (if (0:Int)<v1 then v1 else 0)).bind λ r3=>cond (Nat.ble ((length r3.1+length [wrap .u8 r3.2])*1) 140737488355328) (some (r3.1++[wrap .u8 r3.2])) none
def Dq (k:Nat) (a0:List Int) (a1:ByteArray):Option (List Int):=(Bw k a0 (ByteArray.size a1:Int)).bind λ r1=>cond (Nat.ble ((length r1+ByteArray.size a1)*1) 140737488355328) (some (r1++bytesOf a1)) none
def Gt (a0:Bool):Option (Int):=cond a0 (some 1) (some 0)
def D8 (k:Nat) (a0:List Int) (a1:y0) (a2:Bool):Option (List Int):=(Bw k a0 a1.1).bind λ r1=>(Bw k r1 a1.2.1).bind λ r2=>(Bw k r2 a1.2.2).bind λ r3=>(Gt a2).bind λ r4=>(Bw k r3 r4).bind λ r5=>some r5
def Dz:Nat→Int→(List Int)→Int→Int→Int→Option (Int×(List Int)×Int×Int)
 |0,_,_,_,_,_=>none
 |k+1,b,c,d,e,f=>cond (decide (f<8)) (cond ((wrap .u32 ((ofInt (IntKind.bits .u32) b &&& ofInt (IntKind.bits .u32) 1).toNat))==1) (Dz k (wrap .u32 ((ofInt (IntKind.bits .u32) (Int.fdiv b (2 ^ (min (toNat 1) (IntKind.bits .u32)))) ^^^ ofInt (IntKind.bits .u32) 2197175160).toNat)) c d e (wrap .i64 (f+1))) (Dz k (Int.fdiv b (2 ^ (min (toNat 1) (IntKind.bits .u32)))) c d e (wrap .i64 (f+1)))) (some (b,c,d,e))
def Ea:Nat→Int→(List Int)→Int→Int→Option (Int)
 |0,_,_,_,_=>none
 |k+1,d,c,e,b=>cond (decide (b<e)) (cond (decide ((0:Int)≤b)) (cond (decide (b<(length c:Int))) ((Dz k (wrap .u32 ((ofInt (IntKind.bits .u32) d ^^^ ofInt (IntKind.bits .u32) (wrap .u32 (getD c (toNat b) (0:Int)))).toNat)) c e b 0).bind λ r2=>Ea k r2.1 r2.2.1 r2.2.2.1 (wrap .i64 (r2.2.2.2+1))) none) none) (some d)
def Fv (k:Nat) (a0:List Int):Option (Int):=(Ea k 4294967295 a0 (length a0:Int) 0).bind λ r1=>some (wrap .i64 (wrap .u32 ((ofInt (IntKind.bits .u32) (if IntKind.signed .u32 then -1 else IntKind.max .u32) ^^^ ofInt (IntKind.bits .u32) r1).toNat)))
def Bv (k:Nat) (a0:y3):Option (List Int):=(D6 a0).bind λ r1=>cond (!r1) (some ([]:List Int)) ((D8 k ([]:List Int) a0.1 a0.2.1).bind λ r2=>(Dq k r2 (Ft a0.2.2)).bind λ r3=>(Fv k r3).bind λ r4=>cond (Nat.ble ((length r3+length [wrap .u8 (Int.fdiv r4 (2 ^ (min (toNat 24) (IntKind.bits .i64)))),wrap .u8 (Int.fdiv r4 (2 ^ (min (toNat 16) (IntKind.bits .i64)))),wrap .u8 (Int.fdiv r4 (2 ^ (min (toNat 8) (IntKind.bits .i64)))),wrap .u8 r4])*1) 140737488355328) (some (r3++[wrap .u8 (Int.fdiv r4 (2 ^ (min (toNat 24) (IntKind.bits .i64)))),wrap .u8 (Int.fdiv r4 (2 ^ (min (toNat 16) (IntKind.bits .i64)))),wrap .u8 (Int.fdiv r4 (2 ^ (min (toNat 8) (IntKind.bits .i64)))),wrap .u8 r4])) none)
def Cc:Nat→(List Int)→Int→Int→Int→Option (Sum (Int×Int×Bool) (Unit))
 |0,_,_,_,_=>none
 |k+1,e,c,d,b=>cond (decide (b<5)) (cond (decide (c≥0)) (cond (decide (c<(wrap .i64 ((length e:Int)-b)))) (cond (decide ((0:Int)≤wrap .i64 (c+b))) (cond (decide (wrap .i64 (c+b)<(length e:Int))) (let v1:=getD e (toNat (wrap .i64 (c+b))) (0:Int);cond (decide ((wrap .i64 (7*b))<0)) none (cond (decide ((wrap .i64 v1)≥128)) (Cc k e c (wrap .i64 (d+(wrap .i64 ((Int.tmod (wrap .i64 v1) 128)*2 ^ (min (toNat (wrap .i64 (7*b))) (IntKind.bits .i64)))))) (wrap .i64 (b+1))) (cond ((wrap .i64 v1)==0) (cond (decide (b > 0)) (some (.inl (0,0,false))) (cond (decide ((wrap .i64 (d+(wrap .i64 ((Int.tmod (wrap .i64 v1) 128)*2 ^ (min (toNat (wrap .i64 (7*b))) (IntKind.bits .i64)))))) > 1000000000)) (some (.inl (0,0,false))) (some (.inl (wrap .i64 (d+(wrap .i64 ((Int.tmod (wrap .i64 v1) 128)*2 ^ (min (toNat (wrap .i64 (7*b))) (IntKind.bits .i64))))),wrap .i64 ((wrap .i64 (c+b))+1),true))))) (cond (decide ((wrap .i64 (d+(wrap .i64 ((Int.tmod (wrap .i64 v1) 128)*2 ^ (min (toNat (wrap .i64 (7*b))) (IntKind.bits .i64)))))) > 1000000000)) (some (.inl (0,0,false))) (some (.inl (wrap .i64 (d+(wrap .i64 ((Int.tmod (wrap .i64 v1) 128)*2 ^ (min (toNat (wrap .i64 (7*b))) (IntKind.bits .i64))))),wrap .i64 ((wrap .i64 (c+b))+1),true))))))) none) none) (some (.inr ()))) (some (.inr ()))) (some (.inr ()))
def Cw (k:Nat) (a0:List Int) (a1:Int):Option (Int×Int×Bool):=(Cc k a0 a1 0 0).bind λ r1=>Sum.elim (λ y2=>some (y2.1,y2.2.1,y2.2.2)) (λ z3=>some (0,0,false)) r1
def B4 (k:Nat) (a0:y2):Option (Int×y2):=(Cw k a0.1 a0.2.1).bind λ r1=>cond a0.2.2 (some (0,(a0.1,a0.2.1,true))) (cond (!r1.2.2) (some (0,(a0.1,a0.2.1,true))) (some (r1.1,(a0.1,r1.2.1,a0.2.2))))
def Bh (k:Nat) (a0:y2):Option (y0×Bool×y2):=(B4 k a0).bind λ r1=>(B4 k r1.2).bind λ r2=>(B4 k r2.2).bind λ r3=>(B4 k r3.2).bind λ r4=>cond r4.2.2.2 (some ((r1.1,r2.1,r3.1),r4.1==1,(r4.2.1,r4.2.2.1,true))) (some ((r1.1,r2.1,r3.1),r4.1==1,(r4.2.1,r4.2.2.1,decide (r4.1 > 1))))
def Dr (k:Nat) (a0:List Int) (a1:Int):Option (ByteArray×Int×Bool):=(Cw k a0 a1).bind λ r1=>cond (!r1.2.2) (some ((⟨#[]⟩:ByteArray),0,false)) (cond (decide (r1.1 > (wrap .i64 ((length a0:Int)-r1.2.1)))) (some ((⟨#[]⟩:ByteArray),0,false)) (cond (decide ((0:Int)≤r1.2.1)) (cond (decide (r1.2.1≤wrap .i64 (r1.2.1+r1.1))) (cond (decide (wrap .i64 (r1.2.1+r1.1)≤(length a0:Int))) (some (Ft (List.drop (toNat r1.2.1) (List.take (toNat (wrap .i64 (r1.2.1+r1.1))) a0)),wrap .i64 (r1.2.1+r1.1),true)) none) none) none))
def Ax (k:Nat) (a0:y2):Option (ByteArray×y2):=(Dr k a0.1 a0.2.1).bind λ r1=>cond a0.2.2 (some ((⟨#[]⟩:ByteArray),(a0.1,a0.2.1,true))) (cond (!r1.2.2) (some ((⟨#[]⟩:ByteArray),(a0.1,a0.2.1,true))) (some (r1.1,(a0.1,r1.2.1,a0.2.2))))
def Ds (k:Nat) (a0:List Int):Option (y3×Bool):=(Bh k (a0,0,false)).bind λ r1=>(Ax k r1.2.2).bind λ r2=>cond (Nat.ble (ByteArray.size r2.1) 140737488355328) ((Bv k (r1.1,r1.2.1,bytesOf r2.1)).bind λ r3=>cond r2.2.2.2 (some (((0,0,0),false,([]:List Int)),false)) (cond ((length r3:Int)==0) (some (((0,0,0),false,([]:List Int)),false)) (cond (!((Ft r3).toList==(Ft a0).toList)) (some (((0,0,0),false,([]:List Int)),false)) (some ((r1.1,r1.2.1,bytesOf r2.1),true))))) none
def Cq (a0:y0) (a1:y0):Option (Bool):=cond (a0.1 != a1.1) (some (decide (a0.1<a1.1))) (cond (a0.2.1 != a1.2.1) (some (decide (a0.2.1<a1.2.1))) (some (decide (a0.2.2<a1.2.2))))
def Ey (a0:y3) (a1:y3):Option (Bool):=(Cq a1.1 a0.1).bind λ r1=>some r1
def Ez (k:Nat) (a0:y4) (a1:ByteArray) (a2:y3) (a3:Bool):Option (y4×Int):=(C7 k a0).bind λ r1=>cond (!r1) ((A6 k a0).bind λ r2=>some (r2,2)) ((Ap k a1).bind λ r3=>cond (!r3) ((A6 k a0).bind λ r4=>some (r4,2)) ((D6 a2).bind λ r5=>cond (!r5) ((A6 k a0).bind λ r6=>some (r6,2)) ((A6 k a0).bind λ r7=>(D7 k a0 a1).bind λ r8=>(Ds k r8.1).bind λ r9=>cond r9.2 ((Ey a2 r9.1).bind λ r10=>cond (!r10) (cond a3 ((Ba k r7 a1).bind λ r11=>cond (!r11.2) ((A6 k a0).bind λ r12=>some (r12,3)) (some (r11.1,1))) (some (r7,1))) ((Bv k a2).bind λ r13=>(Bl k a0 a1 r13).bind λ r14=>cond (!r14.2) ((A6 k a0).bind λ r15=>some (r15,3)) (cond a3 ((Ba k r14.1 a1).bind λ r16=>cond (!r16.2) ((A6 k a0).bind λ r17=>some (r17,3)) (some (r16.1,0))) (some (r14.1,0))))) ((Bv k a2).bind λ r18=>(Bl k a0 a1 r18).bind λ r19=>cond (!r19.2) ((A6 k a0).bind λ r20=>some (r20,3)) (cond a3 ((Ba k r19.1 a1).bind λ r21=>cond (!r21.2) ((A6 k a0).bind λ r22=>some (r22,3)) (some (r21.1,0))) (some (r19.1,0)))))))
def Dt (a0:y0) (a1:y0):Option (Bool):=cond (a0.1 != a1.1) (some false) (cond (a0.2.1 != a1.2.1) (some false) (cond (a0.2.2 != a1.2.2) (some false) (some true)))
def Eb (k:Nat) (a0:y3) (a1:y3):Option (Bool):=(Dt a0.1 a1.1).bind λ r1=>cond (!r1) (some false) (cond (!(a0.2.1==a1.2.1)) (some false) ((C3 k a0.2.2 a1.2.2).bind λ r2=>cond (!r2) (some false) (some true)))
def Ct (k:Nat) (a0:y3) (a1:Int):Option (Int×y3):=(B5 k a0.2.2 a1).bind λ r1=>some (r1.1,(a0.1,a0.2.1,r1.2))
def Cd (k:Nat) (a0:y4) (a1:ByteArray) (a2:y3) (a3:Bool):Option (Bool):=cond (decide ((ByteArray.size a1:Int) > 1048576)) (some true) ((Em k a0 1048576).bind λ r1=>cond (decide (r1<0)) (some true) ((Eo a2 r1).bind λ r2=>cond (decide (r2<0)) (some true) ((Dc k a0).bind λ r3=>(D5 k a2).bind λ r4=>(Fh k r3 a1 r4 a3).bind λ r5=>(Dc k a0).bind λ r6=>(D5 k a2).bind λ r7=>(Ez k r6 a1 r7 a3).bind λ r8=>(Dd k r8.1 r5.1).bind λ r9=>cond (!r9) (some false) (cond (r8.2 != r5.2) (some false) ((Dc k a0).bind λ r10=>(Dd k r6 r10).bind λ r11=>cond (!r11) (some false) ((D5 k a2).bind λ r12=>(Eb k r7 r12).bind λ r13=>cond (!r13) (some false) ((Cf k r6 1).bind λ r14=>(Ct k r7 r14.1).bind λ r15=>cond (decide (r15.1<0)) (some false) ((Dd k r8.1 r5.1).bind λ r16=>cond (!r16) (some false) (cond (r8.2 != r5.2) (some false) ((Cf k r8.1 1).bind λ r17=>(Cg k r17.2 1).bind λ r18=>cond (decide (r18<0)) (some false) (cond (r18 != r17.1) (some false) ((Dc k a0).bind λ r19=>(D5 k a2).bind λ r20=>(Ez k r19 a1 r20 a3).bind λ r21=>(Dd k r21.1 r5.1).bind λ r22=>cond (!r22) (some false) (cond (r21.2 != r5.2) (some false) ((Cg k r17.2 1).bind λ r23=>cond (decide (r23<0)) (some false) (cond (r23 != r17.1) (some false) (some true))))))))))))))))

def C8 (w:World) (k o:Nat) (cs:List Value):Prop:=∀ j u,cs[j]? = some u→w.cell? ⟨k,o+j,none⟩=some u
def Rows {α:Type} (R:α→List Value→Prop):List α→List Value→Prop
 |[],cs=>cs=[]
 |x::xs,cs=>∃ c d,cs=c++d∧R x c∧Rows R xs d
def Nn (P:Program) (e:TypeId) (n:Nat):Prop:=(P.info? e).map (λ i=>i.size)=some n
def I7 {α:Type} (G:Nat→Prop) (w:World) (R:α→List Value→Prop) (xs:List α) (v:Value):Prop:=
 ∃ a cap cs,v = .slice a xs.length cap∧xs.length≤cap∧Rows R xs cs∧(xs≠[]→∃ k o,a=some ⟨k,o,none⟩∧G k∧C8 w k o cs)
def Ty.rep (P:Program) (G:Nat→Prop) (w:World):(t:Ty)→t.den→List Value→Prop
 |.i k,n,vs=>vs=[.int k n]
 |.b,x,vs=>vs=[.bool x]
 |.s,x,vs=>vs=[.string x]
 |.sl e r,xs,vs=>∃ v,vs=[v]∧Nn P e r.sz∧I7 G w (λ x c=>r.rep P G w x c) xs v
 |.ow e r,xs,vs=>∃ v,vs=[v]∧Nn P e r.sz∧I7 G w (λ x c=>r.rep P G w x c) xs v
 |.pr x y,p,vs=>∃ c d,vs=c++d∧x.rep P G w p.1 c∧y.rep P G w p.2 d
section
variable {P:Program} {G G':Nat→Prop} {w w':World} {α:Type}
def S9 {k:Nat} (h:w'.heap[k]? = w.heap[k]?) (o:Nat):w'.cell? ⟨k,o,none⟩=w.cell? ⟨k,o,none⟩:=by
 simp[World.cell?,h]
def C8.mono {k o:Nat} {cs:List Value} (h:C8 w k o cs) (hs:w'.heap[k]? = w.heap[k]?):C8 w' k o cs:=
 λ j u hu=>(S9 hs _).trans (h j u hu)
def Rows.mono {R R':α→List Value→Prop} (hR:∀ x c,R x c→R' x c):∀ {xs:List α} {cs:List Value},Rows R xs cs→Rows R' xs cs
 |[],_,h=>h
 |_::_,_,⟨c,d,e,h1,h2⟩=>⟨c,d,e,hR _ _ h1,h2.mono hR⟩
def I7.mono {R R':α→List Value→Prop} {xs:List α} {v:Value} (h:I7 G w R xs v) (hR:∀ x c,R x c→R' x c) (hG:∀ k,G k→G' k)
  (hw:∀ k,G k→w'.heap[k]? = w.heap[k]?):I7 G' w' R' xs v:=by
 obtain⟨a,cap,cs,e,hc,hr,hx⟩:=h;refine⟨a,cap,cs,e,hc,hr.mono hR,λ hn=>?_⟩;obtain⟨k,o,ea,hk,hcs⟩:=hx hn;exact⟨k,o,ea,hG k hk,hcs.mono (hw k hk)⟩
def Ty.rep_mono (hG:∀ k,G k→G' k) (hw:∀ k,G k→w'.heap[k]? = w.heap[k]?):∀ (t:Ty) (x:t.den) (vs:List Value),t.rep P G w x vs→t.rep P G' w' x vs
 |.i _,_,_,h=>h
 |.b,_,_,h=>h
 |.s,_,_,h=>h
 |.sl _ r,_,_,⟨v,e,hs,h⟩=>⟨v,e,hs,h.mono (λ x c=>Ty.rep_mono hG hw r x c) hG hw⟩
 |.ow _ r,_,_,⟨v,e,hs,h⟩=>⟨v,e,hs,h.mono (λ x c=>Ty.rep_mono hG hw r x c) hG hw⟩
 |.pr x y,p,_,⟨c,d,e,h1,h2⟩=>⟨c,d,e,Ty.rep_mono hG hw x p.1 c h1,Ty.rep_mono hG hw y p.2 d h2⟩
def Ty.rep_len:∀ (t:Ty) (x:t.den) (vs:List Value),t.rep P G w x vs→vs.length=t.sz
 |.i _,_,_,h=>by subst h;rfl
 |.b,_,_,h=>by subst h;rfl
 |.s,_,_,h=>by subst h;rfl
 |.sl _ _,_,_,⟨_,e,_⟩=>by subst e;rfl
 |.ow _ _,_,_,⟨_,e,_⟩=>by subst e;rfl
 |.pr x y,p,_,⟨c,d,e,h1,h2⟩=>by
  subst e;rw[Vh,Ty.rep_len x p.1 c h1,Ty.rep_len y p.2 d h2];rfl
def Rows.len {R:α→List Value→Prop} {n:Nat} (hn:∀ x c,R x c→c.length=n):∀ {xs:List α} {cs:List Value},Rows R xs cs→cs.length=xs.length*n
 |[],_,h=>by simp only[Rows]at h;subst h;simp
 |_::_,_,⟨c,d,e,h1,h2⟩=>by
  subst e;rw[Vh,hn _ _ h1,h2.len hn,Vg,Yg,Yk,Zd]
def Rows.get {R:α→List Value→Prop} {n:Nat} (hn:∀ x c,R x c→c.length=n):∀ {xs:List α} {cs:List Value} (_:Rows R xs cs) (i:Nat) (x:α),xs[i]? = some x→R x ((cs.drop (i*n)).take n)
 |[],_,_,i,x,hx=>by simp at hx
 |y::ys,_,⟨c,d,e,h1,h2⟩,0,x,hx=>by
  simp at hx;subst hx e;have:=hn _ _ h1;simp only[Zh,Wj];rw[← this,Oya];exact h1
 |y::ys,_,⟨c,d,e,h1,h2⟩,i+1,x,hx=>by
  subst e;have hl:=hn _ _ h1;rw[show (i+1)*n=c.length+i*n by rw[hl,Yg,Yk,Zd],← Wn,Yw];exact h2.get hn i x (by simpa using hx)
def Rows.append {R:α→List Value→Prop}:∀ {xs ys:List α} {cs ds:List Value},Rows R xs cs→Rows R ys ds→Rows R (xs++ys) (cs++ds)
 |[],_,_,_,h1,h2=>by simp only[Rows]at h1;subst h1;exact h2
 |_::_,_,_,_,⟨c,d,e,h,h'⟩,h2=>by subst e;exact⟨c,_,by rw[Vj],h,h'.append h2⟩
def Rows.set {R:α→List Value→Prop} {n:Nat} (hn:∀ x c,R x c→c.length=n):∀ {xs:List α} {cs:List Value} (_:Rows R xs cs) (i:Nat) (x:α) (c:List Value),i<xs.length→R x c→
  Rows R (xs.set i x) (cs.take (i*n)++c++cs.drop (i*n+n))
 |[],_,_,i,x,c,hi,_=>by simp at hi
 |y::ys,_,⟨c0,d,e,h1,h2⟩,0,x,c,_,hc=>by
  subst e;have hl:=hn _ _ h1;refine⟨c,d,?_,hc,h2⟩;simp only[Zh,Ota,Wf,Wb,← hl,Yw]
 |y::ys,_,⟨c0,d,e,h1,h2⟩,i+1,x,c,hi,hc=>by
  subst e;have hl:=hn _ _ h1;refine⟨c0,_,?_,h1,h2.set hn i x c (by simpa using hi) hc⟩
  have e1:(i+1)*n=c0.length+i*n:=by rw[hl,Yg,Yk,Zd]
  rw[e1,Ze,Yr,← Wn,Yw];simp[Vj]
def Rows.replicate {R:α→List Value→Prop} {x:α} {c:List Value} (h:R x c):∀ n,Rows R (List.replicate n x) (List.replicate n c).flatten
 |0=>by simp[Rows]
 |n+1=>⟨c,_,by simp[P0a],h,Rows.replicate h n⟩
def Rows.take {R:α→List Value→Prop} {n:Nat} (hn:∀ x c,R x c→c.length=n):∀ {xs:List α} {cs:List Value} (_:Rows R xs cs) (k:Nat),Rows R (xs.take k) (cs.take (k*n))
 |[],_,h,k=>by simp only[Rows]at h;subst h;simp[Rows]
 |_::_,_,⟨c,d,e,h1,h2⟩,0=>by simp[Rows]
 |_::_,_,⟨c,d,e,h1,h2⟩,k+1=>by
  subst e;have hl:=hn _ _ h1;refine⟨c,_,?_,h1,h2.take hn k⟩;rw[show (k+1)*n=c.length+k*n by rw[hl,Yg,Yk,Zd],Ze]
def Rows.drop {R:α→List Value→Prop} {n:Nat} (hn:∀ x c,R x c→c.length=n):∀ {xs:List α} {cs:List Value} (_:Rows R xs cs) (k:Nat),Rows R (xs.drop k) (cs.drop (k*n))
 |[],_,h,k=>by simp only[Rows]at h;subst h;simp[Rows]
 |_::_,_,h@⟨c,d,e,h1,h2⟩,0=>by simpa using h
 |_::_,_,⟨c,d,e,h1,h2⟩,k+1=>by
  subst e;have hl:=hn _ _ h1
  have e1:List.drop ((k+1)*n) (c++d)=List.drop (k*n) d:=by
   rw[show (k+1)*n=c.length+k*n by rw[hl,Yg,Yk,Zd],← Wn,Yw]
  rw[e1];exact h2.drop hn k
def G6 (P:Program) (G:Nat→Prop) (w:World):Lf→Value→Prop
 |.sc v,u=>u=v∧U6 v=true
 |.fz e r xs,u=>(Ty.sl e r).rep P G w xs [u]
 |_,_=>False
inductive Gu {β γ:Type} (R:β→γ→Prop):List β→List γ→Prop
 |nil:Gu R [] []
 |cons {x:β} {y:γ} {xs:List β} {ys:List γ}:R x y→Gu R xs ys→Gu R (x::xs) (y::ys)
def Gu.append {β γ:Type} {R:β→γ→Prop} {xs xs':List β} {ys ys':List γ} (h:Gu R xs ys) (h':Gu R xs' ys'):Gu R (xs++xs') (ys++ys'):=by
 induction h with
 |nil=>exact h'
 |cons a _ ih=>exact .cons a ih
def Gu.len {β γ:Type} {R:β→γ→Prop} {xs:List β} {ys:List γ} (h:Gu R xs ys):ys.length=xs.length:=by
 induction h with
 |nil=>rfl
 |cons _ _ ih=>simp[ih]
def Gu.imp {β γ:Type} {R R':β→γ→Prop} {xs:List β} {ys:List γ} (h:Gu R xs ys) (hi:∀ x y,R x y→R' x y):Gu R' xs ys:=by
 induction h with
 |nil=>exact .nil
 |cons a _ ih=>exact .cons (hi _ _ a) ih
def Gu.drop {β γ:Type} {R:β→γ→Prop} {xs:List β} {ys:List γ} (h:Gu R xs ys):∀ n,Gu R (xs.drop n) (ys.drop n):=by
 induction h with
 |nil=>intro n;cases n<;>exact .nil
 |cons a h ih=>intro n;cases n with
  |zero=>exact .cons a h
  |succ n=>exact ih n
def Gu.take {β γ:Type} {R:β→γ→Prop} {xs:List β} {ys:List γ} (h:Gu R xs ys):∀ n,Gu R (xs.take n) (ys.take n):=by
 induction h with
 |nil=>intro n;cases n<;>exact .nil
 |cons a h ih=>intro n;cases n with
  |zero=>exact .nil
  |succ n=>exact .cons a (ih n)
def Qf:∀ (t:Ty) (x:t.den),(lvs t x).length=t.sz
 |.i _,_=>rfl
 |.b,_=>rfl
 |.s,_=>rfl
 |.sl _ _,_=>rfl
 |.ow _ _,_=>rfl
 |.pr x y,p=>by
  show (lvs x p.1++lvs y p.2).length=x.sz+y.sz;rw[Vh,Qf x p.1,Qf y p.2]
def I8:∀ (t:Ty) (x:t.den) (vs:List Value),t.rep P G w x vs→Gu (G6 P G w) (lvs t x) vs
 |.i _,_,_,h=>by subst h;exact .cons ⟨rfl,rfl⟩ .nil
 |.b,_,_,h=>by subst h;exact .cons ⟨rfl,rfl⟩ .nil
 |.s,_,_,h=>by subst h;exact .cons ⟨rfl,rfl⟩ .nil
 |.sl _ _,_,_,⟨_,e,h⟩=>by subst e;exact .cons ⟨_,rfl,h⟩ .nil
 |.ow _ _,_,_,⟨_,e,h⟩=>by subst e;exact .cons ⟨_,rfl,h⟩ .nil
 |.pr x y,p,_,⟨c,d,e,h1,h2⟩=>by subst e;exact(I8 x p.1 c h1).append (I8 y p.2 d h2)
def No {α β:Type} (h:α=β) (xs:List α):cast (congrArg List h) xs=xs.map (cast h):=by
 subst h;show xs=List.map (λ x=>x) xs;simp
def Rows.map {β:Type} {R:α→List Value→Prop} {R':β→List Value→Prop} {f:α→β} (hR:∀ x c,R x c→R' (f x) c):∀ {xs:List α} {cs:List Value},Rows R xs cs→Rows R' (xs.map f) cs
 |[],_,h=>h
 |_::_,_,⟨c,d,e,h1,h2⟩=>⟨c,d,e,hR _ _ h1,h2.map hR⟩
def Rows.unmap {β:Type} {R:α→List Value→Prop} {R':β→List Value→Prop} {f:α→β} (hR:∀ x c,R' (f x) c→R x c):∀ {xs:List α} {cs:List Value},Rows R' (xs.map f) cs→Rows R xs cs
 |[],_,h=>h
 |_::_,_,⟨c,d,e,h1,h2⟩=>⟨c,d,e,hR _ _ h1,h2.unmap hR⟩
def Gl:∀ t:Ty,(shp t).sz=t.sz
 |.i _=>rfl
 |.b=>rfl
 |.s=>rfl
 |.sl _ _=>rfl
 |.ow _ _=>rfl
 |.pr x y=>by show (shp x).sz+(shp y).sz=x.sz+y.sz;rw[Gl x,Gl y]
def I7.map {β:Type} {R:α→List Value→Prop} {R':β→List Value→Prop} {f:α→β} {xs:List α} {v:Value} (hR:∀ x c,R x c↔R' (f x) c):I7 G w R xs v↔I7 G w R' (xs.map f) v:=by
 constructor
 ·rintro⟨a,cap,cs,e,hc,hr,hx⟩;exact⟨a,cap,cs,by rw[Yj];exact e,by rw[Yj];exact hc,hr.map (λ x c=>(hR x c).1),λ hn=>hx (by intro e;subst e;simp at hn)⟩
 ·rintro⟨a,cap,cs,e,hc,hr,hx⟩;rw[Yj]at e hc;exact⟨a,cap,cs,e,hc,hr.unmap (λ x c=>(hR x c).2),λ hn=>hx (by intro e;rw[List.map_eq_nil_iff]at e;exact hn e)⟩
def Fua {α α' β β':Type} (h1:α=α') (h2:β=β') (h:(α×β)=(α'×β')) (x:α×β):(cast h x).1=cast h1 x.1∧(cast h x).2=cast h2 x.2:=by
 subst h1 h2;exact⟨rfl,rfl⟩
def Lx:∀ (t:Ty) (x:t.den) (vs:List Value),t.rep P G w x vs↔(shp t).rep P G w (cast (Eu t).symm x) vs
 |.i _,_,_=>Psa
 |.b,_,_=>Psa
 |.s,_,_=>Psa
 |.sl e r,xs,vs=>by
  have hc:cast (Eu (.sl e r)).symm xs=List.map (cast (Eu r).symm) xs:=No (Eu r).symm xs;rw[hc];show (∃ v,vs=[v]∧Nn P e r.sz∧I7 G w (λ x c=>r.rep P G w x c) xs v)↔(∃ v,vs=[v]∧Nn P e (shp r).sz∧I7 G w (λ x c=>(shp r).rep P G w x c) _ v);rw[Gl r];exact exists_congr λ v=>and_congr_right λ _=>and_congr_right λ _=>I7.map (λ x c=>Lx r x c)
 |.ow e r,xs,vs=>by
  have hc:cast (Eu (.ow e r)).symm xs=List.map (cast (Eu r).symm) xs:=No (Eu r).symm xs;rw[hc];show (∃ v,vs=[v]∧Nn P e r.sz∧I7 G w (λ x c=>r.rep P G w x c) xs v)↔(∃ v,vs=[v]∧Nn P e (shp r).sz∧I7 G w (λ x c=>(shp r).rep P G w x c) _ v);rw[Gl r];exact exists_congr λ v=>and_congr_right λ _=>and_congr_right λ _=>I7.map (λ x c=>Lx r x c)
 |.pr x y,p,vs=>by
  obtain⟨e1,e2⟩:=Fua (Eu x).symm (Eu y).symm (Eu (.pr x y)).symm p;show (∃ c d,vs=c++d∧x.rep P G w p.1 c∧y.rep P G w p.2 d)↔(∃ c d,vs=c++d∧(shp x).rep P G w (cast (Eu (.pr x y)).symm p).1 c∧(shp y).rep P G w (cast (Eu (.pr x y)).symm p).2 d)
  have key:∀ (q:(shp x).den×(shp y).den),q.1=cast (Eu x).symm p.1→q.2=cast (Eu y).symm p.2→((∃ c d,vs=c++d∧x.rep P G w p.1 c∧y.rep P G w p.2 d)↔∃ c d,vs=c++d∧(shp x).rep P G w q.1 c∧(shp y).rep P G w q.2 d):=by
   intro q h1 h2;rw[h1,h2];exact exists_congr λ c=>exists_congr λ d=>and_congr_right λ _=>and_congr (Lx x p.1 c) (Lx y p.2 d)
  exact key _ e1 e2
def Lca {t u:Ty} (h:u=t) (h2:u.den=t.den) (x:u.den) (vs:List Value):u.rep P G w x vs↔t.rep P G w (cast h2 x) vs:=by
 subst h;exact Psa
def C5a {t u:Ty} (h:shp u=shp t) (x:u.den) (vs:List Value):u.rep P G w x vs↔t.rep P G w (cast (X6 h) x) vs:=by
 rw[Lx u x vs,Lx t _ vs,Lca h (congrArg Ty.den h) _ vs];simp only[cast_cast]
def Ly {r r':Ty} {xs:List r'.den} {ys:List r.den} (h:K7 r r' xs=some ys):∃ e:shp r'=shp r,ys=xs.map (cast (X6 e)):=by
 unfold K7 at h;split at h
 ·rename_i e;simp only[Vc]at h;exact⟨e,by rw[← h];exact No (X6 e) xs⟩
 ·cases h
def Pj {r r':Ty} {xs:List r'.den} {ys:List r.den} {cs:List Value} (h:K7 r r' xs=some ys) (hr:Rows (λ x c=>r'.rep P G w x c) xs cs):Rows (λ x c=>r.rep P G w x c) ys cs∧ys.length=xs.length:=by
 obtain⟨e,rfl⟩:=Ly h;exact⟨hr.map (λ x c hx=>(C5a e x c).1 hx),by rw[Yj]⟩
def Kz {r r':Ty} {e:TypeId} {xs:List r'.den} {ys:List r.den} {vs:List Value} (h:K7 r r' xs=some ys) (hr:(Ty.sl e r').rep P G w xs vs):(Ty.sl e r).rep P G w ys vs:=by
 obtain⟨e1,rfl⟩:=Ly h;obtain⟨v,ev,hs,hr⟩:=hr
 have hsz:r'.sz=r.sz:=by rw[← Gl r',e1,Gl r]
 exact⟨v,ev,by rw[← hsz];exact hs,(I7.map (λ x c=>C5a e1 x c)).1 hr⟩
def Pk {r r':Ty} {xs:List r'.den} {ys:List r.den} (h:Js r r' xs=some ys):(∃ e:r'=r,ys=e ▸ xs)∨(shp r'=shp r∧xs=[]∧ys=[]):=by
 unfold Js at h;split at h
 ·rename_i e;exact .inl ⟨e,by simpa using h.symm⟩
 ·split at h
  ·rename_i e;split at h
   ·simp only[Vc]at h;exact .inr ⟨e,rfl,h.symm⟩
   ·cases h
  ·cases h
def J3a:∀ (t:Ty) (l l':List Lf) (x:t.den) (us:List Value),mkT t l=some (x,l')→Gu (G6 P G w) l us→
  ∃ vs ws,us=vs++ws∧t.rep P G w x vs∧Gu (G6 P G w) l' ws:=by
 intro t
 induction t with
 |i k=>
  intro l l' x us h hl
  cases hl with
  |nil=>simp[mkT]at h
  |@cons y u ys us' hy hys=>
   cases y<;>first|(simp[mkT]at h;done)|skip
   rename_i v
   cases v<;>first|(simp[mkT]at h;done)|skip
   rename_i k' n;simp only[mkT]at h
   by_cases hk:k=k'
   ·subst hk;simp at h;obtain⟨rfl,rfl⟩:=h;exact⟨[u],us',rfl,by rw[hy.1];rfl,hys⟩
   ·simp[hk]at h
 |b=>
  intro l l' x us h hl
  cases hl with
  |nil=>simp[mkT]at h
  |@cons y u ys us' hy hys=>
   cases y<;>first|(simp[mkT]at h;done)|skip
   rename_i v
   cases v<;>first|(simp[mkT]at h;done)|skip
   simp[mkT]at h;obtain⟨rfl,rfl⟩:=h;exact⟨[u],us',rfl,by rw[hy.1];rfl,hys⟩
 |s=>
  intro l l' x us h hl
  cases hl with
  |nil=>simp[mkT]at h
  |@cons y u ys us' hy hys=>
   cases y<;>first|(simp[mkT]at h;done)|skip
   rename_i v
   cases v<;>first|(simp[mkT]at h;done)|skip
   simp[mkT]at h;obtain⟨rfl,rfl⟩:=h;exact⟨[u],us',rfl,by rw[hy.1];rfl,hys⟩
 |sl e r _=>
  intro l l' x us h hl
  cases hl with
  |nil=>simp[mkT]at h
  |@cons y u ys us' hy hys=>
   cases y<;>first|(simp[mkT]at h;done)|exact hy.elim|skip
   rename_i e' r' xs;simp only[mkT]at h;cases he:Nat.beq e e'
   ·rw[he]at h;simp at h
   rw[he]at h;simp only[cond_true]at h;split at h
   ·rename_i zs hz
    have:e=e':=by simpa using he
    subst this;simp at h;obtain⟨rfl,rfl⟩:=h;exact⟨[u],us',rfl,Kz hz hy,hys⟩
   ·cases h
 |ow e r _=>
  intro l l' x us h hl
  cases hl with
  |nil=>simp[mkT]at h
  |@cons y u ys us' hy hys=>
   cases y<;>first|(simp[mkT]at h;done)|exact hy.elim
 |pr x y ihx ihy=>
  intro l l' p us h hl;simp only[mkT]at h;split at h
  ·rename_i a l1 h1;split at h
   ·rename_i b l2 h2;simp at h;obtain⟨rfl,rfl⟩:=h;obtain⟨vs,ws,rfl,r1,hw1⟩:=ihx _ _ _ _ h1 hl;obtain⟨vs2,ws2,rfl,r2,hw2⟩:=ihy _ _ _ _ h2 hw1;exact⟨vs++vs2,ws2,by rw[Vj],⟨vs,vs2,rfl,r1,r2⟩,hw2⟩
   ·cases h
  ·cases h
def Np {t:Ty} {l:List Lf} {x:t.den} {us:List Value} (h:mkW t l=some x) (hl:Gu (G6 P G w) l us):t.rep P G w x us:=by
 unfold mkW at h;split at h
 ·rename_i y hy;simp at h;subst h;obtain⟨vs,ws,rfl,hr,hw⟩:=J3a _ _ _ _ _ hy hl;cases hw;rw[Ye];exact hr
 ·cases h
def G6.mono {x:Lf} {u:Value} (h:G6 P G w x u) (hG:∀ k,G k→G' k) (hw:∀ k,G k→w'.heap[k]? = w.heap[k]?):G6 P G' w' x u:=by
 cases x<;>first|exact h|exact Ty.rep_mono hG hw _ _ _ h
end
def Bs {α:Type} (R:α→List Value→List Nat→Prop):List α→List Value→List Nat→Prop
 |[],cs,bs=>cs=[]∧bs=[]
 |x::xs,cs,bs=>∃ c d b1 b2,cs=c++d∧bs=b1++b2∧R x c b1∧Bs R xs d b2
def Ty.dep (P:Program) (G:Nat→Prop) (w:World):(t:Ty)→t.den→List Value→List Nat→Prop
 |.i k,n,vs,bs=>vs=[.int k n]∧bs=[]
 |.b,x,vs,bs=>vs=[.bool x]∧bs=[]
 |.s,x,vs,bs=>vs=[.string x]∧bs=[]
 |.sl e r,xs,vs,bs=>(Ty.sl e r).rep P G w xs vs∧bs=[]
 |.ow e r,xs,vs,bs=>∃ v cs b2,vs=[v]∧Nn P e r.sz∧w.ownsRow 0 e r.sz v xs.length cs∧Bs (λ x c b=>r.dep P G w x c b) xs cs b2∧bs=v.ownBlock.toList++b2
 |.pr x y,p,vs,bs=>∃ c d b1 b2,vs=c++d∧bs=b1++b2∧x.dep P G w p.1 c b1∧y.dep P G w p.2 d b2
section
variable {P:Program} {G G':Nat→Prop} {w w':World} {α:Type}
def Ix {w w':World} {e n m:Nat} {cs:List Value} {u:Value} (h:w.ownsRow 0 e n u m cs) (hk:∀ k,u.ownBlock=some k→w'.heap[k]? = w.heap[k]?):w'.ownsRow 0 e n u m cs:=by
 refine⟨h.1,?_⟩;rcases h.2 with hn|⟨g,cap,cur,rfl,hb,hg,rest⟩
 ·exact .inl hn
 ·exact .inr ⟨g,cap,cur,rfl,hb,(hk g rfl).trans hg,rest⟩
def Cl {w:World} {e n m:Nat} {cs:List Value} {u:Value} (h:w.ownsRow 0 e n u m cs):
  (u = .slice none 0 0∧m=0∧cs=[])∨∃ k cap cur,u = .slice (some ⟨k,0,none⟩) m cap∧w.heap[k]? = some (.cells cur e (0,0))∧m≤cap∧cap≤maxLen∧cur.size=cap*n∧cur.toList.take (m*n)=cs:=by
 rcases h.2 with⟨e1,e2⟩|⟨k,cap,cur,e1,_,e2,e3,e4,e5,e6⟩
 ·refine .inl ⟨e1,e2,?_⟩;have:=h.1;rw[e2,Zh]at this;exact Wq this
 ·exact .inr ⟨k,cap,cur,e1,e2,e3,e4,e5,e6⟩
def F8 {w:World} {k:Nat} {cur:Array Value} {e:TypeId} {f:Nat×Nat} {cs:List Value} {n:Nat} (h:w.heap[k]? = some (.cells cur e f)) (ht:cur.toList.take n=cs):C8 w k 0 cs:=by
 intro j u hu;subst ht;rw[Wd]at hu;split at hu
 ·simp[World.cell?,h]
  simpa using hu
 ·cases hu
def Bs.mono {R R':α→List Value→List Nat→Prop}:∀ {xs:List α} {cs:List Value} {bs:List Nat},(∀ x c b,(∀ k∈b,k∈bs)→R x c b→R' x c b)→Bs R xs cs bs→Bs R' xs cs bs
 |[],_,_,_,h=>h
 |_::_,_,_,hR,⟨c,d,b1,b2,e1,e2,h1,h2⟩=>⟨c,d,b1,b2,e1,e2,hR _ _ _ (λ k hk=>by rw[e2];exact Vt _ hk) h1,h2.mono (λ x c b hb h=>hR x c b (λ k hk=>by rw[e2];exact Vi _ (hb k hk)) h)⟩
def Ty.dep_mono (hG:∀ k,G k→G' k) (hw:∀ k,G k→w'.heap[k]? = w.heap[k]?):∀ (t:Ty) (x:t.den) (vs:List Value) (bs:List Nat),(∀ k∈bs,w'.heap[k]? = w.heap[k]?)→t.dep P G w x vs bs→t.dep P G' w' x vs bs
 |.i _,_,_,_,_,h=>h
 |.b,_,_,_,_,h=>h
 |.s,_,_,_,_,h=>h
 |.sl e r,xs,vs,_,_,⟨h,hb⟩=>⟨Ty.rep_mono hG hw (.sl e r) xs vs h,hb⟩
 |.ow _ r,_,_,bs,hb,⟨v,cs,b2,e,hs,ho,hd,eb⟩=>⟨v,cs,b2,e,hs,Ix ho (λ k hk=>hb k (by rw[eb,hk];simp)),hd.mono (λ x c b hbb h=>Ty.dep_mono hG hw r x c b (λ k hk=>hb k (by rw[eb];exact Vi _ (hbb k hk))) h),eb⟩
 |.pr x y,p,_,bs,hb,⟨c,d,b1,b2,e,eb,h1,h2⟩=>⟨c,d,b1,b2,e,eb,Ty.dep_mono hG hw x p.1 c b1 (λ k hk=>hb k (by rw[eb];exact Vt _ hk)) h1,Ty.dep_mono hG hw y p.2 d b2 (λ k hk=>hb k (by rw[eb];exact Vi _ hk)) h2⟩
def Bs.rows {R:α→List Value→List Nat→Prop} {R':α→List Value→Prop}:∀ {xs:List α} {cs:List Value} {bs:List Nat},(∀ x c b,(∀ k∈b,k∈bs)→R x c b→R' x c)→Bs R xs cs bs→Rows R' xs cs
 |[],_,_,_,h=>h.1
 |_::_,_,_,hR,⟨c,d,b1,b2,e1,e2,h1,h2⟩=>⟨c,d,e1,hR _ _ _ (λ k hk=>by rw[e2];exact Vt _ hk) h1,h2.rows (λ x c b hb h=>hR x c b (λ k hk=>by rw[e2];exact Vi _ (hb k hk)) h)⟩
def Ty.dep_rep (hG:∀ k,G k→G' k):∀ (t:Ty) (x:t.den) (vs:List Value) (bs:List Nat),(∀ k∈bs,G' k)→t.dep P G w x vs bs→t.rep P G' w x vs
 |.i _,_,_,_,_,h=>h.1
 |.b,_,_,_,_,h=>h.1
 |.s,_,_,_,_,h=>h.1
 |.sl e r,xs,vs,_,_,⟨h,_⟩=>Ty.rep_mono hG (λ _ _=>rfl) (.sl e r) xs vs h
 |.ow e r,xs,_,bs,hb,⟨v,cs,b2,ev,hs,ho,hd,eb⟩=>by
  have hr:Rows (λ x c=>r.rep P G' w x c) xs cs:=hd.rows (λ x c b hbb h=>Ty.dep_rep hG r x c b (λ k hk=>hb k (by rw[eb];exact Vi _ (hbb k hk))) h);refine⟨v,ev,hs,?_⟩;rcases Cl ho with⟨rfl,hm,rfl⟩|⟨k,cap,cur,rfl,hg,hc,_,_,ht⟩
  ·refine⟨none,0,[],?_,by omega,hr,λ hn=>?_⟩
   ·rw[hm]
   ·exact absurd (Wq hm) hn
  ·exact⟨_,cap,cs,rfl,hc,hr,λ _=>⟨k,0,rfl,hb k (by rw[eb];simp[Value.ownBlock]),F8 hg ht⟩⟩
 |.pr x y,p,_,bs,hb,⟨c,d,b1,b2,e,eb,h1,h2⟩=>⟨c,d,e,Ty.dep_rep hG x p.1 c b1 (λ k hk=>hb k (by rw[eb];exact Vt _ hk)) h1,Ty.dep_rep hG y p.2 d b2 (λ k hk=>hb k (by rw[eb];exact Vi _ hk)) h2⟩
def Ty.dep_flat:∀ (t:Ty) (x:t.den) (vs:List Value) (bs:List Nat),Gd t=true→(t.dep P G w x vs bs↔t.rep P G w x vs∧bs=[])
 |.i _,_,_,_,_=>Psa
 |.b,_,_,_,_=>Psa
 |.s,_,_,_,_=>Psa
 |.sl _ _,_,_,_,_=>Psa
 |.ow _ _,_,_,_,h=>by simp[Gd]at h
 |.pr x y,p,vs,bs,h=>by
  simp only[Gd,Va]at h;constructor
  ·rintro⟨c,d,b1,b2,e,eb,h1,h2⟩;obtain⟨r1,rfl⟩:=(Ty.dep_flat x p.1 c b1 h.1).1 h1;obtain⟨r2,rfl⟩:=(Ty.dep_flat y p.2 d b2 h.2).1 h2;exact⟨⟨c,d,e,r1,r2⟩,eb⟩
  ·rintro⟨⟨c,d,e,r1,r2⟩,rfl⟩;exact⟨c,d,[],[],e,rfl,(Ty.dep_flat x p.1 c [] h.1).2 ⟨r1,rfl⟩,(Ty.dep_flat y p.2 d [] h.2).2 ⟨r2,rfl⟩⟩
def Bs.flat {R:α→List Value→List Nat→Prop} {R':α→List Value→Prop} (hR:∀ x c b,R x c b↔R' x c∧b=[]):∀ {xs:List α} {cs:List Value} {bs:List Nat},Bs R xs cs bs↔Rows R' xs cs∧bs=[]
 |[],_,_=>Psa
 |x::xs,cs,bs=>by
  constructor
  ·rintro⟨c,d,b1,b2,e,eb,h1,h2⟩;obtain⟨r1,rfl⟩:=(hR x c b1).1 h1;obtain⟨r2,rfl⟩:=(Bs.flat hR).1 h2;exact⟨⟨c,d,e,r1,r2⟩,eb⟩
  ·rintro⟨⟨c,d,e,r1,r2⟩,rfl⟩;exact⟨c,d,[],[],e,rfl,(hR x c []).2 ⟨r1,rfl⟩,(Bs.flat hR).2 ⟨r2,rfl⟩⟩
def Ty.dep_len:∀ (t:Ty) (x:t.den) (vs:List Value) (bs:List Nat),t.dep P G w x vs bs→vs.length=t.sz
 |.i _,_,_,_,h=>by obtain⟨rfl,_⟩:=h;rfl
 |.b,_,_,_,h=>by obtain⟨rfl,_⟩:=h;rfl
 |.s,_,_,_,h=>by obtain⟨rfl,_⟩:=h;rfl
 |.sl e r,xs,vs,_,h=>Ty.rep_len (.sl e r) xs vs h.1
 |.ow _ _,_,_,_,⟨_,_,_,e,_⟩=>by subst e;rfl
 |.pr x y,p,_,_,⟨c,d,b1,b2,e,_,h1,h2⟩=>by
  subst e;rw[Vh,Ty.dep_len x p.1 c b1 h1,Ty.dep_len y p.2 d b2 h2];rfl
def Bs.len {R:α→List Value→List Nat→Prop} {n:Nat} (hn:∀ x c b,R x c b→c.length=n):∀ {xs:List α} {cs:List Value} {bs:List Nat},Bs R xs cs bs→cs.length=xs.length*n
 |[],_,_,h=>by obtain⟨rfl,_⟩:=h;simp
 |_::_,_,_,⟨c,d,b1,b2,e,_,h1,h2⟩=>by
  subst e;rw[Vh,hn _ _ _ h1,h2.len hn,Vg,Yg,Yk,Zd]
def Bs.take {R:α→List Value→List Nat→Prop} {n:Nat} (hn:∀ x c b,R x c b→c.length=n):∀ {xs:List α} {cs:List Value} {bs:List Nat} (_:Bs R xs cs bs) (k:Nat),∃ b',Bs R (xs.take k) (cs.take (k*n)) b'∧b'.Sublist bs
 |[],_,_,h,k=>by obtain⟨rfl,rfl⟩:=h;exact⟨[],by simp[Bs],Paa _⟩
 |_::_,_,_,⟨c,d,b1,b2,e,eb,h1,h2⟩,0=>⟨[],by simp[Bs],List.nil_sublist _⟩
 |_::_,_,_,⟨c,d,b1,b2,e,eb,h1,h2⟩,k+1=>by
  subst e eb;have hl:=hn _ _ _ h1;obtain⟨b',h3,h4⟩:=h2.take hn k;refine⟨b1++b',⟨c,_,b1,b',?_,rfl,h1,h3⟩,(Paa b1).append h4⟩;rw[show (k+1)*n=c.length+k*n by rw[hl,Yg,Yk,Zd],Ze]
def Bs.drop {R:α→List Value→List Nat→Prop} {n:Nat} (hn:∀ x c b,R x c b→c.length=n):∀ {xs:List α} {cs:List Value} {bs:List Nat} (_:Bs R xs cs bs) (k:Nat),∃ b',Bs R (xs.drop k) (cs.drop (k*n)) b'∧b'.Sublist bs
 |[],_,_,h,k=>by obtain⟨rfl,rfl⟩:=h;exact⟨[],by simp[Bs],Paa _⟩
 |x::xs,cs,bs,h@⟨c,d,b1,b2,e,eb,h1,h2⟩,0=>⟨bs,by simpa using h,Paa _⟩
 |_::_,_,_,⟨c,d,b1,b2,e,eb,h1,h2⟩,k+1=>by
  subst e eb;have hl:=hn _ _ _ h1;obtain⟨b',h3,h4⟩:=h2.drop hn k;refine⟨b',?_,h4.trans (Zq b1 b2)⟩
  have e1:List.drop ((k+1)*n) (c++d)=List.drop (k*n) d:=by
   rw[show (k+1)*n=c.length+k*n by rw[hl,Yg,Yk,Zd],← Wn,Yw]
  rw[e1];exact h3
def Bs.append {R:α→List Value→List Nat→Prop}:∀ {xs ys:List α} {cs ds:List Value} {bs es:List Nat},Bs R xs cs bs→Bs R ys ds es→Bs R (xs++ys) (cs++ds) (bs++es)
 |[],_,_,_,_,_,h1,h2=>by obtain⟨rfl,rfl⟩:=h1;exact h2
 |_::_,_,_,_,_,_,⟨c,d,b1,b2,e,eb,h,h'⟩,h2=>by subst e eb;exact⟨c,_,b1,_,by rw[Vj],by rw[Vj],h,h'.append h2⟩
def Bs.get {R:α→List Value→List Nat→Prop} {n:Nat} (hn:∀ x c b,R x c b→c.length=n):∀ {xs:List α} {cs:List Value} {bs:List Nat} (_:Bs R xs cs bs) (i:Nat) (x:α),xs[i]? = some x→∃ b,R x ((cs.drop (i*n)).take n) b∧b.Sublist bs
 |[],_,_,_,i,x,hx=>by simp at hx
 |y::ys,_,_,⟨c,d,b1,b2,e,eb,h1,h2⟩,0,x,hx=>by
  simp at hx;subst hx e eb;have:=hn _ _ _ h1;simp only[Zh,Wj];rw[← this,Oya];exact⟨b1,h1,P1a b1 b2⟩
 |y::ys,_,_,⟨c,d,b1,b2,e,eb,h1,h2⟩,i+1,x,hx=>by
  subst e eb;have hl:=hn _ _ _ h1;rw[show (i+1)*n=c.length+i*n by rw[hl,Yg,Yk,Zd],← Wn,Yw];obtain⟨b,h3,h4⟩:=h2.get hn i x (by simpa using hx);exact⟨b,h3,h4.trans (Zq b1 b2)⟩
def Ty.dep_all:∀ (t:Ty) (x:t.den) (vs:List Value) (bs:List Nat),Dh t=true→(∀ k∈bs,w'.heap[k]? = w.heap[k]?)→t.dep P G w x vs bs→t.dep P G' w' x vs bs
 |.i _,_,_,_,_,_,h=>h
 |.b,_,_,_,_,_,h=>h
 |.s,_,_,_,_,_,h=>h
 |.sl _ _,_,_,_,h,_,_=>by simp[Dh]at h
 |.ow _ r,_,_,bs,ha,hb,⟨v,cs,b2,e,hs,ho,hd,eb⟩=>⟨v,cs,b2,e,hs,Ix ho (λ k hk=>hb k (by rw[eb,hk];simp)),hd.mono (λ x c b hbb h=>Ty.dep_all r x c b ha (λ k hk=>hb k (by rw[eb];exact Vi _ (hbb k hk))) h),eb⟩
 |.pr x y,p,_,bs,ha,hb,⟨c,d,b1,b2,e,eb,h1,h2⟩=>by
  simp only[Dh,Va]at ha;exact⟨c,d,b1,b2,e,eb,Ty.dep_all x p.1 c b1 ha.1 (λ k hk=>hb k (by rw[eb];exact Vt _ hk)) h1,Ty.dep_all y p.2 d b2 ha.2 (λ k hk=>hb k (by rw[eb];exact Vi _ hk)) h2⟩
end

inductive Lab where
 |no
 |fz
 |bx (b:Nat)
 |pl (l:Nat) (p:List Nat)
 |tm (i:Nat) (p:List Nat)
 deriving DecidableEq
structure Sit where
 O:Nat→Lab
 bb:Nat→Nat×Nat
 g:Nat→Nat×Sv
 ph:Nat→Value
 w:World
def Ch (P:Program) (O:Nat→Lab) (w:World) (lab:Lab) (e:TypeId) (r:Ty) (xs:List r.den) (u:Value):Prop:=
 ∃ bs,(Ty.ow e r).dep P (λ k=>O k = .fz) w xs [u] bs∧bs.Nodup∧∀ k∈bs,O k=lab
def Ch.top {P:Program} {O:Nat→Lab} {w:World} {lab:Lab} {e:TypeId} {r:Ty} {xs:List r.den} {u:Value} (h:Ch P O w lab e r xs u):
  Nn P e r.sz∧∃ cs,w.ownsRow 0 e r.sz u xs.length cs∧∀ k,u.ownBlock=some k→O k=lab:=by
 obtain⟨bs,⟨v,cs,b2,ev,hs,ho,hd,eb⟩,hn,hk⟩:=h;simp only[Wp,and_true]at ev;subst ev;exact⟨hs,cs,ho,λ k h=>hk k (by rw[eb,h];simp)⟩
def Ch.flat {P:Program} {O:Nat→Lab} {w:World} {lab:Lab} {e:TypeId} {r:Ty} {xs:List r.den} {u:Value} (hr:Gd r=true):
  Ch P O w lab e r xs u↔Nn P e r.sz∧∃ cs,w.ownsRow 0 e r.sz u xs.length cs∧Rows (λ x c=>r.rep P (λ k=>O k = .fz) w x c) xs cs∧∀ k,u.ownBlock=some k→O k=lab:=by
 have hf:∀ {xs:List r.den} {cs bs},Bs (λ x c b=>r.dep P (λ k=>O k = .fz) w x c b) xs cs bs↔Rows (λ x c=>r.rep P (λ k=>O k = .fz) w x c) xs cs∧bs=[]:=Bs.flat (λ x c b=>Ty.dep_flat r x c b hr);constructor
 ·rintro⟨bs,⟨v,cs,b2,ev,hs,ho,hd,eb⟩,hn,hk⟩;simp only[Wp,and_true]at ev;subst ev;exact⟨hs,cs,ho,(hf.1 hd).1,λ k h=>hk k (by rw[eb,h];simp)⟩
 ·rintro⟨hs,cs,ho,hd,hk⟩;refine⟨u.ownBlock.toList++[],⟨u,cs,[],rfl,hs,ho,hf.2 ⟨hd,rfl⟩,rfl⟩,?_,?_⟩
  ·cases u.ownBlock<;>simp
  ·intro k h
   cases hb:u.ownBlock with
   |none=>rw[hb]at h;simp at h
   |some j=>rw[hb]at h;simp at h;subst h;exact hk k hb
def Ch.reads {P:Program} {O O':Nat→Lab} {w:World} {lab:Lab} {e:TypeId} {r:Ty} {xs:List r.den} {u:Value} (h:Ch P O w lab e r xs u)
  (hf:∀ k,O k = .fz→O' k = .fz) (hk:∀ k,O k=lab→O' k = .fz):(Ty.sl e r).rep P (λ k=>O' k = .fz) w xs [u]:=by
 obtain⟨bs,hd,_,hb⟩:=h;exact Ty.dep_rep hf (.ow e r) xs [u] bs (λ k h=>hk k (hb k h)) hd
def Ch.cast {P:Program} {O:Nat→Lab} {w:World} {lab:Lab} {e:TypeId} {r r':Ty} {xs:List r'.den} {ys:List r.den} {u:Value} (hc:Js r r' xs=some ys) (h:Ch P O w lab e r' xs u):Ch P O w lab e r ys u:=by
 rcases Pk hc with⟨e1,e2⟩|⟨e1,rfl,rfl⟩
 ·subst e1 e2;exact h
 ·obtain⟨bs,⟨v,cs,b2,ev,hs,ho,hd,eb⟩,hn,hk⟩:=h
  have hsz:r'.sz=r.sz:=by rw[← Gl r',e1,Gl r]
  exact⟨bs,⟨v,cs,b2,ev,by rw[← hsz];exact hs,by rw[← hsz];exact ho,hd,eb⟩,hn,hk⟩
def Fva:Lf→Bool
 |.own _ r _ => !(Gd r)
 |.fz _ r _ => !(Gd r)
 |_=>false
def Ue:Sv→Bool
 |.one x=>Fva x
 |_=>false
def X7:List (Int×Nat)→TypeId→(r:Ty)→List r.den→Option Sl
 |[],e,r,xs=>some ⟨e,r,xs⟩
 |(i,j)::q,_,r,xs=>if 0≤i∧i.toNat<xs.length then (match nth (A4 r (xs.getD i.toNat r.dflt)) j with
  |some (.own e1 r1 ys)=>X7 q e1 r1 ys
  |_=>none) else none
def Jy (G:Nat→Prop) (w:World):List (Int×Nat)→Ty→Value→Value→Prop
 |[],_,u,u'=>u'=u
 |(i,j)::q,r,u,u'=>∃ k o n cap e1 r1 u1,u = .slice (some ⟨k,o,none⟩) n cap∧G k∧w.cell? ⟨k,o+(i.toNat*r.sz+j),none⟩=some u1∧nth (Dx r) j=some (.ow e1 r1)∧Jy G w q r1 u1 u'
def I0a (S:Sit) (p k:Nat):Prop:=S.O k = .pl p []∨S.O k = .fz
def Uf (P:Program) (S:Sit) (p:Nat) (e:TypeId) (r:Ty) (xs:List r.den) (u:Value):Prop:=
 Nn P e r.sz∧∃ a cap cs bs,u = .slice a xs.length cap∧xs.length≤cap∧Bs (λ x c b=>r.dep P (λ k=>S.O k = .fz) S.w x c b) xs cs bs∧(∀ k∈bs,I0a S p k)∧
  (xs≠[]→∃ k o,a=some ⟨k,o,none⟩∧I0a S p k∧C8 S.w k o cs)
def I1a (S:Sit) (p:Nat) (pi:Option (List (Int×Nat))) (e:TypeId) (r:Ty) (xs:List r.den) (u:Value):Prop:=
 ∀ q,pi=some q→∀ E R XS,(S.g p).2 = .one (.own E R XS)→X7 q E R XS=some ⟨e,r,xs⟩∧Jy (I0a S p) S.w q R (S.ph p) u
def Bka (P:Program) (S:Sit) (p v:Nat) (pi:Option (List (Int×Nat))) (e:TypeId) (r:Ty) (xs:List r.den) (u:Value):Prop:=
 Dh r=true∧v≤(S.g p).1∧((S.g p).1=v→Ue (S.g p).2=true∧Uf P S p e r xs u∧
  I1a S p pi e r xs u)
def Fwa (P:Program) (S:Sit) (lab:Lab) (e:TypeId) (r:Ty) (xs:List r.den) (i:Int) (b:Nat) (u:Value):Prop:=
 ∃ k cap cur b1 b2,u = .slice (some ⟨k,0,none⟩) xs.length cap∧Nn P e r.sz∧S.w.heap[k]? = some (.cells cur e (0,0))∧(xs.length≤cap∧cap≤maxLen∧cur.size=cap*r.sz)∧(0≤i∧i.toNat<xs.length)∧
  S.bb b=(k,i.toNat*r.sz)∧S.O k = .bx b∧(S.g (H b)).2 = .one (.hd r.sz)∧
  Bs (λ x c d=>r.dep P (λ k=>S.O k = .fz) S.w x c d) (xs.take i.toNat) (cur.toList.take (i.toNat*r.sz)) b1∧
  Bs (λ x c d=>r.dep P (λ k=>S.O k = .fz) S.w x c d) (xs.drop (i.toNat+1)) ((cur.toList.take (xs.length*r.sz)).drop (i.toNat*r.sz+r.sz)) b2∧(b1++b2).Nodup∧∀ k'∈b1++b2,S.O k'=lab
def Pa (P:Program) (O:Nat→Lab) (w:World) (lab:Lab) (e:TypeId) (r:Ty) (xs:List r.den) (m:Nat) (u:Value):Prop:=
 Nn P e r.sz∧∃ a cap cs bs,(u = .slice a xs.length cap∧xs.length≤cap)∧cs.length=xs.length*r.sz∧Bs (λ x c b=>r.dep P (λ k=>O k = .fz) w x c b) (xs.drop m) (cs.drop (m*r.sz)) bs∧bs.Nodup∧(∀ k∈bs,O k=lab)∧(xs.length≠0→∃ k o,a=some ⟨k,o,none⟩∧O k = .fz∧C8 w k o cs)
def Nq (S:Sit):List (Nat×Nat)→List Value→Prop
 |[],us=>us=[]
 |c::bs,us=>∃ u us',us=u::us'∧(c.2≤(S.g (H c.1)).1∧((S.g (H c.1)).1=c.2→u = .pointer (some ⟨(S.bb c.1).1,(S.bb c.1).2+0,none⟩)))∧Nq S bs us'
def Af (P:Program) (S:Sit) (lab:Lab):Lf→Value→Prop
 |.dead,_=>True
 |.un,u=>u=undef
 |.sc v,u=>u=v∧U6 v=true
 |.fz e r xs,u=>(Ty.sl e r).rep P (λ k=>S.O k = .fz) S.w xs [u]
 |.own e r xs,u=>Ch P S.O S.w lab e r xs u
 |.al p v,u=>v≤(S.g p).1∧((S.g p).1=v→u=S.ph p)
 |.bp b v off,u=>v≤(S.g (H b)).1∧((S.g (H b)).1=v→u = .pointer (some ⟨(S.bb b).1,(S.bb b).2+off,none⟩))
 |.ep p v i off,u=>v≤(S.g p).1∧∀ e r xs,S.g p=(v,.one (.own e r xs))→0≤i∧i.toNat<xs.length∧
   ∃ k cap,S.ph p = .slice (some ⟨k,0,none⟩) xs.length cap∧u = .pointer (some ⟨k,i.toNat*r.sz+off,none⟩)
 |.fp r x off,u=>∃ k o cs,u = .pointer (some ⟨k,o+off,none⟩)∧S.O k = .fz∧r.rep P (λ k=>S.O k = .fz) S.w x cs∧C8 S.w k o cs
 |.hd _,_=>True
 |.da p v pi e r xs,u=>Bka P S p v pi e r xs u
 |.opn e r xs i b v,u=>v≤(S.g (H b)).1∧(Nn P e r.sz∧0≤i∧i.toNat<xs.length∧∃ k cap,u = .slice (some ⟨k,0,none⟩) xs.length cap)∧((S.g (H b)).1=v→Fwa P S lab e r xs i b u)
 |.fn F bs,u=>∃ us,u = .func (.func F) #[] us.toArray∧Nq S bs us
 |.io p,u=>3001000≤p∧u=S.ph p
 |.par e r xs m,u=>Pa P S.O S.w lab e r xs m u
 |.two q v1 v2,u=>v1≤(S.g q).1∧v2≤(S.g (q+1)).1∧∃ ad n cap,u = .slice ad n cap∧n≤cap∧((S.g q).1=v1→∃ k,k≤n∧S.ph q = .slice ad k cap)∧((S.g (q+1)).1=v2→S.ph (q+1)=u)
 |.dp p v pi e r xs i off,u=>∃ h,Bka P S p v pi e r xs h∧((S.g p).1=v→0≤i∧i.toNat<xs.length∧∃ k o cap,h = .slice (some ⟨k,o,none⟩) xs.length cap∧u = .pointer (some ⟨k,o+(i.toNat*r.sz+off),none⟩))
def A5 (P:Program) (S:Sit) (lab:Nat→Lab):Nat→List Lf→List Value→Prop
 |_,[],[]=>True
 |j,x::xs,u::us=>Af P S (lab j) x u∧A5 P S lab (j+1) xs us
 |_,_,_=>False
def Ir (P:Program) (S:Sit) (l:Nat):Nat→List (Bool×List Lf)→List Value→Prop
 |_,[],[]=>True
 |i,v::vs,u::us=>(∃ ws,(if v.1 then u = .agg ws.toArray else ws=[u])∧A5 P S (λ j => .pl l [i,j]) 0 v.2 ws)∧Ir P S l (i+1) vs us
 |_,_,_=>False
def Fi (P:Program) (S:Sit) (l:Nat):Sv→Value→Prop
 |.one x,u=>Af P S (.pl l []) x u
 |.agg cs,u=>∃ us,u = .agg us.toArray∧A5 P S (λ j => .pl l [j]) 0 cs us
 |.tup vs,u=>∃ us,u = .tuple us.toArray∧Ir P S l 0 vs us
structure Fr (O0:Nat→Lab) (w0:World) (rg:Nat→Nat×Nat) (O:Nat→Lab) (w:World):Prop where
 os:w.os=w0.os
 tape:w.tape=w0.tape
 out:w.output=w0.output
 size:w0.heap.size≤w.heap.size
 no:∀ k,k<w0.heap.size→O0 k = .no→O k = .no∧w.heap[k]? = w0.heap[k]?
 fz:∀ k,k<w0.heap.size→O0 k = .fz→O k = .fz∧w.heap[k]? = w0.heap[k]?
 bx:∀ k b,k<w0.heap.size→O0 k = .bx b→O k = .bx b∧∃ c c' e f,w0.heap[k]? = some (.cells c e f)∧w.heap[k]? = some (.cells c' e f)∧c'.size=c.size∧
  ∀ i,(i<(rg b).1∨(rg b).1+(rg b).2≤i)→c'[i]? = c[i]?
structure Cx where
 P:Program
 O0:Nat→Lab
 w0:World
 rg:Nat→Nat×Nat
 nt:Nat
 np:Nat
 v0:Nat→Value
def Cx.pb (X:Cx) (b:Nat):Prop:=(b<X.np∧b<1000)∨(1500≤b∧b<2000)
structure Ah (X:Cx) (S:Sit) (a:Act):Prop where
 nt:X.nt≤1000
 lt:∀ k,S.O k ≠ .no→k<S.w.heap.size
 at_:∀ l,Fi X.P S l (S.g l).2 (S.ph l)
 box:∀ b n,(S.g (H b)).2 = .one (.hd n)→n<999∧∃ c e,S.w.heap[(S.bb b).1]? = some (.cells c e (0,0))∧S.O (S.bb b).1 = .bx b∧(S.bb b).2+n≤c.size∧
  ∀ j,j<n→c[(S.bb b).2+j]? = some (S.ph (C b j))
 rgn:∀ b n,(S.g (H b)).2 = .one (.hd n)→(b<2000→(S.bb b).1<X.w0.heap.size→X.O0 (S.bb b).1 = .bx b∧(X.rg b).1≤(S.bb b).2∧(S.bb b).2+n≤(X.rg b).1+(X.rg b).2)∧(X.pb b→(S.bb b).1<X.w0.heap.size)∧(2000≤b→(S.bb b).1<X.w0.heap.size→∀ b',X.O0 (S.bb b).1 ≠ .bx b')∧b<3000
 sl:∀ t,t<X.nt→a.tmps.getD t undef=S.ph t
 sz:a.tmps.size=X.nt
 df:a.defers=[]
 fr:Fr X.O0 X.w0 X.rg S.O S.w
 io:∀ p,3001000≤p→S.ph p=X.v0 p
structure Ci (S S':Sit):Prop where
 ver:∀ p,(S.g p).1≤(S'.g p).1
 ph:∀ p,(S'.g p).1=(S.g p).1→S'.ph p=S.ph p
 own:∀ p v e r xs',S'.g p=(v,.one (.own e r xs'))→(S.g p).1=v→∃ xs:List r.den,S.g p=(v,.one (.own e r xs))∧xs.length=xs'.length
 bb:∀ b,(S'.g (H b)).1=(S.g (H b)).1→S'.bb b=S.bb b
 fz:∀ k,S.O k = .fz→S'.O k = .fz∧S'.w.heap[k]? = S.w.heap[k]?
 box:∀ b n,(S'.g (H b)).1=(S.g (H b)).1→(S.g (H b)).2 = .one (.hd n)→S.O (S.bb b).1 = .bx b→(S'.g (H b)).2 = .one (.hd n)∧S'.O (S.bb b).1 = .bx b∧
  ∀ c e f,S.w.heap[(S.bb b).1]? = some (.cells c e f)→∃ c',S'.w.heap[(S.bb b).1]? = some (.cells c' e f)∧c'.size=c.size∧∀ j,(j<(S.bb b).2∨(S.bb b).2+n≤j)→c'[j]? = c[j]?
 bor:∀ p,(S'.g p).1=(S.g p).1→Ue (S.g p).2=true→Ue (S'.g p).2=true∧(∀ E R XS,(S'.g p).2 = .one (.own E R XS)→(S.g p).2 = .one (.own E R XS))∧∀ k,S.O k = .pl p []→I0a S' p k∧S'.w.heap[k]? = S.w.heap[k]?
 io:∀ p,3001000≤p→S'.ph p=S.ph p
section
variable {P:Program} {S S':Sit} {lab lab':Lab} {u:Value}
def Ci.box_of (hg:∀ b n,(S'.g (H b)).1=(S.g (H b)).1→(S.g (H b)).2 = .one (.hd n)→(S'.g (H b)).2 = .one (.hd n)) (hO:∀ k b,S.O k = .bx b→S'.O k = .bx b∧S'.w.heap[k]? = S.w.heap[k]?):
  ∀ b n,(S'.g (H b)).1=(S.g (H b)).1→(S.g (H b)).2 = .one (.hd n)→S.O (S.bb b).1 = .bx b→(S'.g (H b)).2 = .one (.hd n)∧S'.O (S.bb b).1 = .bx b∧
  ∀ c e f,S.w.heap[(S.bb b).1]? = some (.cells c e f)→∃ c',S'.w.heap[(S.bb b).1]? = some (.cells c' e f)∧c'.size=c.size∧∀ j,(j<(S.bb b).2∨(S.bb b).2+n≤j)→c'[j]? = c[j]?:=
 λ b n h1 h2 h3=>⟨hg b n h1 h2,(hO _ _ h3).1,λ c e f hc=>⟨c,(hO _ _ h3).2.trans hc,rfl,λ _ _=>rfl⟩⟩
def Fxa {c c':Array Value} {o n:Nat} (hs:c'.size=c.size) (h:∀ j,(j<o∨o+n≤j)→c'[j]? = c[j]?):c'.toList.take o=c.toList.take o∧∀ m,(c'.toList.take m).drop (o+n)=(c.toList.take m).drop (o+n):=by
 refine⟨Pba λ j=>?_,λ m=>Pba λ j=>?_⟩
 ·rw[Wd,Wd];split
  ·rw[Yv,Yv];exact h j (.inl ‹_›)
  ·rfl
 ·rw[Xs,Xs,Wd,Wd];split
  ·rw[Yv,Yv];exact h _ (.inr (by omega))
  ·rfl
def Fwa.later {e:TypeId} {r:Ty} {xs:List r.den} {i:Int} {b:Nat} (L:Ci S S') (hv:(S'.g (H b)).1=(S.g (H b)).1) (h:Fwa P S lab e r xs i b u) (hl:∀ k,S.O k=lab→S'.O k=lab'∧S'.w.heap[k]? = S.w.heap[k]?):Fwa P S' lab' e r xs i b u:=by
 obtain⟨k,cap,cur,b1,b2,h1,h2,h3,⟨h4,h5,h6⟩,h7,h8,h9,h10,h11,h12,h13,h14⟩:=h;obtain⟨g1,g2,g3⟩:=L.box b r.sz hv h10 (by rw[h8];exact h9);rw[h8]at g2 g3;obtain⟨c',c1,c2,c3⟩:=g3 _ _ _ h3;obtain⟨t1,t2⟩:=Fxa c2 c3
 have mono:∀ {ys:List r.den} {cs:List Value} {bs:List Nat},(∀ k∈bs,k∈b1++b2)→Bs (λ x c d=>r.dep P (λ k=>S.O k = .fz) S.w x c d) ys cs bs→Bs (λ x c d=>r.dep P (λ k=>S'.O k = .fz) S'.w x c d) ys cs bs:=λ hb h=>
  h.mono (λ x c d hd hx=>Ty.dep_mono (λ k hk=>(L.fz k hk).1) (λ k hk=>(L.fz k hk).2) r x c d (λ k hk=>(hl k (h14 k (hb k (hd k hk)))).2) hx)
 refine⟨k,cap,c',b1,b2,h1,h2,c1,⟨h4,h5,c2.trans h6⟩,h7,(L.bb b hv).trans h8,g2,g1,?_,?_,h13,λ k' hk'=>(hl k' (h14 k' hk')).1⟩
 ·rw[t1];exact mono (λ k hk=>Vt _ hk) h11
 ·rw[t2];exact mono (λ k hk=>Vi _ hk) h12
def Nq.later (L:Ci S S'):∀ {bs:List (Nat×Nat)} {us:List Value},Nq S bs us→Nq S' bs us
 |[],_,h=>h
 |c::bs,_,⟨u,us',e,⟨h1,h2⟩,h3⟩=>⟨u,us',e,⟨Yp h1 (L.ver _),λ hv=>by
  have e1:(S.g (H c.1)).1=c.2:=Yo (hv ▸ L.ver _) h1;rw[L.bb c.1 (hv.trans e1.symm)]
  exact h2 e1⟩,h3.later L⟩
def Ch.later {O O':Nat→Lab} {w w':World} {e:TypeId} {r:Ty} {xs:List r.den} (h:Ch P O w lab e r xs u)
  (hf:∀ k,O k = .fz→O' k = .fz∧w'.heap[k]? = w.heap[k]?) (hl:∀ k,O k=lab→O' k=lab'∧w'.heap[k]? = w.heap[k]?):Ch P O' w' lab' e r xs u:=by
 obtain⟨bs,hd,hn,hk⟩:=h;exact⟨bs,Ty.dep_mono (λ k h=>(hf k h).1) (λ k h=>(hf k h).2) (.ow e r) xs [u] bs (λ k h=>(hl k (hk k h)).2) hd,hn,λ k h=>(hl k (hk k h)).1⟩
def Pa.later {O O':Nat→Lab} {w w':World} {e:TypeId} {r:Ty} {xs:List r.den} {m:Nat} (h:Pa P O w lab e r xs m u)
  (hf:∀ k,O k = .fz→O' k = .fz∧w'.heap[k]? = w.heap[k]?) (hl:∀ k,O k=lab→O' k=lab'∧w'.heap[k]? = w.heap[k]?):Pa P O' w' lab' e r xs m u:=by
 obtain⟨h1,a,cap,cs,bs,h2,h3,h4,h5,h6,h7⟩:=h;refine⟨h1,a,cap,cs,bs,h2,h3,h4.mono (λ x c b hb hx=>Ty.dep_mono (λ k hk=>(hf k hk).1) (λ k hk=>(hf k hk).2) r x c b (λ k hk=>(hl k (h6 k (hb k hk))).2) hx),h5,λ k hk=>(hl k (h6 k hk)).1,λ hn=>?_⟩;obtain⟨k,o,e1,e2,e3⟩:=h7 hn;exact⟨k,o,e1,(hf k e2).1,e3.mono (hf k e2).2⟩
def Uf.reads {P:Program} {S:Sit} {p:Nat} {e:TypeId} {r:Ty} {xs:List r.den} {u:Value} {G:Nat→Prop} (h:Uf P S p e r xs u) (hG:∀ k,I0a S p k→G k):(Ty.sl e r).rep P G S.w xs [u]:=by
 obtain⟨hs,a,cap,cs,bs,e1,hc,hd,hb,hne⟩:=h;refine⟨u,rfl,hs,a,cap,cs,e1,hc,hd.rows (λ x c b hbb h=>Ty.dep_rep (λ k hk=>hG k (.inr hk)) r x c b (λ k hk=>hG k (hb k (hbb k hk))) h),λ hn=>?_⟩;obtain⟨k,o,e2,hk,hcs⟩:=hne hn;exact⟨k,o,e2,hG k hk,hcs⟩
def Jy.mono {G G':Nat→Prop} {w w':World} (hG:∀ k,G k→G' k∧w'.heap[k]? = w.heap[k]?):∀ (q:List (Int×Nat)) (r:Ty) (u u':Value),Jy G w q r u u'→Jy G' w' q r u u'
 |[],_,_,_,h=>h
 |(_,_)::q,_,_,_,⟨k,o,n,cap,e1,r1,u1,h1,h2,h3,h4,h5⟩=>⟨k,o,n,cap,e1,r1,u1,h1,(hG k h2).1,(S9 (hG k h2).2 _).trans h3,h4,h5.mono hG q r1 u1 _⟩
def Bka.later {p v:Nat} {pi:Option (List (Int×Nat))} {e:TypeId} {r:Ty} {xs:List r.den} (L:Ci S S') (h:Bka P S p v pi e r xs u):Bka P S' p v pi e r xs u:=by
 obtain⟨h0,h1,h2⟩:=h;refine⟨h0,Yp h1 (L.ver p),λ hv=>?_⟩;have e1:(S.g p).1=v:=Yo (hv ▸ L.ver p) h1;obtain⟨d1,⟨d2,a,cap,cs,bs,d3,d4,d5,d6,d7⟩,d8⟩:=h2 e1;obtain⟨b1,b2,b3⟩:=L.bor p (hv.trans e1.symm) d1
 have hm:∀ k,I0a S p k→I0a S' p k∧S'.w.heap[k]? = S.w.heap[k]? := λ k hk=>by
  rcases hk with hk|hk
  ·exact b3 k hk
  ·exact⟨.inr (L.fz k hk).1,(L.fz k hk).2⟩
 refine⟨b1,⟨d2,a,cap,cs,bs,d3,d4,d5.mono (λ x c b hb hx=>Ty.dep_mono (λ k hk=>(L.fz k hk).1) (λ k hk=>(L.fz k hk).2) r x c b (λ k hk=>(hm k (d6 k (hb k hk))).2) hx),λ k hk=>(hm k (d6 k hk)).1,λ hn=>?_⟩,λ q hq E R XS hg=>?_⟩
 ·obtain⟨k,o,e3,e4,e5⟩:=d7 hn;exact⟨k,o,e3,(hm k e4).1,e5.mono (hm k e4).2⟩
 ·obtain⟨f1,f2⟩:=d8 q hq E R XS (b2 E R XS hg);refine⟨f1,?_⟩;rw[L.ph p (hv.trans e1.symm)];exact f2.mono hm
def Af.later {x:Lf} (L:Ci S S') (h:Af P S lab x u) (hl:∀ k,S.O k=lab→S'.O k=lab'∧S'.w.heap[k]? = S.w.heap[k]?):Af P S' lab' x u:=by
 cases x with
 |dead=>trivial
 |un=>exact h
 |sc v=>exact h
 |fz e r xs=>exact Ty.rep_mono (λ k h=>(L.fz k h).1) (λ k h=>(L.fz k h).2) _ _ _ h
 |own e r xs=>exact Ch.later h L.fz hl
 |al p v=>
  refine⟨Yp h.1 (L.ver p),λ hv=>?_⟩;have e1:(S.g p).1=v:=Yo (hv ▸ L.ver p) h.1;rw[L.ph p (hv.trans e1.symm)];exact h.2 e1
 |bp b v off=>
  refine⟨Yp h.1 (L.ver _),λ hv=>?_⟩;have e1:(S.g (H b)).1=v:=Yo (hv ▸ L.ver _) h.1;rw[L.bb b (hv.trans e1.symm)];exact h.2 e1
 |ep p v i off=>
  refine⟨Yp h.1 (L.ver p),λ e r xs hv=>?_⟩
  have e0:(S'.g p).1=v:=by rw[hv]
  have e1:(S.g p).1=v:=Yo (e0 ▸ L.ver p) h.1;obtain⟨ys,hy,hl⟩:=L.own p v e r xs hv e1;obtain⟨h0,h1,k,cap,h2,h3⟩:=h.2 e r ys hy;refine⟨h0,hl ▸ h1,k,cap,?_,h3⟩;rw[L.ph p (e0.trans e1.symm),h2,hl]
 |fp r x off=>
  obtain⟨k,o,cs,h1,h2,h3,h4⟩:=h;exact⟨k,o,cs,h1,(L.fz k h2).1,Ty.rep_mono (λ k h=>(L.fz k h).1) (λ k h=>(L.fz k h).2) _ _ _ h3,h4.mono (L.fz k h2).2⟩
 |hd n=>trivial
 |io p=>exact⟨h.1,h.2.trans (L.io p h.1).symm⟩
 |par e r xs m=>exact Pa.later h L.fz hl
 |two q v1 v2=>
  obtain⟨h1,h2,ad,n,cap,h3,h4,h5,h6⟩:=h;refine⟨Yp h1 (L.ver q),Yp h2 (L.ver _),ad,n,cap,h3,h4,λ hv=>?_,λ hv=>?_⟩
  ·have e1:(S.g q).1=v1:=Yo (hv ▸ L.ver q) h1;rw[L.ph q (hv.trans e1.symm)];exact h5 e1
  ·have e1:(S.g (q+1)).1=v2:=Yo (hv ▸ L.ver _) h2;rw[L.ph (q+1) (hv.trans e1.symm)];exact h6 e1
 |da p v pi e r xs=>exact Bka.later L h
 |opn e r xs i b v=>
  refine⟨Yp h.1 (L.ver _),h.2.1,λ hv=>?_⟩;have e1:(S.g (H b)).1=v:=Yo (hv ▸ L.ver _) h.1;exact(h.2.2 e1).later L (hv.trans e1.symm) hl
 |fn F bs=>
  obtain⟨us,e,h⟩:=h;exact⟨us,e,h.later L⟩
 |dp p v pi e r xs i off=>
  obtain⟨hd,h1,h2⟩:=h;refine⟨hd,h1.later L,λ hv=>h2 ?_⟩;exact Yo (hv ▸ L.ver p) h1.2.1
def Lf.isOwn:Lf→Bool
 |.own _ _ _=>true
 |.opn _ _ _ _ _ _=>true
 |.par _ _ _ _=>true
 |_=>false
def Af.relab {x:Lf} (hx:x.isOwn=false) (h:Af P S lab x u):Af P S lab' x u:=by
 cases x<;>first|exact h|(simp[Lf.isOwn]at hx)
def A5.imp {f f':Nat→Lab} (hi:∀ j x u,Af P S (f j) x u→Af P S' (f' j) x u):∀ {j:Nat} {xs:List Lf} {us:List Value},A5 P S f j xs us→A5 P S' f' j xs us
 |_,[],[],_=>trivial
 |j,_::_,_::_,h=>⟨hi j _ _ h.1,h.2.imp hi⟩
 |_,[],_::_,h=>h.elim
 |_,_::_,[],h=>h.elim
def Ir.imp {l l':Nat} (hi:∀ i j x u,Af P S (.pl l [i,j]) x u→Af P S' (.pl l' [i,j]) x u):∀ {i:Nat} {vs:List (Bool×List Lf)} {us:List Value},Ir P S l i vs us→Ir P S' l' i vs us
 |_,[],[],_=>trivial
 |i,_::_,_::_,⟨⟨ws,h1,h2⟩,h3⟩=>⟨⟨ws,h1,h2.imp (λ j=>hi i j)⟩,h3.imp hi⟩
 |_,[],_::_,h=>h.elim
 |_,_::_,[],h=>h.elim
def Fi.imp {l l':Nat} {s:Sv} (hi:∀ p x u,Af P S (.pl l p) x u→Af P S' (.pl l' p) x u) (h:Fi P S l s u):Fi P S' l' s u:=by
 cases s with
 |one x=>exact hi _ _ _ h
 |agg cs=>obtain⟨us,e,h⟩:=h;exact⟨us,e,h.imp (λ j=>hi [j])⟩
 |tup vs=>obtain⟨us,e,h⟩:=h;exact⟨us,e,h.imp (λ i j=>hi [i,j])⟩
def Fi.later {l:Nat} {s:Sv} (L:Ci S S') (h:Fi P S l s u) (hl:∀ p k,S.O k = .pl l p→S'.O k = .pl l p∧S'.w.heap[k]? = S.w.heap[k]?):Fi P S' l s u:=
 h.imp (λ p _ _ h=>h.later L (hl p))
def A5.relab {f f':Nat→Lab}:∀ {j:Nat} {xs:List Lf} {us:List Value},Cm xs=false→A5 P S f j xs us→A5 P S f' j xs us
 |_,[],[],_,_=>trivial
 |j,x::xs,u::us,ho,h=>by
  cases x<;>first|(simp[Cm]at ho;done)|exact⟨Af.relab rfl h.1,A5.relab (by simpa[Cm] using ho) h.2⟩
 |_,[],_::_,_,h=>h.elim
 |_,_::_,[],_,h=>h.elim
def Ir.relab {l l':Nat}:∀ {i:Nat} {vs:List (Bool×List Lf)} {us:List Value},vs.any (λ v=>Cm v.2)=false→Ir P S l i vs us→Ir P S l' i vs us
 |_,[],[],_,_=>trivial
 |i,_::_,_::_,ho,⟨⟨ws,h1,h2⟩,h3⟩=>by
  simp only[List.any_cons,Bool.or_eq_false_iff]at ho;exact⟨⟨ws,h1,h2.relab ho.1⟩,h3.relab ho.2⟩
 |_,[],_::_,_,h=>h.elim
 |_,_::_,[],_,h=>h.elim
def Fi.relab {l l':Nat} {s:Sv} (ho:Hr s=false) (h:Fi P S l s u):Fi P S l' s u:=by
 cases s with
 |one x=>exact Af.relab (by cases x<;>first|rfl|(simp[Hr,Cm]at ho)) h
 |agg cs=>obtain⟨us,e,h⟩:=h;exact⟨us,e,h.relab ho⟩
 |tup vs=>obtain⟨us,e,h⟩:=h;exact⟨us,e,h.relab ho⟩
end
def Lda {b b' j:Nat} (hj:j<999):C b j≠H b':=by unfold C H;omega
def Qg {b b':Nat} (h:H b=H b'):b=b':=by unfold H at h;omega
def O5a (b j:Nat):1000≤C b j:=by unfold C;omega
def Lea (b:Nat):1000≤H b:=by unfold H;omega
def upd {β:Type} (f:Nat→β) (l:Nat) (v:β):Nat→β:=λ k=>if k=l then v else f k
@[simp] theorem A8 {β:Type} (f:Nat→β) (l:Nat) (v:β):upd f l v l=v:=by simp[upd]
def Aa {β:Type} (f:Nat→β) {l k:Nat} (v:β) (h:k≠l):upd f l v k=f k:=by simp[upd,h]
def Hg (A:Ab) (u:Up):get (up A u)=upd (get A) u.l ((bif u.keep then (get A u.l).1 else (get A u.l).1+1),u.s):=by
 funext k;unfold upd up;simp only[get]
 by_cases h:k=u.l
 ·subst h;simp
 ·have:Nat.beq u.l k=false:=by
   cases hb:Nat.beq u.l k with
   |false=>rfl
   |true=>exact absurd (Vb hb).symm h
  simp[this,h]

end Go.Proofs.Ytbbifgjgneefkaa.Vf
