import Derived.Test.YtbbifgjgneefkaaGreatMaa
import Derived.Laws.AppendOwn
import Derived.Laws.Cells
import Derived.Laws.World
set_option linter.all false
namespace Go.Proofs.YtbbifgjgneefkaaGreat.Vf
open Go
open List (length getD)
open Int (toNat)
open Go.IntKind (wrap)
open BitVec (ofInt)
def Va:=@Bool.and_eq_true
def Vc:=@Option.some.injEq
def Vg:=@List.length_cons
def Vh:=@List.length_append
def Vi:=@List.mem_append_right
def Vj:=@List.append_assoc
def Vt:=@List.mem_append_left
def Wb:=@Nat.zero_add
def Wc:=@List.nil_append
def We:=@List.drop_zero
def Wg:=@List.getElem?_take
def Wp:=@List.drop_drop
def Xs:=@List.eq_nil_of_length_eq_zero
def Yf:=@List.append_nil
def Yh:=@Nat.add_mul
def Yk:=@List.length_map
def Ym:=@Nat.one_mul
def Ys:=@Nat.add_assoc
def Yw:=@List.drop_left
def Zd:=@Nat.add_comm
def Ze:=@List.take_length_add_append
def Zh:=@Nat.zero_mul
def Zr:=@List.sublist_append_right
def Rka:=@List.take_zero
def Rpa:=@List.take_left
def Rra:=@List.replicate_succ
def Rsa:=@List.sublist_append_left
def S3a:=@List.Sublist.refl
def Sma:=@Iff.rfl

abbrev y0:=(Int×Int×Int)
abbrev y1:=(ByteArray×(List Int))
abbrev y2:=((List Int)×Int×Bool)
abbrev y3:=(y0×Bool×(List Int))
abbrev y4:=(ByteArray×y0×Bool×Int)
abbrev y5:=((List y1)×(List y1))
abbrev y6:=(Int×y5×(List y4)×(List y4))
def Dw (a0:List Int) (a1:Int):Option (Int):=cond (decide ((wrap .i64 (a1-(length a0:Int)))<0)) (some (-1)) (some (wrap .i64 (a1-(length a0:Int))))
def F3 (a0:y1) (a1:Int):Option (Int):=cond (decide ((wrap .i64 (a1-(ByteArray.size a0.1:Int)))<0)) (some (-1)) ((Dw a0.2 (wrap .i64 (a1-(ByteArray.size a0.1:Int)))).bind λ r1=>cond (decide (r1<0)) (some (-1)) (some r1))
def Cl:Nat→(List y1)→Int→Int→Option (Sum (Int) (Int))
 |0,_,_,_=>none
 |k+1,c,d,b=>cond (decide (b<(length c:Int))) (cond (decide ((0:Int)≤b)) (cond (decide (b<(length c:Int))) ((F3 (getD c (toNat b) ((⟨#[]⟩:ByteArray),[])) d).bind λ r2=>cond (decide (r2<0)) (some (.inl (-1))) (Cl k c r2 (wrap .i64 (b+1)))) none) none) (some (.inr d))
def B1 (k:Nat) (a0:List y1) (a1:Int):Option (Int):=cond (decide ((wrap .i64 (a1-(length a0:Int)))<0)) (some (-1)) ((Cl k a0 (wrap .i64 (a1-(length a0:Int))) 0).bind λ r1=>Sum.elim (λ y2=>some y2) (λ z3=>some z3) r1)
def Fp (k:Nat) (a0:y5) (a1:Int):Option (Int):=(B1 k a0.1 a1).bind λ r1=>cond (decide (r1<0)) (some (-1)) ((B1 k a0.2 r1).bind λ r2=>cond (decide (r2<0)) (some (-1)) (some r2))
def Gj (a0:y4) (a1:Int):Option (Int):=cond (decide ((wrap .i64 (a1-(ByteArray.size a0.1:Int)))<0)) (some (-1)) (some (wrap .i64 (a1-(ByteArray.size a0.1:Int))))
def Dz:Nat→(List y4)→Int→Int→Option (Sum (Int) (Int))
 |0,_,_,_=>none
 |k+1,c,d,b=>cond (decide (b<(length c:Int))) (cond (decide ((0:Int)≤b)) (cond (decide (b<(length c:Int))) ((Gj (getD c (toNat b) ((⟨#[]⟩:ByteArray),(((0:Int),((0:Int),(0:Int))),(false,(0:Int))))) d).bind λ r2=>cond (decide (r2<0)) (some (.inl (-1))) (Dz k c r2 (wrap .i64 (b+1)))) none) none) (some (.inr d))
def Ca (k:Nat) (a0:List y4) (a1:Int):Option (Int):=cond (decide ((wrap .i64 (a1-(length a0:Int)))<0)) (some (-1)) ((Dz k a0 (wrap .i64 (a1-(length a0:Int))) 0).bind λ r1=>Sum.elim (λ y2=>some y2) (λ z3=>some z3) r1)
def Fq (k:Nat) (a0:y6) (a1:Int):Option (Int):=(Fp k a0.2.1 a1).bind λ r1=>cond (decide (r1<0)) (some (-1)) ((Ca k a0.2.2.1 r1).bind λ r2=>cond (decide (r2<0)) (some (-1)) ((Ca k a0.2.2.2 r2).bind λ r3=>cond (decide (r3<0)) (some (-1)) (some r3)))
def Fs (a0:y3) (a1:Int):Option (Int):=(Dw a0.2.2 a1).bind λ r1=>cond (decide (r1<0)) (some (-1)) (some r1)
def B2:Nat→(List y1)→(List y1)→Int→Option (List y1)
 |0,_,_,_=>none
 |k+1,c,d,b=>cond (decide (b<(length c:Int))) (cond (decide ((0:Int)≤b)) (cond (decide (b<(length c:Int))) (let v1:=getD c (toNat b) ((⟨#[]⟩:ByteArray),[]);cond (decide ((0:Int)≤b)) (cond (decide (b<(length c:Int))) (let v2:=getD c (toNat b) ((⟨#[]⟩:ByteArray),[]);cond (Nat.ble ((length ([]:List Int)+length v2.2)*1) 140737488355328) (cond (Nat.ble ((length d+length [(v1.1,([]:List Int)++v2.2)])*40) 140737488355328) (B2 k c (d++[(v1.1,([]:List Int)++v2.2)]) (wrap .i64 (b+1))) none) none) none) none) none) none) (some d)
def Be (k:Nat) (a0:List y1):Option (List y1):=(B2 k a0 ([]:List y1) 0).bind λ r1=>some r1
def A7 (k:Nat) (a0:y5):Option y5:=(Be k a0.1).bind λ r1=>(Be k a0.2).bind λ r2=>some (r1,r2)
def Ei (k:Nat) (a0:y6):Option y6:=(A7 k a0.2.1).bind λ r1=>cond (Nat.ble ((length ([]:List y4)+length a0.2.2.1)*56) 140737488355328) (cond (Nat.ble ((length ([]:List y4)+length a0.2.2.2)*56) 140737488355328) (some (a0.1,r1,(([]:List y4)++a0.2.2.1),(([]:List y4)++a0.2.2.2))) none) none
def C7 (a0:Int) (a1:Int) (a2:Int):Option (Bool):=cond (decide (a0≥a1)) (some (decide (a0≤a2))) (some false)
def B8:Nat→ByteArray→Int→Option (Sum (Bool) (ByteArray))
 |0,_,_=>none
 |k+1,b,c=>cond (decide (c<(ByteArray.size b:Int))) (cond (decide ((0:Int)≤c)) (cond (decide (c<(ByteArray.size b:Int))) ((C7 (wrap .i64 (bt b c)) 97 122).bind λ r1=>cond (!r1) ((C7 (wrap .i64 (bt b c)) 48 57).bind λ r2=>cond (!r2) (cond ((wrap .i64 (bt b c)) != 45) (cond ((wrap .i64 (bt b c)) != 95) (cond ((wrap .i64 (bt b c)) != 47) (some (.inl false)) (B8 k b (wrap .i64 (c+1)))) (B8 k b (wrap .i64 (c+1)))) (B8 k b (wrap .i64 (c+1)))) (B8 k b (wrap .i64 (c+1)))) (B8 k b (wrap .i64 (c+1)))) none) none) (some (.inr b))
def An (k:Nat) (a0:ByteArray):Option (Bool):=(B8 k a0 0).bind λ r1=>Sum.elim (λ y2=>some y2) (λ z3=>(C7 (ByteArray.size z3:Int) 1 20).bind λ r4=>some r4) r1
def D6 (a0:y0):Option (Bool):=(C7 a0.1 0 1000000000).bind λ r1=>cond r1 ((C7 a0.2.1 0 1000000).bind λ r2=>cond r2 ((C7 a0.2.2 0 20).bind λ r3=>some r3) (some false)) (some false)
def E3 (k:Nat) (a0:y4):Option (Bool):=(An k a0.1).bind λ r1=>cond r1 ((D6 a0.2.1).bind λ r2=>cond r2 ((C7 a0.2.2.2 0 200).bind λ r3=>cond r3 (cond (!a0.2.2.1) (some true) (some (a0.2.2.2==0))) (some false)) (some false)) (some false)
def Cm:Nat→(List y1)→Int→Option (Sum (Bool) (List y1))
 |0,_,_=>none
 |k+1,c,b=>cond (decide (b<(length c:Int))) (cond (decide ((0:Int)≤b)) (cond (decide (b<(length c:Int))) ((An k (getD c (toNat b) ((⟨#[]⟩:ByteArray),[])).1).bind λ r2=>cond (!r2) (some (.inl false)) (cond (decide ((0:Int)≤b)) (cond (decide (b<(length c:Int))) (cond (decide ((length (getD c (toNat b) ((⟨#[]⟩:ByteArray),[])).2:Int) > 400)) (some (.inl false)) (cond (decide (b > 0)) (cond (decide ((0:Int)≤wrap .i64 (b-1))) (cond (decide (wrap .i64 (b-1)<(length c:Int))) (cond (decide ((0:Int)≤b)) (cond (decide (b<(length c:Int))) (cond (!(Op.bytesLess (getD c (toNat (wrap .i64 (b-1))) ((⟨#[]⟩:ByteArray),[])).1.toList (getD c (toNat b) ((⟨#[]⟩:ByteArray),[])).1.toList)) (some (.inl false)) (Cm k c (wrap .i64 (b+1)))) none) none) none) none) (Cm k c (wrap .i64 (b+1))))) none) none)) none) none) (some (.inr c))
def Cb (k:Nat) (a0:List y1):Option (Bool):=(Cm k a0 0).bind λ r1=>Sum.elim (λ y2=>some y2) (λ z3=>some (decide ((length z3:Int)≤60))) r1
def C5 (k:Nat) (a0:y5):Option (Bool):=(Cb k a0.1).bind λ r1=>cond r1 ((Cb k a0.2).bind λ r2=>some r2) (some false)
def Cn:Nat→(List y4)→Int→Option (Sum (Bool) (List y4))
 |0,_,_=>none
 |k+1,c,b=>cond (decide (b<(length c:Int))) (cond (decide ((0:Int)≤b)) (cond (decide (b<(length c:Int))) ((E3 k (getD c (toNat b) ((⟨#[]⟩:ByteArray),(((0:Int),((0:Int),(0:Int))),(false,(0:Int)))))).bind λ r2=>cond (!r2) (some (.inl false)) (cond (decide (b > 0)) (cond (decide ((0:Int)≤wrap .i64 (b-1))) (cond (decide (wrap .i64 (b-1)<(length c:Int))) (cond (decide ((0:Int)≤b)) (cond (decide (b<(length c:Int))) (cond (!(Op.bytesLess (getD c (toNat (wrap .i64 (b-1))) ((⟨#[]⟩:ByteArray),(((0:Int),((0:Int),(0:Int))),(false,(0:Int))))).1.toList (getD c (toNat b) ((⟨#[]⟩:ByteArray),(((0:Int),((0:Int),(0:Int))),(false,(0:Int))))).1.toList)) (some (.inl false)) (Cn k c (wrap .i64 (b+1)))) none) none) none) none) (Cn k c (wrap .i64 (b+1))))) none) none) (some (.inr c))
def Cv (k:Nat) (a0:List y4):Option (Bool):=(Cn k a0 0).bind λ r1=>Sum.elim (λ y2=>some y2) (λ z3=>some (decide ((length z3:Int)≤60))) r1
def Dd:Nat→Int→Int→(List y1)→(List y1)→(List y4)→(List y4)→Option (Sum (Bool) (Int×(List y1)×(List y1)×(List y4)×(List y4)))
 |0,_,_,_,_,_,_=>none
 |k+1,b,d,e,f,g,c=>cond (decide (b<(length c:Int))) (cond (decide ((0:Int)≤b)) (cond (decide (b<(length c:Int))) ((E3 k (getD c (toNat b) ((⟨#[]⟩:ByteArray),(((0:Int),((0:Int),(0:Int))),(false,(0:Int)))))).bind λ r2=>cond (!r2) (some (.inl false)) (Dd k (wrap .i64 (b+1)) d e f g c)) none) none) (some (.inr (d,e,f,g,c)))
def Cw (k:Nat) (a0:y6):Option (Bool):=(Dd k 0 a0.1 a0.2.1.1 a0.2.1.2 a0.2.2.1 a0.2.2.2).bind λ r1=>Sum.elim (λ y2=>some y2) (λ z3=>(C7 z3.1 0 20).bind λ r4=>cond r4 ((C5 k (z3.2.1,z3.2.2.1)).bind λ r5=>cond r5 ((Cv k z3.2.2.2.1).bind λ r6=>cond r6 (some (decide ((length z3.2.2.2.2:Int)≤60))) (some false)) (some false)) (some false)) r1
def Bf (a0:y3):Option (Bool):=(D6 a0.1).bind λ r1=>cond r1 (cond (decide ((length a0.2.2:Int)≤200)) (cond (!a0.2.1) (some true) (some ((length a0.2.2:Int)==0))) (some false)) (some false)
def Ej:Nat→(List y1)→ByteArray→Int→Option (Sum (Int) (Unit))
 |0,_,_,_=>none
 |k+1,c,d,b=>cond (decide (b<(length c:Int))) (cond (decide ((0:Int)≤b)) (cond (decide (b<(length c:Int))) (cond ((getD c (toNat b) ((⟨#[]⟩:ByteArray),[])).1.toList==d.toList) (some (.inl b)) (Ej k c d (wrap .i64 (b+1)))) none) none) (some (.inr ()))
def Gg (k:Nat) (a0:List y1) (a1:ByteArray):Option (Int):=(Ej k a0 a1 0).bind λ r1=>Sum.elim (λ y2=>some y2) (λ z3=>some (-1)) r1
def C8 (k:Nat) (a0:y5) (a1:ByteArray):Option ((List Int)×Bool):=(Gg k a0.1 a1).bind λ r1=>cond (decide (r1<0)) (some (([]:List Int),false)) (cond (decide ((0:Int)≤r1)) (cond (decide (r1<(length a0.1:Int))) (let v2:=getD a0.1 (toNat r1) ((⟨#[]⟩:ByteArray),[]);cond (Nat.ble ((length ([]:List Int)+length v2.2)*1) 140737488355328) (some (([]:List Int)++v2.2,true)) none) none) none)
def B9:Nat→Int→(List Int)→Option (Int×(List Int))
 |0,_,_=>none
 |k+1,b,c=>cond (decide (b > 127)) (cond (Nat.ble ((length c+length [wrap .u8 (wrap .i64 ((ofInt (IntKind.bits .i64) (wrap .i64 ((ofInt (IntKind.bits .i64) b &&& ofInt (IntKind.bits .i64) 127).toNat)) ||| ofInt (IntKind.bits .i64) 128).toNat))])*1) 140737488355328) (B9 k (Int.fdiv b (2 ^ (min (toNat 7) (IntKind.bits .i64)))) (c++[wrap .u8 (wrap .i64 ((ofInt (IntKind.bits .i64) (wrap .i64 ((ofInt (IntKind.bits .i64) b &&& ofInt (IntKind.bits .i64) 127).toNat)) ||| ofInt (IntKind.bits .i64) 128).toNat))])) none) (some (b,c))
def Bg (k:Nat) (a0:List Int) (a1:Int):Option (List Int):=cond (Nat.ble ((length ([]:List Int)+length a0)*1) 140737488355328) (cond (decide (a1 > 1000000000)) (cond (decide ((1000000000:Int)<0)) ((B9 k 0 (([]:List Int)++a0)).bind λ r1=>cond (Nat.ble ((length r1.2+length [wrap .u8 r1.1])*1) 140737488355328) (some (r1.2++[wrap .u8 r1.1])) none) ((B9 k 1000000000 (([]:List Int)++a0)).bind λ r3=>cond (Nat.ble ((length r3.2+length [wrap .u8 r3.1])*1) 140737488355328) (some (r3.2++[wrap .u8 r3.1])) none)) (cond (decide (a1<0)) ((B9 k 0 (([]:List Int)++a0)).bind λ r5=>cond (Nat.ble ((length r5.2+length [wrap .u8 r5.1])*1) 140737488355328) (some (r5.2++[wrap .u8 r5.1])) none) ((B9 k a1 (([]:List Int)++a0)).bind λ r7=>cond (Nat.ble ((length r7.2+length [wrap .u8 r7.1])*1) 140737488355328) (some (r7.2++[wrap .u8 r7.1])) none))) none
def Ek (k:Nat) (a0:List Int) (a1:ByteArray):Option (List Int):=(Bg k a0 (ByteArray.size a1:Int)).bind λ r1=>cond (Nat.ble ((length r1+ByteArray.size a1)*1) 140737488355328) (some (r1++bytesOf a1)) none
def El (k:Nat) (a0:List Int) (a1:y0):Option (List Int):=(Bg k a0 a1.1).bind λ r1=>(Bg k r1 a1.2.1).bind λ r2=>(Bg k r2 a1.2.2).bind λ r3=>some r3
def Ft (a0:Bool):Option (Int):=cond a0 (some 1) (some 0)
def Ey:Nat→(List Int)→Int→Int→Int→Option ((List Int)×Int×Int)
 |0,_,_,_,_=>none
 |k+1,c,b,d,e=>cond (decide (e<8)) (cond ((wrap .i64 ((ofInt (IntKind.bits .i64) b &&& ofInt (IntKind.bits .i64) 1).toNat))==1) (Ey k c (wrap .i64 ((ofInt (IntKind.bits .i64) (Int.fdiv b (2 ^ (min (toNat 1) (IntKind.bits .i64)))) ^^^ ofInt (IntKind.bits .i64) 2197175160).toNat)) d (wrap .i64 (e+1))) (Ey k c (Int.fdiv b (2 ^ (min (toNat 1) (IntKind.bits .i64)))) d (wrap .i64 (e+1)))) (some (c,b,d))
def F7:Nat→(List Int)→Int→Int→Option (Int)
 |0,_,_,_=>none
 |k+1,c,d,b=>cond (decide (b<(length c:Int))) (cond (decide ((0:Int)≤b)) (cond (decide (b<(length c:Int))) ((Ey k c (wrap .i64 ((ofInt (IntKind.bits .i64) d ^^^ ofInt (IntKind.bits .i64) (wrap .i64 (getD c (toNat b) (0:Int)))).toNat)) b 0).bind λ r2=>F7 k r2.1 r2.2.1 (wrap .i64 (r2.2.2+1))) none) none) (some d)
def H1 (k:Nat) (a0:List Int):Option (Int):=(F7 k a0 4294967295 0).bind λ r1=>some (wrap .i64 ((ofInt (IntKind.bits .i64) r1 ^^^ ofInt (IntKind.bits .i64) 4294967295).toNat))
def C3 (k:Nat) (a0:y3):Option (List Int):=(Bf a0).bind λ r1=>cond (!r1) (some ([]:List Int)) ((El k ([]:List Int) a0.1).bind λ r2=>(Ft a0.2.1).bind λ r3=>(Bg k r2 r3).bind λ r4=>(Ek k r4 (H0 a0.2.2)).bind λ r5=>(H1 k r5).bind λ r6=>cond (Nat.ble ((length r5+length [wrap .u8 (Int.fdiv r6 (2 ^ (min (toNat 24) (IntKind.bits .i64)))),wrap .u8 (Int.fdiv r6 (2 ^ (min (toNat 16) (IntKind.bits .i64)))),wrap .u8 (Int.fdiv r6 (2 ^ (min (toNat 8) (IntKind.bits .i64)))),wrap .u8 r6])*1) 140737488355328) (some (r5++[wrap .u8 (Int.fdiv r6 (2 ^ (min (toNat 24) (IntKind.bits .i64)))),wrap .u8 (Int.fdiv r6 (2 ^ (min (toNat 16) (IntKind.bits .i64)))),wrap .u8 (Int.fdiv r6 (2 ^ (min (toNat 8) (IntKind.bits .i64)))),wrap .u8 r6])) none)
def C2:Nat→(List Int)→Int→Int→Int→Option (Sum (Int×Int×Bool) (Unit))
 |0,_,_,_,_=>none
 |k+1,d,c,e,b=>cond (decide (b<5)) (cond (decide (c≥0)) (cond (decide (c<(length d:Int))) (cond (decide ((wrap .i64 (c+b))<(length d:Int))) (cond (decide ((0:Int)≤wrap .i64 (c+b))) (cond (decide (wrap .i64 (c+b)<(length d:Int))) (let v1:=getD d (toNat (wrap .i64 (c+b))) (0:Int);cond (decide ((wrap .u64 (wrap .i64 (7*b)))<0)) none (cond (decide ((wrap .i64 v1) > 127)) (C2 k d c (wrap .i64 ((ofInt (IntKind.bits .i64) e ||| ofInt (IntKind.bits .i64) (wrap .i64 ((wrap .i64 ((ofInt (IntKind.bits .i64) (wrap .i64 v1) &&& ofInt (IntKind.bits .i64) 127).toNat))*2 ^ (min (toNat (wrap .u64 (wrap .i64 (7*b)))) (IntKind.bits .i64))))).toNat)) (wrap .i64 (b+1))) (cond (decide (b > 0)) (cond ((wrap .i64 v1)==0) (some (.inl (0,0,false))) (cond (decide ((wrap .i64 ((ofInt (IntKind.bits .i64) e ||| ofInt (IntKind.bits .i64) (wrap .i64 ((wrap .i64 ((ofInt (IntKind.bits .i64) (wrap .i64 v1) &&& ofInt (IntKind.bits .i64) 127).toNat))*2 ^ (min (toNat (wrap .u64 (wrap .i64 (7*b)))) (IntKind.bits .i64))))).toNat)) > 1000000000)) (some (.inl (0,0,false))) (some (.inl (wrap .i64 ((ofInt (IntKind.bits .i64) e ||| ofInt (IntKind.bits .i64) (wrap .i64 ((wrap .i64 ((ofInt (IntKind.bits .i64) (wrap .i64 v1) &&& ofInt (IntKind.bits .i64) 127).toNat))*2 ^ (min (toNat (wrap .u64 (wrap .i64 (7*b)))) (IntKind.bits .i64))))).toNat),wrap .i64 ((wrap .i64 (c+b))+1),true))))) (cond (decide ((wrap .i64 ((ofInt (IntKind.bits .i64) e ||| ofInt (IntKind.bits .i64) (wrap .i64 ((wrap .i64 ((ofInt (IntKind.bits .i64) (wrap .i64 v1) &&& ofInt (IntKind.bits .i64) 127).toNat))*2 ^ (min (toNat (wrap .u64 (wrap .i64 (7*b)))) (IntKind.bits .i64))))).toNat)) > 1000000000)) (some (.inl (0,0,false))) (some (.inl (wrap .i64 ((ofInt (IntKind.bits .i64) e ||| ofInt (IntKind.bits .i64) (wrap .i64 ((wrap .i64 ((ofInt (IntKind.bits .i64) (wrap .i64 v1) &&& ofInt (IntKind.bits .i64) 127).toNat))*2 ^ (min (toNat (wrap .u64 (wrap .i64 (7*b)))) (IntKind.bits .i64))))).toNat),wrap .i64 ((wrap .i64 (c+b))+1),true))))))) none) none) (some (.inr ()))) (some (.inr ()))) (some (.inr ()))) (some (.inr ()))
def Bh (k:Nat) (a0:List Int) (a1:Int):Option (Int×Int×Bool):=(C2 k a0 a1 0 0).bind λ r1=>Sum.elim (λ y2=>some (y2.1,y2.2.1,y2.2.2)) (λ z3=>some (0,0,false)) r1
def Cc (k:Nat) (a0:List Int) (a1:Int):Option (y0×Int×Bool):=(Bh k a0 a1).bind λ r1=>(Bh k a0 r1.2.1).bind λ r2=>(Bh k a0 r2.2.1).bind λ r3=>cond r1.2.2 (cond r2.2.2 (some ((r1.1,r2.1,r3.1),r3.2.1,r3.2.2)) (some ((r1.1,r2.1,r3.1),r3.2.1,false))) (some ((r1.1,r2.1,r3.1),r3.2.1,false))
def Em (k:Nat) (a0:List Int) (a1:Int):Option (ByteArray×Int×Bool):=(Bh k a0 a1).bind λ r1=>cond (!r1.2.2) (some ((⟨#[]⟩:ByteArray),0,false)) (cond (decide (r1.1 > (wrap .i64 ((length a0:Int)-r1.2.1)))) (some ((⟨#[]⟩:ByteArray),0,false)) (cond (decide ((0:Int)≤r1.2.1)) (cond (decide (r1.2.1≤wrap .i64 (r1.2.1+r1.1))) (cond (decide (wrap .i64 (r1.2.1+r1.1)≤(length a0:Int))) (some (H0 (List.drop (toNat r1.2.1) (List.take (toNat (wrap .i64 (r1.2.1+r1.1))) a0)),wrap .i64 (r1.2.1+r1.1),true)) none) none) none))
def Eo (k:Nat) (a0:List Int):Option (y3×Bool):=(Cc k a0 0).bind λ r1=>(Bh k a0 r1.2.1).bind λ r2=>(Em k a0 r2.2.1).bind λ r3=>cond (!r1.2.2) (some (((0,0,0),false,([]:List Int)),false)) (cond (!r2.2.2) (some (((0,0,0),false,([]:List Int)),false)) (cond (!r3.2.2) (some (((0,0,0),false,([]:List Int)),false)) (cond (decide (r2.1 > 1)) (some (((0,0,0),false,([]:List Int)),false)) (cond ((wrap .i64 (r3.2.1+4)) != (length a0:Int)) (some (((0,0,0),false,([]:List Int)),false)) (cond (Nat.ble ((length ([]:List Int)+ByteArray.size r3.1)*1) 140737488355328) (let v4:List Int:=([]:List Int)++bytesOf r3.1;(Bf (r1.1,r2.1==1,v4)).bind λ r5=>cond (!r5) (some (((0,0,0),false,([]:List Int)),false)) ((C3 k (r1.1,r2.1==1,v4)).bind λ r6=>cond (!((H0 r6).toList==(H0 a0).toList)) (some (((0,0,0),false,([]:List Int)),false)) (some ((r1.1,r2.1==1,v4),true)))) none)))))
def Gu (k:Nat) (a0:y5) (a1:ByteArray):Option (y3×Int):=(C8 k a0 a1).bind λ r1=>cond (!r1.2) (some (((0,0,0),false,([]:List Int)),1)) ((Eo k r1.1).bind λ r2=>cond (!r2.2) (some (((0,0,0),false,([]:List Int)),2)) (some (r2.1,0)))
def De (a0:y0) (a1:y0):Option (Bool):=cond (a0.1 != a1.1) (some (decide (a0.1<a1.1))) (cond (a0.2.1 != a1.2.1) (some (decide (a0.2.1<a1.2.1))) (some (decide (a0.2.2<a1.2.2))))
def G0 (a0:y3) (a1:y3):Option (Bool):=(De a1.1 a0.1).bind λ r1=>some r1
def Dl:Nat→(List y1)→ByteArray→(List y1)→Int→Option (List y1)
 |0,_,_,_,_=>none
 |k+1,c,e,d,b=>cond (decide (b<(length c:Int))) (cond (decide ((0:Int)≤b)) (cond (decide (b<(length c:Int))) (cond (!((getD c (toNat b) ((⟨#[]⟩:ByteArray),[])).1.toList==e.toList)) (cond (decide ((0:Int)≤b)) (cond (decide (b<(length c:Int))) (let v2:=getD c (toNat b) ((⟨#[]⟩:ByteArray),[]);cond (Nat.ble ((length d+length [v2])*40) 140737488355328) (Dl k c e (d++[v2]) (wrap .i64 (b+1))) none) none) none) (Dl k c e d (wrap .i64 (b+1)))) none) none) (some d)
def Fj (k:Nat) (a0:List y1) (a1:ByteArray):Option (List y1):=(Dl k a0 a1 ([]:List y1) 0).bind λ r1=>some r1
def Aw:Nat→(List y1)→ByteArray→(List y1)→Bool→Int→ByteArray→(List Int)→Option ((List y1)×Bool×y1)
 |0,_,_,_,_,_,_,_=>none
 |k+1,c,d,e,h,b,f,g=>cond (decide (b<(length c:Int))) (cond (!h) (cond (decide ((0:Int)≤b)) (cond (decide (b<(length c:Int))) (cond (!(Op.bytesLess (getD c (toNat b) ((⟨#[]⟩:ByteArray),[])).1.toList d.toList)) (cond (Nat.ble ((length e+length [(f,g)])*40) 140737488355328) (let v2:List y1:=e++[(f,g)];cond (decide ((0:Int)≤b)) (cond (decide (b<(length c:Int))) (cond (!((getD c (toNat b) ((⟨#[]⟩:ByteArray),[])).1.toList==d.toList)) (cond (decide ((0:Int)≤b)) (cond (decide (b<(length c:Int))) (let v4:=getD c (toNat b) ((⟨#[]⟩:ByteArray),[]);cond (Nat.ble ((length v2+length [v4])*40) 140737488355328) (Aw k c d (v2++[v4]) true (wrap .i64 (b+1)) f g) none) none) none) (Aw k c d v2 true (wrap .i64 (b+1)) f g)) none) none) none) (cond (decide ((0:Int)≤b)) (cond (decide (b<(length c:Int))) (cond (!((getD c (toNat b) ((⟨#[]⟩:ByteArray),[])).1.toList==d.toList)) (cond (decide ((0:Int)≤b)) (cond (decide (b<(length c:Int))) (let v6:=getD c (toNat b) ((⟨#[]⟩:ByteArray),[]);cond (Nat.ble ((length e+length [v6])*40) 140737488355328) (Aw k c d (e++[v6]) h (wrap .i64 (b+1)) f g) none) none) none) (Aw k c d e h (wrap .i64 (b+1)) f g)) none) none)) none) none) (cond (decide ((0:Int)≤b)) (cond (decide (b<(length c:Int))) (cond (!((getD c (toNat b) ((⟨#[]⟩:ByteArray),[])).1.toList==d.toList)) (cond (decide ((0:Int)≤b)) (cond (decide (b<(length c:Int))) (let v8:=getD c (toNat b) ((⟨#[]⟩:ByteArray),[]);cond (Nat.ble ((length e+length [v8])*40) 140737488355328) (Aw k c d (e++[v8]) h (wrap .i64 (b+1)) f g) none) none) none) (Aw k c d e h (wrap .i64 (b+1)) f g)) none) none)) (some (e,h,f,g))
def Ec (k:Nat) (a0:List y1) (a1:ByteArray) (a2:List Int):Option (List y1):=cond (Nat.ble ((length ([]:List Int)+length a2)*1) 140737488355328) ((Aw k a0 a1 ([]:List y1) false 0 a1 (([]:List Int)++a2)).bind λ r1=>cond (!r1.2.1) (cond (Nat.ble ((length r1.1+length [r1.2.2])*40) 140737488355328) (some (r1.1++[r1.2.2])) none) (some r1.1)) none
def Cy (k:Nat) (a0:y5) (a1:y5) (a2:ByteArray):Option (y5×Bool):=(C5 k a0).bind λ r1=>cond (!r1) ((A7 k a0).bind λ r2=>some (r2,false)) ((An k a2).bind λ r3=>cond (!r3) ((A7 k a0).bind λ r4=>some (r4,false)) ((C5 k a1).bind λ r5=>cond (!r5) ((A7 k a0).bind λ r6=>some (r6,false)) (some (a1,true))))
def Bc (k:Nat) (a0:y5) (a1:ByteArray):Option (y5×Bool):=(A7 k a0).bind λ r1=>(C8 k a0 a1).bind λ r2=>(Fj k r1.2 a1).bind λ r3=>cond r2.2 ((Ec k r3 a1 r2.1).bind λ r4=>(Cy k a0 (r1.1,r4) a1).bind λ r5=>some (r5.1,r5.2)) ((Cy k a0 (r1.1,r3) a1).bind λ r6=>some (r6.1,r6.2))
def Bp (k:Nat) (a0:y5) (a1:ByteArray) (a2:List Int):Option (y5×Bool):=(A7 k a0).bind λ r1=>(Ec k r1.1 a1 a2).bind λ r2=>(Cy k a0 (r2,r1.2) a1).bind λ r3=>some (r3.1,r3.2)
def Gv (k:Nat) (a0:y5) (a1:ByteArray) (a2:y3) (a3:Bool):Option (y5×Int):=(C5 k a0).bind λ r1=>cond (!r1) ((A7 k a0).bind λ r2=>some (r2,2)) ((An k a1).bind λ r3=>cond (!r3) ((A7 k a0).bind λ r4=>some (r4,2)) ((Bf a2).bind λ r5=>cond (!r5) ((A7 k a0).bind λ r6=>some (r6,2)) ((Gu k a0 a1).bind λ r7=>cond (r7.2==0) ((G0 a2 r7.1).bind λ r8=>cond (!r8) ((A7 k a0).bind λ r9=>cond a3 ((Bc k a0 a1).bind λ r10=>cond (!r10.2) ((A7 k a0).bind λ r11=>some (r11,3)) (some (r10.1,1))) (some (r9,1))) ((C3 k a2).bind λ r12=>(Bp k a0 a1 r12).bind λ r13=>cond r13.2 (cond a3 ((Bc k r13.1 a1).bind λ r14=>cond (!r14.2) ((A7 k a0).bind λ r15=>some (r15,3)) (some (r14.1,0))) (cond (!r13.2) ((A7 k a0).bind λ r16=>some (r16,3)) (some (r13.1,0)))) (cond (!r13.2) ((A7 k a0).bind λ r17=>some (r17,3)) (some (r13.1,0))))) ((C3 k a2).bind λ r18=>(Bp k a0 a1 r18).bind λ r19=>cond r19.2 (cond a3 ((Bc k r19.1 a1).bind λ r20=>cond (!r20.2) ((A7 k a0).bind λ r21=>some (r21,3)) (some (r20.1,0))) (cond (!r19.2) ((A7 k a0).bind λ r22=>some (r22,3)) (some (r19.1,0)))) (cond (!r19.2) ((A7 k a0).bind λ r23=>some (r23,3)) (some (r19.1,0)))))))
def Gk (a0:ByteArray) (a1:y3):Option y4:=some (a0,a1.1,a1.2.1,(length a1.2.2:Int))
def E4 (k:Nat) (a0:y6) (a1:ByteArray) (a2:y3) (a3:Bool):Option (Int×y6):=cond ((length a0.2.2.2:Int)==60) (some (3,a0)) ((Gv k a0.2.1 a1 a2 a3).bind λ r1=>cond (r1.2==0) (cond a3 (cond (Nat.ble ((length ([]:List y4)+length a0.2.2.2)*56) 140737488355328) (let v2:List y4:=([]:List y4)++a0.2.2.2;(Gk a1 a2).bind λ r3=>cond (Nat.ble ((length v2+length [r3])*56) 140737488355328) (some (r1.2,(a0.1,r1.1,a0.2.2.1,v2++[r3]))) none) none) (some (r1.2,(a0.1,r1.1,a0.2.2)))) (some (r1.2,(a0.1,r1.1,a0.2.2))))
def Eb (k:Nat) (a0:y6) (a1:ByteArray) (a2:y3) (a3:Bool):Option (y6×Int):=(Ei k a0).bind λ r1=>(Cw k a0).bind λ r2=>cond (!r2) (some (r1,2)) ((An k a1).bind λ r3=>cond (!r3) (some (r1,2)) ((Bf a2).bind λ r4=>cond (!r4) (some (r1,2)) ((E4 k r1 a1 a2 a3).bind λ r5=>some (r5.2,r5.1))))
def Cd:Nat→(List Int)→(List Int)→Int→Option (List Int)
 |0,_,_,_=>none
 |k+1,c,d,b=>cond (decide (b<(length c:Int))) (cond (decide ((0:Int)≤b)) (cond (decide (b<(length c:Int))) (cond (decide ((0:Int)≤b)) (cond (decide (b<(length d:Int))) (Cd k c (List.set d (toNat b) (getD c (toNat b) (0:Int))) (wrap .i64 (b+1))) none) none) none) none) (some d)
def Ce (k:Nat) (a0:List Int):Option (List Int):=cond (decide ((length a0:Int)=(length a0:Int))) (cond (decide ((0:Int)≤(length a0:Int))) (cond (decide ((length a0:Int)*(1:Nat)≤140737488355328)) ((Cd k a0 (List.replicate (toNat (length a0:Int)) (0:Int)) 0).bind λ r1=>some r1) none) none) none
def F4 (k:Nat) (a0:y1):Option y1:=(Ce k a0.2).bind λ r1=>some (a0.1,r1)
def Bt:Nat→(List y1)→(List y1)→Int→Option (List y1)
 |0,_,_,_=>none
 |k+1,c,d,b=>cond (decide (b<(length c:Int))) (cond (decide ((0:Int)≤b)) (cond (decide (b<(length c:Int))) ((F4 k (getD c (toNat b) ((⟨#[]⟩:ByteArray),[]))).bind λ r2=>cond (decide ((0:Int)≤b)) (cond (decide (b<(length d:Int))) (Bt k c (List.set d (toNat b) r2) (wrap .i64 (b+1))) none) none) none) none) (some d)
def B3 (k:Nat) (a0:List y1):Option (List y1):=cond (decide ((length a0:Int)=(length a0:Int))) (cond (decide ((0:Int)≤(length a0:Int))) (cond (decide ((length a0:Int)*(40:Nat)≤140737488355328)) ((Bt k a0 (List.replicate (toNat (length a0:Int)) ((⟨#[]⟩:ByteArray),[])) 0).bind λ r1=>some r1) none) none) none
def Fu (k:Nat) (a0:y5):Option y5:=(B3 k a0.1).bind λ r1=>(B3 k a0.2).bind λ r2=>some (r1,r2)
def D7 (a0:y0):Option y0:=some a0
def Gl (a0:y4):Option y4:=(D7 a0.2.1).bind λ r1=>some (a0.1,r1,a0.2.2)
def Df:Nat→(List y4)→(List y4)→Int→Option (List y4)
 |0,_,_,_=>none
 |k+1,c,d,b=>cond (decide (b<(length c:Int))) (cond (decide ((0:Int)≤b)) (cond (decide (b<(length c:Int))) ((Gl (getD c (toNat b) ((⟨#[]⟩:ByteArray),(((0:Int),((0:Int),(0:Int))),(false,(0:Int)))))).bind λ r2=>cond (decide ((0:Int)≤b)) (cond (decide (b<(length d:Int))) (Df k c (List.set d (toNat b) r2) (wrap .i64 (b+1))) none) none) none) none) (some d)
def Cf (k:Nat) (a0:List y4):Option (List y4):=cond (decide ((length a0:Int)=(length a0:Int))) (cond (decide ((0:Int)≤(length a0:Int))) (cond (decide ((length a0:Int)*(56:Nat)≤140737488355328)) ((Df k a0 (List.replicate (toNat (length a0:Int)) ((⟨#[]⟩:ByteArray),(((0:Int),((0:Int),(0:Int))),(false,(0:Int))))) 0).bind λ r1=>some r1) none) none) none
def Ed (k:Nat) (a0:y6):Option y6:=(Fu k a0.2.1).bind λ r1=>(Cf k a0.2.2.1).bind λ r2=>(Cf k a0.2.2.2).bind λ r3=>some (a0.1,r1,r2,r3)
def E5 (k:Nat) (a0:y3):Option y3:=(D7 a0.1).bind λ r1=>(Ce k a0.2.2).bind λ r2=>some (r1,a0.2.1,r2)
def Ao (a0:List Int):Option (List Int):=cond (Nat.ble ((length ([]:List Int)+length a0)*1) 140737488355328) (some (([]:List Int)++a0)) none
def Bi:Nat→(List y1)→(List y1)→Int→Int→Option (List y1)
 |0,_,_,_,_=>none
 |k+1,c,d,e,b=>cond (decide (b<e)) (cond (decide ((0:Int)≤b)) (cond (decide (b<(length d:Int))) (let v1:=getD d (toNat b) ((⟨#[]⟩:ByteArray),[]);(Ao v1.2).bind λ r2=>cond (Nat.ble ((length c+length [(v1.1,r2)])*40) 140737488355328) (Bi k (c++[(v1.1,r2)]) d e (wrap .i64 (b+1))) none) none) none) (some c)
def As (k:Nat) (a0:List y1):Option (List y1):=(Bi k ([]:List y1) a0 (length a0:Int) 0).bind λ r1=>some r1
def A6 (k:Nat) (a0:y5):Option y5:=(As k a0.1).bind λ r1=>(As k a0.2).bind λ r2=>some (r1,r2)
def Dm (a0:List y4):Option (List y4):=cond (Nat.ble ((length ([]:List y4)+length a0)*56) 140737488355328) (some (([]:List y4)++a0)) none
def E6 (k:Nat) (a0:y6):Option y6:=(A6 k a0.2.1).bind λ r1=>(Dm a0.2.2.1).bind λ r2=>(Dm a0.2.2.2).bind λ r3=>some (a0.1,r1,r2,r3)
def Fg (a0:Int) (a1:Int) (a2:Int):Option (Bool):=cond (decide (a0≥a1)) (some (decide (a0≤a2))) (some false)
def Ad:Nat→ByteArray→Int→Option (Sum (Bool) (ByteArray))
 |0,_,_=>none
 |k+1,b,c=>cond (decide (c<(ByteArray.size b:Int))) (cond (decide ((0:Int)≤c)) (cond (decide (c<(ByteArray.size b:Int))) (cond (decide ((bt b c)≥97)) (cond (!(decide ((bt b c)≤122))) (cond (decide ((bt b c)≥48)) (cond (!(decide ((bt b c)≤57))) (cond ((bt b c) != 45) (cond ((bt b c) != 95) (cond ((bt b c) != 47) (some (.inl false)) (Ad k b (wrap .i64 (c+1)))) (Ad k b (wrap .i64 (c+1)))) (Ad k b (wrap .i64 (c+1)))) (Ad k b (wrap .i64 (c+1)))) (cond ((bt b c) != 45) (cond ((bt b c) != 95) (cond ((bt b c) != 47) (some (.inl false)) (Ad k b (wrap .i64 (c+1)))) (Ad k b (wrap .i64 (c+1)))) (Ad k b (wrap .i64 (c+1))))) (Ad k b (wrap .i64 (c+1)))) (cond (decide ((bt b c)≥48)) (cond (!(decide ((bt b c)≤57))) (cond ((bt b c) != 45) (cond ((bt b c) != 95) (cond ((bt b c) != 47) (some (.inl false)) (Ad k b (wrap .i64 (c+1)))) (Ad k b (wrap .i64 (c+1)))) (Ad k b (wrap .i64 (c+1)))) (Ad k b (wrap .i64 (c+1)))) (cond ((bt b c) != 45) (cond ((bt b c) != 95) (cond ((bt b c) != 47) (some (.inl false)) (Ad k b (wrap .i64 (c+1)))) (Ad k b (wrap .i64 (c+1)))) (Ad k b (wrap .i64 (c+1)))))) none) none) (some (.inr b))
def Aj (k:Nat) (a0:ByteArray):Option (Bool):=(Ad k a0 0).bind λ r1=>Sum.elim (λ y2=>some y2) (λ z3=>(Fg (ByteArray.size z3:Int) 1 20).bind λ r4=>some r4) r1
def D8 (a0:y0):Option (Bool):=(Fg a0.1 0 1000000000).bind λ r1=>cond r1 ((Fg a0.2.1 0 1000000).bind λ r2=>cond r2 ((Fg a0.2.2 0 20).bind λ r3=>some r3) (some false)) (some false)
def Eu (k:Nat) (a0:y4):Option (Bool):=(Aj k a0.1).bind λ r1=>cond r1 ((D8 a0.2.1).bind λ r2=>cond r2 ((Fg a0.2.2.2 0 200).bind λ r3=>cond r3 (cond (!a0.2.2.1) (some true) (some (a0.2.2.2==0))) (some false)) (some false)) (some false)
def Bu:Nat→(List y1)→(List y1)→Int→Int→Option (Sum (Bool) (List y1))
 |0,_,_,_,_=>none
 |k+1,c,d,e,b=>cond (decide (b<e)) (cond (decide ((0:Int)≤b)) (cond (decide (b<(length d:Int))) (let v1:=getD d (toNat b) ((⟨#[]⟩:ByteArray),[]);(Aj k v1.1).bind λ r2=>cond (!r2) (some (.inl false)) (cond (decide ((length v1.2:Int) > 400)) (some (.inl false)) (cond (decide (b > 0)) (cond (decide ((0:Int)≤wrap .i64 (b-1))) (cond (decide (wrap .i64 (b-1)<(length c:Int))) (cond (!(Op.bytesLess (getD c (toNat (wrap .i64 (b-1))) ((⟨#[]⟩:ByteArray),[])).1.toList v1.1.toList)) (some (.inl false)) (Bu k c d e (wrap .i64 (b+1)))) none) none) (Bu k c d e (wrap .i64 (b+1)))))) none) none) (some (.inr c))
def Br (k:Nat) (a0:List y1):Option (Bool):=(Bu k a0 a0 (length a0:Int) 0).bind λ r1=>Sum.elim (λ y2=>some y2) (λ z3=>some (decide ((length z3:Int)≤60))) r1
def Bj (k:Nat) (a0:y5):Option (Bool):=(Br k a0.1).bind λ r1=>cond r1 ((Br k a0.2).bind λ r2=>some r2) (some false)
def Co:Nat→(List y4)→(List y4)→Int→Int→Option (Sum (Bool) (List y4))
 |0,_,_,_,_=>none
 |k+1,c,d,e,b=>cond (decide (b<e)) (cond (decide ((0:Int)≤b)) (cond (decide (b<(length d:Int))) (let v1:=getD d (toNat b) ((⟨#[]⟩:ByteArray),(((0:Int),((0:Int),(0:Int))),(false,(0:Int))));(Eu k v1).bind λ r2=>cond (!r2) (some (.inl false)) (cond (decide (b > 0)) (cond (decide ((0:Int)≤wrap .i64 (b-1))) (cond (decide (wrap .i64 (b-1)<(length c:Int))) (cond (!(Op.bytesLess (getD c (toNat (wrap .i64 (b-1))) ((⟨#[]⟩:ByteArray),(((0:Int),((0:Int),(0:Int))),(false,(0:Int))))).1.toList v1.1.toList)) (some (.inl false)) (Co k c d e (wrap .i64 (b+1)))) none) none) (Co k c d e (wrap .i64 (b+1))))) none) none) (some (.inr c))
def Cz (k:Nat) (a0:List y4):Option (Bool):=(Co k a0 a0 (length a0:Int) 0).bind λ r1=>Sum.elim (λ y2=>some y2) (λ z3=>some (decide ((length z3:Int)≤60))) r1
def Dg:Nat→(List y4)→Int→Int→Int→(List y1)→(List y1)→(List y4)→(List y4)→Option (Sum (Bool) (Int×(List y1)×(List y1)×(List y4)×(List y4)))
 |0,_,_,_,_,_,_,_,_=>none
 |k+1,c,d,b,e,f,g,h,i=>cond (decide (b<d)) (cond (decide ((0:Int)≤b)) (cond (decide (b<(length c:Int))) ((Eu k (getD c (toNat b) ((⟨#[]⟩:ByteArray),(((0:Int),((0:Int),(0:Int))),(false,(0:Int)))))).bind λ r2=>cond (!r2) (some (.inl false)) (Dg k c d (wrap .i64 (b+1)) e f g h i)) none) none) (some (.inr (e,f,g,h,i)))
def D0 (k:Nat) (a0:y6):Option (Bool):=(Dg k a0.2.2.2 (length a0.2.2.2:Int) 0 a0.1 a0.2.1.1 a0.2.1.2 a0.2.2.1 a0.2.2.2).bind λ r1=>Sum.elim (λ y2=>some y2) (λ z3=>(Fg z3.1 0 20).bind λ r4=>cond r4 ((Bj k (z3.2.1,z3.2.2.1)).bind λ r5=>cond r5 ((Cz k z3.2.2.2.1).bind λ r6=>cond r6 (some (decide ((length z3.2.2.2.2:Int)≤60))) (some false)) (some false)) (some false)) r1
def Cg (a0:y3):Option (Bool):=(D8 a0.1).bind λ r1=>cond r1 (cond (decide ((length a0.2.2:Int)≤200)) (cond (!a0.2.1) (some true) (some ((length a0.2.2:Int)==0))) (some false)) (some false)
def Dh (a0:y0) (a1:y0):Option (Bool):=cond (a0.1 != a1.1) (some (decide (a0.1<a1.1))) (cond (a0.2.1 != a1.2.1) (some (decide (a0.2.1<a1.2.1))) (some (decide (a0.2.2<a1.2.2))))
def G3 (a0:y3) (a1:y3):Option (Bool):=(Dh a1.1 a0.1).bind λ r1=>some r1
def G4:Nat→ByteArray→(List y1)→Int→Int→Option (Sum (Int) (Unit))
 |0,_,_,_,_=>none
 |k+1,d,c,e,b=>cond (decide (b<e)) (cond (decide ((0:Int)≤b)) (cond (decide (b<(length c:Int))) (cond ((getD c (toNat b) ((⟨#[]⟩:ByteArray),[])).1.toList==d.toList) (some (.inl b)) (G4 k d c e (wrap .i64 (b+1)))) none) none) (some (.inr ()))
def Gp (k:Nat) (a0:List y1) (a1:ByteArray):Option (Int):=(G4 k a1 a0 (length a0:Int) 0).bind λ r1=>Sum.elim (λ y2=>some y2) (λ z3=>some (-1)) r1
def E7 (k:Nat) (a0:y5) (a1:ByteArray):Option ((List Int)×Bool):=(Gp k a0.1 a1).bind λ r1=>cond (decide (r1<0)) (some (([]:List Int),false)) (cond (decide ((0:Int)≤r1)) (cond (decide (r1<(length a0.1:Int))) ((Ao (getD a0.1 (toNat r1) ((⟨#[]⟩:ByteArray),[])).2).bind λ r3=>some (r3,true)) none) none)
def Di:Nat→(List Int)→Int→Option ((List Int)×Int)
 |0,_,_=>none
 |k+1,c,b=>cond (decide (b > 127)) (cond (Nat.ble ((length c+length [wrap .u8 (wrap .i64 ((Int.tmod b 128)+128))])*1) 140737488355328) (Di k (c++[wrap .u8 (wrap .i64 ((Int.tmod b 128)+128))]) (wrap .i64 (Int.tdiv b 128))) none) (some (c,b))
def C6 (k:Nat) (a0:List Int) (a1:Int):Option (List Int):=let v1:=if (1000000000:Int)<a1 then 1000000000 else a1;(Di k a0 (if (0:Int)<v1 then v1 else 0)).bind λ r3=>cond (Nat.ble ((length r3.1+length [wrap .u8 r3.2])*1) 140737488355328) (some (r3.1++[wrap .u8 r3.2])) none
def Ep (k:Nat) (a0:List Int) (a1:ByteArray):Option (List Int):=(C6 k a0 (ByteArray.size a1:Int)).bind λ r1=>cond (Nat.ble ((length r1+ByteArray.size a1)*1) 140737488355328) (some (r1++bytesOf a1)) none
def Hv (a0:Bool):Option (Int):=cond a0 (some 1) (some 0)
def E8 (k:Nat) (a0:List Int) (a1:y0) (a2:Bool):Option (List Int):=(C6 k a0 a1.1).bind λ r1=>(C6 k r1 a1.2.1).bind λ r2=>(C6 k r2 a1.2.2).bind λ r3=>(Hv a2).bind λ r4=>(C6 k r3 r4).bind λ r5=>some r5
def Ez:Nat→Int→(List Int)→Int→Int→Int→Option (Int×(List Int)×Int×Int)
 |0,_,_,_,_,_=>none
 |k+1,b,c,d,e,f=>cond (decide (f<8)) (cond ((wrap .u32 ((ofInt (IntKind.bits .u32) b &&& ofInt (IntKind.bits .u32) 1).toNat))==1) (Ez k (wrap .u32 ((ofInt (IntKind.bits .u32) (Int.fdiv b (2 ^ (min (toNat 1) (IntKind.bits .u32)))) ^^^ ofInt (IntKind.bits .u32) 2197175160).toNat)) c d e (wrap .i64 (f+1))) (Ez k (Int.fdiv b (2 ^ (min (toNat 1) (IntKind.bits .u32)))) c d e (wrap .i64 (f+1)))) (some (b,c,d,e))
def F8:Nat→Int→(List Int)→Int→Int→Option (Int)
 |0,_,_,_,_=>none
 |k+1,d,c,e,b=>cond (decide (b<e)) (cond (decide ((0:Int)≤b)) (cond (decide (b<(length c:Int))) ((Ez k (wrap .u32 ((ofInt (IntKind.bits .u32) d ^^^ ofInt (IntKind.bits .u32) (wrap .u32 (getD c (toNat b) (0:Int)))).toNat)) c e b 0).bind λ r2=>F8 k r2.1 r2.2.1 r2.2.2.1 (wrap .i64 (r2.2.2.2+1))) none) none) (some d)
def H2 (k:Nat) (a0:List Int):Option (Int):=(F8 k 4294967295 a0 (length a0:Int) 0).bind λ r1=>some (wrap .i64 (wrap .u32 ((ofInt (IntKind.bits .u32) (if IntKind.signed .u32 then -1 else IntKind.max .u32) ^^^ ofInt (IntKind.bits .u32) r1).toNat)))
def C4 (k:Nat) (a0:y3):Option (List Int):=(Cg a0).bind λ r1=>cond (!r1) (some ([]:List Int)) ((E8 k ([]:List Int) a0.1 a0.2.1).bind λ r2=>(Ep k r2 (H0 a0.2.2)).bind λ r3=>(H2 k r3).bind λ r4=>cond (Nat.ble ((length r3+length [wrap .u8 (Int.fdiv r4 (2 ^ (min (toNat 24) (IntKind.bits .i64)))),wrap .u8 (Int.fdiv r4 (2 ^ (min (toNat 16) (IntKind.bits .i64)))),wrap .u8 (Int.fdiv r4 (2 ^ (min (toNat 8) (IntKind.bits .i64)))),wrap .u8 r4])*1) 140737488355328) (some (r3++[wrap .u8 (Int.fdiv r4 (2 ^ (min (toNat 24) (IntKind.bits .i64)))),wrap .u8 (Int.fdiv r4 (2 ^ (min (toNat 16) (IntKind.bits .i64)))),wrap .u8 (Int.fdiv r4 (2 ^ (min (toNat 8) (IntKind.bits .i64)))),wrap .u8 r4])) none)
def Cp:Nat→(List Int)→Int→Int→Int→Option (Sum (Int×Int×Bool) (Unit))
 |0,_,_,_,_=>none
 |k+1,e,c,d,b=>cond (decide (b<5)) (cond (decide (c≥0)) (cond (decide (c<(wrap .i64 ((length e:Int)-b)))) (cond (decide ((0:Int)≤wrap .i64 (c+b))) (cond (decide (wrap .i64 (c+b)<(length e:Int))) (let v1:=getD e (toNat (wrap .i64 (c+b))) (0:Int);cond (decide ((wrap .i64 (7*b))<0)) none (cond (decide ((wrap .i64 v1)≥128)) (Cp k e c (wrap .i64 (d+(wrap .i64 ((Int.tmod (wrap .i64 v1) 128)*2 ^ (min (toNat (wrap .i64 (7*b))) (IntKind.bits .i64)))))) (wrap .i64 (b+1))) (cond ((wrap .i64 v1)==0) (cond (decide (b > 0)) (some (.inl (0,0,false))) (cond (decide ((wrap .i64 (d+(wrap .i64 ((Int.tmod (wrap .i64 v1) 128)*2 ^ (min (toNat (wrap .i64 (7*b))) (IntKind.bits .i64)))))) > 1000000000)) (some (.inl (0,0,false))) (some (.inl (wrap .i64 (d+(wrap .i64 ((Int.tmod (wrap .i64 v1) 128)*2 ^ (min (toNat (wrap .i64 (7*b))) (IntKind.bits .i64))))),wrap .i64 ((wrap .i64 (c+b))+1),true))))) (cond (decide ((wrap .i64 (d+(wrap .i64 ((Int.tmod (wrap .i64 v1) 128)*2 ^ (min (toNat (wrap .i64 (7*b))) (IntKind.bits .i64)))))) > 1000000000)) (some (.inl (0,0,false))) (some (.inl (wrap .i64 (d+(wrap .i64 ((Int.tmod (wrap .i64 v1) 128)*2 ^ (min (toNat (wrap .i64 (7*b))) (IntKind.bits .i64))))),wrap .i64 ((wrap .i64 (c+b))+1),true))))))) none) none) (some (.inr ()))) (some (.inr ()))) (some (.inr ()))
def Du (k:Nat) (a0:List Int) (a1:Int):Option (Int×Int×Bool):=(Cp k a0 a1 0 0).bind λ r1=>Sum.elim (λ y2=>some (y2.1,y2.2.1,y2.2.2)) (λ z3=>some (0,0,false)) r1
def B4 (k:Nat) (a0:y2):Option (Int×y2):=(Du k a0.1 a0.2.1).bind λ r1=>cond a0.2.2 (some (0,(a0.1,a0.2.1,true))) (cond (!r1.2.2) (some (0,(a0.1,a0.2.1,true))) (some (r1.1,(a0.1,r1.2.1,a0.2.2))))
def Bl (k:Nat) (a0:y2):Option (y0×Bool×y2):=(B4 k a0).bind λ r1=>(B4 k r1.2).bind λ r2=>(B4 k r2.2).bind λ r3=>(B4 k r3.2).bind λ r4=>cond r4.2.2.2 (some ((r1.1,r2.1,r3.1),r4.1==1,(r4.2.1,r4.2.2.1,true))) (some ((r1.1,r2.1,r3.1),r4.1==1,(r4.2.1,r4.2.2.1,decide (r4.1 > 1))))
def Er (k:Nat) (a0:List Int) (a1:Int):Option (ByteArray×Int×Bool):=(Du k a0 a1).bind λ r1=>cond (!r1.2.2) (some ((⟨#[]⟩:ByteArray),0,false)) (cond (decide (r1.1 > (wrap .i64 ((length a0:Int)-r1.2.1)))) (some ((⟨#[]⟩:ByteArray),0,false)) (cond (decide ((0:Int)≤r1.2.1)) (cond (decide (r1.2.1≤wrap .i64 (r1.2.1+r1.1))) (cond (decide (wrap .i64 (r1.2.1+r1.1)≤(length a0:Int))) (some (H0 (List.drop (toNat r1.2.1) (List.take (toNat (wrap .i64 (r1.2.1+r1.1))) a0)),wrap .i64 (r1.2.1+r1.1),true)) none) none) none))
def B0 (k:Nat) (a0:y2):Option (ByteArray×y2):=(Er k a0.1 a0.2.1).bind λ r1=>cond a0.2.2 (some ((⟨#[]⟩:ByteArray),(a0.1,a0.2.1,true))) (cond (!r1.2.2) (some ((⟨#[]⟩:ByteArray),(a0.1,a0.2.1,true))) (some (r1.1,(a0.1,r1.2.1,a0.2.2))))
def Es (k:Nat) (a0:List Int):Option (y3×Bool):=(Bl k (a0,0,false)).bind λ r1=>(B0 k r1.2.2).bind λ r2=>cond (Nat.ble (ByteArray.size r2.1) 140737488355328) ((C4 k (r1.1,r1.2.1,bytesOf r2.1)).bind λ r3=>cond r2.2.2.2 (some (((0,0,0),false,([]:List Int)),false)) (cond ((length r3:Int)==0) (some (((0,0,0),false,([]:List Int)),false)) (cond (!((H0 r3).toList==(H0 a0).toList)) (some (((0,0,0),false,([]:List Int)),false)) (some ((r1.1,r1.2.1,bytesOf r2.1),true))))) none
def F9:Nat→(List y1)→Int→ByteArray→(List Int)→Option ((List y1)×Int×y1)
 |0,_,_,_,_=>none
 |k+1,c,b,d,e=>cond (decide (b<(length c:Int))) (cond (decide ((0:Int)≤b)) (cond (decide (b<(length c:Int))) (cond (Op.bytesLess (getD c (toNat b) ((⟨#[]⟩:ByteArray),[])).1.toList d.toList) (F9 k c (wrap .i64 (b+1)) d e) (some (c,b,d,e))) none) none) (some (c,b,d,e))
def Gc (k:Nat) (a0:List y1) (a1:y1):Option (List y1):=(F9 k a0 0 a1.1 a1.2).bind λ r1=>cond (decide (0≤r1.2.1)&&decide (r1.2.1≤(length r1.1:Int))) (cond (decide (r1.2.1=(length (List.take (toNat r1.2.1) r1.1):Int))) (cond (Nat.ble ((length ([]:List y1)+length (List.take (toNat r1.2.1) r1.1))*40) 140737488355328) (let v2:List y1:=([]:List y1)++(List.take (toNat r1.2.1) r1.1);cond (Nat.ble ((length v2+length [r1.2.2])*40) 140737488355328) (cond (decide (0≤r1.2.1)&&decide (r1.2.1≤(length r1.1:Int))&&Nat.ble (toNat r1.2.1) (toNat r1.2.1)) (cond (Nat.ble ((length (v2++[r1.2.2])+length (List.drop (toNat r1.2.1) r1.1))*40) 140737488355328) (some ((v2++[r1.2.2])++(List.drop (toNat r1.2.1) r1.1))) none) none) none) none) none) none
def Fk (k:Nat) (a0:List y1) (a1:ByteArray):Option (List y1):=(Gp k a0 a1).bind λ r1=>cond (decide (r1<0)) (some a0) (cond (decide (0≤r1)&&decide (r1≤(length a0:Int))) (cond (decide (r1=(length (List.take (toNat r1) a0):Int))) (cond (Nat.ble ((length ([]:List y1)+length (List.take (toNat r1) a0))*40) 140737488355328) (let v2:List y1:=([]:List y1)++(List.take (toNat r1) a0);cond (decide (0≤wrap .i64 (r1+1))&&decide (wrap .i64 (r1+1)≤(length a0:Int))&&Nat.ble (toNat r1) (toNat (wrap .i64 (r1+1)))) (cond (Nat.ble ((length v2+length (List.drop (toNat (wrap .i64 (r1+1))) a0))*40) 140737488355328) (some (v2++(List.drop (toNat (wrap .i64 (r1+1))) a0))) none) none) none) none) none)
def Bq (k:Nat) (a0:y5) (a1:ByteArray) (a2:List Int):Option (y5×Bool):=(A6 k a0).bind λ r1=>(Bj k a0).bind λ r2=>cond (!r2) (some (r1,false)) ((Aj k a1).bind λ r3=>cond (!r3) (some (r1,false)) (cond (decide ((length a2:Int) > 400)) (some (r1,false)) ((Fk k r1.1 a1).bind λ r4=>(Ao a2).bind λ r5=>(Gc k r4 (a1,r5)).bind λ r6=>cond (decide ((length r6:Int) > 60)) ((A6 k a0).bind λ r7=>some (r7,false)) (some ((r6,r1.2),true)))))
def Bd (k:Nat) (a0:y5) (a1:ByteArray):Option (y5×Bool):=(A6 k a0).bind λ r1=>(Bj k a0).bind λ r2=>cond (!r2) (some (r1,false)) ((Aj k a1).bind λ r3=>cond (!r3) (some (r1,false)) ((Fk k r1.2 a1).bind λ r4=>(Gp k a0.1 a1).bind λ r5=>cond (decide (r5≥0)) (cond (decide ((0:Int)≤r5)) (cond (decide (r5<(length a0.1:Int))) ((Ao (getD a0.1 (toNat r5) ((⟨#[]⟩:ByteArray),[])).2).bind λ r7=>(Gc k r4 (a1,r7)).bind λ r8=>cond (decide ((length r8:Int) > 60)) ((A6 k a0).bind λ r9=>some (r9,false)) (some ((r1.1,r8),true))) none) none) (cond (decide ((length r4:Int) > 60)) ((A6 k a0).bind λ r10=>some (r10,false)) (some ((r1.1,r4),true)))))
def Gw (k:Nat) (a0:y5) (a1:ByteArray) (a2:y3) (a3:Bool):Option (y5×Int):=(Bj k a0).bind λ r1=>cond (!r1) ((A6 k a0).bind λ r2=>some (r2,2)) ((Aj k a1).bind λ r3=>cond (!r3) ((A6 k a0).bind λ r4=>some (r4,2)) ((Cg a2).bind λ r5=>cond (!r5) ((A6 k a0).bind λ r6=>some (r6,2)) ((A6 k a0).bind λ r7=>(E7 k a0 a1).bind λ r8=>(Es k r8.1).bind λ r9=>cond r9.2 ((G3 a2 r9.1).bind λ r10=>cond (!r10) (cond a3 ((Bd k r7 a1).bind λ r11=>cond (!r11.2) ((A6 k a0).bind λ r12=>some (r12,3)) (some (r11.1,1))) (some (r7,1))) ((C4 k a2).bind λ r13=>(Bq k a0 a1 r13).bind λ r14=>cond (!r14.2) ((A6 k a0).bind λ r15=>some (r15,3)) (cond a3 ((Bd k r14.1 a1).bind λ r16=>cond (!r16.2) ((A6 k a0).bind λ r17=>some (r17,3)) (some (r16.1,0))) (some (r14.1,0))))) ((C4 k a2).bind λ r18=>(Bq k a0 a1 r18).bind λ r19=>cond (!r19.2) ((A6 k a0).bind λ r20=>some (r20,3)) (cond a3 ((Bd k r19.1 a1).bind λ r21=>cond (!r21.2) ((A6 k a0).bind λ r22=>some (r22,3)) (some (r21.1,0))) (some (r19.1,0)))))))
def Gn (a0:ByteArray) (a1:y3):Option y4:=some (a0,a1.1,a1.2.1,(length a1.2.2:Int))
def Dx (k:Nat) (a0:y6) (a1:ByteArray) (a2:y3) (a3:Bool):Option (y6×Int):=(E6 k a0).bind λ r1=>(D0 k a0).bind λ r2=>cond (!r2) (some (r1,2)) ((Aj k a1).bind λ r3=>cond (!r3) (some (r1,2)) ((Cg a2).bind λ r4=>cond (!r4) (some (r1,2)) (cond (decide ((length a0.2.2.2:Int)≥60)) (some (r1,3)) ((Gw k a0.2.1 a1 a2 a3).bind λ r5=>cond (r5.2==0) (cond a3 ((Gn a1 a2).bind λ r6=>cond (Nat.ble ((length r1.2.2.2+length [r6])*56) 140737488355328) (some ((r1.1,r5.1,r1.2.2.1,r1.2.2.2++[r6]),r5.2)) none) (some ((r1.1,r5.1,r1.2.2),r5.2))) (some ((r1.1,r5.1,r1.2.2),r5.2))))))
def Ch:Nat→(List Int)→(List Int)→Int→Option (Sum (Bool) (Unit))
 |0,_,_,_=>none
 |k+1,c,d,b=>cond (decide (b<(length c:Int))) (cond (decide ((0:Int)≤b)) (cond (decide (b<(length c:Int))) (cond (decide ((0:Int)≤b)) (cond (decide (b<(length d:Int))) (cond ((getD c (toNat b) (0:Int)) != (getD d (toNat b) (0:Int))) (some (.inl false)) (Ch k c d (wrap .i64 (b+1)))) none) none) none) none) (some (.inr ()))
def Ci (k:Nat) (a0:List Int) (a1:List Int):Option (Bool):=cond ((length a0:Int) != (length a1:Int)) (some false) ((Ch k a0 a1 0).bind λ r1=>Sum.elim (λ y2=>some y2) (λ z3=>some true) r1)
def F5 (k:Nat) (a0:y1) (a1:y1):Option (Bool):=cond (!(a0.1.toList==a1.1.toList)) (some false) ((Ci k a0.2 a1.2).bind λ r1=>cond (!r1) (some false) (some true))
def Bv:Nat→(List y1)→(List y1)→Int→Option (Sum (Bool) (Unit))
 |0,_,_,_=>none
 |k+1,c,d,b=>cond (decide (b<(length c:Int))) (cond (decide ((0:Int)≤b)) (cond (decide (b<(length c:Int))) (cond (decide ((0:Int)≤b)) (cond (decide (b<(length d:Int))) ((F5 k (getD c (toNat b) ((⟨#[]⟩:ByteArray),[])) (getD d (toNat b) ((⟨#[]⟩:ByteArray),[]))).bind λ r3=>cond (!r3) (some (.inl false)) (Bv k c d (wrap .i64 (b+1)))) none) none) none) none) (some (.inr ()))
def B5 (k:Nat) (a0:List y1) (a1:List y1):Option (Bool):=cond ((length a0:Int) != (length a1:Int)) (some false) ((Bv k a0 a1 0).bind λ r1=>Sum.elim (λ y2=>some y2) (λ z3=>some true) r1)
def Fv (k:Nat) (a0:y5) (a1:y5):Option (Bool):=(B5 k a0.1 a1.1).bind λ r1=>cond (!r1) (some false) ((B5 k a0.2 a1.2).bind λ r2=>cond (!r2) (some false) (some true))
def D9 (a0:y0) (a1:y0):Option (Bool):=cond (a0.1 != a1.1) (some false) (cond (a0.2.1 != a1.2.1) (some false) (cond (a0.2.2 != a1.2.2) (some false) (some true)))
def G5 (a0:y4) (a1:y4):Option (Bool):=cond (!(a0.1.toList==a1.1.toList)) (some false) ((D9 a0.2.1 a1.2.1).bind λ r1=>cond (!r1) (some false) (cond (!(a0.2.2.1==a1.2.2.1)) (some false) (cond (a0.2.2.2 != a1.2.2.2) (some false) (some true))))
def Dj:Nat→(List y4)→(List y4)→Int→Option (Sum (Bool) (Unit))
 |0,_,_,_=>none
 |k+1,c,d,b=>cond (decide (b<(length c:Int))) (cond (decide ((0:Int)≤b)) (cond (decide (b<(length c:Int))) (cond (decide ((0:Int)≤b)) (cond (decide (b<(length d:Int))) ((G5 (getD c (toNat b) ((⟨#[]⟩:ByteArray),(((0:Int),((0:Int),(0:Int))),(false,(0:Int))))) (getD d (toNat b) ((⟨#[]⟩:ByteArray),(((0:Int),((0:Int),(0:Int))),(false,(0:Int)))))).bind λ r3=>cond (!r3) (some (.inl false)) (Dj k c d (wrap .i64 (b+1)))) none) none) none) none) (some (.inr ()))
def Cj (k:Nat) (a0:List y4) (a1:List y4):Option (Bool):=cond ((length a0:Int) != (length a1:Int)) (some false) ((Dj k a0 a1 0).bind λ r1=>Sum.elim (λ y2=>some y2) (λ z3=>some true) r1)
def Ee (k:Nat) (a0:y6) (a1:y6):Option (Bool):=cond (a0.1 != a1.1) (some false) ((Fv k a0.2.1 a1.2.1).bind λ r1=>cond (!r1) (some false) ((Cj k a0.2.2.1 a1.2.2.1).bind λ r2=>cond (!r2) (some false) ((Cj k a0.2.2.2 a1.2.2.2).bind λ r3=>cond (!r3) (some false) (some true))))
def Fa (k:Nat) (a0:y3) (a1:y3):Option (Bool):=(D9 a0.1 a1.1).bind λ r1=>cond (!r1) (some false) (cond (!(a0.2.1==a1.2.1)) (some false) ((Ci k a0.2.2 a1.2.2).bind λ r2=>cond (!r2) (some false) (some true)))
def Bm:Nat→Int→Int→(List Int)→Option (Int×(List Int))
 |0,_,_,_=>none
 |k+1,d,b,c=>cond (decide (b<(length c:Int))) (cond (decide ((0:Int)≤b)) (cond (decide (b<(length c:Int))) (Bm k (wrap .i64 (d+1)) (wrap .i64 (b+1)) (List.set c (toNat b) (wrap .u8 d))) none) none) (some (d,c))
def Ba (k:Nat) (a0:List Int) (a1:Int):Option (Int×(List Int)):=(Bm k a1 0 a0).bind λ r1=>some (r1.1,r1.2)
def Bw:Nat→Int→ByteArray→Option (ByteArray)
 |0,_,_=>none
 |k+1,b,c=>cond (decide (b > 0)) (cond (Nat.ble (ByteArray.size (H0 [wrap .u8 (wrap .i64 (48+(Int.tmod b 10)))])+ByteArray.size c) 9223372036854775807) (Bw k (wrap .i64 (Int.tdiv b 10)) ((H0 [wrap .u8 (wrap .i64 (48+(Int.tmod b 10)))])++c)) none) (some c)
def Ap (k:Nat) (a0:Int):Option (ByteArray):=cond (decide (a0≤0)) (some (⟨#[109,48]⟩:ByteArray)) ((Bw k a0 (⟨#[]⟩:ByteArray)).bind λ r1=>cond (Nat.ble (ByteArray.size (⟨#[109]⟩:ByteArray)+ByteArray.size r1) 9223372036854775807) (some ((⟨#[109]⟩:ByteArray)++r1)) none)
def B6:Nat→Int→Int→(List y1)→Option (Int×(List y1))
 |0,_,_,_=>none
 |k+1,d,b,c=>cond (decide (b<(length c:Int))) ((Ap k d).bind λ r1=>cond (decide ((0:Int)≤b)) (cond (decide (b<(length c:Int))) (let v3:=List.set c (toNat b) (r1,(getD c (toNat b) ((⟨#[]⟩:ByteArray),[])).2);cond (decide ((0:Int)≤b)) (cond (decide (b<(length v3:Int))) (let v4:=getD v3 (toNat b) ((⟨#[]⟩:ByteArray),[]);(Ba k v4.2 (wrap .i64 (d+1))).bind λ r5=>B6 k r5.1 (wrap .i64 (b+1)) (List.set v3 (toNat b) (v4.1,r5.2))) none) none) none) none) (some (d,c))
def Aq (k:Nat) (a0:List y1) (a1:Int):Option (Int×(List y1)):=(B6 k a1 0 a0).bind λ r1=>some (r1.1,r1.2)
def Dn (k:Nat) (a0:y5) (a1:Int):Option (Int×y5):=(Aq k a0.1 a1).bind λ r1=>(Aq k a0.2 r1.1).bind λ r2=>some (r2.1,(r1.2,r2.2))
def Bx:Nat→Int→Int→(List y4)→Option (Int×(List y4))
 |0,_,_,_=>none
 |k+1,c,b,d=>cond (decide (b<(length d:Int))) ((Ap k c).bind λ r1=>cond (decide ((0:Int)≤b)) (cond (decide (b<(length d:Int))) (let v3:=List.set d (toNat b) (r1,(getD d (toNat b) ((⟨#[]⟩:ByteArray),(((0:Int),((0:Int),(0:Int))),(false,(0:Int))))).2);cond (decide ((0:Int)≤b)) (cond (decide (b<(length v3:Int))) (let v4:=getD v3 (toNat b) ((⟨#[]⟩:ByteArray),(((0:Int),((0:Int),(0:Int))),(false,(0:Int))));let v5:=List.set v3 (toNat b) (v4.1,(wrap .i64 (c+1),v4.2.1.2),v4.2.2);cond (decide ((0:Int)≤b)) (cond (decide (b<(length v5:Int))) (let v6:=getD v5 (toNat b) ((⟨#[]⟩:ByteArray),(((0:Int),((0:Int),(0:Int))),(false,(0:Int))));let v7:=List.set v5 (toNat b) (v6.1,(v6.2.1.1,wrap .i64 ((wrap .i64 (c+1))+1),v6.2.1.2.2),v6.2.2);cond (decide ((0:Int)≤b)) (cond (decide (b<(length v7:Int))) (let v8:=getD v7 (toNat b) ((⟨#[]⟩:ByteArray),(((0:Int),((0:Int),(0:Int))),(false,(0:Int))));let v9:=List.set v7 (toNat b) (v8.1,(v8.2.1.1,v8.2.1.2.1,wrap .i64 ((wrap .i64 ((wrap .i64 (c+1))+1))+1)),v8.2.2);cond (decide ((0:Int)≤b)) (cond (decide (b<(length v9:Int))) (let v10:=getD v9 (toNat b) ((⟨#[]⟩:ByteArray),(((0:Int),((0:Int),(0:Int))),(false,(0:Int))));let v11:=List.set v9 (toNat b) (v10.1,v10.2.1,(Int.tmod (wrap .i64 ((wrap .i64 ((wrap .i64 ((wrap .i64 (c+1))+1))+1))+1)) 3)==0,v10.2.2.2);cond (decide ((0:Int)≤b)) (cond (decide (b<(length v11:Int))) (let v12:=getD v11 (toNat b) ((⟨#[]⟩:ByteArray),(((0:Int),((0:Int),(0:Int))),(false,(0:Int))));Bx k (wrap .i64 ((wrap .i64 ((wrap .i64 ((wrap .i64 ((wrap .i64 ((wrap .i64 (c+1))+1))+1))+1))+1))+1)) (wrap .i64 (b+1)) (List.set v11 (toNat b) (v12.1,v12.2.1,v12.2.2.1,wrap .i64 ((wrap .i64 ((wrap .i64 ((wrap .i64 ((wrap .i64 (c+1))+1))+1))+1))+1)))) none) none) none) none) none) none) none) none) none) none) none) none) (some (c,d))
def Ax (k:Nat) (a0:List y4) (a1:Int):Option (Int×(List y4)):=(Bx k a1 0 a0).bind λ r1=>some (r1.1,r1.2)
def Dp (k:Nat) (a0:y6) (a1:Int):Option (Int×y6):=(Dn k a0.2.1 a1).bind λ r1=>(Ax k a0.2.2.1 r1.1).bind λ r2=>(Ax k a0.2.2.2 r2.1).bind λ r3=>some (r3.1,(a0.1,r1.2,r2.2,r3.2))
def Dq (k:Nat) (a0:y3) (a1:Int):Option (Int×y3):=(Ba k a0.2.2 a1).bind λ r1=>some (r1.1,(a0.1,a0.2.1,r1.2))
def Bn:Nat→(List Int)→Int→Int→Option (Sum (Int) (Int))
 |0,_,_,_=>none
 |k+1,c,d,b=>cond (decide (b<(length c:Int))) (cond (decide ((0:Int)≤b)) (cond (decide (b<(length c:Int))) (cond ((getD c (toNat b) (0:Int)) != (wrap .u8 d)) (some (.inl (-1))) (Bn k c (wrap .i64 (d+1)) (wrap .i64 (b+1)))) none) none) (some (.inr d))
def Cq (k:Nat) (a0:List Int) (a1:Int):Option (Int):=(Bn k a0 a1 0).bind λ r1=>Sum.elim (λ y2=>some y2) (λ z3=>some z3) r1
def B7:Nat→(List y1)→Int→Int→Option (Sum (Int) (Int))
 |0,_,_,_=>none
 |k+1,c,d,b=>cond (decide (b<(length c:Int))) (cond (decide ((0:Int)≤b)) (cond (decide (b<(length c:Int))) ((Ap k d).bind λ r2=>cond (!((getD c (toNat b) ((⟨#[]⟩:ByteArray),[])).1.toList==r2.toList)) (some (.inl (-1))) (cond (decide ((0:Int)≤b)) (cond (decide (b<(length c:Int))) ((Cq k (getD c (toNat b) ((⟨#[]⟩:ByteArray),[])).2 (wrap .i64 (d+1))).bind λ r4=>cond (decide (r4<0)) (some (.inl (-1))) (B7 k c r4 (wrap .i64 (b+1)))) none) none)) none) none) (some (.inr d))
def Ar (k:Nat) (a0:List y1) (a1:Int):Option (Int):=(B7 k a0 a1 0).bind λ r1=>Sum.elim (λ y2=>some y2) (λ z3=>some z3) r1
def Dr (k:Nat) (a0:y5) (a1:Int):Option (Int):=(Ar k a0.1 a1).bind λ r1=>cond (decide (r1<0)) (some (-1)) ((Ar k a0.2 r1).bind λ r2=>cond (decide (r2<0)) (some (-1)) (some r2))
def Bz:Nat→(List y4)→Int→Int→Option (Sum (Int) (Int))
 |0,_,_,_=>none
 |k+1,c,d,b=>cond (decide (b<(length c:Int))) (cond (decide ((0:Int)≤b)) (cond (decide (b<(length c:Int))) ((Ap k d).bind λ r2=>cond (!((getD c (toNat b) ((⟨#[]⟩:ByteArray),(((0:Int),((0:Int),(0:Int))),(false,(0:Int))))).1.toList==r2.toList)) (some (.inl (-1))) (cond (decide ((0:Int)≤b)) (cond (decide (b<(length c:Int))) (cond ((getD c (toNat b) ((⟨#[]⟩:ByteArray),(((0:Int),((0:Int),(0:Int))),(false,(0:Int))))).2.1.1 != (wrap .i64 (d+1))) (some (.inl (-1))) (cond (decide ((0:Int)≤b)) (cond (decide (b<(length c:Int))) (cond ((getD c (toNat b) ((⟨#[]⟩:ByteArray),(((0:Int),((0:Int),(0:Int))),(false,(0:Int))))).2.1.2.1 != (wrap .i64 ((wrap .i64 (d+1))+1))) (some (.inl (-1))) (cond (decide ((0:Int)≤b)) (cond (decide (b<(length c:Int))) (cond ((getD c (toNat b) ((⟨#[]⟩:ByteArray),(((0:Int),((0:Int),(0:Int))),(false,(0:Int))))).2.1.2.2 != (wrap .i64 ((wrap .i64 ((wrap .i64 (d+1))+1))+1))) (some (.inl (-1))) (cond (decide ((0:Int)≤b)) (cond (decide (b<(length c:Int))) (cond (!((getD c (toNat b) ((⟨#[]⟩:ByteArray),(((0:Int),((0:Int),(0:Int))),(false,(0:Int))))).2.2.1==((Int.tmod (wrap .i64 ((wrap .i64 ((wrap .i64 ((wrap .i64 (d+1))+1))+1))+1)) 3)==0))) (some (.inl (-1))) (cond (decide ((0:Int)≤b)) (cond (decide (b<(length c:Int))) (cond ((getD c (toNat b) ((⟨#[]⟩:ByteArray),(((0:Int),((0:Int),(0:Int))),(false,(0:Int))))).2.2.2 != (wrap .i64 ((wrap .i64 ((wrap .i64 ((wrap .i64 ((wrap .i64 (d+1))+1))+1))+1))+1))) (some (.inl (-1))) (Bz k c (wrap .i64 ((wrap .i64 ((wrap .i64 ((wrap .i64 ((wrap .i64 ((wrap .i64 (d+1))+1))+1))+1))+1))+1)) (wrap .i64 (b+1)))) none) none)) none) none)) none) none)) none) none)) none) none)) none) none) (some (.inr d))
def Ay (k:Nat) (a0:List y4) (a1:Int):Option (Int):=(Bz k a0 a1 0).bind λ r1=>Sum.elim (λ y2=>some y2) (λ z3=>some z3) r1
def Ds (k:Nat) (a0:y6) (a1:Int):Option (Int):=(Dr k a0.2.1 a1).bind λ r1=>cond (decide (r1<0)) (some (-1)) ((Ay k a0.2.2.1 r1).bind λ r2=>cond (decide (r2<0)) (some (-1)) ((Ay k a0.2.2.2 r2).bind λ r3=>cond (decide (r3<0)) (some (-1)) (some r3)))
def Bb (k:Nat) (a0:y6) (a1:ByteArray) (a2:y3) (a3:Bool):Option (Bool):=cond (decide ((ByteArray.size a1:Int) > 1048576)) (some true) ((Fq k a0 1048576).bind λ r1=>cond (decide (r1<0)) (some true) ((Fs a2 r1).bind λ r2=>cond (decide (r2<0)) (some true) ((Ed k a0).bind λ r3=>(E5 k a2).bind λ r4=>(Eb k r3 a1 r4 a3).bind λ r5=>(Ed k a0).bind λ r6=>(E5 k a2).bind λ r7=>(Dx k r6 a1 r7 a3).bind λ r8=>(Ee k r8.1 r5.1).bind λ r9=>cond (!r9) (some false) (cond (r8.2 != r5.2) (some false) ((Ed k a0).bind λ r10=>(Ee k r6 r10).bind λ r11=>cond (!r11) (some false) ((E5 k a2).bind λ r12=>(Fa k r7 r12).bind λ r13=>cond (!r13) (some false) ((Dp k r6 1).bind λ r14=>(Dq k r7 r14.1).bind λ r15=>cond (decide (r15.1<0)) (some false) ((Ee k r8.1 r5.1).bind λ r16=>cond (!r16) (some false) (cond (r8.2 != r5.2) (some false) ((Dp k r8.1 1).bind λ r17=>(Ds k (r8.1.1,r17.2.2) 1).bind λ r18=>cond (decide (r18<0)) (some false) (cond (r18 != r17.1) (some false) ((Ed k a0).bind λ r19=>(E5 k a2).bind λ r20=>(Dx k r19 a1 r20 a3).bind λ r21=>(Ee k r21.1 r5.1).bind λ r22=>cond (!r22) (some false) (cond (r21.2 != r5.2) (some false) ((Ds k (r8.1.1,r17.2.2) 1).bind λ r23=>cond (decide (r23<0)) (some false) (cond (r23 != r17.1) (some false) (some true))))))))))))))))

def Ck (w:World) (k o:Nat) (cs:List Value):Prop:=∀ j u,cs[j]? = some u→w.cell? ⟨k,o+j,none⟩=some u
def Rows {α:Type} (R:α→List Value→Prop):List α→List Value→Prop
 |[],cs=>cs=[]
 |x::xs,cs=>∃ c d,cs=c++d∧R x c∧Rows R xs d
def Pd (P:Program) (e:TypeId) (n:Nat):Prop:=(P.info? e).map (λ i=>i.size)=some n
def Je {α:Type} (G:Nat→Prop) (w:World) (R:α→List Value→Prop) (xs:List α) (v:Value):Prop:=
 ∃ a cap cs,v = .slice a xs.length cap∧xs.length≤cap∧Rows R xs cs∧(xs≠[]→∃ k o,a=some ⟨k,o,none⟩∧G k∧Ck w k o cs)
def Ty.rep (P:Program) (G:Nat→Prop) (w:World):(t:Ty)→t.den→List Value→Prop
 |.i k,n,vs=>vs=[.int k n]
 |.b,x,vs=>vs=[.bool x]
 |.s,x,vs=>vs=[.string x]
 |.sl e r,xs,vs=>∃ v,vs=[v]∧Pd P e r.sz∧Je G w (λ x c=>r.rep P G w x c) xs v
 |.ow e r,xs,vs=>∃ v,vs=[v]∧Pd P e r.sz∧Je G w (λ x c=>r.rep P G w x c) xs v
 |.pr x y,p,vs=>∃ c d,vs=c++d∧x.rep P G w p.1 c∧y.rep P G w p.2 d
section
variable {P:Program} {G G':Nat→Prop} {w w':World} {α:Type}
def Tv {k:Nat} (h:w'.heap[k]? = w.heap[k]?) (o:Nat):w'.cell? ⟨k,o,none⟩=w.cell? ⟨k,o,none⟩:=by
 simp[World.cell?,h]
def Ck.mono {k o:Nat} {cs:List Value} (h:Ck w k o cs) (hs:w'.heap[k]? = w.heap[k]?):Ck w' k o cs:=
 λ j u hu=>(Tv hs _).trans (h j u hu)
def Rows.mono {R R':α→List Value→Prop} (hR:∀ x c,R x c→R' x c):∀ {xs:List α} {cs:List Value},Rows R xs cs→Rows R' xs cs
 |[],_,h=>h
 |_::_,_,⟨c,d,e,h1,h2⟩=>⟨c,d,e,hR _ _ h1,h2.mono hR⟩
def Je.mono {R R':α→List Value→Prop} {xs:List α} {v:Value} (h:Je G w R xs v) (hR:∀ x c,R x c→R' x c) (hG:∀ k,G k→G' k)
  (hw:∀ k,G k→w'.heap[k]? = w.heap[k]?):Je G' w' R' xs v:=by
 obtain⟨a,cap,cs,e,hc,hr,hx⟩:=h;refine⟨a,cap,cs,e,hc,hr.mono hR,λ hn=>?_⟩;obtain⟨k,o,ea,hk,hcs⟩:=hx hn;exact⟨k,o,ea,hG k hk,hcs.mono (hw k hk)⟩
def Ty.rep_mono (hG:∀ k,G k→G' k) (hw:∀ k,G k→w'.heap[k]? = w.heap[k]?):∀ (t:Ty) (x:t.den) (vs:List Value),t.rep P G w x vs→t.rep P G' w' x vs
 |.i _,_,_,h=>h
 |.b,_,_,h=>h
 |.s,_,_,h=>h
 |.sl _ r,_,_,⟨v,e,hs,h⟩=>⟨v,e,hs,h.mono (λ x c=>Ty.rep_mono hG hw r x c) hG hw⟩
 |.ow _ r,_,_,⟨v,e,hs,h⟩=>⟨v,e,hs,h.mono (λ x c=>Ty.rep_mono hG hw r x c) hG hw⟩
 |.pr x y,p,_,⟨c,d,e,h1,h2⟩=>⟨c,d,e,Ty.rep_mono hG hw x p.1 c h1,Ty.rep_mono hG hw y p.2 d h2⟩
def Ty.rep_len:∀ (t:Ty) (x:t.den) (vs:List Value),t.rep P G w x vs→vs.length=t.sz
 |.i _,_,_,h=>by subst h;rfl
 |.b,_,_,h=>by subst h;rfl
 |.s,_,_,h=>by subst h;rfl
 |.sl _ _,_,_,⟨_,e,_⟩=>by subst e;rfl
 |.ow _ _,_,_,⟨_,e,_⟩=>by subst e;rfl
 |.pr x y,p,_,⟨c,d,e,h1,h2⟩=>by
  subst e;rw[Vh,Ty.rep_len x p.1 c h1,Ty.rep_len y p.2 d h2];rfl
def Rows.len {R:α→List Value→Prop} {n:Nat} (hn:∀ x c,R x c→c.length=n):∀ {xs:List α} {cs:List Value},Rows R xs cs→cs.length=xs.length*n
 |[],_,h=>by simp only[Rows]at h;subst h;simp
 |_::_,_,⟨c,d,e,h1,h2⟩=>by
  subst e;rw[Vh,hn _ _ h1,h2.len hn,Vg,Yh,Ym,Zd]
def Rows.get {R:α→List Value→Prop} {n:Nat} (hn:∀ x c,R x c→c.length=n):∀ {xs:List α} {cs:List Value} (_:Rows R xs cs) (i:Nat) (x:α),xs[i]? = some x→R x ((cs.drop (i*n)).take n)
 |[],_,_,i,x,hx=>by simp at hx
 |y::ys,_,⟨c,d,e,h1,h2⟩,0,x,hx=>by
  simp at hx;subst hx e;have:=hn _ _ h1;simp only[Zh,We];rw[← this,Rpa];exact h1
 |y::ys,_,⟨c,d,e,h1,h2⟩,i+1,x,hx=>by
  subst e;have hl:=hn _ _ h1;rw[show (i+1)*n=c.length+i*n by rw[hl,Yh,Ym,Zd],← Wp,Yw];exact h2.get hn i x (by simpa using hx)
def Rows.append {R:α→List Value→Prop}:∀ {xs ys:List α} {cs ds:List Value},Rows R xs cs→Rows R ys ds→Rows R (xs++ys) (cs++ds)
 |[],_,_,_,h1,h2=>by simp only[Rows]at h1;subst h1;exact h2
 |_::_,_,_,_,⟨c,d,e,h,h'⟩,h2=>by subst e;exact⟨c,_,by rw[Vj],h,h'.append h2⟩
def Rows.set {R:α→List Value→Prop} {n:Nat} (hn:∀ x c,R x c→c.length=n):∀ {xs:List α} {cs:List Value} (_:Rows R xs cs) (i:Nat) (x:α) (c:List Value),i<xs.length→R x c→
  Rows R (xs.set i x) (cs.take (i*n)++c++cs.drop (i*n+n))
 |[],_,_,i,x,c,hi,_=>by simp at hi
 |y::ys,_,⟨c0,d,e,h1,h2⟩,0,x,c,_,hc=>by
  subst e;have hl:=hn _ _ h1;refine⟨c,d,?_,hc,h2⟩;simp only[Zh,Rka,Wc,Wb,← hl,Yw]
 |y::ys,_,⟨c0,d,e,h1,h2⟩,i+1,x,c,hi,hc=>by
  subst e;have hl:=hn _ _ h1;refine⟨c0,_,?_,h1,h2.set hn i x c (by simpa using hi) hc⟩
  have e1:(i+1)*n=c0.length+i*n:=by rw[hl,Yh,Ym,Zd]
  rw[e1,Ze,Ys,← Wp,Yw];simp[Vj]
def Rows.replicate {R:α→List Value→Prop} {x:α} {c:List Value} (h:R x c):∀ n,Rows R (List.replicate n x) (List.replicate n c).flatten
 |0=>by simp[Rows]
 |n+1=>⟨c,_,by simp[Rra],h,Rows.replicate h n⟩
def Rows.take {R:α→List Value→Prop} {n:Nat} (hn:∀ x c,R x c→c.length=n):∀ {xs:List α} {cs:List Value} (_:Rows R xs cs) (k:Nat),Rows R (xs.take k) (cs.take (k*n))
 |[],_,h,k=>by simp only[Rows]at h;subst h;simp[Rows]
 |_::_,_,⟨c,d,e,h1,h2⟩,0=>by simp[Rows]
 |_::_,_,⟨c,d,e,h1,h2⟩,k+1=>by
  subst e;have hl:=hn _ _ h1;refine⟨c,_,?_,h1,h2.take hn k⟩;rw[show (k+1)*n=c.length+k*n by rw[hl,Yh,Ym,Zd],Ze]
def Rows.drop {R:α→List Value→Prop} {n:Nat} (hn:∀ x c,R x c→c.length=n):∀ {xs:List α} {cs:List Value} (_:Rows R xs cs) (k:Nat),Rows R (xs.drop k) (cs.drop (k*n))
 |[],_,h,k=>by simp only[Rows]at h;subst h;simp[Rows]
 |_::_,_,h@⟨c,d,e,h1,h2⟩,0=>by simpa using h
 |_::_,_,⟨c,d,e,h1,h2⟩,k+1=>by
  subst e;have hl:=hn _ _ h1
  have e1:List.drop ((k+1)*n) (c++d)=List.drop (k*n) d:=by
   rw[show (k+1)*n=c.length+k*n by rw[hl,Yh,Ym,Zd],← Wp,Yw]
  rw[e1];exact h2.drop hn k
def Ha (P:Program) (G:Nat→Prop) (w:World):Lf→Value→Prop
 |.sc v,u=>u=v∧X5 v=true
 |.fz e r xs,u=>(Ty.sl e r).rep P G w xs [u]
 |_,_=>False
inductive Hw {β γ:Type} (R:β→γ→Prop):List β→List γ→Prop
 |nil:Hw R [] []
 |cons {x:β} {y:γ} {xs:List β} {ys:List γ}:R x y→Hw R xs ys→Hw R (x::xs) (y::ys)
def Hw.append {β γ:Type} {R:β→γ→Prop} {xs xs':List β} {ys ys':List γ} (h:Hw R xs ys) (h':Hw R xs' ys'):Hw R (xs++xs') (ys++ys'):=by
 induction h with
 |nil=>exact h'
 |cons a _ ih=>exact .cons a ih
def Hw.len {β γ:Type} {R:β→γ→Prop} {xs:List β} {ys:List γ} (h:Hw R xs ys):ys.length=xs.length:=by
 induction h with
 |nil=>rfl
 |cons _ _ ih=>simp[ih]
def Hw.imp {β γ:Type} {R R':β→γ→Prop} {xs:List β} {ys:List γ} (h:Hw R xs ys) (hi:∀ x y,R x y→R' x y):Hw R' xs ys:=by
 induction h with
 |nil=>exact .nil
 |cons a _ ih=>exact .cons (hi _ _ a) ih
def Hw.drop {β γ:Type} {R:β→γ→Prop} {xs:List β} {ys:List γ} (h:Hw R xs ys):∀ n,Hw R (xs.drop n) (ys.drop n):=by
 induction h with
 |nil=>intro n;cases n<;>exact .nil
 |cons a h ih=>intro n;cases n with
  |zero=>exact .cons a h
  |succ n=>exact ih n
def Hw.take {β γ:Type} {R:β→γ→Prop} {xs:List β} {ys:List γ} (h:Hw R xs ys):∀ n,Hw R (xs.take n) (ys.take n):=by
 induction h with
 |nil=>intro n;cases n<;>exact .nil
 |cons a h ih=>intro n;cases n with
  |zero=>exact .nil
  |succ n=>exact .cons a (ih n)
def Ry:∀ (t:Ty) (x:t.den),(lvs t x).length=t.sz
 |.i _,_=>rfl
 |.b,_=>rfl
 |.s,_=>rfl
 |.sl _ _,_=>rfl
 |.ow _ _,_=>rfl
 |.pr x y,p=>by
  show (lvs x p.1++lvs y p.2).length=x.sz+y.sz;rw[Vh,Ry x p.1,Ry y p.2]
def Jf:∀ (t:Ty) (x:t.den) (vs:List Value),t.rep P G w x vs→Hw (Ha P G w) (lvs t x) vs
 |.i _,_,_,h=>by subst h;exact .cons ⟨rfl,rfl⟩ .nil
 |.b,_,_,h=>by subst h;exact .cons ⟨rfl,rfl⟩ .nil
 |.s,_,_,h=>by subst h;exact .cons ⟨rfl,rfl⟩ .nil
 |.sl _ _,_,_,⟨_,e,h⟩=>by subst e;exact .cons ⟨_,rfl,h⟩ .nil
 |.ow _ _,_,_,⟨_,e,h⟩=>by subst e;exact .cons ⟨_,rfl,h⟩ .nil
 |.pr x y,p,_,⟨c,d,e,h1,h2⟩=>by subst e;exact(Jf x p.1 c h1).append (Jf y p.2 d h2)
def Pe {α β:Type} (h:α=β) (xs:List α):cast (congrArg List h) xs=xs.map (cast h):=by
 subst h;show xs=List.map (λ x=>x) xs;simp
def Rows.map {β:Type} {R:α→List Value→Prop} {R':β→List Value→Prop} {f:α→β} (hR:∀ x c,R x c→R' (f x) c):∀ {xs:List α} {cs:List Value},Rows R xs cs→Rows R' (xs.map f) cs
 |[],_,h=>h
 |_::_,_,⟨c,d,e,h1,h2⟩=>⟨c,d,e,hR _ _ h1,h2.map hR⟩
def Rows.unmap {β:Type} {R:α→List Value→Prop} {R':β→List Value→Prop} {f:α→β} (hR:∀ x c,R' (f x) c→R x c):∀ {xs:List α} {cs:List Value},Rows R' (xs.map f) cs→Rows R xs cs
 |[],_,h=>h
 |_::_,_,⟨c,d,e,h1,h2⟩=>⟨c,d,e,hR _ _ h1,h2.unmap hR⟩
def Ho:∀ t:Ty,(shp t).sz=t.sz
 |.i _=>rfl
 |.b=>rfl
 |.s=>rfl
 |.sl _ _=>rfl
 |.ow _ _=>rfl
 |.pr x y=>by show (shp x).sz+(shp y).sz=x.sz+y.sz;rw[Ho x,Ho y]
def Je.map {β:Type} {R:α→List Value→Prop} {R':β→List Value→Prop} {f:α→β} {xs:List α} {v:Value} (hR:∀ x c,R x c↔R' (f x) c):Je G w R xs v↔Je G w R' (xs.map f) v:=by
 constructor
 ·rintro⟨a,cap,cs,e,hc,hr,hx⟩;exact⟨a,cap,cs,by rw[Yk];exact e,by rw[Yk];exact hc,hr.map (λ x c=>(hR x c).1),λ hn=>hx (by intro e;subst e;simp at hn)⟩
 ·rintro⟨a,cap,cs,e,hc,hr,hx⟩;rw[Yk]at e hc;exact⟨a,cap,cs,e,hc,hr.unmap (λ x c=>(hR x c).2),λ hn=>hx (by intro e;rw[List.map_eq_nil_iff]at e;exact hn e)⟩
def Hza {α α' β β':Type} (h1:α=α') (h2:β=β') (h:(α×β)=(α'×β')) (x:α×β):(cast h x).1=cast h1 x.1∧(cast h x).2=cast h2 x.2:=by
 subst h1 h2;exact⟨rfl,rfl⟩
def N8:∀ (t:Ty) (x:t.den) (vs:List Value),t.rep P G w x vs↔(shp t).rep P G w (cast (Fz t).symm x) vs
 |.i _,_,_=>Sma
 |.b,_,_=>Sma
 |.s,_,_=>Sma
 |.sl e r,xs,vs=>by
  have hc:cast (Fz (.sl e r)).symm xs=List.map (cast (Fz r).symm) xs:=Pe (Fz r).symm xs;rw[hc];show (∃ v,vs=[v]∧Pd P e r.sz∧Je G w (λ x c=>r.rep P G w x c) xs v)↔(∃ v,vs=[v]∧Pd P e (shp r).sz∧Je G w (λ x c=>(shp r).rep P G w x c) _ v);rw[Ho r];exact exists_congr λ v=>and_congr_right λ _=>and_congr_right λ _=>Je.map (λ x c=>N8 r x c)
 |.ow e r,xs,vs=>by
  have hc:cast (Fz (.ow e r)).symm xs=List.map (cast (Fz r).symm) xs:=Pe (Fz r).symm xs;rw[hc];show (∃ v,vs=[v]∧Pd P e r.sz∧Je G w (λ x c=>r.rep P G w x c) xs v)↔(∃ v,vs=[v]∧Pd P e (shp r).sz∧Je G w (λ x c=>(shp r).rep P G w x c) _ v);rw[Ho r];exact exists_congr λ v=>and_congr_right λ _=>and_congr_right λ _=>Je.map (λ x c=>N8 r x c)
 |.pr x y,p,vs=>by
  obtain⟨e1,e2⟩:=Hza (Fz x).symm (Fz y).symm (Fz (.pr x y)).symm p;show (∃ c d,vs=c++d∧x.rep P G w p.1 c∧y.rep P G w p.2 d)↔(∃ c d,vs=c++d∧(shp x).rep P G w (cast (Fz (.pr x y)).symm p).1 c∧(shp y).rep P G w (cast (Fz (.pr x y)).symm p).2 d)
  have key:∀ (q:(shp x).den×(shp y).den),q.1=cast (Fz x).symm p.1→q.2=cast (Fz y).symm p.2→((∃ c d,vs=c++d∧x.rep P G w p.1 c∧y.rep P G w p.2 d)↔∃ c d,vs=c++d∧(shp x).rep P G w q.1 c∧(shp y).rep P G w q.2 d):=by
   intro q h1 h2;rw[h1,h2];exact exists_congr λ c=>exists_congr λ d=>and_congr_right λ _=>and_congr (N8 x p.1 c) (N8 y p.2 d)
  exact key _ e1 e2
def Nqa {t u:Ty} (h:u=t) (h2:u.den=t.den) (x:u.den) (vs:List Value):u.rep P G w x vs↔t.rep P G w (cast h2 x) vs:=by
 subst h;exact Sma
def E5a {t u:Ty} (h:shp u=shp t) (x:u.den) (vs:List Value):u.rep P G w x vs↔t.rep P G w (cast (Aaa h) x) vs:=by
 rw[N8 u x vs,N8 t _ vs,Nqa h (congrArg Ty.den h) _ vs];simp only[cast_cast]
def N9 {r r':Ty} {xs:List r'.den} {ys:List r.den} (h:Ls r r' xs=some ys):∃ e:shp r'=shp r,ys=xs.map (cast (Aaa e)):=by
 unfold Ls at h;split at h
 ·rename_i e;simp only[Vc]at h;exact⟨e,by rw[← h];exact Pe (Aaa e) xs⟩
 ·cases h
def Qz {r r':Ty} {xs:List r'.den} {ys:List r.den} {cs:List Value} (h:Ls r r' xs=some ys) (hr:Rows (λ x c=>r'.rep P G w x c) xs cs):Rows (λ x c=>r.rep P G w x c) ys cs∧ys.length=xs.length:=by
 obtain⟨e,rfl⟩:=N9 h;exact⟨hr.map (λ x c hx=>(E5a e x c).1 hx),by rw[Yk]⟩
def Md {r r':Ty} {e:TypeId} {xs:List r'.den} {ys:List r.den} {vs:List Value} (h:Ls r r' xs=some ys) (hr:(Ty.sl e r').rep P G w xs vs):(Ty.sl e r).rep P G w ys vs:=by
 obtain⟨e1,rfl⟩:=N9 h;obtain⟨v,ev,hs,hr⟩:=hr
 have hsz:r'.sz=r.sz:=by rw[← Ho r',e1,Ho r]
 exact⟨v,ev,by rw[← hsz];exact hs,(Je.map (λ x c=>E5a e1 x c)).1 hr⟩
def R3 {r r':Ty} {xs:List r'.den} {ys:List r.den} (h:Li r r' xs=some ys):(∃ e:r'=r,ys=e ▸ xs)∨(shp r'=shp r∧xs=[]∧ys=[]):=by
 unfold Li at h;split at h
 ·rename_i e;exact .inl ⟨e,by simpa using h.symm⟩
 ·split at h
  ·rename_i e;split at h
   ·simp only[Vc]at h;exact .inr ⟨e,rfl,h.symm⟩
   ·cases h
  ·cases h
def Lfa:∀ (t:Ty) (l l':List Lf) (x:t.den) (us:List Value),mkT t l=some (x,l')→Hw (Ha P G w) l us→
  ∃ vs ws,us=vs++ws∧t.rep P G w x vs∧Hw (Ha P G w) l' ws:=by
 intro t
 induction t with
 |i k=>
  intro l l' x us h hl
  cases hl with
  |nil=>simp[mkT]at h
  |@cons y u ys us' hy hys=>
   cases y<;>first|(simp[mkT]at h;done)|skip
   rename_i v
   cases v<;>first|(simp[mkT]at h;done)|skip
   rename_i k' n;simp only[mkT]at h
   by_cases hk:k=k'
   ·subst hk;simp at h;obtain⟨rfl,rfl⟩:=h;exact⟨[u],us',rfl,by rw[hy.1];rfl,hys⟩
   ·simp[hk]at h
 |b=>
  intro l l' x us h hl
  cases hl with
  |nil=>simp[mkT]at h
  |@cons y u ys us' hy hys=>
   cases y<;>first|(simp[mkT]at h;done)|skip
   rename_i v
   cases v<;>first|(simp[mkT]at h;done)|skip
   simp[mkT]at h;obtain⟨rfl,rfl⟩:=h;exact⟨[u],us',rfl,by rw[hy.1];rfl,hys⟩
 |s=>
  intro l l' x us h hl
  cases hl with
  |nil=>simp[mkT]at h
  |@cons y u ys us' hy hys=>
   cases y<;>first|(simp[mkT]at h;done)|skip
   rename_i v
   cases v<;>first|(simp[mkT]at h;done)|skip
   simp[mkT]at h;obtain⟨rfl,rfl⟩:=h;exact⟨[u],us',rfl,by rw[hy.1];rfl,hys⟩
 |sl e r _=>
  intro l l' x us h hl
  cases hl with
  |nil=>simp[mkT]at h
  |@cons y u ys us' hy hys=>
   cases y<;>first|(simp[mkT]at h;done)|exact hy.elim|skip
   rename_i e' r' xs;simp only[mkT]at h;cases he:Nat.beq e e'
   ·rw[he]at h;simp at h
   rw[he]at h;simp only[cond_true]at h;split at h
   ·rename_i zs hz
    have:e=e':=by simpa using he
    subst this;simp at h;obtain⟨rfl,rfl⟩:=h;exact⟨[u],us',rfl,Md hz hy,hys⟩
   ·cases h
 |ow e r _=>
  intro l l' x us h hl
  cases hl with
  |nil=>simp[mkT]at h
  |@cons y u ys us' hy hys=>
   cases y<;>first|(simp[mkT]at h;done)|exact hy.elim
 |pr x y ihx ihy=>
  intro l l' p us h hl;simp only[mkT]at h;split at h
  ·rename_i a l1 h1;split at h
   ·rename_i b l2 h2;simp at h;obtain⟨rfl,rfl⟩:=h;obtain⟨vs,ws,rfl,r1,hw1⟩:=ihx _ _ _ _ h1 hl;obtain⟨vs2,ws2,rfl,r2,hw2⟩:=ihy _ _ _ _ h2 hw1;exact⟨vs++vs2,ws2,by rw[Vj],⟨vs,vs2,rfl,r1,r2⟩,hw2⟩
   ·cases h
  ·cases h
def Pf {t:Ty} {l:List Lf} {x:t.den} {us:List Value} (h:mkW t l=some x) (hl:Hw (Ha P G w) l us):t.rep P G w x us:=by
 unfold mkW at h;split at h
 ·rename_i y hy;simp at h;subst h;obtain⟨vs,ws,rfl,hr,hw⟩:=Lfa _ _ _ _ _ hy hl;cases hw;rw[Yf];exact hr
 ·cases h
def Ha.mono {x:Lf} {u:Value} (h:Ha P G w x u) (hG:∀ k,G k→G' k) (hw:∀ k,G k→w'.heap[k]? = w.heap[k]?):Ha P G' w' x u:=by
 cases x<;>first|exact h|exact Ty.rep_mono hG hw _ _ _ h
end
def C0 {α:Type} (R:α→List Value→List Nat→Prop):List α→List Value→List Nat→Prop
 |[],cs,bs=>cs=[]∧bs=[]
 |x::xs,cs,bs=>∃ c d b1 b2,cs=c++d∧bs=b1++b2∧R x c b1∧C0 R xs d b2
def Ty.dep (P:Program) (G:Nat→Prop) (w:World):(t:Ty)→t.den→List Value→List Nat→Prop
 |.i k,n,vs,bs=>vs=[.int k n]∧bs=[]
 |.b,x,vs,bs=>vs=[.bool x]∧bs=[]
 |.s,x,vs,bs=>vs=[.string x]∧bs=[]
 |.sl e r,xs,vs,bs=>(Ty.sl e r).rep P G w xs vs∧bs=[]
 |.ow e r,xs,vs,bs=>∃ v cs b2,vs=[v]∧Pd P e r.sz∧w.ownsRow 0 e r.sz v xs.length cs∧C0 (λ x c b=>r.dep P G w x c b) xs cs b2∧bs=v.ownBlock.toList++b2
 |.pr x y,p,vs,bs=>∃ c d b1 b2,vs=c++d∧bs=b1++b2∧x.dep P G w p.1 c b1∧y.dep P G w p.2 d b2
section
variable {P:Program} {G G':Nat→Prop} {w w':World} {α:Type}
def Ka {w w':World} {e n m:Nat} {cs:List Value} {u:Value} (h:w.ownsRow 0 e n u m cs) (hk:∀ k,u.ownBlock=some k→w'.heap[k]? = w.heap[k]?):w'.ownsRow 0 e n u m cs:=by
 refine⟨h.1,?_⟩;rcases h.2 with hn|⟨g,cap,cur,rfl,hb,hg,rest⟩
 ·exact .inl hn
 ·exact .inr ⟨g,cap,cur,rfl,hb,(hk g rfl).trans hg,rest⟩
def Da {w:World} {e n m:Nat} {cs:List Value} {u:Value} (h:w.ownsRow 0 e n u m cs):
  (u = .slice none 0 0∧m=0∧cs=[])∨∃ k cap cur,u = .slice (some ⟨k,0,none⟩) m cap∧w.heap[k]? = some (.cells cur e (0,0))∧m≤cap∧cap≤maxLen∧cur.size=cap*n∧cur.toList.take (m*n)=cs:=by
 rcases h.2 with⟨e1,e2⟩|⟨k,cap,cur,e1,_,e2,e3,e4,e5,e6⟩
 ·refine .inl ⟨e1,e2,?_⟩;have:=h.1;rw[e2,Zh]at this;exact Xs this
 ·exact .inr ⟨k,cap,cur,e1,e2,e3,e4,e5,e6⟩
def Gb {w:World} {k:Nat} {cur:Array Value} {e:TypeId} {f:Nat×Nat} {cs:List Value} {n:Nat} (h:w.heap[k]? = some (.cells cur e f)) (ht:cur.toList.take n=cs):Ck w k 0 cs:=by
 intro j u hu;subst ht;rw[Wg]at hu;split at hu
 ·simp[World.cell?,h]
  simpa using hu
 ·cases hu
def C0.mono {R R':α→List Value→List Nat→Prop}:∀ {xs:List α} {cs:List Value} {bs:List Nat},(∀ x c b,(∀ k∈b,k∈bs)→R x c b→R' x c b)→C0 R xs cs bs→C0 R' xs cs bs
 |[],_,_,_,h=>h
 |_::_,_,_,hR,⟨c,d,b1,b2,e1,e2,h1,h2⟩=>⟨c,d,b1,b2,e1,e2,hR _ _ _ (λ k hk=>by rw[e2];exact Vt _ hk) h1,h2.mono (λ x c b hb h=>hR x c b (λ k hk=>by rw[e2];exact Vi _ (hb k hk)) h)⟩
def Ty.dep_mono (hG:∀ k,G k→G' k) (hw:∀ k,G k→w'.heap[k]? = w.heap[k]?):∀ (t:Ty) (x:t.den) (vs:List Value) (bs:List Nat),(∀ k∈bs,w'.heap[k]? = w.heap[k]?)→t.dep P G w x vs bs→t.dep P G' w' x vs bs
 |.i _,_,_,_,_,h=>h
 |.b,_,_,_,_,h=>h
 |.s,_,_,_,_,h=>h
 |.sl e r,xs,vs,_,_,⟨h,hb⟩=>⟨Ty.rep_mono hG hw (.sl e r) xs vs h,hb⟩
 |.ow _ r,_,_,bs,hb,⟨v,cs,b2,e,hs,ho,hd,eb⟩=>⟨v,cs,b2,e,hs,Ka ho (λ k hk=>hb k (by rw[eb,hk];simp)),hd.mono (λ x c b hbb h=>Ty.dep_mono hG hw r x c b (λ k hk=>hb k (by rw[eb];exact Vi _ (hbb k hk))) h),eb⟩
 |.pr x y,p,_,bs,hb,⟨c,d,b1,b2,e,eb,h1,h2⟩=>⟨c,d,b1,b2,e,eb,Ty.dep_mono hG hw x p.1 c b1 (λ k hk=>hb k (by rw[eb];exact Vt _ hk)) h1,Ty.dep_mono hG hw y p.2 d b2 (λ k hk=>hb k (by rw[eb];exact Vi _ hk)) h2⟩
def C0.rows {R:α→List Value→List Nat→Prop} {R':α→List Value→Prop}:∀ {xs:List α} {cs:List Value} {bs:List Nat},(∀ x c b,(∀ k∈b,k∈bs)→R x c b→R' x c)→C0 R xs cs bs→Rows R' xs cs
 |[],_,_,_,h=>h.1
 |_::_,_,_,hR,⟨c,d,b1,b2,e1,e2,h1,h2⟩=>⟨c,d,e1,hR _ _ _ (λ k hk=>by rw[e2];exact Vt _ hk) h1,h2.rows (λ x c b hb h=>hR x c b (λ k hk=>by rw[e2];exact Vi _ (hb k hk)) h)⟩
def Ty.dep_rep (hG:∀ k,G k→G' k):∀ (t:Ty) (x:t.den) (vs:List Value) (bs:List Nat),(∀ k∈bs,G' k)→t.dep P G w x vs bs→t.rep P G' w x vs
 |.i _,_,_,_,_,h=>h.1
 |.b,_,_,_,_,h=>h.1
 |.s,_,_,_,_,h=>h.1
 |.sl e r,xs,vs,_,_,⟨h,_⟩=>Ty.rep_mono hG (λ _ _=>rfl) (.sl e r) xs vs h
 |.ow e r,xs,_,bs,hb,⟨v,cs,b2,ev,hs,ho,hd,eb⟩=>by
  have hr:Rows (λ x c=>r.rep P G' w x c) xs cs:=hd.rows (λ x c b hbb h=>Ty.dep_rep hG r x c b (λ k hk=>hb k (by rw[eb];exact Vi _ (hbb k hk))) h);refine⟨v,ev,hs,?_⟩;rcases Da ho with⟨rfl,hm,rfl⟩|⟨k,cap,cur,rfl,hg,hc,_,_,ht⟩
  ·refine⟨none,0,[],?_,by omega,hr,λ hn=>?_⟩
   ·rw[hm]
   ·exact absurd (Xs hm) hn
  ·exact⟨_,cap,cs,rfl,hc,hr,λ _=>⟨k,0,rfl,hb k (by rw[eb];simp[Value.ownBlock]),Gb hg ht⟩⟩
 |.pr x y,p,_,bs,hb,⟨c,d,b1,b2,e,eb,h1,h2⟩=>⟨c,d,e,Ty.dep_rep hG x p.1 c b1 (λ k hk=>hb k (by rw[eb];exact Vt _ hk)) h1,Ty.dep_rep hG y p.2 d b2 (λ k hk=>hb k (by rw[eb];exact Vi _ hk)) h2⟩
def Ty.dep_flat:∀ (t:Ty) (x:t.den) (vs:List Value) (bs:List Nat),Hh t=true→(t.dep P G w x vs bs↔t.rep P G w x vs∧bs=[])
 |.i _,_,_,_,_=>Sma
 |.b,_,_,_,_=>Sma
 |.s,_,_,_,_=>Sma
 |.sl _ _,_,_,_,_=>Sma
 |.ow _ _,_,_,_,h=>by simp[Hh]at h
 |.pr x y,p,vs,bs,h=>by
  simp only[Hh,Va]at h;constructor
  ·rintro⟨c,d,b1,b2,e,eb,h1,h2⟩;obtain⟨r1,rfl⟩:=(Ty.dep_flat x p.1 c b1 h.1).1 h1;obtain⟨r2,rfl⟩:=(Ty.dep_flat y p.2 d b2 h.2).1 h2;exact⟨⟨c,d,e,r1,r2⟩,eb⟩
  ·rintro⟨⟨c,d,e,r1,r2⟩,rfl⟩;exact⟨c,d,[],[],e,rfl,(Ty.dep_flat x p.1 c [] h.1).2 ⟨r1,rfl⟩,(Ty.dep_flat y p.2 d [] h.2).2 ⟨r2,rfl⟩⟩
def C0.flat {R:α→List Value→List Nat→Prop} {R':α→List Value→Prop} (hR:∀ x c b,R x c b↔R' x c∧b=[]):∀ {xs:List α} {cs:List Value} {bs:List Nat},C0 R xs cs bs↔Rows R' xs cs∧bs=[]
 |[],_,_=>Sma
 |x::xs,cs,bs=>by
  constructor
  ·rintro⟨c,d,b1,b2,e,eb,h1,h2⟩;obtain⟨r1,rfl⟩:=(hR x c b1).1 h1;obtain⟨r2,rfl⟩:=(C0.flat hR).1 h2;exact⟨⟨c,d,e,r1,r2⟩,eb⟩
  ·rintro⟨⟨c,d,e,r1,r2⟩,rfl⟩;exact⟨c,d,[],[],e,rfl,(hR x c []).2 ⟨r1,rfl⟩,(C0.flat hR).2 ⟨r2,rfl⟩⟩
def Ty.dep_len:∀ (t:Ty) (x:t.den) (vs:List Value) (bs:List Nat),t.dep P G w x vs bs→vs.length=t.sz
 |.i _,_,_,_,h=>by obtain⟨rfl,_⟩:=h;rfl
 |.b,_,_,_,h=>by obtain⟨rfl,_⟩:=h;rfl
 |.s,_,_,_,h=>by obtain⟨rfl,_⟩:=h;rfl
 |.sl e r,xs,vs,_,h=>Ty.rep_len (.sl e r) xs vs h.1
 |.ow _ _,_,_,_,⟨_,_,_,e,_⟩=>by subst e;rfl
 |.pr x y,p,_,_,⟨c,d,b1,b2,e,_,h1,h2⟩=>by
  subst e;rw[Vh,Ty.dep_len x p.1 c b1 h1,Ty.dep_len y p.2 d b2 h2];rfl
def C0.len {R:α→List Value→List Nat→Prop} {n:Nat} (hn:∀ x c b,R x c b→c.length=n):∀ {xs:List α} {cs:List Value} {bs:List Nat},C0 R xs cs bs→cs.length=xs.length*n
 |[],_,_,h=>by obtain⟨rfl,_⟩:=h;simp
 |_::_,_,_,⟨c,d,b1,b2,e,_,h1,h2⟩=>by
  subst e;rw[Vh,hn _ _ _ h1,h2.len hn,Vg,Yh,Ym,Zd]
def C0.take {R:α→List Value→List Nat→Prop} {n:Nat} (hn:∀ x c b,R x c b→c.length=n):∀ {xs:List α} {cs:List Value} {bs:List Nat} (_:C0 R xs cs bs) (k:Nat),∃ b',C0 R (xs.take k) (cs.take (k*n)) b'∧b'.Sublist bs
 |[],_,_,h,k=>by obtain⟨rfl,rfl⟩:=h;exact⟨[],by simp[C0],S3a _⟩
 |_::_,_,_,⟨c,d,b1,b2,e,eb,h1,h2⟩,0=>⟨[],by simp[C0],List.nil_sublist _⟩
 |_::_,_,_,⟨c,d,b1,b2,e,eb,h1,h2⟩,k+1=>by
  subst e eb;have hl:=hn _ _ _ h1;obtain⟨b',h3,h4⟩:=h2.take hn k;refine⟨b1++b',⟨c,_,b1,b',?_,rfl,h1,h3⟩,(S3a b1).append h4⟩;rw[show (k+1)*n=c.length+k*n by rw[hl,Yh,Ym,Zd],Ze]
def C0.drop {R:α→List Value→List Nat→Prop} {n:Nat} (hn:∀ x c b,R x c b→c.length=n):∀ {xs:List α} {cs:List Value} {bs:List Nat} (_:C0 R xs cs bs) (k:Nat),∃ b',C0 R (xs.drop k) (cs.drop (k*n)) b'∧b'.Sublist bs
 |[],_,_,h,k=>by obtain⟨rfl,rfl⟩:=h;exact⟨[],by simp[C0],S3a _⟩
 |x::xs,cs,bs,h@⟨c,d,b1,b2,e,eb,h1,h2⟩,0=>⟨bs,by simpa using h,S3a _⟩
 |_::_,_,_,⟨c,d,b1,b2,e,eb,h1,h2⟩,k+1=>by
  subst e eb;have hl:=hn _ _ _ h1;obtain⟨b',h3,h4⟩:=h2.drop hn k;refine⟨b',?_,h4.trans (Zr b1 b2)⟩
  have e1:List.drop ((k+1)*n) (c++d)=List.drop (k*n) d:=by
   rw[show (k+1)*n=c.length+k*n by rw[hl,Yh,Ym,Zd],← Wp,Yw]
  rw[e1];exact h3
def C0.append {R:α→List Value→List Nat→Prop}:∀ {xs ys:List α} {cs ds:List Value} {bs es:List Nat},C0 R xs cs bs→C0 R ys ds es→C0 R (xs++ys) (cs++ds) (bs++es)
 |[],_,_,_,_,_,h1,h2=>by obtain⟨rfl,rfl⟩:=h1;exact h2
 |_::_,_,_,_,_,_,⟨c,d,b1,b2,e,eb,h,h'⟩,h2=>by subst e eb;exact⟨c,_,b1,_,by rw[Vj],by rw[Vj],h,h'.append h2⟩
def C0.get {R:α→List Value→List Nat→Prop} {n:Nat} (hn:∀ x c b,R x c b→c.length=n):∀ {xs:List α} {cs:List Value} {bs:List Nat} (_:C0 R xs cs bs) (i:Nat) (x:α),xs[i]? = some x→∃ b,R x ((cs.drop (i*n)).take n) b∧b.Sublist bs
 |[],_,_,_,i,x,hx=>by simp at hx
 |y::ys,_,_,⟨c,d,b1,b2,e,eb,h1,h2⟩,0,x,hx=>by
  simp at hx;subst hx e eb;have:=hn _ _ _ h1;simp only[Zh,We];rw[← this,Rpa];exact⟨b1,h1,Rsa b1 b2⟩
 |y::ys,_,_,⟨c,d,b1,b2,e,eb,h1,h2⟩,i+1,x,hx=>by
  subst e eb;have hl:=hn _ _ _ h1;rw[show (i+1)*n=c.length+i*n by rw[hl,Yh,Ym,Zd],← Wp,Yw];obtain⟨b,h3,h4⟩:=h2.get hn i x (by simpa using hx);exact⟨b,h3,h4.trans (Zr b1 b2)⟩
def Ty.dep_all:∀ (t:Ty) (x:t.den) (vs:List Value) (bs:List Nat),Eh t=true→(∀ k∈bs,w'.heap[k]? = w.heap[k]?)→t.dep P G w x vs bs→t.dep P G' w' x vs bs
 |.i _,_,_,_,_,_,h=>h
 |.b,_,_,_,_,_,h=>h
 |.s,_,_,_,_,_,h=>h
 |.sl _ _,_,_,_,h,_,_=>by simp[Eh]at h
 |.ow _ r,_,_,bs,ha,hb,⟨v,cs,b2,e,hs,ho,hd,eb⟩=>⟨v,cs,b2,e,hs,Ka ho (λ k hk=>hb k (by rw[eb,hk];simp)),hd.mono (λ x c b hbb h=>Ty.dep_all r x c b ha (λ k hk=>hb k (by rw[eb];exact Vi _ (hbb k hk))) h),eb⟩
 |.pr x y,p,_,bs,ha,hb,⟨c,d,b1,b2,e,eb,h1,h2⟩=>by
  simp only[Eh,Va]at ha;exact⟨c,d,b1,b2,e,eb,Ty.dep_all x p.1 c b1 ha.1 (λ k hk=>hb k (by rw[eb];exact Vt _ hk)) h1,Ty.dep_all y p.2 d b2 ha.2 (λ k hk=>hb k (by rw[eb];exact Vi _ hk)) h2⟩
end

end Go.Proofs.YtbbifgjgneefkaaGreat.Vf
