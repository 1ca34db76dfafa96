import Derived.Test.YtlfoljnopndpeaaMaa
import Derived.Laws.AppendOwn
import Derived.Laws.Cells
import Derived.Laws.World
set_option linter.unusedVariables false
set_option linter.unusedSimpArgs false
namespace Go.Proofs.Ytlfoljnopndpeaa.Vf
open Go

abbrev y0:=(Int×((List (ByteArray×(List Int)))×(List (ByteArray×(List Int))))×(List (ByteArray×(Int×Int×Int)×Bool×Int))×(List (ByteArray×(Int×Int×Int)×Bool×Int)))
abbrev y1:=((List (Int×Int×Int))×(Int×(List (List Int)))×(List y0)×(Int×Int×Int)×(List (ByteArray×((Int×Int×Int)×Bool×(List Int))×Bool))×(List ByteArray))
def Em (a0:List (Int×Int×Int)) (a1:Int):Option (Int):=cond (decide ((IntKind.wrap .i64 (a1 - (List.length a0:Int)))<0)) (some (-1)) (some (IntKind.wrap .i64 (a1 - (List.length a0:Int))))
def Eo (a0:List Int) (a1:Int):Option (Int):=cond (decide ((IntKind.wrap .i64 (a1 - (List.length a0:Int)))<0)) (some (-1)) (some (IntKind.wrap .i64 (a1 - (List.length a0:Int))))
def Ep (a0:List Int) (a1:Int):Option (Int):=(Eo a0 a1).bind λ r1=>cond (decide (r1<0)) (some (-1)) (some r1)
def Cc:Nat→(List (List Int))→Int→Int→Option (Sum (Int) (Int))
 |0,_,_,_=>none
 |k+1,x0,x1,x5=>cond (decide (x5<(List.length x0:Int))) (cond (decide ((0:Int)≤x5)) (cond (decide (x5<(List.length x0:Int))) ((Ep (List.getD x0 (Int.toNat x5) []) x1).bind λ r2=>cond (decide (r2<0)) (some (.inl (-1))) (Cc k x0 r2 (IntKind.wrap .i64 (x5+1)))) none) none) (some (.inr x1))
def Ba (k:Nat) (a0:List (List Int)) (a1:Int):Option (Int):=cond (decide ((IntKind.wrap .i64 (a1 - (List.length a0:Int)))<0)) (some (-1)) ((Cc k a0 (IntKind.wrap .i64 (a1 - (List.length a0:Int))) 0).bind λ r1=>Sum.elim (λ y2=>some y2) (λ z3=>some z3) r1)
def Er (k:Nat) (a0:Int×(List (List Int))) (a1:Int):Option (Int):=(Ba k a0.2 a1).bind λ r1=>cond (decide (r1<0)) (some (-1)) (some r1)
def Cv (a0:List Int) (a1:Int):Option (Int):=cond (decide ((IntKind.wrap .i64 (a1 - (List.length a0:Int)))<0)) (some (-1)) (some (IntKind.wrap .i64 (a1 - (List.length a0:Int))))
def E6 (a0:ByteArray×(List Int)) (a1:Int):Option (Int):=cond (decide ((IntKind.wrap .i64 (a1 - (ByteArray.size a0.1:Int)))<0)) (some (-1)) ((Cv a0.2 (IntKind.wrap .i64 (a1 - (ByteArray.size a0.1:Int)))).bind λ r1=>cond (decide (r1<0)) (some (-1)) (some r1))
def C1:Nat→(List (ByteArray×(List Int)))→Int→Int→Option (Sum (Int) (Int))
 |0,_,_,_=>none
 |k+1,x0,x1,x5=>cond (decide (x5<(List.length x0:Int))) (cond (decide ((0:Int)≤x5)) (cond (decide (x5<(List.length x0:Int))) ((E6 (List.getD x0 (Int.toNat x5) ((⟨#[]⟩:ByteArray),[])) x1).bind λ r2=>cond (decide (r2<0)) (some (.inl (-1))) (C1 k x0 r2 (IntKind.wrap .i64 (x5+1)))) none) none) (some (.inr x1))
def Al (k:Nat) (a0:List (ByteArray×(List Int))) (a1:Int):Option (Int):=cond (decide ((IntKind.wrap .i64 (a1 - (List.length a0:Int)))<0)) (some (-1)) ((C1 k a0 (IntKind.wrap .i64 (a1 - (List.length a0:Int))) 0).bind λ r1=>Sum.elim (λ y2=>some y2) (λ z3=>some z3) r1)
def Es (k:Nat) (a0:(List (ByteArray×(List Int)))×(List (ByteArray×(List Int)))) (a1:Int):Option (Int):=(Al k a0.1 a1).bind λ r1=>cond (decide (r1<0)) (some (-1)) ((Al k a0.2 r1).bind λ r2=>cond (decide (r2<0)) (some (-1)) (some r2))
def Fq (a0:ByteArray×(Int×Int×Int)×Bool×Int) (a1:Int):Option (Int):=cond (decide ((IntKind.wrap .i64 (a1 - (ByteArray.size a0.1:Int)))<0)) (some (-1)) (some (IntKind.wrap .i64 (a1 - (ByteArray.size a0.1:Int))))
def D6:Nat→(List (ByteArray×(Int×Int×Int)×Bool×Int))→Int→Int→Option (Sum (Int) (Int))
 |0,_,_,_=>none
 |k+1,x0,x1,x5=>cond (decide (x5<(List.length x0:Int))) (cond (decide ((0:Int)≤x5)) (cond (decide (x5<(List.length x0:Int))) ((Fq (List.getD x0 (Int.toNat x5) ((⟨#[]⟩:ByteArray),(((0:Int),((0:Int),(0:Int))),(false,(0:Int))))) x1).bind λ r2=>cond (decide (r2<0)) (some (.inl (-1))) (D6 k x0 r2 (IntKind.wrap .i64 (x5+1)))) none) none) (some (.inr x1))
def Bn (k:Nat) (a0:List (ByteArray×(Int×Int×Int)×Bool×Int)) (a1:Int):Option (Int):=cond (decide ((IntKind.wrap .i64 (a1 - (List.length a0:Int)))<0)) (some (-1)) ((D6 k a0 (IntKind.wrap .i64 (a1 - (List.length a0:Int))) 0).bind λ r1=>Sum.elim (λ y2=>some y2) (λ z3=>some z3) r1)
def Et (k:Nat) (a0:y0) (a1:Int):Option (Int):=(Es k a0.2.1 a1).bind λ r1=>cond (decide (r1<0)) (some (-1)) ((Bn k a0.2.2.1 r1).bind λ r2=>cond (decide (r2<0)) (some (-1)) ((Bn k a0.2.2.2 r2).bind λ r3=>cond (decide (r3<0)) (some (-1)) (some r3)))
def Cd:Nat→(List y0)→Int→Int→Option (Sum (Int) (Int))
 |0,_,_,_=>none
 |k+1,x0,x1,x5=>cond (decide (x5<(List.length x0:Int))) (cond (decide ((0:Int)≤x5)) (cond (decide (x5<(List.length x0:Int))) ((Et k (List.getD x0 (Int.toNat x5) ((0:Int),(([],[]),([],[])))) x1).bind λ r2=>cond (decide (r2<0)) (some (.inl (-1))) (Cd k x0 r2 (IntKind.wrap .i64 (x5+1)))) none) none) (some (.inr x1))
def Bb (k:Nat) (a0:List y0) (a1:Int):Option (Int):=cond (decide ((IntKind.wrap .i64 (a1 - (List.length a0:Int)))<0)) (some (-1)) ((Cd k a0 (IntKind.wrap .i64 (a1 - (List.length a0:Int))) 0).bind λ r1=>Sum.elim (λ y2=>some y2) (λ z3=>some z3) r1)
def Eu (a0:(Int×Int×Int)×Bool×(List Int)) (a1:Int):Option (Int):=(Cv a0.2.2 a1).bind λ r1=>cond (decide (r1<0)) (some (-1)) (some r1)
def E7 (a0:ByteArray×((Int×Int×Int)×Bool×(List Int))×Bool) (a1:Int):Option (Int):=cond (decide ((IntKind.wrap .i64 (a1 - (ByteArray.size a0.1:Int)))<0)) (some (-1)) ((Eu a0.2.1 (IntKind.wrap .i64 (a1 - (ByteArray.size a0.1:Int)))).bind λ r1=>cond (decide (r1<0)) (some (-1)) (some r1))
def C2:Nat→(List (ByteArray×((Int×Int×Int)×Bool×(List Int))×Bool))→Int→Int→Option (Sum (Int) (Int))
 |0,_,_,_=>none
 |k+1,x0,x1,x5=>cond (decide (x5<(List.length x0:Int))) (cond (decide ((0:Int)≤x5)) (cond (decide (x5<(List.length x0:Int))) ((E7 (List.getD x0 (Int.toNat x5) ((⟨#[]⟩:ByteArray),((((0:Int),((0:Int),(0:Int))),(false,[])),false))) x1).bind λ r2=>cond (decide (r2<0)) (some (.inl (-1))) (C2 k x0 r2 (IntKind.wrap .i64 (x5+1)))) none) none) (some (.inr x1))
def As (k:Nat) (a0:List (ByteArray×((Int×Int×Int)×Bool×(List Int))×Bool)) (a1:Int):Option (Int):=cond (decide ((IntKind.wrap .i64 (a1 - (List.length a0:Int)))<0)) (some (-1)) ((C2 k a0 (IntKind.wrap .i64 (a1 - (List.length a0:Int))) 0).bind λ r1=>Sum.elim (λ y2=>some y2) (λ z3=>some z3) r1)
def B8:Nat→(List ByteArray)→Int→Int→Option (Sum (Int) (Int))
 |0,_,_,_=>none
 |k+1,x0,x1,x5=>cond (decide (x5<(List.length x0:Int))) (cond (decide ((0:Int)≤x5)) (cond (decide (x5<(List.length x0:Int))) (let v1:=List.getD x0 (Int.toNat x5) (⟨#[]⟩:ByteArray); cond (decide ((IntKind.wrap .i64 (x1 - (ByteArray.size v1:Int)))<0)) (some (.inl (-1))) (B8 k x0 (IntKind.wrap .i64 (x1 - (ByteArray.size v1:Int))) (IntKind.wrap .i64 (x5+1)))) none) none) (some (.inr x1))
def C3 (k:Nat) (a0:List ByteArray) (a1:Int):Option (Int):=cond (decide ((IntKind.wrap .i64 (a1 - (List.length a0:Int)))<0)) (some (-1)) ((B8 k a0 (IntKind.wrap .i64 (a1 - (List.length a0:Int))) 0).bind λ r1=>Sum.elim (λ y2=>some y2) (λ z3=>some z3) r1)
def Dh (k:Nat) (a0:y1) (a1:Int):Option (Int):=(Em a0.1 a1).bind λ r1=>cond (decide (r1<0)) (some (-1)) ((Er k a0.2.1 r1).bind λ r2=>cond (decide (r2<0)) (some (-1)) ((Bb k a0.2.2.1 r2).bind λ r3=>cond (decide (r3<0)) (some (-1)) ((As k a0.2.2.2.2.1 r3).bind λ r4=>cond (decide (r4<0)) (some (-1)) ((C3 k a0.2.2.2.2.2 r4).bind λ r5=>cond (decide (r5<0)) (some (-1)) (some r5)))))
def Ce:Nat→(List ByteArray)→ByteArray→Int→Option (Sum (Bool) (Unit))
 |0,_,_,_=>none
 |k+1,x0,x1,x5=>cond (decide (x5<(List.length x0:Int))) (cond (decide ((0:Int)≤x5)) (cond (decide (x5<(List.length x0:Int))) (cond ((List.getD x0 (Int.toNat x5) (⟨#[]⟩:ByteArray)).toList==x1.toList) (some (.inl true)) (Ce k x0 x1 (IntKind.wrap .i64 (x5+1)))) none) none) (some (.inr ()))
def Dw (k:Nat) (a0:List ByteArray) (a1:ByteArray):Option (Bool):=(Ce k a0 a1 0).bind λ r1=>Sum.elim (λ y2=>some y2) (λ z3=>some false) r1
def Di:Nat→(List (ByteArray×(List Int)))→ByteArray→Int→Option (Sum (Int) (Unit))
 |0,_,_,_=>none
 |k+1,x0,x1,x5=>cond (decide (x5<(List.length x0:Int))) (cond (decide ((0:Int)≤x5)) (cond (decide (x5<(List.length x0:Int))) (cond ((List.getD x0 (Int.toNat x5) ((⟨#[]⟩:ByteArray),[])).1.toList==x1.toList) (some (.inl x5)) (Di k x0 x1 (IntKind.wrap .i64 (x5+1)))) none) none) (some (.inr ()))
def Fp (k:Nat) (a0:List (ByteArray×(List Int))) (a1:ByteArray):Option (Int):=(Di k a0 a1 0).bind λ r1=>Sum.elim (λ y2=>some y2) (λ z3=>some (-1)) r1
def B9:Nat→(List Int)→Int→Int→Int→Option (Sum (Int×Int×Bool) (Unit))
 |0,_,_,_,_=>none
 |k+1,x0,x1,x7,x8=>cond (decide (x8<5)) (cond (decide (x1≥0)) (cond (decide (x1<(List.length x0:Int))) (cond (decide ((IntKind.wrap .i64 (x1+x8))<(List.length x0:Int))) (cond (decide ((0:Int)≤IntKind.wrap .i64 (x1+x8))) (cond (decide (IntKind.wrap .i64 (x1+x8)<(List.length x0:Int))) (let v1:=List.getD x0 (Int.toNat (IntKind.wrap .i64 (x1+x8))) (0:Int); cond (decide ((IntKind.wrap .u64 (IntKind.wrap .i64 (7 * x8)))<0)) none (cond (decide ((IntKind.wrap .i64 v1) > 127)) (B9 k x0 x1 (IntKind.wrap .i64 ((BitVec.ofInt (IntKind.bits .i64) x7 ||| BitVec.ofInt (IntKind.bits .i64) (IntKind.wrap .i64 ((IntKind.wrap .i64 ((BitVec.ofInt (IntKind.bits .i64) (IntKind.wrap .i64 v1) &&& BitVec.ofInt (IntKind.bits .i64) 127).toNat)) * 2 ^ (min (Int.toNat (IntKind.wrap .u64 (IntKind.wrap .i64 (7 * x8)))) (IntKind.bits .i64))))).toNat)) (IntKind.wrap .i64 (x8+1))) (cond (decide (x8 > 0)) (cond ((IntKind.wrap .i64 v1)==0) (some (.inl (0,0,false))) (cond (decide ((IntKind.wrap .i64 ((BitVec.ofInt (IntKind.bits .i64) x7 ||| BitVec.ofInt (IntKind.bits .i64) (IntKind.wrap .i64 ((IntKind.wrap .i64 ((BitVec.ofInt (IntKind.bits .i64) (IntKind.wrap .i64 v1) &&& BitVec.ofInt (IntKind.bits .i64) 127).toNat)) * 2 ^ (min (Int.toNat (IntKind.wrap .u64 (IntKind.wrap .i64 (7 * x8)))) (IntKind.bits .i64))))).toNat)) > 1000000000)) (some (.inl (0,0,false))) (some (.inl (IntKind.wrap .i64 ((BitVec.ofInt (IntKind.bits .i64) x7 ||| BitVec.ofInt (IntKind.bits .i64) (IntKind.wrap .i64 ((IntKind.wrap .i64 ((BitVec.ofInt (IntKind.bits .i64) (IntKind.wrap .i64 v1) &&& BitVec.ofInt (IntKind.bits .i64) 127).toNat)) * 2 ^ (min (Int.toNat (IntKind.wrap .u64 (IntKind.wrap .i64 (7 * x8)))) (IntKind.bits .i64))))).toNat),IntKind.wrap .i64 ((IntKind.wrap .i64 (x1+x8))+1),true))))) (cond (decide ((IntKind.wrap .i64 ((BitVec.ofInt (IntKind.bits .i64) x7 ||| BitVec.ofInt (IntKind.bits .i64) (IntKind.wrap .i64 ((IntKind.wrap .i64 ((BitVec.ofInt (IntKind.bits .i64) (IntKind.wrap .i64 v1) &&& BitVec.ofInt (IntKind.bits .i64) 127).toNat)) * 2 ^ (min (Int.toNat (IntKind.wrap .u64 (IntKind.wrap .i64 (7 * x8)))) (IntKind.bits .i64))))).toNat)) > 1000000000)) (some (.inl (0,0,false))) (some (.inl (IntKind.wrap .i64 ((BitVec.ofInt (IntKind.bits .i64) x7 ||| BitVec.ofInt (IntKind.bits .i64) (IntKind.wrap .i64 ((IntKind.wrap .i64 ((BitVec.ofInt (IntKind.bits .i64) (IntKind.wrap .i64 v1) &&& BitVec.ofInt (IntKind.bits .i64) 127).toNat)) * 2 ^ (min (Int.toNat (IntKind.wrap .u64 (IntKind.wrap .i64 (7 * x8)))) (IntKind.bits .i64))))).toNat),IntKind.wrap .i64 ((IntKind.wrap .i64 (x1+x8))+1),true))))))) none) none) (some (.inr ()))) (some (.inr ()))) (some (.inr ()))) (some (.inr ()))
def Aw (k:Nat) (a0:List Int) (a1:Int):Option (Int×Int×Bool):=(B9 k a0 a1 0 0).bind λ r1=>Sum.elim (λ y2=>some (y2.1,y2.2.1,y2.2.2)) (λ z3=>some (0,0,false)) r1
def Bo (k:Nat) (a0:List Int) (a1:Int):Option ((Int×Int×Int)×Int×Bool):=(Aw k a0 a1).bind λ r1=>(Aw k a0 r1.2.1).bind λ r2=>(Aw k a0 r2.2.1).bind λ r3=>cond r1.2.2 (cond r2.2.2 (some ((r1.1,r2.1,r3.1),r3.2.1,r3.2.2)) (some ((r1.1,r2.1,r3.1),r3.2.1,false))) (some ((r1.1,r2.1,r3.1),r3.2.1,false))
def Dj (k:Nat) (a0:List Int) (a1:Int):Option (ByteArray×Int×Bool):=(Aw k a0 a1).bind λ r1=>cond (!r1.2.2) (some ((⟨#[]⟩:ByteArray),0,false)) (cond (decide (r1.1 > (IntKind.wrap .i64 ((List.length a0:Int) - r1.2.1)))) (some ((⟨#[]⟩:ByteArray),0,false)) (cond (decide ((0:Int)≤r1.2.1)) (cond (decide (r1.2.1≤IntKind.wrap .i64 (r1.2.1+r1.1))) (cond (decide (IntKind.wrap .i64 (r1.2.1+r1.1)≤(List.length a0:Int))) (some (Gn (List.drop (Int.toNat r1.2.1) (List.take (Int.toNat (IntKind.wrap .i64 (r1.2.1+r1.1))) a0)),IntKind.wrap .i64 (r1.2.1+r1.1),true)) none) none) none))
def Fb (a0:Int) (a1:Int) (a2:Int):Option (Bool):=cond (decide (a0≥a1)) (some (decide (a0≤a2))) (some false)
def Dk (a0:Int×Int×Int):Option (Bool):=(Fb a0.1 0 1000000000).bind λ r1=>cond r1 ((Fb a0.2.1 0 1000000).bind λ r2=>cond r2 ((Fb a0.2.2 0 20).bind λ r3=>some r3) (some false)) (some false)
def D7 (a0:(Int×Int×Int)×Bool×(List Int)):Option (Bool):=(Dk a0.1).bind λ r1=>cond r1 (cond (decide ((List.length a0.2.2:Int)≤200)) (cond (!a0.2.1) (some true) (some ((List.length a0.2.2:Int)==0))) (some false)) (some false)
def Ar:Nat→Int→(List Int)→Option (Int×(List Int))
 |0,_,_=>none
 |k+1,x1,x5=>cond (decide (x1 > 127)) (cond (Nat.ble ((List.length x5+List.length [IntKind.wrap .u8 (IntKind.wrap .i64 ((BitVec.ofInt (IntKind.bits .i64) (IntKind.wrap .i64 ((BitVec.ofInt (IntKind.bits .i64) x1 &&& BitVec.ofInt (IntKind.bits .i64) 127).toNat)) ||| BitVec.ofInt (IntKind.bits .i64) 128).toNat))]) * 1) 140737488355328) (Ar k (Int.fdiv x1 (2 ^ (min (Int.toNat 7) (IntKind.bits .i64)))) (x5++[IntKind.wrap .u8 (IntKind.wrap .i64 ((BitVec.ofInt (IntKind.bits .i64) (IntKind.wrap .i64 ((BitVec.ofInt (IntKind.bits .i64) x1 &&& BitVec.ofInt (IntKind.bits .i64) 127).toNat)) ||| BitVec.ofInt (IntKind.bits .i64) 128).toNat))])) none) (some (x1,x5))
def Ax (k:Nat) (a0:List Int) (a1:Int):Option (List Int):=cond (Nat.ble ((List.length ([]:List Int)+List.length a0) * 1) 140737488355328) (cond (decide (a1 > 1000000000)) (cond (decide ((1000000000:Int)<0)) ((Ar k 0 (([]:List Int)++a0)).bind λ r1=>cond (Nat.ble ((List.length r1.2+List.length [IntKind.wrap .u8 r1.1]) * 1) 140737488355328) (some (r1.2++[IntKind.wrap .u8 r1.1])) none) ((Ar k 1000000000 (([]:List Int)++a0)).bind λ r3=>cond (Nat.ble ((List.length r3.2+List.length [IntKind.wrap .u8 r3.1]) * 1) 140737488355328) (some (r3.2++[IntKind.wrap .u8 r3.1])) none)) (cond (decide (a1<0)) ((Ar k 0 (([]:List Int)++a0)).bind λ r5=>cond (Nat.ble ((List.length r5.2+List.length [IntKind.wrap .u8 r5.1]) * 1) 140737488355328) (some (r5.2++[IntKind.wrap .u8 r5.1])) none) ((Ar k a1 (([]:List Int)++a0)).bind λ r7=>cond (Nat.ble ((List.length r7.2+List.length [IntKind.wrap .u8 r7.1]) * 1) 140737488355328) (some (r7.2++[IntKind.wrap .u8 r7.1])) none))) none
def Dl (k:Nat) (a0:List Int) (a1:ByteArray):Option (List Int):=(Ax k a0 (ByteArray.size a1:Int)).bind λ r1=>cond (Nat.ble ((List.length r1+ByteArray.size a1) * 1) 140737488355328) (some (r1++bytesOf a1)) none
def Dm (k:Nat) (a0:List Int) (a1:Int×Int×Int):Option (List Int):=(Ax k a0 a1.1).bind λ r1=>(Ax k r1 a1.2.1).bind λ r2=>(Ax k r2 a1.2.2).bind λ r3=>some r3
def Ev (a0:Bool):Option (Int):=cond a0 (some 1) (some 0)
def Dx:Nat→(List Int)→Int→Int→Int→Option ((List Int)×Int×Int)
 |0,_,_,_,_=>none
 |k+1,x0,x3,x4,x5=>cond (decide (x5<8)) (cond ((IntKind.wrap .i64 ((BitVec.ofInt (IntKind.bits .i64) x3 &&& BitVec.ofInt (IntKind.bits .i64) 1).toNat))==1) (Dx k x0 (IntKind.wrap .i64 ((BitVec.ofInt (IntKind.bits .i64) (Int.fdiv x3 (2 ^ (min (Int.toNat 1) (IntKind.bits .i64)))) ^^^ BitVec.ofInt (IntKind.bits .i64) 2197175160).toNat)) x4 (IntKind.wrap .i64 (x5+1))) (Dx k x0 (Int.fdiv x3 (2 ^ (min (Int.toNat 1) (IntKind.bits .i64)))) x4 (IntKind.wrap .i64 (x5+1)))) (some (x0,x3,x4))
def Ed:Nat→(List Int)→Int→Int→Option (Int)
 |0,_,_,_=>none
 |k+1,x0,x3,x4=>cond (decide (x4<(List.length x0:Int))) (cond (decide ((0:Int)≤x4)) (cond (decide (x4<(List.length x0:Int))) ((Dx k x0 (IntKind.wrap .i64 ((BitVec.ofInt (IntKind.bits .i64) x3 ^^^ BitVec.ofInt (IntKind.bits .i64) (IntKind.wrap .i64 (List.getD x0 (Int.toNat x4) (0:Int)))).toNat)) x4 0).bind λ r2=>Ed k r2.1 r2.2.1 (IntKind.wrap .i64 (r2.2.2+1))) none) none) (some x3)
def G7 (k:Nat) (a0:List Int):Option (Int):=(Ed k a0 4294967295 0).bind λ r1=>some (IntKind.wrap .i64 ((BitVec.ofInt (IntKind.bits .i64) r1 ^^^ BitVec.ofInt (IntKind.bits .i64) 4294967295).toNat))
def Dn (k:Nat) (a0:(Int×Int×Int)×Bool×(List Int)):Option (List Int):=(D7 a0).bind λ r1=>cond (!r1) (some ([]:List Int)) ((Dm k ([]:List Int) a0.1).bind λ r2=>(Ev a0.2.1).bind λ r3=>(Ax k r2 r3).bind λ r4=>(Dl k r4 (Gn a0.2.2)).bind λ r5=>(G7 k r5).bind λ r6=>cond (Nat.ble ((List.length r5+List.length [IntKind.wrap .u8 (Int.fdiv r6 (2 ^ (min (Int.toNat 24) (IntKind.bits .i64)))),IntKind.wrap .u8 (Int.fdiv r6 (2 ^ (min (Int.toNat 16) (IntKind.bits .i64)))),IntKind.wrap .u8 (Int.fdiv r6 (2 ^ (min (Int.toNat 8) (IntKind.bits .i64)))),IntKind.wrap .u8 r6]) * 1) 140737488355328) (some (r5++[IntKind.wrap .u8 (Int.fdiv r6 (2 ^ (min (Int.toNat 24) (IntKind.bits .i64)))),IntKind.wrap .u8 (Int.fdiv r6 (2 ^ (min (Int.toNat 16) (IntKind.bits .i64)))),IntKind.wrap .u8 (Int.fdiv r6 (2 ^ (min (Int.toNat 8) (IntKind.bits .i64)))),IntKind.wrap .u8 r6])) none)
def Dp (k:Nat) (a0:List Int):Option (((Int×Int×Int)×Bool×(List Int))×Bool):=(Bo k a0 0).bind λ r1=>(Aw k a0 r1.2.1).bind λ r2=>(Dj k a0 r2.2.1).bind λ r3=>cond (!r1.2.2) (some (((0,0,0),false,([]:List Int)),false)) (cond (!r2.2.2) (some (((0,0,0),false,([]:List Int)),false)) (cond (!r3.2.2) (some (((0,0,0),false,([]:List Int)),false)) (cond (decide (r2.1 > 1)) (some (((0,0,0),false,([]:List Int)),false)) (cond ((IntKind.wrap .i64 (r3.2.1+4)) != (List.length a0:Int)) (some (((0,0,0),false,([]:List Int)),false)) (cond (Nat.ble ((List.length ([]:List Int)+ByteArray.size r3.1) * 1) 140737488355328) (let v4:List Int:=([]:List Int)++bytesOf r3.1; (D7 (r1.1,r2.1==1,v4)).bind λ r5=>cond (!r5) (some (((0,0,0),false,([]:List Int)),false)) ((Dn k (r1.1,r2.1==1,v4)).bind λ r6=>cond (!((Gn r6).toList==(Gn a0).toList)) (some (((0,0,0),false,([]:List Int)),false)) (some ((r1.1,r2.1==1,v4),true)))) none)))))
def Cf (a0:Int×Int×Int) (a1:Int×Int×Int):Option (Bool):=cond (a0.1 != a1.1) (some (decide (a0.1<a1.1))) (cond (a0.2.1 != a1.2.1) (some (decide (a0.2.1<a1.2.1))) (some (decide (a0.2.2<a1.2.2))))
def Fc (a0:(Int×Int×Int)×Bool×(List Int)) (a1:(Int×Int×Int)×Bool×(List Int)):Option (Bool):=(Cf a1.1 a0.1).bind λ r1=>some r1
def Ay:Nat→Int→y1→(ByteArray×((Int×Int×Int)×Bool×(List Int))×Bool)→Option (Sum (Bool) (Unit))
 |0,_,_,_=>none
 |k+1,x5,x3000,x4000=>cond (decide (x5<(List.length x3000.2.2.1:Int))) (cond (decide ((0:Int)≤x5)) (cond (decide (x5<(List.length x3000.2.2.1:Int))) (let v1:=List.getD x3000.2.2.1 (Int.toNat x5) ((0:Int),(([],[]),([],[]))); (Fp k v1.2.1.2 x4000.1).bind λ r2=>cond (decide (r2<0)) (Ay k (IntKind.wrap .i64 (x5+1)) x3000 x4000) (cond (decide ((0:Int)≤r2)) (cond (decide (r2<(List.length v1.2.1.2:Int))) ((Dp k (List.getD v1.2.1.2 (Int.toNat r2) ((⟨#[]⟩:ByteArray),[])).2).bind λ r4=>cond r4.2 ((Fc x4000.2.1 r4.1).bind λ r5=>cond (!r5) (some (.inl true)) (Ay k (IntKind.wrap .i64 (x5+1)) x3000 x4000)) (Ay k (IntKind.wrap .i64 (x5+1)) x3000 x4000)) none) none)) none) none) (some (.inr ()))
def Bc (k:Nat) (a0:y1) (a1:ByteArray×((Int×Int×Int)×Bool×(List Int))×Bool):Option (Bool):=(Ay k 0 a0 a1).bind λ r1=>Sum.elim (λ y2=>some y2) (λ z3=>some false) r1
def Cw:Nat→Int→y1→Option (Sum (Bool) (Unit))
 |0,_,_=>none
 |k+1,x3,x2000=>cond (decide (x3<(List.length x2000.2.2.2.2.1:Int))) (cond (decide ((0:Int)≤x3)) (cond (decide (x3<(List.length x2000.2.2.2.2.1:Int))) (let v1:=List.getD x2000.2.2.2.2.1 (Int.toNat x3) ((⟨#[]⟩:ByteArray),((((0:Int),((0:Int),(0:Int))),(false,[])),false)); cond v1.2.2 ((Dw k x2000.2.2.2.2.2 v1.1).bind λ r2=>cond (!r2) ((Bc k x2000 v1).bind λ r3=>cond (!r3) (some (.inl false)) (Cw k (IntKind.wrap .i64 (x3+1)) x2000)) (Cw k (IntKind.wrap .i64 (x3+1)) x2000)) (Cw k (IntKind.wrap .i64 (x3+1)) x2000)) none) none) (some (.inr ()))
def E4 (k:Nat) (a0:y1):Option (Bool):=(Cw k 0 a0).bind λ r1=>Sum.elim (λ y2=>some y2) (λ z3=>some true) r1
def Fs (a0:Int×Int×Int):Option (Int×Int×Int):=some a0
def Cg:Nat→(List (Int×Int×Int))→(List (Int×Int×Int))→Int→Option (List (Int×Int×Int))
 |0,_,_,_=>none
 |k+1,x0,x3,x4=>cond (decide (x4<(List.length x0:Int))) (cond (decide ((0:Int)≤x4)) (cond (decide (x4<(List.length x0:Int))) ((Fs (List.getD x0 (Int.toNat x4) ((0:Int),((0:Int),(0:Int))))).bind λ r2=>cond (decide ((0:Int)≤x4)) (cond (decide (x4<(List.length x3:Int))) (Cg k x0 (List.set x3 (Int.toNat x4) r2) (IntKind.wrap .i64 (x4+1))) none) none) none) none) (some x3)
def C9 (k:Nat) (a0:List (Int×Int×Int)):Option (List (Int×Int×Int)):=cond (decide ((List.length a0:Int)=(List.length a0:Int))) (cond (decide ((0:Int)≤(List.length a0:Int))) (cond (decide ((List.length a0:Int) * (24:Nat)≤140737488355328)) ((Cg k a0 (List.replicate (Int.toNat (List.length a0:Int)) ((0:Int),((0:Int),(0:Int)))) 0).bind λ r1=>some r1) none) none) none
def Ch:Nat→(List Int)→(List Int)→Int→Option (List Int)
 |0,_,_,_=>none
 |k+1,x0,x3,x4=>cond (decide (x4<(List.length x0:Int))) (cond (decide ((0:Int)≤x4)) (cond (decide (x4<(List.length x0:Int))) (cond (decide ((0:Int)≤x4)) (cond (decide (x4<(List.length x3:Int))) (Ch k x0 (List.set x3 (Int.toNat x4) (List.getD x0 (Int.toNat x4) (0:Int))) (IntKind.wrap .i64 (x4+1))) none) none) none) none) (some x3)
def Dy (k:Nat) (a0:List Int):Option (List Int):=cond (decide ((List.length a0:Int)=(List.length a0:Int))) (cond (decide ((0:Int)≤(List.length a0:Int))) (cond (decide ((List.length a0:Int) * (8:Nat)≤140737488355328)) ((Ch k a0 (List.replicate (Int.toNat (List.length a0:Int)) (0:Int)) 0).bind λ r1=>some r1) none) none) none
def Ew (k:Nat) (a0:List Int):Option (List Int):=(Dy k a0).bind λ r1=>some r1
def Bp:Nat→(List (List Int))→(List (List Int))→Int→Option (List (List Int))
 |0,_,_,_=>none
 |k+1,x0,x3,x4=>cond (decide (x4<(List.length x0:Int))) (cond (decide ((0:Int)≤x4)) (cond (decide (x4<(List.length x0:Int))) ((Ew k (List.getD x0 (Int.toNat x4) [])).bind λ r2=>cond (decide ((0:Int)≤x4)) (cond (decide (x4<(List.length x3:Int))) (Bp k x0 (List.set x3 (Int.toNat x4) r2) (IntKind.wrap .i64 (x4+1))) none) none) none) none) (some x3)
def Bd (k:Nat) (a0:List (List Int)):Option (List (List Int)):=cond (decide ((List.length a0:Int)=(List.length a0:Int))) (cond (decide ((0:Int)≤(List.length a0:Int))) (cond (decide ((List.length a0:Int) * (24:Nat)≤140737488355328)) ((Bp k a0 (List.replicate (Int.toNat (List.length a0:Int)) []) 0).bind λ r1=>some r1) none) none) none
def Ey (k:Nat) (a0:Int×(List (List Int))):Option (Int×(List (List Int))):=(Bd k a0.2).bind λ r1=>some (a0.1,r1)
def Bq:Nat→(List Int)→(List Int)→Int→Option (List Int)
 |0,_,_,_=>none
 |k+1,x0,x3,x4=>cond (decide (x4<(List.length x0:Int))) (cond (decide ((0:Int)≤x4)) (cond (decide (x4<(List.length x0:Int))) (cond (decide ((0:Int)≤x4)) (cond (decide (x4<(List.length x3:Int))) (Bq k x0 (List.set x3 (Int.toNat x4) (List.getD x0 (Int.toNat x4) (0:Int))) (IntKind.wrap .i64 (x4+1))) none) none) none) none) (some x3)
def Br (k:Nat) (a0:List Int):Option (List Int):=cond (decide ((List.length a0:Int)=(List.length a0:Int))) (cond (decide ((0:Int)≤(List.length a0:Int))) (cond (decide ((List.length a0:Int) * (1:Nat)≤140737488355328)) ((Bq k a0 (List.replicate (Int.toNat (List.length a0:Int)) (0:Int)) 0).bind λ r1=>some r1) none) none) none
def E8 (k:Nat) (a0:ByteArray×(List Int)):Option (ByteArray×(List Int)):=(Br k a0.2).bind λ r1=>some (a0.1,r1)
def B4:Nat→(List (ByteArray×(List Int)))→(List (ByteArray×(List Int)))→Int→Option (List (ByteArray×(List Int)))
 |0,_,_,_=>none
 |k+1,x0,x3,x4=>cond (decide (x4<(List.length x0:Int))) (cond (decide ((0:Int)≤x4)) (cond (decide (x4<(List.length x0:Int))) ((E8 k (List.getD x0 (Int.toNat x4) ((⟨#[]⟩:ByteArray),[]))).bind λ r2=>cond (decide ((0:Int)≤x4)) (cond (decide (x4<(List.length x3:Int))) (B4 k x0 (List.set x3 (Int.toNat x4) r2) (IntKind.wrap .i64 (x4+1))) none) none) none) none) (some x3)
def Am (k:Nat) (a0:List (ByteArray×(List Int))):Option (List (ByteArray×(List Int))):=cond (decide ((List.length a0:Int)=(List.length a0:Int))) (cond (decide ((0:Int)≤(List.length a0:Int))) (cond (decide ((List.length a0:Int) * (40:Nat)≤140737488355328)) ((B4 k a0 (List.replicate (Int.toNat (List.length a0:Int)) ((⟨#[]⟩:ByteArray),[])) 0).bind λ r1=>some r1) none) none) none
def Ez (k:Nat) (a0:(List (ByteArray×(List Int)))×(List (ByteArray×(List Int)))):Option ((List (ByteArray×(List Int)))×(List (ByteArray×(List Int)))):=(Am k a0.1).bind λ r1=>(Am k a0.2).bind λ r2=>some (r1,r2)
def An (a0:Int×Int×Int):Option (Int×Int×Int):=some a0
def Ft (a0:ByteArray×(Int×Int×Int)×Bool×Int):Option (ByteArray×(Int×Int×Int)×Bool×Int):=(An a0.2.1).bind λ r1=>some (a0.1,r1,a0.2.2)
def Ci:Nat→(List (ByteArray×(Int×Int×Int)×Bool×Int))→(List (ByteArray×(Int×Int×Int)×Bool×Int))→Int→Option (List (ByteArray×(Int×Int×Int)×Bool×Int))
 |0,_,_,_=>none
 |k+1,x0,x3,x4=>cond (decide (x4<(List.length x0:Int))) (cond (decide ((0:Int)≤x4)) (cond (decide (x4<(List.length x0:Int))) ((Ft (List.getD x0 (Int.toNat x4) ((⟨#[]⟩:ByteArray),(((0:Int),((0:Int),(0:Int))),(false,(0:Int)))))).bind λ r2=>cond (decide ((0:Int)≤x4)) (cond (decide (x4<(List.length x3:Int))) (Ci k x0 (List.set x3 (Int.toNat x4) r2) (IntKind.wrap .i64 (x4+1))) none) none) none) none) (some x3)
def Bs (k:Nat) (a0:List (ByteArray×(Int×Int×Int)×Bool×Int)):Option (List (ByteArray×(Int×Int×Int)×Bool×Int)):=cond (decide ((List.length a0:Int)=(List.length a0:Int))) (cond (decide ((0:Int)≤(List.length a0:Int))) (cond (decide ((List.length a0:Int) * (56:Nat)≤140737488355328)) ((Ci k a0 (List.replicate (Int.toNat (List.length a0:Int)) ((⟨#[]⟩:ByteArray),(((0:Int),((0:Int),(0:Int))),(false,(0:Int))))) 0).bind λ r1=>some r1) none) none) none
def F3 (k:Nat) (a0:y0):Option y0:=(Ez k a0.2.1).bind λ r1=>(Bs k a0.2.2.1).bind λ r2=>(Bs k a0.2.2.2).bind λ r3=>some (a0.1,r1,r2,r3)
def Bt:Nat→(List y0)→(List y0)→Int→Option (List y0)
 |0,_,_,_=>none
 |k+1,x0,x3,x4=>cond (decide (x4<(List.length x0:Int))) (cond (decide ((0:Int)≤x4)) (cond (decide (x4<(List.length x0:Int))) ((F3 k (List.getD x0 (Int.toNat x4) ((0:Int),(([],[]),([],[]))))).bind λ r2=>cond (decide ((0:Int)≤x4)) (cond (decide (x4<(List.length x3:Int))) (Bt k x0 (List.set x3 (Int.toNat x4) r2) (IntKind.wrap .i64 (x4+1))) none) none) none) none) (some x3)
def Be (k:Nat) (a0:List y0):Option (List y0):=cond (decide ((List.length a0:Int)=(List.length a0:Int))) (cond (decide ((0:Int)≤(List.length a0:Int))) (cond (decide ((List.length a0:Int) * (104:Nat)≤140737488355328)) ((Bt k a0 (List.replicate (Int.toNat (List.length a0:Int)) ((0:Int),(([],[]),([],[])))) 0).bind λ r1=>some r1) none) none) none
def Ee (k:Nat) (a0:(Int×Int×Int)×Bool×(List Int)):Option ((Int×Int×Int)×Bool×(List Int)):=(An a0.1).bind λ r1=>(Br k a0.2.2).bind λ r2=>some (r1,a0.2.1,r2)
def E9 (k:Nat) (a0:ByteArray×((Int×Int×Int)×Bool×(List Int))×Bool):Option (ByteArray×((Int×Int×Int)×Bool×(List Int))×Bool):=(Ee k a0.2.1).bind λ r1=>some (a0.1,r1,a0.2.2)
def B5:Nat→(List (ByteArray×((Int×Int×Int)×Bool×(List Int))×Bool))→(List (ByteArray×((Int×Int×Int)×Bool×(List Int))×Bool))→Int→Option (List (ByteArray×((Int×Int×Int)×Bool×(List Int))×Bool))
 |0,_,_,_=>none
 |k+1,x0,x3,x4=>cond (decide (x4<(List.length x0:Int))) (cond (decide ((0:Int)≤x4)) (cond (decide (x4<(List.length x0:Int))) ((E9 k (List.getD x0 (Int.toNat x4) ((⟨#[]⟩:ByteArray),((((0:Int),((0:Int),(0:Int))),(false,[])),false)))).bind λ r2=>cond (decide ((0:Int)≤x4)) (cond (decide (x4<(List.length x3:Int))) (B5 k x0 (List.set x3 (Int.toNat x4) r2) (IntKind.wrap .i64 (x4+1))) none) none) none) none) (some x3)
def Au (k:Nat) (a0:List (ByteArray×((Int×Int×Int)×Bool×(List Int))×Bool)):Option (List (ByteArray×((Int×Int×Int)×Bool×(List Int))×Bool)):=cond (decide ((List.length a0:Int)=(List.length a0:Int))) (cond (decide ((0:Int)≤(List.length a0:Int))) (cond (decide ((List.length a0:Int) * (80:Nat)≤140737488355328)) ((B5 k a0 (List.replicate (Int.toNat (List.length a0:Int)) ((⟨#[]⟩:ByteArray),((((0:Int),((0:Int),(0:Int))),(false,[])),false))) 0).bind λ r1=>some r1) none) none) none
def Az:Nat→(List ByteArray)→(List ByteArray)→Int→Option (List ByteArray)
 |0,_,_,_=>none
 |k+1,x0,x3,x4=>cond (decide (x4<(List.length x0:Int))) (cond (decide ((0:Int)≤x4)) (cond (decide (x4<(List.length x0:Int))) (cond (decide ((0:Int)≤x4)) (cond (decide (x4<(List.length x3:Int))) (Az k x0 (List.set x3 (Int.toNat x4) (List.getD x0 (Int.toNat x4) (⟨#[]⟩:ByteArray))) (IntKind.wrap .i64 (x4+1))) none) none) none) none) (some x3)
def C4 (k:Nat) (a0:List ByteArray):Option (List ByteArray):=cond (decide ((List.length a0:Int)=(List.length a0:Int))) (cond (decide ((0:Int)≤(List.length a0:Int))) (cond (decide ((List.length a0:Int) * (16:Nat)≤140737488355328)) ((Az k a0 (List.replicate (Int.toNat (List.length a0:Int)) (⟨#[]⟩:ByteArray)) 0).bind λ r1=>some r1) none) none) none
def Cy (k:Nat) (a0:y1):Option y1:=(C9 k a0.1).bind λ r1=>(Ey k a0.2.1).bind λ r2=>(Be k a0.2.2.1).bind λ r3=>(An a0.2.2.2.1).bind λ r4=>(Au k a0.2.2.2.2.1).bind λ r5=>(C4 k a0.2.2.2.2.2).bind λ r6=>some (r1,r2,r3,r4,r5,r6)
def Bu:Nat→ByteArray→(List ByteArray)→Int→Int→Option (Sum (Bool) (Unit))
 |0,_,_,_,_=>none
 |k+1,x1,x7,x8,x9=>cond (decide (x9<x8)) (cond (decide ((0:Int)≤x9)) (cond (decide (x9<(List.length x7:Int))) (cond ((List.getD x7 (Int.toNat x9) (⟨#[]⟩:ByteArray)).toList==x1.toList) (some (.inl true)) (Bu k x1 x7 x8 (IntKind.wrap .i64 (x9+1)))) none) none) (some (.inr ()))
def Dc (k:Nat) (a0:List ByteArray) (a1:ByteArray):Option (Bool):=(Bu k a1 a0 (List.length a0:Int) 0).bind λ r1=>Sum.elim (λ y2=>some y2) (λ z3=>some false) r1
def Fe:Nat→ByteArray→(List (ByteArray×(List Int)))→Int→Int→Option (Sum (Int) (Unit))
 |0,_,_,_,_=>none
 |k+1,x1,x7,x8,x9=>cond (decide (x9<x8)) (cond (decide ((0:Int)≤x9)) (cond (decide (x9<(List.length x7:Int))) (cond ((List.getD x7 (Int.toNat x9) ((⟨#[]⟩:ByteArray),[])).1.toList==x1.toList) (some (.inl x9)) (Fe k x1 x7 x8 (IntKind.wrap .i64 (x9+1)))) none) none) (some (.inr ()))
def Ha (k:Nat) (a0:List (ByteArray×(List Int))) (a1:ByteArray):Option (Int):=(Fe k a1 a0 (List.length a0:Int) 0).bind λ r1=>Sum.elim (λ y2=>some y2) (λ z3=>some (-1)) r1
def C5:Nat→(List Int)→Int→Int→Int→Option (Sum (Int×Int×Bool) (Unit))
 |0,_,_,_,_=>none
 |k+1,x0,x1,x7,x8=>cond (decide (x8<5)) (cond (decide (x1≥0)) (cond (decide (x1<(IntKind.wrap .i64 ((List.length x0:Int) - x8)))) (cond (decide ((0:Int)≤IntKind.wrap .i64 (x1+x8))) (cond (decide (IntKind.wrap .i64 (x1+x8)<(List.length x0:Int))) (let v1:=List.getD x0 (Int.toNat (IntKind.wrap .i64 (x1+x8))) (0:Int); cond (decide ((IntKind.wrap .i64 (7 * x8))<0)) none (cond (decide ((IntKind.wrap .i64 v1)≥128)) (C5 k x0 x1 (IntKind.wrap .i64 (x7+(IntKind.wrap .i64 ((Int.tmod (IntKind.wrap .i64 v1) 128) * 2 ^ (min (Int.toNat (IntKind.wrap .i64 (7 * x8))) (IntKind.bits .i64)))))) (IntKind.wrap .i64 (x8+1))) (cond ((IntKind.wrap .i64 v1)==0) (cond (decide (x8 > 0)) (some (.inl (0,0,false))) (cond (decide ((IntKind.wrap .i64 (x7+(IntKind.wrap .i64 ((Int.tmod (IntKind.wrap .i64 v1) 128) * 2 ^ (min (Int.toNat (IntKind.wrap .i64 (7 * x8))) (IntKind.bits .i64)))))) > 1000000000)) (some (.inl (0,0,false))) (some (.inl (IntKind.wrap .i64 (x7+(IntKind.wrap .i64 ((Int.tmod (IntKind.wrap .i64 v1) 128) * 2 ^ (min (Int.toNat (IntKind.wrap .i64 (7 * x8))) (IntKind.bits .i64))))),IntKind.wrap .i64 ((IntKind.wrap .i64 (x1+x8))+1),true))))) (cond (decide ((IntKind.wrap .i64 (x7+(IntKind.wrap .i64 ((Int.tmod (IntKind.wrap .i64 v1) 128) * 2 ^ (min (Int.toNat (IntKind.wrap .i64 (7 * x8))) (IntKind.bits .i64)))))) > 1000000000)) (some (.inl (0,0,false))) (some (.inl (IntKind.wrap .i64 (x7+(IntKind.wrap .i64 ((Int.tmod (IntKind.wrap .i64 v1) 128) * 2 ^ (min (Int.toNat (IntKind.wrap .i64 (7 * x8))) (IntKind.bits .i64))))),IntKind.wrap .i64 ((IntKind.wrap .i64 (x1+x8))+1),true))))))) none) none) (some (.inr ()))) (some (.inr ()))) (some (.inr ()))
def Cu (k:Nat) (a0:List Int) (a1:Int):Option (Int×Int×Bool):=(C5 k a0 a1 0 0).bind λ r1=>Sum.elim (λ y2=>some (y2.1,y2.2.1,y2.2.2)) (λ z3=>some (0,0,false)) r1
def Ao (k:Nat) (a0:(List Int)×Int×Bool):Option (Int×((List Int)×Int×Bool)):=(Cu k a0.1 a0.2.1).bind λ r1=>cond a0.2.2 (some (0,(a0.1,a0.2.1,true))) (cond (!r1.2.2) (some (0,(a0.1,a0.2.1,true))) (some (r1.1,(a0.1,r1.2.1,a0.2.2))))
def B0 (k:Nat) (a0:(List Int)×Int×Bool):Option ((Int×Int×Int)×Bool×((List Int)×Int×Bool)):=(Ao k a0).bind λ r1=>(Ao k r1.2).bind λ r2=>(Ao k r2.2).bind λ r3=>(Ao k r3.2).bind λ r4=>cond r4.2.2.2 (some ((r1.1,r2.1,r3.1),r4.1==1,(r4.2.1,r4.2.2.1,true))) (some ((r1.1,r2.1,r3.1),r4.1==1,(r4.2.1,r4.2.2.1,decide (r4.1 > 1))))
def Dq (k:Nat) (a0:List Int) (a1:Int):Option (ByteArray×Int×Bool):=(Cu k a0 a1).bind λ r1=>cond (!r1.2.2) (some ((⟨#[]⟩:ByteArray),0,false)) (cond (decide (r1.1 > (IntKind.wrap .i64 ((List.length a0:Int) - r1.2.1)))) (some ((⟨#[]⟩:ByteArray),0,false)) (cond (decide ((0:Int)≤r1.2.1)) (cond (decide (r1.2.1≤IntKind.wrap .i64 (r1.2.1+r1.1))) (cond (decide (IntKind.wrap .i64 (r1.2.1+r1.1)≤(List.length a0:Int))) (some (Gn (List.drop (Int.toNat r1.2.1) (List.take (Int.toNat (IntKind.wrap .i64 (r1.2.1+r1.1))) a0)),IntKind.wrap .i64 (r1.2.1+r1.1),true)) none) none) none))
def Aj (k:Nat) (a0:(List Int)×Int×Bool):Option (ByteArray×((List Int)×Int×Bool)):=(Dq k a0.1 a0.2.1).bind λ r1=>cond a0.2.2 (some ((⟨#[]⟩:ByteArray),(a0.1,a0.2.1,true))) (cond (!r1.2.2) (some ((⟨#[]⟩:ByteArray),(a0.1,a0.2.1,true))) (some (r1.1,(a0.1,r1.2.1,a0.2.2))))
def H0 (a0:Int) (a1:Int) (a2:Int):Option (Bool):=cond (decide (a0≥a1)) (some (decide (a0≤a2))) (some false)
def Dr (a0:Int×Int×Int):Option (Bool):=(H0 a0.1 0 1000000000).bind λ r1=>cond r1 ((H0 a0.2.1 0 1000000).bind λ r2=>cond r2 ((H0 a0.2.2 0 20).bind λ r3=>some r3) (some false)) (some false)
def Ef (a0:(Int×Int×Int)×Bool×(List Int)):Option (Bool):=(Dr a0.1).bind λ r1=>cond r1 (cond (decide ((List.length a0.2.2:Int)≤200)) (cond (!a0.2.1) (some true) (some ((List.length a0.2.2:Int)==0))) (some false)) (some false)
def Cj:Nat→(List Int)→Int→Option ((List Int)×Int)
 |0,_,_=>none
 |k+1,x0,x1=>cond (decide (x1 > 127)) (cond (Nat.ble ((List.length x0+List.length [IntKind.wrap .u8 (IntKind.wrap .i64 ((Int.tmod x1 128)+128))]) * 1) 140737488355328) (Cj k (x0++[IntKind.wrap .u8 (IntKind.wrap .i64 ((Int.tmod x1 128)+128))]) (IntKind.wrap .i64 (Int.tdiv x1 128))) none) (some (x0,x1))
def Bh (k:Nat) (a0:List Int) (a1:Int):Option (List Int):=let v1:=if (1000000000:Int)<a1 then 1000000000 else a1; (Cj k a0 (if (0:Int)<v1 then v1 else 0)).bind λ r3=>cond (Nat.ble ((List.length r3.1+List.length [IntKind.wrap .u8 r3.2]) * 1) 140737488355328) (some (r3.1++[IntKind.wrap .u8 r3.2])) none
def Ds (k:Nat) (a0:List Int) (a1:ByteArray):Option (List Int):=(Bh k a0 (ByteArray.size a1:Int)).bind λ r1=>cond (Nat.ble ((List.length r1+ByteArray.size a1) * 1) 140737488355328) (some (r1++bytesOf a1)) none
def H4 (a0:Bool):Option (Int):=cond a0 (some 1) (some 0)
def D8 (k:Nat) (a0:List Int) (a1:Int×Int×Int) (a2:Bool):Option (List Int):=(Bh k a0 a1.1).bind λ r1=>(Bh k r1 a1.2.1).bind λ r2=>(Bh k r2 a1.2.2).bind λ r3=>(H4 a2).bind λ r4=>(Bh k r3 r4).bind λ r5=>some r5
def Dz:Nat→Int→(List Int)→Int→Int→Int→Option (Int×(List Int)×Int×Int)
 |0,_,_,_,_,_=>none
 |k+1,x3,x7,x8,x9,x17=>cond (decide (x17<8)) (cond ((IntKind.wrap .u32 ((BitVec.ofInt (IntKind.bits .u32) x3 &&& BitVec.ofInt (IntKind.bits .u32) 1).toNat))==1) (Dz k (IntKind.wrap .u32 ((BitVec.ofInt (IntKind.bits .u32) (Int.fdiv x3 (2 ^ (min (Int.toNat 1) (IntKind.bits .u32)))) ^^^ BitVec.ofInt (IntKind.bits .u32) 2197175160).toNat)) x7 x8 x9 (IntKind.wrap .i64 (x17+1))) (Dz k (Int.fdiv x3 (2 ^ (min (Int.toNat 1) (IntKind.bits .u32)))) x7 x8 x9 (IntKind.wrap .i64 (x17+1)))) (some (x3,x7,x8,x9))
def Eg:Nat→Int→(List Int)→Int→Int→Option (Int)
 |0,_,_,_,_=>none
 |k+1,x3,x7,x8,x9=>cond (decide (x9<x8)) (cond (decide ((0:Int)≤x9)) (cond (decide (x9<(List.length x7:Int))) ((Dz k (IntKind.wrap .u32 ((BitVec.ofInt (IntKind.bits .u32) x3 ^^^ BitVec.ofInt (IntKind.bits .u32) (IntKind.wrap .u32 (List.getD x7 (Int.toNat x9) (0:Int)))).toNat)) x7 x8 x9 0).bind λ r2=>Eg k r2.1 r2.2.1 r2.2.2.1 (IntKind.wrap .i64 (r2.2.2.2+1))) none) none) (some x3)
def G8 (k:Nat) (a0:List Int):Option (Int):=(Eg k 4294967295 a0 (List.length a0:Int) 0).bind λ r1=>some (IntKind.wrap .i64 (IntKind.wrap .u32 ((BitVec.ofInt (IntKind.bits .u32) (if IntKind.signed .u32 then -1 else IntKind.max .u32) ^^^ BitVec.ofInt (IntKind.bits .u32) r1).toNat)))
def Dt (k:Nat) (a0:(Int×Int×Int)×Bool×(List Int)):Option (List Int):=(Ef a0).bind λ r1=>cond (!r1) (some ([]:List Int)) ((D8 k ([]:List Int) a0.1 a0.2.1).bind λ r2=>(Ds k r2 (Gn a0.2.2)).bind λ r3=>(G8 k r3).bind λ r4=>cond (Nat.ble ((List.length r3+List.length [IntKind.wrap .u8 (Int.fdiv r4 (2 ^ (min (Int.toNat 24) (IntKind.bits .i64)))),IntKind.wrap .u8 (Int.fdiv r4 (2 ^ (min (Int.toNat 16) (IntKind.bits .i64)))),IntKind.wrap .u8 (Int.fdiv r4 (2 ^ (min (Int.toNat 8) (IntKind.bits .i64)))),IntKind.wrap .u8 r4]) * 1) 140737488355328) (some (r3++[IntKind.wrap .u8 (Int.fdiv r4 (2 ^ (min (Int.toNat 24) (IntKind.bits .i64)))),IntKind.wrap .u8 (Int.fdiv r4 (2 ^ (min (Int.toNat 16) (IntKind.bits .i64)))),IntKind.wrap .u8 (Int.fdiv r4 (2 ^ (min (Int.toNat 8) (IntKind.bits .i64)))),IntKind.wrap .u8 r4])) none)
def Du (k:Nat) (a0:List Int):Option (((Int×Int×Int)×Bool×(List Int))×Bool):=(B0 k (a0,0,false)).bind λ r1=>(Aj k r1.2.2).bind λ r2=>cond (Nat.ble (ByteArray.size r2.1) 140737488355328) ((Dt k (r1.1,r1.2.1,bytesOf r2.1)).bind λ r3=>cond r2.2.2.2 (some (((0,0,0),false,([]:List Int)),false)) (cond ((List.length r3:Int)==0) (some (((0,0,0),false,([]:List Int)),false)) (cond (!((Gn r3).toList==(Gn a0).toList)) (some (((0,0,0),false,([]:List Int)),false)) (some ((r1.1,r1.2.1,bytesOf r2.1),true))))) none
def Ck (a0:Int×Int×Int) (a1:Int×Int×Int):Option (Bool):=cond (a0.1 != a1.1) (some (decide (a0.1<a1.1))) (cond (a0.2.1 != a1.2.1) (some (decide (a0.2.1<a1.2.1))) (some (decide (a0.2.2<a1.2.2))))
def C8:Nat→ByteArray→(List y0)→Int→Int→(Int×Int×Int)→Option (Sum (Bool) (Unit))
 |0,_,_,_,_,_=>none
 |k+1,x1,x13,x14,x15,x6000=>cond (decide (x15<x14)) (cond (decide ((0:Int)≤x15)) (cond (decide (x15<(List.length x13:Int))) (let v1:=List.getD x13 (Int.toNat x15) ((0:Int),(([],[]),([],[]))); (Ha k v1.2.1.2 x1).bind λ r2=>cond (decide (r2<0)) (C8 k x1 x13 x14 (IntKind.wrap .i64 (x15+1)) x6000) (cond (decide ((0:Int)≤r2)) (cond (decide (r2<(List.length v1.2.1.2:Int))) ((Du k (List.getD v1.2.1.2 (Int.toNat r2) ((⟨#[]⟩:ByteArray),[])).2).bind λ r4=>cond r4.2 ((Ck r4.1.1 x6000).bind λ r5=>cond (!r5) (some (.inl true)) (C8 k x1 x13 x14 (IntKind.wrap .i64 (x15+1)) x6000)) (C8 k x1 x13 x14 (IntKind.wrap .i64 (x15+1)) x6000)) none) none)) none) none) (some (.inr ()))
def Db (k:Nat) (a0:y1) (a1:ByteArray) (a2:Int×Int×Int):Option (Bool):=(C8 k a1 a0.2.2.1 (List.length a0.2.2.1:Int) 0 a2).bind λ r1=>Sum.elim (λ y2=>some y2) (λ z3=>some false) r1
def Cz:Nat→(List (ByteArray×((Int×Int×Int)×Bool×(List Int))×Bool))→Int→Int→y1→Option (Sum (Bool) (Unit))
 |0,_,_,_,_=>none
 |k+1,x6,x7,x8,x2000=>cond (decide (x8<x7)) (cond (decide ((0:Int)≤x8)) (cond (decide (x8<(List.length x6:Int))) (let v1:=List.getD x6 (Int.toNat x8) ((⟨#[]⟩:ByteArray),((((0:Int),((0:Int),(0:Int))),(false,[])),false)); cond v1.2.2 ((Dc k x2000.2.2.2.2.2 v1.1).bind λ r2=>cond (!r2) ((Db k x2000 v1.1 v1.2.1.1).bind λ r3=>cond (!r3) (some (.inl false)) (Cz k x6 x7 (IntKind.wrap .i64 (x8+1)) x2000)) (Cz k x6 x7 (IntKind.wrap .i64 (x8+1)) x2000)) (Cz k x6 x7 (IntKind.wrap .i64 (x8+1)) x2000)) none) none) (some (.inr ()))
def E5 (k:Nat) (a0:y1):Option (Bool):=(Cz k a0.2.2.2.2.1 (List.length a0.2.2.2.2.1:Int) 0 a0).bind λ r1=>Sum.elim (λ y2=>some y2) (λ z3=>some true) r1
def Ff (a0:Int×Int×Int) (a1:Int×Int×Int):Option (Bool):=cond (a0.1 != a1.1) (some false) (cond (a0.2.1 != a1.2.1) (some false) (cond (a0.2.2 != a1.2.2) (some false) (some true)))
def Cl:Nat→(List (Int×Int×Int))→(List (Int×Int×Int))→Int→Option (Sum (Bool) (Unit))
 |0,_,_,_=>none
 |k+1,x0,x1,x5=>cond (decide (x5<(List.length x0:Int))) (cond (decide ((0:Int)≤x5)) (cond (decide (x5<(List.length x0:Int))) (cond (decide ((0:Int)≤x5)) (cond (decide (x5<(List.length x1:Int))) ((Ff (List.getD x0 (Int.toNat x5) ((0:Int),((0:Int),(0:Int)))) (List.getD x1 (Int.toNat x5) ((0:Int),((0:Int),(0:Int))))).bind λ r3=>cond (!r3) (some (.inl false)) (Cl k x0 x1 (IntKind.wrap .i64 (x5+1)))) none) none) none) none) (some (.inr ()))
def Ca (k:Nat) (a0:List (Int×Int×Int)) (a1:List (Int×Int×Int)):Option (Bool):=cond ((List.length a0:Int) != (List.length a1:Int)) (some false) ((Cl k a0 a1 0).bind λ r1=>Sum.elim (λ y2=>some y2) (λ z3=>some true) r1)
def Cm:Nat→(List Int)→(List Int)→Int→Option (Sum (Bool) (Unit))
 |0,_,_,_=>none
 |k+1,x0,x1,x5=>cond (decide (x5<(List.length x0:Int))) (cond (decide ((0:Int)≤x5)) (cond (decide (x5<(List.length x0:Int))) (cond (decide ((0:Int)≤x5)) (cond (decide (x5<(List.length x1:Int))) (cond ((List.getD x0 (Int.toNat x5) (0:Int)) != (List.getD x1 (Int.toNat x5) (0:Int))) (some (.inl false)) (Cm k x0 x1 (IntKind.wrap .i64 (x5+1)))) none) none) none) none) (some (.inr ()))
def E3 (k:Nat) (a0:List Int) (a1:List Int):Option (Bool):=cond ((List.length a0:Int) != (List.length a1:Int)) (some false) ((Cm k a0 a1 0).bind λ r1=>Sum.elim (λ y2=>some y2) (λ z3=>some true) r1)
def F4 (k:Nat) (a0:List Int) (a1:List Int):Option (Bool):=(E3 k a0 a1).bind λ r1=>cond (!r1) (some false) (some true)
def Bv:Nat→(List (List Int))→(List (List Int))→Int→Option (Sum (Bool) (Unit))
 |0,_,_,_=>none
 |k+1,x0,x1,x5=>cond (decide (x5<(List.length x0:Int))) (cond (decide ((0:Int)≤x5)) (cond (decide (x5<(List.length x0:Int))) (cond (decide ((0:Int)≤x5)) (cond (decide (x5<(List.length x1:Int))) ((F4 k (List.getD x0 (Int.toNat x5) []) (List.getD x1 (Int.toNat x5) [])).bind λ r3=>cond (!r3) (some (.inl false)) (Bv k x0 x1 (IntKind.wrap .i64 (x5+1)))) none) none) none) none) (some (.inr ()))
def Bf (k:Nat) (a0:List (List Int)) (a1:List (List Int)):Option (Bool):=cond ((List.length a0:Int) != (List.length a1:Int)) (some false) ((Bv k a0 a1 0).bind λ r1=>Sum.elim (λ y2=>some y2) (λ z3=>some true) r1)
def F5 (k:Nat) (a0:Int×(List (List Int))) (a1:Int×(List (List Int))):Option (Bool):=cond (a0.1 != a1.1) (some false) ((Bf k a0.2 a1.2).bind λ r1=>cond (!r1) (some false) (some true))
def Bw:Nat→(List Int)→(List Int)→Int→Option (Sum (Bool) (Unit))
 |0,_,_,_=>none
 |k+1,x0,x1,x5=>cond (decide (x5<(List.length x0:Int))) (cond (decide ((0:Int)≤x5)) (cond (decide (x5<(List.length x0:Int))) (cond (decide ((0:Int)≤x5)) (cond (decide (x5<(List.length x1:Int))) (cond ((List.getD x0 (Int.toNat x5) (0:Int)) != (List.getD x1 (Int.toNat x5) (0:Int))) (some (.inl false)) (Bw k x0 x1 (IntKind.wrap .i64 (x5+1)))) none) none) none) none) (some (.inr ()))
def Bx (k:Nat) (a0:List Int) (a1:List Int):Option (Bool):=cond ((List.length a0:Int) != (List.length a1:Int)) (some false) ((Bw k a0 a1 0).bind λ r1=>Sum.elim (λ y2=>some y2) (λ z3=>some true) r1)
def Ea (k:Nat) (a0:ByteArray×(List Int)) (a1:ByteArray×(List Int)):Option (Bool):=cond (!(a0.1.toList==a1.1.toList)) (some false) ((Bx k a0.2 a1.2).bind λ r1=>cond (!r1) (some false) (some true))
def B6:Nat→(List (ByteArray×(List Int)))→(List (ByteArray×(List Int)))→Int→Option (Sum (Bool) (Unit))
 |0,_,_,_=>none
 |k+1,x0,x1,x5=>cond (decide (x5<(List.length x0:Int))) (cond (decide ((0:Int)≤x5)) (cond (decide (x5<(List.length x0:Int))) (cond (decide ((0:Int)≤x5)) (cond (decide (x5<(List.length x1:Int))) ((Ea k (List.getD x0 (Int.toNat x5) ((⟨#[]⟩:ByteArray),[])) (List.getD x1 (Int.toNat x5) ((⟨#[]⟩:ByteArray),[]))).bind λ r3=>cond (!r3) (some (.inl false)) (B6 k x0 x1 (IntKind.wrap .i64 (x5+1)))) none) none) none) none) (some (.inr ()))
def Ap (k:Nat) (a0:List (ByteArray×(List Int))) (a1:List (ByteArray×(List Int))):Option (Bool):=cond ((List.length a0:Int) != (List.length a1:Int)) (some false) ((B6 k a0 a1 0).bind λ r1=>Sum.elim (λ y2=>some y2) (λ z3=>some true) r1)
def F6 (k:Nat) (a0:(List (ByteArray×(List Int)))×(List (ByteArray×(List Int)))) (a1:(List (ByteArray×(List Int)))×(List (ByteArray×(List Int)))):Option (Bool):=(Ap k a0.1 a1.1).bind λ r1=>cond (!r1) (some false) ((Ap k a0.2 a1.2).bind λ r2=>cond (!r2) (some false) (some true))
def B3 (a0:Int×Int×Int) (a1:Int×Int×Int):Option (Bool):=cond (a0.1 != a1.1) (some false) (cond (a0.2.1 != a1.2.1) (some false) (cond (a0.2.2 != a1.2.2) (some false) (some true)))
def Fg (a0:ByteArray×(Int×Int×Int)×Bool×Int) (a1:ByteArray×(Int×Int×Int)×Bool×Int):Option (Bool):=cond (!(a0.1.toList==a1.1.toList)) (some false) ((B3 a0.2.1 a1.2.1).bind λ r1=>cond (!r1) (some false) (cond (!(a0.2.2.1==a1.2.2.1)) (some false) (cond (a0.2.2.2 != a1.2.2.2) (some false) (some true))))
def Cn:Nat→(List (ByteArray×(Int×Int×Int)×Bool×Int))→(List (ByteArray×(Int×Int×Int)×Bool×Int))→Int→Option (Sum (Bool) (Unit))
 |0,_,_,_=>none
 |k+1,x0,x1,x5=>cond (decide (x5<(List.length x0:Int))) (cond (decide ((0:Int)≤x5)) (cond (decide (x5<(List.length x0:Int))) (cond (decide ((0:Int)≤x5)) (cond (decide (x5<(List.length x1:Int))) ((Fg (List.getD x0 (Int.toNat x5) ((⟨#[]⟩:ByteArray),(((0:Int),((0:Int),(0:Int))),(false,(0:Int))))) (List.getD x1 (Int.toNat x5) ((⟨#[]⟩:ByteArray),(((0:Int),((0:Int),(0:Int))),(false,(0:Int)))))).bind λ r3=>cond (!r3) (some (.inl false)) (Cn k x0 x1 (IntKind.wrap .i64 (x5+1)))) none) none) none) none) (some (.inr ()))
def Bz (k:Nat) (a0:List (ByteArray×(Int×Int×Int)×Bool×Int)) (a1:List (ByteArray×(Int×Int×Int)×Bool×Int)):Option (Bool):=cond ((List.length a0:Int) != (List.length a1:Int)) (some false) ((Cn k a0 a1 0).bind λ r1=>Sum.elim (λ y2=>some y2) (λ z3=>some true) r1)
def F7 (k:Nat) (a0:y0) (a1:y0):Option (Bool):=cond (a0.1 != a1.1) (some false) ((F6 k a0.2.1 a1.2.1).bind λ r1=>cond (!r1) (some false) ((Bz k a0.2.2.1 a1.2.2.1).bind λ r2=>cond (!r2) (some false) ((Bz k a0.2.2.2 a1.2.2.2).bind λ r3=>cond (!r3) (some false) (some true))))
def C0:Nat→(List y0)→(List y0)→Int→Option (Sum (Bool) (Unit))
 |0,_,_,_=>none
 |k+1,x0,x1,x5=>cond (decide (x5<(List.length x0:Int))) (cond (decide ((0:Int)≤x5)) (cond (decide (x5<(List.length x0:Int))) (cond (decide ((0:Int)≤x5)) (cond (decide (x5<(List.length x1:Int))) ((F7 k (List.getD x0 (Int.toNat x5) ((0:Int),(([],[]),([],[])))) (List.getD x1 (Int.toNat x5) ((0:Int),(([],[]),([],[]))))).bind λ r3=>cond (!r3) (some (.inl false)) (C0 k x0 x1 (IntKind.wrap .i64 (x5+1)))) none) none) none) none) (some (.inr ()))
def Bg (k:Nat) (a0:List y0) (a1:List y0):Option (Bool):=cond ((List.length a0:Int) != (List.length a1:Int)) (some false) ((C0 k a0 a1 0).bind λ r1=>Sum.elim (λ y2=>some y2) (λ z3=>some true) r1)
def Eh (k:Nat) (a0:(Int×Int×Int)×Bool×(List Int)) (a1:(Int×Int×Int)×Bool×(List Int)):Option (Bool):=(B3 a0.1 a1.1).bind λ r1=>cond (!r1) (some false) (cond (!(a0.2.1==a1.2.1)) (some false) ((Bx k a0.2.2 a1.2.2).bind λ r2=>cond (!r2) (some false) (some true)))
def Eb (k:Nat) (a0:ByteArray×((Int×Int×Int)×Bool×(List Int))×Bool) (a1:ByteArray×((Int×Int×Int)×Bool×(List Int))×Bool):Option (Bool):=cond (!(a0.1.toList==a1.1.toList)) (some false) ((Eh k a0.2.1 a1.2.1).bind λ r1=>cond (!r1) (some false) (cond (!(a0.2.2==a1.2.2)) (some false) (some true)))
def B7:Nat→(List (ByteArray×((Int×Int×Int)×Bool×(List Int))×Bool))→(List (ByteArray×((Int×Int×Int)×Bool×(List Int))×Bool))→Int→Option (Sum (Bool) (Unit))
 |0,_,_,_=>none
 |k+1,x0,x1,x5=>cond (decide (x5<(List.length x0:Int))) (cond (decide ((0:Int)≤x5)) (cond (decide (x5<(List.length x0:Int))) (cond (decide ((0:Int)≤x5)) (cond (decide (x5<(List.length x1:Int))) ((Eb k (List.getD x0 (Int.toNat x5) ((⟨#[]⟩:ByteArray),((((0:Int),((0:Int),(0:Int))),(false,[])),false))) (List.getD x1 (Int.toNat x5) ((⟨#[]⟩:ByteArray),((((0:Int),((0:Int),(0:Int))),(false,[])),false)))).bind λ r3=>cond (!r3) (some (.inl false)) (B7 k x0 x1 (IntKind.wrap .i64 (x5+1)))) none) none) none) none) (some (.inr ()))
def Av (k:Nat) (a0:List (ByteArray×((Int×Int×Int)×Bool×(List Int))×Bool)) (a1:List (ByteArray×((Int×Int×Int)×Bool×(List Int))×Bool)):Option (Bool):=cond ((List.length a0:Int) != (List.length a1:Int)) (some false) ((B7 k a0 a1 0).bind λ r1=>Sum.elim (λ y2=>some y2) (λ z3=>some true) r1)
def B1:Nat→(List ByteArray)→(List ByteArray)→Int→Option (Sum (Bool) (Unit))
 |0,_,_,_=>none
 |k+1,x0,x1,x5=>cond (decide (x5<(List.length x0:Int))) (cond (decide ((0:Int)≤x5)) (cond (decide (x5<(List.length x0:Int))) (cond (decide ((0:Int)≤x5)) (cond (decide (x5<(List.length x1:Int))) (cond (!((List.getD x0 (Int.toNat x5) (⟨#[]⟩:ByteArray)).toList==(List.getD x1 (Int.toNat x5) (⟨#[]⟩:ByteArray)).toList)) (some (.inl false)) (B1 k x0 x1 (IntKind.wrap .i64 (x5+1)))) none) none) none) none) (some (.inr ()))
def C6 (k:Nat) (a0:List ByteArray) (a1:List ByteArray):Option (Bool):=cond ((List.length a0:Int) != (List.length a1:Int)) (some false) ((B1 k a0 a1 0).bind λ r1=>Sum.elim (λ y2=>some y2) (λ z3=>some true) r1)
def Dv (k:Nat) (a0:y1) (a1:y1):Option (Bool):=(Ca k a0.1 a1.1).bind λ r1=>cond (!r1) (some false) ((F5 k a0.2.1 a1.2.1).bind λ r2=>cond (!r2) (some false) ((Bg k a0.2.2.1 a1.2.2.1).bind λ r3=>cond (!r3) (some false) ((B3 a0.2.2.2.1 a1.2.2.2.1).bind λ r4=>cond (!r4) (some false) ((Av k a0.2.2.2.2.1 a1.2.2.2.2.1).bind λ r5=>cond (!r5) (some false) ((C6 k a0.2.2.2.2.2 a1.2.2.2.2.2).bind λ r6=>cond (!r6) (some false) (some true))))))
def C7 (k:Nat) (a0:y1):Option (Bool):=(Dh k a0 1048576).bind λ r1=>cond (decide (r1<0)) (some true) ((Cy k a0).bind λ r2=>(E4 k r2).bind λ r3=>(Cy k a0).bind λ r4=>(E5 k r4).bind λ r5=>cond (!(r5==r3)) (some false) ((Cy k a0).bind λ r6=>(Dv k r4 r6).bind λ r7=>cond (!r7) (some false) (some true)))

def Co (w:World) (k o:Nat) (cs:List Value):Prop:=∀ j u,cs[j]? = some u→w.cell? ⟨k,o+j,none⟩=some u
def Rows {α:Type} (R:α→List Value→Prop):List α→List Value→Prop
 |[],cs=>cs=[]
 |x::xs,cs=>∃ c d,cs=c++d∧R x c∧Rows R xs d
def Oo (P:Program) (e:TypeId) (n:Nat):Prop:=(P.info? e).map (λ i=>i.size)=some n
def Ie {α:Type} (G:Nat→Prop) (w:World) (R:α→List Value→Prop) (xs:List α) (v:Value):Prop:=
 ∃ a cap cs,v = .slice a xs.length cap∧xs.length≤cap∧Rows R xs cs∧(xs≠[]→∃ k o,a=some ⟨k,o,none⟩∧G k∧Co w k o cs)
def Ty.rep (P:Program) (G:Nat→Prop) (w:World):(t:Ty)→t.den→List Value→Prop
 |.i k,n,vs=>vs=[.int k n]
 |.b,x,vs=>vs=[.bool x]
 |.s,x,vs=>vs=[.string x]
 |.sl e r,xs,vs=>∃ v,vs=[v]∧Oo P e r.sz∧Ie G w (λ x c=>r.rep P G w x c) xs v
 |.ow e r,xs,vs=>∃ v,vs=[v]∧Oo P e r.sz∧Ie G w (λ x c=>r.rep P G w x c) xs v
 |.pr x y,p,vs=>∃ c d,vs=c++d∧x.rep P G w p.1 c∧y.rep P G w p.2 d
section
variable {P:Program} {G G':Nat→Prop} {w w':World} {α:Type}
theorem Ri {k:Nat} (h:w'.heap[k]? = w.heap[k]?) (o:Nat):w'.cell? ⟨k,o,none⟩=w.cell? ⟨k,o,none⟩:=by
 simp [World.cell?,h]
theorem Co.mono {k o:Nat} {cs:List Value} (h:Co w k o cs) (hs:w'.heap[k]? = w.heap[k]?):Co w' k o cs:=
 λ j u hu=>(Ri hs _).trans (h j u hu)
theorem Rows.mono {R R':α→List Value→Prop} (hR:∀ x c,R x c→R' x c):∀ {xs:List α} {cs:List Value},Rows R xs cs→Rows R' xs cs
 |[],_,h=>h
 |_::_,_,⟨c,d,e,h1,h2⟩=>⟨c,d,e,hR _ _ h1,h2.mono hR⟩
theorem Ie.mono {R R':α→List Value→Prop} {xs:List α} {v:Value} (h:Ie G w R xs v) (hR:∀ x c,R x c→R' x c) (hG:∀ k,G k→G' k)
  (hw:∀ k,G k→w'.heap[k]? = w.heap[k]?):Ie G' w' R' xs v:=by
 obtain ⟨a,cap,cs,e,hc,hr,hx⟩:=h
 refine ⟨a,cap,cs,e,hc,hr.mono hR,λ hn=>?_⟩
 obtain ⟨k,o,ea,hk,hcs⟩:=hx hn
 exact ⟨k,o,ea,hG k hk,hcs.mono (hw k hk)⟩
theorem Ty.rep_mono (hG:∀ k,G k→G' k) (hw:∀ k,G k→w'.heap[k]? = w.heap[k]?):∀ (t:Ty) (x:t.den) (vs:List Value),t.rep P G w x vs→t.rep P G' w' x vs
 |.i _,_,_,h=>h
 |.b,_,_,h=>h
 |.s,_,_,h=>h
 |.sl _ r,_,_,⟨v,e,hs,h⟩=>⟨v,e,hs,h.mono (λ x c=>Ty.rep_mono hG hw r x c) hG hw⟩
 |.ow _ r,_,_,⟨v,e,hs,h⟩=>⟨v,e,hs,h.mono (λ x c=>Ty.rep_mono hG hw r x c) hG hw⟩
 |.pr x y,p,_,⟨c,d,e,h1,h2⟩=>⟨c,d,e,Ty.rep_mono hG hw x p.1 c h1,Ty.rep_mono hG hw y p.2 d h2⟩
theorem Ty.rep_len:∀ (t:Ty) (x:t.den) (vs:List Value),t.rep P G w x vs→vs.length=t.sz
 |.i _,_,_,h=>by subst h; rfl
 |.b,_,_,h=>by subst h; rfl
 |.s,_,_,h=>by subst h; rfl
 |.sl _ _,_,_,⟨_,e,_⟩=>by subst e; rfl
 |.ow _ _,_,_,⟨_,e,_⟩=>by subst e; rfl
 |.pr x y,p,_,⟨c,d,e,h1,h2⟩=>by
  subst e
  rw [List.length_append,Ty.rep_len x p.1 c h1,Ty.rep_len y p.2 d h2]
  rfl
theorem Rows.len {R:α→List Value→Prop} {n:Nat} (hn:∀ x c,R x c→c.length=n):∀ {xs:List α} {cs:List Value},Rows R xs cs→cs.length=xs.length * n
 |[],_,h=>by simp only [Rows] at h; subst h; simp
 |_::_,_,⟨c,d,e,h1,h2⟩=>by
  subst e
  rw [List.length_append,hn _ _ h1,h2.len hn,List.length_cons,Nat.add_mul,Nat.one_mul,Nat.add_comm]
theorem Rows.get {R:α→List Value→Prop} {n:Nat} (hn:∀ x c,R x c→c.length=n):∀ {xs:List α} {cs:List Value} (_:Rows R xs cs) (i:Nat) (x:α),xs[i]? = some x→R x ((cs.drop (i * n)).take n)
 |[],_,_,i,x,hx=>by simp at hx
 |y::ys,_,⟨c,d,e,h1,h2⟩,0,x,hx=>by
  simp at hx
  subst hx e
  have:=hn _ _ h1
  simp only [Nat.zero_mul,List.drop_zero]
  rw [← this,List.take_left]
  exact h1
 |y::ys,_,⟨c,d,e,h1,h2⟩,i+1,x,hx=>by
  subst e
  have hl:=hn _ _ h1
  rw [show (i+1) * n=c.length+i * n by rw [hl,Nat.add_mul,Nat.one_mul,Nat.add_comm],← List.drop_drop,List.drop_left]
  exact h2.get hn i x (by simpa using hx)
theorem Rows.append {R:α→List Value→Prop}:∀ {xs ys:List α} {cs ds:List Value},Rows R xs cs→Rows R ys ds→Rows R (xs++ys) (cs++ds)
 |[],_,_,_,h1,h2=>by simp only [Rows] at h1; subst h1; exact h2
 |_::_,_,_,_,⟨c,d,e,h,h'⟩,h2=>by subst e; exact ⟨c,_,by rw [List.append_assoc],h,h'.append h2⟩
theorem Rows.set {R:α→List Value→Prop} {n:Nat} (hn:∀ x c,R x c→c.length=n):∀ {xs:List α} {cs:List Value} (_:Rows R xs cs) (i:Nat) (x:α) (c:List Value),i<xs.length→R x c→
  Rows R (xs.set i x) (cs.take (i * n)++c++cs.drop (i * n+n))
 |[],_,_,i,x,c,hi,_=>by simp at hi
 |y::ys,_,⟨c0,d,e,h1,h2⟩,0,x,c,_,hc=>by
  subst e
  have hl:=hn _ _ h1
  refine ⟨c,d,?_,hc,h2⟩
  simp only [Nat.zero_mul,List.take_zero,List.nil_append,Nat.zero_add,← hl,List.drop_left]
 |y::ys,_,⟨c0,d,e,h1,h2⟩,i+1,x,c,hi,hc=>by
  subst e
  have hl:=hn _ _ h1
  refine ⟨c0,_,?_,h1,h2.set hn i x c (by simpa using hi) hc⟩
  have e1:(i+1) * n=c0.length+i * n:=by rw [hl,Nat.add_mul,Nat.one_mul,Nat.add_comm]
  rw [e1,List.take_length_add_append,Nat.add_assoc,← List.drop_drop,List.drop_left]
  simp [List.append_assoc]
theorem Rows.replicate {R:α→List Value→Prop} {x:α} {c:List Value} (h:R x c):∀ n,Rows R (List.replicate n x) (List.replicate n c).flatten
 |0=>by simp [Rows]
 |n+1=>⟨c,_,by simp [List.replicate_succ],h,Rows.replicate h n⟩
theorem Rows.take {R:α→List Value→Prop} {n:Nat} (hn:∀ x c,R x c→c.length=n):∀ {xs:List α} {cs:List Value} (_:Rows R xs cs) (k:Nat),Rows R (xs.take k) (cs.take (k * n))
 |[],_,h,k=>by simp only [Rows] at h; subst h; simp [Rows]
 |_::_,_,⟨c,d,e,h1,h2⟩,0=>by simp [Rows]
 |_::_,_,⟨c,d,e,h1,h2⟩,k+1=>by
  subst e
  have hl:=hn _ _ h1
  refine ⟨c,_,?_,h1,h2.take hn k⟩
  rw [show (k+1) * n=c.length+k * n by rw [hl,Nat.add_mul,Nat.one_mul,Nat.add_comm],List.take_length_add_append]
theorem Rows.drop {R:α→List Value→Prop} {n:Nat} (hn:∀ x c,R x c→c.length=n):∀ {xs:List α} {cs:List Value} (_:Rows R xs cs) (k:Nat),Rows R (xs.drop k) (cs.drop (k * n))
 |[],_,h,k=>by simp only [Rows] at h; subst h; simp [Rows]
 |_::_,_,h@⟨c,d,e,h1,h2⟩,0=>by simpa using h
 |_::_,_,⟨c,d,e,h1,h2⟩,k+1=>by
  subst e
  have hl:=hn _ _ h1
  have e1:List.drop ((k+1) * n) (c++d)=List.drop (k * n) d:=by
   rw [show (k+1) * n=c.length+k * n by rw [hl,Nat.add_mul,Nat.one_mul,Nat.add_comm],← List.drop_drop,List.drop_left]
  rw [e1]
  exact h2.drop hn k
def Ge (P:Program) (G:Nat→Prop) (w:World):Lf→Value→Prop
 |.sc v,u=>u=v∧V9 v=true
 |.fz e r xs,u=>(Ty.sl e r).rep P G w xs [u]
 |_,_=>False
inductive H5 {β γ:Type} (R:β→γ→Prop):List β→List γ→Prop
 |nil:H5 R [] []
 |cons {x:β} {y:γ} {xs:List β} {ys:List γ}:R x y→H5 R xs ys→H5 R (x::xs) (y::ys)
theorem H5.append {β γ:Type} {R:β→γ→Prop} {xs xs':List β} {ys ys':List γ} (h:H5 R xs ys) (h':H5 R xs' ys'):H5 R (xs++xs') (ys++ys'):=by
 induction h with
 |nil=>exact h'
 |cons a _ ih=>exact .cons a ih
theorem H5.len {β γ:Type} {R:β→γ→Prop} {xs:List β} {ys:List γ} (h:H5 R xs ys):ys.length=xs.length:=by
 induction h with
 |nil=>rfl
 |cons _ _ ih=>simp [ih]
theorem H5.imp {β γ:Type} {R R':β→γ→Prop} {xs:List β} {ys:List γ} (h:H5 R xs ys) (hi:∀ x y,R x y→R' x y):H5 R' xs ys:=by
 induction h with
 |nil=>exact .nil
 |cons a _ ih=>exact .cons (hi _ _ a) ih
theorem H5.drop {β γ:Type} {R:β→γ→Prop} {xs:List β} {ys:List γ} (h:H5 R xs ys):∀ n,H5 R (xs.drop n) (ys.drop n):=by
 induction h with
 |nil=>intro n; cases n<;>exact .nil
 |cons a h ih=>intro n; cases n with
  |zero=>exact .cons a h
  |succ n=>exact ih n
theorem H5.take {β γ:Type} {R:β→γ→Prop} {xs:List β} {ys:List γ} (h:H5 R xs ys):∀ n,H5 R (xs.take n) (ys.take n):=by
 induction h with
 |nil=>intro n; cases n<;>exact .nil
 |cons a h ih=>intro n; cases n with
  |zero=>exact .nil
  |succ n=>exact .cons a (ih n)
theorem Q4:∀ (t:Ty) (x:t.den),(lvs t x).length=t.sz
 |.i _,_=>rfl
 |.b,_=>rfl
 |.s,_=>rfl
 |.sl _ _,_=>rfl
 |.ow _ _,_=>rfl
 |.pr x y,p=>by
  show (lvs x p.1++lvs y p.2).length=x.sz+y.sz
  rw [List.length_append,Q4 x p.1,Q4 y p.2]
theorem Ig:∀ (t:Ty) (x:t.den) (vs:List Value),t.rep P G w x vs→H5 (Ge P G w) (lvs t x) vs
 |.i _,_,_,h=>by subst h; exact .cons ⟨rfl,rfl⟩ .nil
 |.b,_,_,h=>by subst h; exact .cons ⟨rfl,rfl⟩ .nil
 |.s,_,_,h=>by subst h; exact .cons ⟨rfl,rfl⟩ .nil
 |.sl _ _,_,_,⟨_,e,h⟩=>by subst e; exact .cons ⟨_,rfl,h⟩ .nil
 |.ow _ _,_,_,⟨_,e,h⟩=>by subst e; exact .cons ⟨_,rfl,h⟩ .nil
 |.pr x y,p,_,⟨c,d,e,h1,h2⟩=>by subst e; exact (Ig x p.1 c h1).append (Ig y p.2 d h2)
theorem Nc {α β:Type} (h:α=β) (xs:List α):cast (congrArg List h) xs=xs.map (cast h):=by
 subst h
 show xs=List.map (λ x=>x) xs
 simp
theorem Rows.map {β:Type} {R:α→List Value→Prop} {R':β→List Value→Prop} {f:α→β} (hR:∀ x c,R x c→R' (f x) c):∀ {xs:List α} {cs:List Value},Rows R xs cs→Rows R' (xs.map f) cs
 |[],_,h=>h
 |_::_,_,⟨c,d,e,h1,h2⟩=>⟨c,d,e,hR _ _ h1,h2.map hR⟩
theorem Rows.unmap {β:Type} {R:α→List Value→Prop} {R':β→List Value→Prop} {f:α→β} (hR:∀ x c,R' (f x) c→R x c):∀ {xs:List α} {cs:List Value},Rows R' (xs.map f) cs→Rows R xs cs
 |[],_,h=>h
 |_::_,_,⟨c,d,e,h1,h2⟩=>⟨c,d,e,hR _ _ h1,h2.unmap hR⟩
theorem Gz:∀ t:Ty,(shp t).sz=t.sz
 |.i _=>rfl
 |.b=>rfl
 |.s=>rfl
 |.sl _ _=>rfl
 |.ow _ _=>rfl
 |.pr x y=>by show (shp x).sz+(shp y).sz=x.sz+y.sz; rw [Gz x,Gz y]
theorem Ie.map {β:Type} {R:α→List Value→Prop} {R':β→List Value→Prop} {f:α→β} {xs:List α} {v:Value} (hR:∀ x c,R x c↔R' (f x) c):Ie G w R xs v↔Ie G w R' (xs.map f) v:=by
 constructor
 ·rintro ⟨a,cap,cs,e,hc,hr,hx⟩
  exact ⟨a,cap,cs,by rw [List.length_map]; exact e,by rw [List.length_map]; exact hc,hr.map (λ x c=>(hR x c).1),λ hn=>hx (by intro e; subst e; simp at hn)⟩
 ·rintro ⟨a,cap,cs,e,hc,hr,hx⟩
  rw [List.length_map] at e hc
  exact ⟨a,cap,cs,e,hc,hr.unmap (λ x c=>(hR x c).2),λ hn=>hx (by intro e; rw [List.map_eq_nil_iff] at e; exact hn e)⟩
theorem Eza {α α' β β':Type} (h1:α=α') (h2:β=β') (h:(α×β)=(α'×β')) (x:α×β):(cast h x).1=cast h1 x.1∧(cast h x).2=cast h2 x.2:=by
 subst h1 h2
 exact ⟨rfl,rfl⟩
theorem Lz:∀ (t:Ty) (x:t.den) (vs:List Value),t.rep P G w x vs↔(shp t).rep P G w (cast (Fa t).symm x) vs
 |.i _,_,_=>Iff.rfl
 |.b,_,_=>Iff.rfl
 |.s,_,_=>Iff.rfl
 |.sl e r,xs,vs=>by
  have hc:cast (Fa (.sl e r)).symm xs=List.map (cast (Fa r).symm) xs:=Nc (Fa r).symm xs
  rw [hc]
  show (∃ v,vs=[v]∧Oo P e r.sz∧Ie G w (λ x c=>r.rep P G w x c) xs v)↔(∃ v,vs=[v]∧Oo P e (shp r).sz∧Ie G w (λ x c=>(shp r).rep P G w x c) _ v)
  rw [Gz r]
  exact exists_congr λ v=>and_congr_right λ _=>and_congr_right λ _=>Ie.map (λ x c=>Lz r x c)
 |.ow e r,xs,vs=>by
  have hc:cast (Fa (.ow e r)).symm xs=List.map (cast (Fa r).symm) xs:=Nc (Fa r).symm xs
  rw [hc]
  show (∃ v,vs=[v]∧Oo P e r.sz∧Ie G w (λ x c=>r.rep P G w x c) xs v)↔(∃ v,vs=[v]∧Oo P e (shp r).sz∧Ie G w (λ x c=>(shp r).rep P G w x c) _ v)
  rw [Gz r]
  exact exists_congr λ v=>and_congr_right λ _=>and_congr_right λ _=>Ie.map (λ x c=>Lz r x c)
 |.pr x y,p,vs=>by
  obtain ⟨e1,e2⟩:=Eza (Fa x).symm (Fa y).symm (Fa (.pr x y)).symm p
  show (∃ c d,vs=c++d∧x.rep P G w p.1 c∧y.rep P G w p.2 d)↔(∃ c d,vs=c++d∧(shp x).rep P G w (cast (Fa (.pr x y)).symm p).1 c∧(shp y).rep P G w (cast (Fa (.pr x y)).symm p).2 d)
  have key:∀ (q:(shp x).den×(shp y).den),q.1=cast (Fa x).symm p.1→q.2=cast (Fa y).symm p.2→((∃ c d,vs=c++d∧x.rep P G w p.1 c∧y.rep P G w p.2 d)↔∃ c d,vs=c++d∧(shp x).rep P G w q.1 c∧(shp y).rep P G w q.2 d):=by
   intro q h1 h2
   rw [h1,h2]
   exact exists_congr λ c=>exists_congr λ d=>and_congr_right λ _=>and_congr (Lz x p.1 c) (Lz y p.2 d)
  exact key _ e1 e2
theorem Jta {t u:Ty} (h:u=t) (h2:u.den=t.den) (x:u.den) (vs:List Value):u.rep P G w x vs↔t.rep P G w (cast h2 x) vs:=by
 subst h
 exact Iff.rfl
theorem Bea {t u:Ty} (h:shp u=shp t) (x:u.den) (vs:List Value):u.rep P G w x vs↔t.rep P G w (cast (V8 h) x) vs:=by
 rw [Lz u x vs,Lz t _ vs,Jta h (congrArg Ty.den h) _ vs]
 simp only [cast_cast]
theorem M0 {r r':Ty} {xs:List r'.den} {ys:List r.den} (h:Kd r r' xs=some ys):∃ e:shp r'=shp r,ys=xs.map (cast (V8 e)):=by
 unfold Kd at h
 split at h
 ·rename_i e
  simp only [Option.some.injEq] at h
  exact ⟨e,by rw [← h]; exact Nc (V8 e) xs⟩
 ·cases h
theorem P9 {r r':Ty} {xs:List r'.den} {ys:List r.den} {cs:List Value} (h:Kd r r' xs=some ys) (hr:Rows (λ x c=>r'.rep P G w x c) xs cs):Rows (λ x c=>r.rep P G w x c) ys cs∧ys.length=xs.length:=by
 obtain ⟨e,rfl⟩:=M0 h
 exact ⟨hr.map (λ x c hx=>(Bea e x c).1 hx),by rw [List.length_map]⟩
theorem L6 {r r':Ty} {e:TypeId} {xs:List r'.den} {ys:List r.den} {vs:List Value} (h:Kd r r' xs=some ys) (hr:(Ty.sl e r').rep P G w xs vs):(Ty.sl e r).rep P G w ys vs:=by
 obtain ⟨e1,rfl⟩:=M0 h
 obtain ⟨v,ev,hs,hr⟩:=hr
 have hsz:r'.sz=r.sz:=by rw [← Gz r',e1,Gz r]
 exact ⟨v,ev,by rw [← hsz]; exact hs,(Ie.map (λ x c=>Bea e1 x c)).1 hr⟩
theorem Pa {r r':Ty} {xs:List r'.den} {ys:List r.den} (h:Mp r r' xs=some ys):(∃ e:r'=r,ys=e ▸ xs)∨(shp r'=shp r∧xs=[]∧ys=[]):=by
 unfold Mp at h
 split at h
 ·rename_i e
  exact .inl ⟨e,by simpa using h.symm⟩
 ·split at h
  ·rename_i e
   split at h
   ·simp only [Option.some.injEq] at h
    exact .inr ⟨e,rfl,h.symm⟩
   ·cases h
  ·cases h
theorem Hwa:∀ (t:Ty) (l l':List Lf) (x:t.den) (us:List Value),mkT t l=some (x,l')→H5 (Ge P G w) l us→
  ∃ vs ws,us=vs++ws∧t.rep P G w x vs∧H5 (Ge P G w) l' ws:=by
 intro t
 induction t with
 |i k=>
  intro l l' x us h hl
  cases hl with
  |nil=>simp [mkT] at h
  |@cons y u ys us' hy hys=>
   cases y<;>first|(simp [mkT] at h; done)|skip
   rename_i v
   cases v<;>first|(simp [mkT] at h; done)|skip
   rename_i k' n
   simp only [mkT] at h
   by_cases hk:k=k'
   ·subst hk
    simp at h
    obtain ⟨rfl,rfl⟩:=h
    exact ⟨[u],us',rfl,by rw [hy.1]; rfl,hys⟩
   ·simp [hk] at h
 |b=>
  intro l l' x us h hl
  cases hl with
  |nil=>simp [mkT] at h
  |@cons y u ys us' hy hys=>
   cases y<;>first|(simp [mkT] at h; done)|skip
   rename_i v
   cases v<;>first|(simp [mkT] at h; done)|skip
   simp [mkT] at h
   obtain ⟨rfl,rfl⟩:=h
   exact ⟨[u],us',rfl,by rw [hy.1]; rfl,hys⟩
 |s=>
  intro l l' x us h hl
  cases hl with
  |nil=>simp [mkT] at h
  |@cons y u ys us' hy hys=>
   cases y<;>first|(simp [mkT] at h; done)|skip
   rename_i v
   cases v<;>first|(simp [mkT] at h; done)|skip
   simp [mkT] at h
   obtain ⟨rfl,rfl⟩:=h
   exact ⟨[u],us',rfl,by rw [hy.1]; rfl,hys⟩
 |sl e r _=>
  intro l l' x us h hl
  cases hl with
  |nil=>simp [mkT] at h
  |@cons y u ys us' hy hys=>
   cases y<;>first|(simp [mkT] at h; done)|exact hy.elim|skip
   rename_i e' r' xs
   simp only [mkT] at h
   cases he:Nat.beq e e' with
   |false=>rw [he] at h; simp at h
   |true=>
    rw [he] at h
    simp only [cond_true] at h
    split at h
    ·rename_i zs hz
     have:e=e':=by simpa using he
     subst this
     simp at h
     obtain ⟨rfl,rfl⟩:=h
     exact ⟨[u],us',rfl,L6 hz hy,hys⟩
    ·cases h
 |ow e r _=>
  intro l l' x us h hl
  cases hl with
  |nil=>simp [mkT] at h
  |@cons y u ys us' hy hys=>
   cases y<;>first|(simp [mkT] at h; done)|exact hy.elim
 |pr x y ihx ihy=>
  intro l l' p us h hl
  simp only [mkT] at h
  split at h
  ·rename_i a l1 h1
   split at h
   ·rename_i b l2 h2
    simp at h
    obtain ⟨rfl,rfl⟩:=h
    obtain ⟨vs,ws,rfl,r1,hw1⟩:=ihx _ _ _ _ h1 hl
    obtain ⟨vs2,ws2,rfl,r2,hw2⟩:=ihy _ _ _ _ h2 hw1
    exact ⟨vs++vs2,ws2,by rw [List.append_assoc],⟨vs,vs2,rfl,r1,r2⟩,hw2⟩
   ·cases h
  ·cases h
theorem Nd {t:Ty} {l:List Lf} {x:t.den} {us:List Value} (h:mkW t l=some x) (hl:H5 (Ge P G w) l us):t.rep P G w x us:=by
 unfold mkW at h
 split at h
 ·rename_i y hy
  simp at h
  subst h
  obtain ⟨vs,ws,rfl,hr,hw⟩:=Hwa _ _ _ _ _ hy hl
  cases hw
  rw [List.append_nil]
  exact hr
 ·cases h
theorem Ge.mono {x:Lf} {u:Value} (h:Ge P G w x u) (hG:∀ k,G k→G' k) (hw:∀ k,G k→w'.heap[k]? = w.heap[k]?):Ge P G' w' x u:=by
 cases x<;>first|exact h|exact Ty.rep_mono hG hw _ _ _ h
end
def Cb {α:Type} (R:α→List Value→List Nat→Prop):List α→List Value→List Nat→Prop
 |[],cs,bs=>cs=[]∧bs=[]
 |x::xs,cs,bs=>∃ c d b1 b2,cs=c++d∧bs=b1++b2∧R x c b1∧Cb R xs d b2
def Ty.dep (P:Program) (G:Nat→Prop) (w:World):(t:Ty)→t.den→List Value→List Nat→Prop
 |.i k,n,vs,bs=>vs=[.int k n]∧bs=[]
 |.b,x,vs,bs=>vs=[.bool x]∧bs=[]
 |.s,x,vs,bs=>vs=[.string x]∧bs=[]
 |.sl e r,xs,vs,bs=>(Ty.sl e r).rep P G w xs vs∧bs=[]
 |.ow e r,xs,vs,bs=>∃ v cs b2,vs=[v]∧Oo P e r.sz∧w.ownsRow 0 e r.sz v xs.length cs∧Cb (λ x c b=>r.dep P G w x c b) xs cs b2∧bs=v.ownBlock.toList++b2
 |.pr x y,p,vs,bs=>∃ c d b1 b2,vs=c++d∧bs=b1++b2∧x.dep P G w p.1 c b1∧y.dep P G w p.2 d b2
section
variable {P:Program} {G G':Nat→Prop} {w w':World} {α:Type}
theorem J2 {w w':World} {e n m:Nat} {cs:List Value} {u:Value} (h:w.ownsRow 0 e n u m cs) (hk:∀ k,u.ownBlock=some k→w'.heap[k]? = w.heap[k]?):w'.ownsRow 0 e n u m cs:=by
 refine ⟨h.1,?_⟩
 rcases h.2 with hn|⟨g,cap,cur,rfl,hb,hg,rest⟩
 ·exact .inl hn
 ·exact .inr ⟨g,cap,cur,rfl,hb,(hk g rfl).trans hg,rest⟩
theorem D0 {w:World} {e n m:Nat} {cs:List Value} {u:Value} (h:w.ownsRow 0 e n u m cs):
  (u = .slice none 0 0∧m=0∧cs=[])∨∃ k cap cur,u = .slice (some ⟨k,0,none⟩) m cap∧w.heap[k]? = some (.cells cur e (0,0))∧m≤cap∧cap≤maxLen∧cur.size=cap * n∧cur.toList.take (m * n)=cs:=by
 rcases h.2 with ⟨e1,e2⟩|⟨k,cap,cur,e1,_,e2,e3,e4,e5,e6⟩
 ·refine .inl ⟨e1,e2,?_⟩
  have:=h.1
  rw [e2,Nat.zero_mul] at this
  exact List.eq_nil_of_length_eq_zero this
 ·exact .inr ⟨k,cap,cur,e1,e2,e3,e4,e5,e6⟩
theorem G0 {w:World} {k:Nat} {cur:Array Value} {e:TypeId} {f:Nat×Nat} {cs:List Value} {n:Nat} (h:w.heap[k]? = some (.cells cur e f)) (ht:cur.toList.take n=cs):Co w k 0 cs:=by
 intro j u hu
 subst ht
 rw [List.getElem?_take] at hu
 split at hu
 ·simp [World.cell?,h]
  simpa using hu
 ·cases hu
theorem Cb.mono {R R':α→List Value→List Nat→Prop}:∀ {xs:List α} {cs:List Value} {bs:List Nat},(∀ x c b,(∀ k∈b,k∈bs)→R x c b→R' x c b)→Cb R xs cs bs→Cb R' xs cs bs
 |[],_,_,_,h=>h
 |_::_,_,_,hR,⟨c,d,b1,b2,e1,e2,h1,h2⟩=>⟨c,d,b1,b2,e1,e2,hR _ _ _ (λ k hk=>by rw [e2]; exact List.mem_append_left _ hk) h1,h2.mono (λ x c b hb h=>hR x c b (λ k hk=>by rw [e2]; exact List.mem_append_right _ (hb k hk)) h)⟩
theorem Ty.dep_mono (hG:∀ k,G k→G' k) (hw:∀ k,G k→w'.heap[k]? = w.heap[k]?):∀ (t:Ty) (x:t.den) (vs:List Value) (bs:List Nat),(∀ k∈bs,w'.heap[k]? = w.heap[k]?)→t.dep P G w x vs bs→t.dep P G' w' x vs bs
 |.i _,_,_,_,_,h=>h
 |.b,_,_,_,_,h=>h
 |.s,_,_,_,_,h=>h
 |.sl e r,xs,vs,_,_,⟨h,hb⟩=>⟨Ty.rep_mono hG hw (.sl e r) xs vs h,hb⟩
 |.ow _ r,_,_,bs,hb,⟨v,cs,b2,e,hs,ho,hd,eb⟩=>⟨v,cs,b2,e,hs,J2 ho (λ k hk=>hb k (by rw [eb,hk]; simp)),hd.mono (λ x c b hbb h=>Ty.dep_mono hG hw r x c b (λ k hk=>hb k (by rw [eb]; exact List.mem_append_right _ (hbb k hk))) h),eb⟩
 |.pr x y,p,_,bs,hb,⟨c,d,b1,b2,e,eb,h1,h2⟩=>⟨c,d,b1,b2,e,eb,Ty.dep_mono hG hw x p.1 c b1 (λ k hk=>hb k (by rw [eb]; exact List.mem_append_left _ hk)) h1,Ty.dep_mono hG hw y p.2 d b2 (λ k hk=>hb k (by rw [eb]; exact List.mem_append_right _ hk)) h2⟩
theorem Cb.rows {R:α→List Value→List Nat→Prop} {R':α→List Value→Prop}:∀ {xs:List α} {cs:List Value} {bs:List Nat},(∀ x c b,(∀ k∈b,k∈bs)→R x c b→R' x c)→Cb R xs cs bs→Rows R' xs cs
 |[],_,_,_,h=>h.1
 |_::_,_,_,hR,⟨c,d,b1,b2,e1,e2,h1,h2⟩=>⟨c,d,e1,hR _ _ _ (λ k hk=>by rw [e2]; exact List.mem_append_left _ hk) h1,h2.rows (λ x c b hb h=>hR x c b (λ k hk=>by rw [e2]; exact List.mem_append_right _ (hb k hk)) h)⟩
theorem Ty.dep_rep (hG:∀ k,G k→G' k):∀ (t:Ty) (x:t.den) (vs:List Value) (bs:List Nat),(∀ k∈bs,G' k)→t.dep P G w x vs bs→t.rep P G' w x vs
 |.i _,_,_,_,_,h=>h.1
 |.b,_,_,_,_,h=>h.1
 |.s,_,_,_,_,h=>h.1
 |.sl e r,xs,vs,_,_,⟨h,_⟩=>Ty.rep_mono hG (λ _ _=>rfl) (.sl e r) xs vs h
 |.ow e r,xs,_,bs,hb,⟨v,cs,b2,ev,hs,ho,hd,eb⟩=>by
  have hr:Rows (λ x c=>r.rep P G' w x c) xs cs:=hd.rows (λ x c b hbb h=>Ty.dep_rep hG r x c b (λ k hk=>hb k (by rw [eb]; exact List.mem_append_right _ (hbb k hk))) h)
  refine ⟨v,ev,hs,?_⟩
  rcases D0 ho with ⟨rfl,hm,rfl⟩|⟨k,cap,cur,rfl,hg,hc,_,_,ht⟩
  ·refine ⟨none,0,[],?_,by omega,hr,λ hn=>?_⟩
   ·rw [hm]
   ·exact absurd (List.eq_nil_of_length_eq_zero hm) hn
  ·exact ⟨_,cap,cs,rfl,hc,hr,λ _=>⟨k,0,rfl,hb k (by rw [eb]; simp [Value.ownBlock]),G0 hg ht⟩⟩
 |.pr x y,p,_,bs,hb,⟨c,d,b1,b2,e,eb,h1,h2⟩=>⟨c,d,e,Ty.dep_rep hG x p.1 c b1 (λ k hk=>hb k (by rw [eb]; exact List.mem_append_left _ hk)) h1,Ty.dep_rep hG y p.2 d b2 (λ k hk=>hb k (by rw [eb]; exact List.mem_append_right _ hk)) h2⟩
theorem Ty.dep_flat:∀ (t:Ty) (x:t.den) (vs:List Value) (bs:List Nat),Fu t=true→(t.dep P G w x vs bs↔t.rep P G w x vs∧bs=[])
 |.i _,_,_,_,_=>Iff.rfl
 |.b,_,_,_,_=>Iff.rfl
 |.s,_,_,_,_=>Iff.rfl
 |.sl _ _,_,_,_,_=>Iff.rfl
 |.ow _ _,_,_,_,h=>by simp [Fu] at h
 |.pr x y,p,vs,bs,h=>by
  simp only [Fu,Bool.and_eq_true] at h
  constructor
  ·rintro ⟨c,d,b1,b2,e,eb,h1,h2⟩
   obtain ⟨r1,rfl⟩:=(Ty.dep_flat x p.1 c b1 h.1).1 h1
   obtain ⟨r2,rfl⟩:=(Ty.dep_flat y p.2 d b2 h.2).1 h2
   exact ⟨⟨c,d,e,r1,r2⟩,eb⟩
  ·rintro ⟨⟨c,d,e,r1,r2⟩,rfl⟩
   exact ⟨c,d,[],[],e,rfl,(Ty.dep_flat x p.1 c [] h.1).2 ⟨r1,rfl⟩,(Ty.dep_flat y p.2 d [] h.2).2 ⟨r2,rfl⟩⟩
theorem Cb.flat {R:α→List Value→List Nat→Prop} {R':α→List Value→Prop} (hR:∀ x c b,R x c b↔R' x c∧b=[]):∀ {xs:List α} {cs:List Value} {bs:List Nat},Cb R xs cs bs↔Rows R' xs cs∧bs=[]
 |[],_,_=>Iff.rfl
 |x::xs,cs,bs=>by
  constructor
  ·rintro ⟨c,d,b1,b2,e,eb,h1,h2⟩
   obtain ⟨r1,rfl⟩:=(hR x c b1).1 h1
   obtain ⟨r2,rfl⟩:=(Cb.flat hR).1 h2
   exact ⟨⟨c,d,e,r1,r2⟩,eb⟩
  ·rintro ⟨⟨c,d,e,r1,r2⟩,rfl⟩
   exact ⟨c,d,[],[],e,rfl,(hR x c []).2 ⟨r1,rfl⟩,(Cb.flat hR).2 ⟨r2,rfl⟩⟩
theorem Ty.dep_len:∀ (t:Ty) (x:t.den) (vs:List Value) (bs:List Nat),t.dep P G w x vs bs→vs.length=t.sz
 |.i _,_,_,_,h=>by obtain ⟨rfl,_⟩:=h; rfl
 |.b,_,_,_,h=>by obtain ⟨rfl,_⟩:=h; rfl
 |.s,_,_,_,h=>by obtain ⟨rfl,_⟩:=h; rfl
 |.sl e r,xs,vs,_,h=>Ty.rep_len (.sl e r) xs vs h.1
 |.ow _ _,_,_,_,⟨_,_,_,e,_⟩=>by subst e; rfl
 |.pr x y,p,_,_,⟨c,d,b1,b2,e,_,h1,h2⟩=>by
  subst e
  rw [List.length_append,Ty.dep_len x p.1 c b1 h1,Ty.dep_len y p.2 d b2 h2]
  rfl
theorem Cb.len {R:α→List Value→List Nat→Prop} {n:Nat} (hn:∀ x c b,R x c b→c.length=n):∀ {xs:List α} {cs:List Value} {bs:List Nat},Cb R xs cs bs→cs.length=xs.length * n
 |[],_,_,h=>by obtain ⟨rfl,_⟩:=h; simp
 |_::_,_,_,⟨c,d,b1,b2,e,_,h1,h2⟩=>by
  subst e
  rw [List.length_append,hn _ _ _ h1,h2.len hn,List.length_cons,Nat.add_mul,Nat.one_mul,Nat.add_comm]
theorem Cb.take {R:α→List Value→List Nat→Prop} {n:Nat} (hn:∀ x c b,R x c b→c.length=n):∀ {xs:List α} {cs:List Value} {bs:List Nat} (_:Cb R xs cs bs) (k:Nat),∃ b',Cb R (xs.take k) (cs.take (k * n)) b'∧b'.Sublist bs
 |[],_,_,h,k=>by obtain ⟨rfl,rfl⟩:=h; exact ⟨[],by simp [Cb],List.Sublist.refl _⟩
 |_::_,_,_,⟨c,d,b1,b2,e,eb,h1,h2⟩,0=>⟨[],by simp [Cb],List.nil_sublist _⟩
 |_::_,_,_,⟨c,d,b1,b2,e,eb,h1,h2⟩,k+1=>by
  subst e eb
  have hl:=hn _ _ _ h1
  obtain ⟨b',h3,h4⟩:=h2.take hn k
  refine ⟨b1++b',⟨c,_,b1,b',?_,rfl,h1,h3⟩,(List.Sublist.refl b1).append h4⟩
  rw [show (k+1) * n=c.length+k * n by rw [hl,Nat.add_mul,Nat.one_mul,Nat.add_comm],List.take_length_add_append]
theorem Cb.drop {R:α→List Value→List Nat→Prop} {n:Nat} (hn:∀ x c b,R x c b→c.length=n):∀ {xs:List α} {cs:List Value} {bs:List Nat} (_:Cb R xs cs bs) (k:Nat),∃ b',Cb R (xs.drop k) (cs.drop (k * n)) b'∧b'.Sublist bs
 |[],_,_,h,k=>by obtain ⟨rfl,rfl⟩:=h; exact ⟨[],by simp [Cb],List.Sublist.refl _⟩
 |x::xs,cs,bs,h@⟨c,d,b1,b2,e,eb,h1,h2⟩,0=>⟨bs,by simpa using h,List.Sublist.refl _⟩
 |_::_,_,_,⟨c,d,b1,b2,e,eb,h1,h2⟩,k+1=>by
  subst e eb
  have hl:=hn _ _ _ h1
  obtain ⟨b',h3,h4⟩:=h2.drop hn k
  refine ⟨b',?_,h4.trans (List.sublist_append_right b1 b2)⟩
  have e1:List.drop ((k+1) * n) (c++d)=List.drop (k * n) d:=by
   rw [show (k+1) * n=c.length+k * n by rw [hl,Nat.add_mul,Nat.one_mul,Nat.add_comm],← List.drop_drop,List.drop_left]
  rw [e1]
  exact h3
theorem Cb.append {R:α→List Value→List Nat→Prop}:∀ {xs ys:List α} {cs ds:List Value} {bs es:List Nat},Cb R xs cs bs→Cb R ys ds es→Cb R (xs++ys) (cs++ds) (bs++es)
 |[],_,_,_,_,_,h1,h2=>by obtain ⟨rfl,rfl⟩:=h1; exact h2
 |_::_,_,_,_,_,_,⟨c,d,b1,b2,e,eb,h,h'⟩,h2=>by subst e eb; exact ⟨c,_,b1,_,by rw [List.append_assoc],by rw [List.append_assoc],h,h'.append h2⟩
theorem Cb.get {R:α→List Value→List Nat→Prop} {n:Nat} (hn:∀ x c b,R x c b→c.length=n):∀ {xs:List α} {cs:List Value} {bs:List Nat} (_:Cb R xs cs bs) (i:Nat) (x:α),xs[i]? = some x→∃ b,R x ((cs.drop (i * n)).take n) b∧b.Sublist bs
 |[],_,_,_,i,x,hx=>by simp at hx
 |y::ys,_,_,⟨c,d,b1,b2,e,eb,h1,h2⟩,0,x,hx=>by
  simp at hx
  subst hx e eb
  have:=hn _ _ _ h1
  simp only [Nat.zero_mul,List.drop_zero]
  rw [← this,List.take_left]
  exact ⟨b1,h1,List.sublist_append_left b1 b2⟩
 |y::ys,_,_,⟨c,d,b1,b2,e,eb,h1,h2⟩,i+1,x,hx=>by
  subst e eb
  have hl:=hn _ _ _ h1
  rw [show (i+1) * n=c.length+i * n by rw [hl,Nat.add_mul,Nat.one_mul,Nat.add_comm],← List.drop_drop,List.drop_left]
  obtain ⟨b,h3,h4⟩:=h2.get hn i x (by simpa using hx)
  exact ⟨b,h3,h4.trans (List.sublist_append_right b1 b2)⟩
theorem Ty.dep_all:∀ (t:Ty) (x:t.den) (vs:List Value) (bs:List Nat),Cs t=true→(∀ k∈bs,w'.heap[k]? = w.heap[k]?)→t.dep P G w x vs bs→t.dep P G' w' x vs bs
 |.i _,_,_,_,_,_,h=>h
 |.b,_,_,_,_,_,h=>h
 |.s,_,_,_,_,_,h=>h
 |.sl _ _,_,_,_,h,_,_=>by simp [Cs] at h
 |.ow _ r,_,_,bs,ha,hb,⟨v,cs,b2,e,hs,ho,hd,eb⟩=>⟨v,cs,b2,e,hs,J2 ho (λ k hk=>hb k (by rw [eb,hk]; simp)),hd.mono (λ x c b hbb h=>Ty.dep_all r x c b ha (λ k hk=>hb k (by rw [eb]; exact List.mem_append_right _ (hbb k hk))) h),eb⟩
 |.pr x y,p,_,bs,ha,hb,⟨c,d,b1,b2,e,eb,h1,h2⟩=>by
  simp only [Cs,Bool.and_eq_true] at ha
  exact ⟨c,d,b1,b2,e,eb,Ty.dep_all x p.1 c b1 ha.1 (λ k hk=>hb k (by rw [eb]; exact List.mem_append_left _ hk)) h1,Ty.dep_all y p.2 d b2 ha.2 (λ k hk=>hb k (by rw [eb]; exact List.mem_append_right _ hk)) h2⟩
end

inductive Lab where
 |no
 |fz
 |bx (b:Nat)
 |pl (l:Nat) (p:List Nat)
 |tm (i:Nat) (p:List Nat)
 deriving DecidableEq
structure Sit where
 O:Nat→Lab
 bb:Nat→Nat×Nat
 g:Nat→Nat×Sv
 ph:Nat→Value
 w:World
def D5 (P:Program) (O:Nat→Lab) (w:World) (lab:Lab) (e:TypeId) (r:Ty) (xs:List r.den) (u:Value):Prop:=
 ∃ bs,(Ty.ow e r).dep P (λ k=>O k = .fz) w xs [u] bs∧bs.Nodup∧∀ k∈bs,O k=lab
theorem D5.top {P:Program} {O:Nat→Lab} {w:World} {lab:Lab} {e:TypeId} {r:Ty} {xs:List r.den} {u:Value} (h:D5 P O w lab e r xs u):
  Oo P e r.sz∧∃ cs,w.ownsRow 0 e r.sz u xs.length cs∧∀ k,u.ownBlock=some k→O k=lab:=by
 obtain ⟨bs,⟨v,cs,b2,ev,hs,ho,hd,eb⟩,hn,hk⟩:=h
 simp only [List.cons.injEq,and_true] at ev
 subst ev
 exact ⟨hs,cs,ho,λ k h=>hk k (by rw [eb,h]; simp)⟩
theorem D5.flat {P:Program} {O:Nat→Lab} {w:World} {lab:Lab} {e:TypeId} {r:Ty} {xs:List r.den} {u:Value} (hr:Fu r=true):
  D5 P O w lab e r xs u↔Oo P e r.sz∧∃ cs,w.ownsRow 0 e r.sz u xs.length cs∧Rows (λ x c=>r.rep P (λ k=>O k = .fz) w x c) xs cs∧∀ k,u.ownBlock=some k→O k=lab:=by
 have hf:∀ {xs:List r.den} {cs bs},Cb (λ x c b=>r.dep P (λ k=>O k = .fz) w x c b) xs cs bs↔Rows (λ x c=>r.rep P (λ k=>O k = .fz) w x c) xs cs∧bs=[]:=Cb.flat (λ x c b=>Ty.dep_flat r x c b hr)
 constructor
 ·rintro ⟨bs,⟨v,cs,b2,ev,hs,ho,hd,eb⟩,hn,hk⟩
  simp only [List.cons.injEq,and_true] at ev
  subst ev
  exact ⟨hs,cs,ho,(hf.1 hd).1,λ k h=>hk k (by rw [eb,h]; simp)⟩
 ·rintro ⟨hs,cs,ho,hd,hk⟩
  refine ⟨u.ownBlock.toList++[],⟨u,cs,[],rfl,hs,ho,hf.2 ⟨hd,rfl⟩,rfl⟩,?_,?_⟩
  ·cases u.ownBlock<;>simp
  ·intro k h
   cases hb:u.ownBlock with
   |none=>rw [hb] at h; simp at h
   |some j=>rw [hb] at h; simp at h; subst h; exact hk k hb
theorem D5.reads {P:Program} {O O':Nat→Lab} {w:World} {lab:Lab} {e:TypeId} {r:Ty} {xs:List r.den} {u:Value} (h:D5 P O w lab e r xs u)
  (hf:∀ k,O k = .fz→O' k = .fz) (hk:∀ k,O k=lab→O' k = .fz):(Ty.sl e r).rep P (λ k=>O' k = .fz) w xs [u]:=by
 obtain ⟨bs,hd,_,hb⟩:=h
 exact Ty.dep_rep hf (.ow e r) xs [u] bs (λ k h=>hk k (hb k h)) hd
theorem D5.cast {P:Program} {O:Nat→Lab} {w:World} {lab:Lab} {e:TypeId} {r r':Ty} {xs:List r'.den} {ys:List r.den} {u:Value} (hc:Mp r r' xs=some ys) (h:D5 P O w lab e r' xs u):D5 P O w lab e r ys u:=by
 rcases Pa hc with ⟨e1,e2⟩|⟨e1,rfl,rfl⟩
 ·subst e1 e2; exact h
 ·obtain ⟨bs,⟨v,cs,b2,ev,hs,ho,hd,eb⟩,hn,hk⟩:=h
  have hsz:r'.sz=r.sz:=by rw [← Gz r',e1,Gz r]
  exact ⟨bs,⟨v,cs,b2,ev,by rw [← hsz]; exact hs,by rw [← hsz]; exact ho,hd,eb⟩,hn,hk⟩
def F0a:Lf→Bool
 |.own _ r _ => !(Fu r)
 |.fz _ r _ => !(Fu r)
 |_=>false
def Tq:Sv→Bool
 |.one x=>F0a x
 |_=>false
def Vr:List (Int×Nat)→TypeId→(r:Ty)→List r.den→Option Sl
 |[],e,r,xs=>some ⟨e,r,xs⟩
 |(i,j)::q,_,r,xs=>if 0≤i∧i.toNat<xs.length then (match nth (A4 r (xs.getD i.toNat r.dflt)) j with
  |some (.own e1 r1 ys)=>Vr q e1 r1 ys
  |_=>none) else none
def Jz (G:Nat→Prop) (w:World):List (Int×Nat)→Ty→Value→Value→Prop
 |[],_,u,u'=>u'=u
 |(i,j)::q,r,u,u'=>∃ k o n cap e1 r1 u1,u = .slice (some ⟨k,o,none⟩) n cap∧G k∧w.cell? ⟨k,o+(i.toNat * r.sz+j),none⟩=some u1∧nth (Fm r) j=some (.ow e1 r1)∧Jz G w q r1 u1 u'
def H5a (S:Sit) (p k:Nat):Prop:=S.O k = .pl p []∨S.O k = .fz
def Tr (P:Program) (S:Sit) (p:Nat) (e:TypeId) (r:Ty) (xs:List r.den) (u:Value):Prop:=
 Oo P e r.sz∧∃ a cap cs bs,u = .slice a xs.length cap∧xs.length≤cap∧Cb (λ x c b=>r.dep P (λ k=>S.O k = .fz) S.w x c b) xs cs bs∧(∀ k∈bs,H5a S p k)∧
  (xs≠[]→∃ k o,a=some ⟨k,o,none⟩∧H5a S p k∧Co S.w k o cs)
def H6a (S:Sit) (p:Nat) (pi:Option (List (Int×Nat))) (e:TypeId) (r:Ty) (xs:List r.den) (u:Value):Prop:=
 ∀ q,pi=some q→∀ E R XS,(S.g p).2 = .one (.own E R XS)→Vr q E R XS=some ⟨e,r,xs⟩∧Jz (H5a S p) S.w q R (S.ph p) u
def Axa (P:Program) (S:Sit) (p v:Nat) (pi:Option (List (Int×Nat))) (e:TypeId) (r:Ty) (xs:List r.den) (u:Value):Prop:=
 Cs r=true∧v≤(S.g p).1∧((S.g p).1=v→Tq (S.g p).2=true∧Tr P S p e r xs u∧
  H6a S p pi e r xs u)
def F1a (P:Program) (S:Sit) (lab:Lab) (e:TypeId) (r:Ty) (xs:List r.den) (i:Int) (b:Nat) (u:Value):Prop:=
 ∃ k cap cur b1 b2,u = .slice (some ⟨k,0,none⟩) xs.length cap∧Oo P e r.sz∧S.w.heap[k]? = some (.cells cur e (0,0))∧(xs.length≤cap∧cap≤maxLen∧cur.size=cap * r.sz)∧(0≤i∧i.toNat<xs.length)∧
  S.bb b=(k,i.toNat * r.sz)∧S.O k = .bx b∧(S.g (H b)).2 = .one (.hd r.sz)∧
  Cb (λ x c d=>r.dep P (λ k=>S.O k = .fz) S.w x c d) (xs.take i.toNat) (cur.toList.take (i.toNat * r.sz)) b1∧
  Cb (λ x c d=>r.dep P (λ k=>S.O k = .fz) S.w x c d) (xs.drop (i.toNat+1)) ((cur.toList.take (xs.length * r.sz)).drop (i.toNat * r.sz+r.sz)) b2∧(b1++b2).Nodup∧∀ k'∈b1++b2,S.O k'=lab
def Nf (S:Sit):List (Nat×Nat)→List Value→Prop
 |[],us=>us=[]
 |c::bs,us=>∃ u us',us=u::us'∧(c.2≤(S.g (H c.1)).1∧((S.g (H c.1)).1=c.2→u = .pointer (some ⟨(S.bb c.1).1,(S.bb c.1).2+0,none⟩)))∧Nf S bs us'
def Ai (P:Program) (S:Sit) (lab:Lab):Lf→Value→Prop
 |.dead,_=>True
 |.un,u=>u=undef
 |.sc v,u=>u=v∧V9 v=true
 |.fz e r xs,u=>(Ty.sl e r).rep P (λ k=>S.O k = .fz) S.w xs [u]
 |.own e r xs,u=>D5 P S.O S.w lab e r xs u
 |.al p v,u=>v≤(S.g p).1∧((S.g p).1=v→u=S.ph p)
 |.bp b v off,u=>v≤(S.g (H b)).1∧((S.g (H b)).1=v→u = .pointer (some ⟨(S.bb b).1,(S.bb b).2+off,none⟩))
 |.ep p v i off,u=>v≤(S.g p).1∧∀ e r xs,S.g p=(v,.one (.own e r xs))→0≤i∧i.toNat<xs.length∧
   ∃ k cap,S.ph p = .slice (some ⟨k,0,none⟩) xs.length cap∧u = .pointer (some ⟨k,i.toNat * r.sz+off,none⟩)
 |.fp r x off,u=>∃ k o cs,u = .pointer (some ⟨k,o+off,none⟩)∧S.O k = .fz∧r.rep P (λ k=>S.O k = .fz) S.w x cs∧Co S.w k o cs
 |.hd _,_=>True
 |.da p v pi e r xs,u=>Axa P S p v pi e r xs u
 |.opn e r xs i b v,u=>v≤(S.g (H b)).1∧(Oo P e r.sz∧0≤i∧i.toNat<xs.length∧∃ k cap,u = .slice (some ⟨k,0,none⟩) xs.length cap)∧((S.g (H b)).1=v→F1a P S lab e r xs i b u)
 |.fn F bs,u=>∃ us,u = .func (.func F) #[] us.toArray∧Nf S bs us
 |.dp p v pi e r xs i off,u=>∃ h,Axa P S p v pi e r xs h∧((S.g p).1=v→0≤i∧i.toNat<xs.length∧∃ k o cap,h = .slice (some ⟨k,o,none⟩) xs.length cap∧u = .pointer (some ⟨k,o+(i.toNat * r.sz+off),none⟩))
def A5 (P:Program) (S:Sit) (lab:Nat→Lab):Nat→List Lf→List Value→Prop
 |_,[],[]=>True
 |j,x::xs,u::us=>Ai P S (lab j) x u∧A5 P S lab (j+1) xs us
 |_,_,_=>False
def Iy (P:Program) (S:Sit) (l:Nat):Nat→List (Bool×List Lf)→List Value→Prop
 |_,[],[]=>True
 |i,v::vs,u::us=>(∃ ws,(if v.1 then u = .agg ws.toArray else ws=[u])∧A5 P S (λ j => .pl l [i,j]) 0 v.2 ws)∧Iy P S l (i+1) vs us
 |_,_,_=>False
def G6 (P:Program) (S:Sit) (l:Nat):Sv→Value→Prop
 |.one x,u=>Ai P S (.pl l []) x u
 |.agg cs,u=>∃ us,u = .agg us.toArray∧A5 P S (λ j => .pl l [j]) 0 cs us
 |.tup vs,u=>∃ us,u = .tuple us.toArray∧Iy P S l 0 vs us
structure Fr (O0:Nat→Lab) (w0:World) (rg:Nat→Nat×Nat) (O:Nat→Lab) (w:World):Prop where
 os:w.os=w0.os
 tape:w.tape=w0.tape
 out:w.output=w0.output
 size:w0.heap.size≤w.heap.size
 no:∀ k,k<w0.heap.size→O0 k = .no→O k = .no∧w.heap[k]? = w0.heap[k]?
 fz:∀ k,k<w0.heap.size→O0 k = .fz→O k = .fz∧w.heap[k]? = w0.heap[k]?
 bx:∀ k b,k<w0.heap.size→O0 k = .bx b→O k = .bx b∧∃ c c' e f,w0.heap[k]? = some (.cells c e f)∧w.heap[k]? = some (.cells c' e f)∧c'.size=c.size∧
  ∀ i,(i<(rg b).1∨(rg b).1+(rg b).2≤i)→c'[i]? = c[i]?
structure Cx where
 P:Program
 O0:Nat→Lab
 w0:World
 rg:Nat→Nat×Nat
 nt:Nat
 np:Nat
def Cx.pb (X:Cx) (b:Nat):Prop:=(b<X.np∧b<1000)∨(1500≤b∧b<2000)
structure Ae (X:Cx) (S:Sit) (a:Act):Prop where
 nt:X.nt≤1000
 lt:∀ k,S.O k ≠ .no→k<S.w.heap.size
 at_:∀ l,G6 X.P S l (S.g l).2 (S.ph l)
 box:∀ b n,(S.g (H b)).2 = .one (.hd n)→n<999∧∃ c e,S.w.heap[(S.bb b).1]? = some (.cells c e (0,0))∧S.O (S.bb b).1 = .bx b∧(S.bb b).2+n≤c.size∧
  ∀ j,j<n→c[(S.bb b).2+j]? = some (S.ph (C b j))
 rgn:∀ b n,(S.g (H b)).2 = .one (.hd n)→(b<2000→(S.bb b).1<X.w0.heap.size→X.O0 (S.bb b).1 = .bx b∧(X.rg b).1≤(S.bb b).2∧(S.bb b).2+n≤(X.rg b).1+(X.rg b).2)∧(X.pb b→(S.bb b).1<X.w0.heap.size)∧(2000≤b→(S.bb b).1<X.w0.heap.size→∀ b',X.O0 (S.bb b).1 ≠ .bx b')
 sl:∀ t,t<X.nt→a.tmps.getD t undef=S.ph t
 sz:a.tmps.size=X.nt
 df:a.defers=[]
 fr:Fr X.O0 X.w0 X.rg S.O S.w
structure Cq (S S':Sit):Prop where
 ver:∀ p,(S.g p).1≤(S'.g p).1
 ph:∀ p,(S'.g p).1=(S.g p).1→S'.ph p=S.ph p
 own:∀ p v e r xs',S'.g p=(v,.one (.own e r xs'))→(S.g p).1=v→∃ xs:List r.den,S.g p=(v,.one (.own e r xs))∧xs.length=xs'.length
 bb:∀ b,(S'.g (H b)).1=(S.g (H b)).1→S'.bb b=S.bb b
 fz:∀ k,S.O k = .fz→S'.O k = .fz∧S'.w.heap[k]? = S.w.heap[k]?
 box:∀ b n,(S'.g (H b)).1=(S.g (H b)).1→(S.g (H b)).2 = .one (.hd n)→S.O (S.bb b).1 = .bx b→(S'.g (H b)).2 = .one (.hd n)∧S'.O (S.bb b).1 = .bx b∧
  ∀ c e f,S.w.heap[(S.bb b).1]? = some (.cells c e f)→∃ c',S'.w.heap[(S.bb b).1]? = some (.cells c' e f)∧c'.size=c.size∧∀ j,(j<(S.bb b).2∨(S.bb b).2+n≤j)→c'[j]? = c[j]?
 bor:∀ p,(S'.g p).1=(S.g p).1→Tq (S.g p).2=true→Tq (S'.g p).2=true∧(∀ E R XS,(S'.g p).2 = .one (.own E R XS)→(S.g p).2 = .one (.own E R XS))∧∀ k,S.O k = .pl p []→H5a S' p k∧S'.w.heap[k]? = S.w.heap[k]?
section
variable {P:Program} {S S':Sit} {lab lab':Lab} {u:Value}
theorem Cq.box_of (hg:∀ b n,(S'.g (H b)).1=(S.g (H b)).1→(S.g (H b)).2 = .one (.hd n)→(S'.g (H b)).2 = .one (.hd n)) (hO:∀ k b,S.O k = .bx b→S'.O k = .bx b∧S'.w.heap[k]? = S.w.heap[k]?):
  ∀ b n,(S'.g (H b)).1=(S.g (H b)).1→(S.g (H b)).2 = .one (.hd n)→S.O (S.bb b).1 = .bx b→(S'.g (H b)).2 = .one (.hd n)∧S'.O (S.bb b).1 = .bx b∧
  ∀ c e f,S.w.heap[(S.bb b).1]? = some (.cells c e f)→∃ c',S'.w.heap[(S.bb b).1]? = some (.cells c' e f)∧c'.size=c.size∧∀ j,(j<(S.bb b).2∨(S.bb b).2+n≤j)→c'[j]? = c[j]?:=
 λ b n h1 h2 h3=>⟨hg b n h1 h2,(hO _ _ h3).1,λ c e f hc=>⟨c,(hO _ _ h3).2.trans hc,rfl,λ _ _=>rfl⟩⟩
theorem F2a {c c':Array Value} {o n:Nat} (hs:c'.size=c.size) (h:∀ j,(j<o∨o+n≤j)→c'[j]? = c[j]?):c'.toList.take o=c.toList.take o∧∀ m,(c'.toList.take m).drop (o+n)=(c.toList.take m).drop (o+n):=by
 refine ⟨List.ext_getElem? λ j=>?_,λ m=>List.ext_getElem? λ j=>?_⟩
 ·rw [List.getElem?_take,List.getElem?_take]
  split
  ·rw [Array.getElem?_toList,Array.getElem?_toList]
   exact h j (.inl ‹_›)
  ·rfl
 ·rw [List.getElem?_drop,List.getElem?_drop,List.getElem?_take,List.getElem?_take]
  split
  ·rw [Array.getElem?_toList,Array.getElem?_toList]
   exact h _ (.inr (by omega))
  ·rfl
theorem F1a.later {e:TypeId} {r:Ty} {xs:List r.den} {i:Int} {b:Nat} (L:Cq S S') (hv:(S'.g (H b)).1=(S.g (H b)).1) (h:F1a P S lab e r xs i b u) (hl:∀ k,S.O k=lab→S'.O k=lab'∧S'.w.heap[k]? = S.w.heap[k]?):F1a P S' lab' e r xs i b u:=by
 obtain ⟨k,cap,cur,b1,b2,h1,h2,h3,⟨h4,h5,h6⟩,h7,h8,h9,h10,h11,h12,h13,h14⟩:=h
 obtain ⟨g1,g2,g3⟩:=L.box b r.sz hv h10 (by rw [h8]; exact h9)
 rw [h8] at g2 g3
 obtain ⟨c',c1,c2,c3⟩:=g3 _ _ _ h3
 obtain ⟨t1,t2⟩:=F2a c2 c3
 have mono:∀ {ys:List r.den} {cs:List Value} {bs:List Nat},(∀ k∈bs,k∈b1++b2)→Cb (λ x c d=>r.dep P (λ k=>S.O k = .fz) S.w x c d) ys cs bs→Cb (λ x c d=>r.dep P (λ k=>S'.O k = .fz) S'.w x c d) ys cs bs:=λ hb h=>
  h.mono (λ x c d hd hx=>Ty.dep_mono (λ k hk=>(L.fz k hk).1) (λ k hk=>(L.fz k hk).2) r x c d (λ k hk=>(hl k (h14 k (hb k (hd k hk)))).2) hx)
 refine ⟨k,cap,c',b1,b2,h1,h2,c1,⟨h4,h5,c2.trans h6⟩,h7,(L.bb b hv).trans h8,g2,g1,?_,?_,h13,λ k' hk'=>(hl k' (h14 k' hk')).1⟩
 ·rw [t1]; exact mono (λ k hk=>List.mem_append_left _ hk) h11
 ·rw [t2]; exact mono (λ k hk=>List.mem_append_right _ hk) h12
theorem Nf.later (L:Cq S S'):∀ {bs:List (Nat×Nat)} {us:List Value},Nf S bs us→Nf S' bs us
 |[],_,h=>h
 |c::bs,_,⟨u,us',e,⟨h1,h2⟩,h3⟩=>⟨u,us',e,⟨Nat.le_trans h1 (L.ver _),λ hv=>by
  have e1:(S.g (H c.1)).1=c.2:=Nat.le_antisymm (hv ▸ L.ver _) h1
  rw [L.bb c.1 (hv.trans e1.symm)]
  exact h2 e1⟩,h3.later L⟩
theorem D5.later {O O':Nat→Lab} {w w':World} {e:TypeId} {r:Ty} {xs:List r.den} (h:D5 P O w lab e r xs u)
  (hf:∀ k,O k = .fz→O' k = .fz∧w'.heap[k]? = w.heap[k]?) (hl:∀ k,O k=lab→O' k=lab'∧w'.heap[k]? = w.heap[k]?):D5 P O' w' lab' e r xs u:=by
 obtain ⟨bs,hd,hn,hk⟩:=h
 exact ⟨bs,Ty.dep_mono (λ k h=>(hf k h).1) (λ k h=>(hf k h).2) (.ow e r) xs [u] bs (λ k h=>(hl k (hk k h)).2) hd,hn,λ k h=>(hl k (hk k h)).1⟩
theorem Tr.reads {P:Program} {S:Sit} {p:Nat} {e:TypeId} {r:Ty} {xs:List r.den} {u:Value} {G:Nat→Prop} (h:Tr P S p e r xs u) (hG:∀ k,H5a S p k→G k):(Ty.sl e r).rep P G S.w xs [u]:=by
 obtain ⟨hs,a,cap,cs,bs,e1,hc,hd,hb,hne⟩:=h
 refine ⟨u,rfl,hs,a,cap,cs,e1,hc,hd.rows (λ x c b hbb h=>Ty.dep_rep (λ k hk=>hG k (.inr hk)) r x c b (λ k hk=>hG k (hb k (hbb k hk))) h),λ hn=>?_⟩
 obtain ⟨k,o,e2,hk,hcs⟩:=hne hn
 exact ⟨k,o,e2,hG k hk,hcs⟩
theorem Jz.mono {G G':Nat→Prop} {w w':World} (hG:∀ k,G k→G' k∧w'.heap[k]? = w.heap[k]?):∀ (q:List (Int×Nat)) (r:Ty) (u u':Value),Jz G w q r u u'→Jz G' w' q r u u'
 |[],_,_,_,h=>h
 |(_,_)::q,_,_,_,⟨k,o,n,cap,e1,r1,u1,h1,h2,h3,h4,h5⟩=>⟨k,o,n,cap,e1,r1,u1,h1,(hG k h2).1,(Ri (hG k h2).2 _).trans h3,h4,h5.mono hG q r1 u1 _⟩
theorem Axa.later {p v:Nat} {pi:Option (List (Int×Nat))} {e:TypeId} {r:Ty} {xs:List r.den} (L:Cq S S') (h:Axa P S p v pi e r xs u):Axa P S' p v pi e r xs u:=by
 obtain ⟨h0,h1,h2⟩:=h
 refine ⟨h0,Nat.le_trans h1 (L.ver p),λ hv=>?_⟩
 have e1:(S.g p).1=v:=Nat.le_antisymm (hv ▸ L.ver p) h1
 obtain ⟨d1,⟨d2,a,cap,cs,bs,d3,d4,d5,d6,d7⟩,d8⟩:=h2 e1
 obtain ⟨b1,b2,b3⟩:=L.bor p (hv.trans e1.symm) d1
 have hm:∀ k,H5a S p k→H5a S' p k∧S'.w.heap[k]? = S.w.heap[k]? := λ k hk=>by
  rcases hk with hk|hk
  ·exact b3 k hk
  ·exact ⟨.inr (L.fz k hk).1,(L.fz k hk).2⟩
 refine ⟨b1,⟨d2,a,cap,cs,bs,d3,d4,d5.mono (λ x c b hb hx=>Ty.dep_mono (λ k hk=>(L.fz k hk).1) (λ k hk=>(L.fz k hk).2) r x c b (λ k hk=>(hm k (d6 k (hb k hk))).2) hx),λ k hk=>(hm k (d6 k hk)).1,λ hn=>?_⟩,λ q hq E R XS hg=>?_⟩
 ·obtain ⟨k,o,e3,e4,e5⟩:=d7 hn
  exact ⟨k,o,e3,(hm k e4).1,e5.mono (hm k e4).2⟩
 ·obtain ⟨f1,f2⟩:=d8 q hq E R XS (b2 E R XS hg)
  refine ⟨f1,?_⟩
  rw [L.ph p (hv.trans e1.symm)]
  exact f2.mono hm
theorem Ai.later {x:Lf} (L:Cq S S') (h:Ai P S lab x u) (hl:∀ k,S.O k=lab→S'.O k=lab'∧S'.w.heap[k]? = S.w.heap[k]?):Ai P S' lab' x u:=by
 cases x with
 |dead=>trivial
 |un=>exact h
 |sc v=>exact h
 |fz e r xs=>exact Ty.rep_mono (λ k h=>(L.fz k h).1) (λ k h=>(L.fz k h).2) _ _ _ h
 |own e r xs=>exact D5.later h L.fz hl
 |al p v=>
  refine ⟨Nat.le_trans h.1 (L.ver p),λ hv=>?_⟩
  have e1:(S.g p).1=v:=Nat.le_antisymm (hv ▸ L.ver p) h.1
  rw [L.ph p (hv.trans e1.symm)]
  exact h.2 e1
 |bp b v off=>
  refine ⟨Nat.le_trans h.1 (L.ver _),λ hv=>?_⟩
  have e1:(S.g (H b)).1=v:=Nat.le_antisymm (hv ▸ L.ver _) h.1
  rw [L.bb b (hv.trans e1.symm)]
  exact h.2 e1
 |ep p v i off=>
  refine ⟨Nat.le_trans h.1 (L.ver p),λ e r xs hv=>?_⟩
  have e0:(S'.g p).1=v:=by rw [hv]
  have e1:(S.g p).1=v:=Nat.le_antisymm (e0 ▸ L.ver p) h.1
  obtain ⟨ys,hy,hl⟩:=L.own p v e r xs hv e1
  obtain ⟨h0,h1,k,cap,h2,h3⟩:=h.2 e r ys hy
  refine ⟨h0,hl ▸ h1,k,cap,?_,h3⟩
  rw [L.ph p (e0.trans e1.symm),h2,hl]
 |fp r x off=>
  obtain ⟨k,o,cs,h1,h2,h3,h4⟩:=h
  exact ⟨k,o,cs,h1,(L.fz k h2).1,Ty.rep_mono (λ k h=>(L.fz k h).1) (λ k h=>(L.fz k h).2) _ _ _ h3,h4.mono (L.fz k h2).2⟩
 |hd n=>trivial
 |da p v pi e r xs=>exact Axa.later L h
 |opn e r xs i b v=>
  refine ⟨Nat.le_trans h.1 (L.ver _),h.2.1,λ hv=>?_⟩
  have e1:(S.g (H b)).1=v:=Nat.le_antisymm (hv ▸ L.ver _) h.1
  exact (h.2.2 e1).later L (hv.trans e1.symm) hl
 |fn F bs=>
  obtain ⟨us,e,h⟩:=h
  exact ⟨us,e,h.later L⟩
 |dp p v pi e r xs i off=>
  obtain ⟨hd,h1,h2⟩:=h
  refine ⟨hd,h1.later L,λ hv=>h2 ?_⟩
  exact Nat.le_antisymm (hv ▸ L.ver p) h1.2.1
def Lf.isOwn:Lf→Bool
 |.own _ _ _=>true
 |.opn _ _ _ _ _ _=>true
 |_=>false
theorem Ai.relab {x:Lf} (hx:x.isOwn=false) (h:Ai P S lab x u):Ai P S lab' x u:=by
 cases x<;>first|exact h|(simp [Lf.isOwn] at hx)
theorem A5.imp {f f':Nat→Lab} (hi:∀ j x u,Ai P S (f j) x u→Ai P S' (f' j) x u):∀ {j:Nat} {xs:List Lf} {us:List Value},A5 P S f j xs us→A5 P S' f' j xs us
 |_,[],[],_=>trivial
 |j,_::_,_::_,h=>⟨hi j _ _ h.1,h.2.imp hi⟩
 |_,[],_::_,h=>h.elim
 |_,_::_,[],h=>h.elim
theorem Iy.imp {l l':Nat} (hi:∀ i j x u,Ai P S (.pl l [i,j]) x u→Ai P S' (.pl l' [i,j]) x u):∀ {i:Nat} {vs:List (Bool×List Lf)} {us:List Value},Iy P S l i vs us→Iy P S' l' i vs us
 |_,[],[],_=>trivial
 |i,_::_,_::_,⟨⟨ws,h1,h2⟩,h3⟩=>⟨⟨ws,h1,h2.imp (λ j=>hi i j)⟩,h3.imp hi⟩
 |_,[],_::_,h=>h.elim
 |_,_::_,[],h=>h.elim
theorem G6.imp {l l':Nat} {s:Sv} (hi:∀ p x u,Ai P S (.pl l p) x u→Ai P S' (.pl l' p) x u) (h:G6 P S l s u):G6 P S' l' s u:=by
 cases s with
 |one x=>exact hi _ _ _ h
 |agg cs=>obtain ⟨us,e,h⟩:=h; exact ⟨us,e,h.imp (λ j=>hi [j])⟩
 |tup vs=>obtain ⟨us,e,h⟩:=h; exact ⟨us,e,h.imp (λ i j=>hi [i,j])⟩
theorem G6.later {l:Nat} {s:Sv} (L:Cq S S') (h:G6 P S l s u) (hl:∀ p k,S.O k = .pl l p→S'.O k = .pl l p∧S'.w.heap[k]? = S.w.heap[k]?):G6 P S' l s u:=
 h.imp (λ p _ _ h=>h.later L (hl p))
theorem A5.relab {f f':Nat→Lab}:∀ {j:Nat} {xs:List Lf} {us:List Value},Ct xs=false→A5 P S f j xs us→A5 P S f' j xs us
 |_,[],[],_,_=>trivial
 |j,x::xs,u::us,ho,h=>by
  cases x<;>first|(simp [Ct] at ho; done)|exact ⟨Ai.relab rfl h.1,A5.relab (by simpa [Ct] using ho) h.2⟩
 |_,[],_::_,_,h=>h.elim
 |_,_::_,[],_,h=>h.elim
theorem Iy.relab {l l':Nat}:∀ {i:Nat} {vs:List (Bool×List Lf)} {us:List Value},vs.any (λ v=>Ct v.2)=false→Iy P S l i vs us→Iy P S l' i vs us
 |_,[],[],_,_=>trivial
 |i,_::_,_::_,ho,⟨⟨ws,h1,h2⟩,h3⟩=>by
  simp only [List.any_cons,Bool.or_eq_false_iff] at ho
  exact ⟨⟨ws,h1,h2.relab ho.1⟩,h3.relab ho.2⟩
 |_,[],_::_,_,h=>h.elim
 |_,_::_,[],_,h=>h.elim
theorem G6.relab {l l':Nat} {s:Sv} (ho:Hx s=false) (h:G6 P S l s u):G6 P S l' s u:=by
 cases s with
 |one x=>exact Ai.relab (by cases x<;>first|rfl|(simp [Hx,Ct] at ho)) h
 |agg cs=>obtain ⟨us,e,h⟩:=h; exact ⟨us,e,h.relab ho⟩
 |tup vs=>obtain ⟨us,e,h⟩:=h; exact ⟨us,e,h.relab ho⟩
end
theorem Jua {b b' j:Nat} (hj:j<999):C b j≠H b':=by unfold C H; omega
theorem Q5 {b b':Nat} (h:H b=H b'):b=b':=by unfold H at h; omega
theorem Mea (b j:Nat):1000≤C b j:=by unfold C; omega
theorem Jva (b:Nat):1000≤H b:=by unfold H; omega
def upd {β:Type} (f:Nat→β) (l:Nat) (v:β):Nat→β:=λ k=>if k=l then v else f k
@[simp] theorem A7 {β:Type} (f:Nat→β) (l:Nat) (v:β):upd f l v l=v:=by simp [upd]
theorem Ac {β:Type} (f:Nat→β) {l k:Nat} (v:β) (h:k≠l):upd f l v k=f k:=by simp [upd,h]
theorem Hp (A:Ab) (u:Up):get (up A u)=upd (get A) u.l ((bif u.keep then (get A u.l).1 else (get A u.l).1+1),u.s):=by
 funext k
 unfold upd up
 simp only [get]
 by_cases h:k=u.l
 ·subst h; simp
 ·have:Nat.beq u.l k=false:=by
   cases hb:Nat.beq u.l k with
   |false=>rfl
   |true=>exact absurd (Nat.eq_of_beq_eq_true hb).symm h
  simp [this,h]

end Go.Proofs.Ytlfoljnopndpeaa.Vf
