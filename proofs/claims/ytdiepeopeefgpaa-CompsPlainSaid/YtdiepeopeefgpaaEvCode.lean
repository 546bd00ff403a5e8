/- EvCode: texts joined. -/
import Derived.Test.YtdiepeopeefgpaaEvOps
import Derived.Defers
import Derived.Orders
import Derived.Laws.Sem
import Derived.Test.YtdiepeopeefgpaaEvLaw
/- EVALUATOR, 25: equality of values, as the kernel runs it. Printed by gen_eq.py. -/
namespace Go.Ev
noncomputable def oeq (a b : Option Nat) : Bool:=Option.rec (motive:=fun _=>Bool) (Option.rec (motive:=fun _=>Bool) true (fun _=>false) b) (fun x=>Option.rec (motive:=fun _=>Bool) false (fun y=>Nat.beq x y) b) a
theorem oeq_eq {a b : Option Nat} (h : oeq a b = true) : a = b:=by
 cases a <;> cases b <;> first | rfl | cases h | exact congrArg some (Nat.eq_of_beq_eq_true h)
theorem beqB {a b : Bool} (h : (Bool.rec (motive:=fun _=>Bool) (Bool.rec (motive:=fun _=>Bool) true false b) b a : Bool) = true) : a = b:=by cases a <;> cases b <;> first | rfl | cases h
noncomputable def veqk (x y : V) (k : Res) : Res:=
 V.rec (motive_1:=fun _=>V→Res→Res) (motive_2:=fun _=>List V→Res→Res)
  (fun  y k=>V.rec (motive_1:=fun _=>Res) (motive_2:=fun _=>PUnit) k .fail (fun _=>.fail) (fun _ _=>.fail) (fun _ _=>.fail) .fail (fun _ _=>.fail) .fail (fun _ _ _ _ _=>.fail) .fail .fail (fun _=>.fail) .fail (fun _ _ _=>.fail) .fail (fun _ _ _=>.fail) (fun _ _ _=>.fail) (fun _ _=>.fail) PUnit.unit (fun _ _ _ _=>PUnit.unit) y)
  (fun  y k=>V.rec (motive_1:=fun _=>Res) (motive_2:=fun _=>PUnit) .fail k (fun _=>.fail) (fun _ _=>.fail) (fun _ _=>.fail) .fail (fun _ _=>.fail) .fail (fun _ _ _ _ _=>.fail) .fail .fail (fun _=>.fail) .fail (fun _ _ _=>.fail) .fail (fun _ _ _=>.fail) (fun _ _ _=>.fail) (fun _ _=>.fail) PUnit.unit (fun _ _ _ _=>PUnit.unit) y)
  (fun b0 y k=>V.rec (motive_1:=fun _=>Res) (motive_2:=fun _=>PUnit) .fail .fail (fun b1=>(ifk (Bool.rec (motive:=fun _=>Bool) (Bool.rec (motive:=fun _=>Bool) true false b1) b1 b0) k .fail)) (fun _ _=>.fail) (fun _ _=>.fail) .fail (fun _ _=>.fail) .fail (fun _ _ _ _ _=>.fail) .fail .fail (fun _=>.fail) .fail (fun _ _ _=>.fail) .fail (fun _ _ _=>.fail) (fun _ _ _=>.fail) (fun _ _=>.fail) PUnit.unit (fun _ _ _ _=>PUnit.unit) y)
  (fun k0 n0 y k=>V.rec (motive_1:=fun _=>Res) (motive_2:=fun _=>PUnit) .fail .fail (fun _=>.fail) (fun k1 n1=>(ifk (Nat.beq (kno k0) (kno k1)) (ifk (ieq n0 n1) k .fail) .fail)) (fun _ _=>.fail) .fail (fun _ _=>.fail) .fail (fun _ _ _ _ _=>.fail) .fail .fail (fun _=>.fail) .fail (fun _ _ _=>.fail) .fail (fun _ _ _=>.fail) (fun _ _ _=>.fail) (fun _ _=>.fail) PUnit.unit (fun _ _ _ _=>PUnit.unit) y)
  (fun l0 n0 y k=>V.rec (motive_1:=fun _=>Res) (motive_2:=fun _=>PUnit) .fail .fail (fun _=>.fail) (fun _ _=>.fail) (fun l1 n1=>(ifk (Nat.beq l0 l1) (ifk (Nat.beq n0 n1) k .fail) .fail)) .fail (fun _ _=>.fail) .fail (fun _ _ _ _ _=>.fail) .fail .fail (fun _=>.fail) .fail (fun _ _ _=>.fail) .fail (fun _ _ _=>.fail) (fun _ _ _=>.fail) (fun _ _=>.fail) PUnit.unit (fun _ _ _ _=>PUnit.unit) y)
  (fun  y k=>V.rec (motive_1:=fun _=>Res) (motive_2:=fun _=>PUnit) .fail .fail (fun _=>.fail) (fun _ _=>.fail) (fun _ _=>.fail) k (fun _ _=>.fail) .fail (fun _ _ _ _ _=>.fail) .fail .fail (fun _=>.fail) .fail (fun _ _ _=>.fail) .fail (fun _ _ _=>.fail) (fun _ _ _=>.fail) (fun _ _=>.fail) PUnit.unit (fun _ _ _ _=>PUnit.unit) y)
  (fun b0 o0 y k=>V.rec (motive_1:=fun _=>Res) (motive_2:=fun _=>PUnit) .fail .fail (fun _=>.fail) (fun _ _=>.fail) (fun _ _=>.fail) .fail (fun b1 o1=>(ifk (Nat.beq b0.val b1.val) (ifk (Nat.beq o0 o1) k .fail) .fail)) .fail (fun _ _ _ _ _=>.fail) .fail .fail (fun _=>.fail) .fail (fun _ _ _=>.fail) .fail (fun _ _ _=>.fail) (fun _ _ _=>.fail) (fun _ _=>.fail) PUnit.unit (fun _ _ _ _=>PUnit.unit) y)
  (fun  y k=>V.rec (motive_1:=fun _=>Res) (motive_2:=fun _=>PUnit) .fail .fail (fun _=>.fail) (fun _ _=>.fail) (fun _ _=>.fail) .fail (fun _ _=>.fail) k (fun _ _ _ _ _=>.fail) .fail .fail (fun _=>.fail) .fail (fun _ _ _=>.fail) .fail (fun _ _ _=>.fail) (fun _ _ _=>.fail) (fun _ _=>.fail) PUnit.unit (fun _ _ _ _=>PUnit.unit) y)
  (fun b0 o0 l0 c0 s0 y k=>V.rec (motive_1:=fun _=>Res) (motive_2:=fun _=>PUnit) .fail .fail (fun _=>.fail) (fun _ _=>.fail) (fun _ _=>.fail) .fail (fun _ _=>.fail) .fail (fun b1 o1 l1 c1 s1=>(ifk (Nat.beq b0.val b1.val) (ifk (Nat.beq o0 o1) (ifk (Nat.beq l0 l1) (ifk (oeq c0 c1) (ifk (Nat.beq s0 s1) k .fail) .fail) .fail) .fail) .fail)) .fail .fail (fun _=>.fail) .fail (fun _ _ _=>.fail) .fail (fun _ _ _=>.fail) (fun _ _ _=>.fail) (fun _ _=>.fail) PUnit.unit (fun _ _ _ _=>PUnit.unit) y)
  (fun  y k=>V.rec (motive_1:=fun _=>Res) (motive_2:=fun _=>PUnit) .fail .fail (fun _=>.fail) (fun _ _=>.fail) (fun _ _=>.fail) .fail (fun _ _=>.fail) .fail (fun _ _ _ _ _=>.fail) k .fail (fun _=>.fail) .fail (fun _ _ _=>.fail) .fail (fun _ _ _=>.fail) (fun _ _ _=>.fail) (fun _ _=>.fail) PUnit.unit (fun _ _ _ _=>PUnit.unit) y)
  (fun  y k=>V.rec (motive_1:=fun _=>Res) (motive_2:=fun _=>PUnit) .fail .fail (fun _=>.fail) (fun _ _=>.fail) (fun _ _=>.fail) .fail (fun _ _=>.fail) .fail (fun _ _ _ _ _=>.fail) .fail k (fun _=>.fail) .fail (fun _ _ _=>.fail) .fail (fun _ _ _=>.fail) (fun _ _ _=>.fail) (fun _ _=>.fail) PUnit.unit (fun _ _ _ _=>PUnit.unit) y)
  (fun b0 y k=>V.rec (motive_1:=fun _=>Res) (motive_2:=fun _=>PUnit) .fail .fail (fun _=>.fail) (fun _ _=>.fail) (fun _ _=>.fail) .fail (fun _ _=>.fail) .fail (fun _ _ _ _ _=>.fail) .fail .fail (fun b1=>(ifk (Nat.beq b0.val b1.val) k .fail)) .fail (fun _ _ _=>.fail) .fail (fun _ _ _=>.fail) (fun _ _ _=>.fail) (fun _ _=>.fail) PUnit.unit (fun _ _ _ _=>PUnit.unit) y)
  (fun  y k=>V.rec (motive_1:=fun _=>Res) (motive_2:=fun _=>PUnit) .fail .fail (fun _=>.fail) (fun _ _=>.fail) (fun _ _=>.fail) .fail (fun _ _=>.fail) .fail (fun _ _ _ _ _=>.fail) .fail .fail (fun _=>.fail) k (fun _ _ _=>.fail) .fail (fun _ _ _=>.fail) (fun _ _ _=>.fail) (fun _ _=>.fail) PUnit.unit (fun _ _ _ _=>PUnit.unit) y)
  (fun f0 _ ih y k=>V.rec (motive_1:=fun _=>Res) (motive_2:=fun _=>PUnit) .fail .fail (fun _=>.fail) (fun _ _=>.fail) (fun _ _=>.fail) .fail (fun _ _=>.fail) .fail (fun _ _ _ _ _=>.fail) .fail .fail (fun _=>.fail) .fail (fun f1 cap1 _=>(ifk (Nat.beq f0 f1) (ih cap1 k) .fail)) .fail (fun _ _ _=>.fail) (fun _ _ _=>.fail) (fun _ _=>.fail) PUnit.unit (fun _ _ _ _=>PUnit.unit) y)
  (fun  y k=>V.rec (motive_1:=fun _=>Res) (motive_2:=fun _=>PUnit) .fail .fail (fun _=>.fail) (fun _ _=>.fail) (fun _ _=>.fail) .fail (fun _ _=>.fail) .fail (fun _ _ _ _ _=>.fail) .fail .fail (fun _=>.fail) .fail (fun _ _ _=>.fail) k (fun _ _ _=>.fail) (fun _ _ _=>.fail) (fun _ _=>.fail) PUnit.unit (fun _ _ _ _=>PUnit.unit) y)
  (fun t0 _ ih y k=>V.rec (motive_1:=fun _=>Res) (motive_2:=fun _=>PUnit) .fail .fail (fun _=>.fail) (fun _ _=>.fail) (fun _ _=>.fail) .fail (fun _ _=>.fail) .fail (fun _ _ _ _ _=>.fail) .fail .fail (fun _=>.fail) .fail (fun _ _ _=>.fail) .fail (fun t1 v1 _=>(ifk (Nat.beq t0 t1) (ih v1 k) .fail)) (fun _ _ _=>.fail) (fun _ _=>.fail) PUnit.unit (fun _ _ _ _=>PUnit.unit) y)
  (fun n0 _ ih y k=>V.rec (motive_1:=fun _=>Res) (motive_2:=fun _=>PUnit) .fail .fail (fun _=>.fail) (fun _ _=>.fail) (fun _ _=>.fail) .fail (fun _ _=>.fail) .fail (fun _ _ _ _ _=>.fail) .fail .fail (fun _=>.fail) .fail (fun _ _ _=>.fail) .fail (fun _ _ _=>.fail) (fun n1 l1 _=>(ifk (Nat.beq n0 n1) (ih l1 k) .fail)) (fun _ _=>.fail) PUnit.unit (fun _ _ _ _=>PUnit.unit) y)
  (fun _ ih y k=>V.rec (motive_1:=fun _=>Res) (motive_2:=fun _=>PUnit) .fail .fail (fun _=>.fail) (fun _ _=>.fail) (fun _ _=>.fail) .fail (fun _ _=>.fail) .fail (fun _ _ _ _ _=>.fail) .fail .fail (fun _=>.fail) .fail (fun _ _ _=>.fail) .fail (fun _ _ _=>.fail) (fun _ _ _=>.fail) (fun l1 _=>(ih l1 k)) PUnit.unit (fun _ _ _ _=>PUnit.unit) y)
  (fun ys k=>nilk' ys k) (fun _ _ ih1 ih2 ys k=>unc ys fun y ys=>ih1 y (ih2 ys k)) x y k
noncomputable def veqsk (l : List V) : List V→Res→Res:=List.rec (motive:=fun _=>List V→Res→Res) (fun ys k=>nilk' ys k) (fun v _ ih ys k=>unc ys fun y ys=>veqk v y (ih ys k)) l
theorem veqsk_eq (l : List V) : (V.rec_1 (motive_1:=fun _=>V→Res→Res) (motive_2:=fun _=>List V→Res→Res)
 (fun  y k=>V.rec (motive_1:=fun _=>Res) (motive_2:=fun _=>PUnit) k .fail (fun _=>.fail) (fun _ _=>.fail) (fun _ _=>.fail) .fail (fun _ _=>.fail) .fail (fun _ _ _ _ _=>.fail) .fail .fail (fun _=>.fail) .fail (fun _ _ _=>.fail) .fail (fun _ _ _=>.fail) (fun _ _ _=>.fail) (fun _ _=>.fail) PUnit.unit (fun _ _ _ _=>PUnit.unit) y)
 (fun  y k=>V.rec (motive_1:=fun _=>Res) (motive_2:=fun _=>PUnit) .fail k (fun _=>.fail) (fun _ _=>.fail) (fun _ _=>.fail) .fail (fun _ _=>.fail) .fail (fun _ _ _ _ _=>.fail) .fail .fail (fun _=>.fail) .fail (fun _ _ _=>.fail) .fail (fun _ _ _=>.fail) (fun _ _ _=>.fail) (fun _ _=>.fail) PUnit.unit (fun _ _ _ _=>PUnit.unit) y)
 (fun b0 y k=>V.rec (motive_1:=fun _=>Res) (motive_2:=fun _=>PUnit) .fail .fail (fun b1=>(ifk (Bool.rec (motive:=fun _=>Bool) (Bool.rec (motive:=fun _=>Bool) true false b1) b1 b0) k .fail)) (fun _ _=>.fail) (fun _ _=>.fail) .fail (fun _ _=>.fail) .fail (fun _ _ _ _ _=>.fail) .fail .fail (fun _=>.fail) .fail (fun _ _ _=>.fail) .fail (fun _ _ _=>.fail) (fun _ _ _=>.fail) (fun _ _=>.fail) PUnit.unit (fun _ _ _ _=>PUnit.unit) y)
 (fun k0 n0 y k=>V.rec (motive_1:=fun _=>Res) (motive_2:=fun _=>PUnit) .fail .fail (fun _=>.fail) (fun k1 n1=>(ifk (Nat.beq (kno k0) (kno k1)) (ifk (ieq n0 n1) k .fail) .fail)) (fun _ _=>.fail) .fail (fun _ _=>.fail) .fail (fun _ _ _ _ _=>.fail) .fail .fail (fun _=>.fail) .fail (fun _ _ _=>.fail) .fail (fun _ _ _=>.fail) (fun _ _ _=>.fail) (fun _ _=>.fail) PUnit.unit (fun _ _ _ _=>PUnit.unit) y)
 (fun l0 n0 y k=>V.rec (motive_1:=fun _=>Res) (motive_2:=fun _=>PUnit) .fail .fail (fun _=>.fail) (fun _ _=>.fail) (fun l1 n1=>(ifk (Nat.beq l0 l1) (ifk (Nat.beq n0 n1) k .fail) .fail)) .fail (fun _ _=>.fail) .fail (fun _ _ _ _ _=>.fail) .fail .fail (fun _=>.fail) .fail (fun _ _ _=>.fail) .fail (fun _ _ _=>.fail) (fun _ _ _=>.fail) (fun _ _=>.fail) PUnit.unit (fun _ _ _ _=>PUnit.unit) y)
 (fun  y k=>V.rec (motive_1:=fun _=>Res) (motive_2:=fun _=>PUnit) .fail .fail (fun _=>.fail) (fun _ _=>.fail) (fun _ _=>.fail) k (fun _ _=>.fail) .fail (fun _ _ _ _ _=>.fail) .fail .fail (fun _=>.fail) .fail (fun _ _ _=>.fail) .fail (fun _ _ _=>.fail) (fun _ _ _=>.fail) (fun _ _=>.fail) PUnit.unit (fun _ _ _ _=>PUnit.unit) y)
 (fun b0 o0 y k=>V.rec (motive_1:=fun _=>Res) (motive_2:=fun _=>PUnit) .fail .fail (fun _=>.fail) (fun _ _=>.fail) (fun _ _=>.fail) .fail (fun b1 o1=>(ifk (Nat.beq b0.val b1.val) (ifk (Nat.beq o0 o1) k .fail) .fail)) .fail (fun _ _ _ _ _=>.fail) .fail .fail (fun _=>.fail) .fail (fun _ _ _=>.fail) .fail (fun _ _ _=>.fail) (fun _ _ _=>.fail) (fun _ _=>.fail) PUnit.unit (fun _ _ _ _=>PUnit.unit) y)
 (fun  y k=>V.rec (motive_1:=fun _=>Res) (motive_2:=fun _=>PUnit) .fail .fail (fun _=>.fail) (fun _ _=>.fail) (fun _ _=>.fail) .fail (fun _ _=>.fail) k (fun _ _ _ _ _=>.fail) .fail .fail (fun _=>.fail) .fail (fun _ _ _=>.fail) .fail (fun _ _ _=>.fail) (fun _ _ _=>.fail) (fun _ _=>.fail) PUnit.unit (fun _ _ _ _=>PUnit.unit) y)
 (fun b0 o0 l0 c0 s0 y k=>V.rec (motive_1:=fun _=>Res) (motive_2:=fun _=>PUnit) .fail .fail (fun _=>.fail) (fun _ _=>.fail) (fun _ _=>.fail) .fail (fun _ _=>.fail) .fail (fun b1 o1 l1 c1 s1=>(ifk (Nat.beq b0.val b1.val) (ifk (Nat.beq o0 o1) (ifk (Nat.beq l0 l1) (ifk (oeq c0 c1) (ifk (Nat.beq s0 s1) k .fail) .fail) .fail) .fail) .fail)) .fail .fail (fun _=>.fail) .fail (fun _ _ _=>.fail) .fail (fun _ _ _=>.fail) (fun _ _ _=>.fail) (fun _ _=>.fail) PUnit.unit (fun _ _ _ _=>PUnit.unit) y)
 (fun  y k=>V.rec (motive_1:=fun _=>Res) (motive_2:=fun _=>PUnit) .fail .fail (fun _=>.fail) (fun _ _=>.fail) (fun _ _=>.fail) .fail (fun _ _=>.fail) .fail (fun _ _ _ _ _=>.fail) k .fail (fun _=>.fail) .fail (fun _ _ _=>.fail) .fail (fun _ _ _=>.fail) (fun _ _ _=>.fail) (fun _ _=>.fail) PUnit.unit (fun _ _ _ _=>PUnit.unit) y)
 (fun  y k=>V.rec (motive_1:=fun _=>Res) (motive_2:=fun _=>PUnit) .fail .fail (fun _=>.fail) (fun _ _=>.fail) (fun _ _=>.fail) .fail (fun _ _=>.fail) .fail (fun _ _ _ _ _=>.fail) .fail k (fun _=>.fail) .fail (fun _ _ _=>.fail) .fail (fun _ _ _=>.fail) (fun _ _ _=>.fail) (fun _ _=>.fail) PUnit.unit (fun _ _ _ _=>PUnit.unit) y)
 (fun b0 y k=>V.rec (motive_1:=fun _=>Res) (motive_2:=fun _=>PUnit) .fail .fail (fun _=>.fail) (fun _ _=>.fail) (fun _ _=>.fail) .fail (fun _ _=>.fail) .fail (fun _ _ _ _ _=>.fail) .fail .fail (fun b1=>(ifk (Nat.beq b0.val b1.val) k .fail)) .fail (fun _ _ _=>.fail) .fail (fun _ _ _=>.fail) (fun _ _ _=>.fail) (fun _ _=>.fail) PUnit.unit (fun _ _ _ _=>PUnit.unit) y)
 (fun  y k=>V.rec (motive_1:=fun _=>Res) (motive_2:=fun _=>PUnit) .fail .fail (fun _=>.fail) (fun _ _=>.fail) (fun _ _=>.fail) .fail (fun _ _=>.fail) .fail (fun _ _ _ _ _=>.fail) .fail .fail (fun _=>.fail) k (fun _ _ _=>.fail) .fail (fun _ _ _=>.fail) (fun _ _ _=>.fail) (fun _ _=>.fail) PUnit.unit (fun _ _ _ _=>PUnit.unit) y)
 (fun f0 _ ih y k=>V.rec (motive_1:=fun _=>Res) (motive_2:=fun _=>PUnit) .fail .fail (fun _=>.fail) (fun _ _=>.fail) (fun _ _=>.fail) .fail (fun _ _=>.fail) .fail (fun _ _ _ _ _=>.fail) .fail .fail (fun _=>.fail) .fail (fun f1 cap1 _=>(ifk (Nat.beq f0 f1) (ih cap1 k) .fail)) .fail (fun _ _ _=>.fail) (fun _ _ _=>.fail) (fun _ _=>.fail) PUnit.unit (fun _ _ _ _=>PUnit.unit) y)
 (fun  y k=>V.rec (motive_1:=fun _=>Res) (motive_2:=fun _=>PUnit) .fail .fail (fun _=>.fail) (fun _ _=>.fail) (fun _ _=>.fail) .fail (fun _ _=>.fail) .fail (fun _ _ _ _ _=>.fail) .fail .fail (fun _=>.fail) .fail (fun _ _ _=>.fail) k (fun _ _ _=>.fail) (fun _ _ _=>.fail) (fun _ _=>.fail) PUnit.unit (fun _ _ _ _=>PUnit.unit) y)
 (fun t0 _ ih y k=>V.rec (motive_1:=fun _=>Res) (motive_2:=fun _=>PUnit) .fail .fail (fun _=>.fail) (fun _ _=>.fail) (fun _ _=>.fail) .fail (fun _ _=>.fail) .fail (fun _ _ _ _ _=>.fail) .fail .fail (fun _=>.fail) .fail (fun _ _ _=>.fail) .fail (fun t1 v1 _=>(ifk (Nat.beq t0 t1) (ih v1 k) .fail)) (fun _ _ _=>.fail) (fun _ _=>.fail) PUnit.unit (fun _ _ _ _=>PUnit.unit) y)
 (fun n0 _ ih y k=>V.rec (motive_1:=fun _=>Res) (motive_2:=fun _=>PUnit) .fail .fail (fun _=>.fail) (fun _ _=>.fail) (fun _ _=>.fail) .fail (fun _ _=>.fail) .fail (fun _ _ _ _ _=>.fail) .fail .fail (fun _=>.fail) .fail (fun _ _ _=>.fail) .fail (fun _ _ _=>.fail) (fun n1 l1 _=>(ifk (Nat.beq n0 n1) (ih l1 k) .fail)) (fun _ _=>.fail) PUnit.unit (fun _ _ _ _=>PUnit.unit) y)
 (fun _ ih y k=>V.rec (motive_1:=fun _=>Res) (motive_2:=fun _=>PUnit) .fail .fail (fun _=>.fail) (fun _ _=>.fail) (fun _ _=>.fail) .fail (fun _ _=>.fail) .fail (fun _ _ _ _ _=>.fail) .fail .fail (fun _=>.fail) .fail (fun _ _ _=>.fail) .fail (fun _ _ _=>.fail) (fun _ _ _=>.fail) (fun l1 _=>(ih l1 k)) PUnit.unit (fun _ _ _ _=>PUnit.unit) y)
 (fun ys k=>nilk' ys k) (fun _ _ ih1 ih2 ys k=>unc ys fun y ys=>ih1 y (ih2 ys k)) l : List V→Res→Res) = veqsk l:=by
 induction l with
 | nil=>rfl
 | cons v l ih=>
   funext ys k
   show (unc ys fun y ys=>veqk v y (V.rec_1 (motive_1:=fun _=>V→Res→Res) (motive_2:=fun _=>List V→Res→Res)
   (fun  y k=>V.rec (motive_1:=fun _=>Res) (motive_2:=fun _=>PUnit) k .fail (fun _=>.fail) (fun _ _=>.fail) (fun _ _=>.fail) .fail (fun _ _=>.fail) .fail (fun _ _ _ _ _=>.fail) .fail .fail (fun _=>.fail) .fail (fun _ _ _=>.fail) .fail (fun _ _ _=>.fail) (fun _ _ _=>.fail) (fun _ _=>.fail) PUnit.unit (fun _ _ _ _=>PUnit.unit) y)
   (fun  y k=>V.rec (motive_1:=fun _=>Res) (motive_2:=fun _=>PUnit) .fail k (fun _=>.fail) (fun _ _=>.fail) (fun _ _=>.fail) .fail (fun _ _=>.fail) .fail (fun _ _ _ _ _=>.fail) .fail .fail (fun _=>.fail) .fail (fun _ _ _=>.fail) .fail (fun _ _ _=>.fail) (fun _ _ _=>.fail) (fun _ _=>.fail) PUnit.unit (fun _ _ _ _=>PUnit.unit) y)
   (fun b0 y k=>V.rec (motive_1:=fun _=>Res) (motive_2:=fun _=>PUnit) .fail .fail (fun b1=>(ifk (Bool.rec (motive:=fun _=>Bool) (Bool.rec (motive:=fun _=>Bool) true false b1) b1 b0) k .fail)) (fun _ _=>.fail) (fun _ _=>.fail) .fail (fun _ _=>.fail) .fail (fun _ _ _ _ _=>.fail) .fail .fail (fun _=>.fail) .fail (fun _ _ _=>.fail) .fail (fun _ _ _=>.fail) (fun _ _ _=>.fail) (fun _ _=>.fail) PUnit.unit (fun _ _ _ _=>PUnit.unit) y)
   (fun k0 n0 y k=>V.rec (motive_1:=fun _=>Res) (motive_2:=fun _=>PUnit) .fail .fail (fun _=>.fail) (fun k1 n1=>(ifk (Nat.beq (kno k0) (kno k1)) (ifk (ieq n0 n1) k .fail) .fail)) (fun _ _=>.fail) .fail (fun _ _=>.fail) .fail (fun _ _ _ _ _=>.fail) .fail .fail (fun _=>.fail) .fail (fun _ _ _=>.fail) .fail (fun _ _ _=>.fail) (fun _ _ _=>.fail) (fun _ _=>.fail) PUnit.unit (fun _ _ _ _=>PUnit.unit) y)
   (fun l0 n0 y k=>V.rec (motive_1:=fun _=>Res) (motive_2:=fun _=>PUnit) .fail .fail (fun _=>.fail) (fun _ _=>.fail) (fun l1 n1=>(ifk (Nat.beq l0 l1) (ifk (Nat.beq n0 n1) k .fail) .fail)) .fail (fun _ _=>.fail) .fail (fun _ _ _ _ _=>.fail) .fail .fail (fun _=>.fail) .fail (fun _ _ _=>.fail) .fail (fun _ _ _=>.fail) (fun _ _ _=>.fail) (fun _ _=>.fail) PUnit.unit (fun _ _ _ _=>PUnit.unit) y)
   (fun  y k=>V.rec (motive_1:=fun _=>Res) (motive_2:=fun _=>PUnit) .fail .fail (fun _=>.fail) (fun _ _=>.fail) (fun _ _=>.fail) k (fun _ _=>.fail) .fail (fun _ _ _ _ _=>.fail) .fail .fail (fun _=>.fail) .fail (fun _ _ _=>.fail) .fail (fun _ _ _=>.fail) (fun _ _ _=>.fail) (fun _ _=>.fail) PUnit.unit (fun _ _ _ _=>PUnit.unit) y)
   (fun b0 o0 y k=>V.rec (motive_1:=fun _=>Res) (motive_2:=fun _=>PUnit) .fail .fail (fun _=>.fail) (fun _ _=>.fail) (fun _ _=>.fail) .fail (fun b1 o1=>(ifk (Nat.beq b0.val b1.val) (ifk (Nat.beq o0 o1) k .fail) .fail)) .fail (fun _ _ _ _ _=>.fail) .fail .fail (fun _=>.fail) .fail (fun _ _ _=>.fail) .fail (fun _ _ _=>.fail) (fun _ _ _=>.fail) (fun _ _=>.fail) PUnit.unit (fun _ _ _ _=>PUnit.unit) y)
   (fun  y k=>V.rec (motive_1:=fun _=>Res) (motive_2:=fun _=>PUnit) .fail .fail (fun _=>.fail) (fun _ _=>.fail) (fun _ _=>.fail) .fail (fun _ _=>.fail) k (fun _ _ _ _ _=>.fail) .fail .fail (fun _=>.fail) .fail (fun _ _ _=>.fail) .fail (fun _ _ _=>.fail) (fun _ _ _=>.fail) (fun _ _=>.fail) PUnit.unit (fun _ _ _ _=>PUnit.unit) y)
   (fun b0 o0 l0 c0 s0 y k=>V.rec (motive_1:=fun _=>Res) (motive_2:=fun _=>PUnit) .fail .fail (fun _=>.fail) (fun _ _=>.fail) (fun _ _=>.fail) .fail (fun _ _=>.fail) .fail (fun b1 o1 l1 c1 s1=>(ifk (Nat.beq b0.val b1.val) (ifk (Nat.beq o0 o1) (ifk (Nat.beq l0 l1) (ifk (oeq c0 c1) (ifk (Nat.beq s0 s1) k .fail) .fail) .fail) .fail) .fail)) .fail .fail (fun _=>.fail) .fail (fun _ _ _=>.fail) .fail (fun _ _ _=>.fail) (fun _ _ _=>.fail) (fun _ _=>.fail) PUnit.unit (fun _ _ _ _=>PUnit.unit) y)
   (fun  y k=>V.rec (motive_1:=fun _=>Res) (motive_2:=fun _=>PUnit) .fail .fail (fun _=>.fail) (fun _ _=>.fail) (fun _ _=>.fail) .fail (fun _ _=>.fail) .fail (fun _ _ _ _ _=>.fail) k .fail (fun _=>.fail) .fail (fun _ _ _=>.fail) .fail (fun _ _ _=>.fail) (fun _ _ _=>.fail) (fun _ _=>.fail) PUnit.unit (fun _ _ _ _=>PUnit.unit) y)
   (fun  y k=>V.rec (motive_1:=fun _=>Res) (motive_2:=fun _=>PUnit) .fail .fail (fun _=>.fail) (fun _ _=>.fail) (fun _ _=>.fail) .fail (fun _ _=>.fail) .fail (fun _ _ _ _ _=>.fail) .fail k (fun _=>.fail) .fail (fun _ _ _=>.fail) .fail (fun _ _ _=>.fail) (fun _ _ _=>.fail) (fun _ _=>.fail) PUnit.unit (fun _ _ _ _=>PUnit.unit) y)
   (fun b0 y k=>V.rec (motive_1:=fun _=>Res) (motive_2:=fun _=>PUnit) .fail .fail (fun _=>.fail) (fun _ _=>.fail) (fun _ _=>.fail) .fail (fun _ _=>.fail) .fail (fun _ _ _ _ _=>.fail) .fail .fail (fun b1=>(ifk (Nat.beq b0.val b1.val) k .fail)) .fail (fun _ _ _=>.fail) .fail (fun _ _ _=>.fail) (fun _ _ _=>.fail) (fun _ _=>.fail) PUnit.unit (fun _ _ _ _=>PUnit.unit) y)
   (fun  y k=>V.rec (motive_1:=fun _=>Res) (motive_2:=fun _=>PUnit) .fail .fail (fun _=>.fail) (fun _ _=>.fail) (fun _ _=>.fail) .fail (fun _ _=>.fail) .fail (fun _ _ _ _ _=>.fail) .fail .fail (fun _=>.fail) k (fun _ _ _=>.fail) .fail (fun _ _ _=>.fail) (fun _ _ _=>.fail) (fun _ _=>.fail) PUnit.unit (fun _ _ _ _=>PUnit.unit) y)
   (fun f0 _ ih y k=>V.rec (motive_1:=fun _=>Res) (motive_2:=fun _=>PUnit) .fail .fail (fun _=>.fail) (fun _ _=>.fail) (fun _ _=>.fail) .fail (fun _ _=>.fail) .fail (fun _ _ _ _ _=>.fail) .fail .fail (fun _=>.fail) .fail (fun f1 cap1 _=>(ifk (Nat.beq f0 f1) (ih cap1 k) .fail)) .fail (fun _ _ _=>.fail) (fun _ _ _=>.fail) (fun _ _=>.fail) PUnit.unit (fun _ _ _ _=>PUnit.unit) y)
   (fun  y k=>V.rec (motive_1:=fun _=>Res) (motive_2:=fun _=>PUnit) .fail .fail (fun _=>.fail) (fun _ _=>.fail) (fun _ _=>.fail) .fail (fun _ _=>.fail) .fail (fun _ _ _ _ _=>.fail) .fail .fail (fun _=>.fail) .fail (fun _ _ _=>.fail) k (fun _ _ _=>.fail) (fun _ _ _=>.fail) (fun _ _=>.fail) PUnit.unit (fun _ _ _ _=>PUnit.unit) y)
   (fun t0 _ ih y k=>V.rec (motive_1:=fun _=>Res) (motive_2:=fun _=>PUnit) .fail .fail (fun _=>.fail) (fun _ _=>.fail) (fun _ _=>.fail) .fail (fun _ _=>.fail) .fail (fun _ _ _ _ _=>.fail) .fail .fail (fun _=>.fail) .fail (fun _ _ _=>.fail) .fail (fun t1 v1 _=>(ifk (Nat.beq t0 t1) (ih v1 k) .fail)) (fun _ _ _=>.fail) (fun _ _=>.fail) PUnit.unit (fun _ _ _ _=>PUnit.unit) y)
   (fun n0 _ ih y k=>V.rec (motive_1:=fun _=>Res) (motive_2:=fun _=>PUnit) .fail .fail (fun _=>.fail) (fun _ _=>.fail) (fun _ _=>.fail) .fail (fun _ _=>.fail) .fail (fun _ _ _ _ _=>.fail) .fail .fail (fun _=>.fail) .fail (fun _ _ _=>.fail) .fail (fun _ _ _=>.fail) (fun n1 l1 _=>(ifk (Nat.beq n0 n1) (ih l1 k) .fail)) (fun _ _=>.fail) PUnit.unit (fun _ _ _ _=>PUnit.unit) y)
   (fun _ ih y k=>V.rec (motive_1:=fun _=>Res) (motive_2:=fun _=>PUnit) .fail .fail (fun _=>.fail) (fun _ _=>.fail) (fun _ _=>.fail) .fail (fun _ _=>.fail) .fail (fun _ _ _ _ _=>.fail) .fail .fail (fun _=>.fail) .fail (fun _ _ _=>.fail) .fail (fun _ _ _=>.fail) (fun _ _ _=>.fail) (fun l1 _=>(ih l1 k)) PUnit.unit (fun _ _ _ _=>PUnit.unit) y)
   (fun ys k=>nilk' ys k) (fun _ _ ih1 ih2 ys k=>unc ys fun y ys=>ih1 y (ih2 ys k)) l ys k)) = _
   rw [ih]
   rfl
mutual
theorem veqk_ok : ∀ (x : V) {y : V} {k r : Res},veqk x y k = r→r ≠ .fail→x = y∧k = r
 | .und,y,k,r,h,hr=>by
   cases y <;> first | exact absurd h.symm hr | skip
   exact ⟨rfl,h⟩
 | .skip,y,k,r,h,hr=>by
   cases y <;> first | exact absurd h.symm hr | skip
   exact ⟨rfl,h⟩
 | .bool b0,y,k,r,h,hr=>by
   cases y <;> first | exact absurd h.symm hr | skip
   obtain ⟨e0,h1⟩:=ifk_fail h hr
   have e0:=beqB e0
   subst e0
   exact ⟨rfl,h1⟩
 | .int k0 n0,y,k,r,h,hr=>by
   cases y <;> first | exact absurd h.symm hr | skip
   obtain ⟨e0,h1⟩:=ifk_fail h hr
   have e0:=kno_inj e0
   obtain ⟨e1,h2⟩:=ifk_fail h1 hr
   have e1:=of_decide_eq_true ((ieq_eq _ _).symm.trans e1)
   subst e0 e1
   exact ⟨rfl,h2⟩
 | .str l0 n0,y,k,r,h,hr=>by
   cases y <;> first | exact absurd h.symm hr | skip
   obtain ⟨e0,h1⟩:=ifk_fail h hr
   have e0:=Nat.eq_of_beq_eq_true e0
   obtain ⟨e1,h2⟩:=ifk_fail h1 hr
   have e1:=Nat.eq_of_beq_eq_true e1
   subst e0 e1
   exact ⟨rfl,h2⟩
 | .nilp,y,k,r,h,hr=>by
   cases y <;> first | exact absurd h.symm hr | skip
   exact ⟨rfl,h⟩
 | .ptr b0 o0,y,k,r,h,hr=>by
   cases y <;> first | exact absurd h.symm hr | skip
   obtain ⟨e0,h1⟩:=ifk_fail h hr
   have e0:=Bid.val_inj (Nat.eq_of_beq_eq_true e0)
   obtain ⟨e1,h2⟩:=ifk_fail h1 hr
   have e1:=Nat.eq_of_beq_eq_true e1
   subst e0 e1
   exact ⟨rfl,h2⟩
 | .nils,y,k,r,h,hr=>by
   cases y <;> first | exact absurd h.symm hr | skip
   exact ⟨rfl,h⟩
 | .slice b0 o0 l0 c0 s0,y,k,r,h,hr=>by
   cases y <;> first | exact absurd h.symm hr | skip
   obtain ⟨e0,h1⟩:=ifk_fail h hr
   have e0:=Bid.val_inj (Nat.eq_of_beq_eq_true e0)
   obtain ⟨e1,h2⟩:=ifk_fail h1 hr
   have e1:=Nat.eq_of_beq_eq_true e1
   obtain ⟨e2,h3⟩:=ifk_fail h2 hr
   have e2:=Nat.eq_of_beq_eq_true e2
   obtain ⟨e3,h4⟩:=ifk_fail h3 hr
   have e3:=oeq_eq e3
   obtain ⟨e4,h5⟩:=ifk_fail h4 hr
   have e4:=Nat.eq_of_beq_eq_true e4
   subst e0 e1 e2 e3 e4
   exact ⟨rfl,h5⟩
 | .emp,y,k,r,h,hr=>by
   cases y <;> first | exact absurd h.symm hr | skip
   exact ⟨rfl,h⟩
 | .nilm,y,k,r,h,hr=>by
   cases y <;> first | exact absurd h.symm hr | skip
   exact ⟨rfl,h⟩
 | .map b0,y,k,r,h,hr=>by
   cases y <;> first | exact absurd h.symm hr | skip
   obtain ⟨e0,h1⟩:=ifk_fail h hr
   have e0:=Bid.val_inj (Nat.eq_of_beq_eq_true e0)
   subst e0
   exact ⟨rfl,h1⟩
 | .nilf,y,k,r,h,hr=>by
   cases y <;> first | exact absurd h.symm hr | skip
   exact ⟨rfl,h⟩
 | .func f0 cap0,y,k,r,h,hr=>by
   cases y <;> first | exact absurd h.symm hr | skip
   obtain ⟨e0,h1⟩:=ifk_fail h hr
   have e0:=Nat.eq_of_beq_eq_true e0
   have g1:=h1
   obtain ⟨e1,h2⟩:=veqs_ok cap0 ((congrFun (congrFun (veqsk_eq cap0) _) _).symm.trans h1) hr
   subst e0 e1
   exact ⟨rfl,h2⟩
 | .nili,y,k,r,h,hr=>by
   cases y <;> first | exact absurd h.symm hr | skip
   exact ⟨rfl,h⟩
 | .iface t0 v0,y,k,r,h,hr=>by
   cases y <;> first | exact absurd h.symm hr | skip
   obtain ⟨e0,h1⟩:=ifk_fail h hr
   have e0:=Nat.eq_of_beq_eq_true e0
   obtain ⟨e1,h2⟩:=veqk_ok v0 h1 hr
   subst e0 e1
   exact ⟨rfl,h2⟩
 | .agg n0 l0,y,k,r,h,hr=>by
   cases y <;> first | exact absurd h.symm hr | skip
   obtain ⟨e0,h1⟩:=ifk_fail h hr
   have e0:=Nat.eq_of_beq_eq_true e0
   have g1:=h1
   obtain ⟨e1,h2⟩:=veqs_ok l0 ((congrFun (congrFun (veqsk_eq l0) _) _).symm.trans h1) hr
   subst e0 e1
   exact ⟨rfl,h2⟩
 | .tup l0,y,k,r,h,hr=>by
   cases y <;> first | exact absurd h.symm hr | skip
   have g0:=h
   obtain ⟨e0,h1⟩:=veqs_ok l0 ((congrFun (congrFun (veqsk_eq l0) _) _).symm.trans h) hr
   subst e0
   exact ⟨rfl,h1⟩
theorem veqs_ok : ∀ (l : List V) {ys : List V} {k r : Res},veqsk l ys k = r→r ≠ .fail→l = ys∧k = r
 | [],ys,k,r,h,hr=>by
   obtain ⟨rfl,h1⟩:=nilk'_ok (show nilk' ys k = r from h) hr
   exact ⟨rfl,h1⟩
 | v :: l,ys,k,r,h,hr=>by
   obtain ⟨y,ys,rfl,h1⟩:=unc_ok (show unc ys (fun y ys=>veqk v y (veqsk l ys k)) = r from h) hr
   obtain ⟨rfl,h2⟩:=veqk_ok v h1 hr
   obtain ⟨rfl,h3⟩:=veqs_ok l h2 hr
   exact ⟨rfl,h3⟩
end
end Go.Ev

/- EVALUATOR, 5: what a piece of code comes to, whatever stands behind it: the frame may belong to a deferred call or to a round of a range over a function. -/
namespace Go.Ev
def fr (b : Frame) (a : Act) (todo : List Item) : Frame:={ b with tmps:=a.tmps,todo,defers:=a.defers,mode:=.run }
theorem fr_eval (b : Frame) (a : Act) (todo : List Item) : (fr b a todo).eval = a.eval:=funext fun x=>by cases x <;> rfl
section moves
variable {P : Program} {b : Frame} {a : Act} {k : List Item} {cs : List Frame} {w : World}
theorem st_skip : step P (lone (fr b a (.code .skip :: k)) cs w) = .next (lone (fr b a k) cs w):=step_lone_go (by simp [stepG,stepG.exec,fr])
theorem st_label {l : Nat} : step P (lone (fr b a (.code (.label l) :: k)) cs w) = .next (lone (fr b a k) cs w):=step_lone_go (by simp [stepG,stepG.exec,fr])
theorem st_inBlock {id : Nat} : step P (lone (fr b a (.inBlock id :: k)) cs w) = .next (lone (fr b a k) cs w):=step_lone_go (by simp [stepG,stepG.exec,fr])
theorem st_seq {x y : Code} : step P (lone (fr b a (.code (.seq x y) :: k)) cs w) = .next (lone (fr b a (.code x :: .code y :: k)) cs w):=
 step_lone_go (by simp [stepG,stepG.exec,fr])
theorem st_cond {c : Operand} {x y : Code} {t : Bool} (h : a.eval c = .bool t) :
 step P (lone (fr b a (.code (.cond c x y) :: k)) cs w) = .next (lone (fr b a (.code (if t then x else y) :: k)) cs w):=
 step_lone_go (by
  have h' : (fr b a (.code (.cond c x y) :: k)).eval c = .bool t:=by rw [fr_eval]; exact h
  simp only [fr] at h'
  simp [stepG,stepG.exec,fr,h'])
theorem st_block {id : Nat} {c : Code} : step P (lone (fr b a (.code (.block id c) :: k)) cs w) = .next (lone (fr b a (.code c :: .inBlock id :: k)) cs w):=
 step_lone_go (by simp [stepG,stepG.exec,fr])
theorem st_loop {c : Code} : step P (lone (fr b a (.code (.loop c) :: k)) cs w) = .next (lone (fr b a (.code c :: .inLoop c :: k)) cs w):=
 step_lone_go (by simp [stepG,stepG.exec,fr])
theorem st_inLoop {c : Code} : step P (lone (fr b a (.inLoop c :: k)) cs w) = .next (lone (fr b a (.code c :: .inLoop c :: k)) cs w):=
 step_lone_go (by simp [stepG,stepG.exec,fr])
theorem st_exit {id : Nat} {k' : List Item} (h : exitTo id k = some k') : step P (lone (fr b a (.code (.exit id) :: k)) cs w) = .next (lone (fr b a k') cs w):=
 step_lone_go (by simp [stepG,stepG.exec,fr,h])
theorem st_ret (hb : b.roundOf = none) : step P (lone (fr b a (.code .ret :: k)) cs w) = .next (lone { fr b a (.code .ret :: k) with mode:=.returning } cs w):=
 step_lone_go (by simp [stepG,stepG.exec,fr,hb])
theorem st_end (hb : b.roundOf = none) : step P (lone (fr b a []) cs w) = .next (lone { fr b a [] with mode:=.returning } cs w):=
 step_lone_go (by simp [stepG,stepG.exec,fr,hb])
end moves
def Arr (P : Program) (m : Machine) (b : Frame) (k : List Item) : Exit→Act→List Frame→World→Prop
 | .normal,a,cs,w=>Steps P m (lone (fr b a k) cs w)
 | .exit id,a,cs,w=>∃ k1,exitTo id k1 = exitTo id k∧Steps P m (lone (fr b a (.code (.exit id) :: k1)) cs w)
 | .ret,a,cs,w=>∃ k1,Steps P m (lone (fr b a (.code .ret :: k1)) cs w)
 | .panic chain,a,cs,w=>∃ todo,Steps P m (lone { fr b a todo with mode:=.panicking chain } cs w)
 | _,_,_,_=>False
theorem Arr.of_steps {P : Program} {m m₁ : Machine} {b : Frame} {k : List Item} {e : Exit} {a : Act} {cs : List Frame} {w : World} (h : Steps P m m₁)
 (h' : Arr P m₁ b k e a cs w) : Arr P m b k e a cs w:=by
 cases e with
 | normal=>exact h.trans h'
 | exit id=>obtain ⟨k1,h1,h2⟩:=h'; exact ⟨k1,h1,h.trans h2⟩
 | goto l=>exact h'
 | ret=>obtain ⟨k1,h2⟩:=h'; exact ⟨k1,h.trans h2⟩
 | panic chain=>obtain ⟨k1,h2⟩:=h'; exact ⟨k1,h.trans h2⟩
 | outgrown=>exact h'
theorem Arr.pass {P : Program} {m : Machine} {b : Frame} {x : Item} {k : List Item} {e : Exit} {a : Act} {cs : List Frame} {w : World} (hx : x.plain = true) (he : e ≠ .normal)
 (h : Arr P m b (x :: k) e a cs w) : Arr P m b k e a cs w:=by
 cases e with
 | normal=>exact absurd rfl he
 | exit id=>obtain ⟨k1,h1,h2⟩:=h; exact ⟨k1,h1.trans (by cases x <;> simp_all [exitTo,Item.plain]),h2⟩
 | goto l=>exact h
 | ret=>exact h
 | panic chain=>exact h
 | outgrown=>exact h
abbrev Post:=Exit→Act→List Frame→World→Prop
def WP (P : Program) (b : Frame) (c : Code) (Q : Post) (a : Act) (cs : List Frame) (w : World) : Prop:=
 ∀ k,∃ e a' cs' w',Q e a' cs' w'∧Arr P (lone (fr b a (.code c :: k)) cs w) b k e a' cs' w'
section rules
variable {P : Program} {b : Frame} {Q : Post} {a : Act} {cs : List Frame} {w : World}
theorem WP.mono {c : Code} {Q' : Post} (h : WP P b c Q a cs w) (hq : ∀ e a cs w,Q e a cs w→Q' e a cs w) : WP P b c Q' a cs w:=
 fun k=>let ⟨e,a',cs',w',q,r⟩:=h k; ⟨e,a',cs',w',hq _ _ _ _ q,r⟩
theorem WP.skip (h : Q .normal a cs w) : WP P b .skip Q a cs w:=fun _=>⟨.normal,a,cs,w,h,.one st_skip⟩
theorem WP.label {l : Nat} (h : Q .normal a cs w) : WP P b (.label l) Q a cs w:=fun _=>⟨.normal,a,cs,w,h,.one st_label⟩
theorem WP.exit {id : Nat} (h : Q (.exit id) a cs w) : WP P b (.exit id) Q a cs w:=fun k=>⟨.exit id,a,cs,w,h,k,rfl,.refl _ _⟩
theorem WP.ret (h : Q .ret a cs w) : WP P b .ret Q a cs w:=fun k=>⟨.ret,a,cs,w,h,k,.refl _ _⟩
def thenP (next : Act→List Frame→World→Prop) (Q : Post) : Post
 | .normal,a,cs,w=>next a cs w
 | e,a,cs,w=>Q e a cs w
theorem thenP_ne {next : Act→List Frame→World→Prop} {e : Exit} (he : e ≠ .normal) : thenP next Q e a cs w = Q e a cs w:=by cases e <;> first | rfl | exact absurd rfl he
theorem WP.seq {x y : Code} (h : WP P b x (thenP (WP P b y Q) Q) a cs w) : WP P b (.seq x y) Q a cs w:=by
 intro k
 obtain ⟨e,a₁,cs₁,w₁,hq,harr⟩:=h (.code y :: k)
 by_cases he : e = .normal
 · subst he
   obtain ⟨e₂,a₂,cs₂,w₂,hq₂,harr₂⟩:=hq k
   exact ⟨e₂,a₂,cs₂,w₂,hq₂,.of_steps (.head st_seq harr) harr₂⟩
 · rw [thenP_ne he] at hq
   exact ⟨e,a₁,cs₁,w₁,hq,.of_steps (.one st_seq) (.pass (x:=.code y) rfl he harr)⟩
theorem WP.cond {c : Operand} {x y : Code} {t : Bool} (hc : a.eval c = .bool t) (h : WP P b (if t then x else y) Q a cs w) : WP P b (.cond c x y) Q a cs w:=
 fun k=>let ⟨e,a',cs',w',q,r⟩:=h k; ⟨e,a',cs',w',q,.of_steps (.one (st_cond hc)) r⟩
def blockP (id : Nat) (Q : Post) : Post
 | .exit id',a,cs,w=>if id' = id then Q .normal a cs w else Q (.exit id') a cs w
 | e,a,cs,w=>Q e a cs w
theorem WP.block {id : Nat} {c : Code} (h : WP P b c (blockP id Q) a cs w) : WP P b (.block id c) Q a cs w:=by
 intro k
 obtain ⟨e,a₁,cs₁,w₁,hq,harr⟩:=h (.inBlock id :: k)
 cases e with
 | normal=>exact ⟨.normal,a₁,cs₁,w₁,hq,.head st_block (Steps.trans harr (.one st_inBlock))⟩
 | exit id'=>
   obtain ⟨k1,h1,h2⟩:=harr
   by_cases hid : id' = id
   · simp only [blockP,hid,if_true] at hq
     subst hid
     refine ⟨.normal,a₁,cs₁,w₁,hq,.head st_block (Steps.trans h2 (.one (st_exit (h1.trans ?_))))⟩
     simp [exitTo]
   · simp only [blockP,hid,if_false] at hq
     refine ⟨.exit id',a₁,cs₁,w₁,hq,k1,h1.trans ?_,.head st_block h2⟩
     have : (id == id') = false:=by simp; exact fun h=>hid h.symm
     simp [exitTo,this]
 | goto l=>exact harr.elim
 | ret=>obtain ⟨k1,h2⟩:=harr; exact ⟨.ret,a₁,cs₁,w₁,hq,k1,.head st_block h2⟩
 | panic ch=>obtain ⟨k1,h2⟩:=harr; exact ⟨.panic ch,a₁,cs₁,w₁,hq,k1,.head st_block h2⟩
 | outgrown=>exact harr.elim
theorem WP.loop {c : Code} (I : Nat→Act→List Frame→World→Prop) (h0 : ∃ n,I n a cs w)
 (round : ∀ n a cs w,I (n + 1) a cs w→WP P b c (thenP (fun a' cs' w'=>I n a' cs' w') Q) a cs w) (hz : ∀ a cs w,¬ I 0 a cs w) : WP P b (.loop c) Q a cs w:=by
 intro k
 have key : ∀ n a cs w,I n a cs w→∃ e a' cs' w',Q e a' cs' w'∧Arr P (lone (fr b a (.code c :: .inLoop c :: k)) cs w) b k e a' cs' w':=by
  intro n
  induction n with
  | zero=>intro a cs w h; exact absurd h (hz a cs w)
  | succ n ih=>
    intro a cs w h
    obtain ⟨e,a₁,cs₁,w₁,hq,harr⟩:=round n a cs w h (.inLoop c :: k)
    by_cases he : e = .normal
    · subst he
      obtain ⟨e₂,a₂,cs₂,w₂,hq₂,harr₂⟩:=ih a₁ cs₁ w₁ hq
      exact ⟨e₂,a₂,cs₂,w₂,hq₂,.of_steps (Steps.trans harr (.one st_inLoop)) harr₂⟩
    · rw [thenP_ne he] at hq
      exact ⟨e,a₁,cs₁,w₁,hq,.pass (x:=.inLoop c) rfl he harr⟩
 obtain ⟨n,hn⟩:=h0
 obtain ⟨e,a',cs',w',hq,harr⟩:=key n a cs w hn
 exact ⟨e,a',cs',w',hq,.of_steps (.one st_loop) harr⟩
end rules
def WO (P : Program) (b : Frame) (ops : Array Oper) (l : List Nat) (Q : Post) (a : Act) (cs : List Frame) (w : World) : Prop:=
 ∀ k,∃ e a' cs' w',Q e a' cs' w'∧Arr P (lone (fr b a (.inRegion ops l :: k)) cs w) b k e a' cs' w'
section ops
variable {P : Program} {b : Frame} {Q : Post} {a : Act} {cs : List Frame} {w : World} {ops : Array Oper}
theorem fr_finish {i : Nat} {rest : List Nat} {k : List Item} {o : Oper} (ho : ops[i]? = some o) (v : Value) :
 (fr b a (.inRegion ops (i :: rest) :: k)).finish v = fr b (a.put o.dst v) (.inRegion ops rest :: k):=by
 cases h : o.dst <;> simp [Frame.finish,fr,Act.put,ho,h]
theorem WO.mono {l : List Nat} {Q' : Post} (h : WO P b ops l Q a cs w) (hq : ∀ e a cs w,Q e a cs w→Q' e a cs w) : WO P b ops l Q' a cs w:=
 fun k=>let ⟨e,a',cs',w',q,r⟩:=h k; ⟨e,a',cs',w',hq _ _ _ _ q,r⟩
theorem WO.nil (h : Q .normal a cs w) : WO P b ops [] Q a cs w:=
 fun k=>⟨.normal,a,cs,w,h,.one (step_lone_go (by simp [stepG,stepG.exec,fr]))⟩
theorem st_op {i : Nat} {rest : List Nat} {k : List Item} {o : Oper} (ho : ops[i]? = some o) (hw : Region.wanted o (yielded ops a.tmps) = true)
 (hd : b.roundOf = none ∨ ∀ c,o.op ≠ .defer c) :
 stepG P true { frame:=fr b a (.inRegion ops (i :: rest) :: k),callers:=cs,status:=.running,dying:=none } w =
  stepG.apply P true (fr b a (.inRegion ops (i :: rest) :: k)) cs none (execOp a.eval o) w:=by
 have he:=fr_eval b a (.inRegion ops (i :: rest) :: k)
 have hw' : ((ops[i]?).map (Region.wanted · (yielded ops a.tmps))).getD false = true:=by simp [ho,hw]
 have hop : (fr b a (.inRegion ops (i :: rest) :: k)).oper? = some o:=by simp [Frame.oper?,fr,ho]
 have h1 : stepG.oper P true (fr b a (.inRegion ops (i :: rest) :: k)) cs none w = stepG.apply P true (fr b a (.inRegion ops (i :: rest) :: k)) cs none (execOp a.eval o) w:=by
  unfold stepG.oper
  rw [hop]
  simp only [he]
  have hro : (fr b a (.inRegion ops (i :: rest) :: k)).roundOf = b.roundOf:=rfl
  rcases hd with hd | hd
  · rw [hro,hd]
  · rw [hro]
    split
    · rename_i l c h1 h2; exact absurd h2 (hd c)
    · rfl
 rw [← h1]
 simp only [stepG,stepG.exec,fr] at *
 exact if_pos hw'
theorem WO.skip {i : Nat} {rest : List Nat} {o : Oper} (ho : ops[i]? = some o) (hw : Region.wanted o (yielded ops a.tmps) = false)
 (h : WO P b ops rest Q (a.put o.dst Go.undef) cs w) : WO P b ops (i :: rest) Q a cs w:=by
 intro k
 obtain ⟨e,a',cs',w',hq,harr⟩:=h k
 refine ⟨e,a',cs',w',hq,.of_steps (.one (step_lone_go ?_)) harr⟩
 rw [← fr_finish ho]
 have hw' : ((ops[i]?).map (Region.wanted · (yielded ops a.tmps))).getD false = false:=by simp [ho,hw]
 simp only [fr] at *
 simp [stepG,stepG.exec,hw']
theorem WO.value {i : Nat} {rest : List Nat} {o : Oper} (ho : ops[i]? = some o) (hw : Region.wanted o (yielded ops a.tmps) = true) (hd : b.roundOf = none ∨ ∀ c,o.op ≠ .defer c)
 {v : Value} {w' : World} (hr : (execOp a.eval o).run P w = .ok (.value v) w') (h : WO P b ops rest Q (a.put o.dst v) cs w') : WO P b ops (i :: rest) Q a cs w:=by
 intro k
 obtain ⟨e,a',cs',w'',hq,harr⟩:=h k
 refine ⟨e,a',cs',w'',hq,.of_steps (.one (step_lone_go ?_)) harr⟩
 rw [st_op ho hw hd,← fr_finish ho]; simp [stepG.apply,hr]
theorem WO.unit {i : Nat} {rest : List Nat} {o : Oper} (ho : ops[i]? = some o) (hw : Region.wanted o (yielded ops a.tmps) = true) (hd : b.roundOf = none ∨ ∀ c,o.op ≠ .defer c)
 {w' : World} (hr : (execOp a.eval o).run P w = .ok .skip w') (h : WO P b ops rest Q (a.put o.dst Go.undef) cs w') : WO P b ops (i :: rest) Q a cs w:=by
 intro k
 obtain ⟨e,a',cs',w'',hq,harr⟩:=h k
 refine ⟨e,a',cs',w'',hq,.of_steps (.one (step_lone_go ?_)) harr⟩
 rw [st_op ho hw hd,← fr_finish ho]; simp [stepG.apply,hr]
theorem WO.defer {i : Nat} {rest : List Nat} {o : Oper} (ho : ops[i]? = some o) (hw : Region.wanted o (yielded ops a.tmps) = true) (hb : b.roundOf = none)
 {d : Deferred} {w' : World} (hr : (execOp a.eval o).run P w = .ok (.defer d) w') (h : WO P b ops rest Q ({ a with defers:=d :: a.defers }.put o.dst Go.undef) cs w') :
 WO P b ops (i :: rest) Q a cs w:=by
 intro k
 obtain ⟨e,a',cs',w'',hq,harr⟩:=h k
 refine ⟨e,a',cs',w'',hq,.of_steps (.one (step_lone_go ?_)) harr⟩
 rw [st_op ho hw (.inl hb)]
 have hf:=fr_finish (b:=b) (a:={ a with defers:=d :: a.defers }) (rest:=rest) (k:=k) ho Go.undef
 simp only [stepG.apply,Sem.runT_eq,hr,GStep.bare_after]
 rw [← hf]
 rfl
theorem WO.recover {i : Nat} {rest : List Nat} {o : Oper} (ho : ops[i]? = some o) (hw : Region.wanted o (yielded ops a.tmps) = true) (hb : b.roundOf = none)
 {w' : World} (hr : (execOp a.eval o).run P w = .ok .recover w') {v : Value} {cs₁ : List Frame}
 (ht : ∀ f : Frame,f.kind = b.kind→tryRecover f cs = some (v,cs₁) ∨ (tryRecover f cs = none∧v = .nilIface∧cs₁ = cs))
 (h : WO P b ops rest Q (a.put o.dst v) cs₁ w') : WO P b ops (i :: rest) Q a cs w:=by
 intro k
 obtain ⟨e,a',cs',w'',hq,harr⟩:=h k
 refine ⟨e,a',cs',w'',hq,.of_steps (.one (step_lone_go ?_)) harr⟩
 rw [st_op ho hw (.inl hb),← fr_finish ho]
 have hro : (fr b a (.inRegion ops (i :: rest) :: k)).roundOf = none:=hb
 simp only [stepG.apply,Sem.runT_eq,hr,GStep.bare_after,hro]
 rcases ht (fr b a (.inRegion ops (i :: rest) :: k)) rfl with h1 | ⟨h1,rfl,rfl⟩
 · rw [h1]; rfl
 · rw [h1]; rfl
theorem WO.panic {i : Nat} {rest : List Nat} {o : Oper} (ho : ops[i]? = some o) (hw : Region.wanted o (yielded ops a.tmps) = true) (hd : b.roundOf = none ∨ ∀ c,o.op ≠ .defer c)
 {v : Value} {w' : World} (hr : (execOp a.eval o).run P w = .halt (.panic v) w') (h : Q (.panic [{ v,recovered:=false }]) a cs w') : WO P b ops (i :: rest) Q a cs w:=by
 intro k
 refine ⟨_,a,cs,w',h,.inRegion ops (i :: rest) :: k,.one (step_lone_go ?_)⟩
 rw [st_op ho hw hd]
 simp [stepG.apply,hr,Frame.raise,fr]
theorem WO.call {i : Nat} {rest : List Nat} {o : Oper} (ho : ops[i]? = some o) (hw : Region.wanted o (yielded ops a.tmps) = true) (hd : b.roundOf = none ∨ ∀ c,o.op ≠ .defer c)
 {f : FuncId} {args : Array Value} {w' : World} (hr : (execOp a.eval o).run P w = .ok (.enter f args) w')
 (h : Calls P f args w' fun
   | .returned v,w''=>WO P b ops rest Q (a.put o.dst v) cs w''
   | .panicked chain,w''=>Q (.panic chain) a cs w''
   | .outgrown,_=>False) : WO P b ops (i :: rest) Q a cs w:=by
 intro k
 obtain ⟨e,w'',frx,hR,hsteps,_,hleave⟩:=h (fr b a (.inRegion ops (i :: rest) :: k) :: cs)
 have henter : step P (lone (fr b a (.inRegion ops (i :: rest) :: k)) cs w) =
  .next (lone (Frame.enter P f args .normal) (fr b a (.inRegion ops (i :: rest) :: k) :: cs) w'):=
  step_lone_go (by rw [st_op ho hw hd]; simp [stepG.apply,hr,fr])
 cases e with
 | returned v=>
   obtain ⟨e,a',cs',w₃,hq,harr⟩:=hR k
   refine ⟨e,a',cs',w₃,hq,.of_steps (.head henter (hsteps.trans (.one ?_))) harr⟩
   rw [← fr_finish ho]; exact step_leave_returned hleave
 | panicked chain=>
   refine ⟨.panic chain,a,cs,w'',hR,.inRegion ops (i :: rest) :: k,.head henter (hsteps.trans (.one ?_))⟩
   have:=step_leave_panicked (c:=fr b a (.inRegion ops (i :: rest) :: k)) (cs:=cs) hleave
   simpa [Frame.raise,fr] using this
 | outgrown=>exact hR.elim
theorem WP.region {id : Nat} (h : WO P b ops (List.range ops.size) Q a cs w) : WP P b (.region id ops false) Q a cs w:=
 fun k=>let ⟨e,a',cs',w',q,r⟩:=h k
  ⟨e,a',cs',w',q,.of_steps (.one (step_lone_go (by simp [stepG,stepG.exec,fr]))) r⟩
theorem WP.region_draw {id : Nat} (h : ∀ t,WO P b ops (Region.schedule (P.follows .mixedOrders) ops t) Q a cs { w with drawn:=w.drawn + 1 }) : WP P b (.region id ops true) Q a cs w:=
 fun k=>let ⟨e,a',cs',w',q,r⟩:=h (w.tape w.drawn (.order b.fn id)) k
  ⟨e,a',cs',w',q,.of_steps (.one (step_lone_go (by simp [stepG,stepG.exec,fr,choose,Sem.run,Question.forced,Question.cut]))) r⟩
end ops
section calls
variable {P : Program}
def base (f : FuncId) (kd : CallKind) : Frame:={ (default : Frame) with fn:=f,kind:=kd }
theorem enter_fr {f : FuncId} {fn : Func} {c : Code} {args : Array Value} {kd : CallKind} (hf : P.funcs[f]? = some fn) (hb : fn.body = some c) :
 Frame.enter P f args kd = fr (base f kd) { tmps:=args ++ Array.replicate (fn.ntmps - args.size) Go.undef,defers:=[] } [.code c]:=by
 simp [Frame.enter,fr,hf,hb,base]; rfl
def callPost (P : Program) (fn : Func) (cs : List Frame) (R : Ending→World→Prop) : Post
 | .normal,a,cs',w | .ret,a,cs',w=>cs' = cs∧Leaves P fn a.tmps R a.defers .returning w
 | .panic chain,a,cs',w=>cs' = cs∧Leaves P fn a.tmps R a.defers (.panicking chain) w
 | _,_,_,_=>False
theorem calls_of {f : FuncId} {fn : Func} {c : Code} {args : Array Value} {w : World} {R : Ending→World→Prop} (hf : P.funcs[f]? = some fn) (hb : fn.body = some c)
 (h : ∀ cs,WP P (base f .normal) c (callPost P fn cs R) { tmps:=args ++ Array.replicate (fn.ntmps - args.size) Go.undef,defers:=[] } cs w) : Calls P f args w R:=by
 intro cs
 obtain ⟨e,a',cs',w',hq,harr⟩:=h cs []
 rw [← enter_fr hf hb] at harr
 cases e with
 | normal=>
   obtain ⟨rfl,hq⟩:=hq
   obtain ⟨e',w'',fr',hR,hs,hfn,hl⟩:=leaves_steps a'.defers .returning w' { fr (base f .normal) a' [] with mode:=.returning } cs' rfl rfl rfl hf rfl hq
   exact ⟨e',w'',fr',hR,Comes.of_steps (Steps.trans harr (.one (st_end rfl))) hs,hfn,hl⟩
 | ret=>
   obtain ⟨rfl,hq⟩:=hq
   obtain ⟨todo,hs₀⟩:=harr
   obtain ⟨e',w'',fr',hR,hs,hfn,hl⟩:=leaves_steps a'.defers .returning w' { fr (base f .normal) a' (.code .ret :: todo) with mode:=.returning } cs' rfl rfl rfl hf rfl hq
   exact ⟨e',w'',fr',hR,Comes.of_steps (Steps.trans hs₀ (.one (st_ret rfl))) hs,hfn,hl⟩
 | panic chain=>
   obtain ⟨rfl,hq⟩:=hq
   obtain ⟨todo,hs₀⟩:=harr
   obtain ⟨e',w'',fr',hR,hs,hfn,hl⟩:=leaves_steps a'.defers (.panicking chain) w' { fr (base f .normal) a' todo with mode:=.panicking chain } cs' rfl rfl rfl hf rfl hq
   exact ⟨e',w'',fr',hR,Comes.of_steps hs₀ hs,hfn,hl⟩
 | exit id=>exact hq.elim
 | goto l=>exact hq.elim
 | outgrown=>exact hq.elim
def deferPost (P : Program) (fn : Func) (c₀ : Frame) (cs : List Frame) (R : Ending→FrameMode→World→Prop) : Post
 | .normal,a,cs',w | .ret,a,cs',w=>a.defers = []∧∃ u,cs' = { c₀ with mode:=u } :: cs∧∃ v,(results fn a.tmps).run P w = .ok v w∧R (.returned v) u w
 | .panic chain,a,cs',w=>a.defers = []∧∃ u,cs' = { c₀ with mode:=u } :: cs∧R (.panicked chain) u w
 | _,_,_,_=>False
theorem callsD_of {f : FuncId} {fn : Func} {c : Code} {args : Array Value} {u : FrameMode} {w : World} {R : Ending→FrameMode→World→Prop} (hf : P.funcs[f]? = some fn)
 (hb : fn.body = some c) (h : ∀ c₀ cs,c₀.mode = u→WP P (base f .deferred) c (deferPost P fn c₀ cs R) { tmps:=args ++ Array.replicate (fn.ntmps - args.size) Go.undef,defers:=[] } (c₀ :: cs) w) :
 CallsD P f args u w R:=by
 intro c₀ cs hu
 obtain ⟨e,a',cs',w',hq,harr⟩:=h c₀ cs hu []
 rw [← enter_fr hf hb] at harr
 cases e with
 | normal=>
   obtain ⟨hd,u',rfl,v,hr,hR⟩:=hq
   exact ⟨.returned v,u',w',_,hR,Steps.trans harr (.one (st_end rfl)),rfl,rfl,hd,fn,hf,hr⟩
 | ret=>
   obtain ⟨hd,u',rfl,v,hr,hR⟩:=hq
   obtain ⟨todo,hs⟩:=harr
   exact ⟨.returned v,u',w',_,hR,Steps.trans hs (.one (st_ret rfl)),rfl,rfl,hd,fn,hf,hr⟩
 | panic chain=>
   obtain ⟨hd,u',rfl,hR⟩:=hq
   obtain ⟨todo,hs⟩:=harr
   exact ⟨.panicked chain,u',w',_,hR,hs,rfl,rfl,hd,fn,hf⟩
 | exit id=>exact hq.elim
 | goto l=>exact hq.elim
 | outgrown=>exact hq.elim
end calls
end Go.Ev

/- EVALUATOR, 16: how operations are prepared: where each operand lies, what the types say. -/
namespace Go.Ev
variable {P : Program}
def toV1 : Value→Option V
 | .bool b=>some (.bool b)
 | .int k n=>some (.int k n)
 | .string s=>some (.str s.data.toList.length (pack s.data.toList))
 | .pointer none=>some .nilp
 | .slice none 0 0=>some .nils
 | .map none=>some .nilm
 | .nilFunc=>some .nilf
 | .nilIface=>some .nili
 | _=>none
def toVs : List Value→Option (List V)
 | []=>some []
 | v :: l=>match toV1 v,toVs l with
   | some u,some m=>some (u :: m)
   | _,_=>none
def toV : Value→Option V
 | .agg cs=>(toVs cs.toList).map (.agg cs.toList.length)
 | v=>toV1 v
theorem toV1_ok {v : Value} {u : V} (h : toV1 v = some u) (ρ : Rho) : VR ρ u v∧v.oneCell' = true:=by
 unfold toV1 at h
 split at h <;> cases h
 · exact ⟨.bool _,rfl⟩
 · exact ⟨.int _ _,rfl⟩
 · rename_i s
   exact ⟨.str (dig_pack s.data.toList).symm (pack_lt s.data.toList),rfl⟩
 · exact ⟨.nilp,rfl⟩
 · exact ⟨.nils,rfl⟩
 · exact ⟨.nilm,rfl⟩
 · exact ⟨.nilf,rfl⟩
 · exact ⟨.nili,rfl⟩
theorem toVs_ok {l : List Value} {m : List V} (h : toVs l = some m) (ρ : Rho) : VRs ρ m l∧∀ y ∈ l,y.oneCell' = true:=by
 induction l generalizing m with
 | nil=>cases h; exact ⟨.nil,by simp⟩
 | cons v l ih=>
   simp only [toVs] at h
   split at h
   · rename_i u m' hu hm
     cases h
     obtain ⟨h1,h2⟩:=toV1_ok hu ρ
     obtain ⟨h3,h4⟩:=ih hm
     exact ⟨.cons h1 h3,by simpa using ⟨h2,h4⟩⟩
   · cases h
theorem toV_ok {v : Value} {u : V} (h : toV v = some u) (ρ : Rho) : VR ρ u v:=by
 unfold toV at h
 split at h
 · rename_i cs
   obtain ⟨m,h1,rfl⟩:=Option.map_eq_some_iff.1 h
   obtain ⟨h2,h3⟩:=toVs_ok h1 ρ
   exact .agg h2 h3 h2.length
 · exact (toV1_ok h ρ).1
def eqV : V→V→Bool
 | .bool a,.bool b=>a == b
 | .int k n,.int k' n'=>decide (k = k') && decide (n = n')
 | .str l n,.str l' n'=>decide (l = l') && decide (n = n')
 | .nilp,.nilp | .nils,.nils | .nilm,.nilm | .nilf,.nilf | .nili,.nili=>true
 | _,_=>false
theorem eqV_ok {a b : V} (h : eqV a b = true) : a = b:=by
 unfold eqV at h
 split at h <;> simp_all
def eqVs : List V→List V→Bool
 | [],[]=>true
 | a :: l,b :: m=>eqV a b && eqVs l m
 | _,_=>false
theorem eqVs_ok : ∀ {l m : List V},eqVs l m = true→l = m
 | [],[],_=>rfl
 | [],_ :: _,h=>by cases h
 | _ :: _,[],h=>by cases h
 | a :: l,b :: m,h=>by
   simp only [eqVs,Bool.and_eq_true] at h
   rw [eqV_ok h.1,eqVs_ok h.2]
def zeroL (P : Program) (t : TypeId) : Option (List V):=((P.info? t).bind (·.zero)).bind fun z=>toVs z.cells.toList
theorem zeroL_ok {t : TypeId} {l : List V} (h : zeroL P t = some l) : ∃ z,(P.info? t).bind (·.zero) = some z∧(∀ ρ,VRs ρ l z.cells.toList)∧∀ y ∈ z.cells.toList,y.oneCell' = true:=by
 obtain ⟨z,h1,h2⟩:=Option.bind_eq_some_iff.1 h
 exact ⟨z,h1,fun ρ=>(toVs_ok h2 ρ).1,(toVs_ok h2 (fun _=>none)).2⟩
def grain (P : Program) (t : TypeId) (len : Nat) : Nat × Nat:=
 match P.underlying t with
 | some (.array n e)=>match P.underlying e with
   | some .bool=>(len,1)
   | _=>match sz P e with
     | some s=>if 0 < s∧n * s = len then (s,n) else (len,1)
     | none=>(len,1)
 | _=>(len,1)
inductive Loc where
 | s (i : Nat)
 | e (x : Slot)
 | k (v : V)
noncomputable def getk (x : Loc) (L : List V) (env : Env) (k : V→Res) : Res:=
 Loc.rec (motive:=fun _=>List V→Env→(V→Res)→Res) (fun i L _ k=>nthk L i k) (fun x _ env k=>Slot.rec (motive:=fun _=>Res) (fun a b=>selR a env fun row=>selV b row k) x) (fun v _ _ k=>k v) x L env k
structure FI where
 (inl nt : Nat)
def slotOf (t : Nat) : Option Slot:=if t < 256 then some ⟨D.ofNat (t / 16),D.ofNat (t % 16)⟩ else none
theorem D.val_ofNat {n : Nat} (h : n < 16) : (D.ofNat n).val = n:=by
 rcases n with _ | _ | _ | _ | _ | _ | _ | _ | _ | _ | _ | _ | _ | _ | _ | _ | n <;> first | rfl | omega
theorem slotOf_inj {t t' : Nat} {x : Slot} (h : slotOf t = some x) (h' : slotOf t' = some x) : t = t':=by
 unfold slotOf at h h'
 split at h <;> rename_i h1
 · split at h' <;> rename_i h2
   · cases h
     simp only [Option.some.injEq,Slot.mk.injEq] at h'
     have e1:=congrArg D.val h'.1
     have e2:=congrArg D.val h'.2
     rw [D.val_ofNat (by omega),D.val_ofNat (by omega)] at e1
     rw [D.val_ofNat (by omega),D.val_ofNat (by omega)] at e2
     omega
   · cases h'
 · cases h
def Env.at (env : Env) (x : Slot) : V:=(env.get x.a).get x.b
def Env.put (env : Env) (x : Slot) (v : V) : Env:=N.set env x.a (N.set (N.get env x.a) x.b v)
theorem Env.at_put (env : Env) (x : Slot) (v : V) : (env.put x v).at x = v:=by simp [Env.at,Env.put,N.get_set]
theorem Env.at_put_ne (env : Env) {x y : Slot} (h : y ≠ x) (v : V) : (env.put x v).at y = env.at y:=by
 obtain ⟨a,b⟩:=x
 obtain ⟨a',b'⟩:=y
 simp only [Env.at,Env.put]
 by_cases h1 : a' = a
 · subst h1
   rw [N.get_set,N.get_set_ne]
   rintro rfl; exact h rfl
 · rw [N.get_set_ne _ h1]
noncomputable def envk (env : Env) (x : Slot) (v : V) (k : Env→Res) : Res:=Slot.rec (motive:=fun _=>Res) (fun a b=>updR a (fun row k=>updV b (fun _ k=>k v) row k) env k) x
theorem envk_eq (env : Env) (x : Slot) (v : V) (k : Env→Res) : envk env x v k = k (env.put x v):=by cases x; simp only [envk,updR_eq,updV_eq,Env.put]
structure EnvR (ρ : Rho) (fi : FI) (env : Env) (tmps : Array Value) : Prop where
 size : tmps.size = fi.nt
 val : ∀ t x,slotOf t = some x→fi.inl.testBit t = false→VR ρ (env.at x) (tmps.getD t Go.undef)
theorem EnvR.mono {ρ ρ' : Rho} (h : ρ.le ρ') {fi : FI} {env : Env} {tmps : Array Value} (e : EnvR ρ fi env tmps) : EnvR ρ' fi env tmps:=⟨e.size,fun t x h1 h2=>(e.val t x h1 h2).mono h⟩
def gid (g : Nat) : Bid:=⟨0,.d0,D.ofNat (g / 256 % 16),D.ofNat (g / 16 % 16),D.ofNat (g % 16)⟩
def GlobR (ρ : Rho) (n : Nat) : Prop:=∀ g,g < n→∃ S,ρ (gid g) = some (g,0,S)
def locOf (T : Nat→Option Loc) (ng : Nat) : Operand→Option Loc
 | .tmp t=>T t
 | .const v=>(toV v).map .k
 | .global g=>if g < ng then some (.k (.ptr (gid g) 0)) else none
 | .func f=>if f < 32768 then some (.k (.func f [])) else none
def Loc.at (L : List V) (env : Env) : Loc→Option V
 | .s i=>L[i]?
 | .e x=>some (env.at x)
 | .k v=>some v
theorem getk_ok {loc : Loc} {L : List V} {env : Env} {k : V→Res} {r : Res} (h : getk loc L env k = r) (hr : r ≠ .fail) : ∃ v,loc.at L env = some v∧k v = r:=by
 cases loc with
 | s i=>
   obtain ⟨u,h4,h5⟩:=nthk_ok (show nthk L i k = r from h) hr
   exact ⟨u,h4,h5⟩
 | e x=>
   obtain ⟨p,q⟩:=x
   have h3 : selR p env (fun row=>selV q row k) = r:=h
   rw [selR_eq,selV_eq] at h3
   exact ⟨_,rfl,h3⟩
 | k v=>exact ⟨v,rfl,h⟩
def TmpR (ρ : Rho) (T : Nat→Option Loc) (L : List V) (env : Env) (tmps : Array Value) : Prop:=
 ∀ t loc v,T t = some loc→loc.at L env = some v→VR ρ v (tmps.getD t Go.undef)
theorem locOf_at {ng : Nat} {T : Nat→Option Loc} {x : Operand} {loc : Loc} (hl : locOf T ng x = some loc) {L : List V} {env : Env} {v : V} (h1 : loc.at L env = some v)
 {ρ : Rho} {a : Act} (ht : TmpR ρ T L env a.tmps) (hg : GlobR ρ ng) : VR ρ v (a.eval x):=by
 cases x with
 | tmp t=>exact ht t loc v hl h1
 | const c=>
   obtain ⟨u,h3,rfl⟩:=Option.map_eq_some_iff.1 hl
   cases h1
   exact toV_ok h3 ρ
 | global g=>
   simp only [locOf] at hl
   split at hl
   · rename_i hlt
     cases hl
     cases h1
     obtain ⟨S,h1⟩:=hg g hlt
     simpa [Act.eval] using VR.ptr (o:=0) h1
   · cases hl
 | func f=>
   simp only [locOf] at hl
   split at hl
   · rename_i hlt
     cases hl
     cases h1
     exact .func (first:=#[]) (cs:=#[]) hlt rfl (by simp) (by simp) .nil
   · cases hl
theorem locOf_ok {ng : Nat} {T : Nat→Option Loc} {x : Operand} {loc : Loc} (hl : locOf T ng x = some loc) {L : List V} {env : Env} {k : V→Res} {r : Res} (h : getk loc L env k = r) (hr : r ≠ .fail)
 {ρ : Rho} {a : Act} (ht : TmpR ρ T L env a.tmps) (hg : GlobR ρ ng) : ∃ v,k v = r∧VR ρ v (a.eval x):=by
 obtain ⟨v,h1,h2⟩:=getk_ok h hr
 exact ⟨v,h2,locOf_at hl h1 ht hg⟩
end Go.Ev
