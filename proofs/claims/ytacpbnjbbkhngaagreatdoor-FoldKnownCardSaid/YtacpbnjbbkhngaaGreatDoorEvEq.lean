/- EVALUATOR, 25: equality of values, as the kernel runs it. Printed by gen_eq.py. -/
import Derived.Test.YtacpbnjbbkhngaaGreatDoorEvVal
namespace Go.Ev
noncomputable def oeq (a b : Option Nat) : Bool := Option.rec (motive := fun _ => Bool) (Option.rec (motive := fun _ => Bool) true (fun _ => false) b) (fun x => Option.rec (motive := fun _ => Bool) false (fun y => Nat.beq x y) b) a
theorem oeq_eq {a b : Option Nat} (h : oeq a b = true) : a = b := by
  cases a <;> cases b <;> first | rfl | cases h | exact congrArg some (Nat.eq_of_beq_eq_true h)
theorem beqB {a b : Bool} (h : (Bool.rec (motive := fun _ => Bool) (Bool.rec (motive := fun _ => Bool) true false b) b a : Bool) = true) : a = b := by cases a <;> cases b <;> first | rfl | cases h
noncomputable def veqk (x y : V) (k : Res) : Res :=
  V.rec (motive_1 := fun _ => V → Res → Res) (motive_2 := fun _ => List V → Res → Res)
    (fun  y k => V.rec (motive_1 := fun _ => Res) (motive_2 := fun _ => PUnit) k .fail (fun _ => .fail) (fun _ _ => .fail) (fun _ _ => .fail) .fail (fun _ _ => .fail) .fail (fun _ _ _ _ _ => .fail) .fail .fail (fun _ => .fail) .fail (fun _ _ _ => .fail) .fail (fun _ _ _ => .fail) (fun _ _ _ => .fail) (fun _ _ => .fail) PUnit.unit (fun _ _ _ _ => PUnit.unit) y)
    (fun  y k => V.rec (motive_1 := fun _ => Res) (motive_2 := fun _ => PUnit) .fail k (fun _ => .fail) (fun _ _ => .fail) (fun _ _ => .fail) .fail (fun _ _ => .fail) .fail (fun _ _ _ _ _ => .fail) .fail .fail (fun _ => .fail) .fail (fun _ _ _ => .fail) .fail (fun _ _ _ => .fail) (fun _ _ _ => .fail) (fun _ _ => .fail) PUnit.unit (fun _ _ _ _ => PUnit.unit) y)
    (fun b0 y k => V.rec (motive_1 := fun _ => Res) (motive_2 := fun _ => PUnit) .fail .fail (fun b1 => (ifk (Bool.rec (motive := fun _ => Bool) (Bool.rec (motive := fun _ => Bool) true false b1) b1 b0) k .fail)) (fun _ _ => .fail) (fun _ _ => .fail) .fail (fun _ _ => .fail) .fail (fun _ _ _ _ _ => .fail) .fail .fail (fun _ => .fail) .fail (fun _ _ _ => .fail) .fail (fun _ _ _ => .fail) (fun _ _ _ => .fail) (fun _ _ => .fail) PUnit.unit (fun _ _ _ _ => PUnit.unit) y)
    (fun k0 n0 y k => V.rec (motive_1 := fun _ => Res) (motive_2 := fun _ => PUnit) .fail .fail (fun _ => .fail) (fun k1 n1 => (ifk (Nat.beq (kno k0) (kno k1)) (ifk (ieq n0 n1) k .fail) .fail)) (fun _ _ => .fail) .fail (fun _ _ => .fail) .fail (fun _ _ _ _ _ => .fail) .fail .fail (fun _ => .fail) .fail (fun _ _ _ => .fail) .fail (fun _ _ _ => .fail) (fun _ _ _ => .fail) (fun _ _ => .fail) PUnit.unit (fun _ _ _ _ => PUnit.unit) y)
    (fun l0 n0 y k => V.rec (motive_1 := fun _ => Res) (motive_2 := fun _ => PUnit) .fail .fail (fun _ => .fail) (fun _ _ => .fail) (fun l1 n1 => (ifk (Nat.beq l0 l1) (ifk (Nat.beq n0 n1) k .fail) .fail)) .fail (fun _ _ => .fail) .fail (fun _ _ _ _ _ => .fail) .fail .fail (fun _ => .fail) .fail (fun _ _ _ => .fail) .fail (fun _ _ _ => .fail) (fun _ _ _ => .fail) (fun _ _ => .fail) PUnit.unit (fun _ _ _ _ => PUnit.unit) y)
    (fun  y k => V.rec (motive_1 := fun _ => Res) (motive_2 := fun _ => PUnit) .fail .fail (fun _ => .fail) (fun _ _ => .fail) (fun _ _ => .fail) k (fun _ _ => .fail) .fail (fun _ _ _ _ _ => .fail) .fail .fail (fun _ => .fail) .fail (fun _ _ _ => .fail) .fail (fun _ _ _ => .fail) (fun _ _ _ => .fail) (fun _ _ => .fail) PUnit.unit (fun _ _ _ _ => PUnit.unit) y)
    (fun b0 o0 y k => V.rec (motive_1 := fun _ => Res) (motive_2 := fun _ => PUnit) .fail .fail (fun _ => .fail) (fun _ _ => .fail) (fun _ _ => .fail) .fail (fun b1 o1 => (ifk (Nat.beq b0.val b1.val) (ifk (Nat.beq o0 o1) k .fail) .fail)) .fail (fun _ _ _ _ _ => .fail) .fail .fail (fun _ => .fail) .fail (fun _ _ _ => .fail) .fail (fun _ _ _ => .fail) (fun _ _ _ => .fail) (fun _ _ => .fail) PUnit.unit (fun _ _ _ _ => PUnit.unit) y)
    (fun  y k => V.rec (motive_1 := fun _ => Res) (motive_2 := fun _ => PUnit) .fail .fail (fun _ => .fail) (fun _ _ => .fail) (fun _ _ => .fail) .fail (fun _ _ => .fail) k (fun _ _ _ _ _ => .fail) .fail .fail (fun _ => .fail) .fail (fun _ _ _ => .fail) .fail (fun _ _ _ => .fail) (fun _ _ _ => .fail) (fun _ _ => .fail) PUnit.unit (fun _ _ _ _ => PUnit.unit) y)
    (fun b0 o0 l0 c0 s0 y k => V.rec (motive_1 := fun _ => Res) (motive_2 := fun _ => PUnit) .fail .fail (fun _ => .fail) (fun _ _ => .fail) (fun _ _ => .fail) .fail (fun _ _ => .fail) .fail (fun b1 o1 l1 c1 s1 => (ifk (Nat.beq b0.val b1.val) (ifk (Nat.beq o0 o1) (ifk (Nat.beq l0 l1) (ifk (oeq c0 c1) (ifk (Nat.beq s0 s1) k .fail) .fail) .fail) .fail) .fail)) .fail .fail (fun _ => .fail) .fail (fun _ _ _ => .fail) .fail (fun _ _ _ => .fail) (fun _ _ _ => .fail) (fun _ _ => .fail) PUnit.unit (fun _ _ _ _ => PUnit.unit) y)
    (fun  y k => V.rec (motive_1 := fun _ => Res) (motive_2 := fun _ => PUnit) .fail .fail (fun _ => .fail) (fun _ _ => .fail) (fun _ _ => .fail) .fail (fun _ _ => .fail) .fail (fun _ _ _ _ _ => .fail) k .fail (fun _ => .fail) .fail (fun _ _ _ => .fail) .fail (fun _ _ _ => .fail) (fun _ _ _ => .fail) (fun _ _ => .fail) PUnit.unit (fun _ _ _ _ => PUnit.unit) y)
    (fun  y k => V.rec (motive_1 := fun _ => Res) (motive_2 := fun _ => PUnit) .fail .fail (fun _ => .fail) (fun _ _ => .fail) (fun _ _ => .fail) .fail (fun _ _ => .fail) .fail (fun _ _ _ _ _ => .fail) .fail k (fun _ => .fail) .fail (fun _ _ _ => .fail) .fail (fun _ _ _ => .fail) (fun _ _ _ => .fail) (fun _ _ => .fail) PUnit.unit (fun _ _ _ _ => PUnit.unit) y)
    (fun b0 y k => V.rec (motive_1 := fun _ => Res) (motive_2 := fun _ => PUnit) .fail .fail (fun _ => .fail) (fun _ _ => .fail) (fun _ _ => .fail) .fail (fun _ _ => .fail) .fail (fun _ _ _ _ _ => .fail) .fail .fail (fun b1 => (ifk (Nat.beq b0.val b1.val) k .fail)) .fail (fun _ _ _ => .fail) .fail (fun _ _ _ => .fail) (fun _ _ _ => .fail) (fun _ _ => .fail) PUnit.unit (fun _ _ _ _ => PUnit.unit) y)
    (fun  y k => V.rec (motive_1 := fun _ => Res) (motive_2 := fun _ => PUnit) .fail .fail (fun _ => .fail) (fun _ _ => .fail) (fun _ _ => .fail) .fail (fun _ _ => .fail) .fail (fun _ _ _ _ _ => .fail) .fail .fail (fun _ => .fail) k (fun _ _ _ => .fail) .fail (fun _ _ _ => .fail) (fun _ _ _ => .fail) (fun _ _ => .fail) PUnit.unit (fun _ _ _ _ => PUnit.unit) y)
    (fun f0 _ ih y k => V.rec (motive_1 := fun _ => Res) (motive_2 := fun _ => PUnit) .fail .fail (fun _ => .fail) (fun _ _ => .fail) (fun _ _ => .fail) .fail (fun _ _ => .fail) .fail (fun _ _ _ _ _ => .fail) .fail .fail (fun _ => .fail) .fail (fun f1 cap1 _ => (ifk (Nat.beq f0 f1) (ih cap1 k) .fail)) .fail (fun _ _ _ => .fail) (fun _ _ _ => .fail) (fun _ _ => .fail) PUnit.unit (fun _ _ _ _ => PUnit.unit) y)
    (fun  y k => V.rec (motive_1 := fun _ => Res) (motive_2 := fun _ => PUnit) .fail .fail (fun _ => .fail) (fun _ _ => .fail) (fun _ _ => .fail) .fail (fun _ _ => .fail) .fail (fun _ _ _ _ _ => .fail) .fail .fail (fun _ => .fail) .fail (fun _ _ _ => .fail) k (fun _ _ _ => .fail) (fun _ _ _ => .fail) (fun _ _ => .fail) PUnit.unit (fun _ _ _ _ => PUnit.unit) y)
    (fun t0 _ ih y k => V.rec (motive_1 := fun _ => Res) (motive_2 := fun _ => PUnit) .fail .fail (fun _ => .fail) (fun _ _ => .fail) (fun _ _ => .fail) .fail (fun _ _ => .fail) .fail (fun _ _ _ _ _ => .fail) .fail .fail (fun _ => .fail) .fail (fun _ _ _ => .fail) .fail (fun t1 v1 _ => (ifk (Nat.beq t0 t1) (ih v1 k) .fail)) (fun _ _ _ => .fail) (fun _ _ => .fail) PUnit.unit (fun _ _ _ _ => PUnit.unit) y)
    (fun n0 _ ih y k => V.rec (motive_1 := fun _ => Res) (motive_2 := fun _ => PUnit) .fail .fail (fun _ => .fail) (fun _ _ => .fail) (fun _ _ => .fail) .fail (fun _ _ => .fail) .fail (fun _ _ _ _ _ => .fail) .fail .fail (fun _ => .fail) .fail (fun _ _ _ => .fail) .fail (fun _ _ _ => .fail) (fun n1 l1 _ => (ifk (Nat.beq n0 n1) (ih l1 k) .fail)) (fun _ _ => .fail) PUnit.unit (fun _ _ _ _ => PUnit.unit) y)
    (fun _ ih y k => V.rec (motive_1 := fun _ => Res) (motive_2 := fun _ => PUnit) .fail .fail (fun _ => .fail) (fun _ _ => .fail) (fun _ _ => .fail) .fail (fun _ _ => .fail) .fail (fun _ _ _ _ _ => .fail) .fail .fail (fun _ => .fail) .fail (fun _ _ _ => .fail) .fail (fun _ _ _ => .fail) (fun _ _ _ => .fail) (fun l1 _ => (ih l1 k)) PUnit.unit (fun _ _ _ _ => PUnit.unit) y)
    (fun ys k => nilk' ys k) (fun _ _ ih1 ih2 ys k => unc ys fun y ys => ih1 y (ih2 ys k)) x y k
/-- lists, one value after the other -/
noncomputable def veqsk (l : List V) : List V → Res → Res := List.rec (motive := fun _ => List V → Res → Res) (fun ys k => nilk' ys k) (fun v _ ih ys k => unc ys fun y ys => veqk v y (ih ys k)) l
theorem veqsk_eq (l : List V) : (V.rec_1 (motive_1 := fun _ => V → Res → Res) (motive_2 := fun _ => List V → Res → Res)
    (fun  y k => V.rec (motive_1 := fun _ => Res) (motive_2 := fun _ => PUnit) k .fail (fun _ => .fail) (fun _ _ => .fail) (fun _ _ => .fail) .fail (fun _ _ => .fail) .fail (fun _ _ _ _ _ => .fail) .fail .fail (fun _ => .fail) .fail (fun _ _ _ => .fail) .fail (fun _ _ _ => .fail) (fun _ _ _ => .fail) (fun _ _ => .fail) PUnit.unit (fun _ _ _ _ => PUnit.unit) y)
    (fun  y k => V.rec (motive_1 := fun _ => Res) (motive_2 := fun _ => PUnit) .fail k (fun _ => .fail) (fun _ _ => .fail) (fun _ _ => .fail) .fail (fun _ _ => .fail) .fail (fun _ _ _ _ _ => .fail) .fail .fail (fun _ => .fail) .fail (fun _ _ _ => .fail) .fail (fun _ _ _ => .fail) (fun _ _ _ => .fail) (fun _ _ => .fail) PUnit.unit (fun _ _ _ _ => PUnit.unit) y)
    (fun b0 y k => V.rec (motive_1 := fun _ => Res) (motive_2 := fun _ => PUnit) .fail .fail (fun b1 => (ifk (Bool.rec (motive := fun _ => Bool) (Bool.rec (motive := fun _ => Bool) true false b1) b1 b0) k .fail)) (fun _ _ => .fail) (fun _ _ => .fail) .fail (fun _ _ => .fail) .fail (fun _ _ _ _ _ => .fail) .fail .fail (fun _ => .fail) .fail (fun _ _ _ => .fail) .fail (fun _ _ _ => .fail) (fun _ _ _ => .fail) (fun _ _ => .fail) PUnit.unit (fun _ _ _ _ => PUnit.unit) y)
    (fun k0 n0 y k => V.rec (motive_1 := fun _ => Res) (motive_2 := fun _ => PUnit) .fail .fail (fun _ => .fail) (fun k1 n1 => (ifk (Nat.beq (kno k0) (kno k1)) (ifk (ieq n0 n1) k .fail) .fail)) (fun _ _ => .fail) .fail (fun _ _ => .fail) .fail (fun _ _ _ _ _ => .fail) .fail .fail (fun _ => .fail) .fail (fun _ _ _ => .fail) .fail (fun _ _ _ => .fail) (fun _ _ _ => .fail) (fun _ _ => .fail) PUnit.unit (fun _ _ _ _ => PUnit.unit) y)
    (fun l0 n0 y k => V.rec (motive_1 := fun _ => Res) (motive_2 := fun _ => PUnit) .fail .fail (fun _ => .fail) (fun _ _ => .fail) (fun l1 n1 => (ifk (Nat.beq l0 l1) (ifk (Nat.beq n0 n1) k .fail) .fail)) .fail (fun _ _ => .fail) .fail (fun _ _ _ _ _ => .fail) .fail .fail (fun _ => .fail) .fail (fun _ _ _ => .fail) .fail (fun _ _ _ => .fail) (fun _ _ _ => .fail) (fun _ _ => .fail) PUnit.unit (fun _ _ _ _ => PUnit.unit) y)
    (fun  y k => V.rec (motive_1 := fun _ => Res) (motive_2 := fun _ => PUnit) .fail .fail (fun _ => .fail) (fun _ _ => .fail) (fun _ _ => .fail) k (fun _ _ => .fail) .fail (fun _ _ _ _ _ => .fail) .fail .fail (fun _ => .fail) .fail (fun _ _ _ => .fail) .fail (fun _ _ _ => .fail) (fun _ _ _ => .fail) (fun _ _ => .fail) PUnit.unit (fun _ _ _ _ => PUnit.unit) y)
    (fun b0 o0 y k => V.rec (motive_1 := fun _ => Res) (motive_2 := fun _ => PUnit) .fail .fail (fun _ => .fail) (fun _ _ => .fail) (fun _ _ => .fail) .fail (fun b1 o1 => (ifk (Nat.beq b0.val b1.val) (ifk (Nat.beq o0 o1) k .fail) .fail)) .fail (fun _ _ _ _ _ => .fail) .fail .fail (fun _ => .fail) .fail (fun _ _ _ => .fail) .fail (fun _ _ _ => .fail) (fun _ _ _ => .fail) (fun _ _ => .fail) PUnit.unit (fun _ _ _ _ => PUnit.unit) y)
    (fun  y k => V.rec (motive_1 := fun _ => Res) (motive_2 := fun _ => PUnit) .fail .fail (fun _ => .fail) (fun _ _ => .fail) (fun _ _ => .fail) .fail (fun _ _ => .fail) k (fun _ _ _ _ _ => .fail) .fail .fail (fun _ => .fail) .fail (fun _ _ _ => .fail) .fail (fun _ _ _ => .fail) (fun _ _ _ => .fail) (fun _ _ => .fail) PUnit.unit (fun _ _ _ _ => PUnit.unit) y)
    (fun b0 o0 l0 c0 s0 y k => V.rec (motive_1 := fun _ => Res) (motive_2 := fun _ => PUnit) .fail .fail (fun _ => .fail) (fun _ _ => .fail) (fun _ _ => .fail) .fail (fun _ _ => .fail) .fail (fun b1 o1 l1 c1 s1 => (ifk (Nat.beq b0.val b1.val) (ifk (Nat.beq o0 o1) (ifk (Nat.beq l0 l1) (ifk (oeq c0 c1) (ifk (Nat.beq s0 s1) k .fail) .fail) .fail) .fail) .fail)) .fail .fail (fun _ => .fail) .fail (fun _ _ _ => .fail) .fail (fun _ _ _ => .fail) (fun _ _ _ => .fail) (fun _ _ => .fail) PUnit.unit (fun _ _ _ _ => PUnit.unit) y)
    (fun  y k => V.rec (motive_1 := fun _ => Res) (motive_2 := fun _ => PUnit) .fail .fail (fun _ => .fail) (fun _ _ => .fail) (fun _ _ => .fail) .fail (fun _ _ => .fail) .fail (fun _ _ _ _ _ => .fail) k .fail (fun _ => .fail) .fail (fun _ _ _ => .fail) .fail (fun _ _ _ => .fail) (fun _ _ _ => .fail) (fun _ _ => .fail) PUnit.unit (fun _ _ _ _ => PUnit.unit) y)
    (fun  y k => V.rec (motive_1 := fun _ => Res) (motive_2 := fun _ => PUnit) .fail .fail (fun _ => .fail) (fun _ _ => .fail) (fun _ _ => .fail) .fail (fun _ _ => .fail) .fail (fun _ _ _ _ _ => .fail) .fail k (fun _ => .fail) .fail (fun _ _ _ => .fail) .fail (fun _ _ _ => .fail) (fun _ _ _ => .fail) (fun _ _ => .fail) PUnit.unit (fun _ _ _ _ => PUnit.unit) y)
    (fun b0 y k => V.rec (motive_1 := fun _ => Res) (motive_2 := fun _ => PUnit) .fail .fail (fun _ => .fail) (fun _ _ => .fail) (fun _ _ => .fail) .fail (fun _ _ => .fail) .fail (fun _ _ _ _ _ => .fail) .fail .fail (fun b1 => (ifk (Nat.beq b0.val b1.val) k .fail)) .fail (fun _ _ _ => .fail) .fail (fun _ _ _ => .fail) (fun _ _ _ => .fail) (fun _ _ => .fail) PUnit.unit (fun _ _ _ _ => PUnit.unit) y)
    (fun  y k => V.rec (motive_1 := fun _ => Res) (motive_2 := fun _ => PUnit) .fail .fail (fun _ => .fail) (fun _ _ => .fail) (fun _ _ => .fail) .fail (fun _ _ => .fail) .fail (fun _ _ _ _ _ => .fail) .fail .fail (fun _ => .fail) k (fun _ _ _ => .fail) .fail (fun _ _ _ => .fail) (fun _ _ _ => .fail) (fun _ _ => .fail) PUnit.unit (fun _ _ _ _ => PUnit.unit) y)
    (fun f0 _ ih y k => V.rec (motive_1 := fun _ => Res) (motive_2 := fun _ => PUnit) .fail .fail (fun _ => .fail) (fun _ _ => .fail) (fun _ _ => .fail) .fail (fun _ _ => .fail) .fail (fun _ _ _ _ _ => .fail) .fail .fail (fun _ => .fail) .fail (fun f1 cap1 _ => (ifk (Nat.beq f0 f1) (ih cap1 k) .fail)) .fail (fun _ _ _ => .fail) (fun _ _ _ => .fail) (fun _ _ => .fail) PUnit.unit (fun _ _ _ _ => PUnit.unit) y)
    (fun  y k => V.rec (motive_1 := fun _ => Res) (motive_2 := fun _ => PUnit) .fail .fail (fun _ => .fail) (fun _ _ => .fail) (fun _ _ => .fail) .fail (fun _ _ => .fail) .fail (fun _ _ _ _ _ => .fail) .fail .fail (fun _ => .fail) .fail (fun _ _ _ => .fail) k (fun _ _ _ => .fail) (fun _ _ _ => .fail) (fun _ _ => .fail) PUnit.unit (fun _ _ _ _ => PUnit.unit) y)
    (fun t0 _ ih y k => V.rec (motive_1 := fun _ => Res) (motive_2 := fun _ => PUnit) .fail .fail (fun _ => .fail) (fun _ _ => .fail) (fun _ _ => .fail) .fail (fun _ _ => .fail) .fail (fun _ _ _ _ _ => .fail) .fail .fail (fun _ => .fail) .fail (fun _ _ _ => .fail) .fail (fun t1 v1 _ => (ifk (Nat.beq t0 t1) (ih v1 k) .fail)) (fun _ _ _ => .fail) (fun _ _ => .fail) PUnit.unit (fun _ _ _ _ => PUnit.unit) y)
    (fun n0 _ ih y k => V.rec (motive_1 := fun _ => Res) (motive_2 := fun _ => PUnit) .fail .fail (fun _ => .fail) (fun _ _ => .fail) (fun _ _ => .fail) .fail (fun _ _ => .fail) .fail (fun _ _ _ _ _ => .fail) .fail .fail (fun _ => .fail) .fail (fun _ _ _ => .fail) .fail (fun _ _ _ => .fail) (fun n1 l1 _ => (ifk (Nat.beq n0 n1) (ih l1 k) .fail)) (fun _ _ => .fail) PUnit.unit (fun _ _ _ _ => PUnit.unit) y)
    (fun _ ih y k => V.rec (motive_1 := fun _ => Res) (motive_2 := fun _ => PUnit) .fail .fail (fun _ => .fail) (fun _ _ => .fail) (fun _ _ => .fail) .fail (fun _ _ => .fail) .fail (fun _ _ _ _ _ => .fail) .fail .fail (fun _ => .fail) .fail (fun _ _ _ => .fail) .fail (fun _ _ _ => .fail) (fun _ _ _ => .fail) (fun l1 _ => (ih l1 k)) PUnit.unit (fun _ _ _ _ => PUnit.unit) y)
    (fun ys k => nilk' ys k) (fun _ _ ih1 ih2 ys k => unc ys fun y ys => ih1 y (ih2 ys k)) l : List V → Res → Res) = veqsk l := by
  induction l with
  | nil => rfl
  | cons v l ih =>
    funext ys k
    show (unc ys fun y ys => veqk v y (V.rec_1 (motive_1 := fun _ => V → Res → Res) (motive_2 := fun _ => List V → Res → Res)
    (fun  y k => V.rec (motive_1 := fun _ => Res) (motive_2 := fun _ => PUnit) k .fail (fun _ => .fail) (fun _ _ => .fail) (fun _ _ => .fail) .fail (fun _ _ => .fail) .fail (fun _ _ _ _ _ => .fail) .fail .fail (fun _ => .fail) .fail (fun _ _ _ => .fail) .fail (fun _ _ _ => .fail) (fun _ _ _ => .fail) (fun _ _ => .fail) PUnit.unit (fun _ _ _ _ => PUnit.unit) y)
    (fun  y k => V.rec (motive_1 := fun _ => Res) (motive_2 := fun _ => PUnit) .fail k (fun _ => .fail) (fun _ _ => .fail) (fun _ _ => .fail) .fail (fun _ _ => .fail) .fail (fun _ _ _ _ _ => .fail) .fail .fail (fun _ => .fail) .fail (fun _ _ _ => .fail) .fail (fun _ _ _ => .fail) (fun _ _ _ => .fail) (fun _ _ => .fail) PUnit.unit (fun _ _ _ _ => PUnit.unit) y)
    (fun b0 y k => V.rec (motive_1 := fun _ => Res) (motive_2 := fun _ => PUnit) .fail .fail (fun b1 => (ifk (Bool.rec (motive := fun _ => Bool) (Bool.rec (motive := fun _ => Bool) true false b1) b1 b0) k .fail)) (fun _ _ => .fail) (fun _ _ => .fail) .fail (fun _ _ => .fail) .fail (fun _ _ _ _ _ => .fail) .fail .fail (fun _ => .fail) .fail (fun _ _ _ => .fail) .fail (fun _ _ _ => .fail) (fun _ _ _ => .fail) (fun _ _ => .fail) PUnit.unit (fun _ _ _ _ => PUnit.unit) y)
    (fun k0 n0 y k => V.rec (motive_1 := fun _ => Res) (motive_2 := fun _ => PUnit) .fail .fail (fun _ => .fail) (fun k1 n1 => (ifk (Nat.beq (kno k0) (kno k1)) (ifk (ieq n0 n1) k .fail) .fail)) (fun _ _ => .fail) .fail (fun _ _ => .fail) .fail (fun _ _ _ _ _ => .fail) .fail .fail (fun _ => .fail) .fail (fun _ _ _ => .fail) .fail (fun _ _ _ => .fail) (fun _ _ _ => .fail) (fun _ _ => .fail) PUnit.unit (fun _ _ _ _ => PUnit.unit) y)
    (fun l0 n0 y k => V.rec (motive_1 := fun _ => Res) (motive_2 := fun _ => PUnit) .fail .fail (fun _ => .fail) (fun _ _ => .fail) (fun l1 n1 => (ifk (Nat.beq l0 l1) (ifk (Nat.beq n0 n1) k .fail) .fail)) .fail (fun _ _ => .fail) .fail (fun _ _ _ _ _ => .fail) .fail .fail (fun _ => .fail) .fail (fun _ _ _ => .fail) .fail (fun _ _ _ => .fail) (fun _ _ _ => .fail) (fun _ _ => .fail) PUnit.unit (fun _ _ _ _ => PUnit.unit) y)
    (fun  y k => V.rec (motive_1 := fun _ => Res) (motive_2 := fun _ => PUnit) .fail .fail (fun _ => .fail) (fun _ _ => .fail) (fun _ _ => .fail) k (fun _ _ => .fail) .fail (fun _ _ _ _ _ => .fail) .fail .fail (fun _ => .fail) .fail (fun _ _ _ => .fail) .fail (fun _ _ _ => .fail) (fun _ _ _ => .fail) (fun _ _ => .fail) PUnit.unit (fun _ _ _ _ => PUnit.unit) y)
    (fun b0 o0 y k => V.rec (motive_1 := fun _ => Res) (motive_2 := fun _ => PUnit) .fail .fail (fun _ => .fail) (fun _ _ => .fail) (fun _ _ => .fail) .fail (fun b1 o1 => (ifk (Nat.beq b0.val b1.val) (ifk (Nat.beq o0 o1) k .fail) .fail)) .fail (fun _ _ _ _ _ => .fail) .fail .fail (fun _ => .fail) .fail (fun _ _ _ => .fail) .fail (fun _ _ _ => .fail) (fun _ _ _ => .fail) (fun _ _ => .fail) PUnit.unit (fun _ _ _ _ => PUnit.unit) y)
    (fun  y k => V.rec (motive_1 := fun _ => Res) (motive_2 := fun _ => PUnit) .fail .fail (fun _ => .fail) (fun _ _ => .fail) (fun _ _ => .fail) .fail (fun _ _ => .fail) k (fun _ _ _ _ _ => .fail) .fail .fail (fun _ => .fail) .fail (fun _ _ _ => .fail) .fail (fun _ _ _ => .fail) (fun _ _ _ => .fail) (fun _ _ => .fail) PUnit.unit (fun _ _ _ _ => PUnit.unit) y)
    (fun b0 o0 l0 c0 s0 y k => V.rec (motive_1 := fun _ => Res) (motive_2 := fun _ => PUnit) .fail .fail (fun _ => .fail) (fun _ _ => .fail) (fun _ _ => .fail) .fail (fun _ _ => .fail) .fail (fun b1 o1 l1 c1 s1 => (ifk (Nat.beq b0.val b1.val) (ifk (Nat.beq o0 o1) (ifk (Nat.beq l0 l1) (ifk (oeq c0 c1) (ifk (Nat.beq s0 s1) k .fail) .fail) .fail) .fail) .fail)) .fail .fail (fun _ => .fail) .fail (fun _ _ _ => .fail) .fail (fun _ _ _ => .fail) (fun _ _ _ => .fail) (fun _ _ => .fail) PUnit.unit (fun _ _ _ _ => PUnit.unit) y)
    (fun  y k => V.rec (motive_1 := fun _ => Res) (motive_2 := fun _ => PUnit) .fail .fail (fun _ => .fail) (fun _ _ => .fail) (fun _ _ => .fail) .fail (fun _ _ => .fail) .fail (fun _ _ _ _ _ => .fail) k .fail (fun _ => .fail) .fail (fun _ _ _ => .fail) .fail (fun _ _ _ => .fail) (fun _ _ _ => .fail) (fun _ _ => .fail) PUnit.unit (fun _ _ _ _ => PUnit.unit) y)
    (fun  y k => V.rec (motive_1 := fun _ => Res) (motive_2 := fun _ => PUnit) .fail .fail (fun _ => .fail) (fun _ _ => .fail) (fun _ _ => .fail) .fail (fun _ _ => .fail) .fail (fun _ _ _ _ _ => .fail) .fail k (fun _ => .fail) .fail (fun _ _ _ => .fail) .fail (fun _ _ _ => .fail) (fun _ _ _ => .fail) (fun _ _ => .fail) PUnit.unit (fun _ _ _ _ => PUnit.unit) y)
    (fun b0 y k => V.rec (motive_1 := fun _ => Res) (motive_2 := fun _ => PUnit) .fail .fail (fun _ => .fail) (fun _ _ => .fail) (fun _ _ => .fail) .fail (fun _ _ => .fail) .fail (fun _ _ _ _ _ => .fail) .fail .fail (fun b1 => (ifk (Nat.beq b0.val b1.val) k .fail)) .fail (fun _ _ _ => .fail) .fail (fun _ _ _ => .fail) (fun _ _ _ => .fail) (fun _ _ => .fail) PUnit.unit (fun _ _ _ _ => PUnit.unit) y)
    (fun  y k => V.rec (motive_1 := fun _ => Res) (motive_2 := fun _ => PUnit) .fail .fail (fun _ => .fail) (fun _ _ => .fail) (fun _ _ => .fail) .fail (fun _ _ => .fail) .fail (fun _ _ _ _ _ => .fail) .fail .fail (fun _ => .fail) k (fun _ _ _ => .fail) .fail (fun _ _ _ => .fail) (fun _ _ _ => .fail) (fun _ _ => .fail) PUnit.unit (fun _ _ _ _ => PUnit.unit) y)
    (fun f0 _ ih y k => V.rec (motive_1 := fun _ => Res) (motive_2 := fun _ => PUnit) .fail .fail (fun _ => .fail) (fun _ _ => .fail) (fun _ _ => .fail) .fail (fun _ _ => .fail) .fail (fun _ _ _ _ _ => .fail) .fail .fail (fun _ => .fail) .fail (fun f1 cap1 _ => (ifk (Nat.beq f0 f1) (ih cap1 k) .fail)) .fail (fun _ _ _ => .fail) (fun _ _ _ => .fail) (fun _ _ => .fail) PUnit.unit (fun _ _ _ _ => PUnit.unit) y)
    (fun  y k => V.rec (motive_1 := fun _ => Res) (motive_2 := fun _ => PUnit) .fail .fail (fun _ => .fail) (fun _ _ => .fail) (fun _ _ => .fail) .fail (fun _ _ => .fail) .fail (fun _ _ _ _ _ => .fail) .fail .fail (fun _ => .fail) .fail (fun _ _ _ => .fail) k (fun _ _ _ => .fail) (fun _ _ _ => .fail) (fun _ _ => .fail) PUnit.unit (fun _ _ _ _ => PUnit.unit) y)
    (fun t0 _ ih y k => V.rec (motive_1 := fun _ => Res) (motive_2 := fun _ => PUnit) .fail .fail (fun _ => .fail) (fun _ _ => .fail) (fun _ _ => .fail) .fail (fun _ _ => .fail) .fail (fun _ _ _ _ _ => .fail) .fail .fail (fun _ => .fail) .fail (fun _ _ _ => .fail) .fail (fun t1 v1 _ => (ifk (Nat.beq t0 t1) (ih v1 k) .fail)) (fun _ _ _ => .fail) (fun _ _ => .fail) PUnit.unit (fun _ _ _ _ => PUnit.unit) y)
    (fun n0 _ ih y k => V.rec (motive_1 := fun _ => Res) (motive_2 := fun _ => PUnit) .fail .fail (fun _ => .fail) (fun _ _ => .fail) (fun _ _ => .fail) .fail (fun _ _ => .fail) .fail (fun _ _ _ _ _ => .fail) .fail .fail (fun _ => .fail) .fail (fun _ _ _ => .fail) .fail (fun _ _ _ => .fail) (fun n1 l1 _ => (ifk (Nat.beq n0 n1) (ih l1 k) .fail)) (fun _ _ => .fail) PUnit.unit (fun _ _ _ _ => PUnit.unit) y)
    (fun _ ih y k => V.rec (motive_1 := fun _ => Res) (motive_2 := fun _ => PUnit) .fail .fail (fun _ => .fail) (fun _ _ => .fail) (fun _ _ => .fail) .fail (fun _ _ => .fail) .fail (fun _ _ _ _ _ => .fail) .fail .fail (fun _ => .fail) .fail (fun _ _ _ => .fail) .fail (fun _ _ _ => .fail) (fun _ _ _ => .fail) (fun l1 _ => (ih l1 k)) PUnit.unit (fun _ _ _ _ => PUnit.unit) y)
    (fun ys k => nilk' ys k) (fun _ _ ih1 ih2 ys k => unc ys fun y ys => ih1 y (ih2 ys k)) l ys k)) = _
    rw [ih]
    rfl

mutual
theorem veqk_ok : ∀ (x : V) {y : V} {k r : Res}, veqk x y k = r → r ≠ .fail → x = y ∧ k = r
  | .und, y, k, r, h, hr => by
    cases y <;> first | exact absurd h.symm hr | skip
    exact ⟨rfl, h⟩
  | .skip, y, k, r, h, hr => by
    cases y <;> first | exact absurd h.symm hr | skip
    exact ⟨rfl, h⟩
  | .bool b0, y, k, r, h, hr => by
    cases y <;> first | exact absurd h.symm hr | skip
    obtain ⟨e0, h1⟩ := ifk_fail h hr
    have e0 := beqB e0
    subst e0
    exact ⟨rfl, h1⟩
  | .int k0 n0, y, k, r, h, hr => by
    cases y <;> first | exact absurd h.symm hr | skip
    obtain ⟨e0, h1⟩ := ifk_fail h hr
    have e0 := kno_inj e0
    obtain ⟨e1, h2⟩ := ifk_fail h1 hr
    have e1 := of_decide_eq_true ((ieq_eq _ _).symm.trans e1)
    subst e0 e1
    exact ⟨rfl, h2⟩
  | .str l0 n0, y, k, r, h, hr => by
    cases y <;> first | exact absurd h.symm hr | skip
    obtain ⟨e0, h1⟩ := ifk_fail h hr
    have e0 := Nat.eq_of_beq_eq_true e0
    obtain ⟨e1, h2⟩ := ifk_fail h1 hr
    have e1 := Nat.eq_of_beq_eq_true e1
    subst e0 e1
    exact ⟨rfl, h2⟩
  | .nilp, y, k, r, h, hr => by
    cases y <;> first | exact absurd h.symm hr | skip
    exact ⟨rfl, h⟩
  | .ptr b0 o0, y, k, r, h, hr => by
    cases y <;> first | exact absurd h.symm hr | skip
    obtain ⟨e0, h1⟩ := ifk_fail h hr
    have e0 := Bid.val_inj (Nat.eq_of_beq_eq_true e0)
    obtain ⟨e1, h2⟩ := ifk_fail h1 hr
    have e1 := Nat.eq_of_beq_eq_true e1
    subst e0 e1
    exact ⟨rfl, h2⟩
  | .nils, y, k, r, h, hr => by
    cases y <;> first | exact absurd h.symm hr | skip
    exact ⟨rfl, h⟩
  | .slice b0 o0 l0 c0 s0, y, k, r, h, hr => by
    cases y <;> first | exact absurd h.symm hr | skip
    obtain ⟨e0, h1⟩ := ifk_fail h hr
    have e0 := Bid.val_inj (Nat.eq_of_beq_eq_true e0)
    obtain ⟨e1, h2⟩ := ifk_fail h1 hr
    have e1 := Nat.eq_of_beq_eq_true e1
    obtain ⟨e2, h3⟩ := ifk_fail h2 hr
    have e2 := Nat.eq_of_beq_eq_true e2
    obtain ⟨e3, h4⟩ := ifk_fail h3 hr
    have e3 := oeq_eq e3
    obtain ⟨e4, h5⟩ := ifk_fail h4 hr
    have e4 := Nat.eq_of_beq_eq_true e4
    subst e0 e1 e2 e3 e4
    exact ⟨rfl, h5⟩
  | .emp, y, k, r, h, hr => by
    cases y <;> first | exact absurd h.symm hr | skip
    exact ⟨rfl, h⟩
  | .nilm, y, k, r, h, hr => by
    cases y <;> first | exact absurd h.symm hr | skip
    exact ⟨rfl, h⟩
  | .map b0, y, k, r, h, hr => by
    cases y <;> first | exact absurd h.symm hr | skip
    obtain ⟨e0, h1⟩ := ifk_fail h hr
    have e0 := Bid.val_inj (Nat.eq_of_beq_eq_true e0)
    subst e0
    exact ⟨rfl, h1⟩
  | .nilf, y, k, r, h, hr => by
    cases y <;> first | exact absurd h.symm hr | skip
    exact ⟨rfl, h⟩
  | .func f0 cap0, y, k, r, h, hr => by
    cases y <;> first | exact absurd h.symm hr | skip
    obtain ⟨e0, h1⟩ := ifk_fail h hr
    have e0 := Nat.eq_of_beq_eq_true e0
    have g1 := h1
    obtain ⟨e1, h2⟩ := veqs_ok cap0 ((congrFun (congrFun (veqsk_eq cap0) _) _).symm.trans h1) hr
    subst e0 e1
    exact ⟨rfl, h2⟩
  | .nili, y, k, r, h, hr => by
    cases y <;> first | exact absurd h.symm hr | skip
    exact ⟨rfl, h⟩
  | .iface t0 v0, y, k, r, h, hr => by
    cases y <;> first | exact absurd h.symm hr | skip
    obtain ⟨e0, h1⟩ := ifk_fail h hr
    have e0 := Nat.eq_of_beq_eq_true e0
    obtain ⟨e1, h2⟩ := veqk_ok v0 h1 hr
    subst e0 e1
    exact ⟨rfl, h2⟩
  | .agg n0 l0, y, k, r, h, hr => by
    cases y <;> first | exact absurd h.symm hr | skip
    obtain ⟨e0, h1⟩ := ifk_fail h hr
    have e0 := Nat.eq_of_beq_eq_true e0
    have g1 := h1
    obtain ⟨e1, h2⟩ := veqs_ok l0 ((congrFun (congrFun (veqsk_eq l0) _) _).symm.trans h1) hr
    subst e0 e1
    exact ⟨rfl, h2⟩
  | .tup l0, y, k, r, h, hr => by
    cases y <;> first | exact absurd h.symm hr | skip
    have g0 := h
    obtain ⟨e0, h1⟩ := veqs_ok l0 ((congrFun (congrFun (veqsk_eq l0) _) _).symm.trans h) hr
    subst e0
    exact ⟨rfl, h1⟩
theorem veqs_ok : ∀ (l : List V) {ys : List V} {k r : Res}, veqsk l ys k = r → r ≠ .fail → l = ys ∧ k = r
  | [], ys, k, r, h, hr => by
    obtain ⟨rfl, h1⟩ := nilk'_ok (show nilk' ys k = r from h) hr
    exact ⟨rfl, h1⟩
  | v :: l, ys, k, r, h, hr => by
    obtain ⟨y, ys, rfl, h1⟩ := unc_ok (show unc ys (fun y ys => veqk v y (veqsk l ys k)) = r from h) hr
    obtain ⟨rfl, h2⟩ := veqk_ok v h1 hr
    obtain ⟨rfl, h3⟩ := veqs_ok l h2 hr
    exact ⟨rfl, h3⟩
end
end Go.Ev
