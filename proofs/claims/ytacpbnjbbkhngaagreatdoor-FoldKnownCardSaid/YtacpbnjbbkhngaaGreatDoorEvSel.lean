/- EVALUATOR: readings and writings of nodes. Printed by gen_sel.py. -/
import Derived.Test.YtacpbnjbbkhngaaGreatDoorEvBase
namespace Go.Ev
noncomputable def selV (d : D) (n : N (V)) (k : V → Res) : Res :=
  D.rec (motive := fun _ => N (V) → (V → Res) → Res)
    (fun n k => N.rec (motive := fun _ => Res) (fun x0 _ _ _ _ _ _ _ _ _ _ _ _ _ _ _ => k x0) n)
    (fun n k => N.rec (motive := fun _ => Res) (fun _ x1 _ _ _ _ _ _ _ _ _ _ _ _ _ _ => k x1) n)
    (fun n k => N.rec (motive := fun _ => Res) (fun _ _ x2 _ _ _ _ _ _ _ _ _ _ _ _ _ => k x2) n)
    (fun n k => N.rec (motive := fun _ => Res) (fun _ _ _ x3 _ _ _ _ _ _ _ _ _ _ _ _ => k x3) n)
    (fun n k => N.rec (motive := fun _ => Res) (fun _ _ _ _ x4 _ _ _ _ _ _ _ _ _ _ _ => k x4) n)
    (fun n k => N.rec (motive := fun _ => Res) (fun _ _ _ _ _ x5 _ _ _ _ _ _ _ _ _ _ => k x5) n)
    (fun n k => N.rec (motive := fun _ => Res) (fun _ _ _ _ _ _ x6 _ _ _ _ _ _ _ _ _ => k x6) n)
    (fun n k => N.rec (motive := fun _ => Res) (fun _ _ _ _ _ _ _ x7 _ _ _ _ _ _ _ _ => k x7) n)
    (fun n k => N.rec (motive := fun _ => Res) (fun _ _ _ _ _ _ _ _ x8 _ _ _ _ _ _ _ => k x8) n)
    (fun n k => N.rec (motive := fun _ => Res) (fun _ _ _ _ _ _ _ _ _ x9 _ _ _ _ _ _ => k x9) n)
    (fun n k => N.rec (motive := fun _ => Res) (fun _ _ _ _ _ _ _ _ _ _ xa _ _ _ _ _ => k xa) n)
    (fun n k => N.rec (motive := fun _ => Res) (fun _ _ _ _ _ _ _ _ _ _ _ xb _ _ _ _ => k xb) n)
    (fun n k => N.rec (motive := fun _ => Res) (fun _ _ _ _ _ _ _ _ _ _ _ _ xc _ _ _ => k xc) n)
    (fun n k => N.rec (motive := fun _ => Res) (fun _ _ _ _ _ _ _ _ _ _ _ _ _ xd _ _ => k xd) n)
    (fun n k => N.rec (motive := fun _ => Res) (fun _ _ _ _ _ _ _ _ _ _ _ _ _ _ xe _ => k xe) n)
    (fun n k => N.rec (motive := fun _ => Res) (fun _ _ _ _ _ _ _ _ _ _ _ _ _ _ _ xf => k xf) n) d n k
theorem selV_eq (d : D) (n : N (V)) (k : V → Res) : selV d n k = k (n.get d) := by cases d <;> rfl
noncomputable def updV (d : D) (f : V → (V → Res) → Res) (n : N (V)) (k : N (V) → Res) : Res :=
  D.rec (motive := fun _ => (V → (V → Res) → Res) → N (V) → (N (V) → Res) → Res)
    (fun f n k => N.rec (motive := fun _ => Res) (fun x0 x1 x2 x3 x4 x5 x6 x7 x8 x9 xa xb xc xd xe xf => f x0 fun y => k (N.mk y x1 x2 x3 x4 x5 x6 x7 x8 x9 xa xb xc xd xe xf)) n)
    (fun f n k => N.rec (motive := fun _ => Res) (fun x0 x1 x2 x3 x4 x5 x6 x7 x8 x9 xa xb xc xd xe xf => f x1 fun y => k (N.mk x0 y x2 x3 x4 x5 x6 x7 x8 x9 xa xb xc xd xe xf)) n)
    (fun f n k => N.rec (motive := fun _ => Res) (fun x0 x1 x2 x3 x4 x5 x6 x7 x8 x9 xa xb xc xd xe xf => f x2 fun y => k (N.mk x0 x1 y x3 x4 x5 x6 x7 x8 x9 xa xb xc xd xe xf)) n)
    (fun f n k => N.rec (motive := fun _ => Res) (fun x0 x1 x2 x3 x4 x5 x6 x7 x8 x9 xa xb xc xd xe xf => f x3 fun y => k (N.mk x0 x1 x2 y x4 x5 x6 x7 x8 x9 xa xb xc xd xe xf)) n)
    (fun f n k => N.rec (motive := fun _ => Res) (fun x0 x1 x2 x3 x4 x5 x6 x7 x8 x9 xa xb xc xd xe xf => f x4 fun y => k (N.mk x0 x1 x2 x3 y x5 x6 x7 x8 x9 xa xb xc xd xe xf)) n)
    (fun f n k => N.rec (motive := fun _ => Res) (fun x0 x1 x2 x3 x4 x5 x6 x7 x8 x9 xa xb xc xd xe xf => f x5 fun y => k (N.mk x0 x1 x2 x3 x4 y x6 x7 x8 x9 xa xb xc xd xe xf)) n)
    (fun f n k => N.rec (motive := fun _ => Res) (fun x0 x1 x2 x3 x4 x5 x6 x7 x8 x9 xa xb xc xd xe xf => f x6 fun y => k (N.mk x0 x1 x2 x3 x4 x5 y x7 x8 x9 xa xb xc xd xe xf)) n)
    (fun f n k => N.rec (motive := fun _ => Res) (fun x0 x1 x2 x3 x4 x5 x6 x7 x8 x9 xa xb xc xd xe xf => f x7 fun y => k (N.mk x0 x1 x2 x3 x4 x5 x6 y x8 x9 xa xb xc xd xe xf)) n)
    (fun f n k => N.rec (motive := fun _ => Res) (fun x0 x1 x2 x3 x4 x5 x6 x7 x8 x9 xa xb xc xd xe xf => f x8 fun y => k (N.mk x0 x1 x2 x3 x4 x5 x6 x7 y x9 xa xb xc xd xe xf)) n)
    (fun f n k => N.rec (motive := fun _ => Res) (fun x0 x1 x2 x3 x4 x5 x6 x7 x8 x9 xa xb xc xd xe xf => f x9 fun y => k (N.mk x0 x1 x2 x3 x4 x5 x6 x7 x8 y xa xb xc xd xe xf)) n)
    (fun f n k => N.rec (motive := fun _ => Res) (fun x0 x1 x2 x3 x4 x5 x6 x7 x8 x9 xa xb xc xd xe xf => f xa fun y => k (N.mk x0 x1 x2 x3 x4 x5 x6 x7 x8 x9 y xb xc xd xe xf)) n)
    (fun f n k => N.rec (motive := fun _ => Res) (fun x0 x1 x2 x3 x4 x5 x6 x7 x8 x9 xa xb xc xd xe xf => f xb fun y => k (N.mk x0 x1 x2 x3 x4 x5 x6 x7 x8 x9 xa y xc xd xe xf)) n)
    (fun f n k => N.rec (motive := fun _ => Res) (fun x0 x1 x2 x3 x4 x5 x6 x7 x8 x9 xa xb xc xd xe xf => f xc fun y => k (N.mk x0 x1 x2 x3 x4 x5 x6 x7 x8 x9 xa xb y xd xe xf)) n)
    (fun f n k => N.rec (motive := fun _ => Res) (fun x0 x1 x2 x3 x4 x5 x6 x7 x8 x9 xa xb xc xd xe xf => f xd fun y => k (N.mk x0 x1 x2 x3 x4 x5 x6 x7 x8 x9 xa xb xc y xe xf)) n)
    (fun f n k => N.rec (motive := fun _ => Res) (fun x0 x1 x2 x3 x4 x5 x6 x7 x8 x9 xa xb xc xd xe xf => f xe fun y => k (N.mk x0 x1 x2 x3 x4 x5 x6 x7 x8 x9 xa xb xc xd y xf)) n)
    (fun f n k => N.rec (motive := fun _ => Res) (fun x0 x1 x2 x3 x4 x5 x6 x7 x8 x9 xa xb xc xd xe xf => f xf fun y => k (N.mk x0 x1 x2 x3 x4 x5 x6 x7 x8 x9 xa xb xc xd xe y)) n) d f n k
theorem updV_eq (d : D) (f : V → (V → Res) → Res) (n : N (V)) (k : N (V) → Res) : updV d f n k = f (n.get d) (fun y => k (n.set d y)) := by cases d <;> rfl
noncomputable def getV (d : D) (n : N (V)) : V := D.rec (motive := fun _ => V) n.x0 n.x1 n.x2 n.x3 n.x4 n.x5 n.x6 n.x7 n.x8 n.x9 n.xa n.xb n.xc n.xd n.xe n.xf d
theorem getV_eq (d : D) (n : N (V)) : getV d n = n.get d := by cases d <;> rfl
noncomputable def selR (d : D) (n : N (N V)) (k : N V → Res) : Res :=
  D.rec (motive := fun _ => N (N V) → (N V → Res) → Res)
    (fun n k => N.rec (motive := fun _ => Res) (fun x0 _ _ _ _ _ _ _ _ _ _ _ _ _ _ _ => k x0) n)
    (fun n k => N.rec (motive := fun _ => Res) (fun _ x1 _ _ _ _ _ _ _ _ _ _ _ _ _ _ => k x1) n)
    (fun n k => N.rec (motive := fun _ => Res) (fun _ _ x2 _ _ _ _ _ _ _ _ _ _ _ _ _ => k x2) n)
    (fun n k => N.rec (motive := fun _ => Res) (fun _ _ _ x3 _ _ _ _ _ _ _ _ _ _ _ _ => k x3) n)
    (fun n k => N.rec (motive := fun _ => Res) (fun _ _ _ _ x4 _ _ _ _ _ _ _ _ _ _ _ => k x4) n)
    (fun n k => N.rec (motive := fun _ => Res) (fun _ _ _ _ _ x5 _ _ _ _ _ _ _ _ _ _ => k x5) n)
    (fun n k => N.rec (motive := fun _ => Res) (fun _ _ _ _ _ _ x6 _ _ _ _ _ _ _ _ _ => k x6) n)
    (fun n k => N.rec (motive := fun _ => Res) (fun _ _ _ _ _ _ _ x7 _ _ _ _ _ _ _ _ => k x7) n)
    (fun n k => N.rec (motive := fun _ => Res) (fun _ _ _ _ _ _ _ _ x8 _ _ _ _ _ _ _ => k x8) n)
    (fun n k => N.rec (motive := fun _ => Res) (fun _ _ _ _ _ _ _ _ _ x9 _ _ _ _ _ _ => k x9) n)
    (fun n k => N.rec (motive := fun _ => Res) (fun _ _ _ _ _ _ _ _ _ _ xa _ _ _ _ _ => k xa) n)
    (fun n k => N.rec (motive := fun _ => Res) (fun _ _ _ _ _ _ _ _ _ _ _ xb _ _ _ _ => k xb) n)
    (fun n k => N.rec (motive := fun _ => Res) (fun _ _ _ _ _ _ _ _ _ _ _ _ xc _ _ _ => k xc) n)
    (fun n k => N.rec (motive := fun _ => Res) (fun _ _ _ _ _ _ _ _ _ _ _ _ _ xd _ _ => k xd) n)
    (fun n k => N.rec (motive := fun _ => Res) (fun _ _ _ _ _ _ _ _ _ _ _ _ _ _ xe _ => k xe) n)
    (fun n k => N.rec (motive := fun _ => Res) (fun _ _ _ _ _ _ _ _ _ _ _ _ _ _ _ xf => k xf) n) d n k
theorem selR_eq (d : D) (n : N (N V)) (k : N V → Res) : selR d n k = k (n.get d) := by cases d <;> rfl
noncomputable def updR (d : D) (f : N V → (N V → Res) → Res) (n : N (N V)) (k : N (N V) → Res) : Res :=
  D.rec (motive := fun _ => (N V → (N V → Res) → Res) → N (N V) → (N (N V) → Res) → Res)
    (fun f n k => N.rec (motive := fun _ => Res) (fun x0 x1 x2 x3 x4 x5 x6 x7 x8 x9 xa xb xc xd xe xf => f x0 fun y => k (N.mk y x1 x2 x3 x4 x5 x6 x7 x8 x9 xa xb xc xd xe xf)) n)
    (fun f n k => N.rec (motive := fun _ => Res) (fun x0 x1 x2 x3 x4 x5 x6 x7 x8 x9 xa xb xc xd xe xf => f x1 fun y => k (N.mk x0 y x2 x3 x4 x5 x6 x7 x8 x9 xa xb xc xd xe xf)) n)
    (fun f n k => N.rec (motive := fun _ => Res) (fun x0 x1 x2 x3 x4 x5 x6 x7 x8 x9 xa xb xc xd xe xf => f x2 fun y => k (N.mk x0 x1 y x3 x4 x5 x6 x7 x8 x9 xa xb xc xd xe xf)) n)
    (fun f n k => N.rec (motive := fun _ => Res) (fun x0 x1 x2 x3 x4 x5 x6 x7 x8 x9 xa xb xc xd xe xf => f x3 fun y => k (N.mk x0 x1 x2 y x4 x5 x6 x7 x8 x9 xa xb xc xd xe xf)) n)
    (fun f n k => N.rec (motive := fun _ => Res) (fun x0 x1 x2 x3 x4 x5 x6 x7 x8 x9 xa xb xc xd xe xf => f x4 fun y => k (N.mk x0 x1 x2 x3 y x5 x6 x7 x8 x9 xa xb xc xd xe xf)) n)
    (fun f n k => N.rec (motive := fun _ => Res) (fun x0 x1 x2 x3 x4 x5 x6 x7 x8 x9 xa xb xc xd xe xf => f x5 fun y => k (N.mk x0 x1 x2 x3 x4 y x6 x7 x8 x9 xa xb xc xd xe xf)) n)
    (fun f n k => N.rec (motive := fun _ => Res) (fun x0 x1 x2 x3 x4 x5 x6 x7 x8 x9 xa xb xc xd xe xf => f x6 fun y => k (N.mk x0 x1 x2 x3 x4 x5 y x7 x8 x9 xa xb xc xd xe xf)) n)
    (fun f n k => N.rec (motive := fun _ => Res) (fun x0 x1 x2 x3 x4 x5 x6 x7 x8 x9 xa xb xc xd xe xf => f x7 fun y => k (N.mk x0 x1 x2 x3 x4 x5 x6 y x8 x9 xa xb xc xd xe xf)) n)
    (fun f n k => N.rec (motive := fun _ => Res) (fun x0 x1 x2 x3 x4 x5 x6 x7 x8 x9 xa xb xc xd xe xf => f x8 fun y => k (N.mk x0 x1 x2 x3 x4 x5 x6 x7 y x9 xa xb xc xd xe xf)) n)
    (fun f n k => N.rec (motive := fun _ => Res) (fun x0 x1 x2 x3 x4 x5 x6 x7 x8 x9 xa xb xc xd xe xf => f x9 fun y => k (N.mk x0 x1 x2 x3 x4 x5 x6 x7 x8 y xa xb xc xd xe xf)) n)
    (fun f n k => N.rec (motive := fun _ => Res) (fun x0 x1 x2 x3 x4 x5 x6 x7 x8 x9 xa xb xc xd xe xf => f xa fun y => k (N.mk x0 x1 x2 x3 x4 x5 x6 x7 x8 x9 y xb xc xd xe xf)) n)
    (fun f n k => N.rec (motive := fun _ => Res) (fun x0 x1 x2 x3 x4 x5 x6 x7 x8 x9 xa xb xc xd xe xf => f xb fun y => k (N.mk x0 x1 x2 x3 x4 x5 x6 x7 x8 x9 xa y xc xd xe xf)) n)
    (fun f n k => N.rec (motive := fun _ => Res) (fun x0 x1 x2 x3 x4 x5 x6 x7 x8 x9 xa xb xc xd xe xf => f xc fun y => k (N.mk x0 x1 x2 x3 x4 x5 x6 x7 x8 x9 xa xb y xd xe xf)) n)
    (fun f n k => N.rec (motive := fun _ => Res) (fun x0 x1 x2 x3 x4 x5 x6 x7 x8 x9 xa xb xc xd xe xf => f xd fun y => k (N.mk x0 x1 x2 x3 x4 x5 x6 x7 x8 x9 xa xb xc y xe xf)) n)
    (fun f n k => N.rec (motive := fun _ => Res) (fun x0 x1 x2 x3 x4 x5 x6 x7 x8 x9 xa xb xc xd xe xf => f xe fun y => k (N.mk x0 x1 x2 x3 x4 x5 x6 x7 x8 x9 xa xb xc xd y xf)) n)
    (fun f n k => N.rec (motive := fun _ => Res) (fun x0 x1 x2 x3 x4 x5 x6 x7 x8 x9 xa xb xc xd xe xf => f xf fun y => k (N.mk x0 x1 x2 x3 x4 x5 x6 x7 x8 x9 xa xb xc xd xe y)) n) d f n k
theorem updR_eq (d : D) (f : N V → (N V → Res) → Res) (n : N (N V)) (k : N (N V) → Res) : updR d f n k = f (n.get d) (fun y => k (n.set d y)) := by cases d <;> rfl
noncomputable def getR (d : D) (n : N (N V)) : N V := D.rec (motive := fun _ => N V) n.x0 n.x1 n.x2 n.x3 n.x4 n.x5 n.x6 n.x7 n.x8 n.x9 n.xa n.xb n.xc n.xd n.xe n.xf d
theorem getR_eq (d : D) (n : N (N V)) : getR d n = n.get d := by cases d <;> rfl
noncomputable def selB (d : D) (n : N (Blk)) (k : Blk → Res) : Res :=
  D.rec (motive := fun _ => N (Blk) → (Blk → Res) → Res)
    (fun n k => N.rec (motive := fun _ => Res) (fun x0 _ _ _ _ _ _ _ _ _ _ _ _ _ _ _ => k x0) n)
    (fun n k => N.rec (motive := fun _ => Res) (fun _ x1 _ _ _ _ _ _ _ _ _ _ _ _ _ _ => k x1) n)
    (fun n k => N.rec (motive := fun _ => Res) (fun _ _ x2 _ _ _ _ _ _ _ _ _ _ _ _ _ => k x2) n)
    (fun n k => N.rec (motive := fun _ => Res) (fun _ _ _ x3 _ _ _ _ _ _ _ _ _ _ _ _ => k x3) n)
    (fun n k => N.rec (motive := fun _ => Res) (fun _ _ _ _ x4 _ _ _ _ _ _ _ _ _ _ _ => k x4) n)
    (fun n k => N.rec (motive := fun _ => Res) (fun _ _ _ _ _ x5 _ _ _ _ _ _ _ _ _ _ => k x5) n)
    (fun n k => N.rec (motive := fun _ => Res) (fun _ _ _ _ _ _ x6 _ _ _ _ _ _ _ _ _ => k x6) n)
    (fun n k => N.rec (motive := fun _ => Res) (fun _ _ _ _ _ _ _ x7 _ _ _ _ _ _ _ _ => k x7) n)
    (fun n k => N.rec (motive := fun _ => Res) (fun _ _ _ _ _ _ _ _ x8 _ _ _ _ _ _ _ => k x8) n)
    (fun n k => N.rec (motive := fun _ => Res) (fun _ _ _ _ _ _ _ _ _ x9 _ _ _ _ _ _ => k x9) n)
    (fun n k => N.rec (motive := fun _ => Res) (fun _ _ _ _ _ _ _ _ _ _ xa _ _ _ _ _ => k xa) n)
    (fun n k => N.rec (motive := fun _ => Res) (fun _ _ _ _ _ _ _ _ _ _ _ xb _ _ _ _ => k xb) n)
    (fun n k => N.rec (motive := fun _ => Res) (fun _ _ _ _ _ _ _ _ _ _ _ _ xc _ _ _ => k xc) n)
    (fun n k => N.rec (motive := fun _ => Res) (fun _ _ _ _ _ _ _ _ _ _ _ _ _ xd _ _ => k xd) n)
    (fun n k => N.rec (motive := fun _ => Res) (fun _ _ _ _ _ _ _ _ _ _ _ _ _ _ xe _ => k xe) n)
    (fun n k => N.rec (motive := fun _ => Res) (fun _ _ _ _ _ _ _ _ _ _ _ _ _ _ _ xf => k xf) n) d n k
theorem selB_eq (d : D) (n : N (Blk)) (k : Blk → Res) : selB d n k = k (n.get d) := by cases d <;> rfl
noncomputable def updB (d : D) (f : Blk → (Blk → Res) → Res) (n : N (Blk)) (k : N (Blk) → Res) : Res :=
  D.rec (motive := fun _ => (Blk → (Blk → Res) → Res) → N (Blk) → (N (Blk) → Res) → Res)
    (fun f n k => N.rec (motive := fun _ => Res) (fun x0 x1 x2 x3 x4 x5 x6 x7 x8 x9 xa xb xc xd xe xf => f x0 fun y => k (N.mk y x1 x2 x3 x4 x5 x6 x7 x8 x9 xa xb xc xd xe xf)) n)
    (fun f n k => N.rec (motive := fun _ => Res) (fun x0 x1 x2 x3 x4 x5 x6 x7 x8 x9 xa xb xc xd xe xf => f x1 fun y => k (N.mk x0 y x2 x3 x4 x5 x6 x7 x8 x9 xa xb xc xd xe xf)) n)
    (fun f n k => N.rec (motive := fun _ => Res) (fun x0 x1 x2 x3 x4 x5 x6 x7 x8 x9 xa xb xc xd xe xf => f x2 fun y => k (N.mk x0 x1 y x3 x4 x5 x6 x7 x8 x9 xa xb xc xd xe xf)) n)
    (fun f n k => N.rec (motive := fun _ => Res) (fun x0 x1 x2 x3 x4 x5 x6 x7 x8 x9 xa xb xc xd xe xf => f x3 fun y => k (N.mk x0 x1 x2 y x4 x5 x6 x7 x8 x9 xa xb xc xd xe xf)) n)
    (fun f n k => N.rec (motive := fun _ => Res) (fun x0 x1 x2 x3 x4 x5 x6 x7 x8 x9 xa xb xc xd xe xf => f x4 fun y => k (N.mk x0 x1 x2 x3 y x5 x6 x7 x8 x9 xa xb xc xd xe xf)) n)
    (fun f n k => N.rec (motive := fun _ => Res) (fun x0 x1 x2 x3 x4 x5 x6 x7 x8 x9 xa xb xc xd xe xf => f x5 fun y => k (N.mk x0 x1 x2 x3 x4 y x6 x7 x8 x9 xa xb xc xd xe xf)) n)
    (fun f n k => N.rec (motive := fun _ => Res) (fun x0 x1 x2 x3 x4 x5 x6 x7 x8 x9 xa xb xc xd xe xf => f x6 fun y => k (N.mk x0 x1 x2 x3 x4 x5 y x7 x8 x9 xa xb xc xd xe xf)) n)
    (fun f n k => N.rec (motive := fun _ => Res) (fun x0 x1 x2 x3 x4 x5 x6 x7 x8 x9 xa xb xc xd xe xf => f x7 fun y => k (N.mk x0 x1 x2 x3 x4 x5 x6 y x8 x9 xa xb xc xd xe xf)) n)
    (fun f n k => N.rec (motive := fun _ => Res) (fun x0 x1 x2 x3 x4 x5 x6 x7 x8 x9 xa xb xc xd xe xf => f x8 fun y => k (N.mk x0 x1 x2 x3 x4 x5 x6 x7 y x9 xa xb xc xd xe xf)) n)
    (fun f n k => N.rec (motive := fun _ => Res) (fun x0 x1 x2 x3 x4 x5 x6 x7 x8 x9 xa xb xc xd xe xf => f x9 fun y => k (N.mk x0 x1 x2 x3 x4 x5 x6 x7 x8 y xa xb xc xd xe xf)) n)
    (fun f n k => N.rec (motive := fun _ => Res) (fun x0 x1 x2 x3 x4 x5 x6 x7 x8 x9 xa xb xc xd xe xf => f xa fun y => k (N.mk x0 x1 x2 x3 x4 x5 x6 x7 x8 x9 y xb xc xd xe xf)) n)
    (fun f n k => N.rec (motive := fun _ => Res) (fun x0 x1 x2 x3 x4 x5 x6 x7 x8 x9 xa xb xc xd xe xf => f xb fun y => k (N.mk x0 x1 x2 x3 x4 x5 x6 x7 x8 x9 xa y xc xd xe xf)) n)
    (fun f n k => N.rec (motive := fun _ => Res) (fun x0 x1 x2 x3 x4 x5 x6 x7 x8 x9 xa xb xc xd xe xf => f xc fun y => k (N.mk x0 x1 x2 x3 x4 x5 x6 x7 x8 x9 xa xb y xd xe xf)) n)
    (fun f n k => N.rec (motive := fun _ => Res) (fun x0 x1 x2 x3 x4 x5 x6 x7 x8 x9 xa xb xc xd xe xf => f xd fun y => k (N.mk x0 x1 x2 x3 x4 x5 x6 x7 x8 x9 xa xb xc y xe xf)) n)
    (fun f n k => N.rec (motive := fun _ => Res) (fun x0 x1 x2 x3 x4 x5 x6 x7 x8 x9 xa xb xc xd xe xf => f xe fun y => k (N.mk x0 x1 x2 x3 x4 x5 x6 x7 x8 x9 xa xb xc xd y xf)) n)
    (fun f n k => N.rec (motive := fun _ => Res) (fun x0 x1 x2 x3 x4 x5 x6 x7 x8 x9 xa xb xc xd xe xf => f xf fun y => k (N.mk x0 x1 x2 x3 x4 x5 x6 x7 x8 x9 xa xb xc xd xe y)) n) d f n k
theorem updB_eq (d : D) (f : Blk → (Blk → Res) → Res) (n : N (Blk)) (k : N (Blk) → Res) : updB d f n k = f (n.get d) (fun y => k (n.set d y)) := by cases d <;> rfl
noncomputable def getB (d : D) (n : N (Blk)) : Blk := D.rec (motive := fun _ => Blk) n.x0 n.x1 n.x2 n.x3 n.x4 n.x5 n.x6 n.x7 n.x8 n.x9 n.xa n.xb n.xc n.xd n.xe n.xf d
theorem getB_eq (d : D) (n : N (Blk)) : getB d n = n.get d := by cases d <;> rfl
noncomputable def selB1 (d : D) (n : N (N Blk)) (k : N Blk → Res) : Res :=
  D.rec (motive := fun _ => N (N Blk) → (N Blk → Res) → Res)
    (fun n k => N.rec (motive := fun _ => Res) (fun x0 _ _ _ _ _ _ _ _ _ _ _ _ _ _ _ => k x0) n)
    (fun n k => N.rec (motive := fun _ => Res) (fun _ x1 _ _ _ _ _ _ _ _ _ _ _ _ _ _ => k x1) n)
    (fun n k => N.rec (motive := fun _ => Res) (fun _ _ x2 _ _ _ _ _ _ _ _ _ _ _ _ _ => k x2) n)
    (fun n k => N.rec (motive := fun _ => Res) (fun _ _ _ x3 _ _ _ _ _ _ _ _ _ _ _ _ => k x3) n)
    (fun n k => N.rec (motive := fun _ => Res) (fun _ _ _ _ x4 _ _ _ _ _ _ _ _ _ _ _ => k x4) n)
    (fun n k => N.rec (motive := fun _ => Res) (fun _ _ _ _ _ x5 _ _ _ _ _ _ _ _ _ _ => k x5) n)
    (fun n k => N.rec (motive := fun _ => Res) (fun _ _ _ _ _ _ x6 _ _ _ _ _ _ _ _ _ => k x6) n)
    (fun n k => N.rec (motive := fun _ => Res) (fun _ _ _ _ _ _ _ x7 _ _ _ _ _ _ _ _ => k x7) n)
    (fun n k => N.rec (motive := fun _ => Res) (fun _ _ _ _ _ _ _ _ x8 _ _ _ _ _ _ _ => k x8) n)
    (fun n k => N.rec (motive := fun _ => Res) (fun _ _ _ _ _ _ _ _ _ x9 _ _ _ _ _ _ => k x9) n)
    (fun n k => N.rec (motive := fun _ => Res) (fun _ _ _ _ _ _ _ _ _ _ xa _ _ _ _ _ => k xa) n)
    (fun n k => N.rec (motive := fun _ => Res) (fun _ _ _ _ _ _ _ _ _ _ _ xb _ _ _ _ => k xb) n)
    (fun n k => N.rec (motive := fun _ => Res) (fun _ _ _ _ _ _ _ _ _ _ _ _ xc _ _ _ => k xc) n)
    (fun n k => N.rec (motive := fun _ => Res) (fun _ _ _ _ _ _ _ _ _ _ _ _ _ xd _ _ => k xd) n)
    (fun n k => N.rec (motive := fun _ => Res) (fun _ _ _ _ _ _ _ _ _ _ _ _ _ _ xe _ => k xe) n)
    (fun n k => N.rec (motive := fun _ => Res) (fun _ _ _ _ _ _ _ _ _ _ _ _ _ _ _ xf => k xf) n) d n k
theorem selB1_eq (d : D) (n : N (N Blk)) (k : N Blk → Res) : selB1 d n k = k (n.get d) := by cases d <;> rfl
noncomputable def updB1 (d : D) (f : N Blk → (N Blk → Res) → Res) (n : N (N Blk)) (k : N (N Blk) → Res) : Res :=
  D.rec (motive := fun _ => (N Blk → (N Blk → Res) → Res) → N (N Blk) → (N (N Blk) → Res) → Res)
    (fun f n k => N.rec (motive := fun _ => Res) (fun x0 x1 x2 x3 x4 x5 x6 x7 x8 x9 xa xb xc xd xe xf => f x0 fun y => k (N.mk y x1 x2 x3 x4 x5 x6 x7 x8 x9 xa xb xc xd xe xf)) n)
    (fun f n k => N.rec (motive := fun _ => Res) (fun x0 x1 x2 x3 x4 x5 x6 x7 x8 x9 xa xb xc xd xe xf => f x1 fun y => k (N.mk x0 y x2 x3 x4 x5 x6 x7 x8 x9 xa xb xc xd xe xf)) n)
    (fun f n k => N.rec (motive := fun _ => Res) (fun x0 x1 x2 x3 x4 x5 x6 x7 x8 x9 xa xb xc xd xe xf => f x2 fun y => k (N.mk x0 x1 y x3 x4 x5 x6 x7 x8 x9 xa xb xc xd xe xf)) n)
    (fun f n k => N.rec (motive := fun _ => Res) (fun x0 x1 x2 x3 x4 x5 x6 x7 x8 x9 xa xb xc xd xe xf => f x3 fun y => k (N.mk x0 x1 x2 y x4 x5 x6 x7 x8 x9 xa xb xc xd xe xf)) n)
    (fun f n k => N.rec (motive := fun _ => Res) (fun x0 x1 x2 x3 x4 x5 x6 x7 x8 x9 xa xb xc xd xe xf => f x4 fun y => k (N.mk x0 x1 x2 x3 y x5 x6 x7 x8 x9 xa xb xc xd xe xf)) n)
    (fun f n k => N.rec (motive := fun _ => Res) (fun x0 x1 x2 x3 x4 x5 x6 x7 x8 x9 xa xb xc xd xe xf => f x5 fun y => k (N.mk x0 x1 x2 x3 x4 y x6 x7 x8 x9 xa xb xc xd xe xf)) n)
    (fun f n k => N.rec (motive := fun _ => Res) (fun x0 x1 x2 x3 x4 x5 x6 x7 x8 x9 xa xb xc xd xe xf => f x6 fun y => k (N.mk x0 x1 x2 x3 x4 x5 y x7 x8 x9 xa xb xc xd xe xf)) n)
    (fun f n k => N.rec (motive := fun _ => Res) (fun x0 x1 x2 x3 x4 x5 x6 x7 x8 x9 xa xb xc xd xe xf => f x7 fun y => k (N.mk x0 x1 x2 x3 x4 x5 x6 y x8 x9 xa xb xc xd xe xf)) n)
    (fun f n k => N.rec (motive := fun _ => Res) (fun x0 x1 x2 x3 x4 x5 x6 x7 x8 x9 xa xb xc xd xe xf => f x8 fun y => k (N.mk x0 x1 x2 x3 x4 x5 x6 x7 y x9 xa xb xc xd xe xf)) n)
    (fun f n k => N.rec (motive := fun _ => Res) (fun x0 x1 x2 x3 x4 x5 x6 x7 x8 x9 xa xb xc xd xe xf => f x9 fun y => k (N.mk x0 x1 x2 x3 x4 x5 x6 x7 x8 y xa xb xc xd xe xf)) n)
    (fun f n k => N.rec (motive := fun _ => Res) (fun x0 x1 x2 x3 x4 x5 x6 x7 x8 x9 xa xb xc xd xe xf => f xa fun y => k (N.mk x0 x1 x2 x3 x4 x5 x6 x7 x8 x9 y xb xc xd xe xf)) n)
    (fun f n k => N.rec (motive := fun _ => Res) (fun x0 x1 x2 x3 x4 x5 x6 x7 x8 x9 xa xb xc xd xe xf => f xb fun y => k (N.mk x0 x1 x2 x3 x4 x5 x6 x7 x8 x9 xa y xc xd xe xf)) n)
    (fun f n k => N.rec (motive := fun _ => Res) (fun x0 x1 x2 x3 x4 x5 x6 x7 x8 x9 xa xb xc xd xe xf => f xc fun y => k (N.mk x0 x1 x2 x3 x4 x5 x6 x7 x8 x9 xa xb y xd xe xf)) n)
    (fun f n k => N.rec (motive := fun _ => Res) (fun x0 x1 x2 x3 x4 x5 x6 x7 x8 x9 xa xb xc xd xe xf => f xd fun y => k (N.mk x0 x1 x2 x3 x4 x5 x6 x7 x8 x9 xa xb xc y xe xf)) n)
    (fun f n k => N.rec (motive := fun _ => Res) (fun x0 x1 x2 x3 x4 x5 x6 x7 x8 x9 xa xb xc xd xe xf => f xe fun y => k (N.mk x0 x1 x2 x3 x4 x5 x6 x7 x8 x9 xa xb xc xd y xf)) n)
    (fun f n k => N.rec (motive := fun _ => Res) (fun x0 x1 x2 x3 x4 x5 x6 x7 x8 x9 xa xb xc xd xe xf => f xf fun y => k (N.mk x0 x1 x2 x3 x4 x5 x6 x7 x8 x9 xa xb xc xd xe y)) n) d f n k
theorem updB1_eq (d : D) (f : N Blk → (N Blk → Res) → Res) (n : N (N Blk)) (k : N (N Blk) → Res) : updB1 d f n k = f (n.get d) (fun y => k (n.set d y)) := by cases d <;> rfl
noncomputable def getB1 (d : D) (n : N (N Blk)) : N Blk := D.rec (motive := fun _ => N Blk) n.x0 n.x1 n.x2 n.x3 n.x4 n.x5 n.x6 n.x7 n.x8 n.x9 n.xa n.xb n.xc n.xd n.xe n.xf d
theorem getB1_eq (d : D) (n : N (N Blk)) : getB1 d n = n.get d := by cases d <;> rfl
noncomputable def selB2 (d : D) (n : N (N (N Blk))) (k : N (N Blk) → Res) : Res :=
  D.rec (motive := fun _ => N (N (N Blk)) → (N (N Blk) → Res) → Res)
    (fun n k => N.rec (motive := fun _ => Res) (fun x0 _ _ _ _ _ _ _ _ _ _ _ _ _ _ _ => k x0) n)
    (fun n k => N.rec (motive := fun _ => Res) (fun _ x1 _ _ _ _ _ _ _ _ _ _ _ _ _ _ => k x1) n)
    (fun n k => N.rec (motive := fun _ => Res) (fun _ _ x2 _ _ _ _ _ _ _ _ _ _ _ _ _ => k x2) n)
    (fun n k => N.rec (motive := fun _ => Res) (fun _ _ _ x3 _ _ _ _ _ _ _ _ _ _ _ _ => k x3) n)
    (fun n k => N.rec (motive := fun _ => Res) (fun _ _ _ _ x4 _ _ _ _ _ _ _ _ _ _ _ => k x4) n)
    (fun n k => N.rec (motive := fun _ => Res) (fun _ _ _ _ _ x5 _ _ _ _ _ _ _ _ _ _ => k x5) n)
    (fun n k => N.rec (motive := fun _ => Res) (fun _ _ _ _ _ _ x6 _ _ _ _ _ _ _ _ _ => k x6) n)
    (fun n k => N.rec (motive := fun _ => Res) (fun _ _ _ _ _ _ _ x7 _ _ _ _ _ _ _ _ => k x7) n)
    (fun n k => N.rec (motive := fun _ => Res) (fun _ _ _ _ _ _ _ _ x8 _ _ _ _ _ _ _ => k x8) n)
    (fun n k => N.rec (motive := fun _ => Res) (fun _ _ _ _ _ _ _ _ _ x9 _ _ _ _ _ _ => k x9) n)
    (fun n k => N.rec (motive := fun _ => Res) (fun _ _ _ _ _ _ _ _ _ _ xa _ _ _ _ _ => k xa) n)
    (fun n k => N.rec (motive := fun _ => Res) (fun _ _ _ _ _ _ _ _ _ _ _ xb _ _ _ _ => k xb) n)
    (fun n k => N.rec (motive := fun _ => Res) (fun _ _ _ _ _ _ _ _ _ _ _ _ xc _ _ _ => k xc) n)
    (fun n k => N.rec (motive := fun _ => Res) (fun _ _ _ _ _ _ _ _ _ _ _ _ _ xd _ _ => k xd) n)
    (fun n k => N.rec (motive := fun _ => Res) (fun _ _ _ _ _ _ _ _ _ _ _ _ _ _ xe _ => k xe) n)
    (fun n k => N.rec (motive := fun _ => Res) (fun _ _ _ _ _ _ _ _ _ _ _ _ _ _ _ xf => k xf) n) d n k
theorem selB2_eq (d : D) (n : N (N (N Blk))) (k : N (N Blk) → Res) : selB2 d n k = k (n.get d) := by cases d <;> rfl
noncomputable def updB2 (d : D) (f : N (N Blk) → (N (N Blk) → Res) → Res) (n : N (N (N Blk))) (k : N (N (N Blk)) → Res) : Res :=
  D.rec (motive := fun _ => (N (N Blk) → (N (N Blk) → Res) → Res) → N (N (N Blk)) → (N (N (N Blk)) → Res) → Res)
    (fun f n k => N.rec (motive := fun _ => Res) (fun x0 x1 x2 x3 x4 x5 x6 x7 x8 x9 xa xb xc xd xe xf => f x0 fun y => k (N.mk y x1 x2 x3 x4 x5 x6 x7 x8 x9 xa xb xc xd xe xf)) n)
    (fun f n k => N.rec (motive := fun _ => Res) (fun x0 x1 x2 x3 x4 x5 x6 x7 x8 x9 xa xb xc xd xe xf => f x1 fun y => k (N.mk x0 y x2 x3 x4 x5 x6 x7 x8 x9 xa xb xc xd xe xf)) n)
    (fun f n k => N.rec (motive := fun _ => Res) (fun x0 x1 x2 x3 x4 x5 x6 x7 x8 x9 xa xb xc xd xe xf => f x2 fun y => k (N.mk x0 x1 y x3 x4 x5 x6 x7 x8 x9 xa xb xc xd xe xf)) n)
    (fun f n k => N.rec (motive := fun _ => Res) (fun x0 x1 x2 x3 x4 x5 x6 x7 x8 x9 xa xb xc xd xe xf => f x3 fun y => k (N.mk x0 x1 x2 y x4 x5 x6 x7 x8 x9 xa xb xc xd xe xf)) n)
    (fun f n k => N.rec (motive := fun _ => Res) (fun x0 x1 x2 x3 x4 x5 x6 x7 x8 x9 xa xb xc xd xe xf => f x4 fun y => k (N.mk x0 x1 x2 x3 y x5 x6 x7 x8 x9 xa xb xc xd xe xf)) n)
    (fun f n k => N.rec (motive := fun _ => Res) (fun x0 x1 x2 x3 x4 x5 x6 x7 x8 x9 xa xb xc xd xe xf => f x5 fun y => k (N.mk x0 x1 x2 x3 x4 y x6 x7 x8 x9 xa xb xc xd xe xf)) n)
    (fun f n k => N.rec (motive := fun _ => Res) (fun x0 x1 x2 x3 x4 x5 x6 x7 x8 x9 xa xb xc xd xe xf => f x6 fun y => k (N.mk x0 x1 x2 x3 x4 x5 y x7 x8 x9 xa xb xc xd xe xf)) n)
    (fun f n k => N.rec (motive := fun _ => Res) (fun x0 x1 x2 x3 x4 x5 x6 x7 x8 x9 xa xb xc xd xe xf => f x7 fun y => k (N.mk x0 x1 x2 x3 x4 x5 x6 y x8 x9 xa xb xc xd xe xf)) n)
    (fun f n k => N.rec (motive := fun _ => Res) (fun x0 x1 x2 x3 x4 x5 x6 x7 x8 x9 xa xb xc xd xe xf => f x8 fun y => k (N.mk x0 x1 x2 x3 x4 x5 x6 x7 y x9 xa xb xc xd xe xf)) n)
    (fun f n k => N.rec (motive := fun _ => Res) (fun x0 x1 x2 x3 x4 x5 x6 x7 x8 x9 xa xb xc xd xe xf => f x9 fun y => k (N.mk x0 x1 x2 x3 x4 x5 x6 x7 x8 y xa xb xc xd xe xf)) n)
    (fun f n k => N.rec (motive := fun _ => Res) (fun x0 x1 x2 x3 x4 x5 x6 x7 x8 x9 xa xb xc xd xe xf => f xa fun y => k (N.mk x0 x1 x2 x3 x4 x5 x6 x7 x8 x9 y xb xc xd xe xf)) n)
    (fun f n k => N.rec (motive := fun _ => Res) (fun x0 x1 x2 x3 x4 x5 x6 x7 x8 x9 xa xb xc xd xe xf => f xb fun y => k (N.mk x0 x1 x2 x3 x4 x5 x6 x7 x8 x9 xa y xc xd xe xf)) n)
    (fun f n k => N.rec (motive := fun _ => Res) (fun x0 x1 x2 x3 x4 x5 x6 x7 x8 x9 xa xb xc xd xe xf => f xc fun y => k (N.mk x0 x1 x2 x3 x4 x5 x6 x7 x8 x9 xa xb y xd xe xf)) n)
    (fun f n k => N.rec (motive := fun _ => Res) (fun x0 x1 x2 x3 x4 x5 x6 x7 x8 x9 xa xb xc xd xe xf => f xd fun y => k (N.mk x0 x1 x2 x3 x4 x5 x6 x7 x8 x9 xa xb xc y xe xf)) n)
    (fun f n k => N.rec (motive := fun _ => Res) (fun x0 x1 x2 x3 x4 x5 x6 x7 x8 x9 xa xb xc xd xe xf => f xe fun y => k (N.mk x0 x1 x2 x3 x4 x5 x6 x7 x8 x9 xa xb xc xd y xf)) n)
    (fun f n k => N.rec (motive := fun _ => Res) (fun x0 x1 x2 x3 x4 x5 x6 x7 x8 x9 xa xb xc xd xe xf => f xf fun y => k (N.mk x0 x1 x2 x3 x4 x5 x6 x7 x8 x9 xa xb xc xd xe y)) n) d f n k
theorem updB2_eq (d : D) (f : N (N Blk) → (N (N Blk) → Res) → Res) (n : N (N (N Blk))) (k : N (N (N Blk)) → Res) : updB2 d f n k = f (n.get d) (fun y => k (n.set d y)) := by cases d <;> rfl
noncomputable def getB2 (d : D) (n : N (N (N Blk))) : N (N Blk) := D.rec (motive := fun _ => N (N Blk)) n.x0 n.x1 n.x2 n.x3 n.x4 n.x5 n.x6 n.x7 n.x8 n.x9 n.xa n.xb n.xc n.xd n.xe n.xf d
theorem getB2_eq (d : D) (n : N (N (N Blk))) : getB2 d n = n.get d := by cases d <;> rfl
noncomputable def selB3 (d : D) (n : N (N (N (N Blk)))) (k : N (N (N Blk)) → Res) : Res :=
  D.rec (motive := fun _ => N (N (N (N Blk))) → (N (N (N Blk)) → Res) → Res)
    (fun n k => N.rec (motive := fun _ => Res) (fun x0 _ _ _ _ _ _ _ _ _ _ _ _ _ _ _ => k x0) n)
    (fun n k => N.rec (motive := fun _ => Res) (fun _ x1 _ _ _ _ _ _ _ _ _ _ _ _ _ _ => k x1) n)
    (fun n k => N.rec (motive := fun _ => Res) (fun _ _ x2 _ _ _ _ _ _ _ _ _ _ _ _ _ => k x2) n)
    (fun n k => N.rec (motive := fun _ => Res) (fun _ _ _ x3 _ _ _ _ _ _ _ _ _ _ _ _ => k x3) n)
    (fun n k => N.rec (motive := fun _ => Res) (fun _ _ _ _ x4 _ _ _ _ _ _ _ _ _ _ _ => k x4) n)
    (fun n k => N.rec (motive := fun _ => Res) (fun _ _ _ _ _ x5 _ _ _ _ _ _ _ _ _ _ => k x5) n)
    (fun n k => N.rec (motive := fun _ => Res) (fun _ _ _ _ _ _ x6 _ _ _ _ _ _ _ _ _ => k x6) n)
    (fun n k => N.rec (motive := fun _ => Res) (fun _ _ _ _ _ _ _ x7 _ _ _ _ _ _ _ _ => k x7) n)
    (fun n k => N.rec (motive := fun _ => Res) (fun _ _ _ _ _ _ _ _ x8 _ _ _ _ _ _ _ => k x8) n)
    (fun n k => N.rec (motive := fun _ => Res) (fun _ _ _ _ _ _ _ _ _ x9 _ _ _ _ _ _ => k x9) n)
    (fun n k => N.rec (motive := fun _ => Res) (fun _ _ _ _ _ _ _ _ _ _ xa _ _ _ _ _ => k xa) n)
    (fun n k => N.rec (motive := fun _ => Res) (fun _ _ _ _ _ _ _ _ _ _ _ xb _ _ _ _ => k xb) n)
    (fun n k => N.rec (motive := fun _ => Res) (fun _ _ _ _ _ _ _ _ _ _ _ _ xc _ _ _ => k xc) n)
    (fun n k => N.rec (motive := fun _ => Res) (fun _ _ _ _ _ _ _ _ _ _ _ _ _ xd _ _ => k xd) n)
    (fun n k => N.rec (motive := fun _ => Res) (fun _ _ _ _ _ _ _ _ _ _ _ _ _ _ xe _ => k xe) n)
    (fun n k => N.rec (motive := fun _ => Res) (fun _ _ _ _ _ _ _ _ _ _ _ _ _ _ _ xf => k xf) n) d n k
theorem selB3_eq (d : D) (n : N (N (N (N Blk)))) (k : N (N (N Blk)) → Res) : selB3 d n k = k (n.get d) := by cases d <;> rfl
noncomputable def updB3 (d : D) (f : N (N (N Blk)) → (N (N (N Blk)) → Res) → Res) (n : N (N (N (N Blk)))) (k : N (N (N (N Blk))) → Res) : Res :=
  D.rec (motive := fun _ => (N (N (N Blk)) → (N (N (N Blk)) → Res) → Res) → N (N (N (N Blk))) → (N (N (N (N Blk))) → Res) → Res)
    (fun f n k => N.rec (motive := fun _ => Res) (fun x0 x1 x2 x3 x4 x5 x6 x7 x8 x9 xa xb xc xd xe xf => f x0 fun y => k (N.mk y x1 x2 x3 x4 x5 x6 x7 x8 x9 xa xb xc xd xe xf)) n)
    (fun f n k => N.rec (motive := fun _ => Res) (fun x0 x1 x2 x3 x4 x5 x6 x7 x8 x9 xa xb xc xd xe xf => f x1 fun y => k (N.mk x0 y x2 x3 x4 x5 x6 x7 x8 x9 xa xb xc xd xe xf)) n)
    (fun f n k => N.rec (motive := fun _ => Res) (fun x0 x1 x2 x3 x4 x5 x6 x7 x8 x9 xa xb xc xd xe xf => f x2 fun y => k (N.mk x0 x1 y x3 x4 x5 x6 x7 x8 x9 xa xb xc xd xe xf)) n)
    (fun f n k => N.rec (motive := fun _ => Res) (fun x0 x1 x2 x3 x4 x5 x6 x7 x8 x9 xa xb xc xd xe xf => f x3 fun y => k (N.mk x0 x1 x2 y x4 x5 x6 x7 x8 x9 xa xb xc xd xe xf)) n)
    (fun f n k => N.rec (motive := fun _ => Res) (fun x0 x1 x2 x3 x4 x5 x6 x7 x8 x9 xa xb xc xd xe xf => f x4 fun y => k (N.mk x0 x1 x2 x3 y x5 x6 x7 x8 x9 xa xb xc xd xe xf)) n)
    (fun f n k => N.rec (motive := fun _ => Res) (fun x0 x1 x2 x3 x4 x5 x6 x7 x8 x9 xa xb xc xd xe xf => f x5 fun y => k (N.mk x0 x1 x2 x3 x4 y x6 x7 x8 x9 xa xb xc xd xe xf)) n)
    (fun f n k => N.rec (motive := fun _ => Res) (fun x0 x1 x2 x3 x4 x5 x6 x7 x8 x9 xa xb xc xd xe xf => f x6 fun y => k (N.mk x0 x1 x2 x3 x4 x5 y x7 x8 x9 xa xb xc xd xe xf)) n)
    (fun f n k => N.rec (motive := fun _ => Res) (fun x0 x1 x2 x3 x4 x5 x6 x7 x8 x9 xa xb xc xd xe xf => f x7 fun y => k (N.mk x0 x1 x2 x3 x4 x5 x6 y x8 x9 xa xb xc xd xe xf)) n)
    (fun f n k => N.rec (motive := fun _ => Res) (fun x0 x1 x2 x3 x4 x5 x6 x7 x8 x9 xa xb xc xd xe xf => f x8 fun y => k (N.mk x0 x1 x2 x3 x4 x5 x6 x7 y x9 xa xb xc xd xe xf)) n)
    (fun f n k => N.rec (motive := fun _ => Res) (fun x0 x1 x2 x3 x4 x5 x6 x7 x8 x9 xa xb xc xd xe xf => f x9 fun y => k (N.mk x0 x1 x2 x3 x4 x5 x6 x7 x8 y xa xb xc xd xe xf)) n)
    (fun f n k => N.rec (motive := fun _ => Res) (fun x0 x1 x2 x3 x4 x5 x6 x7 x8 x9 xa xb xc xd xe xf => f xa fun y => k (N.mk x0 x1 x2 x3 x4 x5 x6 x7 x8 x9 y xb xc xd xe xf)) n)
    (fun f n k => N.rec (motive := fun _ => Res) (fun x0 x1 x2 x3 x4 x5 x6 x7 x8 x9 xa xb xc xd xe xf => f xb fun y => k (N.mk x0 x1 x2 x3 x4 x5 x6 x7 x8 x9 xa y xc xd xe xf)) n)
    (fun f n k => N.rec (motive := fun _ => Res) (fun x0 x1 x2 x3 x4 x5 x6 x7 x8 x9 xa xb xc xd xe xf => f xc fun y => k (N.mk x0 x1 x2 x3 x4 x5 x6 x7 x8 x9 xa xb y xd xe xf)) n)
    (fun f n k => N.rec (motive := fun _ => Res) (fun x0 x1 x2 x3 x4 x5 x6 x7 x8 x9 xa xb xc xd xe xf => f xd fun y => k (N.mk x0 x1 x2 x3 x4 x5 x6 x7 x8 x9 xa xb xc y xe xf)) n)
    (fun f n k => N.rec (motive := fun _ => Res) (fun x0 x1 x2 x3 x4 x5 x6 x7 x8 x9 xa xb xc xd xe xf => f xe fun y => k (N.mk x0 x1 x2 x3 x4 x5 x6 x7 x8 x9 xa xb xc xd y xf)) n)
    (fun f n k => N.rec (motive := fun _ => Res) (fun x0 x1 x2 x3 x4 x5 x6 x7 x8 x9 xa xb xc xd xe xf => f xf fun y => k (N.mk x0 x1 x2 x3 x4 x5 x6 x7 x8 x9 xa xb xc xd xe y)) n) d f n k
theorem updB3_eq (d : D) (f : N (N (N Blk)) → (N (N (N Blk)) → Res) → Res) (n : N (N (N (N Blk)))) (k : N (N (N (N Blk))) → Res) : updB3 d f n k = f (n.get d) (fun y => k (n.set d y)) := by cases d <;> rfl
noncomputable def getB3 (d : D) (n : N (N (N (N Blk)))) : N (N (N Blk)) := D.rec (motive := fun _ => N (N (N Blk))) n.x0 n.x1 n.x2 n.x3 n.x4 n.x5 n.x6 n.x7 n.x8 n.x9 n.xa n.xb n.xc n.xd n.xe n.xf d
theorem getB3_eq (d : D) (n : N (N (N (N Blk)))) : getB3 d n = n.get d := by cases d <;> rfl
end Go.Ev
