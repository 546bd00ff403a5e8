/- EVALUATOR: the table of functions. Printed by gen_sel.py. -/
import Derived.Test.YtjppnjhchojldaaEvFun
namespace Go.Ev
/-- where a result lies: in the frame, or in a cell that the frame points to -/
inductive RS where
  | tmp (x : Slot)
  | cell (x : Slot)
  | cells (n : Nat) (x : Slot)
/-- a function as it is prepared: code; where its arguments lie; where its results lie -/
structure PF where
  code : PC
  args : List (Slot × Sh1)
  res : List RS
inductive PO where
  | no
  | fn (f : PF)
  | orc (f : List V → Heap → Res)
  | sh (f : Nat → CF → List V → Heap → Res)
noncomputable def getP (d : D) (n : N (PO)) : PO := D.rec (motive := fun _ => PO) n.x0 n.x1 n.x2 n.x3 n.x4 n.x5 n.x6 n.x7 n.x8 n.x9 n.xa n.xb n.xc n.xd n.xe n.xf d
theorem getP_eq (d : D) (n : N (PO)) : getP d n = n.get d := by cases d <;> rfl
noncomputable def getP1 (d : D) (n : N (N PO)) : N PO := D.rec (motive := fun _ => N PO) n.x0 n.x1 n.x2 n.x3 n.x4 n.x5 n.x6 n.x7 n.x8 n.x9 n.xa n.xb n.xc n.xd n.xe n.xf d
theorem getP1_eq (d : D) (n : N (N PO)) : getP1 d n = n.get d := by cases d <;> rfl
noncomputable def getP2 (d : D) (n : N (N (N PO))) : N (N PO) := D.rec (motive := fun _ => N (N PO)) n.x0 n.x1 n.x2 n.x3 n.x4 n.x5 n.x6 n.x7 n.x8 n.x9 n.xa n.xb n.xc n.xd n.xe n.xf d
theorem getP2_eq (d : D) (n : N (N (N PO))) : getP2 d n = n.get d := by cases d <;> rfl
noncomputable def getP3 (d : D) (n : N (N (N (N PO)))) : N (N (N PO)) := D.rec (motive := fun _ => N (N (N PO))) n.x0 n.x1 n.x2 n.x3 n.x4 n.x5 n.x6 n.x7 n.x8 n.x9 n.xa n.xb n.xc n.xd n.xe n.xf d
theorem getP3_eq (d : D) (n : N (N (N (N PO)))) : getP3 d n = n.get d := by cases d <;> rfl
end Go.Ev
