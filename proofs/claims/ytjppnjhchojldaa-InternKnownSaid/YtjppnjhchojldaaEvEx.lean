/- EVALUATOR: further operations, as they are prepared. -/
import Derived.Test.YtjppnjhchojldaaEvIter
namespace Go.Ev
inductive EX where
  | rngS
  | nxtS
  | mkm
  | look (s ok : Bool) (z : V)
  | upd (s : Bool)
  | del (s : Bool)
  | lenM
  | tas (t : Nat) (ok : Bool) (z : V)
  | idxb
  | cmps
  | eqp (o : BinOp)
  | rngM
  | nxtM
  | entM
  | cloneM
def EX.light : EX → Bool
  | .rngS | .nxtS | .mkm | .upd _ | .del _ | .rngM | .nxtM | .cloneM => false
  | _ => true
noncomputable def semEX (x : EX) : List V → Heap → (V → Heap → Res) → Res :=
  EX.rec (motive := fun _ => List V → Heap → (V → Heap → Res) → Res)
    (fun l h k => unc l fun v l => nilk' l (sRngS v h k))
    (fun l h k => unc l fun v l => nilk' l (sNxtS v h k))
    sMkM
    (fun s ok z l h k => unc l fun v l => unc l fun u l => nilk' l (sLook s ok z v u h k))
    (fun s l h k => unc l fun v l => unc l fun u l => unc l fun x l => nilk' l (sUpd s v u x h k))
    (fun s l h k => unc l fun v l => unc l fun u l => nilk' l (sDel s v u h k))
    (fun l h k => unc l fun v l => nilk' l (sLenM v h k))
    (fun t ok z l h k => unc l fun v l => nilk' l (sTas t ok z v h k))
    (fun l h k => unc l fun v l => unc l fun u l => nilk' l (sIdxB v u h k))
    (fun l h k => unc l fun v l => unc l fun u l => nilk' l (sCmpS v u h k))
    (fun o l h k => unc l fun v l => unc l fun u l => nilk' l (sEqP o v u h k))
    (fun l h k => unc l fun v l => nilk' l (sRngM v h k))
    (fun l h k => unc l fun v l => nilk' l (sNxtM v h k))
    (fun l h k => unc l fun v l => nilk' l (sEntM v h k))
    (fun l h k => unc l fun v l => nilk' l (sCloneM v h k))
    x
end Go.Ev
