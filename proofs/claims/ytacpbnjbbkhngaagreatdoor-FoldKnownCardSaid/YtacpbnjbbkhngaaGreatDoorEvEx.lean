/- EVALUATOR: further operations, as they are prepared. -/
import Derived.Test.YtacpbnjbbkhngaaGreatDoorEvBld
namespace Go.Ev
inductive EX where
  | rngS
  | nxtS
  | mkm
  | look (s ok : Bool) (z : V)
  | upd (s : Bool)
  | del (s : Bool)
  | lenM
  | tas (t : Nat) (ok : Bool) (z : V)
  | idxb
  | cmps
  | eqp (o : BinOp)
  | rngM
  | nxtM
  | entM
  | cloneM
  | capS
  | idxAN (n sz : Nat)
  | allocT (el g : Nat) (l : List V)
  | appB (s : Bool) (el : Nat)
  | usd
  | ustr (el : Nat)
  | toU
  | fromU (els : List Nat)
  | same
  | s2b
def EX.light : EX → Bool
  | .rngS | .nxtS | .mkm | .upd _ | .del _ | .rngM | .nxtM | .cloneM | .allocT _ _ _ | .appB _ _ | .ustr _ | .s2b => false
  | _ => true
noncomputable def semEX (x : EX) : List V → Heap → (V → Heap → Res) → Res :=
  EX.rec (motive := fun _ => List V → Heap → (V → Heap → Res) → Res)
    (fun l h k => unc l fun v l => nilk' l (sRngS v h k))
    (fun l h k => unc l fun v l => nilk' l (sNxtS v h k))
    sMkM
    (fun s ok z l h k => unc l fun v l => unc l fun u l => nilk' l (sLook s ok z v u h k))
    (fun s l h k => unc l fun v l => unc l fun u l => unc l fun x l => nilk' l (sUpd s v u x h k))
    (fun s l h k => unc l fun v l => unc l fun u l => nilk' l (sDel s v u h k))
    (fun l h k => unc l fun v l => nilk' l (sLenM v h k))
    (fun t ok z l h k => unc l fun v l => nilk' l (sTas t ok z v h k))
    (fun l h k => unc l fun v l => unc l fun u l => nilk' l (sIdxB v u h k))
    (fun l h k => unc l fun v l => unc l fun u l => nilk' l (sCmpS v u h k))
    (fun o l h k => unc l fun v l => unc l fun u l => nilk' l (sEqP o v u h k))
    (fun l h k => unc l fun v l => nilk' l (sRngM v h k))
    (fun l h k => unc l fun v l => nilk' l (sNxtM v h k))
    (fun l h k => unc l fun v l => nilk' l (sEntM v h k))
    (fun l h k => unc l fun v l => nilk' l (sCloneM v h k))
    (fun l h k => unc l fun v l => nilk' l (sCapS v h k))
    (fun n s l h k => unc l fun v l => unc l fun u l => nilk' l (sIdxAN n s v u h k))
    (fun el g t l h k => nilk' l (sAllocT el g t h k))
    (fun s el l h k => unc l fun v l => unc l fun u l => nilk' l (sAppB s el v u h k))
    (fun l h k => unc l fun v l => nilk' l (sUsd v h k))
    (fun el l h k => unc l fun v l => unc l fun u l => nilk' l (sUstr el v u h k))
    (fun l h k => unc l fun v l => nilk' l (sToU v h k))
    (fun els l h k => unc l fun v l => nilk' l (sFromU els v h k))
    (fun l h k => unc l fun v l => nilk' l (sSame v h k))
    (fun l h k => unc l fun v l => nilk' l (sS2B v h k))
    x
end Go.Ev
