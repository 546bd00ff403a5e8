/- EVALUATOR: operations that do not look into the memory: run over another memory they come to the same. -/
import Derived.Test.YtacpbnjbbkhngaaGreatDoorEvReg
namespace Go.Ev
variable {g : Res → Res}

section nat
theorem ifk_nat (g : Res → Res) (b : Bool) (x y : Res) : g (ifk b x y) = ifk b (g x) (g y) := by cases b <;> rfl
theorem zk_nat (g : Res → Res) (n : Nat) (x y : Res) : g (zk n x y) = zk n (g x) (g y) := by cases n <;> rfl
theorem bk_nat (g : Res → Res) (b : Bool) (k : V → Res) : g (bk b k) = bk b fun u => g (k u) := rfl
theorem wrapk_nat (g : Res → Res) (kd : IntKind) (n : Int) (k : Int → Res) : g (wrapk kd n k) = wrapk kd n fun m => g (k m) := rfl
theorem optk_nat (g : Res → Res) (c : Option Nat) (k : Nat → Res) (z : Res) : g (optk c k z) = optk c (fun n => g (k n)) (g z) := by cases c <;> rfl
theorem forceI_nat (n : Int) (k : Int → Res) : g (forceI n k) = forceI n fun a => g (k a) := by rw [forceI_eq, forceI_eq]
variable (hg : g .fail = .fail)
include hg
theorem intk_nat (x : V) (k : IntKind → Int → Res) : g (intk x k) = intk x fun a b => g (k a b) := by cases x <;> first | exact hg | rfl
theorem boolk_nat (x : V) (k : Bool → Res) : g (boolk x k) = boolk x fun a => g (k a) := by cases x <;> first | exact hg | rfl
theorem strk_nat (x : V) (k : Nat → Nat → Res) : g (strk x k) = strk x fun a b => g (k a b) := by cases x <;> first | exact hg | rfl
theorem ptrk_nat (x : V) (k : Bid → Nat → Res) : g (ptrk x k) = ptrk x fun a b => g (k a b) := by cases x <;> first | exact hg | rfl
theorem aggk_nat (x : V) (k : Nat → List V → Res) : g (aggk x k) = aggk x fun a b => g (k a b) := by cases x <;> first | exact hg | rfl
theorem tupk_nat (x : V) (k : List V → Res) : g (tupk x k) = tupk x fun a => g (k a) := by cases x <;> first | exact hg | rfl
theorem slk_nat (x : V) (k : Bid → Nat → Nat → Option Nat → Nat → Res) (y z : Res) : g (slk x k y z) = slk x (fun a b c d e => g (k a b c d e)) (g y) (g z) := by cases x <;> first | exact hg | rfl
theorem pnk_nat (x : V) (k : Bool → Res) : g (pnk x k) = pnk x fun a => g (k a) := by cases x <;> first | exact hg | rfl
theorem snk_nat (x : V) (k : Bool → Res) : g (snk x k) = snk x fun a => g (k a) := by cases x <;> first | exact hg | rfl
theorem mnk_nat (x : V) (k : Bool → Res) : g (mnk x k) = mnk x fun a => g (k a) := by cases x <;> first | exact hg | rfl
theorem fnk0_nat (x : V) (k : Bool → Res) : g (fnk0 x k) = fnk0 x fun a => g (k a) := by cases x <;> first | exact hg | rfl
theorem ink_nat (x : V) (k : Bool → Res) : g (ink x k) = ink x fun a => g (k a) := by cases x <;> first | exact hg | rfl
theorem onek_nat (x : V) (k : Res) : g (onek x k) = onek x (g k) := by cases x <;> first | exact hg | rfl
theorem natk_nat (i : Int) (k : Nat → Res) : g (natk i k) = natk i fun a => g (k a) := by cases i <;> first | exact hg | rfl
theorem nthk_nat (l : List V) (i : Nat) (k : V → Res) : g (nthk l i k) = nthk l i fun a => g (k a) := by
  induction l generalizing i with
  | nil => exact hg
  | cons v l ih =>
    cases i with
    | zero => rfl
    | succ j => exact ih j
theorem takek_nat (n : Nat) (l : List V) (k : List V → List V → Res) : g (takek n l k) = takek n l fun a b => g (k a b) := by
  induction n generalizing l k with
  | zero => rfl
  | succ n ih =>
    cases l with
    | nil => exact hg
    | cons v l => exact ih l fun a b => k (v :: a) b
omit hg in
theorem appk_nat (g : Res → Res) (l m : List V) (k : List V → Res) : g (appk l m k) = appk l m fun a => g (k a) := by rw [appk_eq, appk_eq]
theorem lenk_nat (x : V) (k : Nat → Res) : g (lenk x k) = lenk x fun a => g (k a) := by unfold lenk; rw [slk_nat hg]
theorem getk_nat (x : Loc) (L : List V) (env : Env) (k : V → Res) : g (getk x L env k) = getk x L env fun a => g (k a) := by
  cases x with
  | s i => exact nthk_nat hg L i k
  | e x =>
    obtain ⟨a, b⟩ := x
    show g (selR a env fun row => selV b row k) = selR a env fun row => selV b row fun u => g (k u)
    rw [selR_eq, selV_eq, selR_eq, selV_eq]
  | k v => rfl
theorem getsk_nat (xs : List Loc) (L : List V) (env : Env) (k : List V → Res) : g (getsk xs L env k) = getsk xs L env fun a => g (k a) := by
  induction xs generalizing k with
  | nil => rfl
  | cons x xs ih =>
    show g (getk x L env fun v => getsk xs L env fun l => k (v :: l)) = getk x L env fun v => getsk xs L env fun l => g (k (v :: l))
    rw [getk_nat hg]
    congr 1; funext v; exact ih _
theorem getpk_nat (ps : List (Nat × Nat × Loc)) (L : List V) (env : Env) (k : List (Nat × Nat × V) → Res) : g (getpk ps L env k) = getpk ps L env fun a => g (k a) := by
  induction ps generalizing k with
  | nil => rfl
  | cons p ps ih =>
    obtain ⟨a, b, x⟩ := p
    show g (getk x L env fun v => getpk ps L env fun l => k ((a, b, v) :: l)) = getk x L env fun v => getpk ps L env fun l => g (k ((a, b, v) :: l))
    rw [getk_nat hg]
    congr 1; funext v; exact ih _
theorem getok_nat (x : Option Loc) (L : List V) (env : Env) (k : Option V → Res) : g (getok x L env k) = getok x L env fun a => g (k a) := by
  cases x with
  | none => rfl
  | some x => exact getk_nat hg x L env fun v => k (some v)
theorem bndk_nat (x : Option V) (z : Nat) (k : Nat → Res) : g (bndk x z k) = bndk x z fun a => g (k a) := by
  cases x with
  | none => rfl
  | some v =>
    show g (intk v fun _ n => natk n k) = intk v fun _ n => natk n fun a => g (k a)
    rw [intk_nat hg]
    congr 1; funext _ n; exact natk_nat hg n k
theorem partsk_nat (x : V) (k : Nat → List V → Res) : g (partsk x k) = partsk x fun a b => g (k a b) := by cases x <;> first | exact hg | rfl
theorem fillk_nat (ps : List (Nat × Nat × V)) (cur : List V) (k : List V → Res) : g (fillk ps cur k) = fillk ps cur fun a => g (k a) := by
  induction ps generalizing cur with
  | nil => rfl
  | cons p ps ih =>
    obtain ⟨off, n, x⟩ := p
    show g (partsk x fun m l => ifk (Nat.beq m n) (takek off cur fun a rest => takek n rest fun _ b => appk l b fun c => appk a c fun cur' => fillk ps cur' k) .fail) =
      partsk x fun m l => ifk (Nat.beq m n) (takek off cur fun a rest => takek n rest fun _ b => appk l b fun c => appk a c fun cur' => fillk ps cur' fun a => g (k a)) .fail
    simp only [partsk_nat hg, ifk_nat g, takek_nat hg, appk_nat g, ih, hg]
theorem ksel_nat (kd k0 : IntKind) (x : Res) : g (ksel kd k0 x) = ksel kd k0 (g x) := by cases kd <;> cases k0 <;> first | rfl | exact hg
theorem cast1_nat (s : Sh1) (v : V) (k : V → Res) : g (cast1 s v k) = cast1 s v fun a => g (k a) := by
  cases s with
  | any => rfl
  | bool => exact boolk_nat hg v fun b => k (.bool b)
  | int kd =>
    show g (intk v fun k0 n => ksel kd k0 (k (.int kd n))) = intk v fun k0 n => ksel kd k0 (g (k (.int kd n)))
    simp only [intk_nat hg, ksel_nat hg]
  | intF kd =>
    show g (intk v fun k0 n => ksel kd k0 (forceI n fun n => k (.int kd n))) = intk v fun k0 n => ksel kd k0 (forceI n fun n => g (k (.int kd n)))
    simp only [intk_nat hg, ksel_nat hg, forceI_nat]
  | str => exact strk_nat hg v fun l n => k (.str l n)
theorem castsk_nat (l : List Sh1) (vs : List V) (k : List V → Res) : g (castsk l vs k) = castsk l vs fun a => g (k a) := by
  induction l generalizing vs k with
  | nil => cases vs with
    | nil => rfl
    | cons _ _ => exact hg
  | cons s l ih =>
    cases vs with
    | nil => exact hg
    | cons v m =>
      show g (cast1 s v fun v => castsk l m fun m => k (v :: m)) = cast1 s v fun v => castsk l m fun m => g (k (v :: m))
      rw [cast1_nat hg]
      congr 1; funext v; exact ih m _
theorem castk_nat (s : Sh) (v : V) (k : V → Res) : g (castk s v k) = castk s v fun a => g (k a) := by
  cases s with
  | one s => exact cast1_nat hg s v k
  | tup l =>
    show g (tupk v fun vs => castsk l vs fun vs => k (.tup vs)) = tupk v fun vs => castsk l vs fun vs => g (k (.tup vs))
    simp only [tupk_nat hg, castsk_nat hg]
  | agg n l =>
    show g (aggk v fun m vs => ifk (Nat.beq m n) (castsk l vs fun vs => k (.agg n vs)) .fail) = aggk v fun m vs => ifk (Nat.beq m n) (castsk l vs fun vs => g (k (.agg n vs))) .fail
    simp only [aggk_nat hg, ifk_nat g, castsk_nat hg, hg]
theorem notIf_nat (o : BinOp) (b : Bool) (k : V → Res) : g (notIf o b k) = notIf o b fun a => g (k a) := by cases o <;> first | exact hg | rfl
theorem arith_nat (f : Int → Int → Int) (x y : V) (k : V → Res) : g (arith f x y k) = arith f x y fun a => g (k a) := by simp only [arith, intk_nat hg, ifk_nat g, hg, wrapk_nat g]
theorem cmpi_nat (f : Int → Int → Bool) (x y : V) (k : V → Res) : g (cmpi f x y k) = cmpi f x y fun a => g (k a) := by simp only [cmpi, intk_nat hg, ifk_nat g, hg, bk_nat g]
theorem bits2_nat (f : IntKind → Int → Int → Int) (x y : V) (k : V → Res) : g (bits2 f x y k) = bits2 f x y fun a => g (k a) := by simp only [bits2, intk_nat hg, ifk_nat g, hg]
theorem divk_nat (f : Int → Int → Int) (x y : V) (k : V → Res) : g (divk f x y k) = divk f x y fun a => g (k a) := by simp only [divk, intk_nat hg, ifk_nat g, hg]
theorem quok_nat (x y : V) (k : V → Res) : g (quok x y k) = quok x y fun a => g (k a) := by simp only [quok, intk_nat hg, ifk_nat g, hg, wrapk_nat g]
theorem shlk_nat (x y : V) (k : V → Res) : g (shlk x y k) = shlk x y fun a => g (k a) := by simp only [shlk, intk_nat hg, natk_nat hg, wrapk_nat g]
theorem shrk_nat (x y : V) (k : V → Res) : g (shrk x y k) = shrk x y fun a => g (k a) := by simp only [shrk, intk_nat hg, natk_nat hg]
theorem cats_nat (x y : V) (k : V → Res) : g (cats x y k) = cats x y fun a => g (k a) := by simp only [cats, strk_nat hg, short, ifk_nat g, hg]
theorem cmps_nat (f : Nat → Nat → Nat → Nat → Bool) (x y : V) (k : V → Res) : g (cmps f x y k) = cmps f x y fun a => g (k a) := by simp only [cmps, strk_nat hg, bk_nat g]
theorem binI_nat (o : BinOp) (x y : V) (k : V → Res) : g (binI o x y k) = binI o x y fun a => g (k a) := by
  cases o <;> first | exact hg | exact arith_nat hg _ x y k | exact quok_nat hg x y k | exact divk_nat hg _ x y k | exact bits2_nat hg _ x y k | exact shlk_nat hg x y k | exact shrk_nat hg x y k | exact cmpi_nat hg _ x y k
theorem binS_nat (o : BinOp) (x y : V) (k : V → Res) : g (binS o x y k) = binS o x y fun a => g (k a) := by
  cases o <;> first | exact hg | exact cats_nat hg x y k | exact cmps_nat hg _ x y k
end nat

/-- it does not look into the memory -/
def OX.pure : OX → Bool
  | .mv _ | .pick _ _ _ | .build _ _ _ | .nil _ | .binI _ _ _ | .binS _ _ _ | .binB _ _ _ | .binP _ _ _ | .binL _ _ _ | .binM _ _ _ | .binF _ _ _ | .binE _ _ _ | .neg _ | .not _ | .com _ | .convI _ _ | .convS _
  | .mkif _ _ | .mkfn _ _ | .sliS _ _ _ | .sliA _ _ _ _ _ | .faddr _ _ | .fld1 _ _ | .fldN _ _ _ | .iaddr _ _ _ | .iaddrA _ _ _ _ | .idxS _ _ | .idxA _ _ _ _ | .extract _ _ | .len _ | .lenS _ | .mm _ _ _ => true
  | _ => false
theorem OX.pure_heap {x : OX} (hx : x.pure = true) (L : List V) (env : Env) (h h' : Heap) (k : V → Heap → Res) : semOX x L env h k = semOX x L env h' fun u _ => k u h := by
  cases x <;> first | (cases hx; done) | rfl
theorem OX.pure_nat {x : OX} (hx : x.pure = true) {g : Res → Res} (hg : g .fail = .fail) (L : List V) (env : Env) (h : Heap) (k : V → Res) : g (semOX x L env h fun u _ => k u) = semOX x L env h fun u _ => g (k u) := by
  cases x <;> first | (cases hx; done) | skip
  case mv x => exact getk_nat hg x L env k
  case pick c a b => show g (getk c L env fun v => boolk v fun t => getk a L env fun u => getk b L env fun u' => k (pickv t u u')) = getk c L env fun v => boolk v fun t => getk a L env fun u => getk b L env fun u' => g (k (pickv t u u')); simp only [getk_nat hg, boolk_nat hg]
  case build n t ps => show g (getpk ps L env fun l => fillk l t fun l => k (.agg n l)) = getpk ps L env fun l => fillk l t fun l => g (k (.agg n l)); simp only [getpk_nat hg, fillk_nat hg]
  case nil x => show g (getk x L env fun v => ptrk v fun b o => k (.ptr b o)) = getk x L env fun v => ptrk v fun b o => g (k (.ptr b o)); simp only [getk_nat hg, ptrk_nat hg]
  case binI o x y => show g (getk x L env fun v => getk y L env fun u => Go.Ev.binI o v u fun z => k z) = getk x L env fun v => getk y L env fun u => Go.Ev.binI o v u fun z => g (k z); simp only [getk_nat hg, binI_nat hg]
  case binS o x y => show g (getk x L env fun v => getk y L env fun u => Go.Ev.binS o v u fun z => k z) = getk x L env fun v => getk y L env fun u => Go.Ev.binS o v u fun z => g (k z); simp only [getk_nat hg, binS_nat hg]
  case binB o x y => show g (getk x L env fun v => getk y L env fun u => boolk v fun a => boolk u fun b => notIf o (beqk a b) fun z => k z) = getk x L env fun v => getk y L env fun u => boolk v fun a => boolk u fun b => notIf o (beqk a b) fun z => g (k z); simp only [getk_nat hg, boolk_nat hg, notIf_nat hg]
  case binP o x y => show g (getk x L env fun v => getk y L env fun u => pnk v fun a => pnk u fun b => ifk a (notIf o b fun z => k z) (ifk b (notIf o false fun z => k z) .fail)) = getk x L env fun v => getk y L env fun u => pnk v fun a => pnk u fun b => ifk a (notIf o b fun z => g (k z)) (ifk b (notIf o false fun z => g (k z)) .fail); simp only [getk_nat hg, pnk_nat hg, ifk_nat g, notIf_nat hg, hg]
  case binL o x y => show g (getk x L env fun v => getk y L env fun u => snk v fun a => snk u fun b => ifk a (notIf o b fun z => k z) (ifk b (notIf o false fun z => k z) .fail)) = getk x L env fun v => getk y L env fun u => snk v fun a => snk u fun b => ifk a (notIf o b fun z => g (k z)) (ifk b (notIf o false fun z => g (k z)) .fail); simp only [getk_nat hg, snk_nat hg, ifk_nat g, notIf_nat hg, hg]
  case binM o x y => show g (getk x L env fun v => getk y L env fun u => mnk v fun a => mnk u fun b => ifk a (notIf o b fun z => k z) (ifk b (notIf o false fun z => k z) .fail)) = getk x L env fun v => getk y L env fun u => mnk v fun a => mnk u fun b => ifk a (notIf o b fun z => g (k z)) (ifk b (notIf o false fun z => g (k z)) .fail); simp only [getk_nat hg, mnk_nat hg, ifk_nat g, notIf_nat hg, hg]
  case binF o x y => show g (getk x L env fun v => getk y L env fun u => fnk0 v fun a => fnk0 u fun b => ifk a (notIf o b fun z => k z) (ifk b (notIf o false fun z => k z) .fail)) = getk x L env fun v => getk y L env fun u => fnk0 v fun a => fnk0 u fun b => ifk a (notIf o b fun z => g (k z)) (ifk b (notIf o false fun z => g (k z)) .fail); simp only [getk_nat hg, fnk0_nat hg, ifk_nat g, notIf_nat hg, hg]
  case binE o x y => show g (getk x L env fun v => getk y L env fun u => ink v fun a => ink u fun b => ifk a (notIf o b fun z => k z) (ifk b (notIf o false fun z => k z) .fail)) = getk x L env fun v => getk y L env fun u => ink v fun a => ink u fun b => ifk a (notIf o b fun z => g (k z)) (ifk b (notIf o false fun z => g (k z)) .fail); simp only [getk_nat hg, ink_nat hg, ifk_nat g, notIf_nat hg, hg]
  case neg x => show g (getk x L env fun v => intk v fun kd n => wrapk kd (Int.sub 0 n) fun m => k (.int kd m)) = getk x L env fun v => intk v fun kd n => wrapk kd (Int.sub 0 n) fun m => g (k (.int kd m)); simp only [getk_nat hg, intk_nat hg, wrapk_nat g]
  case not x => show g (getk x L env fun v => boolk v fun b => bk (Bool.not b) fun u => k u) = getk x L env fun v => boolk v fun b => bk (Bool.not b) fun u => g (k u); simp only [getk_nat hg, boolk_nat hg, bk_nat g]
  case com x => show g (getk x L env fun v => intk v fun kd n => k (.int kd (comv kd n))) = getk x L env fun v => intk v fun kd n => g (k (.int kd (comv kd n))); simp only [getk_nat hg, intk_nat hg]
  case convI kd x => show g (getk x L env fun v => intk v fun _ n => wrapk kd n fun m => k (.int kd m)) = getk x L env fun v => intk v fun _ n => wrapk kd n fun m => g (k (.int kd m)); simp only [getk_nat hg, intk_nat hg, wrapk_nat g]
  case convS x => show g (getk x L env fun v => strk v fun l n => k (.str l n)) = getk x L env fun v => strk v fun l n => g (k (.str l n)); simp only [getk_nat hg, strk_nat hg]
  case mkif t x => show g (getk x L env fun v => k (.iface t v)) = getk x L env fun v => g (k (.iface t v)); simp only [getk_nat hg]
  case mkfn f c => show g (getsk c L env fun l => k (.func f l)) = getsk c L env fun l => g (k (.func f l)); simp only [getsk_nat hg]
  case sliS x a b => show g (getk x L env fun v => getok a L env fun p => getok b L env fun q => sSliceS v p q h fun u _ => k u) = getk x L env fun v => getok a L env fun p => getok b L env fun q => sSliceS v p q h fun u _ => g (k u); simp only [getk_nat hg, getok_nat hg, sSliceS, strk_nat hg, bndk_nat hg, ifk_nat g, hg]
  case sliA n s x a b => show g (getk x L env fun v => getok a L env fun p => getok b L env fun q => sSliceA n s v p q h fun u _ => k u) = getk x L env fun v => getok a L env fun p => getok b L env fun q => sSliceA n s v p q h fun u _ => g (k u); simp only [getk_nat hg, getok_nat hg, sSliceA, ptrk_nat hg, bndk_nat hg, ifk_nat g, hg]
  case faddr off x => show g (getk x L env fun v => ptrk v fun b o => k (.ptr b (addc o off))) = getk x L env fun v => ptrk v fun b o => g (k (.ptr b (addc o off))); simp only [getk_nat hg, ptrk_nat hg]
  case fld1 off x => show g (getk x L env fun v => aggk v fun _ l => nthk l off fun u => k u) = getk x L env fun v => aggk v fun _ l => nthk l off fun u => g (k u); simp only [getk_nat hg, aggk_nat hg, nthk_nat hg]
  case fldN off n x => show g (getk x L env fun v => aggk v fun _ l => takek off l fun _ rest => takek n rest fun p _ => k (.agg n p)) = getk x L env fun v => aggk v fun _ l => takek off l fun _ rest => takek n rest fun p _ => g (k (.agg n p)); simp only [getk_nat hg, aggk_nat hg, takek_nat hg]
  case iaddr s x i => show g (getk x L env fun v => getk i L env fun u => sIaddr s v u h fun u _ => k u) = getk x L env fun v => getk i L env fun u => sIaddr s v u h fun u _ => g (k u); simp only [getk_nat hg, sIaddr, slk_nat hg, intk_nat hg, natk_nat hg, ifk_nat g, hg]
  case iaddrA n s x i => show g (getk x L env fun v => getk i L env fun u => sIaddrA n s v u h fun u _ => k u) = getk x L env fun v => getk i L env fun u => sIaddrA n s v u h fun u _ => g (k u); simp only [getk_nat hg, sIaddrA, ptrk_nat hg, intk_nat hg, natk_nat hg, ifk_nat g, hg]
  case idxS x i => show g (getk x L env fun v => getk i L env fun u => sIdxS v u h fun u _ => k u) = getk x L env fun v => getk i L env fun u => sIdxS v u h fun u _ => g (k u); simp only [getk_nat hg, sIdxS, strk_nat hg, intk_nat hg, natk_nat hg, ifk_nat g, hg]
  case idxA n s x i => show g (getk x L env fun v => getk i L env fun u => sIdxA n s v u h fun u _ => k u) = getk x L env fun v => getk i L env fun u => sIdxA n s v u h fun u _ => g (k u); simp only [getk_nat hg, sIdxA, aggk_nat hg, intk_nat hg, natk_nat hg, nthk_nat hg, ifk_nat g, hg]
  case extract i x => show g (getk x L env fun v => tupk v fun l => nthk l i fun u => k u) = getk x L env fun v => tupk v fun l => nthk l i fun u => g (k u); simp only [getk_nat hg, tupk_nat hg, nthk_nat hg]
  case len x => show g (getk x L env fun v => lenk v fun l => k (.int .i64 (.ofNat l))) = getk x L env fun v => lenk v fun l => g (k (.int .i64 (.ofNat l))); simp only [getk_nat hg, lenk_nat hg]
  case lenS x => show g (getk x L env fun v => strk v fun l _ => k (.int .i64 (.ofNat l))) = getk x L env fun v => strk v fun l _ => g (k (.int .i64 (.ofNat l))); simp only [getk_nat hg, strk_nat hg]
  case mm b x y => show g (getk x L env fun v => getk y L env fun u => sMM b v u h fun u _ => k u) = getk x L env fun v => getk y L env fun u => sMM b v u h fun u _ => g (k u); simp only [getk_nat hg, sMM, intk_nat hg, ifk_nat g, hg]

def VI.pure : VI → Bool
  | .op x => x.pure
  | .cast _ (.op x) => x.pure
  | _ => false
/-- a value is handed on with another memory -/
noncomputable def reheap (h : Heap) (r : Res) : Res := Res.rec (motive := fun _ => Res) .fail (fun _ _ _ => .fail) (fun v _ => .ret v h) (fun _ _ => .fail) r
theorem pure_again {cf : CF} {v : VI} (hv : v.pure = true) {L : List V} {env : Env} {h h₁ : Heap} {u : V} (hh : runVI cf v L env h .ret .pan = .ret u h₁) (h' : Heap) : runVI cf v L env h' .ret .pan = .ret u h' := by
  have key : ∀ (x : OX) (c : V → (V → Res) → Res), x.pure = true → (∀ (g : Res → Res), g .fail = .fail → ∀ v k, g (c v k) = c v fun a => g (k a)) →
      semOX x L env h (fun u h' => c u fun u => .ret u h') = .ret u h₁ → semOX x L env h' (fun u h' => c u fun u => .ret u h') = .ret u h' := by
    intro x c hx hc e
    rw [OX.pure_heap hx L env h h] at e
    rw [OX.pure_heap hx L env h' h]
    have e2 := congrArg (reheap h') e
    rw [OX.pure_nat hx (g := reheap h') rfl] at e2
    simp only [hc (reheap h') rfl] at e2
    exact e2
  cases v with
  | op x => exact key x (fun v k => k v) hv (fun _ _ _ _ => rfl) hh
  | cast s i =>
    cases i with
    | op x => exact key x (castk s) hv (fun g hg v k => castk_nat hg s v k) hh
    | _ => cases hv
  | _ => cases hv
end Go.Ev
