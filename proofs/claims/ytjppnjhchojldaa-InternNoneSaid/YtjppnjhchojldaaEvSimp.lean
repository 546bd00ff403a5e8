/- EVALUATOR: the words on values that are known: rules for simp. -/
import Derived.Test.YtjppnjhchojldaaEvLaw
import Derived.Test.YtjppnjhchojldaaEvTop
namespace Go.Ev

/- values -/
@[simp] theorem intk_int (k : IntKind) (n : Int) (f : IntKind → Int → Res) : intk (.int k n) f = f k n := rfl
@[simp] theorem boolk_bool (b : Bool) (f : Bool → Res) : boolk (.bool b) f = f b := rfl
@[simp] theorem strk_str (l n : Nat) (f : Nat → Nat → Res) : strk (.str l n) f = f l n := rfl
@[simp] theorem ptrk_ptr (b : Bid) (o : Nat) (f : Bid → Nat → Res) : ptrk (.ptr b o) f = f b o := rfl
@[simp] theorem slk_slice (b : Bid) (o l : Nat) (c : Option Nat) (s : Nat) (f : Bid → Nat → Nat → Option Nat → Nat → Res) (z m : Res) : slk (.slice b o l c s) f z m = f b o l c s := rfl
@[simp] theorem slk_nils (f : Bid → Nat → Nat → Option Nat → Nat → Res) (z m : Res) : slk .nils f z m = z := rfl
@[simp] theorem slk_emp (f : Bid → Nat → Nat → Option Nat → Nat → Res) (z m : Res) : slk .emp f z m = m := rfl
@[simp] theorem aggk_agg (n : Nat) (l : List V) (f : Nat → List V → Res) : aggk (.agg n l) f = f n l := rfl
@[simp] theorem tupk_tup (l : List V) (f : List V → Res) : tupk (.tup l) f = f l := rfl
@[simp] theorem fnk_func (n : Nat) (l : List V) (f : Nat → List V → Res) : fnk (.func n l) f = f n l := rfl
@[simp] theorem lenk_slice (b : Bid) (o l : Nat) (c : Option Nat) (s : Nat) (f : Nat → Res) : lenk (.slice b o l c s) f = f l := rfl
@[simp] theorem lenk_nils (f : Nat → Res) : lenk .nils f = f 0 := rfl
@[simp] theorem lenk_emp (f : Nat → Res) : lenk .emp f = f 0 := rfl
@[simp] theorem castB_bool (b : Bool) (f : Bool → Res) : castB (.bool b) f = f b := rfl
@[simp] theorem castI_int (k : IntKind) (n : Int) (f : Int → Res) : castI k (.int k n) f = f n := by
  show ifk (Nat.beq (kno k) (kno k)) (f n) .fail = f n
  rw [Nat.beq_refl]; rfl
@[simp] theorem castF_int (k : IntKind) (n : Int) (f : Int → Res) : castF k (.int k n) f = f n := by
  show ifk (Nat.beq (kno k) (kno k)) (forceI n f) .fail = f n
  rw [Nat.beq_refl, forceI_eq]; rfl
@[simp] theorem castS_str (l n : Nat) (f : Nat → Nat → Res) : castS (.str l n) f = f l n := rfl
@[simp] theorem unc_cons (v : V) (l : List V) (f : V → List V → Res) : unc (v :: l) f = f v l := rfl
@[simp] theorem nilk'_nil (r : Res) : nilk' [] r = r := rfl
@[simp] theorem natk_ofNat (n : Nat) (f : Nat → Res) : natk (.ofNat n) f = f n := rfl
@[simp] theorem natk_cast (n : Nat) (f : Nat → Res) : natk (n : Int) f = f n := rfl
@[simp] theorem forceI_law (n : Int) (f : Int → Res) : forceI n f = f n := forceI_eq n f
@[simp] theorem ifk_true (x y : Res) : ifk true x y = x := rfl
@[simp] theorem ifk_false (x y : Res) : ifk false x y = y := rfl
@[simp] theorem backk_ret (v : V) (h : Heap) (k kp : V → Heap → Res) : backk (.ret v h) k kp = k v h := rfl
@[simp] theorem backk_pan (v : V) (h : Heap) (k kp : V → Heap → Res) : backk (.pan v h) k kp = kp v h := rfl
@[simp] theorem contk_done (x : Ex) (vs : List V) (h : Heap) (k : Ex → List V → Heap → Res) : contk (.done x vs h) k = k x vs h := rfl
@[simp] theorem nork_normal (a b : Res) : nork .normal a b = a := rfl
@[simp] theorem nork_ret (a b : Res) : nork .ret a b = b := rfl
@[simp] theorem nork_exit (i : Nat) (a b : Res) : nork (.exit i) a b = b := rfl
@[simp] theorem endk_normal (a : Res) (p : V → Res) : endk .normal a p = a := rfl
@[simp] theorem endk_ret (a : Res) (p : V → Res) : endk .ret a p = a := rfl
@[simp] theorem grdk_bool (b : Bool) (k : Bool → Res) (z : Res) : grdk (.bool b) k z = k b := rfl
@[simp] theorem grdk_skip (k : Bool → Res) (z : Res) : grdk .skip k z = z := rfl
@[simp] theorem pickv_true (a b : V) : pickv true a b = a := rfl
@[simp] theorem pickv_false (a b : V) : pickv false a b = b := rfl
@[simp] theorem wantb_true (t : Bool) : wantb true t = t := rfl
@[simp] theorem wantb_false (t : Bool) : wantb false t = !t := rfl
@[simp] theorem optk_some (n : Nat) (k : Nat → Res) (z : Res) : optk (some n) k z = k n := rfl
@[simp] theorem optk_none (k : Nat → Res) (z : Res) : optk none k z = z := rfl
@[simp] theorem zk_zero (x y : Res) : zk 0 x y = x := rfl
@[simp] theorem bndk_none (z : Nat) (k : Nat → Res) : bndk none z k = k z := rfl
@[simp] theorem bndk_int (kd : IntKind) (n z : Nat) (k : Nat → Res) : bndk (some (.int kd (.ofNat n))) z k = k n := rfl
@[simp] theorem bndk_cast (kd : IntKind) (n z : Nat) (k : Nat → Res) : bndk (some (.int kd (n : Int))) z k = k n := rfl
@[simp] theorem appk_law (l m : List V) (k : List V → Res) : appk l m k = k (l ++ m) := appk_eq l m k
theorem lpk_succ (body : (List V → Heap → Res) → List V → Heap → Res) (n : Nat) (vs : List V) (h : Heap) : lpk body (n + 1) vs h = body (lpk body n) vs h := rfl
theorem lpk_inv {body : (List V → Heap → Res) → List V → Heap → Res} {I : List V → Heap → Nat → Prop} {Q : Res → Prop}
    (step : ∀ again vs h m, I vs h m → (∀ vs' h' m', m' < m → I vs' h' m' → Q (again vs' h')) → Q (body again vs h)) : ∀ (n : Nat) (vs : List V) (h : Heap) (m : Nat), m < n → I vs h m → Q (lpk body n vs h)
  | 0, _, _, _, hm, _ => by omega
  | n + 1, vs, h, m, hm, hi => by
    rw [lpk_succ]
    exact step _ vs h m hi fun vs' h' m' h1 h2 => lpk_inv step n vs' h' m' (by omega) h2
theorem veqk_refl (v : V) (hv : ∀ r, veqk v v r = r) (r : Res) : veqk v v r = r := hv r

/- numbers -/
theorem ilt_nat (a b : Nat) : ilt (.ofNat a) (.ofNat b) = decide (a < b) := by rw [ilt_eq]; simp
theorem ieq_nat (a b : Nat) : ieq (.ofNat a) (.ofNat b) = decide (a = b) := by rw [ieq_eq, Bool.eq_iff_iff]; simp; omega
theorem wrapv_small (k : IntKind) (m : Nat) (h : m ≤ kmax k) : wrapv k (.ofNat m) = .ofNat m := by
  rw [wrapv_eq]; exact wrap_small k _ (by simp only [Int.ofNat_eq_natCast]; omega) (by simp only [Int.ofNat_eq_natCast]; omega)
theorem bitv_small {f : Nat → Nat → Nat} {g : (n : Nat) → BitVec n → BitVec n → BitVec n} (k : IntKind) (a b : Nat) (ha : a ≤ kmax k) (hb : b ≤ kmax k) : bitv f g k (.ofNat a) (.ofNat b) = .ofNat (f a b) := by
  show Bool.rec (motive := fun _ => Int) _ (Bool.rec (motive := fun _ => Int) _ (.ofNat (f a b)) (Nat.ble b (kmax k))) (Nat.ble a (kmax k)) = _
  rw [Nat.ble_eq_true_of_le ha, Nat.ble_eq_true_of_le hb]
theorem band_small (k : IntKind) (a b : Nat) (ha : a ≤ kmax k) (hb : b ≤ kmax k) : band k (.ofNat a) (.ofNat b) = .ofNat (a &&& b) := bitv_small k a b ha hb
theorem bor_small (k : IntKind) (a b : Nat) (ha : a ≤ kmax k) (hb : b ≤ kmax k) : bor k (.ofNat a) (.ofNat b) = .ofNat (a ||| b) := bitv_small k a b ha hb
theorem bxor_small (k : IntKind) (a b : Nat) (ha : a ≤ kmax k) (hb : b ≤ kmax k) : bxor k (.ofNat a) (.ofNat b) = .ofNat (a ^^^ b) := bitv_small k a b ha hb
theorem shrv_nat (a d : Nat) : shrv (.ofNat a) d = .ofNat (a / d) := rfl
theorem comv_u32 (a : Nat) (ha : a ≤ 4294967295) : comv .u32 (.ofNat a) = .ofNat (4294967295 - a) := by
  show Bool.rec (motive := fun _ => Int) _ (Int.ofNat (4294967295 - a)) (Nat.ble a 4294967295) = _
  rw [Nat.ble_eq_true_of_le ha]
theorem add_nat (a b : Nat) : Int.add (.ofNat a) (.ofNat b) = .ofNat (a + b) := rfl
theorem mul_nat (a b : Nat) : Int.mul (.ofNat a) (.ofNat b) = .ofNat (a * b) := rfl
end Go.Ev
