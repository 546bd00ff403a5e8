/- EVALUATOR: values of a known shape. -/
import Derived.Test.YtjppnjhchojldaaEvStr
namespace Go.Ev

inductive Sh1 where
  | any
  | bool
  | int (k : IntKind)
  | intF (k : IntKind)
  | str
inductive Sh where
  | one (s : Sh1)
  | tup (l : List Sh1)
  | agg (n : Nat) (l : List Sh1)

/-- a number, reckoned out -/
noncomputable def forceN (n : Nat) (k : Nat → Res) : Res := Nat.rec (motive := fun _ => Res) (k 0) (fun m _ => k (Nat.succ m)) n
theorem forceN_eq (n : Nat) (k : Nat → Res) : forceN n k = k n := by cases n <;> rfl
noncomputable def forceI (n : Int) (k : Int → Res) : Res := Int.rec (motive := fun _ => Res) (fun m => forceN m fun m => k (.ofNat m)) (fun m => forceN m fun m => k (.negSucc m)) n
theorem forceI_eq (n : Int) (k : Int → Res) : forceI n k = k n := by
  cases n with
  | ofNat m => exact forceN_eq m fun m => k (.ofNat m)
  | negSucc m => exact forceN_eq m fun m => k (.negSucc m)

noncomputable def castB (v : V) (k : Bool → Res) : Res := boolk v k
noncomputable def castI (kd : IntKind) (v : V) (k : Int → Res) : Res := intk v fun k0 n => ifk (Nat.beq (kno k0) (kno kd)) (k n) .fail
noncomputable def castF (kd : IntKind) (v : V) (k : Int → Res) : Res := intk v fun k0 n => ifk (Nat.beq (kno k0) (kno kd)) (forceI n k) .fail
noncomputable def castS (v : V) (k : Nat → Nat → Res) : Res := strk v k
noncomputable def cast1 (s : Sh1) (v : V) (k : V → Res) : Res :=
  Sh1.rec (motive := fun _ => Res) (k v) (castB v fun b => k (.bool b)) (fun kd => castI kd v fun n => k (.int kd n)) (fun kd => castF kd v fun n => k (.int kd n)) (castS v fun l n => k (.str l n)) s
theorem cast1_ok {s : Sh1} {v : V} {k : V → Res} {r : Res} (h : cast1 s v k = r) (hr : r ≠ .fail) : k v = r := by
  cases s with
  | any => exact h
  | bool =>
    obtain ⟨b, rfl, h1⟩ := boolk_ok (show boolk v (fun b => k (.bool b)) = r from h) hr
    exact h1
  | int kd =>
    obtain ⟨k0, n, rfl, h1⟩ := intk_ok (show intk v (fun k0 n => ifk (Nat.beq (kno k0) (kno kd)) (k (.int kd n)) .fail) = r from h) hr
    obtain ⟨h2, h3⟩ := ifk_fail h1 hr
    obtain rfl := kno_inj h2
    exact h3
  | intF kd =>
    obtain ⟨k0, n, rfl, h1⟩ := intk_ok (show intk v (fun k0 n => ifk (Nat.beq (kno k0) (kno kd)) (forceI n fun n => k (.int kd n)) .fail) = r from h) hr
    obtain ⟨h2, h3⟩ := ifk_fail h1 hr
    obtain rfl := kno_inj h2
    rw [forceI_eq] at h3
    exact h3
  | str =>
    obtain ⟨l, n, rfl, h1⟩ := strk_ok (show strk v (fun l n => k (.str l n)) = r from h) hr
    exact h1

/-- the first of a list; the end of a list -/
noncomputable def unc (l : List V) (k : V → List V → Res) : Res := List.rec (motive := fun _ => Res) .fail (fun v l _ => k v l) l
noncomputable def nilk' (l : List V) (k : Res) : Res := List.rec (motive := fun _ => Res) k (fun _ _ _ => .fail) l
theorem unc_ok {l : List V} {k : V → List V → Res} {r : Res} (h : unc l k = r) (hr : r ≠ .fail) : ∃ v m, l = v :: m ∧ k v m = r := by
  cases l with
  | nil => exact absurd h.symm hr
  | cons v m => exact ⟨v, m, rfl, h⟩
theorem nilk'_ok {l : List V} {k r : Res} (h : nilk' l k = r) (hr : r ≠ .fail) : l = [] ∧ k = r := by
  cases l with
  | nil => exact ⟨rfl, h⟩
  | cons v m => exact absurd h.symm hr
noncomputable def castsk (l : List Sh1) (vs : List V) (k : List V → Res) : Res :=
  List.rec (motive := fun _ => List V → (List V → Res) → Res) (fun vs k => nilk' vs (k [])) (fun s _ ih vs k => unc vs fun v m => cast1 s v fun v => ih m fun m => k (v :: m)) l vs k
theorem castsk_ok {l : List Sh1} {vs : List V} {k : List V → Res} {r : Res} (h : castsk l vs k = r) (hr : r ≠ .fail) : k vs = r := by
  induction l generalizing vs k with
  | nil =>
    obtain ⟨rfl, h1⟩ := nilk'_ok (show nilk' vs (k []) = r from h) hr
    exact h1
  | cons s l ih =>
    obtain ⟨v, m, rfl, h1⟩ := unc_ok (show unc vs (fun v m => cast1 s v fun v => castsk l m fun m => k (v :: m)) = r from h) hr
    exact ih (k := fun m => k (v :: m)) (cast1_ok h1 hr)
noncomputable def castk (s : Sh) (v : V) (k : V → Res) : Res :=
  Sh.rec (motive := fun _ => Res) (fun s => cast1 s v k) (fun l => tupk v fun vs => castsk l vs fun vs => k (.tup vs)) (fun n l => aggk v fun m vs => ifk (Nat.beq m n) (castsk l vs fun vs => k (.agg n vs)) .fail) s
theorem castk_ok {s : Sh} {v : V} {k : V → Res} {r : Res} (h : castk s v k = r) (hr : r ≠ .fail) : k v = r := by
  cases s with
  | one s => exact cast1_ok h hr
  | tup l =>
    obtain ⟨vs, rfl, h1⟩ := tupk_ok (show tupk v (fun vs => castsk l vs fun vs => k (.tup vs)) = r from h) hr
    exact castsk_ok (k := fun vs => k (.tup vs)) h1 hr
  | agg n l =>
    obtain ⟨m, vs, rfl, h1⟩ := aggk_ok (show aggk v (fun m vs => ifk (Nat.beq m n) (castsk l vs fun vs => k (.agg n vs)) .fail) = r from h) hr
    obtain ⟨h2, h3⟩ := ifk_fail h1 hr
    obtain rfl := Nat.eq_of_beq_eq_true h2
    exact castsk_ok (k := fun vs => k (.agg m vs)) h3 hr
end Go.Ev
