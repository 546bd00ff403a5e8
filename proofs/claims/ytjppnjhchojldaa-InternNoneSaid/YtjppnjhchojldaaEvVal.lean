/- EVALUATOR: what a value is, by continuation. -/
import Derived.Test.YtjppnjhchojldaaEvMem
namespace Go.Ev
noncomputable def intk (x : V) (k : IntKind → Int → Res) : Res :=
  V.rec (motive_1 := fun _ => (IntKind → Int → Res) → Res) (motive_2 := fun _ => PUnit) (fun _ => .fail) (fun _ => .fail) (fun _ _ => .fail) (fun k0 n0 k => k k0 n0) (fun _ _ _ => .fail) (fun _ => .fail) (fun _ _ _ => .fail) (fun _ => .fail) (fun _ _ _ _ _ _ => .fail) (fun _ => .fail) (fun _ => .fail) (fun _ _ => .fail) (fun _ => .fail) (fun _ _ _ _ => .fail) (fun _ => .fail) (fun _ _ _ _ => .fail) (fun _ _ _ _ => .fail) (fun _ _ _ => .fail) PUnit.unit (fun _ _ _ _ => PUnit.unit) x k
theorem intk_ok {x : V} {k : IntKind → Int → Res} {r : Res} (h : intk x k = r) (hr : r ≠ .fail) : (∃ k0 n0, x = V.int k0 n0 ∧ k k0 n0 = r) := by
  cases x
  case int k0 n0 => exact ⟨k0, n0, rfl, h⟩
  all_goals exact absurd h.symm hr

noncomputable def boolk (x : V) (k : Bool → Res) : Res :=
  V.rec (motive_1 := fun _ => (Bool → Res) → Res) (motive_2 := fun _ => PUnit) (fun _ => .fail) (fun _ => .fail) (fun b0 k => k b0) (fun _ _ _ => .fail) (fun _ _ _ => .fail) (fun _ => .fail) (fun _ _ _ => .fail) (fun _ => .fail) (fun _ _ _ _ _ _ => .fail) (fun _ => .fail) (fun _ => .fail) (fun _ _ => .fail) (fun _ => .fail) (fun _ _ _ _ => .fail) (fun _ => .fail) (fun _ _ _ _ => .fail) (fun _ _ _ _ => .fail) (fun _ _ _ => .fail) PUnit.unit (fun _ _ _ _ => PUnit.unit) x k
theorem boolk_ok {x : V} {k : Bool → Res} {r : Res} (h : boolk x k = r) (hr : r ≠ .fail) : (∃ b0, x = V.bool b0 ∧ k b0 = r) := by
  cases x
  case bool b0 => exact ⟨b0, rfl, h⟩
  all_goals exact absurd h.symm hr

noncomputable def strk (x : V) (k : Nat → Nat → Res) : Res :=
  V.rec (motive_1 := fun _ => (Nat → Nat → Res) → Res) (motive_2 := fun _ => PUnit) (fun _ => .fail) (fun _ => .fail) (fun _ _ => .fail) (fun _ _ _ => .fail) (fun l0 n0 k => k l0 n0) (fun _ => .fail) (fun _ _ _ => .fail) (fun _ => .fail) (fun _ _ _ _ _ _ => .fail) (fun _ => .fail) (fun _ => .fail) (fun _ _ => .fail) (fun _ => .fail) (fun _ _ _ _ => .fail) (fun _ => .fail) (fun _ _ _ _ => .fail) (fun _ _ _ _ => .fail) (fun _ _ _ => .fail) PUnit.unit (fun _ _ _ _ => PUnit.unit) x k
theorem strk_ok {x : V} {k : Nat → Nat → Res} {r : Res} (h : strk x k = r) (hr : r ≠ .fail) : (∃ l0 n0, x = V.str l0 n0 ∧ k l0 n0 = r) := by
  cases x
  case str l0 n0 => exact ⟨l0, n0, rfl, h⟩
  all_goals exact absurd h.symm hr

noncomputable def ptrk (x : V) (k : Bid → Nat → Res) : Res :=
  V.rec (motive_1 := fun _ => (Bid → Nat → Res) → Res) (motive_2 := fun _ => PUnit) (fun _ => .fail) (fun _ => .fail) (fun _ _ => .fail) (fun _ _ _ => .fail) (fun _ _ _ => .fail) (fun _ => .fail) (fun b0 o0 k => k b0 o0) (fun _ => .fail) (fun _ _ _ _ _ _ => .fail) (fun _ => .fail) (fun _ => .fail) (fun _ _ => .fail) (fun _ => .fail) (fun _ _ _ _ => .fail) (fun _ => .fail) (fun _ _ _ _ => .fail) (fun _ _ _ _ => .fail) (fun _ _ _ => .fail) PUnit.unit (fun _ _ _ _ => PUnit.unit) x k
theorem ptrk_ok {x : V} {k : Bid → Nat → Res} {r : Res} (h : ptrk x k = r) (hr : r ≠ .fail) : (∃ b0 o0, x = V.ptr b0 o0 ∧ k b0 o0 = r) := by
  cases x
  case ptr b0 o0 => exact ⟨b0, o0, rfl, h⟩
  all_goals exact absurd h.symm hr

noncomputable def slk (x : V) (k : Bid → Nat → Nat → (Option Nat) → Nat → Res) (z : Res) (m : Res) : Res :=
  V.rec (motive_1 := fun _ => (Bid → Nat → Nat → (Option Nat) → Nat → Res) → (Res) → (Res) → Res) (motive_2 := fun _ => PUnit) (fun _ _ _ => .fail) (fun _ _ _ => .fail) (fun _ _ _ _ => .fail) (fun _ _ _ _ _ => .fail) (fun _ _ _ _ _ => .fail) (fun _ _ _ => .fail) (fun _ _ _ _ _ => .fail) (fun _ z _ => z) (fun b0 o0 l0 c0 s0 k _ _ => k b0 o0 l0 c0 s0) (fun _ _ m => m) (fun _ _ _ => .fail) (fun _ _ _ _ => .fail) (fun _ _ _ => .fail) (fun _ _ _ _ _ _ => .fail) (fun _ _ _ => .fail) (fun _ _ _ _ _ _ => .fail) (fun _ _ _ _ _ _ => .fail) (fun _ _ _ _ _ => .fail) PUnit.unit (fun _ _ _ _ => PUnit.unit) x k z m
theorem slk_ok {x : V} {k : Bid → Nat → Nat → (Option Nat) → Nat → Res} {z : Res} {m : Res} {r : Res} (h : slk x k z m = r) (hr : r ≠ .fail) : (∃ b0 o0 l0 c0 s0, x = V.slice b0 o0 l0 c0 s0 ∧ k b0 o0 l0 c0 s0 = r) ∨ (x = V.nils ∧ z = r) ∨ (x = V.emp ∧ m = r) := by
  cases x
  case nils => exact (.inr (.inl ⟨rfl, h⟩))
  case slice b0 o0 l0 c0 s0 => exact (.inl ⟨b0, o0, l0, c0, s0, rfl, h⟩)
  case emp => exact (.inr (.inr ⟨rfl, h⟩))
  all_goals exact absurd h.symm hr

noncomputable def aggk (x : V) (k : Nat → (List V) → Res) : Res :=
  V.rec (motive_1 := fun _ => (Nat → (List V) → Res) → Res) (motive_2 := fun _ => PUnit) (fun _ => .fail) (fun _ => .fail) (fun _ _ => .fail) (fun _ _ _ => .fail) (fun _ _ _ => .fail) (fun _ => .fail) (fun _ _ _ => .fail) (fun _ => .fail) (fun _ _ _ _ _ _ => .fail) (fun _ => .fail) (fun _ => .fail) (fun _ _ => .fail) (fun _ => .fail) (fun _ _ _ _ => .fail) (fun _ => .fail) (fun _ _ _ _ => .fail) (fun n0 l0 _ k => k n0 l0) (fun _ _ _ => .fail) PUnit.unit (fun _ _ _ _ => PUnit.unit) x k
theorem aggk_ok {x : V} {k : Nat → (List V) → Res} {r : Res} (h : aggk x k = r) (hr : r ≠ .fail) : (∃ n0 l0, x = V.agg n0 l0 ∧ k n0 l0 = r) := by
  cases x
  case agg n0 l0 => exact ⟨n0, l0, rfl, h⟩
  all_goals exact absurd h.symm hr

noncomputable def tupk (x : V) (k : (List V) → Res) : Res :=
  V.rec (motive_1 := fun _ => ((List V) → Res) → Res) (motive_2 := fun _ => PUnit) (fun _ => .fail) (fun _ => .fail) (fun _ _ => .fail) (fun _ _ _ => .fail) (fun _ _ _ => .fail) (fun _ => .fail) (fun _ _ _ => .fail) (fun _ => .fail) (fun _ _ _ _ _ _ => .fail) (fun _ => .fail) (fun _ => .fail) (fun _ _ => .fail) (fun _ => .fail) (fun _ _ _ _ => .fail) (fun _ => .fail) (fun _ _ _ _ => .fail) (fun _ _ _ _ => .fail) (fun l0 _ k => k l0) PUnit.unit (fun _ _ _ _ => PUnit.unit) x k
theorem tupk_ok {x : V} {k : (List V) → Res} {r : Res} (h : tupk x k = r) (hr : r ≠ .fail) : (∃ l0, x = V.tup l0 ∧ k l0 = r) := by
  cases x
  case tup l0 => exact ⟨l0, rfl, h⟩
  all_goals exact absurd h.symm hr

noncomputable def fnk (x : V) (k : Nat → (List V) → Res) : Res :=
  V.rec (motive_1 := fun _ => (Nat → (List V) → Res) → Res) (motive_2 := fun _ => PUnit) (fun _ => .fail) (fun _ => .fail) (fun _ _ => .fail) (fun _ _ _ => .fail) (fun _ _ _ => .fail) (fun _ => .fail) (fun _ _ _ => .fail) (fun _ => .fail) (fun _ _ _ _ _ _ => .fail) (fun _ => .fail) (fun _ => .fail) (fun _ _ => .fail) (fun _ => .fail) (fun f0 cap0 _ k => k f0 cap0) (fun _ => .fail) (fun _ _ _ _ => .fail) (fun _ _ _ _ => .fail) (fun _ _ _ => .fail) PUnit.unit (fun _ _ _ _ => PUnit.unit) x k
theorem fnk_ok {x : V} {k : Nat → (List V) → Res} {r : Res} (h : fnk x k = r) (hr : r ≠ .fail) : (∃ f0 cap0, x = V.func f0 cap0 ∧ k f0 cap0 = r) := by
  cases x
  case func f0 cap0 => exact ⟨f0, cap0, rfl, h⟩
  all_goals exact absurd h.symm hr

noncomputable def ifk2 (x : V) (k : Nat → V → Res) (z : Res) : Res :=
  V.rec (motive_1 := fun _ => (Nat → V → Res) → (Res) → Res) (motive_2 := fun _ => PUnit) (fun _ _ => .fail) (fun _ _ => .fail) (fun _ _ _ => .fail) (fun _ _ _ _ => .fail) (fun _ _ _ _ => .fail) (fun _ _ => .fail) (fun _ _ _ _ => .fail) (fun _ _ => .fail) (fun _ _ _ _ _ _ _ => .fail) (fun _ _ => .fail) (fun _ _ => .fail) (fun _ _ _ => .fail) (fun _ _ => .fail) (fun _ _ _ _ _ => .fail) (fun _ z => z) (fun t0 v0 _ k _ => k t0 v0) (fun _ _ _ _ _ => .fail) (fun _ _ _ _ => .fail) PUnit.unit (fun _ _ _ _ => PUnit.unit) x k z
theorem ifk2_ok {x : V} {k : Nat → V → Res} {z : Res} {r : Res} (h : ifk2 x k z = r) (hr : r ≠ .fail) : (∃ t0 v0, x = V.iface t0 v0 ∧ k t0 v0 = r) ∨ (x = V.nili ∧ z = r) := by
  cases x
  case nili => exact (.inr ⟨rfl, h⟩)
  case iface t0 v0 => exact (.inl ⟨t0, v0, rfl, h⟩)
  all_goals exact absurd h.symm hr

noncomputable def mapk (x : V) (k : Bid → Res) (z : Res) : Res :=
  V.rec (motive_1 := fun _ => (Bid → Res) → (Res) → Res) (motive_2 := fun _ => PUnit) (fun _ _ => .fail) (fun _ _ => .fail) (fun _ _ _ => .fail) (fun _ _ _ _ => .fail) (fun _ _ _ _ => .fail) (fun _ _ => .fail) (fun _ _ _ _ => .fail) (fun _ _ => .fail) (fun _ _ _ _ _ _ _ => .fail) (fun _ _ => .fail) (fun _ z => z) (fun b0 k _ => k b0) (fun _ _ => .fail) (fun _ _ _ _ _ => .fail) (fun _ _ => .fail) (fun _ _ _ _ _ => .fail) (fun _ _ _ _ _ => .fail) (fun _ _ _ _ => .fail) PUnit.unit (fun _ _ _ _ => PUnit.unit) x k z
theorem mapk_ok {x : V} {k : Bid → Res} {z : Res} {r : Res} (h : mapk x k z = r) (hr : r ≠ .fail) : (∃ b0, x = V.map b0 ∧ k b0 = r) ∨ (x = V.nilm ∧ z = r) := by
  cases x
  case nilm => exact (.inr ⟨rfl, h⟩)
  case map b0 => exact (.inl ⟨b0, rfl, h⟩)
  all_goals exact absurd h.symm hr

noncomputable def ckptr (x : V) (k : Bid → Nat → Res) : Res :=
  V.rec (motive_1 := fun _ => (Bid → Nat → Res) → Res) (motive_2 := fun _ => PUnit) (fun _ => .fail) (fun _ => .fail) (fun _ _ => .fail) (fun _ _ _ => .fail) (fun _ _ _ => .fail) (fun _ => .fail) (fun b0 o0 k => k b0 o0) (fun _ => .fail) (fun _ _ _ _ _ _ => .fail) (fun _ => .fail) (fun _ => .fail) (fun _ _ => .fail) (fun _ => .fail) (fun _ _ _ _ => .fail) (fun _ => .fail) (fun _ _ _ _ => .fail) (fun _ _ _ _ => .fail) (fun _ _ _ => .fail) PUnit.unit (fun _ _ _ _ => PUnit.unit) x k
theorem ckptr_ok {x : V} {k : Bid → Nat → Res} {r : Res} (h : ckptr x k = r) (hr : r ≠ .fail) : (∃ b0 o0, x = V.ptr b0 o0 ∧ k b0 o0 = r) := by
  cases x
  case ptr b0 o0 => exact ⟨b0, o0, rfl, h⟩
  all_goals exact absurd h.symm hr

noncomputable def pnk (x : V) (k : Bool → Res) : Res :=
  V.rec (motive_1 := fun _ => (Bool → Res) → Res) (motive_2 := fun _ => PUnit) (fun _ => .fail) (fun _ => .fail) (fun _ _ => .fail) (fun _ _ _ => .fail) (fun _ _ _ => .fail) (fun k => k true) (fun _ _ k => k false) (fun _ => .fail) (fun _ _ _ _ _ _ => .fail) (fun _ => .fail) (fun _ => .fail) (fun _ _ => .fail) (fun _ => .fail) (fun _ _ _ _ => .fail) (fun _ => .fail) (fun _ _ _ _ => .fail) (fun _ _ _ _ => .fail) (fun _ _ _ => .fail) PUnit.unit (fun _ _ _ _ => PUnit.unit) x k

noncomputable def snk (x : V) (k : Bool → Res) : Res :=
  V.rec (motive_1 := fun _ => (Bool → Res) → Res) (motive_2 := fun _ => PUnit) (fun _ => .fail) (fun _ => .fail) (fun _ _ => .fail) (fun _ _ _ => .fail) (fun _ _ _ => .fail) (fun _ => .fail) (fun _ _ _ => .fail) (fun k => k true) (fun _ _ _ _ _ k => k false) (fun k => k false) (fun _ => .fail) (fun _ _ => .fail) (fun _ => .fail) (fun _ _ _ _ => .fail) (fun _ => .fail) (fun _ _ _ _ => .fail) (fun _ _ _ _ => .fail) (fun _ _ _ => .fail) PUnit.unit (fun _ _ _ _ => PUnit.unit) x k

noncomputable def mnk (x : V) (k : Bool → Res) : Res :=
  V.rec (motive_1 := fun _ => (Bool → Res) → Res) (motive_2 := fun _ => PUnit) (fun _ => .fail) (fun _ => .fail) (fun _ _ => .fail) (fun _ _ _ => .fail) (fun _ _ _ => .fail) (fun _ => .fail) (fun _ _ _ => .fail) (fun _ => .fail) (fun _ _ _ _ _ _ => .fail) (fun _ => .fail) (fun k => k true) (fun _ k => k false) (fun _ => .fail) (fun _ _ _ _ => .fail) (fun _ => .fail) (fun _ _ _ _ => .fail) (fun _ _ _ _ => .fail) (fun _ _ _ => .fail) PUnit.unit (fun _ _ _ _ => PUnit.unit) x k

noncomputable def fnk0 (x : V) (k : Bool → Res) : Res :=
  V.rec (motive_1 := fun _ => (Bool → Res) → Res) (motive_2 := fun _ => PUnit) (fun _ => .fail) (fun _ => .fail) (fun _ _ => .fail) (fun _ _ _ => .fail) (fun _ _ _ => .fail) (fun _ => .fail) (fun _ _ _ => .fail) (fun _ => .fail) (fun _ _ _ _ _ _ => .fail) (fun _ => .fail) (fun _ => .fail) (fun _ _ => .fail) (fun k => k true) (fun _ _ _ k => k false) (fun _ => .fail) (fun _ _ _ _ => .fail) (fun _ _ _ _ => .fail) (fun _ _ _ => .fail) PUnit.unit (fun _ _ _ _ => PUnit.unit) x k

noncomputable def ink (x : V) (k : Bool → Res) : Res :=
  V.rec (motive_1 := fun _ => (Bool → Res) → Res) (motive_2 := fun _ => PUnit) (fun _ => .fail) (fun _ => .fail) (fun _ _ => .fail) (fun _ _ _ => .fail) (fun _ _ _ => .fail) (fun _ => .fail) (fun _ _ _ => .fail) (fun _ => .fail) (fun _ _ _ _ _ _ => .fail) (fun _ => .fail) (fun _ => .fail) (fun _ _ => .fail) (fun _ => .fail) (fun _ _ _ _ => .fail) (fun k => k true) (fun _ _ _ k => k false) (fun _ _ _ _ => .fail) (fun _ _ _ => .fail) PUnit.unit (fun _ _ _ _ => PUnit.unit) x k
end Go.Ev
