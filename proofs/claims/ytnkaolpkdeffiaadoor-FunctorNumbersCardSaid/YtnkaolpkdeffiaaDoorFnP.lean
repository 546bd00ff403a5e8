/- FUNCTOR: the walk of FunctorNumbers. -/
import Derived.Test.YtnkaolpkdeffiaaDoorFn3
namespace Go.Ev.W04
open Go.Proofs Go.RowKit
set_option maxRecDepth 100000
theorem walk3 {W : World} (L : laidMet Tryd.prog laid04 W) {op : Nat} (_ : op < 256) {a b : Int} (ha : In64 a) (_ : In64 b) :
    Calls Tryd.prog 3 #[.int .u8 (Int.ofNat op), .int .i64 a, .int .i64 b] W fun e w' => e = .returned (.bool true) ∧ Below W.heap.size W w' := by
  obtain ⟨ρ, h, h', d, g, hw⟩ := doorN L
  have e := numbers_law (n := NN) (callN 4) (op := op) (b := b) ha hw
  rw [← call3] at e
  obtain ⟨_, c⟩ := call_ok tabNOk (n := NN) 7 ⟨.d0, .d0, .d0, .d3⟩ _ _ _ e (by simp)
  exact (c ρ W [.int .u8 (Int.ofNat op), .int .i64 a, .int .i64 b] (.cons (.int .u8 _) (.cons (.int .i64 _) (.cons (.int .i64 _) .nil))) d.rh g).mono fun e w' hc => d.below hc
end Go.Ev.W04
