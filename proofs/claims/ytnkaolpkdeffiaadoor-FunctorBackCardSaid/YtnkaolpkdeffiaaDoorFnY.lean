/- FUNCTOR: the table of functions of FunctorBack; the walk. -/
import Derived.Test.YtnkaolpkdeffiaaDoorFnX
namespace Go.Ev.W04
open Go.Proofs Go.RowKit
set_option maxRecDepth 100000
noncomputable def tabB6z1 : Go.Ev.N PO := ⟨.no, .no, .no, .no, .no, .no, .no, .no, .no, .no, .no, .no, .no, .no, .no, .no⟩
noncomputable def tabB6z2 : Go.Ev.N (Go.Ev.N PO) := ⟨tabB6z1, tabB6z1, tabB6z1, tabB6z1, tabB6z1, tabB6z1, tabB6z1, tabB6z1, tabB6z1, tabB6z1, tabB6z1, tabB6z1, tabB6z1, tabB6z1, tabB6z1, tabB6z1⟩
noncomputable def tabB6z3 : Go.Ev.N (Go.Ev.N (Go.Ev.N PO)) := ⟨tabB6z2, tabB6z2, tabB6z2, tabB6z2, tabB6z2, tabB6z2, tabB6z2, tabB6z2, tabB6z2, tabB6z2, tabB6z2, tabB6z2, tabB6z2, tabB6z2, tabB6z2, tabB6z2⟩
noncomputable def tabB61_000 : Go.Ev.N PO := ⟨.no, .no, .no, .no, .no, .no, .sh (sh6 words), .no, .no, .no, .no, .no, .no, .no, .orc orcW, .no⟩
noncomputable def tabB61_001 : Go.Ev.N PO := ⟨.no, .sh (sh17 words), .sh (sh18 words), .no, .no, .no, .no, .no, .no, .no, .no, .no, .no, .no, .no, .no⟩
noncomputable def tabB61_002 : Go.Ev.N PO := ⟨.no, .sh (sh33 words), .no, .no, .no, .no, .no, .no, .no, .no, .no, .no, .no, .no, .no, .no⟩
noncomputable def tabB62_00 : Go.Ev.N (Go.Ev.N PO) := ⟨tabB61_000, tabB61_001, tabB61_002, tabB6z1, tabB6z1, tabB6z1, tabB6z1, tabB6z1, tabB6z1, tabB6z1, tabB6z1, tabB6z1, tabB6z1, tabB6z1, tabB6z1, tabB6z1⟩
noncomputable def tabB63_0 : Go.Ev.N (Go.Ev.N (Go.Ev.N PO)) := ⟨tabB62_00, tabB6z2, tabB6z2, tabB6z2, tabB6z2, tabB6z2, tabB6z2, tabB6z2, tabB6z2, tabB6z2, tabB6z2, tabB6z2, tabB6z2, tabB6z2, tabB6z2, tabB6z2⟩
noncomputable def tabB6 : FT := ⟨tabB63_0, tabB6z3, tabB6z3, tabB6z3, tabB6z3, tabB6z3, tabB6z3, tabB6z3, tabB6z3, tabB6z3, tabB6z3, tabB6z3, tabB6z3, tabB6z3, tabB6z3, tabB6z3⟩
noncomputable def tabB6L : List (Fid × PO) := [(⟨.d0, .d0, .d0, .d6⟩, .sh (sh6 words)), (⟨.d0, .d0, .d0, .de⟩, .orc orcW), (⟨.d0, .d0, .d1, .d1⟩, .sh (sh17 words)), (⟨.d0, .d0, .d1, .d2⟩, .sh (sh18 words)), (⟨.d0, .d0, .d2, .d1⟩, .sh (sh33 words))]
theorem tabB6_eq : tabB6 = FT.of tabB6L := by kernel_rfl
theorem tabB6o6 : POok Tryd.prog 2 6 (.sh (sh6 words)) := .of4 pf6_ok sh6_eq
theorem tabB6o14 : POok Tryd.prog 2 14 (.orc orcW) := fnokW
theorem tabB6o17 : POok Tryd.prog 2 17 (.sh (sh17 words)) := .of4 pf17_ok sh17_eq
theorem tabB6o18 : POok Tryd.prog 2 18 (.sh (sh18 words)) := .of4 pf18_ok sh18_eq
theorem tabB6o33 : POok Tryd.prog 2 33 (.sh (sh33 words)) := .of4 pf33_ok sh33_eq
theorem tabB6Ok : TabOk Tryd.prog 2 tabB6 := by
  refine TabOk.of tabB6_eq fun x hx => ?_
  simp only [tabB6L, List.mem_cons, List.not_mem_nil, or_false] at hx
  rcases hx with rfl | rfl | rfl | rfl | rfl
  · exact tabB6o6
  · exact tabB6o14
  · exact tabB6o17
  · exact tabB6o18
  · exact tabB6o33
theorem tabB6c6 (m d : Nat) (l : List V) (h : Heap) : call tabB6 m (d + 1) ⟨.d0, .d0, .d0, .d6⟩ l h = sh6 words m (call tabB6 m d) l h := by kernel_rfl
theorem tabB6c14 (m d : Nat) (l : List V) (h : Heap) : call tabB6 m (d + 1) ⟨.d0, .d0, .d0, .de⟩ l h = orcW l h := by kernel_rfl
theorem tabB6c17 (m d : Nat) (l : List V) (h : Heap) : call tabB6 m (d + 1) ⟨.d0, .d0, .d1, .d1⟩ l h = sh17 words m (call tabB6 m d) l h := by kernel_rfl
theorem tabB6c18 (m d : Nat) (l : List V) (h : Heap) : call tabB6 m (d + 1) ⟨.d0, .d0, .d1, .d2⟩ l h = sh18 words m (call tabB6 m d) l h := by kernel_rfl
theorem tabB6c33 (m d : Nat) (l : List V) (h : Heap) : call tabB6 m (d + 1) ⟨.d0, .d0, .d2, .d1⟩ l h = sh33 words m (call tabB6 m d) l h := by kernel_rfl
theorem callB (d : Nat) : CallB (call tabB6 NN (d + 2)) where
  int bs h hb hl := by rw [tabB6c17]; exact int_law hb (by show bs.length < 100000; omega) (by omega)
  str a h ha := by
    obtain ⟨h', u, e⟩ := str_law (n := NN) (cf := call tabB6 NN (d + 1)) (h := h) ⟨fun N h hN => by rw [tabB6c33]; exact digits_law hN (by decide)⟩ ha
    exact ⟨h', u, (tabB6c18 _ _ _ _).trans e⟩
  works h t := by rw [tabB6c14]; exact orcW_law t
theorem walk6 {W : World} (L : laidMet Tryd.prog laid04 W) {a : Int} {s : ByteArray} (ha : In64 a) (_ : s.size ≤ maxLen) :
    Calls Tryd.prog 6 #[.int .i64 a, .string s] W fun e w' => e = .returned (.bool true) ∧ Below W.heap.size W w' := by
  obtain ⟨S, B⟩ := accept_holds L
  obtain ⟨ρ, h, d, g, t⟩ := doorT (first_holds L) B
  obtain ⟨bs, hb, _, hv⟩ := bytes_in (ρ := ρ) s
  obtain ⟨h', e⟩ := back_law (n := NN) (callB 0) (by decide) ha hb t
  rw [← tabB6c6] at e
  obtain ⟨_, c⟩ := call_ok tabB6Ok (n := NN) 3 ⟨.d0, .d0, .d0, .d6⟩ _ _ _ e (by simp)
  exact (c ρ W [.int .i64 a, .string s] (.cons (.int .i64 _) (.cons hv .nil)) d.rh g).mono fun e w' hc => d.below hc
end Go.Ev.W04
