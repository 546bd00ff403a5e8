/- PAGE: the closed law PageKnown, run. -/
import Derived.Test.YtbdohcmaighhkaaDoorPgS
namespace Go.Ev.W02
open Go.Proofs
set_option maxRecDepth 100000
noncomputable def ty1 : Go.Ev.N PO := ⟨.no, .no, .no, .no, .no, .no, .no, .no, .no, .no, .no, .no, .no, .no, .no, .no⟩
noncomputable def ty2 : Go.Ev.N (Go.Ev.N PO) := ⟨ty1, ty1, ty1, ty1, ty1, ty1, ty1, ty1, ty1, ty1, ty1, ty1, ty1, ty1, ty1, ty1⟩
noncomputable def ty3 : Go.Ev.N (Go.Ev.N (Go.Ev.N PO)) := ⟨ty2, ty2, ty2, ty2, ty2, ty2, ty2, ty2, ty2, ty2, ty2, ty2, ty2, ty2, ty2, ty2⟩
noncomputable def u1_000 : Go.Ev.N PO := ⟨.no, .no, .no, .orc orcKB, .orc orcB, .orc orcKB, .orc orcT, .sh (sh7 words), .no, .sh (sh9 words), .orc orc0, .no, .no, .orc orcS, .orc orcS, .no⟩
noncomputable def u2_00 : Go.Ev.N (Go.Ev.N PO) := ⟨u1_000, ty1, ty1, ty1, ty1, ty1, ty1, ty1, ty1, ty1, ty1, ty1, ty1, ty1, ty1, ty1⟩
noncomputable def u3_0 : Go.Ev.N (Go.Ev.N (Go.Ev.N PO)) := ⟨u2_00, ty2, ty2, ty2, ty2, ty2, ty2, ty2, ty2, ty2, ty2, ty2, ty2, ty2, ty2, ty2⟩
noncomputable def tab7 : FT := ⟨u3_0, ty3, ty3, ty3, ty3, ty3, ty3, ty3, ty3, ty3, ty3, ty3, ty3, ty3, ty3, ty3⟩
noncomputable def tab7L : List (Fid × PO) := [(⟨.d0, .d0, .d0, .d3⟩, .orc orcKB), (⟨.d0, .d0, .d0, .d4⟩, .orc orcB), (⟨.d0, .d0, .d0, .d5⟩, .orc orcKB), (⟨.d0, .d0, .d0, .d6⟩, .orc orcT), (⟨.d0, .d0, .d0, .da⟩, .orc orc0), (⟨.d0, .d0, .d0, .dd⟩, .orc orcS), (⟨.d0, .d0, .d0, .de⟩, .orc orcS), (⟨.d0, .d0, .d0, .d9⟩, .sh (sh9 words)), (⟨.d0, .d0, .d0, .d7⟩, .sh (sh7 words))]
theorem tab7_eq : tab7 = FT.of tab7L := by kernel_rfl

theorem po7 : POok Tryd.prog 1 7 (.sh (sh7 words)) := .of pf7_ok sh7_eq
theorem ent3 : Enters Tryd.prog 3 := enters Tryd.func3 (by kernel_rfl) (by kernel_rfl)
theorem ent4 : Enters Tryd.prog 4 := enters Tryd.func4 (by kernel_rfl) (by kernel_rfl)
theorem ent5 : Enters Tryd.prog 5 := enters Tryd.func5 (by kernel_rfl) (by kernel_rfl)
theorem ent6 : Enters Tryd.prog 6 := enters Tryd.func6 (by kernel_rfl) (by kernel_rfl)
theorem ent10 : Enters Tryd.prog 10 := enters Tryd.func10 (by kernel_rfl) (by kernel_rfl)
theorem ent13 : Enters Tryd.prog 13 := enters Tryd.func13 (by kernel_rfl) (by kernel_rfl)
theorem ent14 : Enters Tryd.prog 14 := enters Tryd.func14 (by kernel_rfl) (by kernel_rfl)
theorem tab7Ok : TabOk Tryd.prog 1 tab7 := by
  refine TabOk.of tab7_eq fun x hx => ?_
  simp only [tab7L, List.mem_cons, List.not_mem_nil, or_false] at hx
  rcases hx with rfl | rfl | rfl | rfl | rfl | rfl | rfl | rfl | rfl
  · exact fnok_KB ent3 walk3
  · exact fnok_B ent4 walk4
  · exact fnok_KB ent5 walk5
  · exact fnok_T ent6 walk6
  · exact fnok_0 ent10 walk10
  · exact fnok_S ent13 walk13
  · exact fnok_S ent14 walk14
  · exact po9
  · exact po7
/-- THE RUN -/
theorem run7 : ∃ t, Wf t 1 steps.length ∧ (∀ j, t.cell 1 j = steps[j]?) ∧ yes (call tab7 N 3 ⟨.d0, .d0, .d0, .d7⟩ [] (doorHeap (.arr 1 16 t true) .none)) = true := by
  obtain ⟨t, h1, h2, h3⟩ := chopk_law (g := 1) (by omega) (wf_e (by omega)) (l := steps) (m := 16) (by rfl)
  refine ⟨t, (by simpa using h2 : Wf t 1 16), fun j => by simpa using h3 j, ?_⟩
  exact (congrArg yes (h1 fun t => call tab7 N 3 ⟨.d0, .d0, .d0, .d7⟩ [] (doorHeap (.arr 1 16 t true) .none))).symm.trans (by kernel_rfl)
end Go.Ev.W02
