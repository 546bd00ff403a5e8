/- Fn3: texts joined. -/
import Derived.Test.YtnkaolpkdeffiaaDoorFn2
import Derived.Test.YtnkaolpkdeffiaaDoorEvFrame
import Derived.Test.YtnkaolpkdeffiaaDoorRows
import Derived.Lib.LaidU8
import Derived.Test.YtnkaolpkdeffiaaDoorCards
import Derived.Test.YtnkaolpkdeffiaaDoorTie
import Derived.WalkKit
import Derived.ProofKit
import Derived.OpenShut
import Derived.Carry
import Derived.ChangeSame
import Derived.Deep.DeepHandedRow
/- FUNCTOR: the table of functions of the laws of numbers. -/
namespace Go.Ev.W04
open Go.Proofs
set_option maxRecDepth 100000
noncomputable def tn1 : Go.Ev.N PO := ⟨.no, .no, .no, .no, .no, .no, .no, .no, .no, .no, .no, .no, .no, .no, .no, .no⟩
noncomputable def tn2 : Go.Ev.N (N PO) := ⟨tn1, tn1, tn1, tn1, tn1, tn1, tn1, tn1, tn1, tn1, tn1, tn1, tn1, tn1, tn1, tn1⟩
noncomputable def tn3 : Go.Ev.N (N (N PO)) := ⟨tn2, tn2, tn2, tn2, tn2, tn2, tn2, tn2, tn2, tn2, tn2, tn2, tn2, tn2, tn2, tn2⟩
noncomputable def n1_000 : Go.Ev.N PO := ⟨.no, .no, .no, .sh (sh3 words), .no, .no, .no, .no, .no, .no, .sh (sh10 words), .sh (sh11 words), .sh (sh12 words), .sh (sh13 words), .sh (sh14 words), .no⟩
noncomputable def n1_001 : Go.Ev.N PO := ⟨.no, .sh (sh17 words), .sh (sh18 words), .sh (sh19 words), .no, .no, .no, .no, .no, .no, .no, .no, .no, .sh (sh29 words), .sh (sh30 words), .sh (sh31 words)⟩
noncomputable def n1_002 : Go.Ev.N PO := ⟨.sh (sh32 words), .sh (sh33 words), .sh (sh34 words), .no, .sh (sh36 words), .no, .no, .sh (sh39 words), .no, .no, .no, .no, .no, .no, .no, .no⟩
noncomputable def n2_00 : Go.Ev.N (N PO) := ⟨n1_000, n1_001, n1_002, tn1, tn1, tn1, tn1, tn1, tn1, tn1, tn1, tn1, tn1, tn1, tn1, tn1⟩
noncomputable def n3_0 : Go.Ev.N (N (N PO)) := ⟨n2_00, tn2, tn2, tn2, tn2, tn2, tn2, tn2, tn2, tn2, tn2, tn2, tn2, tn2, tn2, tn2⟩
noncomputable def tabN : FT := ⟨n3_0, tn3, tn3, tn3, tn3, tn3, tn3, tn3, tn3, tn3, tn3, tn3, tn3, tn3, tn3, tn3⟩
noncomputable def tabNL : List (Fid × PO) := [(⟨.d0, .d0, .d0, .d3⟩, .sh (sh3 words)), (⟨.d0, .d0, .d0, .da⟩, .sh (sh10 words)), (⟨.d0, .d0, .d0, .db⟩, .sh (sh11 words)), (⟨.d0, .d0, .d0, .dc⟩, .sh (sh12 words)), (⟨.d0, .d0, .d0, .dd⟩, .sh (sh13 words)), (⟨.d0, .d0, .d0, .de⟩, .sh (sh14 words)), (⟨.d0, .d0, .d1, .d1⟩, .sh (sh17 words)), (⟨.d0, .d0, .d1, .d2⟩, .sh (sh18 words)), (⟨.d0, .d0, .d1, .d3⟩, .sh (sh19 words)), (⟨.d0, .d0, .d1, .dd⟩, .sh (sh29 words)), (⟨.d0, .d0, .d1, .de⟩, .sh (sh30 words)), (⟨.d0, .d0, .d1, .df⟩, .sh (sh31 words)), (⟨.d0, .d0, .d2, .d0⟩, .sh (sh32 words)), (⟨.d0, .d0, .d2, .d1⟩, .sh (sh33 words)), (⟨.d0, .d0, .d2, .d2⟩, .sh (sh34 words)), (⟨.d0, .d0, .d2, .d4⟩, .sh (sh36 words)), (⟨.d0, .d0, .d2, .d7⟩, .sh (sh39 words))]
theorem tabN_eq : tabN = FT.of tabNL := by kernel_rfl

theorem _root_.Go.Ev.POok.of4 {P : Program} {ng f : Nat} {fi : FI} {p : PF} {sh : Words → Nat → CF → List V → Heap → Res} (h1 : prep P ng fi f = some p.strip)
    (h2 : ∀ S n cf ar h, runFg (semOXg S) n cf p ar h = sh S n cf ar h) : POok P ng f (.sh (sh words)) :=
  ⟨fi, p, h1, fun m cf args h => by rw [← h2, semOXg_words]⟩
theorem po3 : POok Tryd.prog 2 3 (.sh (sh3 words)) := .of4 pf3_ok sh3_eq
theorem po10 : POok Tryd.prog 2 10 (.sh (sh10 words)) := .of4 pf10_ok sh10_eq
theorem po11 : POok Tryd.prog 2 11 (.sh (sh11 words)) := .of4 pf11_ok sh11_eq
theorem po12 : POok Tryd.prog 2 12 (.sh (sh12 words)) := .of4 pf12_ok sh12_eq
theorem po13 : POok Tryd.prog 2 13 (.sh (sh13 words)) := .of4 pf13_ok sh13_eq
theorem po14 : POok Tryd.prog 2 14 (.sh (sh14 words)) := .of4 pf14_ok sh14_eq
theorem po17 : POok Tryd.prog 2 17 (.sh (sh17 words)) := .of4 pf17_ok sh17_eq
theorem po18 : POok Tryd.prog 2 18 (.sh (sh18 words)) := .of4 pf18_ok sh18_eq
theorem po19 : POok Tryd.prog 2 19 (.sh (sh19 words)) := .of4 pf19_ok sh19_eq
theorem po29 : POok Tryd.prog 2 29 (.sh (sh29 words)) := .of4 pf29_ok sh29_eq
theorem po30 : POok Tryd.prog 2 30 (.sh (sh30 words)) := .of4 pf30_ok sh30_eq
theorem po31 : POok Tryd.prog 2 31 (.sh (sh31 words)) := .of4 pf31_ok sh31_eq
theorem po32 : POok Tryd.prog 2 32 (.sh (sh32 words)) := .of4 pf32_ok sh32_eq
theorem po33 : POok Tryd.prog 2 33 (.sh (sh33 words)) := .of4 pf33_ok sh33_eq
theorem po34 : POok Tryd.prog 2 34 (.sh (sh34 words)) := .of4 pf34_ok sh34_eq
theorem po36 : POok Tryd.prog 2 36 (.sh (sh36 words)) := .of4 pf36_ok sh36_eq
theorem po39 : POok Tryd.prog 2 39 (.sh (sh39 words)) := .of4 pf39_ok sh39_eq
theorem tabNOk : TabOk Tryd.prog 2 tabN := by
  refine TabOk.of tabN_eq fun x hx => ?_
  simp only [tabNL, List.mem_cons, List.not_mem_nil, or_false] at hx
  rcases hx with rfl | rfl | rfl | rfl | rfl | rfl | rfl | rfl | rfl | rfl | rfl | rfl | rfl | rfl | rfl | rfl | rfl
  · exact po3
  · exact po10
  · exact po11
  · exact po12
  · exact po13
  · exact po14
  · exact po17
  · exact po18
  · exact po19
  · exact po29
  · exact po30
  · exact po31
  · exact po32
  · exact po33
  · exact po34
  · exact po36
  · exact po39
end Go.Ev.W04

/- FUNCTOR: what the calls come to; FunctorNumbers. -/
namespace Go.Ev.W04
open Go.Proofs
set_option maxRecDepth 100000
abbrev NN : Nat := 100000
theorem call3 (d : Nat) (l : List V) (h : Heap) : call tabN NN (d + 1) ⟨.d0, .d0, .d0, .d3⟩ l h = sh3 words NN (call tabN NN d) l h := by kernel_rfl
theorem call10 (d : Nat) (l : List V) (h : Heap) : call tabN NN (d + 1) ⟨.d0, .d0, .d0, .da⟩ l h = sh10 words NN (call tabN NN d) l h := by kernel_rfl
theorem call11 (d : Nat) (l : List V) (h : Heap) : call tabN NN (d + 1) ⟨.d0, .d0, .d0, .db⟩ l h = sh11 words NN (call tabN NN d) l h := by kernel_rfl
theorem call12 (d : Nat) (l : List V) (h : Heap) : call tabN NN (d + 1) ⟨.d0, .d0, .d0, .dc⟩ l h = sh12 words NN (call tabN NN d) l h := by kernel_rfl
theorem call13 (d : Nat) (l : List V) (h : Heap) : call tabN NN (d + 1) ⟨.d0, .d0, .d0, .dd⟩ l h = sh13 words NN (call tabN NN d) l h := by kernel_rfl
theorem call14 (d : Nat) (l : List V) (h : Heap) : call tabN NN (d + 1) ⟨.d0, .d0, .d0, .de⟩ l h = sh14 words NN (call tabN NN d) l h := by kernel_rfl
theorem call29 (d : Nat) (l : List V) (h : Heap) : call tabN NN (d + 1) ⟨.d0, .d0, .d1, .dd⟩ l h = sh29 words NN (call tabN NN d) l h := by kernel_rfl
theorem call30 (d : Nat) (l : List V) (h : Heap) : call tabN NN (d + 1) ⟨.d0, .d0, .d1, .de⟩ l h = sh30 words NN (call tabN NN d) l h := by kernel_rfl
theorem call31 (d : Nat) (l : List V) (h : Heap) : call tabN NN (d + 1) ⟨.d0, .d0, .d1, .df⟩ l h = sh31 words NN (call tabN NN d) l h := by kernel_rfl
theorem call32 (d : Nat) (l : List V) (h : Heap) : call tabN NN (d + 1) ⟨.d0, .d0, .d2, .d0⟩ l h = sh32 words NN (call tabN NN d) l h := by kernel_rfl
theorem callT (d : Nat) : CallT (call tabN NN (d + 1)) where
  parts0 op a h := by rw [call29]; exact parts_zero
  partsD a b h hb := by rw [call29]; exact parts_div hb
  partsR a b h hb := by rw [call29]; exact parts_rem hb
  divided a b h ha hb := by rw [call30]; exact divided_law ha hb
  bits a b both one h := by rw [call31]; exact bits_law (by decide)
  down a k h ha hk := by rw [call32]; exact down_law ha hk (by decide)
theorem callN (d : Nat) : CallN (call tabN NN (d + 2)) where
  two op a b r ok h t := by rw [call10]; exact two_law (callT d) t
  reftwo op a b r ok h ha t := by rw [call11]; exact ref_law (callT d) ha (by decide) t
  one op a h := by rw [call12]; exact one_law
  refone op a h := by rw [call13]; exact refone_law
end Go.Ev.W04

/- FUNCTOR: the two tables in the world. -/
namespace Go.Ev.W04
open Go.Proofs Go.Lib
set_option maxRecDepth 100000
theorem gFirst : Tryd.prog.globalNamed "unicode/utf8.first" = some 0 := by kernel_rfl
theorem gAccept : Tryd.prog.globalNamed "unicode/utf8.acceptRanges" = some 1 := by kernel_rfl
theorem gFirstT : (Tryd.prog.globals[0]?).map (·.type) = some 60 := by kernel_rfl
theorem gAcceptT : (Tryd.prog.globals[1]?).map (·.type) = some 64 := by kernel_rfl
abbrev laid04 : List (String × DataW Unit) := [("unicode/utf8.acceptRanges", YtnkaolpkdeffiaaDoor.Rows.laid_unicode_utf8_acceptRanges), ("unicode/utf8.first", YtnkaolpkdeffiaaDoor.Rows.laid_unicode_utf8_first)]
theorem first_holds {W : World} (h : laidMet Tryd.prog laid04 W) : Holds W 0 0 256 firstL := by
  obtain ⟨g, t, cs, fuel, p, h1, h2, h3, h4⟩ := laidMet.reads h (n := "unicode/utf8.first") (d := YtnkaolpkdeffiaaDoor.Rows.laid_unicode_utf8_first) (by simp)
  obtain rfl := Option.some.inj (gFirst.symm.trans h1)
  obtain rfl := Option.some.inj (gFirstT.symm.trans h2)
  have hz : (YtnkaolpkdeffiaaDoor.Rows.laid_unicode_utf8_first : DataW Unit) = tabData .u8 (Go.Pinned.utf8FirstZ.map fun (n : Nat) => (n : Int)) := by kernel_rfl
  rw [hz] at h4
  have hcs := cells_of_tab (n := 256) (e := 5) (by kernel_rfl) Tryd.underlying5 (by kernel_rfl) (by kernel_rfl) h4
  have := holds_table (k := .u8) (zs := Go.Pinned.utf8FirstZ.map fun (n : Nat) => (n : Int)) gFirst (by rw [h3, ← hcs])
  have e : (Go.Pinned.utf8FirstZ.map fun (n : Nat) => (n : Int)).map (V.int .u8) = firstL := by rw [List.map_map]; rfl
  rw [e] at this
  exact this
theorem accept_holds {W : World} (h : laidMet Tryd.prog laid04 W) : ∃ S, Holds W 1 0 S acceptL := by
  obtain ⟨g, t, cs, fuel, p, h1, h2, h3, h4⟩ := laidMet.reads h (n := "unicode/utf8.acceptRanges") (d := YtnkaolpkdeffiaaDoor.Rows.laid_unicode_utf8_acceptRanges) (by simp)
  obtain rfl := Option.some.inj (gAccept.symm.trans h1)
  obtain rfl := Option.some.inj (gAcceptT.symm.trans h2)
  have hz : (YtnkaolpkdeffiaaDoor.Rows.laid_unicode_utf8_acceptRanges : DataW Unit) = acceptData := by kernel_rfl
  rw [hz] at h4
  have key : ∀ i, i < 16 → cs[2 * i]? = some (.int .u8 (accLo i)) ∧ cs[2 * i + 1]? = some (.int .u8 (accHi i)) := by
    intro i hi
    obtain ⟨fuel', d, q, hdi, he⟩ := array_elem (n := 16) (e := 63) (by kernel_rfl) h4 i hi
    simp only [List.getElem?_map, List.getElem?_range hi, Option.map_some, Option.some.injEq] at hdi
    subst hdi
    rw [show Tryd.prog.cellsOf 63 = 2 by kernel_rfl] at he
    have hcs := ints_of_struct (fs := #[⟨"lo", 5, 0, false, "", "unicode/utf8", 0⟩, ⟨"hi", 5, 1, false, "", "unicode/utf8", 1⟩]) (by kernel_rfl) (fun j f hj => by
      match j, hj with
      | 0, hj => simp at hj; subst hj; exact ⟨Tryd.underlying5, rfl, by kernel_rfl⟩
      | 1, hj => simp at hj; subst hj; exact ⟨Tryd.underlying5, rfl, by kernel_rfl⟩
      | j + 2, hj => simp at hj) (by kernel_rfl) he
    have e0 := congrArg (·[0]?) hcs
    have e1 := congrArg (·[1]?) hcs
    simp only [List.getElem?_take, List.getElem?_drop] at e0 e1
    constructor
    · rw [← Array.getElem?_toList]; simpa [Nat.mul_comm] using e0
    · rw [← Array.getElem?_toList]; simpa [Nat.mul_comm] using e1
  unfold World.var? at h3
  rw [gAccept] at h3
  simp only [Option.bind_some] at h3
  split at h3
  · rename_i cs' el fz hh
    cases h3
    refine ⟨cs.size, cs, el, fz, hh, rfl, ?_, fun i v hv => ?_⟩
    · have := (Array.getElem?_eq_some_iff.1 (key 15 (by omega)).2).1
      show 0 + 32 ≤ _
      omega
    · have hi : i < 32 := (List.getElem?_eq_some_iff.1 hv).1
      have hk := key (i / 2) (by omega)
      rw [Nat.zero_add]
      have : ∀ j, j < 32 → acceptL[j]? = some (bV (if j % 2 = 0 then accLo (j / 2) else accHi (j / 2))) := fun j hj => by
        have e : acceptL = (List.range 32).map fun j => bV (if j % 2 = 0 then accLo (j / 2) else accHi (j / 2)) := by kernel_rfl
        rw [e, List.getElem?_map, List.getElem?_range hj]; rfl
      rw [this i hi] at hv
      cases hv
      refine ⟨.int .u8 (Int.ofNat (if i % 2 = 0 then accLo (i / 2) else accHi (i / 2))), ?_, fun _ => .int _ _, rfl⟩
      by_cases hm : i % 2 = 0
      · rw [if_pos hm, ← show 2 * (i / 2) = i by omega, show 2 * (i / 2) / 2 = i / 2 by omega]; exact hk.1
      · rw [if_neg hm, ← show 2 * (i / 2) + 1 = i by omega, show (2 * (i / 2) + 1) / 2 = i / 2 by omega]; exact hk.2
  · cases h3
end Go.Ev.W04

/- FUNCTOR: the memory at a call; works there. -/
namespace Go.Ev.W04
open Go.Proofs Go.ChangeShapes Go.WideShapes Go.ChangeAt Go.RowKit
set_option maxRecDepth 100000
theorem own : ownKnob Tryd.prog.godebug = none := by kernel_rfl
theorem laidOut : laidOutB Tryd.prog = true := by kernel_rfl
theorem runN : ∃ t0 t1, (Wf t0 1 256 ∧ ∀ j, t0.cell 1 j = firstL[j]?) ∧ (Wf t1 1 32 ∧ ∀ j, t1.cell 1 j = acceptL[j]?) ∧ yes (call tabN NN 6 ⟨.d0, .d0, .d0, .de⟩ [] (doorHeap (.arr 1 256 t0 true) (.arr 1 32 t1 true))) = true := by
  obtain ⟨t0, h1, h2, h3⟩ := chopk_law (g := 1) (by omega) (wf_e (by omega)) (l := firstL) (m := 256) (by kernel_rfl)
  obtain ⟨t1, g1, g2, g3⟩ := chopk_law (g := 1) (by omega) (wf_e (by omega)) (l := acceptL) (m := 32) (by kernel_rfl)
  refine ⟨t0, t1, ⟨by simpa using h2, fun j => by simpa using h3 j⟩, ⟨by simpa using g2, fun j => by simpa using g3 j⟩, ?_⟩
  have e : chopk 1 256 0 firstL .e (fun t0 => chopk 1 32 0 acceptL .e fun t1 => call tabN NN 6 ⟨.d0, .d0, .d0, .de⟩ [] (doorHeap (.arr 1 256 t0 true) (.arr 1 32 t1 true))) = call tabN NN 6 ⟨.d0, .d0, .d0, .de⟩ [] (doorHeap (.arr 1 256 t0 true) (.arr 1 32 t1 true)) := by
    rw [h1, g1]
  exact (congrArg yes e).symm.trans (by kernel_rfl)
theorem firstLen : firstL.length = 256 := by kernel_rfl
theorem acceptLen : acceptL.length = 32 := by kernel_rfl
/-- the memory at the call of a law of numbers -/
theorem doorN {W : World} (L : laidMet Tryd.prog laid04 W) : ∃ ρ h h', Door W firstL ρ h ∧ GlobR ρ 2 ∧ call tabN NN 6 ⟨.d0, .d0, .d0, .de⟩ [] h = .ret (.bool true) h' := by
  obtain ⟨S, B⟩ := accept_holds L
  obtain ⟨t0, t1, ⟨w0, c0⟩, ⟨w1, c1⟩, hy⟩ := runN
  obtain ⟨d, _⟩ := door2_at (first_holds L) B (by omega) (t0 := t0) (t1 := t1) (firstLen.symm ▸ w0) c0 (acceptLen.symm ▸ w1) c1
  obtain ⟨h', e⟩ := yes_ok hy
  rw [firstLen, acceptLen] at d
  exact ⟨_, _, h', d, glob2, e⟩
theorem wf_u8 {n : Int} (h : (Lit.int .u8 n).wf = true) : ∃ k : Nat, n = Int.ofNat k ∧ k < 256 := by
  have h0 : IntKind.u8.min ≤ n ∧ n ≤ IntKind.u8.max := by simpa [Lit.wf] using h
  have h1 : 0 ≤ n ∧ n ≤ 255 := h0
  exact ⟨n.toNat, (Int.toNat_of_nonneg h1.1).symm, by omega⟩
theorem wf_i64 {n : Int} (h : (Lit.int .i64 n).wf = true) : In64 n := by
  have h0 : IntKind.i64.min ≤ n ∧ n ≤ IntKind.i64.max := by simpa [Lit.wf] using h
  exact h0
/-- A WORLD FOR THE WITNESSES: the settled one, both tables holding what their initialisers lay. -/
noncomputable def lay0 : Obj → Obj
  | .cells _ t frozen => .cells (Go.Pinned.utf8FirstZ.map fun (n : Nat) => Value.int .u8 n).toArray t frozen
  | o => o
noncomputable def lay1 : Obj → Obj
  | .cells _ t frozen => .cells ([128, 191, 160, 191, 128, 159, 144, 191, 128, 143, 0, 0, 0, 0, 0, 0, 0, 0, 0, 0, 0, 0, 0, 0, 0, 0, 0, 0, 0, 0, 0, 0].map (Value.int .u8)).toArray t frozen
  | o => o
noncomputable def laidWorld (os : Os) : World :=
  { World.holding Tryd.prog os ⟨#[], #[], []⟩ with heap := ((World.holding Tryd.prog os ⟨#[], #[], []⟩).heap.modify 0 lay0).modify 1 lay1 }
end Go.Ev.W04
