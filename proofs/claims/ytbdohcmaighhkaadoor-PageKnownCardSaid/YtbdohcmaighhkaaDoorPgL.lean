/- PAGE: from the memory at a call to the abstract heap; what each row's step needs. -/
import Derived.Test.YtbdohcmaighhkaaDoorPg2
import Derived.Test.YtbdohcmaighhkaaDoorEvDoor
import Derived.Test.YtbdohcmaighhkaaDoorCards
import Derived.Test.YtbdohcmaighhkaaDoorTie
import Derived.WalkKit
import Derived.ProofKit
import Derived.OpenShut
import Derived.Carry
import Derived.ChangeSame
import Derived.Deep.DeepHandedRow
import Derived.Lib.LaidTab
namespace Go.Ev.W02
open Go.Proofs Go.ChangeShapes Go.WideShapes Go.ChangeAt Go.RowKit
set_option maxRecDepth 100000

theorem own : ownKnob Tryd.prog.godebug = none := by kernel_rfl
theorem laidOut : laidOutB Tryd.prog = true := by kernel_rfl
theorem gTab : Tryd.prog.globalNamed "fathom/page.steps" = some 0 := by kernel_rfl
theorem gTabType : (Tryd.prog.globals[0]?).map (·.type) = some 41 := by kernel_rfl
abbrev tabZ : List Int := [0, 498536548, 997073096, 651767980, 1994146192, 1802195444, 1303535960, 1342533948, 3988292384, 4027552580, 3604390888, 3412177804, 2607071920, 2262029012, 2685067896, 3183342108]
theorem tabZ_steps : tabZ.map (V.int .u32) = steps := by rfl

/-- WHAT THE LIST OF A ROW GIVES -/
theorem table {W : World} (h : laidMetH Tryd.prog [("fathom/page.steps", YtbdohcmaighhkaaDoor.Rows.laid_fathom_page_steps)] W) : Lib.TabIs Tryd.prog W "fathom/page.steps" .u32 tabZ :=
  Lib.tabIs_of_head (rest := []) (e := 30) (n := 16) gTab gTabType (by kernel_rfl) (by kernel_rfl) (by kernel_rfl) (by kernel_rfl) h

theorem wf_u8 {n : Int} (h : (Lit.int .u8 n).wf = true) : ∃ k : Nat, n = Int.ofNat k ∧ k < 256 := by
  have h0 : IntKind.u8.min ≤ n ∧ n ≤ IntKind.u8.max := by simpa [Lit.wf] using h
  have h1 : 0 ≤ n ∧ n ≤ 255 := h0
  exact ⟨n.toNat, (Int.toNat_of_nonneg h1.1).symm, by omega⟩
theorem bytes_of : ∀ {zs : List Int}, (∀ n ∈ zs, (Lit.int .u8 n).wf = true) → ∃ bs : List Nat, zs.map (V.int .u8) = bs.map bV ∧ ∀ x ∈ bs, x < 256
  | [], _ => ⟨[], rfl, by simp⟩
  | z :: zs, h => by
    obtain ⟨k, rfl, hk⟩ := wf_u8 (h z (by simp))
    obtain ⟨bs, e, hb⟩ := bytes_of fun n hn => h n (List.mem_cons_of_mem _ hn)
    exact ⟨k :: bs, by simp [e, bV], by simpa using ⟨hk, hb⟩⟩

/-- a slice of bytes that came in -/
structure In (W : World) (x : Value) (ρ : Rho) (h : Heap) (v : V) (bs : List Nat) : Prop where
  door : Door W steps ρ h
  vr : VR ρ v x
  is : IsS h v (bs.map bV)
  low : Low v h.nx.val
  lt : ∀ x ∈ bs, x < 256
theorem In.tab {W : World} {x : Value} {ρ : Rho} {h : Heap} {v : V} {bs : List Nat} (i : In W x ρ h v bs) : Tab h := i.door.row
theorem In.pos {W : World} {x : Value} {ρ : Rho} {h : Heap} {v : V} {bs : List Nat} (i : In W x ρ h v bs) : 0 < h.nx.val := by
  rw [i.door.nx]; decide

theorem in_nil {W : World} (A : Holds W 0 0 16 steps) : ∃ ρ h v bs, In W (.slice none 0 0) ρ h v bs := by
  obtain ⟨ρ, h, d⟩ := door1 A
  exact ⟨ρ, h, .nils, [], d, .nils, .nils, (fun _ _ _ _ _ e => by cases e), by simp⟩
theorem in_emp {W : World} (A : Holds W 0 0 16 steps) (a : Addr) (cap : Nat) : ∃ ρ h v bs, In W (.slice (some a) 0 cap) ρ h v bs := by
  obtain ⟨ρ, h, d⟩ := door1 A
  exact ⟨ρ, h, .emp, [], d, .emp a cap, .emp, (fun _ _ _ _ _ e => by cases e), by simp⟩
theorem in_row {W : World} (A : Holds W 0 0 16 steps) {a : Addr} {len cap : Nat} {zs : List Int} (hl : len ≤ cap) (h0 : 0 < len) (hz : zs.length = cap)
    (hcell : ∀ i, i < zs.length → W.cell? (a.add i) = some (.int .u8 (zs.getD i 0))) (hw : ∀ n ∈ zs, (Lit.int .u8 n).wf = true) : ∃ ρ h v bs, In W (.slice (some a) len cap) ρ h v bs := by
  obtain ⟨b, off, rfl, hc⟩ := ints_at hcell (by omega)
  obtain ⟨S, B⟩ := holds_ints hc (by omega)
  have hb : b ≠ 0 := by
    rintro rfl
    obtain ⟨cs, el, fz, h1, h2, h3, h4⟩ := A.at_
    obtain ⟨cs', el', fz', h1', h2', h3', h4'⟩ := B.at_
    rw [h1] at h1'
    cases h1'
    obtain ⟨x, h5, h6, _⟩ := h4' 0 (.int .u8 (zs[0]'(by omega))) (by simp [List.getElem?_eq_getElem (show 0 < zs.length by omega)])
    have hlt := (Array.getElem?_eq_some_iff.1 h5).1
    have h7 : off + 0 < steps.length := by rw [h2] at hlt; exact hlt
    obtain ⟨y, h8, h9, _⟩ := h4 (off + 0) (steps[off + 0]'h7) (List.getElem?_eq_getElem h7)
    rw [Nat.zero_add, h5] at h8
    cases h8
    have h10 := h6 (fun _ => none)
    have h11 := h9 (fun _ => none)
    have h12 : ∃ n, steps[off + 0]'h7 = .int .u32 n := by
      have : steps[off + 0]'h7 ∈ steps := List.getElem_mem h7
      obtain ⟨n, _, e⟩ := List.mem_map.1 (show steps[off + 0]'h7 ∈ tab16.map fun n => V.int .u32 (.ofNat n) from this)
      exact ⟨_, e.symm⟩
    obtain ⟨n, e⟩ := h12
    rw [e] at h11
    cases h10
    cases h11
  obtain ⟨ρ, h, d, hr, row⟩ := door2 A B hb
  obtain ⟨bs, e, hbs⟩ := bytes_of hw
  have hbl : bs.length = cap := by rw [← hz]; simpa using (congrArg List.length e).symm
  rw [e] at row
  refine ⟨ρ, h, .slice gb1 0 len (some cap) 1, bs.take len, d, ?_, ?_, ?_, fun x hx => hbs x (List.mem_of_mem_take hx)⟩
  · exact .slice (z := off) hr (fun n hn => by cases hn; rfl) (fun hn => by cases hn) hl
  · have h1 : ((bs.take len).map bV).length = len := by simp; omega
    have := IsS.sl gb1 0 (some cap) true (bs.map bV) ((bs.take len).map bV) row (by simp; omega) (by simp [List.map_take, hbl, Nat.min_eq_left hl]) (fun n hn => by cases hn; simp; omega)
    rwa [h1] at this
  · intro b o l c s e
    cases e
    rw [d.nx]; decide
/-- the slice argument, opened -/
theorem in_of {W : World} (L : Lib.TabIs Tryd.prog W "fathom/page.steps" .u32 tabZ) {H : Type} {enc : TypeId × Value → H} {v0 : Value} {d0 : DataW H} {p0 : List MemPlace} {base : Nat}
    (hv : Value.okWide Tryd.prog W .any base 22 v0) (h0 : DataW.Trod enc Tryd.prog W 0 (fun _ => true) true 22 v0 d0 p0) : ∃ ρ h v bs, In W v0 ρ h v bs := by
  have A : Holds W 0 0 16 steps := holds_table gTab L
  obtain ⟨a0, len0, cap0, rfl⟩ := okWide_slice Tryd.underlying22 hv
  obtain ⟨fuel, hf⟩ := h0
  rcases open_ints Tryd.underlying22 Tryd.underlying5 (by kernel_rfl) hf with ⟨hcs, _⟩ | ⟨x, l, c, zs, hcs, _, hl, hm, hz, _, hcell, hwz⟩
  · simp [Value.cells] at hcs
    obtain ⟨rfl, rfl, rfl⟩ := hcs
    exact in_nil A
  · simp [Value.cells] at hcs
    obtain ⟨rfl, rfl, rfl⟩ := hcs
    by_cases hl0 : len0 = 0
    · subst hl0; exact in_emp A x cap0
    · exact in_row A hl (by omega) (by simpa using hz) hcell hwz
end Go.Ev.W02
