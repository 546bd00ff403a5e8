/- EVALUATOR: a call out of a memory of which two rows of numbers are known: a package-level table, and an argument's cells. -/
import Derived.Test.YtjppnjhchojldaaEvByte2
import Derived.Test.YtjppnjhchojldaaEvTop
import Derived.Below
import Derived.OpenShut
namespace Go.Ev
open Go.WideShapes Go.RowKit

/-- block c holds the values l from place z on -/
structure Holds (w : World) (c z S : Nat) (l : List V) : Prop where
  at_ : ∃ cs el fz, w.heap[c]? = some (.cells cs el fz) ∧ cs.size = S ∧ z + l.length ≤ S ∧ ∀ i v, l[i]? = some v → ∃ x, cs[z + i]? = some x ∧ (∀ ρ, VR ρ v x) ∧ x.oneCell' = true
theorem Holds.lt {w : World} {c z S : Nat} {l : List V} (h : Holds w c z S l) : c < w.heap.size := by
  obtain ⟨cs, el, fz, h1, _⟩ := h.at_
  exact (Array.getElem?_eq_some_iff.1 h1).1
theorem tree_of (l : List V) : ∃ t, Wf t 1 l.length ∧ ∀ j, t.cell 1 j = l[j]? := by
  obtain ⟨t, _, h2, h3⟩ := chopk_law (g := 1) (by omega) (wf_e (by omega)) (l := l) (m := l.length) (by omega)
  exact ⟨t, by simpa using h2, fun j => by simpa using h3 j⟩
theorem Holds.arr {ρ : Rho} {w : World} {c z S : Nat} {l : List V} (h : Holds w c z S l) {t : T} (w1 : Wf t 1 l.length) (hc : ∀ j, t.cell 1 j = l[j]?) : ∃ cs, ArrR ρ w c z S 1 l.length t true cs := by
  obtain ⟨cs, el, fz, h1, h2, h3, h4⟩ := h.at_
  refine ⟨cs, by omega, ⟨el, fz, h1, fun h => by cases h⟩, h2, by omega, fun j ch hj => ?_⟩
  have h5 := w1.len _ _ hj
  have h6 := w1.shape.get_lt hj
  refine ⟨h6, h5, fun i v hi => ?_⟩
  have h7 : i = 0 := by have := (List.getElem?_eq_some_iff.1 hi).1; omega
  subst h7
  have h8 := hc j
  simp only [T.cell, Nat.div_one, hj, Option.bind_some, Nat.mod_one, hi] at h8
  obtain ⟨x, h9, h10, h11⟩ := h4 j v h8.symm
  exact ⟨x, by simpa using h9, h10 ρ, h11⟩

abbrev gb0 : Bid := ⟨0, .d0, .d0, .d0, .d0⟩
abbrev gb1 : Bid := ⟨0, .d0, .d0, .d0, .d1⟩
abbrev gb2 : Bid := ⟨0, .d0, .d0, .d0, .d2⟩
theorem gb_ge {b : Bid} (h : gb2.val ≤ b.val) : b ≠ gb0 ∧ b ≠ gb1 := by
  refine ⟨?_, ?_⟩
  · rintro rfl; revert h; decide
  · rintro rfl; revert h; decide
/-- the memory at the call: the table; the argument's cells -/
noncomputable def doorHeap (x0 x1 : Blk) : Heap := ⟨(HT.empty.set gb0 x0).set gb1 x1, gb2⟩
theorem doorHeap_get0 (x0 x1 : Blk) : (doorHeap x0 x1).t.get gb0 = x0 := by
  unfold doorHeap
  rw [HT.get_set_ne _ (by intro h; cases h), HT.get_set]
theorem doorHeap_get1 (x0 x1 : Blk) : (doorHeap x0 x1).t.get gb1 = x1 := by
  unfold doorHeap
  rw [HT.get_set]
theorem doorHeap_ne (x0 x1 : Blk) {b : Bid} (h0 : b ≠ gb0) (h1 : b ≠ gb1) : (doorHeap x0 x1).t.get b = .none := by
  unfold doorHeap
  rw [HT.get_set_ne _ h1, HT.get_set_ne _ h0, HT.get_empty]
open Classical in
noncomputable def doorRho (r0 : Nat × Nat × Nat) (r1 : Option (Nat × Nat × Nat)) : Rho := fun b => if b = gb0 then some r0 else if b = gb1 then r1 else none
theorem doorRho0 (r0 r1) : doorRho r0 r1 gb0 = some r0 := by simp [doorRho]
theorem doorRho1 (r0 r1) : doorRho r0 r1 gb1 = r1 := by simp [doorRho]
theorem doorRho_ne (r0 r1) {b : Bid} (h0 : b ≠ gb0) (h1 : b ≠ gb1) : doorRho r0 r1 b = none := by simp [doorRho, h0, h1]

/-- what holds at the call -/
structure Door (w : World) (l0 : List V) (ρ : Rho) (h : Heap) : Prop where
  rh : RH ρ h w
  nx : h.nx = gb2
  glob : GlobR ρ 1
  row : RowO true (h.t.get gb0) 1 l0
  ro : ∀ c, ¬ Wr ρ h c
theorem door1_at {w : World} {S0 : Nat} {l0 : List V} (A : Holds w 0 0 S0 l0) {t0 : T} (w0 : Wf t0 1 l0.length) (c0 : ∀ j, t0.cell 1 j = l0[j]?) :
    Door w l0 (doorRho (0, 0, S0) none) (doorHeap (.arr 1 l0.length t0 true) .none) := by
  refine ⟨⟨?_, ?_, ?_, ?_, ?_⟩, rfl, ?_, ?_, ?_⟩
  · intro b c z S h
    by_cases h0 : b = gb0
    · subst h0; rw [doorRho0] at h; cases h; exact A.lt
    · by_cases h1 : b = gb1
      · subst h1; rw [doorRho1] at h; cases h
      · rw [doorRho_ne _ _ h0 h1] at h; cases h
  · intro b hb
    obtain ⟨h0, h1⟩ := gb_ge hb
    exact ⟨doorRho_ne _ _ h0 h1, doorHeap_ne _ _ h0 h1⟩
  · intro b b' c z S z' S' hb hb' h h'
    by_cases h0 : b = gb0
    · by_cases h0' : b' = gb0
      · rw [h0, h0']
      · by_cases h1' : b' = gb1
        · subst h1'; rw [doorHeap_get1] at hb'; exact absurd rfl hb'
        · exact absurd (doorHeap_ne _ _ h0' h1') hb'
    · by_cases h1 : b = gb1
      · subst h1; rw [doorHeap_get1] at hb; cases hb
      · rw [doorHeap_ne _ _ h0 h1] at hb; cases hb
  · intro b c z S g n t ro h hg
    by_cases h0 : b = gb0
    · subst h0; rw [doorRho0] at h; cases h; rw [doorHeap_get0] at hg; cases hg; exact A.arr w0 c0
    · by_cases h1 : b = gb1
      · subst h1; rw [doorRho1] at h; cases h
      · rw [doorRho_ne _ _ h0 h1] at h; cases h
  · intro b c z S es h hg
    by_cases h0 : b = gb0
    · subst h0; rw [doorHeap_get0] at hg; cases hg
    · by_cases h1 : b = gb1
      · subst h1; rw [doorRho1] at h; cases h
      · rw [doorRho_ne _ _ h0 h1] at h; cases h
  · intro g hg
    obtain rfl : g = 0 := by omega
    exact ⟨S0, doorRho0 _ _⟩
  · rw [doorHeap_get0]
    exact ⟨l0.length, t0, rfl, w0, by omega, c0⟩
  · rintro c ⟨b, z, S, h, hw⟩
    by_cases h0 : b = gb0
    · subst h0; rw [doorHeap_get0] at hw; cases hw
    · by_cases h1 : b = gb1
      · subst h1; rw [doorRho1] at h; cases h
      · rw [doorRho_ne _ _ h0 h1] at h; cases h
theorem door1 {w : World} {S0 : Nat} {l0 : List V} (A : Holds w 0 0 S0 l0) : ∃ ρ h, Door w l0 ρ h := by
  obtain ⟨t0, w0, c0⟩ := tree_of l0
  exact ⟨_, _, door1_at A w0 c0⟩
theorem door2_at {w : World} {S0 : Nat} {l0 : List V} (A : Holds w 0 0 S0 l0) {c1 z1 S1 : Nat} {l1 : List V} (B : Holds w c1 z1 S1 l1) (hc : c1 ≠ 0)
    {t0 t1 : T} (w0 : Wf t0 1 l0.length) (c0 : ∀ j, t0.cell 1 j = l0[j]?) (w1 : Wf t1 1 l1.length) (d1 : ∀ j, t1.cell 1 j = l1[j]?) :
    Door w l0 (doorRho (0, 0, S0) (some (c1, z1, S1))) (doorHeap (.arr 1 l0.length t0 true) (.arr 1 l1.length t1 true)) ∧ RowO true ((doorHeap (.arr 1 l0.length t0 true) (.arr 1 l1.length t1 true)).t.get gb1) 1 l1 := by
  refine ⟨⟨⟨?_, ?_, ?_, ?_, ?_⟩, rfl, ?_, ?_, ?_⟩, ?_⟩
  · intro b c z S h
    by_cases h0 : b = gb0
    · subst h0; rw [doorRho0] at h; cases h; exact A.lt
    · by_cases h1 : b = gb1
      · subst h1; rw [doorRho1] at h; cases h; exact B.lt
      · rw [doorRho_ne _ _ h0 h1] at h; cases h
  · intro b hb
    obtain ⟨h0, h1⟩ := gb_ge hb
    exact ⟨doorRho_ne _ _ h0 h1, doorHeap_ne _ _ h0 h1⟩
  · intro b b' c z S z' S' hb hb' h h'
    by_cases h0 : b = gb0
    · by_cases h0' : b' = gb0
      · rw [h0, h0']
      · by_cases h1' : b' = gb1
        · subst h0; subst h1'; rw [doorRho0] at h; rw [doorRho1] at h'; cases h; cases h'; exact absurd rfl hc
        · exact absurd (doorHeap_ne _ _ h0' h1') hb'
    · by_cases h1 : b = gb1
      · by_cases h0' : b' = gb0
        · subst h1; subst h0'; rw [doorRho1] at h; rw [doorRho0] at h'; cases h; cases h'; exact absurd rfl hc
        · by_cases h1' : b' = gb1
          · rw [h1, h1']
          · exact absurd (doorHeap_ne _ _ h0' h1') hb'
      · rw [doorHeap_ne _ _ h0 h1] at hb; cases hb
  · intro b c z S g n t ro h hg
    by_cases h0 : b = gb0
    · subst h0; rw [doorRho0] at h; cases h; rw [doorHeap_get0] at hg; cases hg; exact A.arr w0 c0
    · by_cases h1 : b = gb1
      · subst h1; rw [doorRho1] at h; cases h; rw [doorHeap_get1] at hg; cases hg; exact B.arr w1 d1
      · rw [doorRho_ne _ _ h0 h1] at h; cases h
  · intro b c z S es h hg
    by_cases h0 : b = gb0
    · subst h0; rw [doorHeap_get0] at hg; cases hg
    · by_cases h1 : b = gb1
      · subst h1; rw [doorHeap_get1] at hg; cases hg
      · rw [doorRho_ne _ _ h0 h1] at h; cases h
  · intro g hg
    obtain rfl : g = 0 := by omega
    exact ⟨S0, doorRho0 _ _⟩
  · rw [doorHeap_get0]
    exact ⟨l0.length, t0, rfl, w0, by omega, c0⟩
  · rintro c ⟨b, z, S, h, hw⟩
    by_cases h0 : b = gb0
    · subst h0; rw [doorHeap_get0] at hw; cases hw
    · by_cases h1 : b = gb1
      · subst h1; rw [doorHeap_get1] at hw; cases hw
      · rw [doorRho_ne _ _ h0 h1] at h; cases h
  · rw [doorHeap_get1]
    exact ⟨l1.length, t1, rfl, w1, by omega, d1⟩

theorem door2 {w : World} {S0 : Nat} {l0 : List V} (A : Holds w 0 0 S0 l0) {c1 z1 S1 : Nat} {l1 : List V} (B : Holds w c1 z1 S1 l1) (hc : c1 ≠ 0) :
    ∃ ρ h, Door w l0 ρ h ∧ ρ gb1 = some (c1, z1, S1) ∧ RowO true (h.t.get gb1) 1 l1 := by
  obtain ⟨t0, w0, c0⟩ := tree_of l0
  obtain ⟨t1, w1, d1⟩ := tree_of l1
  obtain ⟨d, r⟩ := door2_at A B hc w0 c0 w1 d1
  exact ⟨_, _, d, doorRho1 _ _, r⟩
/-- two package-level variables -/
theorem glob2 {S0 S1 : Nat} : GlobR (doorRho (0, 0, S0) (some (1, 0, S1))) 2 := by
  intro g hg
  have : g = 0 ∨ g = 1 := by omega
  rcases this with rfl | rfl
  · exact ⟨S0, doorRho0 _ _⟩
  · exact ⟨S1, doorRho1 _ _⟩
/-- the cells of a package-level table -/
theorem holds_table {P : Program} {w : World} {name : String} {k : IntKind} {zs : List Int} (hg : P.globalNamed name = some 0) (h : w.var? P name = some (zs.map fun z => Value.int k z).toArray) :
    Holds w 0 0 zs.length (zs.map (V.int k)) := by
  unfold World.var? at h
  rw [hg] at h
  simp only [Option.bind_some] at h
  split at h
  · rename_i cs el fz hh
    cases h
    refine ⟨_, el, fz, hh, by simp, by simp, fun i v hv => ?_⟩
    rw [List.getElem?_map] at hv
    obtain ⟨z, hz, rfl⟩ := Option.map_eq_some_iff.1 hv
    exact ⟨.int k z, by simp [hz], fun _ => .int k z, rfl⟩
  · cases h
/-- a slice of integers that came in -/
theorem holds_ints {w : World} {b off : Nat} {k : IntKind} {zs : List Int} (h : ∀ j, j < zs.length → w.cell? ⟨b, off + j, none⟩ = some (.int k (zs.getD j 0))) (hp : 0 < zs.length) :
    ∃ S, Holds w b off S (zs.map (V.int k)) := by
  have h0 := h 0 hp
  unfold World.cell? at h0
  split at h0
  · rename_i cs el fz hh
    have hc : ∀ j, j < zs.length → cs[off + j]? = some (.int k (zs.getD j 0)) := fun j hj => by
      have := h j hj
      unfold World.cell? at this
      simpa [hh] using this
    refine ⟨cs.size, cs, el, fz, hh, rfl, ?_, fun i v hv => ?_⟩
    · have := (Array.getElem?_eq_some_iff.1 (hc (zs.length - 1) (by omega))).1
      simp; omega
    · rw [List.getElem?_map] at hv
      obtain ⟨z, hz, rfl⟩ := Option.map_eq_some_iff.1 hv
      have hi := (List.getElem?_eq_some_iff.1 hz).1
      exact ⟨.int k z, by rw [hc i hi]; simp [List.getD, hz], fun _ => .int k z, rfl⟩
  · cases h0

/-- the end of a call that wrote into nothing that was there -/
theorem Door.below {w : World} {l0 : List V} {ρ : Rho} {h : Heap} (d : Door w l0 ρ h) {h' : Heap} {e : Ending} {w' : World} (hc : Came ρ h w (.ret (.bool true) h') e w') :
    e = .returned (.bool true) ∧ Below w.heap.size w w' := by
  obtain ⟨ρ', y, rfl, hy, _, hx⟩ := hc
  cases hy
  exact ⟨rfl, hx.os, hx.tape, hx.output, hx.size, fun k hk => (hx.keep k hk (d.ro k)).1⟩
end Go.Ev
