/- EVALUATOR, 11: operations that make memory. -/
import Derived.Test.YtjppnjhchojldaaEvBuild
namespace Go.Ev
variable {P : Program}

theorem VR.ptr_new (ρ : Rho) (b : Bid) (c S : Nat) : VR (ρ.put b (c, 0, S)) (.ptr b 0) (.pointer (some ⟨c, 0, none⟩)) := by
  have := VR.ptr (o := 0) (Rho.put_same ρ b (c, 0, S))
  simpa using this

/- 'new' AND VARIABLES: g cells a chunk, n chunks -/
noncomputable def sAlloc (g n : Nat) (t : T) (h : Heap) (k : V → Heap → Res) : Res := h.newk (.arr g n t false) fun b h' => k (.ptr b 0) h'
/-- the zero value's cells, in chunks -/
structure ZeroT (P : Program) (t : TypeId) (g n : Nat) (tr : T) (l : List V) (z : Value) : Prop where
  zero : (P.info? t).bind (·.zero) = some z
  vr : ∀ ρ, VRs ρ l z.cells.toList
  one : ∀ y ∈ z.cells.toList, y.oneCell' = true
  pos : 0 < g
  len : l.length = n * g
  get : ∀ (j : Nat) (ch : List V), tr.get j = some ch → j < n ∧ ch = (l.drop (j * g)).take g
theorem run_zero {w : World} {t : TypeId} {z : Value} (h : (P.info? t).bind (·.zero) = some z) : (zeroValue t).run P w = .ok z w := by
  obtain ⟨i, h1, h2⟩ := Option.bind_eq_some_iff.1 h
  simp [zeroValue, typeInfo, h1, h2]
theorem sAlloc_ok {g n : Nat} {tr : T} {h : Heap} {k : V → Heap → Res} {r : Res} (hh : sAlloc g n tr h k = r) (hr : r ≠ .fail) {ρ : Rho} {w : World} (rh : RH ρ h w) {t : TypeId} {l : List V} {z : Value}
    (hz : ZeroT P t g n tr l z) : Ok P ρ h w (Instr.alloc t true (.tuple #[])) k r := by
  obtain ⟨nx, h1, h2⟩ := Heap.newk_ok hh hr
  have hvr := hz.vr ρ
  have hlen : l.length = z.cells.size := by have := hvr.length; simpa using this
  obtain ⟨h3, h4⟩ := new_cells rh h1 hz.pos (l := l) (cs := z.cells) (by rw [List.take_of_length_le (by simp; omega)]; exact hvr) hz.one hz.len hz.get t (fz := (0, 0)) (.inl rfl) (by omega)
  exact ⟨_, _, _, .pointer (some ⟨w.heap.size, 0, none⟩), _, h2, by simp [Instr.alloc, run_zero hz.zero, newVar, newRow], VR.ptr_new _ _ _ _, h3, h4⟩

/- BOXES -/
noncomputable def sBox (x : V) (h : Heap) (k : V → Heap → Res) : Res := partsk x fun n l => zk n .fail (h.newk (.arr n 1 (.lf l) false) fun b h' => k (.ptr b 0) h')
theorem zk_pos {n : Nat} {x r : Res} (h : zk n .fail x = r) (hr : r ≠ .fail) : 0 < n ∧ x = r := by
  cases n
  · exact absurd h.symm hr
  · exact ⟨by omega, h⟩
theorem sBox_ok {x : V} {h : Heap} {k : V → Heap → Res} {r : Res} (hh : sBox x h k = r) (hr : r ≠ .fail) {ρ : Rho} {w : World} (rh : RH ρ h w) {v : Value} (hv : VR ρ x v) (t : TypeId) :
    Ok P ρ h w (Instr.box t v) k r := by
  obtain ⟨n, l, h1, h2, h3, h4⟩ := partsk_ok hh hr hv
  obtain ⟨hn, h5⟩ := zk_pos h1 hr
  obtain ⟨nx, h6, h7⟩ := Heap.newk_ok h5 hr
  have hlen : l.length = v.cells.size := by have := h2.length; simpa using this
  obtain ⟨h8, h9⟩ := new_cells rh h6 hn (n := 1) (t := .lf l) (l := l) (cs := v.cells) (by rw [List.take_of_length_le (by simp; omega)]; exact h2) h4 (by omega) (fun j ch hj => by
    simp only [T.get] at hj
    split at hj
    · subst j; cases hj; exact ⟨by omega, by rw [Nat.zero_mul, List.drop_zero, List.take_of_length_le (by omega)]⟩
    · cases hj) t (fz := (0, 0)) (.inl rfl) (by omega)
  exact ⟨_, _, _, .pointer (some ⟨w.heap.size, 0, none⟩), _, h7, by simp [Instr.box, newVar, newRow], VR.ptr_new _ _ _ _, h8, h9⟩

/- STRUCTS AND ARRAYS OUT OF PARTS -/
noncomputable def sBuild (n : Nat) (tmpl : List V) (ps : List (Nat × Nat × V)) (h : Heap) (k : V → Heap → Res) : Res := fillk ps tmpl fun l => k (.agg n l) h
theorem VRs.len_eq {ρ : Rho} {l : List V} {cs : Array Value} (h : VRs ρ l cs.toList) : l.length = cs.size := by simpa using h.length
theorem fill_size {place : Nat → Option (Nat × Nat)} : ∀ {vs : List (Nat × Value)} {cells cells' : Array Value}, Instr.fill place cells vs = some cells' → cells'.size = cells.size
  | [], cells, cells', h => by simp only [Instr.fill, Option.some.injEq] at h; rw [h]
  | (i, v) :: vs, cells, cells', h => by
    simp only [Instr.fill] at h
    split at h
    · cases h
    · split at h
      · cases h
      · rw [fill_size h]
        rw [← Array.foldl_toList, Array.toList_zipIdx]
        exact foldl_size _ _ _ _
/-- where the fields of a struct lie -/
def places (P : Program) (fields : Array Field) : Option (Array (Nat × Nat)) := fields.mapM fun f => (sz P f.type).map fun n => (f.offset, n)
theorem run_places {w : World} : ∀ {fs : List Field} {l : List (Nat × Nat)}, fs.mapM (fun f => (sz P f.type).map fun n => (f.offset, n)) = some l →
    (fs.mapM (fun f => do pure (f.offset, ← sizeOf f.type) : Field → Sem (Nat × Nat))).run P w = .ok l w
  | [], l, h => by simp at h; subst h; rfl
  | f :: fs, l, h => by
    rw [List.mapM_cons] at h ⊢
    cases hs : sz P f.type with
    | none => rw [hs] at h; simp at h
    | some n =>
      rw [hs] at h
      simp only [Option.map_some, Option.bind_eq_bind, Option.bind_some] at h
      cases hm : fs.mapM (fun f => (sz P f.type).map fun n => (f.offset, n)) with
      | none => rw [hm] at h; simp at h
      | some m =>
        rw [hm] at h
        simp at h
        subst h
        simp only [Sem.run_bind, run_size hs, Result.andThen_ok, Sem.run_pure, run_places hm]
theorem sBuild_ok {n : Nat} {tmpl : List V} {ps : List (Nat × Nat × V)} {h : Heap} {k : V → Heap → Res} {r : Res} (hh : sBuild n tmpl ps h k = r) (hr : r ≠ .fail) {ρ : Rho} {w : World} (_ : RH ρ h w)
    {t : TypeId} {z : Value} (hz : (P.info? t).bind (·.zero) = some z) (hzv : VRs ρ tmpl z.cells.toList) (hz1 : ∀ y ∈ z.cells.toList, y.oneCell' = true) (hn : tmpl.length = n)
    {fields : Array Field} {pl : Array (Nat × Nat)} (ht : P.underlying t = some (.struct fields)) (hpl : places P fields = some pl) {vs : Array (Nat × Value)} (hf : FillR ρ (pl[·]?) ps vs.toList) :
    OkP P ρ h w (Instr.build t vs) k r := by
  obtain ⟨l, cells', h1, h2, h3, h4⟩ := fillk_ok hh hr hf hzv hz1
  have hsz := fill_size h2
  have e1 := h3.len_eq
  have e2 := hzv.len_eq
  refine ⟨_, .agg cells', h1, ?_, .agg h3 h4 (by omega)⟩
  have hpl' : (fields.mapM (fun f => do pure (f.offset, ← sizeOf f.type) : Field → Sem (Nat × Nat))).run P w = .ok pl w := by
    unfold places at hpl
    rw [Array.mapM_eq_mapM_toList] at hpl ⊢
    cases hm : fields.toList.mapM (fun f => (sz P f.type).map fun n => (f.offset, n)) with
    | none => rw [hm] at hpl; cases hpl
    | some m =>
      rw [hm] at hpl
      cases hpl
      simp only [Sem.run_map, run_places hm, Result.andThen_ok]
  simp only [Instr.build, Sem.run_bind, run_zero hz, Result.andThen_ok, run_und ht, hpl', h2]
  rfl
theorem sBuildA_ok {n : Nat} {tmpl : List V} {ps : List (Nat × Nat × V)} {h : Heap} {k : V → Heap → Res} {r : Res} (hh : sBuild n tmpl ps h k = r) (hr : r ≠ .fail) {ρ : Rho} {w : World} (_ : RH ρ h w)
    {t : TypeId} {z : Value} (hz : (P.info? t).bind (·.zero) = some z) (hzv : VRs ρ tmpl z.cells.toList) (hz1 : ∀ y ∈ z.cells.toList, y.oneCell' = true) (hn : tmpl.length = n)
    {m s : Nat} {e : TypeId} (ht : P.underlying t = some (.array m e)) (hs : sz P e = some s) {vs : Array (Nat × Value)} (hf : FillR ρ (fun i => some (i * s, s)) ps vs.toList) :
    OkP P ρ h w (Instr.build t vs) k r := by
  obtain ⟨l, cells', h1, h2, h3, h4⟩ := fillk_ok hh hr hf hzv hz1
  have hsz := fill_size h2
  have e1 := h3.len_eq
  have e2 := hzv.len_eq
  refine ⟨_, .agg cells', h1, ?_, .agg h3 h4 (by omega)⟩
  simp only [Instr.build, Sem.run_bind, run_zero hz, Result.andThen_ok, run_und ht, run_size hs, h2]
  rfl

/- SLICES OUT OF PARTS -/
noncomputable def sBuildS (g n : Nat) (tmpl : List V) (ps : List (Nat × Nat × V)) (h : Heap) (k : V → Heap → Res) : Res :=
  fillk ps tmpl fun l => rowk g n l fun t => h.newk (.arr g n t false) fun b h' => k (.slice b 0 n (some n) g) h'
theorem VR.slice_new (ρ : Rho) (b : Bid) (c S n g : Nat) {l : Nat} (hl : l ≤ n) : VR (ρ.put b (c, 0, S)) (.slice b 0 l (some n) g) (.slice (some ⟨c, 0, none⟩) l n) := by
  have := VR.slice (o := 0) (l := l) (cp := some n) (s := g) (cap := n) (Rho.put_same ρ b (c, 0, S)) (fun m e => by cases e; rfl) (fun e => by cases e) hl
  simpa using this
theorem sBuildS_ok {g n : Nat} {tmpl : List V} {ps : List (Nat × Nat × V)} {h : Heap} {k : V → Heap → Res} {r : Res} (hh : sBuildS g n tmpl ps h k = r) (hr : r ≠ .fail) {ρ : Rho} {w : World}
    (rh : RH ρ h w) {t e : TypeId} (ht : P.underlying t = some (.slice e)) (hg : sz P e = some g) (hpos : 0 < g) (hlim : n * g ≤ 2 ^ 24) {z : Value} (hz : n * g ≠ 0 → (P.info? e).bind (·.zero) = some z)
    (hzv : VRs ρ tmpl ((Array.range (n * g)).map ((if n * g = 0 then #[] else z.cells)[· % (if n * g = 0 then #[] else z.cells).size]!)).toList)
    (hz1 : ∀ y ∈ ((Array.range (n * g)).map ((if n * g = 0 then #[] else z.cells)[· % (if n * g = 0 then #[] else z.cells).size]!)).toList, y.oneCell' = true)
    {vs : Array (Nat × Value)} (hf : FillR ρ (fun i => some (i * g, g)) ps vs.toList) : Ok P ρ h w (Instr.buildSlice t n vs) k r := by
  obtain ⟨l, cells', h1, h2, h3, h4⟩ := fillk_ok hh hr hf hzv hz1
  obtain ⟨tr, h5, h6, h7⟩ := rowk_ok h1 hr
  obtain ⟨nx, h8, h9⟩ := Heap.newk_ok h5 hr
  have hlen := h3.len_eq
  obtain ⟨h10, h11⟩ := new_cells rh h8 hpos (l := l) (cs := cells') (by rw [List.take_of_length_le (by simp; omega)]; exact h3) h4 h6 h7 e (fz := (0, 0)) (.inl rfl) (by omega)
  refine ⟨_, _, _, .slice (some ⟨w.heap.size, 0, none⟩) n n, _, h9, ?_, VR.slice_new _ _ _ _ _ _ (Nat.le_refl _), h10, h11⟩
  have hlim' : ¬ n * g > 2 ^ 24 := by omega
  simp only [Instr.buildSlice, Sem.run_bind, run_und ht, Result.andThen_ok, run_size hg, Sem.run_ite]
  rw [if_neg hlim']
  by_cases h0 : n * g = 0
  · rw [if_pos h0]
    simp only [if_pos h0] at h2
    simp only [Sem.run_pure, Result.andThen_ok, h2]
    simp [newRow]
  · rw [if_neg h0]
    simp only [if_neg h0] at h2
    simp only [run_zero (hz h0), Result.andThen_ok, Sem.run_pure, h2]
    simp [newRow]
end Go.Ev
