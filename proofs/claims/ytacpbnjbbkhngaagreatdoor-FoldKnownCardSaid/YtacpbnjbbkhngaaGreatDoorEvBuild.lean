/- EvBuild: texts joined. -/
import Derived.Test.YtacpbnjbbkhngaaGreatDoorEvOps
/- EVALUATOR, 10: values that are made of parts; new blocks. -/
namespace Go.Ev
variable {P : Program}

/-- the cells of a value, and how many they are -/
noncomputable def partsk (x : V) (k : Nat → List V → Res) : Res :=
  V.rec (motive_1 := fun _ => (Nat → List V → Res) → V → Res) (motive_2 := fun _ => PUnit) (fun _ _ => .fail) (fun _ _ => .fail) (fun _ k x => k 1 [x]) (fun _ _ k x => k 1 [x]) (fun _ _ k x => k 1 [x])
    (fun k x => k 1 [x]) (fun _ _ k x => k 1 [x]) (fun k x => k 1 [x]) (fun _ _ _ _ _ k x => k 1 [x]) (fun k x => k 1 [x]) (fun k x => k 1 [x]) (fun _ k x => k 1 [x]) (fun k x => k 1 [x])
    (fun _ _ _ k x => k 1 [x]) (fun k x => k 1 [x]) (fun _ _ _ k x => k 1 [x]) (fun n l _ k _ => k n l) (fun _ _ _ _ => .fail) PUnit.unit (fun _ _ _ _ => PUnit.unit) x k x
theorem partsk_ok {x : V} {k : Nat → List V → Res} {r : Res} (h : partsk x k = r) (hr : r ≠ .fail) {ρ : Rho} {v : Value} (hv : VR ρ x v) :
    ∃ n l, k n l = r ∧ VRs ρ l v.cells.toList ∧ l.length = n ∧ ∀ y ∈ v.cells.toList, y.oneCell' = true := by
  cases x
  case agg n l =>
    obtain ⟨cs, rfl, h1, h2, h3⟩ := hv.agg_inv
    exact ⟨n, l, h, h1, h3, h2⟩
  case und => exact absurd h.symm hr
  case skip => exact absurd h.symm hr
  case tup l => exact absurd h.symm hr
  all_goals
    refine ⟨1, [_], h, ?_, rfl, ?_⟩
    · have hv' := hv; cases hv <;> exact .cons hv' .nil
    · cases hv <;> (intro y hy; simp [Value.cells] at hy; subst hy; rfl)

/- PARTS PUT INTO A ROW OF CELLS: (where, how many, the value) -/
noncomputable def fillk (ps : List (Nat × Nat × V)) : List V → (List V → Res) → Res :=
  List.rec (motive := fun _ => List V → (List V → Res) → Res) (fun cur k => k cur)
    (fun p _ ih cur k => Prod.rec (motive := fun _ => Res) (fun off q => Prod.rec (motive := fun _ => Res) (fun n x =>
      partsk x fun m l => ifk (Nat.beq m n) (takek off cur fun a rest => takek n rest fun _ b => appk l b fun c => appk a c fun cur' => ih cur' k) .fail) q) p) ps

theorem foldl_set (off : Nat) : ∀ (xs : List Value) (i : Nat) (cs : Array Value) (j : Nat),
    ((xs.zipIdx i).foldl (fun cs (c, j) => cs.setIfInBounds (off + j) c) cs)[j]? = if off + i ≤ j ∧ j < off + i + xs.length ∧ j < cs.size then xs[j - (off + i)]? else cs[j]?
  | [], i, cs, j => by rw [if_neg (by simp only [List.length_nil]; omega)]; rfl
  | x :: xs, i, cs, j => by
    rw [List.zipIdx_cons, List.foldl_cons, foldl_set off xs (i + 1)]
    simp only [Array.size_setIfInBounds, List.length_cons]
    by_cases h : off + i ≤ j ∧ j < off + i + (xs.length + 1) ∧ j < cs.size
    · rw [if_pos h]
      by_cases e : j = off + i
      · subst e
        rw [if_neg (by omega)]
        simp [h.2.2]
      · rw [if_pos (by omega)]
        have : j - (off + i) = (j - (off + (i + 1))) + 1 := by omega
        rw [this, List.getElem?_cons_succ]
    · rw [if_neg h]
      rw [if_neg (by omega)]
      by_cases e : off + i = j
      · subst e
        have hge : cs.size ≤ off + i := by omega
        rw [Array.setIfInBounds_eq_of_size_le hge]
      · rw [Array.getElem?_setIfInBounds_ne e]
theorem foldl_size (off : Nat) : ∀ (xs : List Value) (i : Nat) (cs : Array Value), ((xs.zipIdx i).foldl (fun cs (c, j) => cs.setIfInBounds (off + j) c) cs).size = cs.size
  | [], _, _ => rfl
  | x :: xs, i, cs => by rw [List.zipIdx_cons, List.foldl_cons, foldl_size off xs]; simp

/-- what is to be filled in, and what the model is asked to fill in -/
def FillR (ρ : Rho) (place : Nat → Option (Nat × Nat)) : List (Nat × Nat × V) → List (Nat × Value) → Prop
  | [], [] => True
  | (off, n, x) :: ps, (i, v) :: vs => place i = some (off, n) ∧ VR ρ x v ∧ FillR ρ place ps vs
  | _, _ => False

theorem fillk_ok {ρ : Rho} {place : Nat → Option (Nat × Nat)} : ∀ {ps : List (Nat × Nat × V)} {vs : List (Nat × Value)} {cur : List V} {k : List V → Res} {r : Res} {cells : Array Value}, fillk ps cur k = r → r ≠ .fail →
    FillR ρ place ps vs → VRs ρ cur cells.toList → (∀ y ∈ cells.toList, y.oneCell' = true) →
    ∃ l cells', k l = r ∧ Instr.fill place cells vs = some cells' ∧ VRs ρ l cells'.toList ∧ (∀ y ∈ cells'.toList, y.oneCell' = true)
  | [], [], cur, k, r, cells, h, _, _, hc, h1 => ⟨cur, cells, h, rfl, hc, h1⟩
  | (off, n, x) :: ps, (i, v) :: vs, cur, k, r, cells, h, hr, ⟨hp, hx, hf⟩, hc, h1 => by
    change (partsk x fun m l => ifk (Nat.beq m n) (takek off cur fun a rest => takek n rest fun _ b => appk l b fun c => appk a c fun cur' => fillk ps cur' k) .fail) = r at h
    obtain ⟨m, l, h2, h3, h4, h5⟩ := partsk_ok h hr hx
    obtain ⟨h6, h7⟩ := ifk_fail h2 hr
    obtain rfl := Nat.eq_of_beq_eq_true h6
    obtain ⟨h8, h9⟩ := takek_ok h7 hr
    obtain ⟨h10, h11⟩ := takek_ok h9 hr
    rw [appk_eq, appk_eq] at h11
    have hl3 := h3.length
    have hlc := hc.length
    rw [List.length_drop] at h10
    have hvs : v.cells.size = m := by simpa using (hl3.symm.trans h4)
    have hcs : cells.size = cur.length := by simpa using hlc.symm
    let cells1 := v.cells.zipIdx.foldl (fun cs (c, j) => cs.setIfInBounds (off + j) c) cells
    have hsz1 : cells1.size = cells.size := by
      show (v.cells.zipIdx.foldl _ cells).size = _
      rw [← Array.foldl_toList, Array.toList_zipIdx]; exact foldl_size off _ _ _
    have hget : ∀ j, cells1[j]? = if off ≤ j ∧ j < off + m then v.cells[j - off]? else cells[j]? := by
      intro j
      show (v.cells.zipIdx.foldl _ cells)[j]? = _
      rw [← Array.foldl_toList, Array.toList_zipIdx, foldl_set]
      simp only [Nat.add_zero, Array.length_toList, hvs]
      by_cases hj : off ≤ j ∧ j < off + m
      · rw [if_pos (by omega), if_pos hj]; simp
      · rw [if_neg (by omega), if_neg hj]
    have hlist : cells1.toList = cells.toList.take off ++ (v.cells.toList ++ (cells.toList.drop off).drop m) := by
      apply List.ext_getElem?
      intro j
      rw [Array.getElem?_toList, hget]
      by_cases hj1 : j < off
      · rw [if_neg (by omega), List.getElem?_append_left (by simp only [List.length_take, Array.length_toList]; omega), List.getElem?_take_of_lt hj1, Array.getElem?_toList]
      · have e1 : (cells.toList.take off).length = off := by simp only [List.length_take, Array.length_toList]; omega
        rw [List.getElem?_append_right (by omega), e1]
        by_cases hj2 : j < off + m
        · rw [if_pos (by omega), List.getElem?_append_left (by simp only [Array.length_toList]; omega), Array.getElem?_toList]
        · rw [if_neg (by omega), List.getElem?_append_right (by simp only [Array.length_toList]; omega), List.getElem?_drop, List.getElem?_drop, Array.getElem?_toList]
          congr 1; simp only [Array.length_toList]; omega
    have hc1 : VRs ρ (cur.take off ++ (l ++ (cur.drop off).drop m)) cells1.toList := by
      rw [hlist]; exact (hc.take off).append (h3.append ((hc.drop off).drop m))
    have h11c : ∀ y ∈ cells1.toList, y.oneCell' = true := by
      intro y hy
      rw [hlist] at hy
      rcases List.mem_append.1 hy with hy | hy
      · exact h1 y (List.mem_of_mem_take hy)
      · rcases List.mem_append.1 hy with hy | hy
        · exact h5 y hy
        · exact h1 y (List.mem_of_mem_drop (List.mem_of_mem_drop hy))
    obtain ⟨l', cells', g1, g2, g3, g4⟩ := fillk_ok h11 hr hf hc1 h11c
    refine ⟨l', cells', g1, ?_, g3, g4⟩
    simp only [Instr.fill, hp]
    rw [if_neg ?_]
    · exact g2
    · simp [hvs]; omega
  | [], _ :: _, _, _, _, _, _, _, h, _, _ => h.elim
  | _ :: _, [], _, _, _, _, _, _, h, _, _ => h.elim

/- CHUNKS OF A LIST -/
noncomputable def chopk (g : Nat) (m : Nat) : Nat → List V → T → (T → Res) → Res :=
  Nat.rec (motive := fun _ => Nat → List V → T → (T → Res) → Res) (fun _ l t k => List.rec (motive := fun _ => Res) (k t) (fun _ _ _ => .fail) l)
    (fun _ ih i l t k => takek g l fun c rest => t.setk i c fun t' => ih (Nat.succ i) rest t' k) m
theorem chopk_ok {g m i : Nat} {l : List V} {t : T} {k : T → Res} {r : Res} (h : chopk g m i l t k = r) (hr : r ≠ .fail) : ∃ t', k t' = r ∧ l.length = m * g ∧
    ∀ j, t'.get j = if i ≤ j ∧ j < i + m then some ((l.drop ((j - i) * g)).take g) else t.get j := by
  induction m generalizing i l t with
  | zero =>
    cases l with
    | nil => exact ⟨t, h, by simp, fun j => by rw [if_neg (by omega)]⟩
    | cons v l => exact absurd h.symm hr
  | succ m ih =>
    change (takek g l fun c rest => t.setk i c fun t' => chopk g m (Nat.succ i) rest t' k) = r at h
    obtain ⟨h1, h2⟩ := takek_ok h hr
    obtain ⟨t1, h3, h4⟩ := T.setk_ok h2 hr
    obtain ⟨t', h5, h6, h7⟩ := ih h4
    rw [List.length_drop] at h6
    refine ⟨t', h5, by rw [Nat.succ_mul]; omega, fun j => ?_⟩
    rw [h7, T.get_set h3]
    by_cases e : j = i
    · subst e
      rw [if_neg (by omega), if_pos rfl, if_pos (by omega)]
      simp
    · by_cases hj : i + 1 ≤ j ∧ j < i + 1 + m
      · rw [if_pos (by simpa using hj), if_pos (by omega)]
        congr 2
        rw [List.drop_drop]
        congr 1
        obtain ⟨d, rfl⟩ : ∃ d, j = i + 1 + d := ⟨j - (i + 1), by omega⟩
        have e1 : i + 1 + d - i.succ = d := by omega
        have e2 : i + 1 + d - i = d + 1 := by omega
        rw [e1, e2, Nat.succ_mul]; omega
      · rw [if_neg (by simpa using hj), if_neg e, if_neg (by omega)]
/-- n chunks of g cells each -/
noncomputable def rowk (g n : Nat) (l : List V) (k : T → Res) : Res := ifk (Nat.beq n 1) (takek g l fun _ rest => List.rec (motive := fun _ => Res) (k (.lf l)) (fun _ _ _ => .fail) rest) (chopk g n 0 l .e k)
theorem rowk_ok {g n : Nat} {l : List V} {k : T → Res} {r : Res} (h : rowk g n l k = r) (hr : r ≠ .fail) : ∃ t, k t = r ∧ l.length = n * g ∧
    ∀ (j : Nat) (ch : List V), t.get j = some ch → j < n ∧ ch = (l.drop (j * g)).take g := by
  rcases ifk_ne h with ⟨hb, h1⟩ | ⟨_, h1⟩
  · obtain rfl : n = 1 := Nat.eq_of_beq_eq_true hb
    obtain ⟨h2, h3⟩ := takek_ok h1 hr
    cases hd : l.drop g with
    | cons v m => rw [hd] at h3; exact absurd h3.symm hr
    | nil =>
      rw [hd] at h3
      have : l.length ≤ g := List.drop_eq_nil_iff.1 hd
      refine ⟨_, h3, by omega, fun j ch hj => ?_⟩
      simp only [T.get] at hj
      split at hj
      · subst j; cases hj; exact ⟨by omega, by rw [Nat.zero_mul, List.drop_zero, List.take_of_length_le this]⟩
      · cases hj
  · obtain ⟨t, h2, h3, h4⟩ := chopk_ok h1 hr
    refine ⟨t, h2, h3, fun j ch hj => ?_⟩
    rw [h4] at hj
    split at hj
    · cases hj; exact ⟨by omega, by simp⟩
    · simp [T.get] at hj

/-- a new block of cells -/
theorem new_cells {ρ : Rho} {h : Heap} {w : World} (rh : RH P ρ h w) {g n : Nat} {t : T} {nx : Bid} (hn : h.nx.next = some nx) (hg : 0 < g) {l : List V} {cs : Array Value} (hl : VRs ρ l (cs.toList.take l.length))
    (h1 : ∀ y ∈ cs.toList, y.oneCell' = true) (hlen : l.length = n * g) (ht : ∀ (j : Nat) (ch : List V), t.get j = some ch → j < n ∧ ch = (l.drop (j * g)).take g) (el : TypeId) {fz : Nat × Nat}
    (hfz : Thaw fz cs.size g) (hle : l.length ≤ cs.size) :
    RH P (ρ.put h.nx (w.heap.size, 0, cs.size)) (h.new (.arr g n t false) nx) { w with heap := w.heap.push (.cells cs el fz) } ∧
    Ext ρ h w (ρ.put h.nx (w.heap.size, 0, cs.size)) (h.new (.arr g n t false) nx) { w with heap := w.heap.push (.cells cs el fz) } := by
  refine alloc rh hn (fun g' n' t' ro' e => ?_) (fun es e => by cases e)
  cases e
  refine ⟨cs, el, fz, hg, rfl, hfz, rfl, by omega, fun j ch hj => ?_⟩
  obtain ⟨h2, h3⟩ := ht j ch hj
  have hjg : (j + 1) * g ≤ n * g := Nat.mul_le_mul_right g h2
  rw [Nat.succ_mul] at hjg
  refine ⟨h2, by rw [h3]; simp only [List.length_take, List.length_drop]; omega, fun i v hi => ?_⟩
  rw [h3] at hi
  have hig : i < g := by have := (List.getElem?_eq_some_iff.1 hi).1; simp only [List.length_take, List.length_drop] at this; omega
  rw [List.getElem?_take_of_lt hig, List.getElem?_drop] at hi
  obtain ⟨x, h4, h5⟩ := hl.get hi
  have hlt : j * g + i < l.length := by omega
  rw [List.getElem?_take_of_lt hlt, Array.getElem?_toList] at h4
  exact ⟨x, h4, h5, h1 x (by rw [Array.mem_toList_iff]; exact Array.mem_of_getElem? h4)⟩
end Go.Ev

/- EVALUATOR, 11: operations that make memory. -/
namespace Go.Ev
variable {P : Program}

theorem VR.ptr_new (ρ : Rho) (b : Bid) (c S : Nat) : VR (ρ.put b (c, 0, S)) (.ptr b 0) (.pointer (some ⟨c, 0, none⟩)) := by
  have := VR.ptr (o := 0) (Rho.put_same ρ b (c, 0, S))
  simpa using this

/- 'new' AND VARIABLES: g cells a chunk, n chunks -/
noncomputable def sAlloc (g n : Nat) (t : T) (h : Heap) (k : V → Heap → Res) : Res := h.newk (.arr g n t false) fun b h' => k (.ptr b 0) h'
/-- the zero value's cells, in chunks -/
structure ZeroT (P : Program) (t : TypeId) (g n : Nat) (tr : T) (l : List V) (z : Value) : Prop where
  zero : (P.info? t).bind (·.zero) = some z
  vr : ∀ ρ, VRs ρ l z.cells.toList
  one : ∀ y ∈ z.cells.toList, y.oneCell' = true
  pos : 0 < g
  len : l.length = n * g
  get : ∀ (j : Nat) (ch : List V), tr.get j = some ch → j < n ∧ ch = (l.drop (j * g)).take g
theorem run_zero {w : World} {t : TypeId} {z : Value} (h : (P.info? t).bind (·.zero) = some z) : (zeroValue t).run P w = .ok z w := by
  obtain ⟨i, h1, h2⟩ := Option.bind_eq_some_iff.1 h
  simp [zeroValue, typeInfo, h1, h2]
theorem sAlloc_ok {g n : Nat} {tr : T} {h : Heap} {k : V → Heap → Res} {r : Res} (hh : sAlloc g n tr h k = r) (hr : r ≠ .fail) {ρ : Rho} {w : World} (rh : RH P ρ h w) {t : TypeId} {l : List V} {z : Value}
    (hz : ZeroT P t g n tr l z) : Ok P ρ h w (Instr.alloc t true (.tuple #[])) k r := by
  obtain ⟨nx, h1, h2⟩ := Heap.newk_ok hh hr
  have hvr := hz.vr ρ
  have hlen : l.length = z.cells.size := by have := hvr.length; simpa using this
  obtain ⟨h3, h4⟩ := new_cells rh h1 hz.pos (l := l) (cs := z.cells) (by rw [List.take_of_length_le (by simp; omega)]; exact hvr) hz.one hz.len hz.get t (fz := (0, 0)) (.inl rfl) (by omega)
  exact ⟨_, _, _, .pointer (some ⟨w.heap.size, 0, none⟩), _, h2, by simp [Instr.alloc, run_zero hz.zero, newVar, newRow], VR.ptr_new _ _ _ _, h3, h4⟩

/- BOXES -/
noncomputable def sBox (x : V) (h : Heap) (k : V → Heap → Res) : Res := partsk x fun n l => zk n .fail (h.newk (.arr n 1 (.lf l) false) fun b h' => k (.ptr b 0) h')
theorem zk_pos {n : Nat} {x r : Res} (h : zk n .fail x = r) (hr : r ≠ .fail) : 0 < n ∧ x = r := by
  cases n
  · exact absurd h.symm hr
  · exact ⟨by omega, h⟩
theorem sBox_ok {x : V} {h : Heap} {k : V → Heap → Res} {r : Res} (hh : sBox x h k = r) (hr : r ≠ .fail) {ρ : Rho} {w : World} (rh : RH P ρ h w) {v : Value} (hv : VR ρ x v) (t : TypeId) :
    Ok P ρ h w (Instr.box t v) k r := by
  obtain ⟨n, l, h1, h2, h3, h4⟩ := partsk_ok hh hr hv
  obtain ⟨hn, h5⟩ := zk_pos h1 hr
  obtain ⟨nx, h6, h7⟩ := Heap.newk_ok h5 hr
  have hlen : l.length = v.cells.size := by have := h2.length; simpa using this
  obtain ⟨h8, h9⟩ := new_cells rh h6 hn (n := 1) (t := .lf l) (l := l) (cs := v.cells) (by rw [List.take_of_length_le (by simp; omega)]; exact h2) h4 (by omega) (fun j ch hj => by
    simp only [T.get] at hj
    split at hj
    · subst j; cases hj; exact ⟨by omega, by rw [Nat.zero_mul, List.drop_zero, List.take_of_length_le (by omega)]⟩
    · cases hj) t (fz := (0, 0)) (.inl rfl) (by omega)
  exact ⟨_, _, _, .pointer (some ⟨w.heap.size, 0, none⟩), _, h7, by simp [Instr.box, newVar, newRow], VR.ptr_new _ _ _ _, h8, h9⟩

/- STRUCTS AND ARRAYS OUT OF PARTS -/
noncomputable def sBuild (n : Nat) (tmpl : List V) (ps : List (Nat × Nat × V)) (h : Heap) (k : V → Heap → Res) : Res := fillk ps tmpl fun l => k (.agg n l) h
theorem VRs.len_eq {ρ : Rho} {l : List V} {cs : Array Value} (h : VRs ρ l cs.toList) : l.length = cs.size := by simpa using h.length
theorem fill_size {place : Nat → Option (Nat × Nat)} : ∀ {vs : List (Nat × Value)} {cells cells' : Array Value}, Instr.fill place cells vs = some cells' → cells'.size = cells.size
  | [], cells, cells', h => by simp only [Instr.fill, Option.some.injEq] at h; rw [h]
  | (i, v) :: vs, cells, cells', h => by
    simp only [Instr.fill] at h
    split at h
    · cases h
    · split at h
      · cases h
      · rw [fill_size h]
        rw [← Array.foldl_toList, Array.toList_zipIdx]
        exact foldl_size _ _ _ _
/-- where the fields of a struct lie -/
def places (P : Program) (fields : Array Field) : Option (Array (Nat × Nat)) := fields.mapM fun f => (sz P f.type).map fun n => (f.offset, n)
theorem run_places {w : World} : ∀ {fs : List Field} {l : List (Nat × Nat)}, fs.mapM (fun f => (sz P f.type).map fun n => (f.offset, n)) = some l →
    (fs.mapM (fun f => do pure (f.offset, ← sizeOf f.type) : Field → Sem (Nat × Nat))).run P w = .ok l w
  | [], l, h => by simp at h; subst h; rfl
  | f :: fs, l, h => by
    rw [List.mapM_cons] at h ⊢
    cases hs : sz P f.type with
    | none => rw [hs] at h; simp at h
    | some n =>
      rw [hs] at h
      simp only [Option.map_some, Option.bind_eq_bind, Option.bind_some] at h
      cases hm : fs.mapM (fun f => (sz P f.type).map fun n => (f.offset, n)) with
      | none => rw [hm] at h; simp at h
      | some m =>
        rw [hm] at h
        simp at h
        subst h
        simp only [Sem.run_bind, run_size hs, Result.andThen_ok, Sem.run_pure, run_places hm]
theorem sBuild_ok {n : Nat} {tmpl : List V} {ps : List (Nat × Nat × V)} {h : Heap} {k : V → Heap → Res} {r : Res} (hh : sBuild n tmpl ps h k = r) (hr : r ≠ .fail) {ρ : Rho} {w : World} (_ : RH P ρ h w)
    {t : TypeId} {z : Value} (hz : (P.info? t).bind (·.zero) = some z) (hzv : VRs ρ tmpl z.cells.toList) (hz1 : ∀ y ∈ z.cells.toList, y.oneCell' = true) (hn : tmpl.length = n)
    {fields : Array Field} {pl : Array (Nat × Nat)} (ht : P.underlying t = some (.struct fields)) (hpl : places P fields = some pl) {vs : Array (Nat × Value)} (hf : FillR ρ (pl[·]?) ps vs.toList) :
    OkP P ρ h w (Instr.build t vs) k r := by
  obtain ⟨l, cells', h1, h2, h3, h4⟩ := fillk_ok hh hr hf hzv hz1
  have hsz := fill_size h2
  have e1 := h3.len_eq
  have e2 := hzv.len_eq
  refine ⟨_, .agg cells', h1, ?_, .agg h3 h4 (by omega)⟩
  have hpl' : (fields.mapM (fun f => do pure (f.offset, ← sizeOf f.type) : Field → Sem (Nat × Nat))).run P w = .ok pl w := by
    unfold places at hpl
    rw [Array.mapM_eq_mapM_toList] at hpl ⊢
    cases hm : fields.toList.mapM (fun f => (sz P f.type).map fun n => (f.offset, n)) with
    | none => rw [hm] at hpl; cases hpl
    | some m =>
      rw [hm] at hpl
      cases hpl
      simp only [Sem.run_map, run_places hm, Result.andThen_ok]
  simp only [Instr.build, Sem.run_bind, run_zero hz, Result.andThen_ok, run_und ht, hpl', h2]
  rfl
theorem sBuildA_ok {n : Nat} {tmpl : List V} {ps : List (Nat × Nat × V)} {h : Heap} {k : V → Heap → Res} {r : Res} (hh : sBuild n tmpl ps h k = r) (hr : r ≠ .fail) {ρ : Rho} {w : World} (_ : RH P ρ h w)
    {t : TypeId} {z : Value} (hz : (P.info? t).bind (·.zero) = some z) (hzv : VRs ρ tmpl z.cells.toList) (hz1 : ∀ y ∈ z.cells.toList, y.oneCell' = true) (hn : tmpl.length = n)
    {m s : Nat} {e : TypeId} (ht : P.underlying t = some (.array m e)) (hs : sz P e = some s) {vs : Array (Nat × Value)} (hf : FillR ρ (fun i => some (i * s, s)) ps vs.toList) :
    OkP P ρ h w (Instr.build t vs) k r := by
  obtain ⟨l, cells', h1, h2, h3, h4⟩ := fillk_ok hh hr hf hzv hz1
  have hsz := fill_size h2
  have e1 := h3.len_eq
  have e2 := hzv.len_eq
  refine ⟨_, .agg cells', h1, ?_, .agg h3 h4 (by omega)⟩
  simp only [Instr.build, Sem.run_bind, run_zero hz, Result.andThen_ok, run_und ht, run_size hs, h2]
  rfl

/- SLICES OUT OF PARTS -/
noncomputable def sBuildS (g n : Nat) (tmpl : List V) (ps : List (Nat × Nat × V)) (h : Heap) (k : V → Heap → Res) : Res :=
  fillk ps tmpl fun l => rowk g n l fun t => h.newk (.arr g n t false) fun b h' => k (.slice b 0 n (some n) g) h'
theorem VR.slice_new (ρ : Rho) (b : Bid) (c S n g : Nat) {l : Nat} (hl : l ≤ n) : VR (ρ.put b (c, 0, S)) (.slice b 0 l (some n) g) (.slice (some ⟨c, 0, none⟩) l n) := by
  have := VR.slice (o := 0) (l := l) (cp := some n) (s := g) (cap := n) (Rho.put_same ρ b (c, 0, S)) (fun m e => by cases e; rfl) (fun e => by cases e) hl
  simpa using this
theorem sBuildS_ok {g n : Nat} {tmpl : List V} {ps : List (Nat × Nat × V)} {h : Heap} {k : V → Heap → Res} {r : Res} (hh : sBuildS g n tmpl ps h k = r) (hr : r ≠ .fail) {ρ : Rho} {w : World}
    (rh : RH P ρ h w) {t e : TypeId} (ht : P.underlying t = some (.slice e)) (hg : sz P e = some g) (hpos : 0 < g) (hlim : n * g ≤ 2 ^ 24) {z : Value} (hz : n * g ≠ 0 → (P.info? e).bind (·.zero) = some z)
    (hzv : VRs ρ tmpl ((Array.range (n * g)).map ((if n * g = 0 then #[] else z.cells)[· % (if n * g = 0 then #[] else z.cells).size]!)).toList)
    (hz1 : ∀ y ∈ ((Array.range (n * g)).map ((if n * g = 0 then #[] else z.cells)[· % (if n * g = 0 then #[] else z.cells).size]!)).toList, y.oneCell' = true)
    {vs : Array (Nat × Value)} (hf : FillR ρ (fun i => some (i * g, g)) ps vs.toList) : Ok P ρ h w (Instr.buildSlice t n vs) k r := by
  obtain ⟨l, cells', h1, h2, h3, h4⟩ := fillk_ok hh hr hf hzv hz1
  obtain ⟨tr, h5, h6, h7⟩ := rowk_ok h1 hr
  obtain ⟨nx, h8, h9⟩ := Heap.newk_ok h5 hr
  have hlen := h3.len_eq
  obtain ⟨h10, h11⟩ := new_cells rh h8 hpos (l := l) (cs := cells') (by rw [List.take_of_length_le (by simp; omega)]; exact h3) h4 h6 h7 e (fz := (0, 0)) (.inl rfl) (by omega)
  refine ⟨_, _, _, .slice (some ⟨w.heap.size, 0, none⟩) n n, _, h9, ?_, VR.slice_new _ _ _ _ _ _ (Nat.le_refl _), h10, h11⟩
  have hlim' : ¬ n * g > 2 ^ 24 := by omega
  simp only [Instr.buildSlice, Sem.run_bind, run_und ht, Result.andThen_ok, run_size hg, Sem.run_ite]
  rw [if_neg hlim']
  by_cases h0 : n * g = 0
  · rw [if_pos h0]
    simp only [if_pos h0] at h2
    simp only [Sem.run_pure, Result.andThen_ok, h2]
    simp [newRow]
  · rw [if_neg h0]
    simp only [if_neg h0] at h2
    simp only [run_zero (hz h0), Result.andThen_ok, Sem.run_pure, h2]
    simp [newRow]
end Go.Ev
