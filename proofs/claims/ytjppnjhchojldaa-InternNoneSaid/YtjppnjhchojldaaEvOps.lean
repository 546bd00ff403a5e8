/- EVALUATOR, 8: operations on values and memory: loads, stores, fields, indexes, slices. -/
import Derived.Test.YtjppnjhchojldaaEvCast
namespace Go.Ev
variable {P : Program}

/-- what an operation comes to: one value, and a heap -/
def Ok (P : Program) (ρ : Rho) (h : Heap) (w : World) (s : Sem Value) (k : V → Heap → Res) (r : Res) : Prop :=
  ∃ u h' ρ' y w', k u h' = r ∧ s.run P w = .ok y w' ∧ VR ρ' u y ∧ RH ρ' h' w' ∧ Ext ρ h w ρ' h' w'
theorem Ok.pure {ρ : Rho} {h : Heap} {w : World} {s : Sem Value} {k : V → Heap → Res} {r : Res} (rh : RH ρ h w) (hh : ∃ u y, k u h = r ∧ s.run P w = .ok y w ∧ VR ρ u y) :
    Ok P ρ h w s k r := let ⟨u, y, h1, h2, h3⟩ := hh; ⟨u, h, ρ, y, w, h1, h2, h3, rh, .refl _ _ _⟩

/-- what an operation comes to that changes nothing -/
def OkP (P : Program) (ρ : Rho) (h : Heap) (w : World) (s : Sem Value) (k : V → Heap → Res) (r : Res) : Prop :=
  ∃ u y, k u h = r ∧ s.run P w = .ok y w ∧ VR ρ u y
theorem OkP.ok {ρ : Rho} {h : Heap} {w : World} {s : Sem Value} {k : V → Heap → Res} {r : Res} (o : OkP P ρ h w s k r) (rh : RH ρ h w) : Ok P ρ h w s k r := .pure rh o

/- static facts -/
def scal (P : Program) (t : TypeId) : Bool := match P.underlying t with
  | some (.struct _) | some (.array _ _) | none => false
  | some _ => true
def aggr (P : Program) (t : TypeId) : Bool := match P.underlying t with
  | some (.struct _) | some (.array _ _) => true
  | _ => false
def sz (P : Program) (t : TypeId) : Option Nat := (P.info? t).map (·.size)
def isPtr (P : Program) (t : TypeId) : Bool := P.underlying t matches some (.pointer _)

section run
variable {w : World}
theorem run_und {t : TypeId} {d : TypeDesc} (h : P.underlying t = some d) : (underlying t).run P w = .ok d w := by simp [underlying, h]
theorem run_size {t : TypeId} {s : Nat} (h : sz P t = some s) : (sizeOf t).run P w = .ok s w := by
  unfold sz at h
  obtain ⟨i, h1, h2⟩ := Option.map_eq_some_iff.1 h
  simp [sizeOf, typeInfo, h1, h2]
theorem run_isAgg_scal {t : TypeId} (h : scal P t = true) : (isAgg t).run P w = .ok false w := by
  unfold scal at h
  cases hd : P.underlying t with
  | none => rw [hd] at h; cases h
  | some d =>
    rw [hd] at h
    simp only [isAgg, Sem.run_bind, run_und hd, Result.andThen_ok]
    cases d <;> first | rfl | cases h
theorem run_isAgg_aggr {t : TypeId} (h : aggr P t = true) : (isAgg t).run P w = .ok true w := by
  unfold aggr at h
  cases hd : P.underlying t with
  | none => rw [hd] at h; cases h
  | some d =>
    rw [hd] at h
    simp only [isAgg, Sem.run_bind, run_und hd, Result.andThen_ok]
    cases d <;> first | rfl | cases h
end run

/- LOADS -/
noncomputable def sLoad1 (x : V) (h : Heap) (k : V → Heap → Res) : Res := ptrk x fun b o => load1k h b o fun u => k u h
noncomputable def sLoadN (n : Nat) (x : V) (h : Heap) (k : V → Heap → Res) : Res := ptrk x fun b o => loadk h b o n fun l => k (.agg n l) h

theorem VR.ptr_inv {ρ : Rho} {b : Bid} {o : Nat} {x : Value} (h : VR ρ (.ptr b o) x) : ∃ c z S, ρ b = some (c, z, S) ∧ x = .pointer (some ⟨c, z + o, none⟩) := by
  cases h with | ptr h => exact ⟨_, _, _, h, rfl⟩
theorem run_load_cell {w : World} {a : Addr} {x : Value} (h : w.cell? a = some x) : (load a).run P w = .ok x w := by simp [h]

theorem sLoad1_ok {x : V} {h : Heap} {k : V → Heap → Res} {r : Res} (hh : sLoad1 x h k = r) (hr : r ≠ .fail) {ρ : Rho} {w : World} (rh : RH ρ h w) {v : Value} (hv : VR ρ x v)
    {t : TypeId} (ht : scal P t = true) : OkP P ρ h w (Instr.loadAt t v) k r := by
  obtain ⟨b, o, rfl, h1⟩ := ptrk_ok hh hr
  obtain ⟨c, z, S, hb, rfl⟩ := hv.ptr_inv
  obtain ⟨u, y, h2, h3, h4, h5⟩ := load1k_ok h1 hr rh hb
  refine ⟨u, y, h2, ?_, h4⟩
  simp only [Instr.loadAt, Instr.sureAddr, loadVar, Sem.run_bind, Sem.run_pure, Result.andThen_ok, run_isAgg_scal ht, Bool.false_eq_true, if_false]
  exact run_load_cell h3
theorem sLoadN_ok {x : V} {h : Heap} {k : V → Heap → Res} {r : Res} {n : Nat} (hh : sLoadN n x h k = r) (hr : r ≠ .fail) {ρ : Rho} {w : World} (rh : RH ρ h w) {v : Value} (hv : VR ρ x v)
    {t : TypeId} (ht : aggr P t = true) (hs : sz P t = some n) : OkP P ρ h w (Instr.loadAt t v) k r := by
  obtain ⟨b, o, rfl, h1⟩ := ptrk_ok hh hr
  obtain ⟨c, z, S, hb, rfl⟩ := hv.ptr_inv
  obtain ⟨l, xs, h2, h3, h4, h5, h6⟩ := loadk_ok (P := P) h1 hr rh hb
  refine ⟨.agg n l, .agg xs.toArray, h2, ?_, .agg (by simpa using h4) (by simpa using h6) (by rw [h4.length, h5])⟩
  simp only [Instr.loadAt, Instr.sureAddr, loadVar, Sem.run_bind, Sem.run_pure, Result.andThen_ok, run_isAgg_aggr ht, if_true, run_size hs]
  rw [h3 w.drawn]
  rfl

/- STORES -/
/-- a value of one cell -/
noncomputable def onek (x : V) (k : Res) : Res :=
  V.rec (motive_1 := fun _ => Res → Res) (motive_2 := fun _ => PUnit) (fun _ => .fail) (fun _ => .fail) (fun _ k => k) (fun _ _ k => k) (fun _ _ k => k) (fun k => k) (fun _ _ k => k) (fun k => k)
    (fun _ _ _ _ _ k => k) (fun k => k) (fun k => k) (fun _ k => k) (fun k => k) (fun _ _ _ k => k) (fun k => k) (fun _ _ _ k => k) (fun _ _ _ _ => .fail) (fun _ _ _ => .fail) PUnit.unit (fun _ _ _ _ => PUnit.unit) x k
theorem onek_ok {x : V} {k r : Res} (h : onek x k = r) (hr : r ≠ .fail) {ρ : Rho} {v : Value} (hv : VR ρ x v) : k = r ∧ v.oneCell' = true := by
  cases x <;> first | exact absurd h.symm hr | (refine ⟨h, ?_⟩; cases hv; rfl)

noncomputable def sStore1 (a x : V) (h : Heap) (k : V → Heap → Res) : Res := ptrk a fun b o => onek x (storek h b o 1 [x] fun h' => k .skip h')
noncomputable def sStoreN (n : Nat) (a x : V) (h : Heap) (k : V → Heap → Res) : Res := ptrk a fun b o => aggk x fun m l => ifk (Nat.beq m n) (storek h b o n l fun h' => k .skip h') .fail

/-- what an operation without a value comes to -/
def OkU (P : Program) (ρ : Rho) (h : Heap) (w : World) (s : Sem Unit) (k : V → Heap → Res) (r : Res) : Prop :=
  ∃ h' ρ' w', k .skip h' = r ∧ s.run P w = .ok () w' ∧ RH ρ' h' w' ∧ Ext ρ h w ρ' h' w'

theorem one_cells {v : Value} (h : v.oneCell' = true) : v.cells = #[v] := by cases v <;> first | rfl | cases h
theorem sStore1_ok {a x : V} {h : Heap} {k : V → Heap → Res} {r : Res} (hh : sStore1 a x h k = r) (hr : r ≠ .fail) {ρ : Rho} {w : World} (rh : RH ρ h w) {p v : Value} (ha : VR ρ a p)
    (hv : VR ρ x v) {t : TypeId} (hs : sz P t = some 1) : OkU P ρ h w (Instr.storeAt t p v) k r := by
  obtain ⟨b, o, rfl, h1⟩ := ptrk_ok hh hr
  obtain ⟨c, z, S, hb, rfl⟩ := ha.ptr_inv
  obtain ⟨h2, h3⟩ := onek_ok h1 hr hv
  obtain ⟨h', h4, h5⟩ := storek_ok (P := P) (n := 1) (vs := [x]) rfl h2 hr rh hb
  obtain ⟨w', h6, h7, h8⟩ := h5 [v] (.cons hv .nil) (by simpa using h3)
  refine ⟨h', ρ, w', h4, ?_, h7, h8⟩
  simp only [Instr.storeAt, Instr.sureAddr, storeVar, Sem.run_bind, Sem.run_pure, Result.andThen_ok, run_size hs, one_cells h3]
  simpa using h6
theorem sStoreN_ok {a x : V} {h : Heap} {k : V → Heap → Res} {r : Res} {n : Nat} (hh : sStoreN n a x h k = r) (hr : r ≠ .fail) {ρ : Rho} {w : World} (rh : RH ρ h w) {p v : Value} (ha : VR ρ a p)
    (hv : VR ρ x v) {t : TypeId} (hs : sz P t = some n) : OkU P ρ h w (Instr.storeAt t p v) k r := by
  obtain ⟨b, o, rfl, h1⟩ := ptrk_ok hh hr
  obtain ⟨c, z, S, hb, rfl⟩ := ha.ptr_inv
  obtain ⟨m, l, rfl, h2⟩ := aggk_ok h1 hr
  obtain ⟨hm, h3⟩ := ifk_fail h2 hr
  obtain rfl := Nat.eq_of_beq_eq_true hm
  cases hv with
  | agg hl hc hn =>
    rename_i cs
    obtain ⟨h', h4, h5⟩ := storek_ok (P := P) hn h3 hr rh hb
    obtain ⟨w', h6, h7, h8⟩ := h5 cs.toList hl hc
    refine ⟨h', ρ, w', h4, ?_, h7, h8⟩
    have hsz : cs.size = m := by have := hl.length; rw [hn] at this; simpa using this.symm
    simp only [Instr.storeAt, Instr.sureAddr, storeVar, Sem.run_bind, Sem.run_pure, Result.andThen_ok, run_size hs, Value.cells, hsz, ne_eq, not_true_eq_false, if_false]
    exact h6

/- ADDRESSES -/
/-- products and sums with a number of the text -/
noncomputable def mulc (m sz : Nat) : Nat := Nat.rec (motive := fun _ => Nat) 0 (fun s _ => Nat.rec (motive := fun _ => Nat) m (fun s _ => Nat.mul m (Nat.succ (Nat.succ s))) s) sz
theorem mulc_eq (m sz : Nat) : mulc m sz = m * sz := by
  rcases sz with _ | _ | s
  · rfl
  · exact (Nat.mul_one m).symm
  · rfl
noncomputable def addc (o off : Nat) : Nat := Nat.rec (motive := fun _ => Nat) o (fun s _ => Nat.add o (Nat.succ s)) off
theorem addc_eq (o off : Nat) : addc o off = o + off := by cases off <;> rfl
noncomputable def sFaddr (off : Nat) (x : V) (h : Heap) (k : V → Heap → Res) : Res := ptrk x fun b o => k (.ptr b (addc o off)) h
theorem sFaddr_ok {off : Nat} {x : V} {h : Heap} {k : V → Heap → Res} {r : Res} (hh : sFaddr off x h k = r) (hr : r ≠ .fail) {ρ : Rho} {w : World} (_ : RH ρ h w) {v : Value} (hv : VR ρ x v)
    {s : TypeId} {i : Nat} {fields : Array Field} {f : Field} (hs : P.underlying s = some (.struct fields)) (hf : fields[i]? = some f) (ho : f.offset = off) {m : Nat} (hm : sz P f.type = some m)
    (hm0 : m ≠ 0) : OkP P ρ h w (Instr.fieldAt s v i) k r := by
  obtain ⟨b, o, rfl, h1⟩ := ptrk_ok hh hr
  obtain ⟨c, z, S, hb, rfl⟩ := hv.ptr_inv
  rw [addc_eq] at h1
  refine ⟨_, .pointer (some ⟨c, z + (o + off), none⟩), h1, ?_, .ptr hb⟩
  simp only [Instr.fieldAt, Sem.run_bind, run_und hs, Result.andThen_ok, hf, Instr.sureAddr, Sem.run_pure, fieldPlace, run_size hm]
  rw [if_neg hm0]
  simp only [Sem.run_pure, add_addr, ho, Result.andThen_ok, Nat.add_assoc]

theorem VR.slice_inv {ρ : Rho} {b : Bid} {o l : Nat} {cp : Option Nat} {s : Nat} {x : Value} (h : VR ρ (.slice b o l cp s) x) : ∃ c z S cap, ρ b = some (c, z, S) ∧ (∀ n, cp = some n → cap = n) ∧
    (cp = none → z + o + cap * s = S) ∧ l ≤ cap ∧ x = .slice (some ⟨c, z + o, none⟩) l cap := by
  cases h with | slice h hc ht hl => exact ⟨_, _, _, _, h, hc, ht, hl, rfl⟩
theorem VR.nils_inv {ρ : Rho} {x : Value} (h : VR ρ .nils x) : x = .slice none 0 0 := by cases h; rfl

/-- the address of a slice's element -/
noncomputable def sIaddr (sz : Nat) (x i : V) (h : Heap) (k : V → Heap → Res) : Res :=
  slk x (fun b o l _ _ => intk i fun _ n => natk n fun m => ifk (Nat.blt m l) (k (.ptr b (Nat.add o (mulc m sz))) h) .fail) .fail .fail
theorem sIaddr_ok {sz0 : Nat} {x i : V} {h : Heap} {k : V → Heap → Res} {r : Res} (hh : sIaddr sz0 x i h k = r) (hr : r ≠ .fail) {ρ : Rho} {w : World} (_ : RH ρ h w) {v iv : Value} (hv : VR ρ x v)
    (hi : VR ρ i iv) {t e : TypeId} (ht : P.underlying t = some (.slice e)) (hs : sz P e = some sz0) : OkP P ρ h w (Instr.indexAt t v iv) k r := by
  rcases slk_ok hh hr with ⟨b, o, l, cp, s, rfl, h1⟩ | ⟨_, h1⟩ | ⟨_, h1⟩
  · obtain ⟨kd, n, rfl, h2⟩ := intk_ok h1 hr
    obtain ⟨m, rfl, h3⟩ := natk_ok h2 hr
    obtain ⟨hlt, h4⟩ := ifk_fail h3 hr
    have hlt : m < l := by simpa [Nat.blt_eq] using hlt
    rw [mulc_eq] at h4
    obtain ⟨c, z, S, cap, hb, _, _, _, rfl⟩ := hv.slice_inv
    rw [hi.int_inv]
    refine ⟨_, .pointer (some ⟨c, z + (o + m * sz0), none⟩), h4, ?_, .ptr hb⟩
    have hb1 : (0 : Int) ≤ (m : Int) ∧ (m : Int) < (l : Int) := ⟨by omega, by omega⟩
    simp only [Instr.indexAt, asIntOf, Sem.run_bind, Sem.run_pure, Result.andThen_ok, run_und ht]
    rw [if_pos hb1]
    simp only [Sem.run_bind, run_size hs, Result.andThen_ok, Sem.run_pure, Int.toNat_natCast, add_addr, Nat.add_assoc]
  · exact absurd h1.symm hr
  · exact absurd h1.symm hr
/-- the address of an element of an array that a pointer leads to -/
noncomputable def sIaddrA (n sz : Nat) (x i : V) (h : Heap) (k : V → Heap → Res) : Res :=
  ptrk x fun b o => intk i fun _ j => natk j fun m => ifk (Nat.blt m n) (k (.ptr b (Nat.add o (mulc m sz))) h) .fail
theorem sIaddrA_ok {n sz0 : Nat} {x i : V} {h : Heap} {k : V → Heap → Res} {r : Res} (hh : sIaddrA n sz0 x i h k = r) (hr : r ≠ .fail) {ρ : Rho} {w : World} (_ : RH ρ h w) {v iv : Value}
    (hv : VR ρ x v) (hi : VR ρ i iv) {t e : TypeId} (ht : P.underlying t = some (.array n e)) (hs : sz P e = some sz0) : OkP P ρ h w (Instr.indexAt t v iv) k r := by
  obtain ⟨b, o, rfl, h1⟩ := ptrk_ok hh hr
  obtain ⟨kd, j, rfl, h2⟩ := intk_ok h1 hr
  obtain ⟨m, rfl, h3⟩ := natk_ok h2 hr
  obtain ⟨hlt, h4⟩ := ifk_fail h3 hr
  have hlt : m < n := by simpa [Nat.blt_eq] using hlt
  rw [mulc_eq] at h4
  obtain ⟨c, z, S, hb, rfl⟩ := hv.ptr_inv
  rw [hi.int_inv]
  refine ⟨_, .pointer (some ⟨c, z + (o + m * sz0), none⟩), h4, ?_, .ptr hb⟩
  have hb1 : (0 : Int) ≤ (m : Int) ∧ (m : Int) < (n : Int) := ⟨by omega, by omega⟩
  simp only [Instr.indexAt, asIntOf, Sem.run_bind, Sem.run_pure, Result.andThen_ok, run_und ht, Instr.sureAddr]
  rw [if_pos hb1]
  simp only [Sem.run_bind, run_size hs, Result.andThen_ok, Sem.run_pure, Int.toNat_natCast, add_addr, Nat.add_assoc]

/- INDEX OF A VALUE -/
noncomputable def sIdxS (x i : V) (h : Heap) (k : V → Heap → Res) : Res :=
  strk x fun l n => intk i fun _ j => natk j fun m => ifk (Nat.blt m l) (k (.int .u8 (.ofNat (Nat.mod (Nat.div n (Nat.pow 2 (Nat.mul 8 m))) 256))) h) .fail
theorem sIdxS_ok {x i : V} {h : Heap} {k : V → Heap → Res} {r : Res} (hh : sIdxS x i h k = r) (hr : r ≠ .fail) {ρ : Rho} {w : World} (_ : RH ρ h w) {v iv : Value}
    (hv : VR ρ x v) (hi : VR ρ i iv) {t : TypeId} (ht : P.underlying t = some .string) : OkP P ρ h w (Instr.index t v iv) k r := by
  obtain ⟨l, n, rfl, h1⟩ := strk_ok hh hr
  obtain ⟨kd, j, rfl, h2⟩ := intk_ok h1 hr
  obtain ⟨m, rfl, h3⟩ := natk_ok h2 hr
  obtain ⟨hlt, h4⟩ := ifk_fail h3 hr
  have hlt : m < l := by simpa [Nat.blt_eq] using hlt
  obtain ⟨s, rfl, e1, e2⟩ := hv.str_inv
  rw [hi.int_inv]
  refine ⟨_, .int .u8 (n / 2 ^ (8 * m) % 256 : Nat), h4, ?_, .int _ _⟩
  have hsz := str_size e1
  have hm : m < s.size := by omega
  have hb : s[m] = UInt8.ofNat (n / 256 ^ m % 256) := by
    have h5 := dig_get (n := n) hlt
    rw [← e1] at h5
    have h6 : s.data.toList[m]? = some s[m] := by
      rw [Array.getElem?_toList, Array.getElem?_eq_getElem (by exact hm)]; rfl
    rw [h6] at h5
    exact Option.some.inj h5
  have hget : s[m]? = some s[m] := by simp [hm]
  simp only [Instr.index, asIntOf, Sem.run_bind, Sem.run_pure, Result.andThen_ok, run_und ht]
  have h0 : (0 : Int) ≤ (m : Int) := by omega
  rw [if_pos h0, Int.toNat_natCast, hget]
  simp only [Sem.run_pure, hb, pow256]
  simp
end Go.Ev
