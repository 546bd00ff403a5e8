/- EVALUATOR, 4: loads and stores by an abstract address, and the model's own loads and stores. -/
import Derived.Test.YtacpbnjbbkhngaaGreatDoorEvCells
namespace Go.Ev

theorem add_addr (c o i : Nat) : (⟨c, o, none⟩ : Addr).add i = ⟨c, o + i, none⟩ := by unfold Addr.add; split <;> simp_all

/-- blocks by name -/
noncomputable def topv (a : Nat) (t : HT) : H4 :=
  Nat.rec (motive := fun _ => HT → H4) (fun t => List.rec (motive := fun _ => H4) H4.e (fun x _ _ => x) t) (fun _ ih t => List.rec (motive := fun _ => H4) (ih []) (fun _ l _ => ih l) t) a t
theorem topv_eq (a : Nat) (t : HT) : topv a t = t.top a := by
  induction a generalizing t with
  | zero => cases t <;> rfl
  | succ a ih =>
    cases t with
    | nil => exact (ih []).trans (by cases a <;> rfl)
    | cons x l => exact ih l
noncomputable def putv (a : Nat) (t : HT) (y : H4) : HT :=
  Nat.rec (motive := fun _ => HT → H4 → HT) (fun t y => List.rec (motive := fun _ => HT) [y] (fun _ l _ => y :: l) t) (fun _ ih t y => List.rec (motive := fun _ => HT) (H4.e :: ih [] y) (fun x l _ => x :: ih l y) t) a t y
theorem putv_eq (a : Nat) (t : HT) (y : H4) : putv a t y = t.put a y := by
  induction a generalizing t with
  | zero => cases t <;> rfl
  | succ a ih =>
    cases t with
    | nil => exact congrArg (H4.e :: ·) (ih [])
    | cons x l => exact congrArg (x :: ·) (ih l)
noncomputable def HT.getk (t : HT) (b : Bid) (k : Blk → Res) : Res :=
  Bid.rec (motive := fun _ => Res) (fun b1 b2 b3 b4 b5 => k (getB b5 (getB1 b4 (getB2 b3 (getB3 b2 (topv b1 t)))))) b
theorem HT.getk_eq (t : HT) (b : Bid) (k : Blk → Res) : HT.getk t b k = k (t.get b) := by
  cases b; simp only [HT.getk, topv_eq, getB3_eq, getB2_eq, getB1_eq, getB_eq, HT.get, H4.get]
noncomputable def HT.setk (t : HT) (b : Bid) (x : Blk) (k : HT → Res) : Res :=
  Bid.rec (motive := fun _ => Res) (fun b1 b2 b3 b4 b5 => updB3 b2 (fun t2 k => updB2 b3 (fun t3 k => updB1 b4 (fun t4 k => updB b5 (fun _ k => k x) t4 k) t3 k) t2 k) (topv b1 t) fun y => k (putv b1 t y)) b
theorem HT.setk_eq (t : HT) (b : Bid) (x : Blk) (k : HT → Res) : HT.setk t b x k = k (t.set b x) := by
  cases b; simp only [HT.setk, topv_eq, putv_eq, updB3_eq, updB2_eq, updB1_eq, updB_eq, HT.set, H4.set]
noncomputable def Heap.getk (h : Heap) (b : Bid) (k : Blk → Res) : Res := Heap.rec (motive := fun _ => Res) (fun t _ => HT.getk t b k) h
theorem Heap.getk_eq (h : Heap) (b : Bid) (k : Blk → Res) : h.getk b k = k (h.t.get b) := by cases h; simp only [Heap.getk, HT.getk_eq]
noncomputable def Heap.turnk (h : Heap) (b : Bid) (x : Blk) (k : Heap → Res) : Res := Heap.rec (motive := fun _ => Res) (fun t nx => HT.setk t b x fun t' => k ⟨t', nx⟩) h
theorem Heap.turnk_eq (h : Heap) (b : Bid) (x : Blk) (k : Heap → Res) : h.turnk b x k = k (h.turn b x) := by cases h; simp only [Heap.turnk, HT.setk_eq, Heap.turn]

noncomputable def arrk (x : Blk) (k : Nat → Nat → T → Bool → Res) : Res := Blk.rec (motive := fun _ => Res) .fail (fun g n t ro => k g n t ro) (fun _ => .fail) x
theorem arrk_ok {x : Blk} {k : Nat → Nat → T → Bool → Res} {r : Res} (h : arrk x k = r) (hr : r ≠ .fail) : ∃ g n t ro, x = .arr g n t ro ∧ k g n t ro = r := by
  cases x with
  | none => exact absurd h.symm hr
  | arr g n t ro => exact ⟨g, n, t, ro, rfl, h⟩
  | ob x => exact absurd h.symm hr

/-- the next name -/
noncomputable def D.nextk (d : D) (k : D → Res) (z : Res) : Res :=
  D.rec (motive := fun _ => Res) (k .d1) (k .d2) (k .d3) (k .d4) (k .d5) (k .d6) (k .d7) (k .d8) (k .d9) (k .da) (k .db) (k .dc) (k .dd) (k .de) (k .df) z d
theorem D.nextk_eq (d : D) (k : D → Res) (z : Res) : d.nextk k z = match d.next with | some e => k e | none => z := by cases d <;> rfl
noncomputable def Bid.nextk (x : Bid) (k : Bid → Res) : Res :=
  Bid.rec (motive := fun _ => Res) (fun a b c d e => e.nextk (fun e => k ⟨a, b, c, d, e⟩) (d.nextk (fun d => k ⟨a, b, c, d, .d0⟩) (c.nextk (fun c => k ⟨a, b, c, .d0, .d0⟩)
    (b.nextk (fun b => k ⟨a, b, .d0, .d0, .d0⟩) (k ⟨Nat.succ a, .d0, .d0, .d0, .d0⟩))))) x
/-- the next name -/
def Bid.nxt (x : Bid) : Bid := x.next.getD x
theorem Bid.next_some (x : Bid) : x.next = some x.nxt := by
  unfold Bid.nxt Bid.next
  split <;> first | rfl | (split <;> first | rfl | (split <;> first | rfl | (split <;> rfl)))
theorem Bid.nxt_val (x : Bid) : x.nxt.val = x.val + 1 := Bid.next_val x.next_some
theorem Bid.nextk_eq (x : Bid) (k : Bid → Res) : x.nextk k = k x.nxt := by
  obtain ⟨a, b, c, d, e⟩ := x
  simp only [Bid.nextk, D.nextk_eq]
  unfold Bid.nxt Bid.next
  simp only
  split
  · rename_i e' he; rw [he]; rfl
  · rename_i he; rw [he]
    split
    · rename_i d' hd; simp only [hd]; rfl
    · rename_i hd; simp only [hd]
      split
      · rename_i c' hc; simp only [hc]; rfl
      · rename_i hc; simp only [hc]
        split
        · rename_i b' hb; simp only [hb]; rfl
        · rename_i hb; simp only [hb]; rfl
/-- a new block -/
noncomputable def Heap.newk (h : Heap) (x : Blk) (k : Bid → Heap → Res) : Res :=
  Heap.rec (motive := fun _ => Res) (fun t nx => nx.nextk fun nx' => HT.setk t nx x fun t' => k nx ⟨t', nx'⟩) h
theorem Heap.newk_eq (h : Heap) (x : Blk) (k : Bid → Heap → Res) : h.newk x k = k h.nx (h.new x h.nx.nxt) := by
  obtain ⟨t, nx⟩ := h
  show (nx.nextk fun nx' => HT.setk t nx x fun t' => k nx ⟨t', nx'⟩) = _
  rw [Bid.nextk_eq, HT.setk_eq]; rfl
theorem Heap.newk_ok {h : Heap} {x : Blk} {k : Bid → Heap → Res} {r : Res} (hh : h.newk x k = r) (_ : r ≠ .fail) : ∃ nx', h.nx.next = some nx' ∧ k h.nx (h.new x nx') = r :=
  ⟨_, h.nx.next_some, (Heap.newk_eq h x k).symm.trans hh⟩

/- LOADS. -/
/-- cells: of a row, or of a struct in a block of its own -/
noncomputable def arlk (x : Blk) (k : Nat → Nat → T → Bool → Res) : Res :=
  Blk.rec (motive := fun _ => Res) .fail (fun g n t ro => k g n t ro) (fun y => Oth.rec (motive := fun _ => Res) (fun _ _ => .fail) (fun _ _ _ => .fail) (fun _ _ _ _ _ => .fail) (fun _ _ _ _ => .fail) (fun _ g t => k g 1 t false) (fun _ _ _ => .fail) y) x
theorem arlk_ok {x : Blk} {k : Nat → Nat → T → Bool → Res} {r : Res} (h : arlk x k = r) (hr : r ≠ .fail) : ∃ g n t ro, (x = .arr g n t ro ∨ ∃ el, x = .ob (.st el g t)) ∧ k g n t ro = r := by
  cases x with
  | none => exact absurd h.symm hr
  | arr g n t ro => exact ⟨g, n, t, ro, .inl rfl, h⟩
  | ob x =>
    cases x
    case st el g t => exact ⟨g, 1, t, false, .inr ⟨el, rfl⟩, h⟩
    all_goals exact absurd h.symm hr
noncomputable def loadk (h : Heap) (b : Bid) (o n : Nat) (k : List V → Res) : Res := h.getk b fun x => arlk x fun g _ t _ => cellsk t g o n k
noncomputable def load1k (h : Heap) (b : Bid) (o : Nat) (k : V → Res) : Res := h.getk b fun x => arlk x fun g _ t _ => cellk t g o k

variable {P : Program}
/-- a struct's block as a row of one -/
theorem st_arr {ρ : Rho} {w : World} {c el g : Nat} {t : T} {o : Obj} (h : w.heap[c]? = some o) (ho : OthR P ρ (.st el g t) o) : ∃ cs, ArrR ρ w c 0 g g 1 t false cs := by
  cases o with
  | cells cs el' fz =>
    obtain ⟨rfl, h1, h2, h3, _, h4⟩ := ho
    exact ⟨cs, h2, ⟨_, fz, h, fun _ => .inl h1⟩, h3, by omega, h4⟩
  | _ => exact ho.elim
theorem RH.cells {ρ : Rho} {h : Heap} {w : World} (rh : RH P ρ h w) {b : Bid} {c z S g n : Nat} {t : T} {ro : Bool} (hb : ρ b = some (c, z, S)) (hx : h.t.get b = .arr g n t ro ∨ ∃ el, h.t.get b = .ob (.st el g t)) :
    ∃ m cs, ArrR ρ w c z S g m t ro cs ∨ ArrR ρ w c z S g m t false cs := by
  rcases hx with hx | ⟨el, hx⟩
  · obtain ⟨cs, ha⟩ := rh.arr b c z S g n t ro hb hx
    exact ⟨n, cs, .inl ha⟩
  · obtain ⟨o, h1, h2, rfl, h3⟩ := rh.ob b c z S _ hb hx
    obtain ⟨cs, ha⟩ := st_arr h1 h2
    obtain ⟨cs', e, fz, rfl, h4⟩ := h3 rfl
    obtain ⟨el, fz', h5, _⟩ := ha.at_
    rw [h1] at h5
    cases h5
    have := ha.size
    obtain rfl : g = S := by omega
    exact ⟨_, cs, .inr ha⟩
theorem RH.cells' {ρ : Rho} {h : Heap} {w : World} (rh : RH P ρ h w) {b : Bid} {c z S g n : Nat} {t : T} {ro : Bool} (hb : ρ b = some (c, z, S)) (hx : h.t.get b = .arr g n t ro ∨ ∃ el, h.t.get b = .ob (.st el g t)) :
    ∃ m ro cs, ArrR ρ w c z S g m t ro cs := by
  obtain ⟨m, cs, h1 | h1⟩ := rh.cells hb hx
  · exact ⟨m, _, cs, h1⟩
  · exact ⟨m, _, cs, h1⟩

theorem load1k_ok {h : Heap} {b : Bid} {o : Nat} {k : V → Res} {r : Res} (hh : load1k h b o k = r) (hr : r ≠ .fail) {ρ : Rho} {w : World} (rh : RH P ρ h w) {c z S : Nat}
    (hb : ρ b = some (c, z, S)) : ∃ v x, k v = r ∧ w.cell? ⟨c, z + o, none⟩ = some x ∧ VR ρ v x ∧ x.oneCell' = true := by
  unfold load1k at hh
  rw [Heap.getk_eq] at hh
  obtain ⟨g, n, t, ro, h1, hh⟩ := arlk_ok hh hr
  obtain ⟨v, h2, hh⟩ := cellk_ok hh hr
  obtain ⟨n, ro, cs, ha⟩ := rh.cells' hb h1
  obtain ⟨_, x, h3, h4, h5⟩ := ha.cell h2
  obtain ⟨el, fz, h6, _⟩ := ha.at_
  exact ⟨v, x, hh, by simp [World.cell?, h6, h3], h4, h5⟩

theorem loadk_ok {h : Heap} {b : Bid} {o n : Nat} {k : List V → Res} {r : Res} (hh : loadk h b o n k = r) (hr : r ≠ .fail) {ρ : Rho} {w : World} (rh : RH P ρ h w) {c z S : Nat}
    (hb : ρ b = some (c, z, S)) : ∃ l xs, k l = r ∧ (∀ d, (loadCells ⟨c, z + o, none⟩ n).run P { w with drawn := d } = .ok xs.toArray { w with drawn := d }) ∧ VRs ρ l xs ∧ xs.length = n ∧ ∀ x ∈ xs, x.oneCell' = true := by
  unfold loadk at hh
  rw [Heap.getk_eq] at hh
  obtain ⟨g, m, t, ro, h1, hh⟩ := arlk_ok hh hr
  obtain ⟨m, ro, cs, ha⟩ := rh.cells' hb h1
  obtain ⟨l, hk, hl, hc⟩ := cellsk_ok ha.pos ha.wf hh hr
  obtain ⟨el, fz, h6, _⟩ := ha.at_
  have hx : ∀ i, i < n → ∃ x, cs[z + o + i]? = some x ∧ VR ρ (l.getD i .und) x ∧ x.oneCell' = true := by
    intro i hi
    have hi' : i < l.length := by omega
    obtain ⟨_, x, h3, h4, h5⟩ := ha.cell (hc i _ (List.getElem?_eq_getElem hi'))
    refine ⟨x, by rw [← h3]; congr 1; omega, ?_, h5⟩
    rw [List.getD_eq_getElem?_getD, List.getElem?_eq_getElem hi']; exact h4
  have hlen : ∀ i, i < n → z + o + i < cs.size := by
    intro i hi; obtain ⟨x, h3, _⟩ := hx i hi; exact (Array.getElem?_eq_some_iff.1 h3).1
  let xs : List Value := (List.range n).map fun i => cs[z + o + i]?.getD Go.undef
  have hxs : ∀ i, i < n → xs[i]? = cs[z + o + i]? := by
    intro i hi
    obtain ⟨x, h3, _⟩ := hx i hi
    simp only [xs, List.getElem?_map, List.getElem?_range hi, Option.map_some, h3, Option.getD_some]
  have hxl : xs.length = n := by simp [xs]
  have hrun : ∀ d, (loadCells ⟨c, z + o, none⟩ xs.length).run P { w with drawn := d } = .ok xs.toArray { w with drawn := d } := fun d => run_loadCells_list (P := P) { w with drawn := d } ⟨c, z + o, none⟩ xs (fun j v hj => by
    have hj' : j < n := by have := (List.getElem?_eq_some_iff.1 hj).1; omega
    rw [add_addr]
    simp only [World.cell?, h6]
    rw [hxs j hj'] at hj
    simpa using hj)
  rw [hxl] at hrun
  refine ⟨l, xs, hk, hrun, ?_, hxl, ?_⟩
  · refine VRs.of_get (by omega) fun i v hi => ?_
    have hi' : i < n := by have := (List.getElem?_eq_some_iff.1 hi).1; omega
    obtain ⟨x, h3, h4, _⟩ := hx i hi'
    rw [List.getD_eq_getElem?_getD, hi] at h4
    exact ⟨x, by rw [hxs i hi', h3], h4⟩
  · intro x hxm
    obtain ⟨i, hi⟩ := List.getElem?_of_mem hxm
    have hi' : i < n := by have := (List.getElem?_eq_some_iff.1 hi).1; omega
    obtain ⟨y, h3, _, h5⟩ := hx i hi'
    rw [hxs i hi', h3] at hi
    cases hi; exact h5

/- STORES. -/
theorem run_storeCells_any {c o : Nat} {el : TypeId} {fz : Nat × Nat} : ∀ (vs : List Value) (i : Nat) (cs : Array Value) (w : World), w.heap[c]? = some (.cells cs el fz) → o + i + vs.length ≤ cs.size →
    (∀ k, o + i ≤ k → k < o + i + vs.length → ¬ (fz.1 ≤ k ∧ k < fz.2)) → (∀ v ∈ vs, v.oneCell' = true) →
    ∃ w' cs', (storeCells ⟨c, o, none⟩ vs i).run P w = .ok () w' ∧ w'.os = w.os ∧ w'.tape = w.tape ∧ w'.output = w.output ∧ w'.heap.size = w.heap.size ∧
      w'.heap[c]? = some (.cells cs' el fz) ∧ (∀ k, k ≠ c → w'.heap[k]? = w.heap[k]?) ∧ cs'.size = cs.size ∧
      ∀ k, cs'[k]? = if o + i ≤ k ∧ k < o + i + vs.length then vs[k - (o + i)]? else cs[k]?
  | [], i, cs, w, hg, _, _, _ => ⟨w, cs, rfl, rfl, rfl, rfl, rfl, hg, fun _ _ => rfl, rfl, fun k => by rw [if_neg (by simp only [List.length_nil]; omega)]⟩
  | v :: vs, i, cs, w, hg, hl, hf, h1 => by
    have hi : o + i < cs.size := by simp only [List.length_cons] at hl; omega
    have hcell : w.cell? ⟨c, o + i, none⟩ = some cs[o + i] := by simp [World.cell?, hg, hi]
    have hfro : w.frozen? ⟨c, o + i, none⟩ = false := by
      have := hf (o + i) (Nat.le_refl _) (by simp only [List.length_cons]; omega)
      obtain ⟨lo, hi'⟩ := fz
      simp only [World.frozen?, hg]
      simp only at this
      rw [Bool.and_eq_false_iff]
      by_cases hlo : lo ≤ o + i
      · exact .inr (by simp; omega)
      · exact .inl (by simpa using hlo)
    have hst : (store ((⟨c, o, none⟩ : Addr).add i) v).run P w = .ok () (w.setCell ⟨c, o + i, none⟩ v) := by
      rw [add_addr, run_store P w _ v _ (h1 v (by simp)), hcell]
      simp [hfro]
    have hlt : c < w.heap.size := (Array.getElem?_eq_some_iff.1 hg).1
    have hnew : (w.setCell ⟨c, o + i, none⟩ v).heap[c]? = some (.cells (cs.setIfInBounds (o + i) v) el fz) := by
      simp [World.setCell, Array.getElem?_modify, hg]
    have hold : ∀ k, k ≠ c → (w.setCell ⟨c, o + i, none⟩ v).heap[k]? = w.heap[k]? := by
      intro k hk
      simp only [World.setCell, Array.getElem?_modify]
      rw [if_neg (fun e => hk e.symm)]
    obtain ⟨w', cs', r1, r2, r3, r4, r5, r6, r7, r8, r9⟩ := run_storeCells_any (o := o) vs (i + 1) (cs.setIfInBounds (o + i) v) (w.setCell ⟨c, o + i, none⟩ v) hnew
      (by simp only [List.length_cons, Array.size_setIfInBounds] at hl ⊢; omega) (fun k a b => hf k (by omega) (by simp only [List.length_cons]; omega)) (fun x hx => h1 x (by simp [hx]))
    refine ⟨w', cs', ?_, r2, r3, r4, ?_, r6, fun k hk => (r7 k hk).trans (hold k hk), by rw [r8]; simp, fun k => ?_⟩
    · simp only [storeCells, Sem.run_bind, hst, Result.andThen_ok, r1]
    · rw [r5]; simp [World.setCell]
    · rw [r9 k]
      by_cases h : o + i ≤ k ∧ k < o + i + (v :: vs).length
      · rw [if_pos h]
        by_cases e : k = o + i
        · subst e
          rw [if_neg (by omega)]
          simp [hi]
        · rw [if_pos (by simp only [List.length_cons] at h; omega)]
          have : k - (o + i) = (k - (o + (i + 1))) + 1 := by omega
          rw [this, List.getElem?_cons_succ]
      · rw [if_neg h, if_neg (by simp only [List.length_cons] at h; omega)]
        rw [Array.getElem?_setIfInBounds_ne]
        simp only [List.length_cons] at h; omega

/-- what becomes of a block whose cells are others -/
noncomputable def arsk (x : Blk) (k : Nat → Nat → T → Bool → (T → Blk) → Res) : Res :=
  Blk.rec (motive := fun _ => Res) .fail (fun g n t ro => k g n t ro fun t' => .arr g n t' ro)
    (fun y => Oth.rec (motive := fun _ => Res) (fun _ _ => .fail) (fun _ _ _ => .fail) (fun _ _ _ _ _ => .fail) (fun _ _ _ _ => .fail) (fun el g t => k g 1 t false fun t' => .ob (.st el g t')) (fun _ _ _ => .fail) y) x
theorem arsk_ok {x : Blk} {k : Nat → Nat → T → Bool → (T → Blk) → Res} {r : Res} (h : arsk x k = r) (hr : r ≠ .fail) :
    ∃ g n t ro mk, ((x = .arr g n t ro ∧ mk = fun t' => .arr g n t' ro) ∨ ∃ el, x = .ob (.st el g t) ∧ n = 1 ∧ ro = false ∧ mk = fun t' => .ob (.st el g t')) ∧ k g n t ro mk = r := by
  cases x with
  | none => exact absurd h.symm hr
  | arr g n t ro => exact ⟨g, n, t, ro, _, .inl ⟨rfl, rfl⟩, h⟩
  | ob x =>
    cases x
    case st el g t => exact ⟨g, 1, t, false, _, .inr ⟨el, rfl, rfl, rfl, rfl⟩, h⟩
    all_goals exact absurd h.symm hr
noncomputable def storek (h : Heap) (b : Bid) (o n : Nat) (vs : List V) (k : Heap → Res) : Res :=
  h.getk b fun x => arsk x fun g m t ro mk => ifk ro .fail (putk t g m o n vs fun t' => h.turnk b (mk t') k)

/-- what a store does to a row of cells -/
theorem store_arr {ρ : Rho} {w : World} {c z S g m o : Nat} {t t' : T} {cs : Array Value} (ha : ArrR ρ w c z S g m t false cs) {vs : List V} (hp : Put t g m o vs t') (hfit : vs.length = 0 ∨ o + vs.length ≤ m * g) {xs : List Value}
    (hxs : VRs ρ vs xs) (h1c : ∀ x ∈ xs, x.oneCell' = true) :
    ∃ w' cs' el fz, w.heap[c]? = some (.cells cs el fz) ∧ Thaw fz S g ∧ (storeCells ⟨c, z + o, none⟩ xs).run P w = .ok () w' ∧ w'.os = w.os ∧ w'.tape = w.tape ∧ w'.output = w.output ∧ w'.heap.size = w.heap.size ∧
      w'.heap[c]? = some (.cells cs' el fz) ∧ (∀ k, k ≠ c → w'.heap[k]? = w.heap[k]?) ∧ ArrR ρ w' c z S g m t' false cs' := by
  obtain ⟨el, fz, h6, h7⟩ := ha.at_
  have h7 := h7 rfl
  have hxl := hxs.length
  have hS := ha.fits
  have hsz := ha.size
  have hfit' : z + o + xs.length ≤ S ∨ xs.length = 0 := by
    rcases hfit with h0 | h0
    · right; omega
    · left; omega
  rcases Nat.eq_zero_or_pos xs.length with h0 | h0
  · -- nothing is stored
    have e1 : xs = [] := List.length_eq_zero_iff.1 h0
    have e2 : vs = [] := List.length_eq_zero_iff.1 (by omega)
    subst e1; subst e2
    refine ⟨w, cs, el, fz, h6, h7, rfl, rfl, rfl, rfl, rfl, h6, fun _ _ => rfl, ha.pos, ⟨el, fz, h6, fun _ => h7⟩, hsz, hS, fun j ch hj => ?_⟩
    obtain ⟨h8, h9⟩ := hp.wf j ch hj
    refine ⟨h8, h9, fun i v hi => ?_⟩
    have hi' : i < g := by have := (List.getElem?_eq_some_iff.1 hi).1; omega
    have hcell : t'.cell g (j * g + i) = some v := by
      have e1 : (j * g + i) / g = j := by rw [Nat.mul_comm, Nat.mul_add_div ha.pos, Nat.div_eq_of_lt hi']; omega
      have e2 : (j * g + i) % g = i := by rw [Nat.mul_comm, Nat.mul_add_mod]; exact Nat.mod_eq_of_lt hi'
      simp only [T.cell, e1, hj, Option.bind_some, e2, hi]
    have := hp.old _ _ hcell (by simp only [List.length_nil]; omega)
    obtain ⟨_, x, h10, h11⟩ := ha.cell this
    exact ⟨x, by rw [← h10]; congr 1; omega, h11⟩
  · have hle : z + o + xs.length ≤ S := by omega
    obtain ⟨w', cs', r1, r2, r3, r4, r5, r6, r7, r8, r9⟩ := run_storeCells_any (P := P) (o := z + o) xs 0 cs w h6 (by omega) (fun k a b => h7.not k (by omega)) h1c
    refine ⟨w', cs', el, fz, h6, h7, r1, r2, r3, r4, r5, r6, r7, ha.pos, ⟨el, fz, r6, fun _ => h7⟩, by omega, hS, fun j ch hj => ?_⟩
    obtain ⟨h8, h9⟩ := hp.wf j ch hj
    refine ⟨h8, h9, fun i v hi => ?_⟩
    have hi' : i < g := by have := (List.getElem?_eq_some_iff.1 hi).1; omega
    have hcell : t'.cell g (j * g + i) = some v := by
      have e1 : (j * g + i) / g = j := by rw [Nat.mul_comm, Nat.mul_add_div ha.pos, Nat.div_eq_of_lt hi']; omega
      have e2 : (j * g + i) % g = i := by rw [Nat.mul_comm, Nat.mul_add_mod]; exact Nat.mod_eq_of_lt hi'
      simp only [T.cell, e1, hj, Option.bind_some, e2, hi]
    rw [r9]
    by_cases hin : o ≤ j * g + i ∧ j * g + i < o + vs.length
    · have h10 := hp.new _ _ hcell hin.1 hin.2
      rw [if_pos (by omega)]
      obtain ⟨x, h11, h12⟩ := hxs.get h10
      refine ⟨x, by rw [← h11]; congr 1; omega, h12, h1c x (List.mem_of_getElem? h11)⟩
    · have h10 := hp.old _ _ hcell (by omega)
      rw [if_neg (by omega)]
      obtain ⟨_, x, h11, h12⟩ := ha.cell h10
      exact ⟨x, by rw [← h11]; congr 1; omega, h12⟩
theorem storek_ok {h : Heap} {b : Bid} {o n : Nat} {vs : List V} (hn : vs.length = n) {k : Heap → Res} {r : Res} (hh : storek h b o n vs k = r) (hr : r ≠ .fail) {ρ : Rho} {w : World}
    (rh : RH P ρ h w) {c z S : Nat} (hb : ρ b = some (c, z, S)) : ∃ h', k h' = r ∧ ∀ xs, VRs ρ vs xs → (∀ x ∈ xs, x.oneCell' = true) →
      ∃ w', (storeCells ⟨c, z + o, none⟩ xs).run P w = .ok () w' ∧ RH P ρ h' w' ∧ Ext ρ h w ρ h' w' := by
  unfold storek at hh
  rw [Heap.getk_eq] at hh
  obtain ⟨g, m, t, ro, mk, h1, hi⟩ := arsk_ok hh hr
  clear hh
  obtain ⟨hro, hh⟩ : ro = false ∧ _ = r := by
    rcases ifk_ne hi with ⟨_, h2⟩ | ⟨h2, h3⟩
    · exact absurd h2.symm hr
    · exact ⟨h2, h3⟩
  clear hi
  subst hro
  rcases h1 with ⟨h1, rfl⟩ | ⟨el, h1, rfl, _, rfl⟩
  · obtain ⟨cs, ha⟩ := rh.arr b c z S g m t false hb h1
    obtain ⟨t', hh, hp, hfit⟩ := putk_ok ha.pos (fun j ch hj => ⟨(ha.cells j ch hj).1, (ha.cells j ch hj).2.1⟩) hn hh hr
    rw [Heap.turnk_eq] at hh
    refine ⟨_, hh, fun xs hxs h1c => ?_⟩
    obtain ⟨w', cs', el, fz, h6, _, r1, r2, r3, r4, r5, r6, r7, ha'⟩ := store_arr (P := P) ha hp (by omega) hxs h1c
    refine ⟨w', r1, ?_⟩
    refine turn rh hb (by rw [h1]; rfl) r2 r3 r4 r5 r6 r7 (fun g' n' t'' ro' e => ?_) (fun es e => by cases e)
    cases e
    exact ⟨cs', ha'⟩
  · obtain ⟨o0, h2, h3, rfl, hbig⟩ := rh.ob b c z S _ hb h1
    cases o0 with
    | cells cs el' fz =>
      obtain ⟨rfl, f1, f2, f3, f4, f5⟩ := h3
      have ha : ArrR ρ w c 0 g g 1 t false cs := ⟨f2, ⟨_, fz, h2, fun _ => .inl f1⟩, f3, by omega, f5⟩
      obtain ⟨t', hh, hp, hfit⟩ := putk_ok ha.pos (fun j ch hj => ⟨(ha.cells j ch hj).1, (ha.cells j ch hj).2.1⟩) hn hh hr
      rw [Heap.turnk_eq] at hh
      refine ⟨_, hh, fun xs hxs h1c => ?_⟩
      obtain ⟨w', cs', el, fz', h6, _, r1, r2, r3, r4, r5, r6, r7, ha'⟩ := store_arr (P := P) ha hp (by omega) hxs h1c
      rw [h2] at h6
      cases h6
      refine ⟨w', r1, ?_⟩
      refine turn rh hb (by rw [h1]; rfl) r2 r3 r4 r5 r6 r7 (fun g' n' t'' ro' e => by cases e) (fun es e => by cases e; exact ⟨⟨rfl, f1, f2, ha'.size, f4, ha'.cells⟩, rfl⟩) (fun es e => by
        cases e
        intro _
        obtain ⟨cs0, e0, fz0, e1, e2⟩ := hbig rfl
        cases e1
        exact ⟨cs', _, _, rfl, by rw [ha'.size]; omega⟩)
    | _ => exact h3.elim
end Go.Ev
