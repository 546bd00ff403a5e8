/- EVALUATOR: memory that is made in the one order, and laid down in another: a block that stands in the abstract memory and nowhere in the world yet. -/
import Derived.Test.YtacpbnjbbkhngaaGreatDoorEvLight
namespace Go.Ev
variable {P : Program}

/-- a block is thought of -/
theorem RH.thought {ρ : Rho} {h : Heap} {w : World} (r : RH P ρ h w) (x : Blk) : RH P ρ (h.new x h.nx.nxt) w ∧ Ext ρ h w ρ (h.new x h.nx.nxt) w := by
  have hv := h.nx.nxt_val
  have hf := r.fresh h.nx (Nat.le_refl _)
  have ne : ∀ {b c z S}, ρ b = some (c, z, S) → b ≠ h.nx := fun hb e => by rw [e, hf.1] at hb; cases hb
  refine ⟨⟨r.lt, ?_, ?_, ?_, ?_⟩, ⟨.refl _, by simp only [Heap.new]; omega, rfl, rfl, rfl, Nat.le_refl _, ?_, ?_⟩⟩
  · intro b hb
    simp only [Heap.new] at hb ⊢
    have e : b ≠ h.nx := by rintro rfl; omega
    rw [HT.get_set_ne _ e]
    exact r.fresh b (by omega)
  · intro b b' c z S z' S' h1 h2 h3 h4
    simp only [Heap.new] at h1 h2
    rw [HT.get_set_ne _ (ne h3)] at h1
    rw [HT.get_set_ne _ (ne h4)] at h2
    exact r.inj b b' c z S z' S' h1 h2 h3 h4
  · intro b c z S g n t ro hb ht
    simp only [Heap.new] at ht
    rw [HT.get_set_ne _ (ne hb)] at ht
    exact r.arr b c z S g n t ro hb ht
  · intro b c z S y hb ht
    simp only [Heap.new] at ht
    rw [HT.get_set_ne _ (ne hb)] at ht
    exact r.ob b c z S y hb ht
  · intro c hc hw
    refine ⟨rfl, ?_⟩
    rintro ⟨b, z, S, hb, hwr⟩
    simp only [Heap.new] at hwr
    rw [HT.get_set_ne _ (ne hb)] at hwr
    exact hw ⟨b, z, S, hb, hwr⟩
  · intro b hb hr
    have e : b ≠ h.nx := by rintro rfl; omega
    simp only [Heap.new]
    rw [HT.get_set_ne _ e]
    exact ⟨hr, rfl⟩

/-- a block that was thought of is laid down -/
theorem allocV {ρ₀ ρ : Rho} {h₀ h : Heap} {w₀ w : World} (r : RH P ρ h w) (X : Ext ρ₀ h₀ w₀ ρ h w) {b : Bid} (h0 : h₀.nx.val ≤ b.val) (hb : ρ b = none) (hlt : b.val < h.nx.val) {x : Blk} (hx : h.t.get b = x) {o : Obj} {S : Nat}
    (harr : ∀ g n t ro, x = .arr g n t ro → ∃ cs el fz, 0 < g ∧ o = .cells cs el fz ∧ Thaw fz S g ∧ cs.size = S ∧ n * g ≤ S ∧
      ∀ (j : Nat) (ch : List V), t.get j = some ch → j < n ∧ ch.length = g ∧ ∀ (i : Nat) (v : V), ch[i]? = some v → ∃ y, cs[j * g + i]? = some y ∧ VR ρ v y ∧ y.oneCell' = true)
    (hob : ∀ x', x = .ob x' → OthR P ρ x' o) (hbig : ∀ x', x = .ob x' → Big x' o S := by intro x' e; cases e <;> (intro e; cases e)) :
    RH P (ρ.put b (w.heap.size, 0, S)) h { w with heap := w.heap.push o } ∧ Ext ρ₀ h₀ w₀ (ρ.put b (w.heap.size, 0, S)) h { w with heap := w.heap.push o } := by
  have hle := Rho.le_put (ρ := ρ) hb (w.heap.size, 0, S)
  have old : ∀ c, c < w.heap.size → (w.heap.push o)[c]? = w.heap[c]? := fun c hc => Array.getElem?_push_lt hc ▸ (by simp [hc])
  have new : (w.heap.push o)[w.heap.size]? = some o := by simp
  refine ⟨⟨?_, ?_, ?_, ?_, ?_⟩, ⟨X.le.trans hle, X.nx, X.os, X.tape, X.output, by simp only [Array.size_push]; exact Nat.le_succ_of_le X.size, ?_, ?_⟩⟩
  · intro b' c z S' h1
    by_cases e : b' = b
    · subst e; rw [Rho.put_same] at h1; cases h1; simp
    · rw [Rho.put_ne e] at h1; have := r.lt _ _ _ _ h1; simp; omega
  · intro b' h1
    have e : b' ≠ b := by rintro rfl; omega
    rw [Rho.put_ne e]
    exact r.fresh b' h1
  · intro b1 b2 c z S1 z' S2 h1 h2 h3 h4
    by_cases e : b1 = b
    · subst e
      rw [Rho.put_same] at h3; cases h3
      by_cases e' : b2 = b1
      · exact e'.symm
      · rw [Rho.put_ne e'] at h4; have := r.lt _ _ _ _ h4; omega
    · rw [Rho.put_ne e] at h3
      by_cases e' : b2 = b
      · subst e'; rw [Rho.put_same] at h4; cases h4; have := r.lt _ _ _ _ h3; omega
      · rw [Rho.put_ne e'] at h4
        exact r.inj b1 b2 c z S1 z' S2 h1 h2 h3 h4
  · intro b' c z S' g n t ro h1 ht
    by_cases e : b' = b
    · subst e
      rw [Rho.put_same] at h1; cases h1
      rw [hx] at ht
      obtain ⟨cs, el, fz, hg, rfl, h5, h6, h7, h8⟩ := harr g n t ro ht
      refine ⟨cs, ⟨hg, ⟨el, fz, new, fun _ => h5⟩, h6, by omega, fun j ch hj => ?_⟩⟩
      obtain ⟨h9, h10, h11⟩ := h8 j ch hj
      refine ⟨h9, h10, fun i v hi => ?_⟩
      obtain ⟨y, h12, h13, h14⟩ := h11 i v hi
      exact ⟨y, by simpa using h12, VR.mono hle h13, h14⟩
    · rw [Rho.put_ne e] at h1
      obtain ⟨cs, ha⟩ := r.arr b' c z S' g n t ro h1 ht
      exact ⟨cs, ha.mono hle (old c (r.lt _ _ _ _ h1))⟩
  · intro b' c z S' x' h1 ht
    by_cases e : b' = b
    · subst e
      rw [Rho.put_same] at h1; cases h1
      rw [hx] at ht
      exact ⟨o, new, (hob x' ht).mono hle, rfl, hbig x' ht⟩
    · rw [Rho.put_ne e] at h1
      obtain ⟨o', h5, h6, h7⟩ := r.ob b' c z S' x' h1 ht
      exact ⟨o', (old c (r.lt _ _ _ _ h1)).trans h5, h6.mono hle, h7⟩
  · intro c hc hw
    obtain ⟨h5, h6⟩ := X.keep c hc hw
    have hcs : c < w.heap.size := Nat.lt_of_lt_of_le hc X.size
    refine ⟨(old c hcs).trans h5, ?_⟩
    rintro ⟨b', z, S', h7, hwr⟩
    by_cases e : b' = b
    · subst e; rw [Rho.put_same] at h7; cases h7; omega
    · rw [Rho.put_ne e] at h7
      exact h6 ⟨b', z, S', h7, hwr⟩
  · intro b' h5 h6
    obtain ⟨h7, h8⟩ := X.virt b' h5 h6
    have e : b' ≠ b := by rintro rfl; omega
    rw [Rho.put_ne e]
    exact ⟨h7, h8⟩
theorem new_cellsV {ρ₀ ρ : Rho} {h₀ h : Heap} {w₀ w : World} (r : RH P ρ h w) (X : Ext ρ₀ h₀ w₀ ρ h w) {b : Bid} (h0 : h₀.nx.val ≤ b.val) (hb : ρ b = none) (hlt : b.val < h.nx.val) {g n : Nat} {t : T} (hx : h.t.get b = .arr g n t false)
    (hg : 0 < g) {l : List V} {cs : Array Value} (hl : VRs ρ l cs.toList) (h1 : ∀ y ∈ cs.toList, y.oneCell' = true) (hlen : l.length = n * g)
    (ht : ∀ (j : Nat) (ch : List V), t.get j = some ch → j < n ∧ ch = (l.drop (j * g)).take g) (el : TypeId) {fz : Nat × Nat} (hfz : Thaw fz cs.size g) :
    RH P (ρ.put b (w.heap.size, 0, cs.size)) h { w with heap := w.heap.push (.cells cs el fz) } ∧ Ext ρ₀ h₀ w₀ (ρ.put b (w.heap.size, 0, cs.size)) h { w with heap := w.heap.push (.cells cs el fz) } := by
  have hle := hl.len_eq
  refine allocV r X h0 hb hlt hx (fun g' n' t' ro' e => ?_) (fun es e => by cases e)
  cases e
  refine ⟨cs, el, fz, hg, rfl, hfz, rfl, by omega, fun j ch hj => ?_⟩
  obtain ⟨h2, h3⟩ := ht j ch hj
  have hjg : (j + 1) * g ≤ n * g := Nat.mul_le_mul_right g h2
  rw [Nat.succ_mul] at hjg
  refine ⟨h2, by rw [h3]; simp only [List.length_take, List.length_drop]; omega, fun i v hi => ?_⟩
  rw [h3] at hi
  have hig : i < g := by have := (List.getElem?_eq_some_iff.1 hi).1; simp only [List.length_take, List.length_drop] at this; omega
  rw [List.getElem?_take_of_lt hig, List.getElem?_drop] at hi
  obtain ⟨x, h4, h5⟩ := hl.get hi
  rw [Array.getElem?_toList] at h4
  exact ⟨x, h4, h5, h1 x (by rw [Array.mem_toList_iff]; exact Array.mem_of_getElem? h4)⟩

/- WHAT IS MADE OF VALUES, WHATEVER FOLLOWS -/
theorem partsk_det {x : V} {k : Nat → List V → Res} {r : Res} (h : partsk x k = r) (hr : r ≠ .fail) : ∃ n l, k n l = r ∧ ∀ k', partsk x k' = k' n l := by
  cases x
  case agg n l => exact ⟨n, l, h, fun _ => rfl⟩
  case und => exact absurd h.symm hr
  case skip => exact absurd h.symm hr
  case tup l => exact absurd h.symm hr
  all_goals exact ⟨1, [_], h, fun _ => rfl⟩
theorem takek_det {n : Nat} {l : List V} {k : List V → List V → Res} {r : Res} (h : takek n l k = r) (hr : r ≠ .fail) : ∀ k', takek n l k' = k' (l.take n) (l.drop n) := fun k' =>
  takek_eq' (takek_ok h hr).1 k'
where
  takek_eq' {n : Nat} {l : List V} (h : n ≤ l.length) (k : List V → List V → Res) : takek n l k = k (l.take n) (l.drop n) := by
    induction n generalizing l k with
    | zero => simp only [List.take_zero, List.drop_zero]; rfl
    | succ n ih =>
      cases l with
      | nil => simp at h
      | cons v l => exact (ih (by simpa using h) fun a b => k (v :: a) b).trans (by simp)
theorem fillk_det : ∀ {ps : List (Nat × Nat × V)} {cur : List V} {k : List V → Res} {r : Res}, fillk ps cur k = r → r ≠ .fail → ∃ l, k l = r ∧ ∀ k', fillk ps cur k' = k' l
  | [], cur, k, r, h, _ => ⟨cur, h, fun _ => rfl⟩
  | (off, n, x) :: ps, cur, k, r, h, hr => by
    have unf : ∀ k, fillk ((off, n, x) :: ps) cur k = partsk x fun m l => ifk (Nat.beq m n) (takek off cur fun a rest => takek n rest fun _ b => appk l b fun c => appk a c fun cur' => fillk ps cur' k) .fail := fun _ => rfl
    rw [unf] at h
    obtain ⟨m, l, h2, h3⟩ := partsk_det h hr
    obtain ⟨h6, h7⟩ := ifk_fail h2 hr
    have t1 := takek_det h7 hr
    rw [t1] at h7
    have t2 := takek_det h7 hr
    rw [t2, appk_eq, appk_eq] at h7
    obtain ⟨l', h8, h9⟩ := fillk_det h7 hr
    refine ⟨l', h8, fun k' => ?_⟩
    rw [unf, h3, h6]
    show takek off cur _ = _
    rw [t1, t2, appk_eq, appk_eq, h9]
/-- a list as an answer -/
theorem done_inj {l l' : List V} {h h' : Heap} (e : Res.done .normal l h = .done .normal l' h') : l = l' := by cases e; rfl

/-- an operation makes a block, and nothing else -/
def OX.al : OX → Bool
  | .alloc _ _ _ | .box _ | .buildS _ _ _ _ | .mkS _ _ _ _ => true
  | .ex .mkm l => l.isEmpty
  | .ex (.allocT _ _ _) l => l.isEmpty
  | _ => false
/-- what is promised of an operation that makes a block: whenever it is run for real, block 'b' is what it makes -/
def Promise (P : Program) (ng : Nat) (T : Nat → Option Loc) (L : List V) (env : Env) (o : Oper) (u : V) (b : Bid) (x : Blk) : Prop :=
  ∀ (ρ : Rho) (h : Heap) (w : World) (a : Act), Cx P ρ ng T L env h w a → ∀ (ρ₀ : Rho) (h₀ : Heap) (w₀ : World), Ext ρ₀ h₀ w₀ ρ h w → h₀.nx.val ≤ b.val → ρ b = none → b.val < h.nx.val → h.t.get b = x →
    ∃ y w' S, (execOp a.eval o).run P w = .ok (.value y) w' ∧ VR (ρ.put b (w.heap.size, 0, S)) u y ∧ RH P (ρ.put b (w.heap.size, 0, S)) h w' ∧ Ext ρ₀ h₀ w₀ (ρ.put b (w.heap.size, 0, S)) h w'

section made
variable {ng : Nat} {T : Nat → Option Loc} {L : List V} {env : Env} {hA : Heap} {k : V → Heap → Res} {r : Res}
theorem getk_at {loc : Loc} {k : V → Res} {r : Res} (h : getk loc L env k = r) (hr : r ≠ .fail) : ∃ v, loc.at L env = some v ∧ k v = r := getk_ok h hr
theorem getpk_det : ∀ {ps : List (Nat × Nat × Loc)} {k : List (Nat × Nat × V) → Res} {r : Res}, getpk ps L env k = r → r ≠ .fail → ∃ l, k l = r ∧ ∀ k', getpk ps L env k' = k' l
  | [], k, r, h, _ => ⟨[], h, fun _ => rfl⟩
  | (x, y, loc) :: ps, k, r, h, hr => by
    have unf : ∀ k, getpk ((x, y, loc) :: ps) L env k = getk loc L env fun v => getpk ps L env fun l => k ((x, y, v) :: l) := fun _ => rfl
    rw [unf] at h
    obtain ⟨v, h1, h2⟩ := getk_at h hr
    obtain ⟨l, h3, h4⟩ := getpk_det (k := fun l => k ((x, y, v) :: l)) h2 hr
    refine ⟨_, h3, fun k' => ?_⟩
    rw [unf]
    have := getk_eq_of_at h1 (fun v => getpk ps L env fun l => k' ((x, y, v) :: l))
    rw [this, h4]
where
  getk_eq_of_at {loc : Loc} {v : V} (h : loc.at L env = some v) (k : V → Res) : getk loc L env k = k v := by
    have h0 : getk loc L env (fun v => .done .normal [v] ⟨[], ⟨0, .d0, .d0, .d0, .d0⟩⟩) ≠ .fail ∨ True := .inr trivial
    cases loc with
    | s i => exact nthk_at (by simpa [Loc.at] using h) k
    | e x =>
      simp only [Loc.at, Option.some.injEq] at h
      obtain ⟨p, q⟩ := x
      show selR p env (fun row => selV q row k) = _
      rw [selR_eq, selV_eq, ← h]; rfl
    | k u => simp only [Loc.at, Option.some.injEq] at h; rw [← h]; rfl
  nthk_at {l : List V} {i : Nat} {v : V} (h : l[i]? = some v) (k : V → Res) : nthk l i k = k v := by
    induction l generalizing i with
    | nil => simp at h
    | cons u l ih =>
      cases i with
      | zero => simp at h; subst h; rfl
      | succ i => exact ih (by simpa using h)

theorem alloc0_made {t : TypeId} {ox : OX} (hc : cAlloc0 P t = some ox) (hh : semOX ox L env hA k = r) (hr : r ≠ .fail) {o : Oper} (ho : o.op = .alloc t) :
    ∃ u x, k u (hA.new x hA.nx.nxt) = r ∧ Promise P ng T L env o u hA.nx x := by
  simp only [cAlloc0] at hc
  split at hc
  · rename_i l hz
    split at hc
    · rename_i hcond
      cases hc
      obtain ⟨h1, h2, h3⟩ := hcond
      generalize grain P t l.length = gr at *
      obtain ⟨g, n⟩ := gr
      simp only at h1 h2 h3
      have hh : hA.newk (.arr g n (repT (l.take g) n n) false) (fun b h' => k (.ptr b 0) h') = r := hh
      rw [Heap.newk_eq] at hh
      refine ⟨_, _, hh, fun ρ h w a c ρ₀ h₀ w₀ X h4 h5 h6 h7 => ?_⟩
      obtain ⟨z, e1, e2, e3⟩ := zeroL_ok hz
      have hl := eqVs_ok h3
      have hlen : l.length = n * g := by
        have := congrArg List.length hl
        rwa [flat_len, h2] at this
      obtain ⟨g1, g2⟩ := new_cellsV c.rh X h4 h5 h6 h7 h1 (e2 ρ) e3 hlen (fun j ch hj => by
        rw [repT_eq, _root_.Go.Ev.T.get_rep _ _ _ (Nat.le_refl _)] at hj
        split at hj
        · rename_i hlt
          cases hj
          refine ⟨hlt, ?_⟩
          apply List.ext_getElem?
          intro i
          by_cases hi : i < g
          · have hji : j * g + i < n * g := by
              have : (j + 1) * g ≤ n * g := Nat.mul_le_mul_right _ hlt
              rw [Nat.succ_mul] at this
              omega
            have e : l[j * g + i]? = (l.take g)[(j * g + i) % g]? := by
              have e0 : l[j * g + i]? = ((List.replicate n (l.take g)).flatten)[j * g + i]? := congrArg (fun m : List V => m[j * g + i]?) hl
              rw [e0, flat_get2 h2, if_pos hji]
            rw [List.getElem?_take_of_lt hi, List.getElem?_take_of_lt hi, List.getElem?_drop, e, Nat.mul_comm, Nat.mul_add_mod, Nat.mod_eq_of_lt hi, List.getElem?_take_of_lt hi]
          · rw [List.getElem?_eq_none (by rw [h2]; omega), List.getElem?_eq_none (by simp; omega)]
        · cases hj) t (fz := (0, 0)) (.inl rfl)
      refine ⟨.pointer (some ⟨w.heap.size, 0, none⟩), _, _, ?_, ?_, g1, g2⟩
      · simp [execOp, ho, Instr.alloc, run_zero e1, newVar, newRow]
      · have := VR.ptr (o := 0) (Rho.put_same ρ hA.nx (w.heap.size, 0, z.cells.size))
        simpa using this
    · cases hc
  · cases hc
theorem alloc_made {t : TypeId} {ox : OX} (hc : cAlloc P t = some ox) (hh : semOX ox L env hA k = r) (hr : r ≠ .fail) {o : Oper} (ho : o.op = .alloc t) :
    ∃ u x, k u (hA.new x hA.nx.nxt) = r ∧ Promise P ng T L env o u hA.nx x := by
  unfold cAlloc at hc
  split at hc
  · unfold cAllocT at hc
    split at hc
    · rename_i l g hz hs
      split at hc
      · rename_i hcc
        cases hc
        have hh : hA.newk (.ob (.st t g (.lf l))) (fun b h' => k (.ptr b 0) h') = r := hh
        rw [Heap.newk_eq] at hh
        refine ⟨_, _, hh, fun ρ h w a c ρ₀ h₀ w₀ X h6 h7 h8 h9 => ?_⟩
        obtain ⟨z, e1, e2, e3⟩ := zeroL_ok hz
        have hlen : l.length = z.cells.size := by have := (e2 ρ).length; simpa using this
        have hcel : P.cellsOf t = g := by unfold sz at hs; simp [Program.cellsOf, hs]
        obtain ⟨g1, g2⟩ := allocV c.rh X h6 h7 h8 h9 (o := .cells z.cells t) (S := z.cells.size) (fun g n t ro e => by cases e) (fun x' e => by
          cases e
          exact ⟨rfl, rfl, hcc.1, by omega, hcel, stc_lf (e2 ρ) e3 hcc.2⟩) (fun x' e => by cases e; exact fun _ => ⟨z.cells, _, _, rfl, rfl⟩)
        refine ⟨.pointer (some ⟨w.heap.size, 0, none⟩), _, _, ?_, .ptr (Rho.put_same ρ hA.nx _), g1, g2⟩
        simp [execOp, ho, Instr.alloc, run_zero e1, newVar, newRow]
      · cases hc
    · cases hc
  · exact alloc0_made hc hh hr ho
theorem box_made {x : Operand} {t : TypeId} {ox : OX} (hc : one (locOf T ng) true .box x = some ox) (hh : semOX ox L env hA k = r) (hr : r ≠ .fail) {o : Oper} (ho : o.op = .box t x) :
    ∃ u x, k u (hA.new x hA.nx.nxt) = r ∧ Promise P ng T L env o u hA.nx x := by
  obtain ⟨_, loc, hl, rfl⟩ := one_inv hc
  obtain ⟨v, h1, h2⟩ := getk_at (show getk loc L env (fun v => sBox v hA k) = r from hh) hr
  obtain ⟨n, l, h3, h4⟩ := partsk_det h2 hr
  obtain ⟨hn, h5⟩ := zk_pos h3 hr
  rw [Heap.newk_eq] at h5
  refine ⟨_, _, h5, fun ρ h w a c ρ₀ h₀ w₀ X h6 h7 h8 h9 => ?_⟩
  have hv := locOf_at (v := v) hl h1 c.tmp c.glob
  obtain ⟨n', l', e1, e2, e3, e4⟩ := partsk_ok (k := fun n l => .done .normal (.int .i64 (.ofNat n) :: l) hA) (h4 _) (by simp) hv
  have e1 := done_inj e1
  simp only [List.cons.injEq, V.int.injEq, true_and, Int.ofNat_eq_natCast, Int.natCast_inj] at e1
  obtain ⟨rfl, rfl⟩ := e1
  obtain ⟨g1, g2⟩ := new_cellsV c.rh X h6 h7 h8 h9 hn e2 e4 (by omega) (fun j ch hj => by
    simp only [_root_.Go.Ev.T.get] at hj
    split at hj
    · subst j; cases hj; exact ⟨by omega, by rw [Nat.zero_mul, List.drop_zero, List.take_of_length_le (by omega)]⟩
    · cases hj) t (fz := (0, 0)) (.inl rfl)
  refine ⟨.pointer (some ⟨w.heap.size, 0, none⟩), _, _, ?_, ?_, g1, g2⟩
  · simp [execOp, ho, Instr.box, newVar, newRow]
  · have := VR.ptr (o := 0) (Rho.put_same ρ hA.nx (w.heap.size, 0, (a.eval x).cells.size))
    simpa using this
theorem buildS_made {t : TypeId} {n : Nat} {ps : Array (Nat × Operand)} {ox : OX} (hc : cBuildS P (locOf T ng) t n ps.toList = some ox) (hh : semOX ox L env hA k = r) (hr : r ≠ .fail) {o : Oper} (ho : o.op = .buildSlice t n ps) :
    ∃ u x, k u (hA.new x hA.nx.nxt) = r ∧ Promise P ng T L env o u hA.nx x := by
  unfold cBuildS at hc
  split at hc
  · rename_i e ht
    split at hc
    · rename_i s z m hs hz hm
      split at hc
      · rename_i hcond
        obtain ⟨h1, h2, h3⟩ := hcond
        cases hc
        obtain ⟨l, h4, h5⟩ := getpk_det (show getpk m L env (fun l => sBuildS s n (repeatL n z) l hA k) = r from hh) hr
        obtain ⟨q, h6, h7⟩ := fillk_det h4 hr
        obtain ⟨tr, h8, h9, h10⟩ := rowk_ok h6 hr
        rw [Heap.newk_eq] at h8
        refine ⟨_, _, h8, fun ρ h w a c ρ₀ h₀ w₀ X h11 h12 h13 h14 => ?_⟩
        obtain ⟨zv, e1, e2, e3⟩ := zeroL_ok hz
        have hzs : zv.cells.size = s := by have := (e2 ρ).length; rw [h3] at this; simpa using this.symm
        have hcells : ((Array.range (n * s)).map ((if n * s = 0 then #[] else zv.cells)[· % (if n * s = 0 then #[] else zv.cells).size]!)).toList = (List.replicate n zv.cells.toList).flatten := by
          by_cases h0 : n * s = 0
          · have : n = 0 := by rcases Nat.mul_eq_zero.1 h0 with h | h <;> omega
            subst this; simp
          · simp only [if_neg h0]; exact range_cells hzs h1
        have hv : VRs ρ (repeatL n z) ((Array.range (n * s)).map ((if n * s = 0 then #[] else zv.cells)[· % (if n * s = 0 then #[] else zv.cells).size]!)).toList := by
          rw [hcells]; exact (e2 ρ).flatten_rep n
        have hv1 : ∀ y ∈ ((Array.range (n * s)).map ((if n * s = 0 then #[] else zv.cells)[· % (if n * s = 0 then #[] else zv.cells).size]!)).toList, y.oneCell' = true := by
          rw [hcells]
          intro y hy
          obtain ⟨q, hq, hy⟩ := List.mem_flatten.1 hy
          rw [(List.mem_replicate.1 hq).2] at hy
          exact e3 y hy
        obtain ⟨l', f1, f2⟩ := c.parts hm (k := fun l => fillk l (repeatL n z) fun q => .done .normal q hA) (r := .done .normal q hA) (by rw [h5]; exact h7 _) (by simp)
        have f2 : FillR ρ (fun i => some (i * s, s)) l' (ps.map fun (i, x) => (i, a.eval x)).toList := by
          have e : (fun i => match sz P e with | some s => some (i * s, s) | none => none : Nat → Option (Nat × Nat)) = fun i => some (i * s, s) := by funext i; rw [hs]
          rw [Array.toList_map, ← e]; exact f2
        obtain ⟨q', cells', f3, f4, f5, f6⟩ := fillk_ok f1 (by simp) f2 hv hv1
        obtain rfl := done_inj f3
        obtain ⟨g1, g2⟩ := new_cellsV c.rh X h11 h12 h13 h14 h1 f5 f6 h9 h10 e (fz := (0, 0)) (.inl rfl)
        refine ⟨.slice (some ⟨w.heap.size, 0, none⟩) n n, _, _, ?_, ?_, g1, g2⟩
        · have hlim' : ¬ n * s > 2 ^ 24 := by omega
          simp only [execOp, ho, Instr.buildSlice, Sem.run_bind, run_und ht, Result.andThen_ok, run_size hs, Sem.run_ite]
          rw [if_neg hlim']
          by_cases h0 : n * s = 0
          · rw [if_pos h0]
            simp only [if_pos h0] at f4
            simp only [Sem.run_pure, Result.andThen_ok, f4]
            simp [newRow]
          · rw [if_neg h0]
            simp only [if_neg h0] at f4
            simp only [run_zero e1, Result.andThen_ok, Sem.run_pure, f4]
            simp [newRow]
        · have := VR.slice (o := 0) (l := n) (cp := some n) (s := s) (cap := n) (Rho.put_same ρ hA.nx (w.heap.size, 0, cells'.size)) (fun m e => by cases e; rfl) (fun e => by cases e) (Nat.le_refl _)
          simpa using this
      · cases hc
    · cases hc
  · cases hc
theorem mkm_made {t : TypeId} {q : Option Operand} {ls : List Loc} (hls : ls.isEmpty = true) (hq : locsOf (locOf T ng) q.toList = some ls) (hh : semOX (.ex .mkm ls) L env hA k = r) (hr : r ≠ .fail) {o : Oper} (ho : o.op = .makeMap t q) :
    ∃ u x, k u (hA.new x hA.nx.nxt) = r ∧ Promise P ng T L env o u hA.nx x := by
  obtain rfl : ls = [] := by simpa using hls
  have hq0 : q = none := by
    cases q with
    | none => rfl
    | some x =>
      exfalso
      simp only [Option.toList_some, locsOf] at hq
      split at hq <;> simp at hq
  subst hq0
  have hh : hA.newk (.ob (.mp [] 0)) (fun b h' => k (.map b) h') = r := hh
  rw [Heap.newk_eq] at hh
  refine ⟨_, _, hh, fun ρ h w a c ρ₀ h₀ w₀ X h6 h7 h8 h9 => ?_⟩
  obtain ⟨g1, g2⟩ := allocV c.rh X h6 h7 h8 h9 (o := .map #[] 0) (S := 0) (fun g n t ro e => by cases e) (fun x' e => by cases e; exact ⟨trivial, rfl⟩)
  exact ⟨.map (some w.heap.size), _, _, by simp [execOp, ho, Instr.makeMap], .map (Rho.put_same ρ hA.nx _), g1, g2⟩
theorem make_made {t : TypeId} {x y : Operand} {ox : OX} (hc : cMake P (locOf T ng) t x y = some ox) (hh : semOX ox L env hA k = r) (hr : r ≠ .fail) {o : Oper} (ho : o.op = .makeSlice t x y) :
    ∃ u x, k u (hA.new x hA.nx.nxt) = r ∧ Promise P ng T L env o u hA.nx x := by
  unfold cMake at hc
  split at hc
  · rename_i e g he
    split at hc
    · rename_i z hz
      obtain ⟨hzl, lx, ly, hlx, hly, rfl⟩ := two_inv hc
      have hzl : z.length = g := by simpa using hzl
      obtain ⟨v, h1, h2⟩ := getk_at (show getk lx L env (fun v => getk ly L env fun u => sMake g z v u hA k) = r from hh) hr
      obtain ⟨u, h3, h4⟩ := getk_at h2 hr
      obtain ⟨k1, a1, rfl, h5⟩ := intk_ok h4 hr
      obtain ⟨la, rfl, h6⟩ := natk_ok h5 hr
      obtain ⟨k2, b1, rfl, h7⟩ := intk_ok h6 hr
      obtain ⟨cb, rfl, h8⟩ := natk_ok h7 hr
      obtain ⟨hle, h9⟩ := ifk_fail h8 hr
      obtain ⟨hsm, h10⟩ := ifk_fail h9 hr
      have hle : la ≤ cb := Nat.le_of_ble_eq_true hle
      have hsm : cb ≤ 16777216 := Nat.le_of_ble_eq_true hsm
      rw [Heap.newk_eq] at h10
      refine ⟨_, _, h10, fun ρ h w a c ρ₀ h₀ w₀ X g1 g2 g3 g4 => ?_⟩
      have hl := locOf_at hlx h1 c.tmp c.glob
      have hcc := locOf_at hly h3 c.tmp c.glob
      have ht := chkSl_ok he
      obtain ⟨zv, hz0, hzr, hz1⟩ := zeroL_ok hz
      have hzr := hzr ρ
      have hpos := ht.pos
      have hzs : zv.cells.size = g := by have := hzr.len_eq; omega
      let cs : Array Value := (Array.range (cb * g)).map (zv.cells[· % zv.cells.size]!)
      have hcells : cs.toList = (List.replicate cb zv.cells.toList).flatten := range_cells hzs hpos
      have hcs : cs.size = cb * g := by simp [cs]
      obtain ⟨r1, r2⟩ := new_cellsV c.rh X g1 g2 g3 g4 hpos (l := (List.replicate cb z).flatten) (cs := cs) (by rw [hcells]; exact hzr.flatten_rep cb) (by
          rw [hcells]
          intro y hy
          obtain ⟨q, hq, hy⟩ := List.mem_flatten.1 hy
          rw [(List.mem_replicate.1 hq).2] at hy
          exact hz1 y hy) (by rw [flat_len, hzl]) (fun j ch hj => by
        rw [repT_eq, _root_.Go.Ev.T.get_rep z cb cb (Nat.le_refl _)] at hj
        split at hj
        · rename_i hlt
          cases hj
          exact ⟨hlt, (flat_chunk hzl hlt).symm⟩
        · cases hj) e (fz := (0, 0)) (.inl rfl)
      obtain ⟨i, hi, hby⟩ := ht.bytes
      have hti : ∀ w : World, (typeInfo e).run P w = .ok i w := fun w => by simp [typeInfo, hi]
      refine ⟨.slice (some ⟨w.heap.size, 0, none⟩) la cb, _, _, ?_, ?_, r1, r2⟩
      · have hw1 : IntKind.i64.wrap (la : Int) = la := wrap_small .i64 _ (by omega) (by show (la : Int) ≤ (9223372036854775807 : Nat); omega)
        have hw2 : IntKind.i64.wrap (cb : Int) = cb := wrap_small .i64 _ (by omega) (by show (cb : Int) ≤ (9223372036854775807 : Nat); omega)
        have hb1 : (i.bytes : Int) * (cb : Int) ≤ 1099511627776 := by
          have h1 : i.bytes * cb ≤ 65536 * 16777216 := Nat.mul_le_mul hby hsm
          rw [← Int.natCast_mul]; omega
        have hc1 : (decide ((cb : Int) < 0) || decide ((i.bytes : Int) * (cb : Int) > 2 ^ 48) || decide ((la : Int) < 0) || decide ((la : Int) > (cb : Int))) = false := by
          rw [Bool.or_eq_false_iff, Bool.or_eq_false_iff, Bool.or_eq_false_iff]
          exact ⟨⟨⟨decide_eq_false (by omega), decide_eq_false (by omega)⟩, decide_eq_false (by omega)⟩, decide_eq_false (by omega)⟩
        have ex : execOp a.eval o = (do Pure.pure (.value (← Instr.makeSlice t (a.eval x) (a.eval y))) : Sem Next) := by simp only [execOp, ho]
        rw [ex, hl.int_inv, hcc.int_inv, Sem.run_bind]
        have run : (Instr.makeSlice t (.int k1 (la : Int)) (.int k2 (cb : Int))).run P w = .ok (.slice (some ⟨w.heap.size, 0, none⟩) la cb) { w with heap := w.heap.push (.cells cs e (0, 0)) } := by
          simp only [Instr.makeSlice, Sem.run_bind, run_und ht.und, Result.andThen_ok, asInt, asIntOf, Sem.run_pure, hti, hw1, hw2]
          rw [if_neg (by rw [hc1]; simp)]
          simp only [Sem.run_bind, run_askRoom, Result.andThen_ok, run_size ht.size, Int.toNat_natCast, Sem.run_ite]
          by_cases h0 : cb * g = 0
          · rw [if_pos h0]
            have : cs = #[] := by
              apply Array.eq_empty_of_size_eq_zero; rw [hcs, h0]
            simp only [Sem.run_pure, Result.andThen_ok, newRow, Sem.run_bind, run_newObj, h0]
            have h2 : (Array.range 0).map (fun x => (#[] : Array Value)[x % (#[] : Array Value).size]!) = cs := by rw [this]; simp
            rw [h2]
          · rw [if_neg h0]
            simp only [run_zero hz0, Result.andThen_ok, Sem.run_pure, newRow, Sem.run_bind, run_newObj]
            rfl
        rw [run]
        rfl
      · have := VR.slice (o := 0) (l := la) (cp := some cb) (s := g) (cap := cb) (Rho.put_same ρ hA.nx (w.heap.size, 0, cs.size)) (fun m e => by cases e; rfl) (fun e => by cases e) hle
        simpa using this
    · cases hc
  · cases hc
/-- every operation that makes a block -/
theorem made_ok {o : Oper} {ox : OX} (hc : cOX P (locOf T ng) o.pos o.op = some ox) (hal : ox.al = true) (hop : (match o.op with | .alloc _ | .box _ _ | .buildSlice _ _ _ | .makeMap _ _ | .makeSlice _ _ _ => true | _ => false) = true)
    (hh : semOX ox L env hA k = r) (hr : r ≠ .fail) : ∃ u x, k u (hA.new x hA.nx.nxt) = r ∧ Promise P ng T L env o u hA.nx x := by
  split at hop
  · rename_i t ho
    rw [ho] at hc
    exact alloc_made (show cAlloc P t = some ox from hc) hh hr ho
  · rename_i t x ho
    rw [ho] at hc
    exact box_made (show one (locOf T ng) true .box x = some ox from hc) hh hr ho
  · rename_i t n ps ho
    rw [ho] at hc
    exact buildS_made (show cBuildS P (locOf T ng) t n ps.toList = some ox from hc) hh hr ho
  · rename_i t q ho
    rw [ho] at hc
    have hc : cEX P (locOf T ng) (.makeMap t q) = some ox := hc
    unfold cEX at hc
    simp only at hc
    split at hc
    · obtain ⟨ls, e1, rfl⟩ := Option.map_eq_some_iff.1 hc
      exact mkm_made (show ls.isEmpty = true from hal) e1 hh hr ho
    · cases hc
  · rename_i t x y ho
    rw [ho] at hc
    exact make_made (show cMake P (locOf T ng) t x y = some ox from hc) hh hr ho
  · cases hop
end made
end Go.Ev
