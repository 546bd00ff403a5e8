/- EVALUATOR, 14: slice expressions; copy; make; bytes and strings. -/
import Derived.Test.YtjppnjhchojldaaEvApp2
namespace Go.Ev
variable {P : Program}

/- SLICE EXPRESSIONS -/
/-- a bound that is given, or none; it must be a number -/
noncomputable def bndk (x : Option V) (z : Nat) (k : Nat → Res) : Res := Option.rec (motive := fun _ => Res) (k z) (fun v => intk v fun _ n => natk n k) x
/-- a bound and its value -/
def BndR (ρ : Rho) : Option V → Option Value → Prop
  | none, none => True
  | some x, some v => VR ρ x v
  | _, _ => False
theorem bndk_ok {x : Option V} {z : Nat} {k : Nat → Res} {r : Res} (h : bndk x z k = r) (hr : r ≠ .fail) {ρ : Rho} {v : Option Value} (hv : BndR ρ x v) :
    ∃ n : Nat, k n = r ∧ ((x = none ∧ v = none ∧ n = z) ∨ (∃ kd, v = some (.int kd n))) := by
  cases x with
  | none => cases v with | none => exact ⟨z, h, .inl ⟨rfl, rfl, rfl⟩⟩ | some v => exact hv.elim
  | some x =>
    cases v with
    | none => exact hv.elim
    | some v =>
      obtain ⟨kd, n, rfl, h1⟩ := intk_ok (show intk x (fun _ n => natk n k) = r from h) hr
      obtain ⟨m, rfl, h2⟩ := natk_ok h1 hr
      have hv : VR ρ (.int kd m) v := hv
      exact ⟨m, h2, .inr ⟨kd, by rw [hv.int_inv]⟩⟩
theorem run_bound {w : World} {kd : IntKind} {n y : Nat} (h : n ≤ y) (c : BoundsCode) : (Instr.sliceBound (.int kd n) y c).run P w = .ok n w := by
  have h1 : (0 : Int) ≤ (n : Int) ∧ (n : Int) ≤ (y : Int) := ⟨by omega, by omega⟩
  simp only [Instr.sliceBound, asIntOf, Sem.run_bind, Sem.run_pure, Result.andThen_ok]
  rw [if_pos h1]
  simp
/-- the bounds of a slice expression without a third one -/
theorem run_bounds2 {w : World} {isS : Bool} {len cap lo hi : Nat} {low high : Option Value} (hlo : (low = none ∧ lo = 0) ∨ ∃ kd, low = some (.int kd lo))
    (hhi : (high = none ∧ hi = len) ∨ (∃ kd, high = some (.int kd hi)) ∧ hi ≤ cap) (hle : lo ≤ hi) : (Instr.sliceBounds isS len cap low high none).run P w = .ok (lo, hi, cap) w := by
  rcases hhi with ⟨rfl, rfl⟩ | ⟨⟨kd, rfl⟩, hc⟩ <;> rcases hlo with ⟨rfl, rfl⟩ | ⟨kd', rfl⟩
  · simp only [Instr.sliceBounds, Sem.run_bind, Sem.run_pure, Result.andThen_ok]
  · simp only [Instr.sliceBounds, Sem.run_bind, Sem.run_pure, Result.andThen_ok, run_bound hle]
  · simp only [Instr.sliceBounds, Sem.run_bind, Sem.run_pure, Result.andThen_ok, run_bound hc]
  · simp only [Instr.sliceBounds, Sem.run_bind, Sem.run_pure, Result.andThen_ok, run_bound hc, run_bound hle]
theorem run_bounds3 {w : World} {isS : Bool} {len cap lo hi mx : Nat} {low high max : Option Value} (hlo : (low = none ∧ lo = 0) ∨ ∃ kd, low = some (.int kd lo))
    (hhi : ∃ kd, high = some (.int kd hi)) (hmx : ∃ kd, max = some (.int kd mx)) (h1 : mx ≤ cap) (h2 : hi ≤ mx) (hle : lo ≤ hi) : (Instr.sliceBounds isS len cap low high max).run P w = .ok (lo, hi, mx) w := by
  obtain ⟨kd, rfl⟩ := hhi
  obtain ⟨kd', rfl⟩ := hmx
  rcases hlo with ⟨rfl, rfl⟩ | ⟨kd'', rfl⟩
  · simp only [Instr.sliceBounds, Sem.run_bind, Sem.run_pure, Result.andThen_ok, run_bound h1, run_bound h2]
  · simp only [Instr.sliceBounds, Sem.run_bind, Sem.run_pure, Result.andThen_ok, run_bound h1, run_bound h2, run_bound hle]

/-- of a string -/
noncomputable def sSliceS (x : V) (lo hi : Option V) (h : Heap) (k : V → Heap → Res) : Res :=
  strk x fun l n => bndk lo 0 fun a => bndk hi l fun b => ifk (Nat.ble a b) (ifk (Nat.ble b l) (k (.str (Nat.sub b a) (Nat.mod (Nat.div n (Nat.pow 2 (Nat.mul 8 a))) (Nat.pow 2 (Nat.mul 8 (Nat.sub b a))))) h) .fail) .fail
theorem sSliceS_ok {x : V} {lo hi : Option V} {h : Heap} {k : V → Heap → Res} {r : Res} (hh : sSliceS x lo hi h k = r) (hr : r ≠ .fail) {ρ : Rho} {w : World} (_ : RH ρ h w) {v : Value} (hv : VR ρ x v)
    {low high : Option Value} (hlo : BndR ρ lo low) (hhi : BndR ρ hi high) {t : TypeId} (ht : P.underlying t = some .string) : OkP P ρ h w (Instr.sliceAt t v low high none) k r := by
  obtain ⟨l, n, rfl, h1⟩ := strk_ok hh hr
  obtain ⟨a, h2, h3⟩ := bndk_ok h1 hr hlo
  obtain ⟨b, h4, h5⟩ := bndk_ok h2 hr hhi
  obtain ⟨hab, h6⟩ := ifk_fail h4 hr
  obtain ⟨hbl, h7⟩ := ifk_fail h6 hr
  have hab : a ≤ b := Nat.le_of_ble_eq_true hab
  have hbl : b ≤ l := Nat.le_of_ble_eq_true hbl
  obtain ⟨s, rfl, e1, e2⟩ := hv.str_inv
  have hsz := str_size e1
  have hb := run_bounds2 (P := P) (w := w) (isS := false) (len := s.size) (cap := s.size) (lo := a) (hi := b) (low := low) (high := high)
    (h3.imp (fun h => h.2) id) (h5.imp (fun h => ⟨h.2.1, by omega⟩) (fun h => ⟨h, by omega⟩)) hab
  refine ⟨_, .string (s.extract a b), h7, ?_, ?_⟩
  · simp only [Instr.sliceAt, Instr.slice, Sem.run_bind, run_und ht, Result.andThen_ok, Option.isSome_none, Bool.false_eq_true, if_false, hb, Sem.run_pure]
  · refine .str ?_ ?_
    · show (s.extract a b).data.toList = dig (b - a) (n / 2 ^ (8 * a) % 2 ^ (8 * (b - a)))
      rw [ByteArray.data_extract, Array.toList_extract, List.extract_eq_take_drop, e1, ← pow256, ← pow256]
      obtain ⟨d, rfl⟩ : ∃ d, l = a + d := ⟨l - a, by omega⟩
      rw [dig_drop]
      obtain ⟨d', rfl⟩ : ∃ d', d = (b - a) + d' := ⟨d - (b - a), by omega⟩
      rw [dig_take]
    · show n / 2 ^ (8 * a) % 2 ^ (8 * (b - a)) < 256 ^ (b - a)
      rw [← pow256 (b - a)]
      exact Nat.mod_lt _ (Nat.pow_pos (by decide))

noncomputable def optn (c : Option Nat) (l : Nat) : Nat := Option.rec (motive := fun _ => Nat) l (fun n => n) c
/-- of a slice: sz cells an element -/
noncomputable def sSlice (sz : Nat) (x : V) (lo hi mx : Option V) (h : Heap) (k : V → Heap → Res) : Res :=
  slk x
    (fun b o l c s => ifk (Nat.beq s sz) (bndk lo 0 fun i => bndk hi l fun j => ifk (Nat.ble i j)
      (Option.rec (motive := fun _ => Res)
        (optk c
          (fun cap => ifk (Nat.ble j cap) (ifk (Nat.beq cap i) (k .emp h) (k (.slice b (Nat.add o (Nat.mul i sz)) (Nat.sub j i) (some (Nat.sub cap i)) sz) h)) .fail)
          (ifk (Nat.ble j l) (ifk (Nat.blt i l) (k (.slice b (Nat.add o (Nat.mul i sz)) (Nat.sub j i) none sz) h) (k .emp h)) .fail))
        (fun m => bndk (some m) 0 fun mm => Option.rec (motive := fun _ => Res) .fail (fun _ => ifk (Nat.ble j mm) (ifk (Nat.ble mm (optn c l))
          (ifk (Nat.beq mm i) (k .emp h) (k (.slice b (Nat.add o (Nat.mul i sz)) (Nat.sub j i) (some (Nat.sub mm i)) sz) h)) .fail) .fail) hi) mx) .fail) .fail)
    (bndk lo 0 fun i => bndk hi 0 fun j => zk i (zk j (Option.rec (motive := fun _ => Res) (k .nils h) (fun _ => .fail) mx) .fail) .fail)
    (bndk lo 0 fun i => bndk hi 0 fun j => zk i (zk j (Option.rec (motive := fun _ => Res) (k .emp h) (fun _ => .fail) mx) .fail) .fail)

theorem sSlice_ok {sz0 : Nat} {x : V} {lo hi mx : Option V} {h : Heap} {k : V → Heap → Res} {r : Res} (hh : sSlice sz0 x lo hi mx h k = r) (hr : r ≠ .fail) {ρ : Rho} {w : World} (_ : RH ρ h w)
    {v : Value} (hv : VR ρ x v) {low high max : Option Value} (hlo : BndR ρ lo low) (hhi : BndR ρ hi high) (hmx : BndR ρ mx max) {t e : TypeId} (ht : P.underlying t = some (.slice e))
    (hs : sz P e = some sz0) (hpos : 0 < sz0) : OkP P ρ h w (Instr.sliceAt t v low high max) k r := by
  have unf : ∀ (a : Option Addr) (l cap i j m : Nat), (Instr.sliceBounds true l cap low high max).run P w = .ok (i, j, m) w →
      (Instr.sliceAt t (.slice a l cap) low high max).run P w = .ok (.slice (if m = i then a else a.map (·.add (i * sz0))) (j - i) (m - i)) w := by
    intro a l cap i j m hb
    simp only [Instr.sliceAt, Instr.slice, Sem.run_bind, run_und ht, Result.andThen_ok, hb, run_size hs, Sem.run_pure]
  rcases slk_ok hh hr with ⟨b, o, l, cp, s, rfl, h1⟩ | ⟨rfl, h1⟩ | ⟨rfl, h1⟩
  · obtain ⟨hs1, h2⟩ := ifk_fail h1 hr
    obtain rfl := Nat.eq_of_beq_eq_true hs1
    obtain ⟨c, z, S, cap, hb, hc1, hc2, hlc, rfl⟩ := hv.slice_inv
    obtain ⟨i, h3, h4⟩ := bndk_ok h2 hr hlo
    obtain ⟨j, h5, h6⟩ := bndk_ok h3 hr hhi
    obtain ⟨hij, h7⟩ := ifk_fail h5 hr
    have hij : i ≤ j := Nat.le_of_ble_eq_true hij
    have hlo' : (low = none ∧ i = 0) ∨ ∃ kd, low = some (.int kd i) := h4.imp (fun h => h.2) id
    -- what a slice behind the first i elements is
    have res : ∀ m, m ≤ cap → j ≤ m → m ≠ i → ∀ cp' : Option Nat, (∀ n, cp' = some n → m - i = n) → (cp' = none → m = cap ∧ cp = none) →
        VR ρ (.slice b (o + i * s) (j - i) cp' s) (.slice (if m = i then some ⟨c, z + o, none⟩ else (some (⟨c, z + o, none⟩ : Addr)).map (·.add (i * s))) (j - i) (m - i)) := by
      intro m hm hjm hne cp' hp1 hp2
      rw [if_neg hne]
      simp only [Option.map_some, add_addr, Nat.add_assoc]
      refine .slice hb hp1 (fun e0 => ?_) (by omega)
      obtain ⟨rfl, e2⟩ := hp2 e0
      have := hc2 e2
      have h9 : (m - i) * s = m * s - i * s := Nat.sub_mul _ _ _
      have h10 : i * s ≤ m * s := Nat.mul_le_mul_right s (by omega)
      omega
    have emp : ∀ m, m ≤ cap → j ≤ m → m = i → VR ρ .emp (.slice (if m = i then some ⟨c, z + o, none⟩ else (some (⟨c, z + o, none⟩ : Addr)).map (·.add (i * s))) (j - i) (m - i)) := by
      intro m _ hjm he
      have : j - i = 0 := by omega
      rw [this, if_pos he]
      exact .emp _ _
    cases mx with
    | none =>
      cases max with
      | some _ => exact hmx.elim
      | none =>
        rcases optk_cases (show optk cp _ _ = r from h7) with ⟨n, rfl, h8⟩ | ⟨rfl, h8⟩
        · have := hc1 n rfl
          subst this
          obtain ⟨hjc, h9⟩ := ifk_fail h8 hr
          have hjc : j ≤ cap := Nat.le_of_ble_eq_true hjc
          have hbd := run_bounds2 (P := P) (w := w) (isS := true) (len := l) (cap := cap) hlo'
            (h6.imp (fun h => h.2) (fun h => ⟨h, hjc⟩)) hij
          rcases ifk_ne h9 with ⟨he, h10⟩ | ⟨he, h10⟩
          · exact ⟨_, _, h10, unf _ _ _ _ _ _ hbd, emp cap (Nat.le_refl _) hjc (Nat.eq_of_beq_eq_true he)⟩
          · have hne : cap ≠ i := fun e => by rw [e] at he; simp at he
            exact ⟨_, _, h10, unf _ _ _ _ _ _ hbd, res cap (Nat.le_refl _) hjc hne _ (fun n e => by cases e; rfl) (fun e => by cases e)⟩
        · obtain ⟨hjl, h9⟩ := ifk_fail h8 hr
          have hjl : j ≤ l := Nat.le_of_ble_eq_true hjl
          have hbd := run_bounds2 (P := P) (w := w) (isS := true) (len := l) (cap := cap) hlo'
            (h6.imp (fun h => h.2) (fun h => ⟨h, by omega⟩)) hij
          rcases ifk_ne h9 with ⟨he, h10⟩ | ⟨he, h10⟩
          · have hil : i < l := by simpa [Nat.blt_eq] using he
            exact ⟨_, _, h10, unf _ _ _ _ _ _ hbd, res cap (Nat.le_refl _) (by omega) (by omega) _ (fun n e => by cases e) (fun _ => ⟨rfl, rfl⟩)⟩
          · have hil : ¬ i < l := fun e => by have := Nat.ble_eq_true_of_le (show Nat.succ i ≤ l from e); exact absurd (this.symm.trans he) (by simp)
            refine ⟨_, _, h10, unf _ _ _ _ _ _ hbd, ?_⟩
            have : j - i = 0 := by omega
            rw [this]
            by_cases e : cap = i
            · rw [if_pos e]; exact .emp _ _
            · rw [if_neg e]; exact .emp _ _
    | some m =>
      cases max with
      | none => exact hmx.elim
      | some mv =>
        obtain ⟨mm, h8, h9⟩ := bndk_ok (v := some mv) (show bndk (some m) 0 _ = r from h7) hr hmx
        obtain ⟨kd, hm⟩ : ∃ kd, (some mv : Option Value) = some (.int kd mm) := h9.elim (fun h => by cases h.1) id
        cases hm
        cases hi with
        | none => exact absurd (show Res.fail = r from h8).symm hr
        | some hx =>
          have hh2 : ∃ kd, high = some (.int kd j) := h6.elim (fun h => by cases h.1) id
          obtain ⟨hjm, h10⟩ := ifk_fail (show ifk (Nat.ble j mm) _ .fail = r from h8) hr
          have hjm : j ≤ mm := Nat.le_of_ble_eq_true hjm
          obtain ⟨hmc, h11⟩ := ifk_fail h10 hr
          have hmc : mm ≤ cap := by
            have h12 : mm ≤ optn cp l := Nat.le_of_ble_eq_true hmc
            cases cp with
            | none => exact Nat.le_trans h12 hlc
            | some n => rw [hc1 n rfl]; exact h12
          have hbd := run_bounds3 (P := P) (w := w) (isS := true) (len := l) (cap := cap) (lo := i) (hi := j) (mx := mm) (low := low) (high := high) hlo' hh2 ⟨kd, rfl⟩ hmc hjm hij
          rcases ifk_ne h11 with ⟨he, h12⟩ | ⟨he, h12⟩
          · exact ⟨_, _, h12, unf _ _ _ _ _ _ hbd, emp mm hmc hjm (Nat.eq_of_beq_eq_true he)⟩
          · have hne : mm ≠ i := fun e => by rw [e] at he; simp at he
            exact ⟨_, _, h12, unf _ _ _ _ _ _ hbd, res mm hmc hjm hne _ (fun n e => by cases e; rfl) (fun e => by cases e)⟩
  · rw [hv.nils_inv]
    obtain ⟨i, h3, h4⟩ := bndk_ok h1 hr hlo
    obtain ⟨j, h5, h6⟩ := bndk_ok h3 hr hhi
    obtain ⟨rfl, h7⟩ := zk_fail h5 hr
    obtain ⟨rfl, h8⟩ := zk_fail h7 hr
    cases mx with
    | some m => exact absurd (show Res.fail = r from h8).symm hr
    | none =>
      cases max with
      | some _ => exact hmx.elim
      | none =>
        have hbd := run_bounds2 (P := P) (w := w) (isS := true) (len := 0) (cap := 0) (h4.imp (fun h => h.2) id) (h6.imp (fun h => h.2) (fun h => ⟨h, Nat.le_refl _⟩)) (Nat.le_refl _)
        exact ⟨_, _, h8, unf _ _ _ _ _ _ hbd, by simpa using VR.nils⟩
  · cases hv with
    | emp a cap =>
      obtain ⟨i, h3, h4⟩ := bndk_ok h1 hr hlo
      obtain ⟨j, h5, h6⟩ := bndk_ok h3 hr hhi
      obtain ⟨rfl, h7⟩ := zk_fail h5 hr
      obtain ⟨rfl, h8⟩ := zk_fail h7 hr
      cases mx with
      | some m => exact absurd (show Res.fail = r from h8).symm hr
      | none =>
        cases max with
        | some _ => exact hmx.elim
        | none =>
          have hbd := run_bounds2 (P := P) (w := w) (isS := true) (len := 0) (cap := cap) (h4.imp (fun h => h.2) id) (h6.imp (fun h => h.2) (fun h => ⟨h, Nat.zero_le _⟩)) (Nat.le_refl _)
          refine ⟨_, _, h8, unf _ _ _ _ _ _ hbd, ?_⟩
          by_cases e : cap = 0
          · rw [if_pos e]; exact .emp _ _
          · rw [if_neg e]; exact .emp _ _

/-- of an array that a pointer leads to -/
noncomputable def sSliceA (n sz : Nat) (x : V) (lo hi : Option V) (h : Heap) (k : V → Heap → Res) : Res :=
  ptrk x fun b o => bndk lo 0 fun i => bndk hi n fun j => ifk (Nat.ble i j) (ifk (Nat.ble j n) (ifk (Nat.beq n i) (k .emp h) (k (.slice b (Nat.add o (Nat.mul i sz)) (Nat.sub j i) (some (Nat.sub n i)) sz) h)) .fail) .fail
theorem sSliceA_ok {n sz0 : Nat} {x : V} {lo hi : Option V} {h : Heap} {k : V → Heap → Res} {r : Res} (hh : sSliceA n sz0 x lo hi h k = r) (hr : r ≠ .fail) {ρ : Rho} {w : World} (_ : RH ρ h w)
    {v : Value} (hv : VR ρ x v) {low high : Option Value} (hlo : BndR ρ lo low) (hhi : BndR ρ hi high) {t e : TypeId} (ht : P.underlying t = some (.array n e))
    (hs : sz P e = some sz0) : OkP P ρ h w (Instr.sliceAt t v low high none) k r := by
  obtain ⟨b, o, rfl, h1⟩ := ptrk_ok hh hr
  obtain ⟨c, z, S, hb, rfl⟩ := hv.ptr_inv
  obtain ⟨i, h3, h4⟩ := bndk_ok h1 hr hlo
  obtain ⟨j, h5, h6⟩ := bndk_ok h3 hr hhi
  obtain ⟨hij, h7⟩ := ifk_fail h5 hr
  have hij : i ≤ j := Nat.le_of_ble_eq_true hij
  obtain ⟨hjn, h8⟩ := ifk_fail h7 hr
  have hjn : j ≤ n := Nat.le_of_ble_eq_true hjn
  have hbd := run_bounds2 (P := P) (w := w) (isS := false) (len := n) (cap := n) (h4.imp (fun h => h.2) id) (h6.imp (fun h => h.2) (fun h => ⟨h, hjn⟩)) hij
  have hrun : (Instr.sliceAt t (.pointer (some ⟨c, z + o, none⟩)) low high none).run P w = .ok (.slice (some (if n = i then ⟨c, z + o, none⟩ else (⟨c, z + o, none⟩ : Addr).add (i * sz0))) (j - i) (n - i)) w := by
    simp only [Instr.sliceAt, Sem.run_bind, run_und ht, Result.andThen_ok, Instr.sureAddr, Sem.run_pure, hbd, run_size hs]
  rcases ifk_ne h8 with ⟨he, h9⟩ | ⟨he, h9⟩
  · have he : n = i := Nat.eq_of_beq_eq_true he
    refine ⟨_, _, h9, hrun, ?_⟩
    have : j - i = 0 := by omega
    rw [this]; exact .emp _ _
  · have hne : n ≠ i := fun e => by rw [e] at he; simp at he
    refine ⟨_, _, h9, hrun, ?_⟩
    rw [if_neg hne, add_addr, Nat.add_assoc]
    exact .slice hb (fun m e => by cases e; rfl) (fun e => by cases e) (show j - i ≤ n - i by omega)

/- COPY -/
/-- the first so many elements of what is copied from -/
noncomputable def srcTk (sz d : Nat) (y : V) (h : Heap) (k : Nat → List V → Res) : Res :=
  slk y (fun b o l _ _ => loadk h b o (Nat.mul (Nat.min l d) sz) fun cs => k (Nat.min l d) cs) (k 0 []) (k 0 [])
noncomputable def srcTSk (d : Nat) (y : V) (k : Nat → List V → Res) : Res := strk y fun l n => bytesk (Nat.min l d) n fun cs => k (Nat.min l d) cs
/-- what the model makes of it: d: the room in the place where it goes -/
structure SrcT (P : Program) (ρ : Rho) (w : World) (sz d : Nat) (v : Value) (n : Nat) (l : List V) (xs : List Value) : Prop where
  len : ∃ m, (Builtin.lenOf v).run P w = .ok m w ∧ n = Nat.min m d
  cells : (Builtin.firstCells sz n v).run P w = .ok xs.toArray w
  vr : VRs ρ l xs
  size : l.length = n * sz
  one : ∀ x ∈ xs, x.oneCell' = true
theorem srcTk_ok {sz d : Nat} {y : V} {h : Heap} {k : Nat → List V → Res} {r : Res} (hh : srcTk sz d y h k = r) (hr : r ≠ .fail) {ρ : Rho} {w : World} (rh : RH ρ h w) {v : Value} (hv : VR ρ y v) :
    ∃ n l xs, k n l = r ∧ SrcT P ρ w sz d v n l xs := by
  rcases slk_ok hh hr with ⟨b, o, l, cp, s, rfl, h1⟩ | ⟨rfl, h1⟩ | ⟨rfl, h1⟩
  · obtain ⟨c, z, S, cap, hb, _, _, _, rfl⟩ := hv.slice_inv
    obtain ⟨m, xs, h2, h3, h4, h5, h6⟩ := loadk_ok (P := P) h1 hr rh hb
    exact ⟨_, m, xs, h2, ⟨l, rfl, rfl⟩, h3 w.drawn, h4, by rw [h4.length]; exact h5, h6⟩
  · rw [hv.nils_inv]
    exact ⟨0, [], [], h1, ⟨0, rfl, (Nat.zero_min d).symm⟩, rfl, .nil, by simp, by simp⟩
  · cases hv with
    | emp a cap =>
      refine ⟨0, [], [], h1, ⟨0, rfl, (Nat.zero_min d).symm⟩, ?_, .nil, by simp, by simp⟩
      show (loadCells a (0 * sz)).run P _ = _
      rw [Nat.zero_mul]; rfl
theorem dig_mod (a _l n : Nat) : dig a (n % 256 ^ a) = dig a n := by
  have := dig_take a 0 n
  simp only [Nat.add_zero] at this
  rw [← this, List.take_of_length_le]
  rw [dig_length]; omega
theorem srcTSk_ok {d : Nat} {y : V} {k : Nat → List V → Res} {r : Res} (hh : srcTSk d y k = r) (hr : r ≠ .fail) {ρ : Rho} {w : World} {v : Value} (hv : VR ρ y v) :
    ∃ n l xs, k n l = r ∧ SrcT P ρ w 1 d v n l xs := by
  obtain ⟨l, n, rfl, h1⟩ := strk_ok hh hr
  obtain ⟨s, rfl, e1, e2⟩ := hv.str_inv
  obtain ⟨m, h2, h3, h4⟩ := bytesk_ok (ρ := ρ) h1
  have hsz := str_size e1
  refine ⟨_, m, _, h2, ⟨l, by simp [Builtin.lenOf, hsz], rfl⟩, ?_, h4, by omega, ?_⟩
  · simp only [Builtin.firstCells, Sem.run_pure]
    congr 1
    apply Array.ext'
    rw [Array.toList_map, ByteArray.data_extract, Array.toList_extract, List.extract_eq_take_drop, List.drop_zero, e1]
    obtain ⟨q, hq⟩ : ∃ q, l = Nat.min l d + q := ⟨l - Nat.min l d, by have := Nat.min_le_left l d; show l = min l d + (l - min l d); omega⟩
    have : (dig l n).take (Nat.min l d - 0) = dig (Nat.min l d) n := by
      rw [Nat.sub_zero]
      have h5 := dig_take (Nat.min l d) q n
      rw [← hq, dig_mod _ 0] at h5
      exact h5
    rw [this]
  · intro x hx
    obtain ⟨b, _, rfl⟩ := List.mem_map.1 hx
    rfl
noncomputable def copyk (sz : Nat) (x : V) (h : Heap) (src : Nat → (Nat → List V → Res) → Res) (k : V → Heap → Res) : Res :=
  slk x (fun b o l _ _ => src l fun n cs => storek h b o (Nat.mul n sz) cs fun h' => k (.int .i64 (.ofNat n)) h') (k (.int .i64 (.ofNat 0)) h) (k (.int .i64 (.ofNat 0)) h)
theorem copyk_ok {sz0 : Nat} {x : V} {h : Heap} {src : Nat → (Nat → List V → Res) → Res} {k : V → Heap → Res} {r : Res} (hh : copyk sz0 x h src k = r) (hr : r ≠ .fail) {ρ : Rho} {w : World} (rh : RH ρ h w)
    {v y : Value} (hv : VR ρ x v) (hsrc : ∀ d k r, src d k = r → r ≠ .fail → ∃ n l xs, k n l = r ∧ SrcT P ρ w sz0 d y n l xs) (hlen : ∃ m, (Builtin.lenOf y).run P w = .ok m w)
    (hz : (Builtin.firstCells sz0 0 y).run P w = .ok #[] w) {ts : Array TypeId} {t e u : TypeId} (h0 : ts[0]? = some t) (ht : P.underlying t = some (.slice e)) (hs : sz P e = some sz0) :
    Ok P ρ h w (Builtin.copy_ ts u #[v, y]) k r := by
  have e1 : ∀ v : Value, (#[v, y] : Array Value)[0]? = some v := fun _ => rfl
  have e2 : ∀ v : Value, (#[v, y] : Array Value)[1]? = some y := fun _ => rfl
  obtain ⟨m0, hl0⟩ := hlen
  rcases slk_ok hh hr with ⟨b, o, l, cp, s, rfl, h1⟩ | ⟨rfl, h1⟩ | ⟨rfl, h1⟩
  · obtain ⟨c, z, S, cap, hb, _, _, _, rfl⟩ := hv.slice_inv
    obtain ⟨n, cs, xs, h2, h3⟩ := hsrc l _ _ h1 hr
    obtain ⟨h', h4, h5⟩ := storek_ok (P := P) h3.size h2 hr rh hb
    obtain ⟨w', h6, h7, h8⟩ := h5 xs h3.vr h3.one
    obtain ⟨m, hl, hm⟩ := h3.len
    refine ⟨_, h', ρ, .int .i64 n, w', h4, ?_, .int _ _, h7, h8⟩
    simp only [Builtin.copy_, h0, e1, e2, Sem.run_bind, run_und ht, Result.andThen_ok, hl, run_size hs, ← hm, h3.cells, h6, Sem.run_pure, goInt]
  · rw [hv.nils_inv]
    refine .pure rh ⟨_, .int .i64 0, h1, ?_, .int _ _⟩
    have hm0 : Nat.min m0 0 = 0 := Nat.min_zero m0
    simp only [Builtin.copy_, h0, e1, e2, Sem.run_bind, run_und ht, Result.andThen_ok, hl0, run_size hs, hm0, hz, Sem.run_pure, goInt]
    rfl
  · cases hv with
    | emp a cap =>
      refine .pure rh ⟨_, .int .i64 0, h1, ?_, .int _ _⟩
      have hm0 : Nat.min m0 0 = 0 := Nat.min_zero m0
      simp only [Builtin.copy_, h0, e1, e2, Sem.run_bind, run_und ht, Result.andThen_ok, hl0, run_size hs, hm0, hz, Sem.run_pure, goInt]
      rfl
end Go.Ev
