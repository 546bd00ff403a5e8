/- EvOps3: texts joined. -/
import Derived.Test.YtacpbnjbbkhngaaGreatDoorEvApp
import Derived.Laws.BytesString
/- EVALUATOR, 14: slice expressions; copy; make; bytes and strings. -/
namespace Go.Ev
variable {P : Program}

/- SLICE EXPRESSIONS -/
/-- a bound that is given, or none; it must be a number -/
noncomputable def bndk (x : Option V) (z : Nat) (k : Nat → Res) : Res := Option.rec (motive := fun _ => Res) (k z) (fun v => intk v fun _ n => natk n k) x
/-- a bound and its value -/
def BndR (ρ : Rho) : Option V → Option Value → Prop
  | none, none => True
  | some x, some v => VR ρ x v
  | _, _ => False
theorem bndk_ok {x : Option V} {z : Nat} {k : Nat → Res} {r : Res} (h : bndk x z k = r) (hr : r ≠ .fail) {ρ : Rho} {v : Option Value} (hv : BndR ρ x v) :
    ∃ n : Nat, k n = r ∧ ((x = none ∧ v = none ∧ n = z) ∨ (∃ kd, v = some (.int kd n))) := by
  cases x with
  | none => cases v with | none => exact ⟨z, h, .inl ⟨rfl, rfl, rfl⟩⟩ | some v => exact hv.elim
  | some x =>
    cases v with
    | none => exact hv.elim
    | some v =>
      obtain ⟨kd, n, rfl, h1⟩ := intk_ok (show intk x (fun _ n => natk n k) = r from h) hr
      obtain ⟨m, rfl, h2⟩ := natk_ok h1 hr
      have hv : VR ρ (.int kd m) v := hv
      exact ⟨m, h2, .inr ⟨kd, by rw [hv.int_inv]⟩⟩
theorem run_bound {w : World} {kd : IntKind} {n y : Nat} (h : n ≤ y) (c : BoundsCode) : (Instr.sliceBound (.int kd n) y c).run P w = .ok n w := by
  have h1 : (0 : Int) ≤ (n : Int) ∧ (n : Int) ≤ (y : Int) := ⟨by omega, by omega⟩
  simp only [Instr.sliceBound, asIntOf, Sem.run_bind, Sem.run_pure, Result.andThen_ok]
  rw [if_pos h1]
  simp
/-- the bounds of a slice expression without a third one -/
theorem run_bounds2 {w : World} {isS : Bool} {len cap lo hi : Nat} {low high : Option Value} (hlo : (low = none ∧ lo = 0) ∨ ∃ kd, low = some (.int kd lo))
    (hhi : (high = none ∧ hi = len) ∨ (∃ kd, high = some (.int kd hi)) ∧ hi ≤ cap) (hle : lo ≤ hi) : (Instr.sliceBounds isS len cap low high none).run P w = .ok (lo, hi, cap) w := by
  rcases hhi with ⟨rfl, rfl⟩ | ⟨⟨kd, rfl⟩, hc⟩ <;> rcases hlo with ⟨rfl, rfl⟩ | ⟨kd', rfl⟩
  · simp only [Instr.sliceBounds, Sem.run_bind, Sem.run_pure, Result.andThen_ok]
  · simp only [Instr.sliceBounds, Sem.run_bind, Sem.run_pure, Result.andThen_ok, run_bound hle]
  · simp only [Instr.sliceBounds, Sem.run_bind, Sem.run_pure, Result.andThen_ok, run_bound hc]
  · simp only [Instr.sliceBounds, Sem.run_bind, Sem.run_pure, Result.andThen_ok, run_bound hc, run_bound hle]
theorem run_bounds3 {w : World} {isS : Bool} {len cap lo hi mx : Nat} {low high max : Option Value} (hlo : (low = none ∧ lo = 0) ∨ ∃ kd, low = some (.int kd lo))
    (hhi : ∃ kd, high = some (.int kd hi)) (hmx : ∃ kd, max = some (.int kd mx)) (h1 : mx ≤ cap) (h2 : hi ≤ mx) (hle : lo ≤ hi) : (Instr.sliceBounds isS len cap low high max).run P w = .ok (lo, hi, mx) w := by
  obtain ⟨kd, rfl⟩ := hhi
  obtain ⟨kd', rfl⟩ := hmx
  rcases hlo with ⟨rfl, rfl⟩ | ⟨kd'', rfl⟩
  · simp only [Instr.sliceBounds, Sem.run_bind, Sem.run_pure, Result.andThen_ok, run_bound h1, run_bound h2]
  · simp only [Instr.sliceBounds, Sem.run_bind, Sem.run_pure, Result.andThen_ok, run_bound h1, run_bound h2, run_bound hle]

/-- of a string -/
noncomputable def sSliceS (x : V) (lo hi : Option V) (h : Heap) (k : V → Heap → Res) : Res :=
  strk x fun l n => bndk lo 0 fun a => bndk hi l fun b => ifk (Nat.ble a b) (ifk (Nat.ble b l) (k (.str (Nat.sub b a) (Nat.mod (Nat.div n (Nat.pow 2 (Nat.mul 8 a))) (Nat.pow 2 (Nat.mul 8 (Nat.sub b a))))) h) .fail) .fail
theorem sSliceS_ok {x : V} {lo hi : Option V} {h : Heap} {k : V → Heap → Res} {r : Res} (hh : sSliceS x lo hi h k = r) (hr : r ≠ .fail) {ρ : Rho} {w : World} (_ : RH P ρ h w) {v : Value} (hv : VR ρ x v)
    {low high : Option Value} (hlo : BndR ρ lo low) (hhi : BndR ρ hi high) {t : TypeId} (ht : P.underlying t = some .string) : OkP P ρ h w (Instr.sliceAt t v low high none) k r := by
  obtain ⟨l, n, rfl, h1⟩ := strk_ok hh hr
  obtain ⟨a, h2, h3⟩ := bndk_ok h1 hr hlo
  obtain ⟨b, h4, h5⟩ := bndk_ok h2 hr hhi
  obtain ⟨hab, h6⟩ := ifk_fail h4 hr
  obtain ⟨hbl, h7⟩ := ifk_fail h6 hr
  have hab : a ≤ b := Nat.le_of_ble_eq_true hab
  have hbl : b ≤ l := Nat.le_of_ble_eq_true hbl
  obtain ⟨s, rfl, e1, e2⟩ := hv.str_inv
  have hsz := str_size e1
  have hb := run_bounds2 (P := P) (w := w) (isS := false) (len := s.size) (cap := s.size) (lo := a) (hi := b) (low := low) (high := high)
    (h3.imp (fun h => h.2) id) (h5.imp (fun h => ⟨h.2.1, by omega⟩) (fun h => ⟨h, by omega⟩)) hab
  refine ⟨_, .string (s.extract a b), h7, ?_, ?_⟩
  · simp only [Instr.sliceAt, Instr.slice, Sem.run_bind, run_und ht, Result.andThen_ok, Option.isSome_none, Bool.false_eq_true, if_false, hb, Sem.run_pure]
  · refine .str ?_ ?_
    · show (s.extract a b).data.toList = dig (b - a) (n / 2 ^ (8 * a) % 2 ^ (8 * (b - a)))
      rw [ByteArray.data_extract, Array.toList_extract, List.extract_eq_take_drop, e1, ← pow256, ← pow256]
      obtain ⟨d, rfl⟩ : ∃ d, l = a + d := ⟨l - a, by omega⟩
      rw [dig_drop]
      obtain ⟨d', rfl⟩ : ∃ d', d = (b - a) + d' := ⟨d - (b - a), by omega⟩
      rw [dig_take]
    · show n / 2 ^ (8 * a) % 2 ^ (8 * (b - a)) < 256 ^ (b - a)
      rw [← pow256 (b - a)]
      exact Nat.mod_lt _ (Nat.pow_pos (by decide))

noncomputable def optn (c : Option Nat) (l : Nat) : Nat := Option.rec (motive := fun _ => Nat) l (fun n => n) c
/-- of a slice: sz cells an element -/
noncomputable def sSlice (sz : Nat) (x : V) (lo hi mx : Option V) (h : Heap) (k : V → Heap → Res) : Res :=
  slk x
    (fun b o l c s => ifk (Nat.beq s sz) (bndk lo 0 fun i => bndk hi l fun j => ifk (Nat.ble i j)
      (Option.rec (motive := fun _ => Res)
        (optk c
          (fun cap => ifk (Nat.ble j cap) (ifk (Nat.beq cap i) (k .emp h) (k (.slice b (Nat.add o (Nat.mul i sz)) (Nat.sub j i) (some (Nat.sub cap i)) sz) h)) .fail)
          (ifk (Nat.ble j l) (ifk (Nat.blt i l) (k (.slice b (Nat.add o (Nat.mul i sz)) (Nat.sub j i) none sz) h) (k .emp h)) .fail))
        (fun m => bndk (some m) 0 fun mm => Option.rec (motive := fun _ => Res) .fail (fun _ => ifk (Nat.ble j mm) (ifk (Nat.ble mm (optn c l))
          (ifk (Nat.beq mm i) (k .emp h) (k (.slice b (Nat.add o (Nat.mul i sz)) (Nat.sub j i) (some (Nat.sub mm i)) sz) h)) .fail) .fail) hi) mx) .fail) .fail)
    (bndk lo 0 fun i => bndk hi 0 fun j => zk i (zk j (Option.rec (motive := fun _ => Res) (k .nils h) (fun _ => .fail) mx) .fail) .fail)
    (bndk lo 0 fun i => bndk hi 0 fun j => zk i (zk j (Option.rec (motive := fun _ => Res) (k .emp h) (fun _ => .fail) mx) .fail) .fail)

theorem sSlice_ok {sz0 : Nat} {x : V} {lo hi mx : Option V} {h : Heap} {k : V → Heap → Res} {r : Res} (hh : sSlice sz0 x lo hi mx h k = r) (hr : r ≠ .fail) {ρ : Rho} {w : World} (_ : RH P ρ h w)
    {v : Value} (hv : VR ρ x v) {low high max : Option Value} (hlo : BndR ρ lo low) (hhi : BndR ρ hi high) (hmx : BndR ρ mx max) {t e : TypeId} (ht : P.underlying t = some (.slice e))
    (hs : sz P e = some sz0) (hpos : 0 < sz0) : OkP P ρ h w (Instr.sliceAt t v low high max) k r := by
  have unf : ∀ (a : Option Addr) (l cap i j m : Nat), (Instr.sliceBounds true l cap low high max).run P w = .ok (i, j, m) w →
      (Instr.sliceAt t (.slice a l cap) low high max).run P w = .ok (.slice (if m = i then a else a.map (·.add (i * sz0))) (j - i) (m - i)) w := by
    intro a l cap i j m hb
    simp only [Instr.sliceAt, Instr.slice, Sem.run_bind, run_und ht, Result.andThen_ok, hb, run_size hs, Sem.run_pure]
  rcases slk_ok hh hr with ⟨b, o, l, cp, s, rfl, h1⟩ | ⟨rfl, h1⟩ | ⟨rfl, h1⟩
  · obtain ⟨hs1, h2⟩ := ifk_fail h1 hr
    obtain rfl := Nat.eq_of_beq_eq_true hs1
    obtain ⟨c, z, S, cap, hb, hc1, hc2, hlc, rfl⟩ := hv.slice_inv
    obtain ⟨i, h3, h4⟩ := bndk_ok h2 hr hlo
    obtain ⟨j, h5, h6⟩ := bndk_ok h3 hr hhi
    obtain ⟨hij, h7⟩ := ifk_fail h5 hr
    have hij : i ≤ j := Nat.le_of_ble_eq_true hij
    have hlo' : (low = none ∧ i = 0) ∨ ∃ kd, low = some (.int kd i) := h4.imp (fun h => h.2) id
    -- what a slice behind the first i elements is
    have res : ∀ m, m ≤ cap → j ≤ m → m ≠ i → ∀ cp' : Option Nat, (∀ n, cp' = some n → m - i = n) → (cp' = none → m = cap ∧ cp = none) →
        VR ρ (.slice b (o + i * s) (j - i) cp' s) (.slice (if m = i then some ⟨c, z + o, none⟩ else (some (⟨c, z + o, none⟩ : Addr)).map (·.add (i * s))) (j - i) (m - i)) := by
      intro m hm hjm hne cp' hp1 hp2
      rw [if_neg hne]
      simp only [Option.map_some, add_addr, Nat.add_assoc]
      refine .slice hb hp1 (fun e0 => ?_) (by omega)
      obtain ⟨rfl, e2⟩ := hp2 e0
      have := hc2 e2
      have h9 : (m - i) * s = m * s - i * s := Nat.sub_mul _ _ _
      have h10 : i * s ≤ m * s := Nat.mul_le_mul_right s (by omega)
      omega
    have emp : ∀ m, m ≤ cap → j ≤ m → m = i → VR ρ .emp (.slice (if m = i then some ⟨c, z + o, none⟩ else (some (⟨c, z + o, none⟩ : Addr)).map (·.add (i * s))) (j - i) (m - i)) := by
      intro m _ hjm he
      have : j - i = 0 := by omega
      rw [this, if_pos he]
      exact .emp _ _
    cases mx with
    | none =>
      cases max with
      | some _ => exact hmx.elim
      | none =>
        rcases optk_cases (show optk cp _ _ = r from h7) with ⟨n, rfl, h8⟩ | ⟨rfl, h8⟩
        · have := hc1 n rfl
          subst this
          obtain ⟨hjc, h9⟩ := ifk_fail h8 hr
          have hjc : j ≤ cap := Nat.le_of_ble_eq_true hjc
          have hbd := run_bounds2 (P := P) (w := w) (isS := true) (len := l) (cap := cap) hlo'
            (h6.imp (fun h => h.2) (fun h => ⟨h, hjc⟩)) hij
          rcases ifk_ne h9 with ⟨he, h10⟩ | ⟨he, h10⟩
          · exact ⟨_, _, h10, unf _ _ _ _ _ _ hbd, emp cap (Nat.le_refl _) hjc (Nat.eq_of_beq_eq_true he)⟩
          · have hne : cap ≠ i := fun e => by rw [e] at he; simp at he
            exact ⟨_, _, h10, unf _ _ _ _ _ _ hbd, res cap (Nat.le_refl _) hjc hne _ (fun n e => by cases e; rfl) (fun e => by cases e)⟩
        · obtain ⟨hjl, h9⟩ := ifk_fail h8 hr
          have hjl : j ≤ l := Nat.le_of_ble_eq_true hjl
          have hbd := run_bounds2 (P := P) (w := w) (isS := true) (len := l) (cap := cap) hlo'
            (h6.imp (fun h => h.2) (fun h => ⟨h, by omega⟩)) hij
          rcases ifk_ne h9 with ⟨he, h10⟩ | ⟨he, h10⟩
          · have hil : i < l := by simpa [Nat.blt_eq] using he
            exact ⟨_, _, h10, unf _ _ _ _ _ _ hbd, res cap (Nat.le_refl _) (by omega) (by omega) _ (fun n e => by cases e) (fun _ => ⟨rfl, rfl⟩)⟩
          · have hil : ¬ i < l := fun e => by have := Nat.ble_eq_true_of_le (show Nat.succ i ≤ l from e); exact absurd (this.symm.trans he) (by simp)
            refine ⟨_, _, h10, unf _ _ _ _ _ _ hbd, ?_⟩
            have : j - i = 0 := by omega
            rw [this]
            by_cases e : cap = i
            · rw [if_pos e]; exact .emp _ _
            · rw [if_neg e]; exact .emp _ _
    | some m =>
      cases max with
      | none => exact hmx.elim
      | some mv =>
        obtain ⟨mm, h8, h9⟩ := bndk_ok (v := some mv) (show bndk (some m) 0 _ = r from h7) hr hmx
        obtain ⟨kd, hm⟩ : ∃ kd, (some mv : Option Value) = some (.int kd mm) := h9.elim (fun h => by cases h.1) id
        cases hm
        cases hi with
        | none => exact absurd (show Res.fail = r from h8).symm hr
        | some hx =>
          have hh2 : ∃ kd, high = some (.int kd j) := h6.elim (fun h => by cases h.1) id
          obtain ⟨hjm, h10⟩ := ifk_fail (show ifk (Nat.ble j mm) _ .fail = r from h8) hr
          have hjm : j ≤ mm := Nat.le_of_ble_eq_true hjm
          obtain ⟨hmc, h11⟩ := ifk_fail h10 hr
          have hmc : mm ≤ cap := by
            have h12 : mm ≤ optn cp l := Nat.le_of_ble_eq_true hmc
            cases cp with
            | none => exact Nat.le_trans h12 hlc
            | some n => rw [hc1 n rfl]; exact h12
          have hbd := run_bounds3 (P := P) (w := w) (isS := true) (len := l) (cap := cap) (lo := i) (hi := j) (mx := mm) (low := low) (high := high) hlo' hh2 ⟨kd, rfl⟩ hmc hjm hij
          rcases ifk_ne h11 with ⟨he, h12⟩ | ⟨he, h12⟩
          · exact ⟨_, _, h12, unf _ _ _ _ _ _ hbd, emp mm hmc hjm (Nat.eq_of_beq_eq_true he)⟩
          · have hne : mm ≠ i := fun e => by rw [e] at he; simp at he
            exact ⟨_, _, h12, unf _ _ _ _ _ _ hbd, res mm hmc hjm hne _ (fun n e => by cases e; rfl) (fun e => by cases e)⟩
  · rw [hv.nils_inv]
    obtain ⟨i, h3, h4⟩ := bndk_ok h1 hr hlo
    obtain ⟨j, h5, h6⟩ := bndk_ok h3 hr hhi
    obtain ⟨rfl, h7⟩ := zk_fail h5 hr
    obtain ⟨rfl, h8⟩ := zk_fail h7 hr
    cases mx with
    | some m => exact absurd (show Res.fail = r from h8).symm hr
    | none =>
      cases max with
      | some _ => exact hmx.elim
      | none =>
        have hbd := run_bounds2 (P := P) (w := w) (isS := true) (len := 0) (cap := 0) (h4.imp (fun h => h.2) id) (h6.imp (fun h => h.2) (fun h => ⟨h, Nat.le_refl _⟩)) (Nat.le_refl _)
        exact ⟨_, _, h8, unf _ _ _ _ _ _ hbd, by simpa using VR.nils⟩
  · cases hv with
    | emp a cap =>
      obtain ⟨i, h3, h4⟩ := bndk_ok h1 hr hlo
      obtain ⟨j, h5, h6⟩ := bndk_ok h3 hr hhi
      obtain ⟨rfl, h7⟩ := zk_fail h5 hr
      obtain ⟨rfl, h8⟩ := zk_fail h7 hr
      cases mx with
      | some m => exact absurd (show Res.fail = r from h8).symm hr
      | none =>
        cases max with
        | some _ => exact hmx.elim
        | none =>
          have hbd := run_bounds2 (P := P) (w := w) (isS := true) (len := 0) (cap := cap) (h4.imp (fun h => h.2) id) (h6.imp (fun h => h.2) (fun h => ⟨h, Nat.zero_le _⟩)) (Nat.le_refl _)
          refine ⟨_, _, h8, unf _ _ _ _ _ _ hbd, ?_⟩
          by_cases e : cap = 0
          · rw [if_pos e]; exact .emp _ _
          · rw [if_neg e]; exact .emp _ _

/-- of an array that a pointer leads to -/
noncomputable def sSliceA (n sz : Nat) (x : V) (lo hi : Option V) (h : Heap) (k : V → Heap → Res) : Res :=
  ptrk x fun b o => bndk lo 0 fun i => bndk hi n fun j => ifk (Nat.ble i j) (ifk (Nat.ble j n) (ifk (Nat.beq n i) (k .emp h) (k (.slice b (Nat.add o (Nat.mul i sz)) (Nat.sub j i) (some (Nat.sub n i)) sz) h)) .fail) .fail
theorem sSliceA_ok {n sz0 : Nat} {x : V} {lo hi : Option V} {h : Heap} {k : V → Heap → Res} {r : Res} (hh : sSliceA n sz0 x lo hi h k = r) (hr : r ≠ .fail) {ρ : Rho} {w : World} (_ : RH P ρ h w)
    {v : Value} (hv : VR ρ x v) {low high : Option Value} (hlo : BndR ρ lo low) (hhi : BndR ρ hi high) {t e : TypeId} (ht : P.underlying t = some (.array n e))
    (hs : sz P e = some sz0) : OkP P ρ h w (Instr.sliceAt t v low high none) k r := by
  obtain ⟨b, o, rfl, h1⟩ := ptrk_ok hh hr
  obtain ⟨c, z, S, hb, rfl⟩ := hv.ptr_inv
  obtain ⟨i, h3, h4⟩ := bndk_ok h1 hr hlo
  obtain ⟨j, h5, h6⟩ := bndk_ok h3 hr hhi
  obtain ⟨hij, h7⟩ := ifk_fail h5 hr
  have hij : i ≤ j := Nat.le_of_ble_eq_true hij
  obtain ⟨hjn, h8⟩ := ifk_fail h7 hr
  have hjn : j ≤ n := Nat.le_of_ble_eq_true hjn
  have hbd := run_bounds2 (P := P) (w := w) (isS := false) (len := n) (cap := n) (h4.imp (fun h => h.2) id) (h6.imp (fun h => h.2) (fun h => ⟨h, hjn⟩)) hij
  have hrun : (Instr.sliceAt t (.pointer (some ⟨c, z + o, none⟩)) low high none).run P w = .ok (.slice (some (if n = i then ⟨c, z + o, none⟩ else (⟨c, z + o, none⟩ : Addr).add (i * sz0))) (j - i) (n - i)) w := by
    simp only [Instr.sliceAt, Sem.run_bind, run_und ht, Result.andThen_ok, Instr.sureAddr, Sem.run_pure, hbd, run_size hs]
  rcases ifk_ne h8 with ⟨he, h9⟩ | ⟨he, h9⟩
  · have he : n = i := Nat.eq_of_beq_eq_true he
    refine ⟨_, _, h9, hrun, ?_⟩
    have : j - i = 0 := by omega
    rw [this]; exact .emp _ _
  · have hne : n ≠ i := fun e => by rw [e] at he; simp at he
    refine ⟨_, _, h9, hrun, ?_⟩
    rw [if_neg hne, add_addr, Nat.add_assoc]
    exact .slice hb (fun m e => by cases e; rfl) (fun e => by cases e) (show j - i ≤ n - i by omega)

/- COPY -/
/-- the first so many elements of what is copied from -/
noncomputable def srcTk (sz d : Nat) (y : V) (h : Heap) (k : Nat → List V → Res) : Res :=
  slk y (fun b o l _ _ => loadk h b o (Nat.mul (Nat.min l d) sz) fun cs => k (Nat.min l d) cs) (k 0 []) (k 0 [])
noncomputable def srcTSk (d : Nat) (y : V) (k : Nat → List V → Res) : Res := strk y fun l n => bytesk (Nat.min l d) n fun cs => k (Nat.min l d) cs
/-- what the model makes of it: d: the room in the place where it goes -/
structure SrcT (P : Program) (ρ : Rho) (w : World) (sz d : Nat) (v : Value) (n : Nat) (l : List V) (xs : List Value) : Prop where
  len : ∃ m, (Builtin.lenOf v).run P w = .ok m w ∧ n = Nat.min m d
  cells : (Builtin.firstCells sz n v).run P w = .ok xs.toArray w
  vr : VRs ρ l xs
  size : l.length = n * sz
  one : ∀ x ∈ xs, x.oneCell' = true
theorem srcTk_ok {sz d : Nat} {y : V} {h : Heap} {k : Nat → List V → Res} {r : Res} (hh : srcTk sz d y h k = r) (hr : r ≠ .fail) {ρ : Rho} {w : World} (rh : RH P ρ h w) {v : Value} (hv : VR ρ y v) :
    ∃ n l xs, k n l = r ∧ SrcT P ρ w sz d v n l xs := by
  rcases slk_ok hh hr with ⟨b, o, l, cp, s, rfl, h1⟩ | ⟨rfl, h1⟩ | ⟨rfl, h1⟩
  · obtain ⟨c, z, S, cap, hb, _, _, _, rfl⟩ := hv.slice_inv
    obtain ⟨m, xs, h2, h3, h4, h5, h6⟩ := loadk_ok (P := P) h1 hr rh hb
    exact ⟨_, m, xs, h2, ⟨l, rfl, rfl⟩, h3 w.drawn, h4, by rw [h4.length]; exact h5, h6⟩
  · rw [hv.nils_inv]
    exact ⟨0, [], [], h1, ⟨0, rfl, (Nat.zero_min d).symm⟩, rfl, .nil, by simp, by simp⟩
  · cases hv with
    | emp a cap =>
      refine ⟨0, [], [], h1, ⟨0, rfl, (Nat.zero_min d).symm⟩, ?_, .nil, by simp, by simp⟩
      show (loadCells a (0 * sz)).run P _ = _
      rw [Nat.zero_mul]; rfl
theorem dig_mod (a _l n : Nat) : dig a (n % 256 ^ a) = dig a n := by
  have := dig_take a 0 n
  simp only [Nat.add_zero] at this
  rw [← this, List.take_of_length_le]
  rw [dig_length]; omega
theorem srcTSk_ok {d : Nat} {y : V} {k : Nat → List V → Res} {r : Res} (hh : srcTSk d y k = r) (hr : r ≠ .fail) {ρ : Rho} {w : World} {v : Value} (hv : VR ρ y v) :
    ∃ n l xs, k n l = r ∧ SrcT P ρ w 1 d v n l xs := by
  obtain ⟨l, n, rfl, h1⟩ := strk_ok hh hr
  obtain ⟨s, rfl, e1, e2⟩ := hv.str_inv
  obtain ⟨m, h2, h3, h4⟩ := bytesk_ok (ρ := ρ) h1
  have hsz := str_size e1
  refine ⟨_, m, _, h2, ⟨l, by simp [Builtin.lenOf, hsz], rfl⟩, ?_, h4, by omega, ?_⟩
  · simp only [Builtin.firstCells, Sem.run_pure]
    congr 1
    apply Array.ext'
    rw [Array.toList_map, ByteArray.data_extract, Array.toList_extract, List.extract_eq_take_drop, List.drop_zero, e1]
    obtain ⟨q, hq⟩ : ∃ q, l = Nat.min l d + q := ⟨l - Nat.min l d, by have := Nat.min_le_left l d; show l = min l d + (l - min l d); omega⟩
    have : (dig l n).take (Nat.min l d - 0) = dig (Nat.min l d) n := by
      rw [Nat.sub_zero]
      have h5 := dig_take (Nat.min l d) q n
      rw [← hq, dig_mod _ 0] at h5
      exact h5
    rw [this]
  · intro x hx
    obtain ⟨b, _, rfl⟩ := List.mem_map.1 hx
    rfl
noncomputable def copyk (sz : Nat) (x : V) (h : Heap) (src : Nat → (Nat → List V → Res) → Res) (k : V → Heap → Res) : Res :=
  slk x (fun b o l _ _ => src l fun n cs => storek h b o (Nat.mul n sz) cs fun h' => k (.int .i64 (.ofNat n)) h') (k (.int .i64 (.ofNat 0)) h) (k (.int .i64 (.ofNat 0)) h)
theorem copyk_ok {sz0 : Nat} {x : V} {h : Heap} {src : Nat → (Nat → List V → Res) → Res} {k : V → Heap → Res} {r : Res} (hh : copyk sz0 x h src k = r) (hr : r ≠ .fail) {ρ : Rho} {w : World} (rh : RH P ρ h w)
    {v y : Value} (hv : VR ρ x v) (hsrc : ∀ d k r, src d k = r → r ≠ .fail → ∃ n l xs, k n l = r ∧ SrcT P ρ w sz0 d y n l xs) (hlen : ∃ m, (Builtin.lenOf y).run P w = .ok m w)
    (hz : (Builtin.firstCells sz0 0 y).run P w = .ok #[] w) {ts : Array TypeId} {t e u : TypeId} (h0 : ts[0]? = some t) (ht : P.underlying t = some (.slice e)) (hs : sz P e = some sz0) :
    Ok P ρ h w (Builtin.copy_ ts u #[v, y]) k r := by
  have e1 : ∀ v : Value, (#[v, y] : Array Value)[0]? = some v := fun _ => rfl
  have e2 : ∀ v : Value, (#[v, y] : Array Value)[1]? = some y := fun _ => rfl
  obtain ⟨m0, hl0⟩ := hlen
  rcases slk_ok hh hr with ⟨b, o, l, cp, s, rfl, h1⟩ | ⟨rfl, h1⟩ | ⟨rfl, h1⟩
  · obtain ⟨c, z, S, cap, hb, _, _, _, rfl⟩ := hv.slice_inv
    obtain ⟨n, cs, xs, h2, h3⟩ := hsrc l _ _ h1 hr
    obtain ⟨h', h4, h5⟩ := storek_ok (P := P) h3.size h2 hr rh hb
    obtain ⟨w', h6, h7, h8⟩ := h5 xs h3.vr h3.one
    obtain ⟨m, hl, hm⟩ := h3.len
    refine ⟨_, h', ρ, .int .i64 n, w', h4, ?_, .int _ _, h7, h8⟩
    simp only [Builtin.copy_, h0, e1, e2, Sem.run_bind, run_und ht, Result.andThen_ok, hl, run_size hs, ← hm, h3.cells, h6, Sem.run_pure, goInt]
  · rw [hv.nils_inv]
    refine .pure rh ⟨_, .int .i64 0, h1, ?_, .int _ _⟩
    have hm0 : Nat.min m0 0 = 0 := Nat.min_zero m0
    simp only [Builtin.copy_, h0, e1, e2, Sem.run_bind, run_und ht, Result.andThen_ok, hl0, run_size hs, hm0, hz, Sem.run_pure, goInt]
    rfl
  · cases hv with
    | emp a cap =>
      refine .pure rh ⟨_, .int .i64 0, h1, ?_, .int _ _⟩
      have hm0 : Nat.min m0 0 = 0 := Nat.min_zero m0
      simp only [Builtin.copy_, h0, e1, e2, Sem.run_bind, run_und ht, Result.andThen_ok, hl0, run_size hs, hm0, hz, Sem.run_pure, goInt]
      rfl
end Go.Ev

/- EVALUATOR, 15: make; bytes and strings. -/
namespace Go.Ev
variable {P : Program}

/- MAKE -/
noncomputable def zT (n : Nat) (x y : T) : T := Nat.rec (motive := fun _ => T) x (fun _ _ => y) n
noncomputable def repT (c : List V) (f : Nat) : Nat → T :=
  Nat.rec (motive := fun _ => Nat → T) (fun _ => .e) (fun _ ih n => zT n .e (zT (Nat.pred n) (.lf c) (.nd (ih (Nat.div (Nat.succ n) 2)) (ih (Nat.div n 2))))) f
theorem repT_eq (c : List V) (f n : Nat) : repT c f n = T.rep c f n := by
  induction f generalizing n with
  | zero => rfl
  | succ f ih =>
    show zT n .e (zT (Nat.pred n) (.lf c) (.nd (repT c f ((n + 1) / 2)) (repT c f (n / 2)))) = _
    rw [ih, ih, T.rep]
    cases n with
    | zero => rfl
    | succ n =>
      cases n with
      | zero => rfl
      | succ n => rw [if_neg (by omega), if_neg (by omega)]; rfl
noncomputable def sMake (g : Nat) (z : List V) (l c : V) (h : Heap) (k : V → Heap → Res) : Res :=
  intk l fun _ a => natk a fun la => intk c fun _ b => natk b fun cb => ifk (Nat.ble la cb) (ifk (Nat.ble cb 16777216)
    (h.newk (.arr g cb (repT z cb cb) false) fun bb h' => k (.slice bb 0 la (some cb) g) h') .fail) .fail
theorem flat_get {g : Nat} {z : List V} (hz : z.length = g) : ∀ (n i : Nat), ((List.replicate n z).flatten)[i]? = if i < n * g then z[i % g]? else none := by
  intro n
  induction n with
  | zero => intro i; simp
  | succ n ih =>
    intro i
    rw [List.replicate_succ, List.flatten_cons]
    by_cases hi : i < g
    · rw [List.getElem?_append_left (by omega), Nat.mod_eq_of_lt hi, if_pos (by rw [Nat.succ_mul]; omega)]
    · rw [List.getElem?_append_right (by omega), ih, hz]
      have : (i - g) % g = i % g := by rw [← Nat.mod_eq_sub_mod (by omega)]
      rw [this, Nat.succ_mul]
      by_cases h2 : i - g < n * g
      · rw [if_pos h2, if_pos (by omega)]
      · rw [if_neg h2, if_neg (by omega)]
theorem flat_chunk {z : List V} {g n j : Nat} (hz : z.length = g) (hj : j < n) : (((List.replicate n z).flatten).drop (j * g)).take g = z := by
  have hjm : (j + 1) * g ≤ n * g := Nat.mul_le_mul_right g hj
  rw [Nat.succ_mul] at hjm
  apply List.ext_getElem?
  intro i
  by_cases hi : i < g
  · rw [List.getElem?_take_of_lt hi, List.getElem?_drop, flat_get hz, if_pos (by omega), Nat.mul_comm, Nat.mul_add_mod, Nat.mod_eq_of_lt hi]
  · rw [List.getElem?_eq_none (by simp only [List.length_take]; omega), List.getElem?_eq_none (by omega)]
theorem sMake_ok {g : Nat} {z : List V} {l c : V} {h : Heap} {k : V → Heap → Res} {r : Res} (hh : sMake g z l c h k = r) (hr : r ≠ .fail) {ρ : Rho} {w : World} (rh : RH P ρ h w) {lv cv : Value}
    (hl : VR ρ l lv) (hc : VR ρ c cv) {t e : TypeId} (ht : SliceT P t e g) {zv : Value} (hz : (P.info? e).bind (·.zero) = some zv) (hzr : VRs ρ z zv.cells.toList) (hzl : z.length = g)
    (hz1 : ∀ y ∈ zv.cells.toList, y.oneCell' = true) : Ok P ρ h w (Instr.makeSlice t lv cv) k r := by
  obtain ⟨k1, a, rfl, h1⟩ := intk_ok hh hr
  obtain ⟨la, rfl, h2⟩ := natk_ok h1 hr
  obtain ⟨k2, b, rfl, h3⟩ := intk_ok h2 hr
  obtain ⟨cb, rfl, h4⟩ := natk_ok h3 hr
  obtain ⟨hle, h5⟩ := ifk_fail h4 hr
  obtain ⟨hsm, h6⟩ := ifk_fail h5 hr
  have hle : la ≤ cb := Nat.le_of_ble_eq_true hle
  have hsm : cb ≤ 16777216 := Nat.le_of_ble_eq_true hsm
  obtain ⟨nx, h7, h8⟩ := Heap.newk_ok h6 hr
  rw [hl.int_inv, hc.int_inv]
  have hpos := ht.pos
  have hzs : zv.cells.size = g := by have := hzr.len_eq; omega
  let cs : Array Value := (Array.range (cb * g)).map (zv.cells[· % zv.cells.size]!)
  have hcs : cs.size = cb * g := by simp [cs]
  have hget : ∀ i, i < cb * g → ∃ y, cs[i]? = some y ∧ VR ρ ((z[i % g]?).getD .und) y ∧ y.oneCell' = true := by
    intro i hi
    have hm : i % g < zv.cells.size := by rw [hzs]; exact Nat.mod_lt i hpos
    have e1 : cs[i]? = some zv.cells[i % g] := by
      simp only [cs, Array.getElem?_map, Array.getElem?_range, hi, if_true, Option.map_some, hzs]
      rw [getElem!_pos zv.cells (i % g) hm]
    refine ⟨_, e1, ?_, hz1 _ (by simp)⟩
    have hm2 : i % g < z.length := by rw [hzl]; exact Nat.mod_lt i hpos
    obtain ⟨y, h9, h10⟩ := hzr.get (List.getElem?_eq_getElem hm2)
    rw [List.getElem?_eq_getElem hm2, Option.getD_some]
    rw [Array.getElem?_toList, Array.getElem?_eq_getElem hm] at h9
    cases h9; exact h10
  have hflen : ((List.replicate cb z).flatten).length = cb * g := by simp [hzl]
  obtain ⟨h9, h10⟩ := new_cells rh h7 hpos (n := cb) (t := repT z cb cb) (l := (List.replicate cb z).flatten) (cs := cs) (by
      refine VRs.of_get (by simp only [List.length_take, Array.length_toList]; omega) fun i v hi => ?_
      rw [flat_get hzl] at hi
      split at hi
      · rename_i hlt
        obtain ⟨y, h11, h12, _⟩ := hget i hlt
        rw [hi, Option.getD_some] at h12
        exact ⟨y, by rw [List.getElem?_take_of_lt (by omega), Array.getElem?_toList]; exact h11, h12⟩
      · cases hi)
    (by
      intro y hy
      obtain ⟨i, hi, rfl⟩ := List.mem_iff_getElem.1 hy
      have hi' : i < cb * g := by simpa [hcs] using hi
      obtain ⟨y', h11, _, h12⟩ := hget i hi'
      have : cs.toList[i]? = some y' := by rw [Array.getElem?_toList]; exact h11
      rw [List.getElem?_eq_getElem hi] at this
      cases this; exact h12) hflen (fun j ch hj => by
      rw [repT_eq, T.get_rep z cb cb (Nat.le_refl _)] at hj
      split at hj
      · rename_i hlt
        cases hj
        refine ⟨hlt, ?_⟩
        have hjm : (j + 1) * g ≤ cb * g := Nat.mul_le_mul_right g hlt
        rw [Nat.succ_mul] at hjm
        apply List.ext_getElem?
        intro i
        by_cases hi : i < g
        · rw [List.getElem?_take_of_lt hi, List.getElem?_drop, flat_get hzl, if_pos (by omega), Nat.mul_comm, Nat.mul_add_mod, Nat.mod_eq_of_lt hi]
        · rw [List.getElem?_eq_none (by omega), List.getElem?_eq_none (by simp only [List.length_take]; omega)]
      · cases hj) e (fz := (0, 0)) (.inl rfl) (by omega)
  obtain ⟨i, hi, hby⟩ := ht.bytes
  have hti : ∀ w : World, (typeInfo e).run P w = .ok i w := fun w => by simp [typeInfo, hi]
  refine ⟨_, _, _, .slice (some ⟨w.heap.size, 0, none⟩) la cb, _, h8, ?_, VR.slice_new _ _ _ _ _ _ hle, h9, h10⟩
  have hw1 : IntKind.i64.wrap (la : Int) = la := wrap_small .i64 _ (by omega) (by show (la : Int) ≤ (9223372036854775807 : Nat); omega)
  have hw2 : IntKind.i64.wrap (cb : Int) = cb := wrap_small .i64 _ (by omega) (by show (cb : Int) ≤ (9223372036854775807 : Nat); omega)
  have hb1 : (i.bytes : Int) * (cb : Int) ≤ 1099511627776 := by
    have h1 : i.bytes * cb ≤ 65536 * 16777216 := Nat.mul_le_mul hby hsm
    rw [← Int.natCast_mul]; omega
  have hc1 : (decide ((cb : Int) < 0) || decide ((i.bytes : Int) * (cb : Int) > 2 ^ 48) || decide ((la : Int) < 0) || decide ((la : Int) > (cb : Int))) = false := by
    rw [Bool.or_eq_false_iff, Bool.or_eq_false_iff, Bool.or_eq_false_iff]
    exact ⟨⟨⟨decide_eq_false (by omega), decide_eq_false (by omega)⟩, decide_eq_false (by omega)⟩, decide_eq_false (by omega)⟩
  simp only [Instr.makeSlice, Sem.run_bind, run_und ht.und, Result.andThen_ok, asInt, asIntOf, Sem.run_pure, hti, hw1, hw2]
  rw [if_neg (by rw [hc1]; simp)]
  simp only [Sem.run_bind, run_askRoom, Result.andThen_ok, run_size ht.size, Int.toNat_natCast, Sem.run_ite]
  by_cases h0 : cb * g = 0
  · rw [if_pos h0]
    have : cs = #[] := by
      apply Array.eq_empty_of_size_eq_zero; rw [hcs, h0]
    simp only [Sem.run_pure, Result.andThen_ok, newRow, Sem.run_bind, run_newObj, h0]
    have h2 : (Array.range 0).map (fun x => (#[] : Array Value)[x % (#[] : Array Value).size]!) = cs := by rw [this]; simp
    rw [h2]
  · rw [if_neg h0]
    simp only [run_zero hz, Result.andThen_ok, Sem.run_pure, newRow, Sem.run_bind, run_newObj]
    rfl

/- APPEND OF ZERO VALUES -/
noncomputable def repk (z : List V) (n : Nat) (k : List V → Res) : Res := Nat.rec (motive := fun _ => (List V → Res) → Res) (fun k => k []) (fun _ ih k => ih fun l => appk z l k) n k
theorem repk_eq (z : List V) (n : Nat) (k : List V → Res) : repk z n k = k (List.replicate n z).flatten := by
  induction n generalizing k with
  | zero => rfl
  | succ n ih =>
    show repk z n (fun l => appk z l k) = _
    rw [ih, appk_eq, List.replicate_succ, List.flatten_cons]
theorem zeroCells_vr {ρ : Rho} {z : List V} {c : Array Value} (hz : VRs ρ z c.toList) (hpos : 0 < z.length) (n : Nat) : VRs ρ (List.replicate n z).flatten (Builtin.zeroCells c n).toList := by
  have hl : z.length = c.size := by have := hz.length; simpa using this
  refine VRs.of_get (by simp [Builtin.zeroCells, hl]) fun i v hi => ?_
  rw [flat_get rfl] at hi
  split at hi
  · rename_i hlt
    obtain ⟨y, h1, h2⟩ := hz.get hi
    refine ⟨y, ?_, h2⟩
    have hm : i % c.size < c.size := Nat.mod_lt _ (by omega)
    rw [hl] at h1 hlt
    have e : (Builtin.zeroCells c n)[i]? = some c[i % c.size] := by
      simp only [Builtin.zeroCells, Array.getElem?_map, Array.getElem?_range, hlt, if_true, Option.map_some]
      rw [getElem!_pos c (i % c.size) hm]
    rw [Array.getElem?_toList, e]
    rw [Array.getElem?_toList, Array.getElem?_eq_getElem hm] at h1
    exact h1
  · cases hi
noncomputable def sAppZ (sz : Nat) (z : List V) (x y : V) (h : Heap) (k : V → Heap → Res) : Res :=
  intk y fun _ i => natk i fun n => ifk (Nat.ble n 16777216) (repk z n fun new => appendk sz x n new h k) .fail
theorem sAppZ_ok {sz0 : Nat} {z : List V} {x y : V} {h : Heap} {k : V → Heap → Res} {r : Res} (hh : sAppZ sz0 z x y h k = r) (hr : r ≠ .fail) {ρ : Rho} {w : World} (rh : RH P ρ h w) {v v' : Value}
    (hv : VR ρ x v) (hv' : VR ρ y v') {ts : Array TypeId} {ty e u u2 : TypeId} {kd : IntKind} (at_ : AppT P ts ty e sz0) (h1 : ts[1]? = some u2) (h2 : P.underlying u2 = some (.int kd)) {zv : Value}
    (hz : (P.info? e).bind (·.zero) = some zv) (hzr : ∀ ρ, VRs ρ z zv.cells.toList) (hzl : z.length = sz0) (hz1 : ∀ y ∈ zv.cells.toList, y.oneCell' = true) :
    Ok P ρ h w (Builtin.append_ ts u #[v, v']) k r := by
  obtain ⟨k1, i, rfl, h3⟩ := intk_ok hh hr
  obtain ⟨n, rfl, h4⟩ := natk_ok h3 hr
  obtain ⟨hn, h5⟩ := ifk_fail h4 hr
  have hn : n ≤ 16777216 := Nat.le_of_ble_eq_true hn
  rw [repk_eq] at h5
  rw [hv'.int_inv]
  refine appendk_ok h5 hr rh hv (xs := (Builtin.zeroCells zv.cells n).toList) ⟨.zeros u2 kd k1 zv h1 h2 rfl hn hz (by simp), zeroCells_vr (hzr ρ) (by rw [hzl]; exact at_.pos) n, by simp [hzl], ?_⟩ at_
  exact zeroCells_one hz1 n

/- BYTES TO A STRING -/
noncomputable def packk (l : List V) : (Nat → Res) → Res :=
  List.rec (motive := fun _ => (Nat → Res) → Res) (fun k => k 0) (fun v _ ih k => intk v fun kd m => ifk (Nat.beq (kno kd) 4) (natk m fun b => ifk (Nat.blt b 256) (ih fun n => k (Nat.add b (Nat.mul 256 n))) .fail) .fail) l
theorem packk_ok {ρ : Rho} {l : List V} {k : Nat → Res} {r : Res} (h : packk l k = r) (hr : r ≠ .fail) {xs : List Value} (hl : VRs ρ l xs) :
    ∃ ns : List Nat, k (pack (ns.map UInt8.ofNat)) = r ∧ xs = ns.map (fun (n : Nat) => Value.int .u8 (n : Int)) ∧ ∀ n ∈ ns, n < 256 := by
  induction l generalizing xs k with
  | nil => cases hl; exact ⟨[], h, rfl, by simp⟩
  | cons v l ih =>
    cases hl with
    | cons hv hs =>
      obtain ⟨kd, m, rfl, h1⟩ := intk_ok (show intk v _ = r from h) hr
      obtain ⟨hk, h2⟩ := ifk_fail h1 hr
      obtain ⟨b, rfl, h3⟩ := natk_ok h2 hr
      obtain ⟨hb, h4⟩ := ifk_fail h3 hr
      have hb : b < 256 := by simpa [Nat.blt_eq] using hb
      obtain ⟨ns, h5, h6, h7⟩ := ih (k := fun n => k (Nat.add b (Nat.mul 256 n))) h4 hs
      have hkd : kd = .u8 := by cases kd <;> first | rfl | exact absurd hk (by decide)
      subst hkd
      refine ⟨b :: ns, ?_, by rw [hv.int_inv, h6]; rfl, by simpa using ⟨hb, h7⟩⟩
      simp only [List.map_cons, pack]
      have : (UInt8.ofNat b).toNat = b := by simp; omega
      rw [this]; exact h5
theorem push_list : ∀ (ns : List Nat) (s : ByteArray), ((ns.map (fun (n : Nat) => (n : Int))).foldl (fun r n => r.push (UInt8.ofNat n.toNat)) s).data.toList = s.data.toList ++ ns.map UInt8.ofNat
  | [], s => by simp
  | n :: ns, s => by
    simp only [List.map_cons, List.foldl_cons, Int.toNat_natCast]
    rw [push_list ns]
    simp [ByteArray.push]
noncomputable def sBytesS (x : V) (h : Heap) (k : V → Heap → Res) : Res :=
  slk x (fun b o l _ _ => loadk h b o l fun cs => packk cs fun n => forceN n fun n => k (.str l n) h) (k (.str 0 0) h) (k (.str 0 0) h)
theorem sBytesS_ok {x : V} {h : Heap} {k : V → Heap → Res} {r : Res} (hh : sBytesS x h k = r) (hr : r ≠ .fail) {ρ : Rho} {w : World} (rh : RH P ρ h w) {v : Value} (hv : VR ρ x v)
    {s d e : TypeId} (hs : P.underlying s = some (.slice e)) (he : P.underlying e = some (.int .u8)) (hd : P.underlying d = some .string) : OkP P ρ h w (convert s d v) k r := by
  have hconv : ∀ (a : Option Addr) (l c : Nat), (convert s d (.slice a l c)).run P w = (Conv.bytesToString (.slice a l c)).run P w := by
    intro a l c
    simp only [convert, Sem.run_bind, run_und hs, run_und hd, Result.andThen_ok, run_und he]
  rcases slk_ok hh hr with ⟨b, o, l, cp, s', rfl, h1⟩ | ⟨rfl, h1⟩ | ⟨rfl, h1⟩
  · obtain ⟨c, z, S, cap, hb, _, _, _, rfl⟩ := hv.slice_inv
    obtain ⟨cs, xs, h2, h3, h4, h5, h6⟩ := loadk_ok (P := P) h1 hr rh hb
    obtain ⟨ns, h7, rfl, h8⟩ := packk_ok h2 hr h4
    rw [forceN_eq] at h7
    have hnl : ns.length = l := by simpa using h5
    refine ⟨_, .string ((ns.map (fun (n : Nat) => (n : Int))).foldl (fun r n => r.push (UInt8.ofNat n.toNat)) ByteArray.empty), h7, ?_, .str ?_ ?_⟩
    · rw [hconv]
      refine run_bytesToString w _ l cap _ ?_
      have := h3 w.drawn
      rw [List.map_map]
      exact this
    · have := dig_pack (ns.map UInt8.ofNat)
      rw [List.length_map, hnl] at this
      rw [push_list, this]
      rfl
    · have := pack_lt (ns.map UInt8.ofNat)
      rwa [List.length_map, hnl] at this
  · rw [hv.nils_inv]
    exact ⟨_, .string .empty, h1, by rw [hconv]; rfl, .str rfl (by simp)⟩
  · cases hv with
    | emp a cap =>
      refine ⟨_, .string .empty, h1, ?_, .str rfl (by simp)⟩
      rw [hconv]
      simp only [Conv.bytesToString, Sem.run_bind, loadCells, loadCellsFrom, Sem.run_pure, Result.andThen_ok]
      rfl
/-- the mark behind the cells of bytes that were made a slice of bytes -/
noncomputable def sMark (x : V) (h : Heap) (k : V → Heap → Res) : Res :=
  slk x (fun b o l c s => h.getk b fun y => arrk y fun g m t ro => ifk ro .fail (ifk (Nat.beq g 1) (h.turnk b (.arr g m t false) fun h' => k (.slice b o l c s) h') .fail)) .fail .fail
theorem run_mark {c zo : Nat} {cs : Array Value} {el : TypeId} {fz : Nat × Nat} {w : World} (h : w.heap[c]? = some (.cells cs el fz)) : (markStringish ⟨c, zo, none⟩).run P w = .ok () (w.freeze ⟨c, cs.size, none⟩ 1) := by
  have e : w.shape? c = some (el, cs.size) := by simp [World.shape?, h]
  show (Sem.shape c _).run P w = _
  simp only [Sem.run, e]
  rfl
theorem sMark_ok {x : V} {h : Heap} {k : V → Heap → Res} {r : Res} (hh : sMark x h k = r) (hr : r ≠ .fail) {ρ : Rho} {w : World} (rh : RH P ρ h w) {v : Value} (hv : VR ρ x v)
    {s e : TypeId} (hs : P.underlying s = some (.slice e)) (he : P.underlying e = some (.int .u8)) : Ok P ρ h w (convert s s v) k r := by
  rcases slk_ok hh hr with ⟨b, o, l, cp, s', rfl, h1⟩ | ⟨rfl, h1⟩ | ⟨rfl, h1⟩
  · have hv0 := hv
    obtain ⟨c, z, S, cap, hb, _, _, _, rfl⟩ := hv.slice_inv
    rw [Heap.getk_eq] at h1
    obtain ⟨g, m, t, ro, h2, h3⟩ := arrk_ok h1 hr
    obtain ⟨hro, h4⟩ : ro = false ∧ _ = r := by
      rcases ifk_ne h3 with ⟨_, h2⟩ | ⟨h2, h3⟩
      · exact absurd h2.symm hr
      · exact ⟨h2, h3⟩
    subst hro
    obtain ⟨hg1, h4⟩ := ifk_fail h4 hr
    obtain rfl := Nat.eq_of_beq_eq_true hg1
    rw [Heap.turnk_eq] at h4
    obtain ⟨cs, ha⟩ := rh.arr b c z S 1 m t false hb h2
    obtain ⟨el, fz, h6, h7⟩ := ha.at_
    have h7 := h7 rfl
    have hsz := ha.size
    have hcell : ∃ fz', (w.freeze ⟨c, cs.size, none⟩ 1).heap[c]? = some (.cells cs el fz') ∧ Thaw fz' S 1 := by
      obtain ⟨lo, hi⟩ := fz
      refine ⟨_, by simp only [World.freeze]; rw [if_neg (by decide), Array.getElem?_modify, if_pos rfl, h6]; rfl, ?_⟩
      split
      · exact .inr ⟨by simp; omega, rfl⟩
      · rename_i hne
        rcases h7 with h7 | h7
        · exact absurd (by simpa using h7) hne
        · have h71 := h7.1
          refine .inr ⟨?_, rfl⟩
          simp only at h71 ⊢; omega
    obtain ⟨fz', h8, h9⟩ := hcell
    have hne : ∀ k, k ≠ c → (w.freeze ⟨c, cs.size, none⟩ 1).heap[k]? = w.heap[k]? := fun k hk => by
      simp only [World.freeze]
      rw [if_neg (by decide), Array.getElem?_modify, if_neg (fun e => hk e.symm)]
    obtain ⟨h10, h11⟩ := turn (w' := w.freeze ⟨c, cs.size, none⟩ 1) rh hb (by rw [h2]; rfl) (x := .arr 1 m t false) (by rfl) (by rfl) (by rfl) (by simp [World.freeze]) h8 hne (fun g' n' t' ro' e => by
      cases e
      exact ⟨cs, ha.pos, ⟨el, fz', h8, fun _ => h9⟩, ha.size, ha.fits, ha.cells⟩) (fun es e => by cases e)
    refine ⟨_, _, ρ, _, _, h4, ?_, hv0, h10, h11⟩
    have h12 := run_mark (P := P) (zo := z + o) h6
    simp only [convert, Sem.run_bind, run_und hs, Result.andThen_ok, run_und he, beq_self_eq_true, h12, Sem.run_pure]
  · exact absurd h1.symm hr
  · exact absurd h1.symm hr
end Go.Ev
