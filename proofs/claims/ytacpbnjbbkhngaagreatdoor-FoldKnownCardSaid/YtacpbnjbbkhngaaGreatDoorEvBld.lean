/- EVALUATOR: strings.Builder: a struct whose type is known (pointers to it are turned to unsafe.Pointer and back), bytes that grow in a block of their own, the string made of them without copying. -/
import Derived.Test.YtacpbnjbbkhngaaGreatDoorEvIter
import Derived.Lib.Builder
import Derived.Lib.UnsafeStr
namespace Go.Ev
variable {P : Program}

/- A BLOCK OF BYTES GIVES WAY TO ANOTHER NAME -/
theorem rehomeO {ρ : Rho} {h : Heap} {w : World} (r : RH P ρ h w) {b : Bid} {c z S : Nat} (hb : ρ b = some (c, z, S)) (hwr : (h.t.get b).wr = true) {nx : Bid} (hn : h.nx.next = some nx)
    {w' : World} (hos : w'.os = w.os) (htape : w'.tape = w.tape) (hout : w'.output = w.output) (hsz : w'.heap.size = w.heap.size)
    (hne : ∀ k, k ≠ c → w'.heap[k]? = w.heap[k]?) {y : Oth} (hob : ∃ o, w'.heap[c]? = some o ∧ OthR P (ρ.put h.nx (c, 0, S)) y o ∧ Big y o S) :
    RH P (ρ.put h.nx (c, 0, S)) ((h.turn b .none).new (.ob y) nx) w' ∧ Ext ρ h w (ρ.put h.nx (c, 0, S)) ((h.turn b .none).new (.ob y) nx) w' := by
  have hv := Bid.next_val hn
  have hf := r.fresh h.nx (Nat.le_refl _)
  have hle := Rho.le_put (ρ := ρ) hf.1 (c, 0, S)
  have hbn : b ≠ h.nx := by rintro rfl; rw [hf.1] at hb; cases hb
  have hlive : h.t.get b ≠ .none := by intro e; rw [e] at hwr; cases hwr
  have get_old : ∀ b', b' ≠ h.nx → b' ≠ b → ((h.turn b .none).new (.ob y) nx).t.get b' = h.t.get b' := by
    intro b' h1 h2
    simp only [Heap.new, Heap.turn]
    rw [HT.get_set_ne _ h1, HT.get_set_ne _ h2]
  have get_b : ((h.turn b .none).new (.ob y) nx).t.get b = .none := by
    simp only [Heap.new, Heap.turn]
    rw [HT.get_set_ne _ hbn, HT.get_set]
  have get_nx : ((h.turn b .none).new (.ob y) nx).t.get h.nx = .ob y := by simp only [Heap.new, Heap.turn]; rw [HT.get_set]
  have hnx : ((h.turn b .none).new (.ob y) nx).nx = nx := rfl
  refine ⟨⟨?_, ?_, ?_, ?_, ?_⟩, ⟨hle, by rw [hnx]; omega, hos, htape, hout, by omega, ?_, ?_⟩⟩
  · intro b' c' z1 S1 h1
    rw [hsz]
    by_cases e : b' = h.nx
    · subst e; rw [Rho.put_same] at h1; cases h1; exact r.lt _ _ _ _ hb
    · rw [Rho.put_ne e] at h1; exact r.lt _ _ _ _ h1
  · intro b' h1
    rw [hnx] at h1
    have e : b' ≠ h.nx := by rintro rfl; omega
    have hold := r.fresh b' (by omega)
    have e2 : b' ≠ b := by rintro rfl; rw [hold.1] at hb; cases hb
    rw [Rho.put_ne e, get_old b' e e2]; exact hold
  · intro b1 b2 c' z1 S1 z2 S2 h1 h2 h3 h4
    have other : ∀ b', b' ≠ h.nx → ((h.turn b .none).new (.ob y) nx).t.get b' ≠ .none → b' ≠ b ∧ h.t.get b' ≠ .none := by
      intro b' e h5
      have e2 : b' ≠ b := by rintro rfl; exact h5 get_b
      exact ⟨e2, by rwa [get_old b' e e2] at h5⟩
    by_cases e1 : b1 = h.nx
    · by_cases e2 : b2 = h.nx
      · rw [e1, e2]
      · obtain ⟨h5, h6⟩ := other b2 e2 h2
        subst e1; rw [Rho.put_same] at h3; cases h3
        rw [Rho.put_ne e2] at h4
        exact absurd (r.inj b b2 _ _ _ _ _ hwr h6 hb h4).symm h5
    · obtain ⟨h5, h6⟩ := other b1 e1 (by intro e; rw [e] at h1; cases h1)
      rw [Rho.put_ne e1] at h3
      by_cases e2 : b2 = h.nx
      · subst e2; rw [Rho.put_same] at h4; cases h4
        exact absurd (r.inj b b1 _ _ _ _ _ hwr h6 hb h3).symm h5
      · obtain ⟨h7, h8⟩ := other b2 e2 h2
        rw [Rho.put_ne e2] at h4
        rw [get_old b1 e1 h5] at h1
        exact r.inj b1 b2 _ _ _ _ _ h1 h8 h3 h4
  · intro b' c' z1 S1 g1 n1 t1 ro1 h1 h2
    by_cases e : b' = h.nx
    · subst e; rw [get_nx] at h2; cases h2
    · have e2 : b' ≠ b := by rintro rfl; rw [get_b] at h2; cases h2
      rw [get_old b' e e2] at h2
      rw [Rho.put_ne e] at h1
      obtain ⟨cs, ha⟩ := r.arr b' c' z1 S1 g1 n1 t1 ro1 h1 h2
      have hcc : c' ≠ c := by rintro rfl; exact e2 (r.inj b b' _ _ _ _ _ hwr (by rw [h2]; simp) hb h1).symm
      exact ⟨cs, ha.mono hle (hne c' hcc)⟩
  · intro b' c' z1 S1 es h1 h2
    by_cases e : b' = h.nx
    · subst e; rw [get_nx] at h2; cases h2; rw [Rho.put_same] at h1; cases h1
      obtain ⟨o, q1, q2, q3⟩ := hob
      exact ⟨o, q1, q2, rfl, q3⟩
    · have e2 : b' ≠ b := by rintro rfl; rw [get_b] at h2; cases h2
      rw [get_old b' e e2] at h2
      rw [Rho.put_ne e] at h1
      obtain ⟨o, h3, h4, h5⟩ := r.ob b' c' z1 S1 es h1 h2
      have hcc : c' ≠ c := by rintro rfl; exact e2 (r.inj b b' _ _ _ _ _ hwr (by rw [h2]; simp) hb h1).symm
      exact ⟨o, (hne c' hcc).trans h3, h4.mono hle, h5⟩
  · intro k hk hw
    have e : k ≠ c := by rintro rfl; exact hw ⟨b, z, S, hb, hwr⟩
    refine ⟨hne k e, ?_⟩
    rintro ⟨b', z1, S1, h1, h2⟩
    by_cases e1 : b' = h.nx
    · subst e1; rw [Rho.put_same] at h1; cases h1; exact e rfl
    · have e2 : b' ≠ b := by rintro rfl; rw [get_b] at h2; cases h2
      rw [get_old b' e1 e2] at h2; rw [Rho.put_ne e1] at h1
      exact hw ⟨b', z1, S1, h1, h2⟩
  · intro b' h1 h2
    have e : b' ≠ h.nx := by rintro rfl; omega
    have e2 : b' ≠ b := by rintro rfl; rw [hb] at h2; cases h2
    rw [Rho.put_ne e, get_old b' e e2]
    exact ⟨h2, rfl⟩

/- WHAT IS APPENDED, AS A NUMBER -/
noncomputable def numBk (y : V) (h : Heap) (k : Nat → Nat → Res) : Res :=
  slk y (fun b o l _ _ => loadk h b o l fun cs => packk cs fun n => forceN n fun n => k l n) (k 0 0) (k 0 0)
/-- m bytes, n: where append has them from -/
structure SrcN (P : Program) (w : World) (ts : Array TypeId) (e : TypeId) (y : Value) (m n : Nat) : Prop where
  how : How P ts e 1 y m ((dig m n).map fun (b : UInt8) => Value.int .u8 b.toNat).toArray w
  lt : n < 256 ^ m
theorem pack_ints {ns : List Nat} (h : ∀ n ∈ ns, n < 256) : (ns.map UInt8.ofNat).map (fun b => Value.int .u8 b.toNat) = ns.map fun (n : Nat) => Value.int .u8 (n : Int) := by
  rw [List.map_map]
  refine List.map_congr_left fun n hn => ?_
  have := h n hn
  simp only [Function.comp]
  congr 1
  have : (UInt8.ofNat n).toNat = n := by simp; omega
  rw [this]
theorem numBk_ok {y : V} {h : Heap} {k : Nat → Nat → Res} {r : Res} (hh : numBk y h k = r) (hr : r ≠ .fail) {ρ : Rho} {w : World} (rh : RH P ρ h w) {v : Value} (hv : VR ρ y v) {ts : Array TypeId} {e u : TypeId} {d : TypeDesc}
    (h1 : ts[1]? = some u) (h2 : P.underlying u = some d) (h3 : (d matches .int _) = false) : ∃ m n, k m n = r ∧ SrcN P w ts e v m n := by
  rcases slk_ok hh hr with ⟨b, o, l, cp, s, rfl, g1⟩ | ⟨rfl, g1⟩ | ⟨rfl, g1⟩
  · obtain ⟨c, z, S, cap, hb, _, _, _, rfl⟩ := hv.slice_inv
    obtain ⟨m, xs, k2, k3, k4, k5, k6⟩ := loadk_ok (P := P) g1 hr rh hb
    obtain ⟨ns, k7, rfl, k8⟩ := packk_ok k2 hr k4
    rw [forceN_eq] at k7
    have hl : ns.length = l := by simpa using k5
    have hp := dig_pack (ns.map UInt8.ofNat)
    rw [List.length_map, hl] at hp
    have hlt := pack_lt (ns.map UInt8.ofNat)
    rw [List.length_map, hl] at hlt
    refine ⟨l, _, k7, .src u d h1 h2 h3 rfl fun dr => ?_, hlt⟩
    rw [hp, pack_ints k8]
    have := k3 dr
    simpa [Builtin.firstCells] using this
  · rw [hv.nils_inv]
    exact ⟨0, 0, g1, .src u d h1 h2 h3 rfl fun _ => rfl, by decide⟩
  · cases hv with
    | emp a cap =>
      refine ⟨0, 0, g1, .src u d h1 h2 h3 rfl fun dr => ?_, by decide⟩
      show (loadCells a (0 * 1)).run P _ = _
      rfl
theorem numSk_ok {y : V} {k : Nat → Nat → Res} {r : Res} (hh : strk y k = r) (hr : r ≠ .fail) {ρ : Rho} {w : World} {v : Value} (hv : VR ρ y v) {ts : Array TypeId} {e u : TypeId} {d : TypeDesc}
    (h1 : ts[1]? = some u) (h2 : P.underlying u = some d) (h3 : (d matches .int _) = false) : ∃ m n, k m n = r ∧ SrcN P w ts e v m n := by
  obtain ⟨l, n, rfl, g1⟩ := strk_ok hh hr
  obtain ⟨s, rfl, e1, e2⟩ := hv.str_inv
  have hsz := str_size e1
  refine ⟨l, n, g1, .src u d h1 h2 h3 (by simp [Builtin.lenOf, hsz]) fun d => ?_, e2⟩
  simp only [Builtin.firstCells, Sem.run_pure]
  congr 1
  apply Array.ext'
  rw [Array.toList_map]
  have : (s.extract 0 l).data.toList = s.data.toList := by
    rw [ByteArray.data_extract, Array.toList_extract, List.extract_eq_take_drop, List.drop_zero, List.take_of_length_le]
    rw [e1, dig_length]; omega
  rw [this, e1]

/- APPEND TO BYTES IN A BLOCK OF THEIR OWN -/
noncomputable def bsk (x : Blk) (k : Nat → Nat → Nat → Res) : Res :=
  Blk.rec (motive := fun _ => Res) .fail (fun _ _ _ _ => .fail) (fun y => Oth.rec (motive := fun _ => Res) (fun _ _ => .fail) (fun _ _ _ => .fail) (fun _ _ _ _ _ => .fail) (fun _ _ _ _ => .fail) (fun _ _ _ => .fail) k y) x
theorem bsk_ok {x : Blk} {k : Nat → Nat → Nat → Res} {r : Res} (h : bsk x k = r) (hr : r ≠ .fail) : ∃ el l n, x = .ob (.bs el l n) ∧ k el l n = r := by
  cases x with
  | ob y =>
    cases y
    case bs el l n => exact ⟨el, l, n, rfl, h⟩
    all_goals exact absurd h.symm hr
  | _ => exact absurd h.symm hr
noncomputable def appBk (el : Nat) (x : V) (m n : Nat) (h : Heap) (k : V → Heap → Res) : Res :=
  slk x
    (fun b o l c s => zk o (optk c (fun _ => .fail) (ifk (Nat.beq s 1) (ifk (Nat.ble (Nat.add l m) 16777216) (h.getk b fun blk => bsk blk fun el' l' n' =>
      ifk (Nat.beq el el') (ifk (Nat.beq l l') (forceN (Nat.add n' (Nat.mul n (Nat.pow 256 l))) fun N =>
        h.turnk b .none fun h1 => h1.newk (.ob (.bs el (Nat.add l m) N)) fun b' h' => k (.slice b' 0 (Nat.add l m) none 1) h') .fail) .fail) .fail) .fail)) .fail)
    (zk m (k .nils h) (ifk (Nat.ble m 16777216) (h.newk (.ob (.bs el m n)) fun b' h' => k (.slice b' 0 m none 1) h') .fail))
    .fail
noncomputable def sAppB (s : Bool) (el : Nat) (x y : V) (h : Heap) (k : V → Heap → Res) : Res :=
  Bool.rec (motive := fun _ => Res) (numBk y h fun m n => appBk el x m n h k) (strk y fun m n => appBk el x m n h k) s

theorem bytes_one (l : List UInt8) : ∀ x ∈ l.map (fun b => Value.int .u8 b.toNat), x.oneCell' = true := by
  intro x hx
  obtain ⟨b, _, rfl⟩ := List.mem_map.1 hx
  rfl
theorem appBk_ok {el m n : Nat} {x : V} {h : Heap} {k : V → Heap → Res} {r : Res} (hh : appBk el x m n h k = r) (hr : r ≠ .fail) {ρ : Rho} {w : World} (rh : RH P ρ h w) {v y : Value}
    (hv : VR ρ x v) {ts : Array TypeId} {ty u : TypeId} (hs : SrcN P w ts el y m n) (at_ : AppT P ts ty el 1) : Ok P ρ h w (Builtin.append_ ts u #[v, y]) k r := by
  have hc1 : P.cellsOf el = 1 := by
    have := at_.size
    unfold sz at this
    simp [Program.cellsOf, this]
  obtain ⟨z1, hz, hzs, hz1⟩ := at_.zero
  have hxl : ((dig m n).map fun b => Value.int .u8 b.toNat).length = m := by simp [dig_length]
  rcases slk_ok hh hr with ⟨b, o, l, cp, s, rfl, h1⟩ | ⟨rfl, h1⟩ | ⟨rfl, h1⟩
  · obtain ⟨rfl, h2⟩ := zk_fail h1 hr
    rcases optk_cases h2 with ⟨_, _, h3⟩ | ⟨rfl, h3⟩
    · exact absurd h3.symm hr
    obtain ⟨h4, h5⟩ := ifk_fail h3 hr
    obtain rfl := Nat.eq_of_beq_eq_true h4
    obtain ⟨hsm, h6⟩ := ifk_fail h5 hr
    have hsm : l + m ≤ 16777216 := Nat.le_of_ble_eq_true hsm
    rw [Heap.getk_eq] at h6
    obtain ⟨el', l', n', hblk, h7⟩ := bsk_ok h6 hr
    obtain ⟨h8, h9⟩ := ifk_fail h7 hr
    obtain rfl := Nat.eq_of_beq_eq_true h8
    obtain ⟨h10, h11⟩ := ifk_fail h9 hr
    obtain rfl := Nat.eq_of_beq_eq_true h10
    rw [forceN_eq, Heap.turnk_eq] at h11
    obtain ⟨nx, hnx, h12⟩ := Heap.newk_ok h11 hr
    obtain ⟨c, z, S, cap, hb, _, hcap, hlc, rfl⟩ := hv.slice_inv
    have hcap := hcap rfl
    obtain ⟨ob, g1, g2, rfl, g3⟩ := rh.ob b c z S _ hb hblk
    obtain ⟨cs, e0, fz, rfl, g4⟩ := g3 rfl
    obtain ⟨rfl, f1, f2, f3, f4, f5⟩ := g2
    have hN : n' + n * 256 ^ l < 256 ^ (l + m) := by
      have := hs.lt
      rw [Nat.pow_add]
      have h1 : (n + 1) * 256 ^ l ≤ 256 ^ m * 256 ^ l := Nat.mul_le_mul_right _ this
      rw [Nat.succ_mul, Nat.mul_comm (256 ^ m)] at h1
      omega
    have hdig : dig (l + m) (n' + n * 256 ^ l) = dig l n' ++ dig m n := dig_append l m n' n f2
    have hwr : (h.t.get b).wr = true := by rw [hblk]; rfl
    have hS : S = cap := by omega
    by_cases hle : l + m ≤ cap
    · obtain ⟨w', cs', r1, r2, r3, r4, r5, r6, r7, r8, r9⟩ := run_storeCells_any (P := P) (o := l) ((dig m n).map fun b => Value.int .u8 b.toNat) 0 cs w g1 (by omega)
        (fun k a b => by rcases f4 with f4 | f4 <;> omega) (bytes_one _)
      obtain ⟨k1, k2⟩ := rehomeO rh hb hwr (w' := w') hnx r2 r3 r4 r5 r7 (y := .bs e0 (l + m) (n' + n * 256 ^ l)) ⟨_, r6, ⟨rfl, f1, hN, by omega, by rcases f4 with f4 | f4 <;> omega, fun i b hi => by
        rw [hdig] at hi
        rw [r9]
        by_cases hil : i < l
        · rw [if_neg (by omega)]
          rw [List.getElem?_append_left (by rw [dig_length]; exact hil)] at hi
          exact f5 i b hi
        · rw [List.getElem?_append_right (by rw [dig_length]; omega), dig_length] at hi
          have him : i - l < m := by have := (List.getElem?_eq_some_iff.1 hi).1; rw [dig_length] at this; exact this
          rw [if_pos (by omega), List.getElem?_map]
          have e : i - (l + 0) = i - l := by omega
          rw [e, hi]; rfl⟩, fun _ => ⟨cs', _, _, rfl, by omega⟩⟩
      refine ⟨_, _, _, _, w', h12, run_append_in at_ hs.how hle (w' := w') (fun a ha => ?_) (fun e => by cases e), ?_, k1, k2⟩
      · cases ha
        rw [add_addr]
        simpa using r1
      · have := VR.slice (o := 0) (l := l + m) (cp := none) (s := 1) (cap := cap) (Rho.put_same ρ h.nx (c, 0, S)) (fun m e => by cases e) (fun _ => by omega) hle
        exact this
    · have hold : (Builtin.firstCells 1 l (.slice (some ⟨c, 0 + 0, none⟩) l cap)).run P { w with drawn := w.drawn + 1 } = .ok ((dig l n').map fun b => Value.int .u8 b.toNat).toArray { w with drawn := w.drawn + 1 } := by
        have hl := run_loadCells_list (P := P) { w with drawn := w.drawn + 1 } ⟨c, 0, none⟩ ((dig l n').map fun b => Value.int .u8 b.toNat) (fun j v hj => by
          rw [add_addr]
          rw [List.getElem?_map] at hj
          obtain ⟨b, hb1, rfl⟩ := Option.map_eq_some_iff.1 hj
          simp only [World.cell?, g1, Nat.zero_add]
          simpa using f5 j b hb1)
        rw [List.length_map, dig_length] at hl
        simpa [Builtin.firstCells] using hl
      obtain ⟨cap', hcap', hrun⟩ := run_append_grow (u := u) at_ hs.how hold (by omega) hsm hz
      obtain ⟨d1, d2⟩ := drop_block rh hb hwr
      have d3 := d1.drew (w.drawn + 1)
      have d4 := d2.trans (Ext.drew ρ (h.turn b .none) w (w.drawn + 1))
      let cs2 : Array Value := ((dig l n').map fun b => Value.int .u8 b.toNat).toArray ++ ((dig m n).map fun b => Value.int .u8 b.toNat).toArray ++ Builtin.zeroCells z1.cells (cap' - (l + m))
      have hcs2 : cs2.size = cap' := by
        show (((dig l n').map fun b => Value.int .u8 b.toNat).toArray ++ ((dig m n).map fun b => Value.int .u8 b.toNat).toArray ++ Builtin.zeroCells z1.cells (cap' - (l + m))).size = _
        rw [Array.size_append, Array.size_append, zeroCells_size, hzs]
        simp only [List.size_toArray, List.length_map, dig_length]
        omega
      obtain ⟨k1, k2⟩ := alloc d3 (x := .ob (.bs e0 (l + m) (n' + n * 256 ^ l))) hnx (o := .cells cs2 e0) (S := cs2.size) (fun g n t ro e => by cases e) (fun x' e => by
        cases e
        refine ⟨rfl, f1, hN, by omega, .inl rfl, fun i b hi => ?_⟩
        rw [hdig] at hi
        show (((dig l n').map fun b => Value.int .u8 b.toNat).toArray ++ ((dig m n).map fun b => Value.int .u8 b.toNat).toArray ++ Builtin.zeroCells z1.cells (cap' - (l + m)))[i]? = _
        have hi' : i < l + m := by have := (List.getElem?_eq_some_iff.1 hi).1; rw [List.length_append, dig_length, dig_length] at this; exact this
        rw [Array.getElem?_append_left (by simp only [Array.size_append, List.size_toArray, List.length_map, dig_length]; exact hi'), List.append_toArray, List.getElem?_toArray, ← List.map_append, List.getElem?_map, hi]; rfl) (fun x' e => by cases e; exact fun _ => ⟨cs2, _, _, rfl, rfl⟩)
      refine ⟨_, _, _, .slice (some ⟨w.heap.size, 0, none⟩) (l + m) cap', _, h12, hrun, ?_, k1, d4.trans k2⟩
      have := VR.slice (o := 0) (l := l + m) (cp := none) (s := 1) (cap := cap') (Rho.put_same ρ (h.turn b .none).nx (w.heap.size, 0, cs2.size)) (fun m e => by cases e) (fun _ => by omega) hcap'
      simpa using this
  · rw [hv.nils_inv]
    rw [zk_eq] at h1
    split at h1
    · subst m
      exact .pure rh ⟨_, .slice none 0 0, h1, run_append_in at_ hs.how (by omega) (w' := w) (fun a e => by cases e) (fun _ => rfl), .nils⟩
    · rename_i hm
      obtain ⟨hsm, h2⟩ := ifk_fail h1 hr
      have hsm : m ≤ 16777216 := Nat.le_of_ble_eq_true hsm
      obtain ⟨cap', hcap', hrun⟩ := run_append_grow (u := u) (l := 0) (cap := 0) (base := none) (old := #[]) at_ hs.how rfl (by omega) (by omega) hz
      rw [Nat.zero_add] at hrun
      obtain ⟨nx, hnx, h12⟩ := Heap.newk_ok h2 hr
      let cs2 : Array Value := #[] ++ ((dig m n).map fun (b : UInt8) => Value.int .u8 b.toNat).toArray ++ Builtin.zeroCells z1.cells (cap' - m)
      have hcs2 : cs2.size = cap' := by
        show (#[] ++ ((dig m n).map fun (b : UInt8) => Value.int .u8 b.toNat).toArray ++ Builtin.zeroCells z1.cells (cap' - m)).size = _
        rw [Array.size_append, Array.size_append, zeroCells_size, hzs]
        simp only [List.size_toArray, List.length_map, dig_length]
        simp; omega
      obtain ⟨k1, k2⟩ := alloc (rh.drew (w.drawn + 1)) (x := .ob (.bs el m n)) hnx (o := .cells cs2 el) (S := cs2.size) (fun g n t ro e => by cases e) (fun x' e => by
        cases e
        refine ⟨rfl, hc1, hs.lt, by omega, .inl rfl, fun i b hi => ?_⟩
        show (#[] ++ ((dig m n).map fun (b : UInt8) => Value.int .u8 b.toNat).toArray ++ Builtin.zeroCells z1.cells (cap' - m))[i]? = _
        have hi' : i < m := by have := (List.getElem?_eq_some_iff.1 hi).1; rw [dig_length] at this; exact this
        rw [Array.getElem?_append_left (by simp only [Array.size_append, List.size_toArray, List.length_map, dig_length]; simp; exact hi'), Array.empty_append, List.getElem?_toArray, List.getElem?_map, hi]; rfl) (fun x' e => by cases e; exact fun _ => ⟨cs2, _, _, rfl, rfl⟩)
      refine ⟨_, _, _, .slice (some ⟨w.heap.size, 0, none⟩) m cap', _, h12, hrun, ?_, k1, (Ext.drew ρ h w (w.drawn + 1)).trans k2⟩
      have := VR.slice (o := 0) (l := m) (cp := none) (s := 1) (cap := cap') (Rho.put_same ρ h.nx (w.heap.size, 0, cs2.size)) (fun m e => by cases e) (fun _ => by omega) (by omega)
      simpa using this
  · exact absurd h1.symm hr
theorem sAppB_ok {s : Bool} {el : Nat} {x y : V} {h : Heap} {k : V → Heap → Res} {r : Res} (hh : sAppB s el x y h k = r) (hr : r ≠ .fail) {ρ : Rho} {w : World} (rh : RH P ρ h w) {v yv : Value}
    (hv : VR ρ x v) (hy : VR ρ y yv) {ts : Array TypeId} {ty u : TypeId} (at_ : AppT P ts ty el 1) {u1 : TypeId} {d : TypeDesc} (h1 : ts[1]? = some u1) (h2 : P.underlying u1 = some d) (h3 : (d matches .int _) = false) :
    Ok P ρ h w (Builtin.append_ ts u #[v, yv]) k r := by
  cases s with
  | false =>
    obtain ⟨m, n, g1, g2⟩ := numBk_ok (P := P) (k := fun m n => appBk el x m n h k) hh hr rh hy h1 h2 h3 (e := el)
    exact appBk_ok g1 hr rh hv g2 at_
  | true =>
    obtain ⟨m, n, g1, g2⟩ := numSk_ok (P := P) (w := w) (k := fun m n => appBk el x m n h k) hh hr hy h1 h2 h3 (e := el)
    exact appBk_ok g1 hr rh hv g2 at_

/- THE STRING -/
noncomputable def sUsd (x : V) (h : Heap) (k : V → Heap → Res) : Res := slk x (fun b o l _ _ => ifk (Nat.blt 0 l) (k (.ptr b o) h) .fail) (k .nilp h) .fail
theorem sUsd_ok {x : V} {h : Heap} {k : V → Heap → Res} {r : Res} (hh : sUsd x h k = r) (hr : r ≠ .fail) {ρ : Rho} {w : World} {v : Value} (hv : VR ρ x v) {ts : Array TypeId} {t : TypeId} :
    OkP P ρ h w (Builtin.unsafeSliceData_ ts t #[v]) k r := by
  rcases slk_ok hh hr with ⟨b, o, l, cp, s, rfl, h1⟩ | ⟨rfl, h1⟩ | ⟨rfl, h1⟩
  · obtain ⟨c, z, S, cap, hb, _, _, hlc, rfl⟩ := hv.slice_inv
    obtain ⟨h2, h3⟩ := ifk_fail h1 hr
    have h2 : 0 < l := by simpa [Nat.blt_eq] using h2
    exact ⟨_, _, h3, Lib.run_unsafeSliceData_row w ts t _ l cap (by omega), .ptr hb⟩
  · rw [hv.nils_inv]
    exact ⟨_, .pointer none, h1, Lib.run_unsafeSliceData_nil w ts t 0 0, .nilp⟩
  · exact absurd h1.symm hr
noncomputable def nilork (x : V) (z : Res) (k : Bid → Nat → Res) : Res := pnk x fun b => Bool.rec (motive := fun _ => Res) (ptrk x k) z b
theorem nilork_ok {x : V} {z : Res} {k : Bid → Nat → Res} {r : Res} (h : nilork x z k = r) (hr : r ≠ .fail) {ρ : Rho} {v : Value} (hv : VR ρ x v) : (v = .pointer none ∧ z = r) ∨ ∃ b o, x = .ptr b o ∧ k b o = r := by
  rcases pnk_ok h hr hv with ⟨h1, h2⟩ | ⟨_, _, h2⟩
  · exact .inl ⟨h1, h2⟩
  · obtain ⟨b, o, h3, h4⟩ := ptrk_ok h2 hr
    exact .inr ⟨b, o, h3, h4⟩
noncomputable def sUstr (el : Nat) (x n : V) (h : Heap) (k : V → Heap → Res) : Res :=
  castI .i64 n fun i => natk i fun m => nilork x (zk m (k (.str 0 0) h) .fail) fun b o => zk o (ifk (Nat.blt 0 m) (h.getk b fun blk => bsk blk fun el' l' n' =>
    ifk (Nat.beq el el') (ifk (Nat.beq m l') (ifk (Nat.ble m 16777216) (h.turnk b (.ob (.bs el' l' n')) fun h' => k (.str l' n') h') .fail) .fail) .fail) .fail) .fail
theorem freeze_heap {w : World} {c m : Nat} {cs : Array Value} {e : TypeId} {lo hi : Nat} (hm : m ≠ 0) (h : w.heap[c]? = some (.cells cs e (lo, hi))) :
    (w.freeze ⟨c, 0, none⟩ m).heap[c]? = some (.cells cs e (if lo == hi then (0, 0 + m) else (min lo 0, max hi (0 + m)))) ∧ (∀ k, k ≠ c → (w.freeze ⟨c, 0, none⟩ m).heap[k]? = w.heap[k]?) ∧ (w.freeze ⟨c, 0, none⟩ m).heap.size = w.heap.size := by
  unfold World.freeze
  rw [if_neg hm]
  refine ⟨by simp only [Array.getElem?_modify, h, if_true, Option.map_some], fun k hk => ?_, by simp⟩
  simp only [Array.getElem?_modify]
  rw [if_neg fun e => hk e.symm]
theorem sUstr_ok {el : Nat} {x n : V} {h : Heap} {k : V → Heap → Res} {r : Res} (hh : sUstr el x n h k = r) (hr : r ≠ .fail) {ρ : Rho} {w : World} (rh : RH P ρ h w) {v nv : Value}
    (hv : VR ρ x v) (hn : VR ρ n nv) {pt it t : TypeId} (hp : P.underlying pt = some (.pointer el)) (hc : P.cellsOf el = 1) : Ok P ρ h w (Builtin.unsafeString_ #[pt, it] t #[v, nv]) k r := by
  obtain ⟨k0, i, rfl, h1⟩ := intk_ok (show intk n (fun k0 i => ksel .i64 k0 _) = r from hh) hr
  obtain ⟨rfl, h2⟩ := ksel_ok h1 hr
  obtain ⟨m, rfl, h3⟩ := natk_ok h2 hr
  cases hn
  rcases nilork_ok h3 hr hv with ⟨rfl, h4⟩ | ⟨b, o, rfl, h4⟩
  · obtain ⟨rfl, h5⟩ := zk_fail h4 hr
    exact .pure rh ⟨_, .string .empty, h5, Lib.run_unsafeString_none w pt it t none, .str rfl (by simp)⟩
  · obtain ⟨rfl, h5⟩ := zk_fail h4 hr
    obtain ⟨h6, h7⟩ := ifk_fail h5 hr
    have h6 : 0 < m := by simpa [Nat.blt_eq] using h6
    rw [Heap.getk_eq] at h7
    obtain ⟨el', l', n', hblk, h8⟩ := bsk_ok h7 hr
    obtain ⟨h9, h10⟩ := ifk_fail h8 hr
    obtain rfl := Nat.eq_of_beq_eq_true h9
    obtain ⟨h11, h12⟩ := ifk_fail h10 hr
    obtain rfl := Nat.eq_of_beq_eq_true h11
    obtain ⟨h13, h14⟩ := ifk_fail h12 hr
    have h13 : m ≤ 16777216 := Nat.le_of_ble_eq_true h13
    rw [Heap.turnk_eq] at h14
    cases hv with
    | ptr hb =>
      rename_i c z S
      obtain ⟨ob, g1, g2, rfl, g3⟩ := rh.ob b c z S _ hb hblk
      obtain ⟨cs, e0, fz, rfl, g4⟩ := g3 rfl
      obtain ⟨rfl, f1, f2, f3, f4, f5⟩ := g2
      have hlt := rh.lt _ _ _ _ hb
      have hwr : (h.t.get b).wr = true := by rw [hblk]; rfl
      have hlen : (dig m n').length = m := dig_length _ _
      have hne : dig m n' ≠ [] := by intro e; rw [e] at hlen; simp at hlen; omega
      have run := Lib.run_unsafeString_row (P := P) w pt it t e0 hp hc (g := c) (cells := cs.size) (by simp [World.shape?, g1]) (dig m n') hne (by omega) (by omega) (fun j x hj => by
        rw [add_addr]
        simp only [World.cell?, g1, Nat.zero_add]
        simpa using f5 j x hj)
      rw [hlen] at run
      have hm0 : m ≠ 0 := by omega
      obtain ⟨lo, hi⟩ := fz
      obtain ⟨hnew, hoth, hsz⟩ := freeze_heap hm0 g1
      obtain ⟨k1, k2⟩ := turn rh hb hwr (w' := w.freeze ⟨c, 0, none⟩ m) (x := .ob (.bs e0 m n')) (o := .cells cs e0 (if lo == hi then (0, 0 + m) else (min lo 0, max hi (0 + m))))
        (by simp [World.freeze, hm0]) (by simp [World.freeze, hm0]) (by simp [World.freeze, hm0]) hsz hnew hoth
        (fun g' n'' t'' ro' e => by cases e) (fun es e => by
          cases e
          refine ⟨⟨rfl, f1, f2, f3, .inr ?_, f5⟩, rfl⟩
          rcases f4 with f4 | f4
          · have f4 : lo = hi := f4
            subst f4
            simp
          · have f4 : hi ≤ m := f4
            split
            · simp
            · simp only; omega) (fun es e => by cases e; exact fun _ => ⟨cs, _, _, rfl, g4⟩)
      exact ⟨_, _, ρ, .string ⟨(dig m n').toArray⟩, _, h14, run, .str rfl f2, k1, k2⟩

/- POINTERS TURNED TO unsafe.Pointer AND BACK -/
noncomputable def stk (x : Blk) (k : Nat → Nat → Res) : Res :=
  Blk.rec (motive := fun _ => Res) .fail (fun _ _ _ _ => .fail) (fun y => Oth.rec (motive := fun _ => Res) (fun _ _ => .fail) (fun _ _ _ => .fail) (fun _ _ _ _ _ => .fail) (fun _ _ _ _ => .fail) (fun el g _ => k el g) (fun _ _ _ => .fail) y) x
theorem stk_ok {x : Blk} {k : Nat → Nat → Res} {r : Res} (h : stk x k = r) (hr : r ≠ .fail) : ∃ el g t, x = .ob (.st el g t) ∧ k el g = r := by
  cases x with
  | ob y =>
    cases y
    case st el g t => exact ⟨el, g, t, rfl, h⟩
    all_goals exact absurd h.symm hr
  | _ => exact absurd h.symm hr
noncomputable def sToU (x : V) (h : Heap) (k : V → Heap → Res) : Res := nilork x (k .nilp h) fun b o => h.getk b fun blk => stk blk fun _ g => ifk (Nat.blt o g) (k (.ptr b o) h) .fail
theorem sToU_ok {x : V} {h : Heap} {k : V → Heap → Res} {r : Res} (hh : sToU x h k = r) (hr : r ≠ .fail) {ρ : Rho} {w : World} (rh : RH P ρ h w) {v : Value} (hv : VR ρ x v) {s d t : TypeId}
    (hs : P.underlying s = some (.pointer t)) (hd : P.underlying d = some .unsafePointer) {n : Nat} (ht : sz P t = some n) (h0 : n ≠ 0) : OkP P ρ h w (convert s d v) k r := by
  rcases nilork_ok hh hr hv with ⟨rfl, h4⟩ | ⟨b, o, rfl, h4⟩
  · refine ⟨_, .pointer none, h4, ?_, .nilp⟩
    simp [convert, run_und hs, run_und hd, Conv.unsafePointer]
  · rw [Heap.getk_eq] at h4
    obtain ⟨el, g, t', hblk, h5⟩ := stk_ok h4 hr
    obtain ⟨h6, h7⟩ := ifk_fail h5 hr
    have h6 : o < g := by simpa [Nat.blt_eq] using h6
    cases hv with
    | ptr hb =>
      rename_i c z S
      obtain ⟨ob, g1, g2, rfl, g3⟩ := rh.ob b c z S _ hb hblk
      obtain ⟨cs, e0, fz, rfl, g4⟩ := g3 rfl
      obtain ⟨rfl, f1, f2, f3, f4, f5⟩ := g2
      obtain ⟨j, hj, rfl⟩ := Option.map_eq_some_iff.1 ht
      exact ⟨_, _, h7, Lib.run_to_unsafe w (e := e0) (cells := cs.size) ⟨c, 0 + o, none⟩ hs hd hj h0 (by simp [World.shape?, g1]) (by show 0 + o < cs.size; omega), .ptr hb⟩
noncomputable def sFromU (els : List Nat) (x : V) (h : Heap) (k : V → Heap → Res) : Res :=
  nilork x (k .nilp h) fun b o => zk o (h.getk b fun blk => stk blk fun el _ => ifk (memn el els) (k (.ptr b 0) h) .fail) .fail
theorem sFromU_ok {els : List Nat} {x : V} {h : Heap} {k : V → Heap → Res} {r : Res} (hh : sFromU els x h k = r) (hr : r ≠ .fail) {ρ : Rho} {w : World} (rh : RH P ρ h w) {v : Value} (hv : VR ρ x v) {s d t : TypeId}
    (hs : P.underlying s = some .unsafePointer) (hd : P.underlying d = some (.pointer t)) {n : Nat} (ht : sz P t = some n) (he : ∀ e ∈ els, liesAt P P.depth e 1 0 t 1 = true) : OkP P ρ h w (convert s d v) k r := by
  rcases nilork_ok hh hr hv with ⟨rfl, h4⟩ | ⟨b, o, rfl, h4⟩
  · refine ⟨_, .pointer none, h4, ?_, .nilp⟩
    simp [convert, run_und hs, run_und hd, Conv.unsafePointer]
  · obtain ⟨rfl, h4⟩ := zk_fail h4 hr
    rw [Heap.getk_eq] at h4
    obtain ⟨el, g, t', hblk, h5⟩ := stk_ok h4 hr
    obtain ⟨h6, h7⟩ := ifk_fail h5 hr
    rw [memn_eq] at h6
    have h6 : el ∈ els := by simpa using h6
    cases hv with
    | ptr hb =>
      rename_i c z S
      obtain ⟨ob, g1, g2, rfl, g3⟩ := rh.ob b c z S _ hb hblk
      obtain ⟨cs, e0, fz, rfl, g4⟩ := g3 rfl
      obtain ⟨rfl, f1, f2, f3, f4, f5⟩ := g2
      obtain ⟨j, hj, rfl⟩ := Option.map_eq_some_iff.1 ht
      have hcells : cs.size / P.cellsOf e0 = 1 := by rw [f4, f3]; exact Nat.div_self f2
      exact ⟨_, _, h7, Lib.run_from_unsafe w (e := e0) (cells := cs.size) ⟨c, 0 + 0, none⟩ hs hd hj (by simp [World.shape?, g1]) (by rw [hcells]; exact he e0 h6), .ptr hb⟩

/-- internal/abi.NoEscape -/
noncomputable def sSame (x : V) (h : Heap) (k : V → Heap → Res) : Res := k x h
theorem sSame_ok {x : V} {h : Heap} {k : V → Heap → Res} {r : Res} (hh : sSame x h k = r) {ρ : Rho} {w : World} {v : Value} (hv : VR ρ x v)
    {g : Nat} (hg : extF P g "internal/abi.NoEscape" = true) : ∃ u y, k u h = r ∧ (callFunc g #[v]).run P w = .ok (.value y) w ∧ VR ρ u y := by
  obtain ⟨fn, h1, h2, h3, h4⟩ := extF_ok hg
  refine ⟨_, _, hh, ?_, hv⟩
  rw [run_callFunc_standIn h1 (by rw [h3]; decide) h2 (findNext_of h3 h4 (by kernel_rfl) next_none) (e := Extern.AbiNoEscape.same) (find_of h3 (by kernel_rfl) (by kernel_rfl) (by kernel_rfl))]
  rfl

/- A STRUCT IN A BLOCK OF ITS OWN -/
/-- 'struct { addr *T; buf []byte }' -/
def selfB (P : Program) (t : TypeId) : Bool := match P.underlying t with
  | some (.struct fs) => match fs.toList with
    | [f, g] => (match P.underlying f.type with | some (.pointer t') => t' == t | _ => false) && (match P.underlying g.type with | some (.slice e) => sz P e == some 1 | _ => false)
    | _ => false
  | _ => false
/-- such a struct, or a struct of it alone -/
def bldT (P : Program) (t : TypeId) : Bool := match P.underlying t with
  | some (.struct fs) => match fs.toList with
    | [f] => selfB P f.type
    | [_, _] => selfB P t
    | _ => false
  | _ => false
noncomputable def sAllocT (el g : Nat) (l : List V) (h : Heap) (k : V → Heap → Res) : Res := h.newk (.ob (.st el g (.lf l))) fun b h' => k (.ptr b 0) h'
theorem stc_lf {ρ : Rho} {g : Nat} {l : List V} {cs : Array Value} (hl : VRs ρ l cs.toList) (h1 : ∀ y ∈ cs.toList, y.oneCell' = true) (hg : l.length = g) : StcR ρ g (.lf l) cs := by
  intro j ch hj
  simp only [T.get] at hj
  split at hj
  · subst j
    cases hj
    refine ⟨by omega, hg, fun i v hi => ?_⟩
    obtain ⟨x, h4, h5⟩ := hl.get hi
    rw [Array.getElem?_toList] at h4
    exact ⟨x, by simpa using h4, h5, h1 x (by rw [Array.mem_toList_iff]; exact Array.mem_of_getElem? h4)⟩
  · cases hj
theorem sAllocT_ok {t g : Nat} {l : List V} {h : Heap} {k : V → Heap → Res} {r : Res} (hh : sAllocT t g l h k = r) (hr : r ≠ .fail) {ρ : Rho} {w : World} (rh : RH P ρ h w) {z : Value}
    (hz : (P.info? t).bind (·.zero) = some z) (hl : VRs ρ l z.cells.toList) (h1 : ∀ y ∈ z.cells.toList, y.oneCell' = true) (hg : l.length = g) (hpos : 0 < g) (hs : sz P t = some g) :
    Ok P ρ h w (Instr.alloc t true (.tuple #[])) k r := by
  obtain ⟨nx, h2, h3⟩ := Heap.newk_ok hh hr
  have hlen : l.length = z.cells.size := by have := hl.length; simpa using this
  have hc : P.cellsOf t = g := by unfold sz at hs; simp [Program.cellsOf, hs]
  obtain ⟨d1, d2⟩ := alloc rh h2 (x := .ob (.st t g (.lf l))) (o := .cells z.cells t) (S := z.cells.size) (fun g n t ro e => by cases e) (fun x' e => by
    cases e
    exact ⟨rfl, rfl, hpos, by omega, hc, stc_lf hl h1 hg⟩) (fun x' e => by cases e; exact fun _ => ⟨z.cells, _, _, rfl, rfl⟩)
  exact ⟨_, _, _, .pointer (some ⟨w.heap.size, 0, none⟩), _, h3, by simp [Instr.alloc, run_zero hz, newVar, newRow], VR.ptr_new _ _ _ _, d1, d2⟩
end Go.Ev
