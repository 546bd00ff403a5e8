/- EVALUATOR, 15: make; bytes and strings. -/
import Derived.Test.YtjppnjhchojldaaEvOps3
import Derived.Laws.BytesString
namespace Go.Ev
variable {P : Program}

/- MAKE -/
noncomputable def zT (n : Nat) (x y : T) : T := Nat.rec (motive := fun _ => T) x (fun _ _ => y) n
noncomputable def repT (c : List V) (f : Nat) : Nat → T :=
  Nat.rec (motive := fun _ => Nat → T) (fun _ => .e) (fun _ ih n => zT n .e (zT (Nat.pred n) (.lf c) (.nd (ih (Nat.div (Nat.succ n) 2)) (ih (Nat.div n 2))))) f
theorem repT_eq (c : List V) (f n : Nat) : repT c f n = T.rep c f n := by
  induction f generalizing n with
  | zero => rfl
  | succ f ih =>
    show zT n .e (zT (Nat.pred n) (.lf c) (.nd (repT c f ((n + 1) / 2)) (repT c f (n / 2)))) = _
    rw [ih, ih, T.rep]
    cases n with
    | zero => rfl
    | succ n =>
      cases n with
      | zero => rfl
      | succ n => rw [if_neg (by omega), if_neg (by omega)]; rfl
noncomputable def sMake (g : Nat) (z : List V) (l c : V) (h : Heap) (k : V → Heap → Res) : Res :=
  intk l fun _ a => natk a fun la => intk c fun _ b => natk b fun cb => ifk (Nat.ble la cb) (ifk (Nat.ble cb 16777216)
    (h.newk (.arr g cb (repT z cb cb) false) fun bb h' => k (.slice bb 0 la (some cb) g) h') .fail) .fail
theorem flat_get {g : Nat} {z : List V} (hz : z.length = g) : ∀ (n i : Nat), ((List.replicate n z).flatten)[i]? = if i < n * g then z[i % g]? else none := by
  intro n
  induction n with
  | zero => intro i; simp
  | succ n ih =>
    intro i
    rw [List.replicate_succ, List.flatten_cons]
    by_cases hi : i < g
    · rw [List.getElem?_append_left (by omega), Nat.mod_eq_of_lt hi, if_pos (by rw [Nat.succ_mul]; omega)]
    · rw [List.getElem?_append_right (by omega), ih, hz]
      have : (i - g) % g = i % g := by rw [← Nat.mod_eq_sub_mod (by omega)]
      rw [this, Nat.succ_mul]
      by_cases h2 : i - g < n * g
      · rw [if_pos h2, if_pos (by omega)]
      · rw [if_neg h2, if_neg (by omega)]
theorem flat_chunk {z : List V} {g n j : Nat} (hz : z.length = g) (hj : j < n) : (((List.replicate n z).flatten).drop (j * g)).take g = z := by
  have hjm : (j + 1) * g ≤ n * g := Nat.mul_le_mul_right g hj
  rw [Nat.succ_mul] at hjm
  apply List.ext_getElem?
  intro i
  by_cases hi : i < g
  · rw [List.getElem?_take_of_lt hi, List.getElem?_drop, flat_get hz, if_pos (by omega), Nat.mul_comm, Nat.mul_add_mod, Nat.mod_eq_of_lt hi]
  · rw [List.getElem?_eq_none (by simp only [List.length_take]; omega), List.getElem?_eq_none (by omega)]
theorem sMake_ok {g : Nat} {z : List V} {l c : V} {h : Heap} {k : V → Heap → Res} {r : Res} (hh : sMake g z l c h k = r) (hr : r ≠ .fail) {ρ : Rho} {w : World} (rh : RH ρ h w) {lv cv : Value}
    (hl : VR ρ l lv) (hc : VR ρ c cv) {t e : TypeId} (ht : SliceT P t e g) {zv : Value} (hz : (P.info? e).bind (·.zero) = some zv) (hzr : VRs ρ z zv.cells.toList) (hzl : z.length = g)
    (hz1 : ∀ y ∈ zv.cells.toList, y.oneCell' = true) : Ok P ρ h w (Instr.makeSlice t lv cv) k r := by
  obtain ⟨k1, a, rfl, h1⟩ := intk_ok hh hr
  obtain ⟨la, rfl, h2⟩ := natk_ok h1 hr
  obtain ⟨k2, b, rfl, h3⟩ := intk_ok h2 hr
  obtain ⟨cb, rfl, h4⟩ := natk_ok h3 hr
  obtain ⟨hle, h5⟩ := ifk_fail h4 hr
  obtain ⟨hsm, h6⟩ := ifk_fail h5 hr
  have hle : la ≤ cb := Nat.le_of_ble_eq_true hle
  have hsm : cb ≤ 16777216 := Nat.le_of_ble_eq_true hsm
  obtain ⟨nx, h7, h8⟩ := Heap.newk_ok h6 hr
  rw [hl.int_inv, hc.int_inv]
  have hpos := ht.pos
  have hzs : zv.cells.size = g := by have := hzr.len_eq; omega
  let cs : Array Value := (Array.range (cb * g)).map (zv.cells[· % zv.cells.size]!)
  have hcs : cs.size = cb * g := by simp [cs]
  have hget : ∀ i, i < cb * g → ∃ y, cs[i]? = some y ∧ VR ρ ((z[i % g]?).getD .und) y ∧ y.oneCell' = true := by
    intro i hi
    have hm : i % g < zv.cells.size := by rw [hzs]; exact Nat.mod_lt i hpos
    have e1 : cs[i]? = some zv.cells[i % g] := by
      simp only [cs, Array.getElem?_map, Array.getElem?_range, hi, if_true, Option.map_some, hzs]
      rw [getElem!_pos zv.cells (i % g) hm]
    refine ⟨_, e1, ?_, hz1 _ (by simp)⟩
    have hm2 : i % g < z.length := by rw [hzl]; exact Nat.mod_lt i hpos
    obtain ⟨y, h9, h10⟩ := hzr.get (List.getElem?_eq_getElem hm2)
    rw [List.getElem?_eq_getElem hm2, Option.getD_some]
    rw [Array.getElem?_toList, Array.getElem?_eq_getElem hm] at h9
    cases h9; exact h10
  have hflen : ((List.replicate cb z).flatten).length = cb * g := by simp [hzl]
  obtain ⟨h9, h10⟩ := new_cells rh h7 hpos (n := cb) (t := repT z cb cb) (l := (List.replicate cb z).flatten) (cs := cs) (by
      refine VRs.of_get (by simp only [List.length_take, Array.length_toList]; omega) fun i v hi => ?_
      rw [flat_get hzl] at hi
      split at hi
      · rename_i hlt
        obtain ⟨y, h11, h12, _⟩ := hget i hlt
        rw [hi, Option.getD_some] at h12
        exact ⟨y, by rw [List.getElem?_take_of_lt (by omega), Array.getElem?_toList]; exact h11, h12⟩
      · cases hi)
    (by
      intro y hy
      obtain ⟨i, hi, rfl⟩ := List.mem_iff_getElem.1 hy
      have hi' : i < cb * g := by simpa [hcs] using hi
      obtain ⟨y', h11, _, h12⟩ := hget i hi'
      have : cs.toList[i]? = some y' := by rw [Array.getElem?_toList]; exact h11
      rw [List.getElem?_eq_getElem hi] at this
      cases this; exact h12) hflen (fun j ch hj => by
      rw [repT_eq, T.get_rep z cb cb (Nat.le_refl _)] at hj
      split at hj
      · rename_i hlt
        cases hj
        refine ⟨hlt, ?_⟩
        have hjm : (j + 1) * g ≤ cb * g := Nat.mul_le_mul_right g hlt
        rw [Nat.succ_mul] at hjm
        apply List.ext_getElem?
        intro i
        by_cases hi : i < g
        · rw [List.getElem?_take_of_lt hi, List.getElem?_drop, flat_get hzl, if_pos (by omega), Nat.mul_comm, Nat.mul_add_mod, Nat.mod_eq_of_lt hi]
        · rw [List.getElem?_eq_none (by omega), List.getElem?_eq_none (by simp only [List.length_take]; omega)]
      · cases hj) e (fz := (0, 0)) (.inl rfl) (by omega)
  obtain ⟨i, hi, hby⟩ := ht.bytes
  have hti : ∀ w : World, (typeInfo e).run P w = .ok i w := fun w => by simp [typeInfo, hi]
  refine ⟨_, _, _, .slice (some ⟨w.heap.size, 0, none⟩) la cb, _, h8, ?_, VR.slice_new _ _ _ _ _ _ hle, h9, h10⟩
  have hw1 : IntKind.i64.wrap (la : Int) = la := wrap_small .i64 _ (by omega) (by show (la : Int) ≤ (9223372036854775807 : Nat); omega)
  have hw2 : IntKind.i64.wrap (cb : Int) = cb := wrap_small .i64 _ (by omega) (by show (cb : Int) ≤ (9223372036854775807 : Nat); omega)
  have hb1 : (i.bytes : Int) * (cb : Int) ≤ 1099511627776 := by
    have h1 : i.bytes * cb ≤ 65536 * 16777216 := Nat.mul_le_mul hby hsm
    rw [← Int.natCast_mul]; omega
  have hc1 : (decide ((cb : Int) < 0) || decide ((i.bytes : Int) * (cb : Int) > 2 ^ 48) || decide ((la : Int) < 0) || decide ((la : Int) > (cb : Int))) = false := by
    rw [Bool.or_eq_false_iff, Bool.or_eq_false_iff, Bool.or_eq_false_iff]
    exact ⟨⟨⟨decide_eq_false (by omega), decide_eq_false (by omega)⟩, decide_eq_false (by omega)⟩, decide_eq_false (by omega)⟩
  simp only [Instr.makeSlice, Sem.run_bind, run_und ht.und, Result.andThen_ok, asInt, asIntOf, Sem.run_pure, hti, hw1, hw2]
  rw [if_neg (by rw [hc1]; simp)]
  simp only [Sem.run_bind, run_askRoom, Result.andThen_ok, run_size ht.size, Int.toNat_natCast, Sem.run_ite]
  by_cases h0 : cb * g = 0
  · rw [if_pos h0]
    have : cs = #[] := by
      apply Array.eq_empty_of_size_eq_zero; rw [hcs, h0]
    simp only [Sem.run_pure, Result.andThen_ok, newRow, Sem.run_bind, run_newObj, h0]
    have h2 : (Array.range 0).map (fun x => (#[] : Array Value)[x % (#[] : Array Value).size]!) = cs := by rw [this]; simp
    rw [h2]
  · rw [if_neg h0]
    simp only [run_zero hz, Result.andThen_ok, Sem.run_pure, newRow, Sem.run_bind, run_newObj]
    rfl

/- APPEND OF ZERO VALUES -/
noncomputable def repk (z : List V) (n : Nat) (k : List V → Res) : Res := Nat.rec (motive := fun _ => (List V → Res) → Res) (fun k => k []) (fun _ ih k => ih fun l => appk z l k) n k
theorem repk_eq (z : List V) (n : Nat) (k : List V → Res) : repk z n k = k (List.replicate n z).flatten := by
  induction n generalizing k with
  | zero => rfl
  | succ n ih =>
    show repk z n (fun l => appk z l k) = _
    rw [ih, appk_eq, List.replicate_succ, List.flatten_cons]
theorem zeroCells_vr {ρ : Rho} {z : List V} {c : Array Value} (hz : VRs ρ z c.toList) (hpos : 0 < z.length) (n : Nat) : VRs ρ (List.replicate n z).flatten (Builtin.zeroCells c n).toList := by
  have hl : z.length = c.size := by have := hz.length; simpa using this
  refine VRs.of_get (by simp [Builtin.zeroCells, hl]) fun i v hi => ?_
  rw [flat_get rfl] at hi
  split at hi
  · rename_i hlt
    obtain ⟨y, h1, h2⟩ := hz.get hi
    refine ⟨y, ?_, h2⟩
    have hm : i % c.size < c.size := Nat.mod_lt _ (by omega)
    rw [hl] at h1 hlt
    have e : (Builtin.zeroCells c n)[i]? = some c[i % c.size] := by
      simp only [Builtin.zeroCells, Array.getElem?_map, Array.getElem?_range, hlt, if_true, Option.map_some]
      rw [getElem!_pos c (i % c.size) hm]
    rw [Array.getElem?_toList, e]
    rw [Array.getElem?_toList, Array.getElem?_eq_getElem hm] at h1
    exact h1
  · cases hi
noncomputable def sAppZ (sz : Nat) (z : List V) (x y : V) (h : Heap) (k : V → Heap → Res) : Res :=
  intk y fun _ i => natk i fun n => ifk (Nat.ble n 16777216) (repk z n fun new => appendk sz x n new h k) .fail
theorem sAppZ_ok {sz0 : Nat} {z : List V} {x y : V} {h : Heap} {k : V → Heap → Res} {r : Res} (hh : sAppZ sz0 z x y h k = r) (hr : r ≠ .fail) {ρ : Rho} {w : World} (rh : RH ρ h w) {v v' : Value}
    (hv : VR ρ x v) (hv' : VR ρ y v') {ts : Array TypeId} {ty e u u2 : TypeId} {kd : IntKind} (at_ : AppT P ts ty e sz0) (h1 : ts[1]? = some u2) (h2 : P.underlying u2 = some (.int kd)) {zv : Value}
    (hz : (P.info? e).bind (·.zero) = some zv) (hzr : ∀ ρ, VRs ρ z zv.cells.toList) (hzl : z.length = sz0) (hz1 : ∀ y ∈ zv.cells.toList, y.oneCell' = true) :
    Ok P ρ h w (Builtin.append_ ts u #[v, v']) k r := by
  obtain ⟨k1, i, rfl, h3⟩ := intk_ok hh hr
  obtain ⟨n, rfl, h4⟩ := natk_ok h3 hr
  obtain ⟨hn, h5⟩ := ifk_fail h4 hr
  have hn : n ≤ 16777216 := Nat.le_of_ble_eq_true hn
  rw [repk_eq] at h5
  rw [hv'.int_inv]
  refine appendk_ok h5 hr rh hv (xs := (Builtin.zeroCells zv.cells n).toList) ⟨.zeros u2 kd k1 zv h1 h2 rfl hn hz (by simp), zeroCells_vr (hzr ρ) (by rw [hzl]; exact at_.pos) n, by simp [hzl], ?_⟩ at_
  exact zeroCells_one hz1 n

/- BYTES TO A STRING -/
noncomputable def packk (l : List V) : (Nat → Res) → Res :=
  List.rec (motive := fun _ => (Nat → Res) → Res) (fun k => k 0) (fun v _ ih k => intk v fun kd m => ifk (Nat.beq (kno kd) 4) (natk m fun b => ifk (Nat.blt b 256) (ih fun n => k (Nat.add b (Nat.mul 256 n))) .fail) .fail) l
theorem packk_ok {ρ : Rho} {l : List V} {k : Nat → Res} {r : Res} (h : packk l k = r) (hr : r ≠ .fail) {xs : List Value} (hl : VRs ρ l xs) :
    ∃ ns : List Nat, k (pack (ns.map UInt8.ofNat)) = r ∧ xs = ns.map (fun (n : Nat) => Value.int .u8 (n : Int)) ∧ ∀ n ∈ ns, n < 256 := by
  induction l generalizing xs k with
  | nil => cases hl; exact ⟨[], h, rfl, by simp⟩
  | cons v l ih =>
    cases hl with
    | cons hv hs =>
      obtain ⟨kd, m, rfl, h1⟩ := intk_ok (show intk v _ = r from h) hr
      obtain ⟨hk, h2⟩ := ifk_fail h1 hr
      obtain ⟨b, rfl, h3⟩ := natk_ok h2 hr
      obtain ⟨hb, h4⟩ := ifk_fail h3 hr
      have hb : b < 256 := by simpa [Nat.blt_eq] using hb
      obtain ⟨ns, h5, h6, h7⟩ := ih (k := fun n => k (Nat.add b (Nat.mul 256 n))) h4 hs
      have hkd : kd = .u8 := by cases kd <;> first | rfl | exact absurd hk (by decide)
      subst hkd
      refine ⟨b :: ns, ?_, by rw [hv.int_inv, h6]; rfl, by simpa using ⟨hb, h7⟩⟩
      simp only [List.map_cons, pack]
      have : (UInt8.ofNat b).toNat = b := by simp; omega
      rw [this]; exact h5
theorem push_list : ∀ (ns : List Nat) (s : ByteArray), ((ns.map (fun (n : Nat) => (n : Int))).foldl (fun r n => r.push (UInt8.ofNat n.toNat)) s).data.toList = s.data.toList ++ ns.map UInt8.ofNat
  | [], s => by simp
  | n :: ns, s => by
    simp only [List.map_cons, List.foldl_cons, Int.toNat_natCast]
    rw [push_list ns]
    simp [ByteArray.push]
noncomputable def sBytesS (x : V) (h : Heap) (k : V → Heap → Res) : Res :=
  slk x (fun b o l _ _ => loadk h b o l fun cs => packk cs fun n => k (.str l n) h) (k (.str 0 0) h) (k (.str 0 0) h)
theorem sBytesS_ok {x : V} {h : Heap} {k : V → Heap → Res} {r : Res} (hh : sBytesS x h k = r) (hr : r ≠ .fail) {ρ : Rho} {w : World} (rh : RH ρ h w) {v : Value} (hv : VR ρ x v)
    {s d e : TypeId} (hs : P.underlying s = some (.slice e)) (he : P.underlying e = some (.int .u8)) (hd : P.underlying d = some .string) : OkP P ρ h w (convert s d v) k r := by
  have hconv : ∀ (a : Option Addr) (l c : Nat), (convert s d (.slice a l c)).run P w = (Conv.bytesToString (.slice a l c)).run P w := by
    intro a l c
    simp only [convert, Sem.run_bind, run_und hs, run_und hd, Result.andThen_ok, run_und he]
  rcases slk_ok hh hr with ⟨b, o, l, cp, s', rfl, h1⟩ | ⟨rfl, h1⟩ | ⟨rfl, h1⟩
  · obtain ⟨c, z, S, cap, hb, _, _, _, rfl⟩ := hv.slice_inv
    obtain ⟨cs, xs, h2, h3, h4, h5, h6⟩ := loadk_ok (P := P) h1 hr rh hb
    obtain ⟨ns, h7, rfl, h8⟩ := packk_ok h2 hr h4
    have hnl : ns.length = l := by simpa using h5
    refine ⟨_, .string ((ns.map (fun (n : Nat) => (n : Int))).foldl (fun r n => r.push (UInt8.ofNat n.toNat)) ByteArray.empty), h7, ?_, .str ?_ ?_⟩
    · rw [hconv]
      refine run_bytesToString w _ l cap _ ?_
      have := h3 w.drawn
      rw [List.map_map]
      exact this
    · have := dig_pack (ns.map UInt8.ofNat)
      rw [List.length_map, hnl] at this
      rw [push_list, this]
      rfl
    · have := pack_lt (ns.map UInt8.ofNat)
      rwa [List.length_map, hnl] at this
  · rw [hv.nils_inv]
    exact ⟨_, .string .empty, h1, by rw [hconv]; rfl, .str rfl (by simp)⟩
  · cases hv with
    | emp a cap =>
      refine ⟨_, .string .empty, h1, ?_, .str rfl (by simp)⟩
      rw [hconv]
      simp only [Conv.bytesToString, Sem.run_bind, loadCells, loadCellsFrom, Sem.run_pure, Result.andThen_ok]
      rfl
/-- the mark behind the cells of bytes that were made a slice of bytes -/
noncomputable def sMark (x : V) (h : Heap) (k : V → Heap → Res) : Res :=
  slk x (fun b o l c s => h.getk b fun y => arrk y fun g m t ro => ifk ro .fail (ifk (Nat.beq g 1) (h.turnk b (.arr g m t false) fun h' => k (.slice b o l c s) h') .fail)) .fail .fail
theorem run_mark {c zo : Nat} {cs : Array Value} {el : TypeId} {fz : Nat × Nat} {w : World} (h : w.heap[c]? = some (.cells cs el fz)) : (markStringish ⟨c, zo, none⟩).run P w = .ok () (w.freeze ⟨c, cs.size, none⟩ 1) := by
  have e : w.shape? c = some (el, cs.size) := by simp [World.shape?, h]
  show (Sem.shape c _).run P w = _
  simp only [Sem.run, e]
  rfl
theorem sMark_ok {x : V} {h : Heap} {k : V → Heap → Res} {r : Res} (hh : sMark x h k = r) (hr : r ≠ .fail) {ρ : Rho} {w : World} (rh : RH ρ h w) {v : Value} (hv : VR ρ x v)
    {s e : TypeId} (hs : P.underlying s = some (.slice e)) (he : P.underlying e = some (.int .u8)) : Ok P ρ h w (convert s s v) k r := by
  rcases slk_ok hh hr with ⟨b, o, l, cp, s', rfl, h1⟩ | ⟨rfl, h1⟩ | ⟨rfl, h1⟩
  · have hv0 := hv
    obtain ⟨c, z, S, cap, hb, _, _, _, rfl⟩ := hv.slice_inv
    rw [Heap.getk_eq] at h1
    obtain ⟨g, m, t, ro, h2, h3⟩ := arrk_ok h1 hr
    obtain ⟨hro, h4⟩ : ro = false ∧ _ = r := by
      rcases ifk_ne h3 with ⟨_, h2⟩ | ⟨h2, h3⟩
      · exact absurd h2.symm hr
      · exact ⟨h2, h3⟩
    subst hro
    obtain ⟨hg1, h4⟩ := ifk_fail h4 hr
    obtain rfl := Nat.eq_of_beq_eq_true hg1
    rw [Heap.turnk_eq] at h4
    obtain ⟨cs, ha⟩ := rh.arr b c z S 1 m t false hb h2
    obtain ⟨el, fz, h6, h7⟩ := ha.at_
    have h7 := h7 rfl
    have hsz := ha.size
    have hcell : ∃ fz', (w.freeze ⟨c, cs.size, none⟩ 1).heap[c]? = some (.cells cs el fz') ∧ Thaw fz' S 1 := by
      obtain ⟨lo, hi⟩ := fz
      refine ⟨_, by simp only [World.freeze]; rw [if_neg (by decide), Array.getElem?_modify, if_pos rfl, h6]; rfl, ?_⟩
      split
      · exact .inr ⟨by simp; omega, rfl⟩
      · rename_i hne
        rcases h7 with h7 | h7
        · exact absurd (by simpa using h7) hne
        · have h71 := h7.1
          refine .inr ⟨?_, rfl⟩
          simp only at h71 ⊢; omega
    obtain ⟨fz', h8, h9⟩ := hcell
    have hne : ∀ k, k ≠ c → (w.freeze ⟨c, cs.size, none⟩ 1).heap[k]? = w.heap[k]? := fun k hk => by
      simp only [World.freeze]
      rw [if_neg (by decide), Array.getElem?_modify, if_neg (fun e => hk e.symm)]
    obtain ⟨h10, h11⟩ := turn (w' := w.freeze ⟨c, cs.size, none⟩ 1) rh hb (by rw [h2]; rfl) (x := .arr 1 m t false) (by rfl) (by rfl) (by rfl) (by simp [World.freeze]) h8 hne (fun g' n' t' ro' e => by
      cases e
      exact ⟨cs, ha.pos, ⟨el, fz', h8, fun _ => h9⟩, ha.size, ha.fits, ha.cells⟩) (fun es e => by cases e)
    refine ⟨_, _, ρ, _, _, h4, ?_, hv0, h10, h11⟩
    have h12 := run_mark (P := P) (zo := z + o) h6
    simp only [convert, Sem.run_bind, run_und hs, Result.andThen_ok, run_und he, beq_self_eq_true, h12, Sem.run_pure]
  · exact absurd h1.symm hr
  · exact absurd h1.symm hr
end Go.Ev
