/- EVALUATOR, 13: append, copy, make, slice expressions, bytes and strings. -/
import Derived.Test.YtjppnjhchojldaaEvApp
namespace Go.Ev
variable {P : Program}

theorem optk_cases {c : Option Nat} {k : Nat → Res} {z r : Res} (h : optk c k z = r) : (∃ n, c = some n ∧ k n = r) ∨ (c = none ∧ z = r) := by
  cases c with
  | none => exact .inr ⟨rfl, h⟩
  | some n => exact .inl ⟨n, rfl, h⟩

/-- loading what a slice holds, whatever the count of draws -/
theorem load_old {h : Heap} {b : Bid} {o l sz0 : Nat} {k : List V → Res} {r : Res} (hh : loadk h b o (Nat.mul l sz0) k = r) (hr : r ≠ .fail) {ρ : Rho} {w : World} (rh : RH ρ h w) {c z S cap : Nat}
    (hb : ρ b = some (c, z, S)) : ∃ old : List V, ∃ xs : List Value, k old = r ∧ VRs ρ old xs ∧ old.length = l * sz0 ∧ (∀ x ∈ xs, x.oneCell' = true) ∧
      ∀ d, (Builtin.firstCells sz0 l (.slice (some ⟨c, z + o, none⟩) l cap)).run P { w with drawn := d } = .ok xs.toArray { w with drawn := d } := by
  obtain ⟨m, xs, h2, h3, h4, h5, h6⟩ := loadk_ok (P := P) hh hr rh hb
  exact ⟨m, xs, h2, h4, by rw [h4.length]; exact h5, h6, h3⟩

theorem appendk_ok {sz0 m : Nat} {x : V} {new : List V} {h : Heap} {k : V → Heap → Res} {r : Res} (hh : appendk sz0 x m new h k = r) (hr : r ≠ .fail) {ρ : Rho} {w : World} (rh : RH ρ h w) {v y : Value}
    (hv : VR ρ x v) {xs : List Value} {ts : Array TypeId} {ty e u : TypeId} (hs : SrcH P ρ w ts e sz0 y m new xs) (at_ : AppT P ts ty e sz0) : Ok P ρ h w (Builtin.append_ ts u #[v, y]) k r := by
  have hpos := at_.pos
  rcases slk_ok hh hr with ⟨b, o, l, cp, s, rfl, h1⟩ | ⟨rfl, h1⟩ | ⟨rfl, h1⟩
  · obtain ⟨hs1, h2⟩ := ifk_fail h1 hr
    obtain rfl := Nat.eq_of_beq_eq_true hs1
    obtain ⟨hsm, h3⟩ := ifk_fail h2 hr
    have hsm : l + m ≤ 16777216 := Nat.le_of_ble_eq_true hsm
    obtain ⟨c, z, S, cap, hb, hc1, hc2, hlc, rfl⟩ := hv.slice_inv
    -- in place
    have inplace : ∀ {cp' : Option Nat}, (∀ n, cp' = some n → cap = n) → (cp' = none → z + o + cap * s = S) → l + m ≤ cap →
        (storek h b (Nat.add o (Nat.mul l s)) (Nat.mul m s) new fun h' => k (.slice b o (Nat.add l m) cp' s) h') = r → Ok P ρ h w (Builtin.append_ ts u #[.slice (some ⟨c, z + o, none⟩) l cap, y]) k r := by
      intro cp' hp1 hp2 hle hst
      obtain ⟨h', h5, h6⟩ := storek_ok (P := P) hs.size hst hr rh hb
      obtain ⟨w', h7, h8, h9⟩ := h6 xs hs.vr hs.one
      refine ⟨_, h', ρ, _, w', h5, run_append_in at_ hs.how hle (w' := w') (fun a ha => ?_) (fun e => by cases e), ?_, h8, h9⟩
      · cases ha
        rw [add_addr]
        have e1 : z + Nat.add o (Nat.mul l s) = z + o + l * s := by show z + (o + l * s) = _; omega
        rw [e1] at h7
        exact h7
      · exact .slice hb hp1 hp2 hle
    -- a fresh slice with the old cells ahead
    have grown : cap < l + m → (loadk h b o (Nat.mul l s) fun old => appk old new fun all => freshk s (Nat.add l m) all h k) = r →
        Ok P ρ h w (Builtin.append_ ts u #[.slice (some ⟨c, z + o, none⟩) l cap, y]) k r := by
      intro hgt hld
      obtain ⟨old, ys, h5, h6, h7, h8, h9⟩ := load_old (P := P) (cap := cap) hld hr rh hb
      rw [appk_eq] at h5
      obtain ⟨z1, hz, hzs, hz1⟩ := at_.zero
      obtain ⟨cap', hcap', hrun⟩ := run_append_grow (u := u) at_ hs.how (h9 _) hgt hsm hz
      have hyl := h6.length
      have hxl := hs.vr.length
      have hnl := hs.size
      let cs2 : Array Value := ys.toArray ++ xs.toArray ++ Builtin.zeroCells z1.cells (cap' - (l + m))
      have hcs2 : cs2.size = cap' * s := by
        show (ys.toArray ++ xs.toArray ++ Builtin.zeroCells z1.cells (cap' - (l + m))).size = _
        rw [Array.size_append, Array.size_append, zeroCells_size, hzs]
        simp only [List.size_toArray]
        have : cap' * s = (l + m) * s + (cap' - (l + m)) * s := by rw [← Nat.add_mul]; congr 1; omega
        rw [this, Nat.add_mul]; omega
      have htl : cs2.toList = (ys ++ xs) ++ (Builtin.zeroCells z1.cells (cap' - (l + m))).toList := by
        show (ys.toArray ++ xs.toArray ++ Builtin.zeroCells z1.cells (cap' - (l + m))).toList = _
        simp [Array.toList_append]
      have hone : ∀ a ∈ cs2.toList, a.oneCell' = true := by
        intro a ha
        rw [htl] at ha
        rcases List.mem_append.1 ha with ha | ha
        · rcases List.mem_append.1 ha with ha | ha
          · exact h8 a ha
          · exact hs.one a ha
        · exact zeroCells_one hz1 _ a ha
      have hvr : VRs ρ (old ++ new) (cs2.toList.take (old ++ new).length) := by
        rw [htl, List.take_append_of_le_length (by simp only [List.length_append]; omega), List.take_of_length_le (by simp only [List.length_append]; omega)]
        exact h6.append hs.vr
      obtain ⟨uu, h', ρ', g1, g2, g3, g4⟩ := freshk_ok h5 hr (rh.drew (w.drawn + 1)) hpos hvr hone hcs2 hcap' e
      exact ⟨uu, h', ρ', _, _, g1, hrun, g2, g3, (Ext.drew ρ h w (w.drawn + 1)).trans g4⟩
    rcases optk_cases h3 with ⟨n, rfl, h4⟩ | ⟨rfl, h4⟩
    · have hcn := hc1 n rfl
      subst hcn
      rcases ifk_ne h4 with ⟨hb1, h5⟩ | ⟨hb1, h5⟩
      · exact inplace hc1 hc2 (Nat.le_of_ble_eq_true hb1) h5
      · refine grown ?_ h5
        have : ¬ l + m ≤ cap := fun hle => by have := Nat.ble_eq_true_of_le hle; exact absurd (this.symm.trans hb1) (by simp)
        omega
    · rw [Heap.getk_eq] at h4
      obtain ⟨g, n, t, ro, hblk, h5⟩ := arrk_ok h4 hr
      obtain ⟨cs, ha⟩ := rh.arr b c z S g n t ro hb hblk
      have hcap := hc2 rfl
      have hfits := ha.fits
      rcases ifk_ne h5 with ⟨hb1, h6⟩ | ⟨hb1, h6⟩
      · have hle : o + (l + m) * s ≤ n * g := Nat.le_of_ble_eq_true hb1
        have : (l + m) * s ≤ cap * s := by omega
        exact inplace hc1 hc2 (Nat.le_of_mul_le_mul_right this hpos) h6
      · obtain ⟨hro, h7⟩ : ro = false ∧ _ = r := by
          rcases ifk_ne h6 with ⟨_, h7⟩ | ⟨h7, h8⟩
          · exact absurd h7.symm hr
          · exact ⟨h7, h8⟩
        subst hro
        -- the general way: everything written anew
        have gen : (loadk h b o (Nat.mul l s) fun old => appk old new fun all => rowk s (Nat.add l m) all fun t' => movek b s (Nat.add l m) t' h k) = r → (g = 1 → s = 1) →
            Ok P ρ h w (Builtin.append_ ts u #[.slice (some ⟨c, z + o, none⟩) l cap, y]) k r := by
          intro hld hgs
          unfold loadk at hld
          rw [Heap.getk_eq, hblk] at hld
          change cellsk t g o (Nat.mul l s) (fun old => appk old new fun all => rowk s (Nat.add l m) all fun t' => movek b s (Nat.add l m) t' h k) = r at hld
          obtain ⟨old, q1, q2, q3⟩ := cellsk_ok ha.pos ha.wf hld hr
          rw [appk_eq] at q1
          obtain ⟨t', q4, q5, q6⟩ := rowk_ok q1 hr
          have q2 : old.length = l * s := q2
          refine movek_ok q4 hr rh hb hblk ha hgs hs.vr hs.size hs.one hpos (o := o) (fun j ch hj => ?_) hcap at_ hs hlc hsm
          obtain ⟨g1, rfl⟩ := q6 j ch hj
          have hjm : (j + 1) * s ≤ (l + m) * s := Nat.mul_le_mul_right s g1
          rw [Nat.succ_mul, Nat.add_mul] at hjm
          have hnl := hs.size
          refine ⟨g1, by simp only [List.length_take, List.length_drop, List.length_append]; omega, fun i v' hi => ?_⟩
          have hig : i < s := by have := (List.getElem?_eq_some_iff.1 hi).1; simp only [List.length_take] at this; omega
          rw [List.getElem?_take_of_lt hig, List.getElem?_drop] at hi
          constructor
          · intro hlt
            rw [List.getElem?_append_left (by omega)] at hi
            exact q3 _ _ hi
          · intro hge
            rw [List.getElem?_append_right (by omega), q2] at hi
            exact hi
        rcases ifk_ne h7 with ⟨hg1, h8⟩ | ⟨_, h8⟩
        · obtain rfl := Nat.eq_of_beq_eq_true hg1
          rcases ifk_ne h8 with ⟨hn1, h9⟩ | ⟨_, h9⟩
          · obtain rfl := Nat.eq_of_beq_eq_true hn1
            obtain ⟨rfl, h10⟩ := zk_fail h9 hr
            obtain ⟨t', q1, q2, q3⟩ := chopk_ok h10 hr
            refine movek_ok q1 hr rh hb hblk ha id hs.vr hs.size hs.one hpos (o := 0) (fun j ch hj => ?_) hcap at_ hs hlc hsm
            rw [q3] at hj
            have hnl := hs.size
            split at hj
            · rename_i hjr
              cases hj
              have hjm : (j - n + 1) * g ≤ m * g := Nat.mul_le_mul_right g (by omega)
              rw [Nat.succ_mul] at hjm
              have hjg : n * g ≤ j * g := Nat.mul_le_mul_right g hjr.1
              have hjd : (j - n) * g = j * g - n * g := Nat.sub_mul _ _ _
              refine ⟨hjr.2, by simp only [List.length_take, List.length_drop]; omega, fun i v' hi => ?_⟩
              have hig : i < g := by have := (List.getElem?_eq_some_iff.1 hi).1; simp only [List.length_take] at this; omega
              rw [List.getElem?_take_of_lt hig, List.getElem?_drop] at hi
              refine ⟨fun hlt => by omega, fun _ => ?_⟩
              rw [← hi]; congr 1; omega
            · obtain ⟨w1, w2, _⟩ := ha.cells j ch hj
              refine ⟨by omega, w2, fun i v' hi => ?_⟩
              have hig : i < g := by have := (List.getElem?_eq_some_iff.1 hi).1; omega
              have hjm : (j + 1) * g ≤ n * g := Nat.mul_le_mul_right g w1
              rw [Nat.succ_mul] at hjm
              refine ⟨fun _ => ?_, fun hge => by omega⟩
              have e1 : (0 + (j * g + i)) / g = j := by rw [Nat.zero_add, Nat.mul_comm, Nat.mul_add_div hpos, Nat.div_eq_of_lt hig]; omega
              have e2 : (0 + (j * g + i)) % g = i := by rw [Nat.zero_add, Nat.mul_comm, Nat.mul_add_mod]; exact Nat.mod_eq_of_lt hig
              simp only [T.cell, e1, hj, Option.bind_some, e2, hi]
          · exact gen h9 id
        · rcases ifk_ne h8 with ⟨_, h9⟩ | ⟨hne, h9⟩
          · exact absurd h9.symm hr
          · exact gen h9 fun e => by subst e; cases hne
  · rw [hv.nils_inv]
    rw [zk_eq] at h1
    split at h1
    · subst m
      exact .pure rh ⟨_, .slice none 0 0, h1, run_append_in at_ hs.how (by omega) (w' := w) (fun a e => by cases e) (fun _ => rfl), .nils⟩
    · rename_i hm
      obtain ⟨hsm, h2⟩ := ifk_fail h1 hr
      have hsm : m ≤ 16777216 := Nat.le_of_ble_eq_true hsm
      obtain ⟨z1, hz, hzs, hz1⟩ := at_.zero
      obtain ⟨cap', hcap', hrun⟩ := run_append_grow (u := u) (l := 0) (cap := 0) (base := none) (old := #[]) at_ hs.how rfl (by omega) (by omega) hz
      rw [Nat.zero_add] at hrun
      have hxl := hs.vr.length
      have hnl := hs.size
      let cs2 : Array Value := #[] ++ xs.toArray ++ Builtin.zeroCells z1.cells (cap' - m)
      have hcs2 : cs2.size = cap' * sz0 := by
        show (#[] ++ xs.toArray ++ Builtin.zeroCells z1.cells (cap' - m)).size = _
        rw [Array.size_append, Array.size_append, zeroCells_size, hzs]
        simp only [List.size_toArray]
        have : cap' * sz0 = m * sz0 + (cap' - m) * sz0 := by rw [← Nat.add_mul]; congr 1; omega
        rw [this]; simp; omega
      have htl : cs2.toList = xs ++ (Builtin.zeroCells z1.cells (cap' - m)).toList := by
        show (#[] ++ xs.toArray ++ Builtin.zeroCells z1.cells (cap' - m)).toList = _
        simp [Array.toList_append]
      have hone : ∀ a ∈ cs2.toList, a.oneCell' = true := by
        intro a ha
        rw [htl] at ha
        rcases List.mem_append.1 ha with ha | ha
        · exact hs.one a ha
        · exact zeroCells_one hz1 _ a ha
      have hvr : VRs ρ new (cs2.toList.take new.length) := by
        rw [htl, List.take_append_of_le_length (by omega), List.take_of_length_le (by omega)]
        exact hs.vr
      obtain ⟨uu, h', ρ', g1, g2, g3, g4⟩ := freshk_ok h2 hr (rh.drew (w.drawn + 1)) hpos hvr hone hcs2 (by omega) e
      refine ⟨uu, h', ρ', _, _, g1, hrun, g2, ?_, (Ext.drew ρ h w (w.drawn + 1)).trans ?_⟩
      · exact g3
      · exact g4
  · cases hv with
    | emp a cap =>
      obtain ⟨rfl, h2⟩ := zk_fail h1 hr
      have hxl := hs.vr.length
      have hnl := hs.size
      have : xs = [] := List.length_eq_zero_iff.1 (by omega)
      subst this
      exact .pure rh ⟨_, .slice (some a) 0 cap, h2, run_append_in at_ hs.how (by omega) (w' := w) (fun _ _ => rfl) (fun e => by cases e), .emp a cap⟩
end Go.Ev
