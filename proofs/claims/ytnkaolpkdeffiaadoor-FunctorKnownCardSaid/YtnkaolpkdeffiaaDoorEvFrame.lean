/- EVALUATOR: a call whose answer is known, and that writes into nothing that was there: as an entry of the table. -/
import Derived.Test.YtnkaolpkdeffiaaDoorEvDoor
namespace Go.Ev
open Go.RowKit
variable {P : Program}

theorem RH.below {ρ : Rho} {h : Heap} {w w' : World} (r : RH ρ h w) (b : Below w.heap.size w w') : RH ρ h w' where
  lt b' c z S hb := Nat.lt_of_lt_of_le (r.lt b' c z S hb) b.size
  fresh := r.fresh
  inj := r.inj
  arr b' c z S g n t ro hb ht := by
    obtain ⟨cs, ha⟩ := r.arr b' c z S g n t ro hb ht
    obtain ⟨el, fz, h1, h2⟩ := ha.at_
    exact ⟨cs, ha.pos, ⟨el, fz, by rw [b.block c (r.lt _ _ _ _ hb)]; exact h1, h2⟩, ha.size, ha.fits, ha.cells⟩
  ob b' c z S x hb ht := by
    obtain ⟨o, h1, h2, h3⟩ := r.ob b' c z S x hb ht
    exact ⟨o, by rw [b.block c (r.lt _ _ _ _ hb)]; exact h1, h2, h3⟩
/-- the answer, the memory as it was -/
theorem came_of {ρ : Rho} {h : Heap} {w w' : World} (r : RH ρ h w) {v : V} {y : Value} (hv : VR ρ v y) {e : Ending} (he : e = .returned y ∧ Below w.heap.size w w') : Came ρ h w (.ret v h) e w' := by
  obtain ⟨rfl, b⟩ := he
  exact ⟨ρ, y, rfl, hv, r.below b, .refl _, Nat.le_refl _, b.os, b.tape, b.output, b.size, fun c hc hn => ⟨b.block c hc, hn⟩, fun _ _ hb => ⟨hb, rfl⟩⟩

/-- cells that are read: what the world holds there -/
theorem loadk_cells {h : Heap} {b : Bid} {o n : Nat} {k : List V → Res} {r : Res} (hh : loadk h b o n k = r) (hr : r ≠ .fail) {ρ : Rho} {w : World} (rh : RH ρ h w) {c z S : Nat} (hb : ρ b = some (c, z, S)) :
    h.t.get b ≠ .none ∧ ∃ l cs el fz, k l = r ∧ l.length = n ∧ w.heap[c]? = some (.cells cs el fz) ∧ cs.size = S ∧ ∀ i v, l[i]? = some v → ∃ x, cs[z + o + i]? = some x ∧ VR ρ v x ∧ x.oneCell' = true := by
  unfold loadk at hh
  rw [Heap.getk_eq] at hh
  obtain ⟨g, m, t, ro, h1, hh⟩ := arrk_ok hh hr
  obtain ⟨cs, ha⟩ := rh.arr b c z S g m t ro hb h1
  obtain ⟨l, hk, hl, hc⟩ := cellsk_ok ha.pos ha.wf hh hr
  obtain ⟨el, fz, h6, _⟩ := ha.at_
  refine ⟨(by rw [h1]; intro e; cases e), l, cs, el, fz, hk, hl, h6, ha.size, fun i v hi => ?_⟩
  obtain ⟨_, x, h3, h4, h5⟩ := ha.cell (hc i v hi)
  exact ⟨x, by rw [← h3]; congr 1; omega, h4, h5⟩

/-- bytes, as numbers -/
noncomputable def numsk (l : List V) : (List Nat → Res) → Res :=
  List.rec (motive := fun _ => (List Nat → Res) → Res) (fun k => k []) (fun v _ ih k => intk v fun kd m => ifk (Nat.beq (kno kd) 4) (natk m fun b => ifk (Nat.blt b 256) (ih fun ns => k (b :: ns)) .fail) .fail) l
theorem numsk_ok {l : List V} {k : List Nat → Res} {r : Res} (h : numsk l k = r) (hr : r ≠ .fail) : ∃ ns : List Nat, k ns = r ∧ l = ns.map bV ∧ ∀ n ∈ ns, n < 256 := by
  induction l generalizing k with
  | nil => exact ⟨[], h, rfl, by simp⟩
  | cons v l ih =>
    obtain ⟨kd, m, rfl, h1⟩ := intk_ok (show intk v _ = r from h) hr
    obtain ⟨hk, h2⟩ := ifk_fail h1 hr
    obtain ⟨b, rfl, h3⟩ := natk_ok h2 hr
    obtain ⟨hb, h4⟩ := ifk_fail h3 hr
    have hb : b < 256 := by simpa [Nat.blt_eq] using hb
    obtain ⟨ns, h5, rfl, h7⟩ := ih (k := fun ns => k (b :: ns)) h4
    have hkd : kd = .u8 := by cases kd <;> first | rfl | exact absurd hk (by decide)
    subst hkd
    exact ⟨b :: ns, h5, rfl, by simpa using ⟨hb, h7⟩⟩
/-- the numbers of a table -/
noncomputable def eqsk (zs : List Nat) : List V → Res → Res :=
  List.rec (motive := fun _ => List V → Res → Res) (fun cs r => nilk' cs r) (fun n _ ih cs r => unc cs fun v cs => intk v fun kd m => ifk (Nat.beq (kno kd) 6) (ifk (ieq m (.ofNat n)) (ih cs r) .fail) .fail) zs
theorem eqsk_ok {zs : List Nat} {cs : List V} {q r : Res} (h : eqsk zs cs q = r) (hr : r ≠ .fail) : q = r ∧ cs = zs.map fun n => V.int .u32 (.ofNat n) := by
  induction zs generalizing cs with
  | nil =>
    cases cs with
    | nil => exact ⟨h, rfl⟩
    | cons _ _ => exact absurd (show Res.fail = r from h).symm hr
  | cons n zs ih =>
    cases cs with
    | nil => exact absurd (show Res.fail = r from h).symm hr
    | cons v cs =>
      obtain ⟨kd, m, rfl, h1⟩ := intk_ok (show intk v _ = r from h) hr
      obtain ⟨hk, h2⟩ := ifk_fail h1 hr
      obtain ⟨hm, h3⟩ := ifk_fail h2 hr
      obtain ⟨h4, rfl⟩ := ih h3
      have hkd : kd = .u32 := by cases kd <;> first | rfl | exact absurd hk (by decide)
      subst hkd
      rw [ieq_eq] at hm
      have : m = .ofNat n := by simpa using hm
      subst this
      exact ⟨h4, rfl⟩

/-- a slice of bytes, read; its block is not block 0 -/
noncomputable def rdbk (v : V) (h : Heap) (k : List Nat → Res) : Res :=
  slk v (fun b o l c s => ifk (Nat.beq s 1) (ifk (Option.rec (motive := fun _ => Bool) true (fun n => Nat.beq n l) c) (ifk (Nat.blt 0 b.val) (loadk h b o l fun cs => numsk cs k) .fail) .fail) .fail) (k []) (k [])

theorem holds_of {w : World} {c z S : Nat} {cs : Array Value} {el : TypeId} {fz : Nat × Nat} {l : List V} (hh : w.heap[c]? = some (.cells cs el fz)) (hs : cs.size = S) (hl : 0 < l.length)
    (hx : ∀ i v, l[i]? = some v → ∃ x, cs[z + i]? = some x ∧ (∀ ρ, VR ρ v x) ∧ x.oneCell' = true) : Holds w c z S l := by
  refine ⟨cs, el, fz, hh, hs, ?_, hx⟩
  obtain ⟨x, h1, _⟩ := hx (l.length - 1) l[l.length - 1] (List.getElem?_eq_getElem (by omega))
  have := (Array.getElem?_eq_some_iff.1 h1).1
  omega
theorem int_all {ρ : Rho} {k : IntKind} {n : Int} {x : Value} (h : VR ρ (.int k n) x) : ∀ ρ', VR ρ' (.int k n) x := by
  cases h; exact fun _ => .int _ _
/-- the table and the argument's bytes, read out of the abstract memory: the world holds them -/
theorem table_read {w : World} {ρ : Rho} {h : Heap} (rh : RH ρ h w) {S0 : Nat} (hg : ρ gb0 = some (0, 0, S0)) {zs : List Nat} {q r : Res} (ht : loadk h gb0 0 zs.length (fun cs => eqsk zs cs q) = r) (hr : r ≠ .fail) (hz : 0 < zs.length) :
    q = r ∧ h.t.get gb0 ≠ .none ∧ Holds w 0 0 S0 (zs.map fun n => V.int .u32 (.ofNat n)) := by
  obtain ⟨h0, l, cs, el, fz, h1, h2, h3, h4, h5⟩ := loadk_cells ht hr rh hg
  obtain ⟨h6, rfl⟩ := eqsk_ok h1 hr
  refine ⟨h6, h0, holds_of h3 h4 (by simpa using hz) fun i v hi => ?_⟩
  obtain ⟨x, h7, h8, h9⟩ := h5 i v hi
  rw [List.getElem?_map] at hi
  obtain ⟨n, _, rfl⟩ := Option.map_eq_some_iff.1 hi
  exact ⟨x, by simpa using h7, int_all h8, h9⟩
theorem bytes_read {w : World} {ρ : Rho} {h : Heap} (rh : RH ρ h w) {S0 : Nat} (hg : ρ gb0 = some (0, 0, S0)) (h0 : h.t.get gb0 ≠ .none) {l0 : List V} (A : Holds w 0 0 S0 l0) {v : V} {x : Value} (hv : VR ρ v x) {k : List Nat → Res} {r : Res} (hh : rdbk v h k = r) (hr : r ≠ .fail) :
    ∃ bs ρ' h' v', k bs = r ∧ Door w l0 ρ' h' ∧ VR ρ' v' x ∧ IsS h' v' (bs.map bV) ∧ Low v' h'.nx.val ∧ ∀ b ∈ bs, b < 256 := by
  rcases slk_ok hh hr with ⟨b, o, l, cp, s, rfl, h1⟩ | ⟨rfl, h1⟩ | ⟨rfl, h1⟩
  · obtain ⟨hs, ha⟩ := ifk_fail h1 hr
    obtain ⟨hcp, hbb⟩ := ifk_fail ha hr
    obtain ⟨hb0, hd⟩ := ifk_fail hbb hr
    clear h1 ha hbb
    have hs : s = 1 := by simpa using hs
    subst hs
    obtain ⟨c, z, S, cap, hb, hc1, hc2, hle, rfl⟩ := hv.slice_inv
    obtain ⟨hb1, l', cs, el, fz, h2, h3, h4, h5, h6⟩ := loadk_cells hd hr rh hb
    obtain ⟨ns, h7, rfl, h8⟩ := numsk_ok h2 hr
    have hnl : ns.length = l := by simpa using h3
    by_cases hl : l = 0
    · subst hl
      obtain ⟨ρ', h', d⟩ := door1 A
      have : ns = [] := List.length_eq_zero_iff.1 hnl
      subst this
      exact ⟨[], ρ', h', .emp, h7, d, .emp _ _, .emp, (fun _ _ _ _ _ e => by cases e), by simp⟩
    · have B : Holds w c (z + o) S (ns.map bV) := holds_of h4 h5 (by simp; omega) fun i v hi => by
        obtain ⟨x, h9, h10, h11⟩ := h6 i v hi
        rw [List.getElem?_map] at hi
        obtain ⟨n, _, rfl⟩ := Option.map_eq_some_iff.1 hi
        exact ⟨x, h9, int_all h10, h11⟩
      have hne : c ≠ 0 := by
        rintro rfl
        have := rh.inj _ _ _ _ _ _ _ hb1 h0 hb hg
        subst this
        revert hb0; decide
      obtain ⟨ρ', h', d, hr', row⟩ := door2 A B hne
      refine ⟨ns, ρ', h', .slice gb1 0 l cp 1, h7, d, ?_, ?_, ?_, h8⟩
      · exact .slice (z := z + o) hr' hc1 (fun e => by have := hc2 e; omega) hle
      · have := IsS.sl gb1 0 cp true (ns.map bV) (ns.map bV) row (Nat.le_of_eq (Nat.zero_add _)) (by rw [List.drop_zero, List.take_length]) (fun n e => by
          subst e
          have hnl2 : n = l := by simpa using hcp
          simp; omega)
        have e : (ns.map bV).length = l := by simpa using hnl
        rw [e] at this
        exact this
      · intro b' o' l' c' s' e
        cases e
        rw [d.nx]; decide
  · obtain ⟨ρ', h', d⟩ := door1 A
    rw [hv.nils_inv]
    exact ⟨[], ρ', h', .nils, h1, d, .nils, .nils, (fun _ _ _ _ _ e => by cases e), by simp⟩
  · obtain ⟨ρ', h', d⟩ := door1 A
    cases hv with
    | emp a cap => exact ⟨[], ρ', h', .emp, h1, d, .emp a cap, .emp, (fun _ _ _ _ _ e => by cases e), by simp⟩
/-- the end of such a call -/
theorem Door.ends {w : World} {l0 : List V} {ρ : Rho} {h : Heap} (d : Door w l0 ρ h) {h' : Heap} {v : V} {y : Value} (hy : ∀ ρ' y', VR ρ' v y' → y' = y) {e : Ending} {w' : World} (hc : Came ρ h w (.ret v h') e w') :
    e = .returned y ∧ Below w.heap.size w w' := by
  obtain ⟨ρ', y', rfl, h1, _, hx⟩ := hc
  rw [hy _ _ h1]
  exact ⟨rfl, hx.os, hx.tape, hx.output, hx.size, fun k hk => (hx.keep k hk (d.ro k)).1⟩
end Go.Ev
