/- EvLaw: texts joined. -/
import Derived.Test.YtjppnjhchojldaaEvOps3
import Derived.Test.YtjppnjhchojldaaEvTop
/- EVALUATOR: what the words come to on a memory that is known: laws for proofs over all inputs. -/
namespace Go.Ev

/- TREES OF CHUNKS -/
inductive Shape : T → Nat → Prop where
  | e : Shape .e 0
  | lf (c : List V) : Shape (.lf c) 1
  | nd {a b : T} {n : Nat} (h : 2 ≤ n) (ha : Shape a ((n + 1) / 2)) (hb : Shape b (n / 2)) : Shape (.nd a b) n
theorem Shape.get {t : T} {n : Nat} (h : Shape t n) : ∀ {i : Nat}, i < n → ∃ c, t.get i = some c := by
  induction h with
  | e => intro i hi; omega
  | lf c => intro i hi; exact ⟨c, by simp [T.get]; omega⟩
  | nd h _ _ iha ihb =>
    intro i hi
    simp only [T.get]
    split
    · exact iha (by omega)
    · exact ihb (by omega)
theorem Shape.get_lt {t : T} {n : Nat} (h : Shape t n) : ∀ {i : Nat} {c : List V}, t.get i = some c → i < n := by
  induction h with
  | e => intro i c hi; simp [T.get] at hi
  | lf c => intro i c' hi; simp only [T.get] at hi; split at hi <;> first | omega | cases hi
  | nd h _ _ iha ihb =>
    intro i c hi
    simp only [T.get] at hi
    split at hi
    · have := iha hi; omega
    · have := ihb hi; omega
theorem Shape.set {t : T} {n : Nat} (h : Shape t n) (c : List V) : ∀ {i : Nat}, i ≤ n → ∃ t', t.set i c = some t' ∧ Shape t' (max n (i + 1)) := by
  induction h with
  | e =>
    intro i hi
    obtain rfl : i = 0 := by omega
    exact ⟨_, rfl, .lf c⟩
  | lf c0 =>
    intro i hi
    rcases (by omega : i = 0 ∨ i = 1) with rfl | rfl
    · exact ⟨_, rfl, .lf c⟩
    · exact ⟨_, rfl, .nd (by decide) (.lf c0) (.lf c)⟩
  | @nd a b n h ha hb iha ihb =>
    intro i hi
    simp only [T.set]
    by_cases h0 : i % 2 = 0
    · rw [if_pos h0]
      obtain ⟨a', h1, h2⟩ := iha (i := i / 2) (by omega)
      refine ⟨_, by rw [h1]; rfl, .nd (by omega) ?_ ?_⟩
      · have e : (max n (i + 1) + 1) / 2 = max ((n + 1) / 2) (i / 2 + 1) := by omega
        rw [e]; exact h2
      · have e : max n (i + 1) / 2 = n / 2 := by omega
        rw [e]; exact hb
    · rw [if_neg h0]
      obtain ⟨b', h1, h2⟩ := ihb (i := i / 2) (by omega)
      refine ⟨_, by rw [h1]; rfl, .nd (by omega) ?_ ?_⟩
      · have e : (max n (i + 1) + 1) / 2 = (n + 1) / 2 := by omega
        rw [e]; exact ha
      · have e : max n (i + 1) / 2 = max (n / 2) (i / 2 + 1) := by omega
        rw [e]; exact h2
theorem Shape.rep (c : List V) : ∀ {f n : Nat}, n ≤ f → Shape (T.rep c f n) n
  | 0, n, h => by obtain rfl : n = 0 := by omega
                  exact .e
  | f + 1, n, h => by
    simp only [T.rep]
    split
    · rename_i h0; subst h0; exact .e
    · split
      · rename_i h1; subst h1; exact .lf c
      · exact .nd (by omega) (Shape.rep c (by omega)) (Shape.rep c (by omega))

/-- n chunks of g cells -/
structure Wf (t : T) (g n : Nat) : Prop where
  pos : 0 < g
  shape : Shape t n
  len : ∀ j ch, t.get j = some ch → ch.length = g
theorem Wf.cell {t : T} {g n : Nat} (h : Wf t g n) {i : Nat} (hi : i < n * g) : ∃ v, t.cell g i = some v := by
  obtain ⟨c, h1⟩ := h.shape.get (i := i / g) (Nat.div_lt_of_lt_mul (by rw [Nat.mul_comm]; exact hi))
  have h2 := h.len _ _ h1
  have h3 := Nat.mod_lt i h.pos
  exact ⟨c[i % g], by simp [T.cell, h1, List.getElem?_eq_getElem (show i % g < c.length by omega)]⟩
theorem Wf.cell_lt {t : T} {g n : Nat} (h : Wf t g n) {i : Nat} {v : V} (hi : t.cell g i = some v) : i < n * g := by
  obtain ⟨c, h1, _⟩ := Option.bind_eq_some_iff.1 hi
  have h2 := h.shape.get_lt h1
  have h3 : (i / g + 1) * g ≤ n * g := Nat.mul_le_mul_right g h2
  have h4 := Nat.div_add_mod i g
  have h5 := Nat.mod_lt i h.pos
  rw [Nat.succ_mul, Nat.mul_comm (i / g) g] at h3
  omega
theorem div_range {g i q : Nat} (h1 : g * q ≤ i) (h2 : i < g * q + g) : i / g = q :=
  Nat.div_eq_of_lt_le (by rw [Nat.mul_comm]; exact h1) (by rw [Nat.succ_mul, Nat.mul_comm q g]; exact h2)
theorem takek_eq {n : Nat} {l : List V} (h : n ≤ l.length) (k : List V → List V → Res) : takek n l k = k (l.take n) (l.drop n) := by
  induction n generalizing l k with
  | zero => simp only [List.take_zero, List.drop_zero]; rfl
  | succ n ih =>
    cases l with
    | nil => simp at h
    | cons v l => exact (ih (by simpa using h) fun a b => k (v :: a) b).trans (by simp)
theorem nthk_eq {l : List V} {i : Nat} {v : V} (h : l[i]? = some v) (k : V → Res) : nthk l i k = k v := by
  induction l generalizing i with
  | nil => simp at h
  | cons u l ih =>
    cases i with
    | zero => simp at h; subst h; rfl
    | succ i => exact ih (by simpa using h)

/-- a block that is known -/
structure RowO (op : Bool) (x : Blk) (g : Nat) (cs : List V) : Prop where
  is : ∃ n t, x = .arr g n t op ∧ Wf t g n ∧ cs.length = n * g ∧ ∀ i, t.cell g i = cs[i]?
abbrev Row := RowO false

theorem gatherk_law {t : T} {g m : Nat} (w : Wf t g m) {cs : List V} (hc : ∀ i, t.cell g i = cs[i]?) (hl : cs.length = m * g) : ∀ {f o n : Nat} (k : List V → Res), 0 < n → n ≤ f → o + n ≤ cs.length →
    gatherk t g f o n k = k ((cs.drop o).take n)
  | 0, o, n, k, h1, h2, _ => by omega
  | f + 1, o, n, k, h1, h2, h3 => by
    show (t.getk (o / g) fun ch => takek (o % g) ch fun _ rest => ifk (Nat.ble n (g - o % g)) (takek n rest fun p _ => k p)
        (gatherk t g f (o + (g - o % g)) (n - (g - o % g)) fun q => appk rest q k)) = _
    have hpos := w.pos
    have hmod := Nat.mod_lt o hpos
    have hdm := Nat.div_add_mod o g
    obtain ⟨ch, h4⟩ := w.shape.get (i := o / g) (Nat.div_lt_of_lt_mul (by rw [Nat.mul_comm]; omega))
    have hlen := w.len _ _ h4
    have hch : ∀ i, o % g + i < g → ch[o % g + i]? = cs[o + i]? := by
      intro i hi
      have e1 : (o + i) / g = o / g := by
        rw [show o + i = g * (o / g) + (o % g + i) by omega, Nat.mul_add_div hpos, Nat.div_eq_of_lt hi]; omega
      have e2 : (o + i) % g = o % g + i := by
        rw [show o + i = g * (o / g) + (o % g + i) by omega, Nat.mul_add_mod, Nat.mod_eq_of_lt hi]
      rw [← hc, T.cell, e1, h4, e2]; rfl
    rw [T.getk_eq, h4]
    simp only
    rw [takek_eq (by omega), ifk_eq]
    split
    · rename_i hb
      have hb := Nat.le_of_ble_eq_true hb
      rw [takek_eq (by simp; omega)]
      congr 1
      apply List.ext_getElem?
      intro i
      by_cases hi : i < n
      · rw [List.getElem?_take_of_lt hi, List.getElem?_take_of_lt hi, List.getElem?_drop, List.getElem?_drop, hch i (by omega)]
      · rw [List.getElem?_eq_none (by simp; omega), List.getElem?_eq_none (by simp; omega)]
    · rename_i hb
      have hb : ¬ n ≤ g - o % g := fun h => hb (Nat.ble_eq_true_of_le h)
      rw [gatherk_law w hc hl _ (by omega) (by omega) (by omega), appk_eq]
      congr 1
      apply List.ext_getElem?
      intro i
      by_cases hi : i < g - o % g
      · rw [List.getElem?_append_left (by simp; omega), List.getElem?_drop, List.getElem?_take_of_lt (by omega), List.getElem?_drop, hch i (by omega)]
      · rw [List.getElem?_append_right (by simp; omega)]
        simp only [List.length_drop, hlen]
        by_cases hn : i < n
        · rw [List.getElem?_take_of_lt (by omega), List.getElem?_take_of_lt hn, List.getElem?_drop, List.getElem?_drop]
          congr 1; omega
        · rw [List.getElem?_eq_none (by simp; omega), List.getElem?_eq_none (by simp; omega)]
theorem cellsk_law {t : T} {g m : Nat} (w : Wf t g m) {cs : List V} (hc : ∀ i, t.cell g i = cs[i]?) (hl : cs.length = m * g) {o n : Nat} (k : List V → Res) (h : o + n ≤ cs.length) :
    cellsk t g o n k = k ((cs.drop o).take n) := by
  unfold cellsk
  rw [zk_eq]
  split
  · rename_i h0; subst h0; simp
  · rename_i h0
    have hg : gatherk t g n o n k = k ((cs.drop o).take n) := gatherk_law w hc hl k (by omega) (Nat.le_refl _) h
    rw [ifk_eq]
    split
    · rename_i hb
      obtain rfl := Nat.eq_of_beq_eq_true hb
      rw [zk_eq]
      split
      · rename_i hm
        have hm : o % n = 0 := hm
        have hdm := Nat.div_add_mod o n
        obtain ⟨ch, h4⟩ := w.shape.get (i := o / n) (Nat.div_lt_of_lt_mul (by rw [Nat.mul_comm]; omega))
        have hlen := w.len _ _ h4
        show T.getk t (o / n) k = _
        rw [T.getk_eq, h4]
        simp only
        congr 1
        apply List.ext_getElem?
        intro i
        by_cases hi : i < n
        · rw [List.getElem?_take_of_lt hi, List.getElem?_drop, ← hc, T.cell]
          have e1 : (o + i) / n = o / n := by
            rw [show o + i = n * (o / n) + i by omega, Nat.mul_add_div w.pos, Nat.div_eq_of_lt hi]; omega
          have e2 : (o + i) % n = i := by
            rw [show o + i = n * (o / n) + i by omega, Nat.mul_add_mod, Nat.mod_eq_of_lt hi]
          rw [e1, e2, h4]; rfl
        · rw [List.getElem?_eq_none (by omega), List.getElem?_eq_none (by simp; omega)]
      · exact hg
    · exact hg
theorem Wf.set {t : T} {g m : Nat} (w : Wf t g m) {j : Nat} {ch : List V} (hj : j < m) (hl : ch.length = g) : ∃ t', t.set j ch = some t' ∧ Wf t' g m := by
  obtain ⟨t', h1, h2⟩ := w.shape.set ch (i := j) (by omega)
  refine ⟨t', h1, w.pos, by rwa [show max m (j + 1) = m by omega] at h2, fun i c hc => ?_⟩
  rw [T.get_set h1] at hc
  split at hc
  · cases hc; exact hl
  · exact w.len _ _ hc
theorem scatk_law {g m : Nat} : ∀ {f : Nat} {t : T} (_ : Wf t g m) {o n : Nat} {vs : List V}, vs.length = n → 0 < n → n ≤ f → o + n ≤ m * g →
    ∃ t', (∀ k, scatk g f t o n vs k = k t') ∧ Wf t' g m ∧ ∀ i, t'.cell g i = if o ≤ i ∧ i < o + n then vs[i - o]? else t.cell g i
  | 0, t, w, o, n, vs, h0, h1, h2, _ => by omega
  | f + 1, t, w, o, n, vs, h0, h1, h2, h3 => by
    have hpos := w.pos
    have hmod := Nat.mod_lt o hpos
    have hdm := Nat.div_add_mod o g
    have hlt : o / g < m := Nat.div_lt_of_lt_mul (by rw [Nat.mul_comm]; omega)
    obtain ⟨ch, h4⟩ := w.shape.get hlt
    have hlen := w.len _ _ h4
    have hdiv : ∀ i, i / g = o / g ↔ g * (o / g) ≤ i ∧ i < g * (o / g) + g := by
      intro i
      have hi := Nat.div_add_mod i g
      have him := Nat.mod_lt i hpos
      constructor
      · intro e; rw [e] at hi; omega
      · intro ⟨ha, hb⟩
        exact div_range ha hb
    have hmd : ∀ i, i / g = o / g → i % g = i - g * (o / g) := by
      intro i e
      have hi := Nat.div_add_mod i g
      rw [e] at hi; omega
    have unf : ∀ k, scatk g (f + 1) t o n vs k = if Nat.ble n (g - o % g) then (takek n (ch.drop (o % g)) fun _ b => appk vs b fun c => appk (ch.take (o % g)) c fun ch' => t.setk (o / g) ch' k)
        else (takek (g - o % g) vs fun p q => appk (ch.take (o % g)) p fun ch' => t.setk (o / g) ch' fun t' => scatk g f t' (o + (g - o % g)) (n - (g - o % g)) q k) := by
      intro k
      show (t.getk (o / g) fun ch => takek (o % g) ch fun a rest => ifk (Nat.ble n (g - o % g)) (takek n rest fun _ b => appk vs b fun c => appk a c fun ch' => t.setk (o / g) ch' k)
        (takek (g - o % g) vs fun p q => appk a p fun ch' => t.setk (o / g) ch' fun t' => scatk g f t' (o + (g - o % g)) (n - (g - o % g)) q k)) = _
      rw [T.getk_eq, h4]
      simp only
      rw [takek_eq (by omega), ifk_eq]
    by_cases hb : n ≤ g - o % g
    · obtain ⟨t', h5, h6⟩ := w.set (j := o / g) (ch := ch.take (o % g) ++ (vs ++ (ch.drop (o % g)).drop n)) hlt (by simp; omega)
      refine ⟨t', fun k => ?_, h6, fun i => ?_⟩
      · rw [unf, if_pos (Nat.ble_eq_true_of_le hb), takek_eq (by simp; omega), appk_eq, appk_eq, T.setk_eq, h5]
      rw [cell_set h5]
      split
      · rename_i hi
        have hi2 := (hdiv i).1 hi
        rw [hmd i hi]
        by_cases h7 : o ≤ i ∧ i < o + n
        · rw [if_pos h7, List.getElem?_append_right (by simp; omega), List.getElem?_append_left (by simp; omega)]
          congr 1; simp; omega
        · rw [if_neg h7, T.cell, hi, h4, hmd i hi]
          simp only [Option.bind_some]
          by_cases h8 : i < o
          · rw [List.getElem?_append_left (by simp; omega), List.getElem?_take_of_lt (by omega)]
          · rw [List.getElem?_append_right (by simp; omega), List.getElem?_append_right (by simp; omega), List.drop_drop, List.getElem?_drop]
            congr 1; simp; omega
      · rename_i hi
        rw [if_neg]
        intro ⟨h7, h8⟩
        exact hi ((hdiv i).2 (by omega))
    · obtain ⟨t1, h5, h6⟩ := w.set (j := o / g) (ch := ch.take (o % g) ++ vs.take (g - o % g)) hlt (by simp; omega)
      obtain ⟨t', h7, h8, h9⟩ := scatk_law (f := f) h6 (o := o + (g - o % g)) (n := n - (g - o % g)) (vs := vs.drop (g - o % g)) (by simp; omega) (by omega) (by omega) (by omega)
      refine ⟨t', fun k => ?_, h8, fun i => ?_⟩
      · rw [unf, if_neg (fun h => hb (Nat.le_of_ble_eq_true h)), takek_eq (by omega), appk_eq, T.setk_eq, h5]
        exact h7 k
      rw [h9]
      by_cases hA : o + (g - o % g) ≤ i ∧ i < o + (g - o % g) + (n - (g - o % g))
      · rw [if_pos hA, if_pos (by omega), List.getElem?_drop]
        congr 1; omega
      · rw [if_neg hA, cell_set h5]
        split
        · rename_i hi
          have hi2 := (hdiv i).1 hi
          rw [hmd i hi]
          by_cases h10 : o ≤ i
          · rw [if_pos (by omega), List.getElem?_append_right (by simp; omega), List.getElem?_take_of_lt (by simp; omega)]
            congr 1; simp; omega
          · rw [if_neg (by omega), List.getElem?_append_left (by simp; omega), List.getElem?_take_of_lt (by omega), T.cell, hi, h4, hmd i hi]
            rfl
        · rename_i hi
          rw [if_neg]
          intro ⟨h10, h11⟩
          have := (hdiv i).2
          exact hi (this (by omega))
theorem putk_law {t : T} {g m : Nat} (w : Wf t g m) {o n : Nat} {vs : List V} (hv : vs.length = n) (h : o + n ≤ m * g) :
    ∃ t', (∀ k, putk t g m o n vs k = k t') ∧ Wf t' g m ∧ ∀ i, t'.cell g i = if o ≤ i ∧ i < o + n then vs[i - o]? else t.cell g i := by
  by_cases h0 : n = 0
  · subst h0
    exact ⟨t, fun k => rfl, w, fun i => by rw [if_neg (by omega)]⟩
  · have unf : ∀ k, putk t g m o n vs k = ifk (Nat.beq n g) (zk (o % g) (t.setk (o / g) vs k) (scatk g n t o n vs k)) (scatk g n t o n vs k) := by
      intro k
      show zk n (k t) (ifk (Nat.ble (o + n) (m * g)) _ .fail) = _
      rw [zk_eq, if_neg h0, Nat.ble_eq_true_of_le h]; rfl
    obtain ⟨ts, hs1, hs2, hs3⟩ := scatk_law (f := n) w (o := o) hv (by omega) (Nat.le_refl _) h
    by_cases hb : n = g
    · subst hb
      by_cases hm : o % n = 0
      · have hdm := Nat.div_add_mod o n
        have hlt : o / n < m := Nat.div_lt_of_lt_mul (by rw [Nat.mul_comm]; omega)
        obtain ⟨t', h5, h6⟩ := w.set (j := o / n) hlt hv
        refine ⟨t', fun k => ?_, h6, fun i => ?_⟩
        · rw [unf, Nat.beq_refl, hm]
          show T.setk t (o / n) vs k = _
          rw [T.setk_eq, h5]
        · rw [cell_set h5]
          have hi := Nat.div_add_mod i n
          have him := Nat.mod_lt i w.pos
          by_cases e : i / n = o / n
          · rw [if_pos e]
            rw [e] at hi
            rw [if_pos (by omega)]
            congr 1; omega
          · rw [if_neg e, if_neg]
            intro ⟨h7, h8⟩
            exact e (div_range (by omega) (by omega))
      · refine ⟨ts, fun k => ?_, hs2, hs3⟩
        rw [unf, Nat.beq_refl, ifk_eq, zk_eq, if_neg hm]
        exact hs1 k
    · refine ⟨ts, fun k => ?_, hs2, hs3⟩
      rw [unf, ifk_eq, if_neg (fun h => hb (Nat.eq_of_beq_eq_true h))]
      exact hs1 k
theorem chopk_law {g : Nat} (hg : 0 < g) : ∀ {m i : Nat} {l : List V} {t : T} (_ : Wf t g i), l.length = m * g →
    ∃ t', (∀ k, chopk g m i l t k = k t') ∧ Wf t' g (i + m) ∧ ∀ j, t'.cell g j = if i * g ≤ j then l[j - i * g]? else t.cell g j
  | 0, i, l, t, w, h => by
    have : l = [] := List.length_eq_zero_iff.1 (by omega)
    subst this
    refine ⟨t, fun k => rfl, w, fun j => ?_⟩
    split
    · rename_i hj
      cases hc : t.cell g j with
      | none => simp
      | some v => have := w.cell_lt hc; omega
    · rfl
  | m + 1, i, l, t, w, h => by
    have hl : g ≤ l.length := by rw [h, Nat.succ_mul]; omega
    obtain ⟨t1, h1, h2⟩ := w.shape.set (l.take g) (Nat.le_refl i)
    have w1 : Wf t1 g (i + 1) := ⟨hg, by rwa [show max i (i + 1) = i + 1 by omega] at h2, fun j c hc => by
      rw [T.get_set h1] at hc
      split at hc
      · cases hc; simp; omega
      · exact w.len _ _ hc⟩
    obtain ⟨t', h3, h4, h5⟩ := chopk_law hg w1 (l := l.drop g) (m := m) (by rw [List.length_drop, h, Nat.succ_mul]; omega)
    refine ⟨t', fun k => by
      show (takek g l fun c rest => t.setk i c fun t' => chopk g m (i + 1) rest t' k) = k t'
      rw [takek_eq hl, T.setk_eq, h1]
      exact h3 k, by rwa [show i + 1 + m = i + (m + 1) by omega] at h4, fun j => ?_⟩
    rw [h5, cell_set h1]
    have hi := Nat.div_add_mod j g
    have him := Nat.mod_lt j hg
    by_cases hA : (i + 1) * g ≤ j
    · rw [if_pos hA, if_pos (by rw [Nat.succ_mul] at hA; omega), List.getElem?_drop]
      congr 1
      rw [Nat.succ_mul] at hA ⊢
      omega
    · rw [if_neg hA]
      rw [Nat.succ_mul] at hA
      by_cases e : j / g = i
      · rw [if_pos e]
        rw [e, Nat.mul_comm] at hi
        rw [if_pos (by omega), List.getElem?_take_of_lt him]
        congr 1; omega
      · rw [if_neg e, if_neg]
        intro hB
        exact e (div_range (by rw [Nat.mul_comm]; exact hB) (by rw [Nat.mul_comm g i]; omega))
theorem wf_e {g : Nat} (hg : 0 < g) : Wf .e g 0 := ⟨hg, .e, fun j ch h => by simp [T.get] at h⟩
theorem rowk_law {g n : Nat} (hg : 0 < g) {l : List V} (hl : l.length = n * g) : ∃ t, (∀ k, rowk g n l k = k t) ∧ Row (.arr g n t false) g l := by
  by_cases hb : n = 1
  · subst hb
    have hl' : l.length = g := by omega
    refine ⟨.lf l, fun k => ?_, 1, _, rfl, ⟨hg, .lf l, fun j ch h => ?_⟩, hl, fun i => ?_⟩
    · show takek g l (fun _ rest => List.rec (motive := fun _ => Res) (k (.lf l)) (fun _ _ _ => .fail) rest) = _
      rw [takek_eq (by omega)]
      have : l.drop g = [] := List.drop_of_length_le (by omega)
      rw [this]
    · simp only [T.get] at h
      split at h <;> first | (cases h; exact hl') | cases h
    · simp only [T.cell, T.get]
      have hi := Nat.div_add_mod i g
      have him := Nat.mod_lt i hg
      split
      · rename_i h0
        rw [h0] at hi
        simp only [Option.bind_some]
        congr 1; omega
      · rename_i h0
        rw [List.getElem?_eq_none]
        · rfl
        · have := (Nat.le_div_iff_mul_le hg).1 (Nat.one_le_iff_ne_zero.2 h0)
          omega
  · obtain ⟨t', h1, h2, h3⟩ := chopk_law hg (wf_e hg) hl
    refine ⟨t', fun k => ?_, n, t', rfl, by simpa using h2, hl, fun i => ?_⟩
    · unfold rowk
      rw [ifk_eq, if_neg (fun h => hb (Nat.eq_of_beq_eq_true h))]
      exact h1 k
    · rw [h3]; simp
theorem Row.rep (c : List V) (hg : 0 < c.length) (n : Nat) : Row (.arr c.length n (repT c n n) false) c.length (List.replicate n c).flatten := by
  refine ⟨n, _, rfl, ⟨hg, by rw [repT_eq]; exact Shape.rep c (Nat.le_refl _), fun j ch h => ?_⟩, by simp, fun i => ?_⟩
  · rw [repT_eq, T.get_rep _ _ _ (Nat.le_refl _)] at h
    split at h <;> first | (cases h; rfl) | cases h
  · rw [flat_get rfl, T.cell, repT_eq, T.get_rep _ _ _ (Nat.le_refl _)]
    have hi := Nat.div_add_mod i c.length
    have him := Nat.mod_lt i hg
    by_cases h : i < n * c.length
    · rw [if_pos h, if_pos (Nat.div_lt_of_lt_mul (by rw [Nat.mul_comm]; exact h))]; rfl
    · rw [if_neg h, if_neg]
      · rfl
      · intro h2
        have : (i / c.length + 1) * c.length ≤ n * c.length := Nat.mul_le_mul_right _ h2
        rw [Nat.succ_mul, Nat.mul_comm (i / c.length)] at this
        omega

/- MEMORY -/
theorem load1k_law {op : Bool} {h : Heap} {b : Bid} {g o : Nat} {cs : List V} {v : V} (a : RowO op (h.t.get b) g cs) (hv : cs[o]? = some v) (k : V → Res) : load1k h b o k = k v := by
  obtain ⟨n, t, h1, h2, h3, h4⟩ := a.is
  unfold load1k
  rw [Heap.getk_eq, h1]
  show cellk t g o k = k v
  unfold cellk
  rw [T.getk_eq]
  have := h4 o
  rw [hv] at this
  obtain ⟨ch, h5, h6⟩ := Option.bind_eq_some_iff.1 this
  rw [show t.get (Nat.div o g) = some ch from h5]
  exact nthk_eq h6 k
theorem loadk_law {op : Bool} {h : Heap} {b : Bid} {g o n : Nat} {cs : List V} (a : RowO op (h.t.get b) g cs) (hl : o + n ≤ cs.length) (k : List V → Res) : loadk h b o n k = k ((cs.drop o).take n) := by
  obtain ⟨m, t, h1, h2, h3, h4⟩ := a.is
  unfold loadk
  rw [Heap.getk_eq, h1]
  exact cellsk_law h2 h4 h3 k hl
/-- cells from o on are others now -/
def splice (cs : List V) (o : Nat) (vs : List V) : List V := cs.take o ++ vs ++ cs.drop (o + vs.length)
theorem splice_length {cs vs : List V} {o : Nat} (h : o + vs.length ≤ cs.length) : (splice cs o vs).length = cs.length := by simp [splice]; omega
theorem splice_get {cs vs : List V} {o : Nat} (h : o + vs.length ≤ cs.length) (i : Nat) : (splice cs o vs)[i]? = if o ≤ i ∧ i < o + vs.length then vs[i - o]? else cs[i]? := by
  unfold splice
  by_cases h1 : i < o
  · rw [if_neg (by omega), List.append_assoc, List.getElem?_append_left (by simp; omega), List.getElem?_take_of_lt h1]
  · by_cases h2 : i < o + vs.length
    · rw [if_pos (by omega), List.getElem?_append_left (by simp; omega), List.getElem?_append_right (by simp; omega)]
      congr 1; simp; omega
    · rw [if_neg (by omega), List.getElem?_append_right (by simp; omega), List.getElem?_drop]
      congr 1; simp; omega
/-- but for block b all is as it was -/
structure But (h : Heap) (b : Bid) (h' : Heap) : Prop where
  nx : h'.nx = h.nx
  get : ∀ b', b' ≠ b → h'.t.get b' = h.t.get b'
theorem storek_law {h : Heap} {b : Bid} {g o n : Nat} {cs vs : List V} (a : Row (h.t.get b) g cs) (hv : vs.length = n) (hl : o + n ≤ cs.length) :
    ∃ h', (∀ k, storek h b o n vs k = k h') ∧ Row (h'.t.get b) g (splice cs o vs) ∧ But h b h' := by
  obtain ⟨m, t, h1, h2, h3, h4⟩ := a.is
  subst hv
  obtain ⟨t', h5, h6, h7⟩ := putk_law h2 (o := o) (vs := vs) rfl (by omega)
  refine ⟨h.turn b (.arr g m t' false), fun k => ?_, ⟨m, t', ?_, h6, by rw [splice_length hl]; exact h3, fun i => ?_⟩, rfl, fun b' hb' => ?_⟩
  · unfold storek
    rw [Heap.getk_eq, h1]
    show putk t g m o vs.length vs (fun t' => h.turnk b (.arr g m t' false) k) = _
    rw [h5, Heap.turnk_eq]
  · simp only [Heap.turn]; exact HT.get_set _ _ _
  · rw [h7, splice_get hl, h4]
  · simp only [Heap.turn]; exact HT.get_set_ne _ hb' _
/-- a new block, and all else as it was -/
structure New (h : Heap) (h' : Heap) : Prop where
  nx : h'.nx = h.nx.nxt
  get : ∀ b', b' ≠ h.nx → h'.t.get b' = h.t.get b'
theorem newk_law (h : Heap) (x : Blk) : ∃ h', (∀ k, h.newk x k = k h.nx h') ∧ h'.t.get h.nx = x ∧ New h h' :=
  ⟨_, fun k => Heap.newk_eq h x k, HT.get_set _ _ _, rfl, fun _ hb => HT.get_set_ne _ hb _⟩
end Go.Ev

/- EVALUATOR: the words on values that are known: rules for simp. -/
namespace Go.Ev

/- values -/
@[simp] theorem intk_int (k : IntKind) (n : Int) (f : IntKind → Int → Res) : intk (.int k n) f = f k n := rfl
@[simp] theorem boolk_bool (b : Bool) (f : Bool → Res) : boolk (.bool b) f = f b := rfl
@[simp] theorem strk_str (l n : Nat) (f : Nat → Nat → Res) : strk (.str l n) f = f l n := rfl
@[simp] theorem ptrk_ptr (b : Bid) (o : Nat) (f : Bid → Nat → Res) : ptrk (.ptr b o) f = f b o := rfl
@[simp] theorem slk_slice (b : Bid) (o l : Nat) (c : Option Nat) (s : Nat) (f : Bid → Nat → Nat → Option Nat → Nat → Res) (z m : Res) : slk (.slice b o l c s) f z m = f b o l c s := rfl
@[simp] theorem slk_nils (f : Bid → Nat → Nat → Option Nat → Nat → Res) (z m : Res) : slk .nils f z m = z := rfl
@[simp] theorem slk_emp (f : Bid → Nat → Nat → Option Nat → Nat → Res) (z m : Res) : slk .emp f z m = m := rfl
@[simp] theorem aggk_agg (n : Nat) (l : List V) (f : Nat → List V → Res) : aggk (.agg n l) f = f n l := rfl
@[simp] theorem tupk_tup (l : List V) (f : List V → Res) : tupk (.tup l) f = f l := rfl
@[simp] theorem fnk_func (n : Nat) (l : List V) (f : Nat → List V → Res) : fnk (.func n l) f = f n l := rfl
@[simp] theorem lenk_slice (b : Bid) (o l : Nat) (c : Option Nat) (s : Nat) (f : Nat → Res) : lenk (.slice b o l c s) f = f l := rfl
@[simp] theorem lenk_nils (f : Nat → Res) : lenk .nils f = f 0 := rfl
@[simp] theorem lenk_emp (f : Nat → Res) : lenk .emp f = f 0 := rfl
@[simp] theorem castB_bool (b : Bool) (f : Bool → Res) : castB (.bool b) f = f b := rfl
@[simp] theorem castI_int (k : IntKind) (n : Int) (f : Int → Res) : castI k (.int k n) f = f n := by
  show ksel k k (f n) = f n
  rw [ksel_self]
@[simp] theorem castF_int (k : IntKind) (n : Int) (f : Int → Res) : castF k (.int k n) f = f n := by
  show ksel k k (forceI n f) = f n
  rw [ksel_self, forceI_eq]
@[simp] theorem castS_str (l n : Nat) (f : Nat → Nat → Res) : castS (.str l n) f = f l n := rfl
@[simp] theorem unc_cons (v : V) (l : List V) (f : V → List V → Res) : unc (v :: l) f = f v l := rfl
@[simp] theorem nilk'_nil (r : Res) : nilk' [] r = r := rfl
@[simp] theorem natk_ofNat (n : Nat) (f : Nat → Res) : natk (.ofNat n) f = f n := rfl
@[simp] theorem natk_cast (n : Nat) (f : Nat → Res) : natk (n : Int) f = f n := rfl
@[simp] theorem forceI_law (n : Int) (f : Int → Res) : forceI n f = f n := forceI_eq n f
@[simp] theorem ifk_true (x y : Res) : ifk true x y = x := rfl
@[simp] theorem ifk_false (x y : Res) : ifk false x y = y := rfl
@[simp] theorem backk_ret (v : V) (h : Heap) (k kp : V → Heap → Res) : backk (.ret v h) k kp = k v h := rfl
@[simp] theorem backk_pan (v : V) (h : Heap) (k kp : V → Heap → Res) : backk (.pan v h) k kp = kp v h := rfl
@[simp] theorem contk_done (x : Ex) (vs : List V) (h : Heap) (k : Ex → List V → Heap → Res) : contk (.done x vs h) k = k x vs h := rfl
@[simp] theorem nork_normal (a b : Res) : nork .normal a b = a := rfl
@[simp] theorem nork_ret (a b : Res) : nork .ret a b = b := rfl
@[simp] theorem nork_exit (i : Nat) (a b : Res) : nork (.exit i) a b = b := rfl
@[simp] theorem endk_normal (a : Res) (p : V → Res) : endk .normal a p = a := rfl
@[simp] theorem endk_ret (a : Res) (p : V → Res) : endk .ret a p = a := rfl
@[simp] theorem grdk_bool (b : Bool) (k : Bool → Res) (z : Res) : grdk (.bool b) k z = k b := rfl
@[simp] theorem grdk_skip (k : Bool → Res) (z : Res) : grdk .skip k z = z := rfl
@[simp] theorem pickv_true (a b : V) : pickv true a b = a := rfl
@[simp] theorem pickv_false (a b : V) : pickv false a b = b := rfl
@[simp] theorem wantb_true (t : Bool) : wantb true t = t := rfl
@[simp] theorem wantb_false (t : Bool) : wantb false t = !t := rfl
@[simp] theorem optk_some (n : Nat) (k : Nat → Res) (z : Res) : optk (some n) k z = k n := rfl
@[simp] theorem optk_none (k : Nat → Res) (z : Res) : optk none k z = z := rfl
@[simp] theorem zk_zero (x y : Res) : zk 0 x y = x := rfl
@[simp] theorem bndk_none (z : Nat) (k : Nat → Res) : bndk none z k = k z := rfl
@[simp] theorem bndk_int (kd : IntKind) (n z : Nat) (k : Nat → Res) : bndk (some (.int kd (.ofNat n))) z k = k n := rfl
@[simp] theorem bndk_cast (kd : IntKind) (n z : Nat) (k : Nat → Res) : bndk (some (.int kd (n : Int))) z k = k n := rfl
@[simp] theorem appk_law (l m : List V) (k : List V → Res) : appk l m k = k (l ++ m) := appk_eq l m k
theorem lpk_succ (body : (List V → Heap → Res) → List V → Heap → Res) (n : Nat) (vs : List V) (h : Heap) : lpk body (n + 1) vs h = body (lpk body n) vs h := rfl
theorem lpk_inv {body : (List V → Heap → Res) → List V → Heap → Res} {I : List V → Heap → Nat → Prop} {Q : Res → Prop}
    (step : ∀ again vs h m, I vs h m → (∀ vs' h' m', m' < m → I vs' h' m' → Q (again vs' h')) → Q (body again vs h)) : ∀ (n : Nat) (vs : List V) (h : Heap) (m : Nat), m < n → I vs h m → Q (lpk body n vs h)
  | 0, _, _, _, hm, _ => by omega
  | n + 1, vs, h, m, hm, hi => by
    rw [lpk_succ]
    exact step _ vs h m hi fun vs' h' m' h1 h2 => lpk_inv step n vs' h' m' (by omega) h2
theorem veqk_refl (v : V) (hv : ∀ r, veqk v v r = r) (r : Res) : veqk v v r = r := hv r

/- numbers -/
theorem ilt_nat (a b : Nat) : ilt (.ofNat a) (.ofNat b) = decide (a < b) := by rw [ilt_eq]; simp
theorem ieq_nat (a b : Nat) : ieq (.ofNat a) (.ofNat b) = decide (a = b) := by rw [ieq_eq, Bool.eq_iff_iff]; simp; omega
theorem wrapv_small (k : IntKind) (m : Nat) (h : m ≤ kmax k) : wrapv k (.ofNat m) = .ofNat m := by
  rw [wrapv_eq]; exact wrap_small k _ (by simp only [Int.ofNat_eq_natCast]; omega) (by simp only [Int.ofNat_eq_natCast]; omega)
theorem bitv_small {f : Nat → Nat → Nat} {g : (n : Nat) → BitVec n → BitVec n → BitVec n} (k : IntKind) (a b : Nat) (ha : a ≤ kmax k) (hb : b ≤ kmax k) : bitv f g k (.ofNat a) (.ofNat b) = .ofNat (f a b) := by
  show Bool.rec (motive := fun _ => Int) _ (Bool.rec (motive := fun _ => Int) _ (.ofNat (f a b)) (Nat.ble b (kmax k))) (Nat.ble a (kmax k)) = _
  rw [Nat.ble_eq_true_of_le ha, Nat.ble_eq_true_of_le hb]
theorem band_small (k : IntKind) (a b : Nat) (ha : a ≤ kmax k) (hb : b ≤ kmax k) : band k (.ofNat a) (.ofNat b) = .ofNat (a &&& b) := bitv_small k a b ha hb
theorem bor_small (k : IntKind) (a b : Nat) (ha : a ≤ kmax k) (hb : b ≤ kmax k) : bor k (.ofNat a) (.ofNat b) = .ofNat (a ||| b) := bitv_small k a b ha hb
theorem bxor_small (k : IntKind) (a b : Nat) (ha : a ≤ kmax k) (hb : b ≤ kmax k) : bxor k (.ofNat a) (.ofNat b) = .ofNat (a ^^^ b) := bitv_small k a b ha hb
theorem shrv_nat (a d : Nat) : shrv (.ofNat a) d = .ofNat (a / d) := rfl
theorem comv_u32 (a : Nat) (ha : a ≤ 4294967295) : comv .u32 (.ofNat a) = .ofNat (4294967295 - a) := by
  show Bool.rec (motive := fun _ => Int) _ (Int.ofNat (4294967295 - a)) (Nat.ble a 4294967295) = _
  rw [Nat.ble_eq_true_of_le ha]
theorem add_nat (a b : Nat) : Int.add (.ofNat a) (.ofNat b) = .ofNat (a + b) := rfl
theorem mul_nat (a b : Nat) : Int.mul (.ofNat a) (.ofNat b) = .ofNat (a * b) := rfl
end Go.Ev
