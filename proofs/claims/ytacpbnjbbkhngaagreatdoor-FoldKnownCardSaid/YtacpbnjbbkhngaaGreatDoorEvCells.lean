/- EVALUATOR, 3: how the kernel reads and writes an abstract heap, and what each reading and writing says of the world. -/
import Derived.Test.YtacpbnjbbkhngaaGreatDoorEvHeap
namespace Go.Ev

/-- by a Bool -/
noncomputable def ifk (b : Bool) (x y : Res) : Res := Bool.rec (motive := fun _ => Res) y x b
theorem ifk_eq (b : Bool) (x y : Res) : ifk b x y = if b then x else y := by cases b <;> rfl
/-- by a number: nought, or not -/
noncomputable def zk (n : Nat) (x y : Res) : Res := Nat.rec (motive := fun _ => Res) x (fun _ _ => y) n
theorem zk_eq (n : Nat) (x y : Res) : zk n x y = if n = 0 then x else y := by cases n <;> rfl

theorem ifk_ne {b : Bool} {x y r : Res} (h : ifk b x y = r) : (b = true ∧ x = r) ∨ (b = false ∧ y = r) := by cases b <;> simp_all [ifk]
theorem ifk_fail {b : Bool} {x r : Res} (h : ifk b x .fail = r) (hr : r ≠ .fail) : b = true ∧ x = r := by
  cases b
  · exact absurd h.symm hr
  · exact ⟨rfl, h⟩
theorem zk_fail {n : Nat} {x r : Res} (h : zk n x .fail = r) (hr : r ≠ .fail) : n = 0 ∧ x = r := by
  cases n
  · exact ⟨rfl, h⟩
  · exact absurd h.symm hr

/- chunks -/
noncomputable def T.getk (t : T) : Nat → (List V → Res) → Res :=
  T.rec (motive := fun _ => Nat → (List V → Res) → Res) (fun _ _ => .fail) (fun c i k => Nat.rec (motive := fun _ => Res) (k c) (fun _ _ => .fail) i)
    (fun _ _ iha ihb i k => Nat.rec (motive := fun _ => Res) (iha (Nat.div i 2) k) (fun _ _ => ihb (Nat.div i 2) k) (Nat.mod i 2)) t
theorem T.getk_eq (t : T) (i : Nat) (k : List V → Res) : t.getk i k = match t.get i with | some c => k c | none => .fail := by
  induction t generalizing i with
  | e => rfl
  | lf c =>
    show zk i (k c) .fail = _
    simp only [T.get, zk_eq]; split <;> rfl
  | nd a b iha ihb =>
    show zk (i % 2) (a.getk (i / 2) k) (b.getk (i / 2) k) = _
    rw [zk_eq, iha, ihb]
    simp only [T.get]
    split <;> rfl
noncomputable def T.setk (t : T) : Nat → List V → (T → Res) → Res :=
  T.rec (motive := fun _ => Nat → List V → (T → Res) → Res) (fun i c k => zk i (k (.lf c)) .fail)
    (fun c0 i c k => zk i (k (.lf c)) (zk (Nat.pred i) (k (.nd (.lf c0) (.lf c))) .fail))
    (fun a b iha ihb i c k => zk (Nat.mod i 2) (iha (Nat.div i 2) c (fun a' => k (.nd a' b))) (ihb (Nat.div i 2) c (fun b' => k (.nd a b')))) t
theorem T.setk_eq (t : T) (i : Nat) (c : List V) (k : T → Res) : t.setk i c k = match t.set i c with | some t' => k t' | none => .fail := by
  induction t generalizing i k with
  | e => simp only [T.setk, T.set, zk_eq]; split <;> rfl
  | lf c0 =>
    simp only [T.setk, T.set, zk_eq]
    split
    · rfl
    · rename_i h
      obtain ⟨j, rfl⟩ : ∃ j, i = j + 1 := ⟨i - 1, by omega⟩
      simp only [Nat.pred_succ]
      by_cases hj : j = 0
      · subst hj; simp
      · rw [if_neg hj, if_neg (by omega)]
  | nd a b iha ihb =>
    show zk (i % 2) (a.setk (i / 2) c (fun a' => k (.nd a' b))) (b.setk (i / 2) c (fun b' => k (.nd a b'))) = _
    rw [zk_eq, iha, ihb]
    simp only [T.set]
    split
    · cases a.set (i / 2) c <;> rfl
    · cases b.set (i / 2) c <;> rfl

theorem T.getk_ok {t : T} {i : Nat} {k : List V → Res} {r : Res} (h : t.getk i k = r) (hr : r ≠ .fail) : ∃ c, t.get i = some c ∧ k c = r := by
  rw [T.getk_eq] at h
  split at h
  · exact ⟨_, by assumption, h⟩
  · exact absurd h.symm hr
theorem T.setk_ok {t : T} {i : Nat} {c : List V} {k : T → Res} {r : Res} (h : t.setk i c k = r) (hr : r ≠ .fail) : ∃ t', t.set i c = some t' ∧ k t' = r := by
  rw [T.setk_eq] at h
  split at h
  · exact ⟨_, by assumption, h⟩
  · exact absurd h.symm hr

/- lists -/
noncomputable def nthk (l : List V) : Nat → (V → Res) → Res :=
  List.rec (motive := fun _ => Nat → (V → Res) → Res) (fun _ _ => .fail) (fun v _ ih i k => Nat.rec (motive := fun _ => Res) (k v) (fun m _ => ih m k) i) l
theorem nthk_ok {l : List V} {i : Nat} {k : V → Res} {r : Res} (h : nthk l i k = r) (hr : r ≠ .fail) : ∃ v, l[i]? = some v ∧ k v = r := by
  induction l generalizing i with
  | nil => exact absurd h.symm hr
  | cons v l ih =>
    cases i with
    | zero => exact ⟨v, by simp, h⟩
    | succ j =>
      obtain ⟨u, h1, h2⟩ := ih (i := j) h
      exact ⟨u, by simpa using h1, h2⟩
/-- the first n; what is behind -/
noncomputable def takek (n : Nat) : List V → (List V → List V → Res) → Res :=
  Nat.rec (motive := fun _ => List V → (List V → List V → Res) → Res) (fun l k => k [] l)
    (fun _ ih l k => List.rec (motive := fun _ => Res) .fail (fun v l' _ => ih l' (fun a b => k (v :: a) b)) l) n
theorem takek_ok {n : Nat} {l : List V} {k : List V → List V → Res} {r : Res} (h : takek n l k = r) (hr : r ≠ .fail) : n ≤ l.length ∧ k (l.take n) (l.drop n) = r := by
  induction n generalizing l k with
  | zero => exact ⟨by omega, by simp only [List.take_zero, List.drop_zero]; exact h⟩
  | succ n ih =>
    cases l with
    | nil => exact absurd h.symm hr
    | cons v l => obtain ⟨h1, h2⟩ := ih (k := fun a b => k (v :: a) b) h; exact ⟨by simpa using h1, by simpa using h2⟩
/-- one behind the other -/
noncomputable def appk (l : List V) : List V → (List V → Res) → Res :=
  List.rec (motive := fun _ => List V → (List V → Res) → Res) (fun m k => k m) (fun v _ ih m k => ih m (fun a => k (v :: a))) l
theorem appk_eq (l m : List V) (k : List V → Res) : appk l m k = k (l ++ m) := by
  induction l generalizing k with
  | nil => rfl
  | cons v l ih => exact ih (fun a => k (v :: a))

/-- n cells from cell o on -/
noncomputable def gatherk (t : T) (g : Nat) (f : Nat) : Nat → Nat → (List V → Res) → Res :=
  Nat.rec (motive := fun _ => Nat → Nat → (List V → Res) → Res) (fun _ _ _ => .fail)
    (fun _ ih o n k => t.getk (Nat.div o g) fun ch => takek (Nat.mod o g) ch fun _ rest =>
      ifk (Nat.ble n (Nat.sub g (Nat.mod o g))) (takek n rest fun p _ => k p)
        (ih (Nat.add o (Nat.sub g (Nat.mod o g))) (Nat.sub n (Nat.sub g (Nat.mod o g))) fun q => appk rest q k)) f
noncomputable def cellsk (t : T) (g o n : Nat) (k : List V → Res) : Res :=
  zk n (k []) (ifk (Nat.beq n g) (zk (Nat.mod o g) (t.getk (Nat.div o g) k) (gatherk t g n o n k)) (gatherk t g n o n k))
noncomputable def cellk (t : T) (g o : Nat) (k : V → Res) : Res := t.getk (Nat.div o g) fun ch => nthk ch (Nat.mod o g) k

/-- the cell o -/
def T.cell (t : T) (g o : Nat) : Option V := (t.get (o / g)).bind fun ch => ch[o % g]?

theorem gatherk_ok {t : T} {g : Nat} (hg : 0 < g) (hw : ∀ j ch, t.get j = some ch → ch.length = g) {f o n : Nat} {k : List V → Res} {r : Res}
    (h : gatherk t g f o n k = r) (hr : r ≠ .fail) : ∃ l, k l = r ∧ l.length = n ∧ ∀ i v, l[i]? = some v → t.cell g (o + i) = some v := by
  induction f generalizing o n k with
  | zero => exact absurd h.symm hr
  | succ f ih =>
    change (t.getk (o / g) fun ch => takek (o % g) ch fun _ rest => ifk (Nat.ble n (g - o % g)) (takek n rest fun p _ => k p)
        (gatherk t g f (o + (g - o % g)) (n - (g - o % g)) fun q => appk rest q k)) = r at h
    obtain ⟨ch, h1, h⟩ := T.getk_ok h hr
    obtain ⟨h2, h⟩ := takek_ok h hr
    have hlen := hw _ _ h1
    have hmod := Nat.mod_lt o hg
    have hdm := Nat.div_add_mod o g
    have hin : ∀ i, i < g - o % g → (o + i) / g = o / g ∧ (o + i) % g = o % g + i := by
      intro i hi
      have e : o + i = g * (o / g) + (o % g + i) := by omega
      have hlt : o % g + i < g := by omega
      rw [e]
      exact ⟨by rw [Nat.mul_add_div hg, Nat.div_eq_of_lt hlt]; omega, by rw [Nat.mul_add_mod]; exact Nat.mod_eq_of_lt hlt⟩
    rcases ifk_ne h with ⟨hb, h⟩ | ⟨hb, h⟩
    · have hb' : n ≤ g - o % g := Nat.le_of_ble_eq_true hb
      obtain ⟨h3, h⟩ := takek_ok h hr
      refine ⟨_, h, by simp only [List.length_take, List.length_drop]; omega, ?_⟩
      intro i v hi
      have hin' : i < n := by
        have := (List.getElem?_eq_some_iff.1 hi).1
        simp only [List.length_take, List.length_drop] at this; omega
      obtain ⟨e1, e2⟩ := hin i (by omega)
      rw [List.getElem?_take_of_lt hin', List.getElem?_drop] at hi
      simp only [T.cell, e1, h1, Option.bind_some, e2, hi]
    · have hb' : ¬ n ≤ g - o % g := fun hle => by rw [Nat.ble_eq_true_of_le hle] at hb; cases hb
      obtain ⟨l, h3, h4, h5⟩ := ih h
      rw [appk_eq] at h3
      refine ⟨_, h3, by simp only [List.length_append, List.length_drop]; omega, ?_⟩
      intro i v hi
      by_cases hlt : i < g - o % g
      · obtain ⟨e1, e2⟩ := hin i hlt
        rw [List.getElem?_append_left (by simp only [List.length_drop]; omega), List.getElem?_drop] at hi
        simp only [T.cell, e1, h1, Option.bind_some, e2, hi]
      · rw [List.getElem?_append_right (by simp only [List.length_drop]; omega)] at hi
        have := h5 _ _ hi
        rw [← this]
        congr 1
        simp only [List.length_drop]; omega

theorem cellsk_ok {t : T} {g : Nat} (hg : 0 < g) (hw : ∀ j ch, t.get j = some ch → ch.length = g) {o n : Nat} {k : List V → Res} {r : Res}
    (h : cellsk t g o n k = r) (hr : r ≠ .fail) : ∃ l, k l = r ∧ l.length = n ∧ ∀ i v, l[i]? = some v → t.cell g (o + i) = some v := by
  unfold cellsk at h
  rw [zk_eq] at h
  split at h
  · subst n; exact ⟨[], h, rfl, fun i v hi => by simp at hi⟩
  · rcases ifk_ne h with ⟨hb, h⟩ | ⟨hb, h⟩
    · rw [zk_eq] at h
      split at h
      · rename_i hm
        obtain ⟨ch, h1, h2⟩ := T.getk_ok h hr
        have hlen := hw _ _ h1
        have hng : n = g := Nat.eq_of_beq_eq_true hb
        refine ⟨ch, h2, by omega, fun i v hi => ?_⟩
        have hi' : i < g := by have := (List.getElem?_eq_some_iff.1 hi).1; omega
        have hdm := Nat.div_add_mod o g
        have hm' : o % g = 0 := hm
        have e : o + i = g * (o / g) + i := by omega
        have h1' : t.get (o / g) = some ch := h1
        have e1 : (o + i) / g = o / g := by rw [e, Nat.mul_add_div hg, Nat.div_eq_of_lt hi']; omega
        have e2 : (o + i) % g = i := by rw [e, Nat.mul_add_mod]; exact Nat.mod_eq_of_lt hi'
        simp only [T.cell, e1, h1', Option.bind_some, e2, hi]
      · exact gatherk_ok hg hw h hr
    · exact gatherk_ok hg hw h hr
theorem cellk_ok {t : T} {g o : Nat} {k : V → Res} {r : Res} (h : cellk t g o k = r) (hr : r ≠ .fail) : ∃ v, t.cell g o = some v ∧ k v = r := by
  obtain ⟨ch, h1, h2⟩ := T.getk_ok h hr
  obtain ⟨v, h3, h4⟩ := nthk_ok h2 hr
  have h1' : t.get (o / g) = some ch := h1
  have h3' : ch[o % g]? = some v := h3
  exact ⟨v, by simp only [T.cell, h1', Option.bind_some, h3'], h4⟩

/-- what a known cell says -/
theorem ArrR.cell {ρ : Rho} {w : World} {c z S g n : Nat} {t : T} {ro : Bool} {cs : Array Value} (a : ArrR ρ w c z S g n t ro cs) {o : Nat} {v : V} (h : t.cell g o = some v) :
    o < n * g ∧ ∃ x, cs[z + o]? = some x ∧ VR ρ v x ∧ x.oneCell' = true := by
  simp only [T.cell, Option.bind_eq_some_iff] at h
  obtain ⟨ch, h1, h2⟩ := h
  obtain ⟨h3, h4, h5⟩ := a.cells _ _ h1
  obtain ⟨x, h6, h7⟩ := h5 _ _ h2
  have hlt := (List.getElem?_eq_some_iff.1 h2).1
  have hdm := Nat.div_add_mod o g
  have hg : 0 < g := by omega
  have e : z + o / g * g + o % g = z + o := by rw [Nat.mul_comm (o / g) g]; omega
  rw [e] at h6
  refine ⟨?_, x, h6, h7⟩
  have : (o / g + 1) * g ≤ n * g := Nat.mul_le_mul_right g h3
  rw [Nat.add_mul, Nat.mul_comm (o / g) g] at this
  omega
theorem ArrR.wf {ρ : Rho} {w : World} {c z S g n : Nat} {t : T} {ro : Bool} {cs : Array Value} (a : ArrR ρ w c z S g n t ro cs) (j : Nat) (ch : List V) (h : t.get j = some ch) : ch.length = g :=
  (a.cells j ch h).2.1

/- WRITING. -/
/-- vs in the place of the cells from o on -/
noncomputable def scatk (g : Nat) (f : Nat) : T → Nat → Nat → List V → (T → Res) → Res :=
  Nat.rec (motive := fun _ => T → Nat → Nat → List V → (T → Res) → Res) (fun _ _ _ _ _ => .fail)
    (fun _ ih t o n vs k => t.getk (Nat.div o g) fun ch => takek (Nat.mod o g) ch fun a rest =>
      ifk (Nat.ble n (Nat.sub g (Nat.mod o g)))
        (takek n rest fun _ b => appk vs b fun c => appk a c fun ch' => t.setk (Nat.div o g) ch' k)
        (takek (Nat.sub g (Nat.mod o g)) vs fun p q => appk a p fun ch' => t.setk (Nat.div o g) ch' fun t' =>
          ih t' (Nat.add o (Nat.sub g (Nat.mod o g))) (Nat.sub n (Nat.sub g (Nat.mod o g))) q k)) f
/-- n: how many they are -/
noncomputable def putk (t : T) (g m o n : Nat) (vs : List V) (k : T → Res) : Res :=
  zk n (k t) (ifk (Nat.ble (Nat.add o n) (Nat.mul m g)) (ifk (Nat.beq n g) (zk (Nat.mod o g) (t.setk (Nat.div o g) vs k) (scatk g n t o n vs k)) (scatk g n t o n vs k)) .fail)

/-- what writing does to the cells -/
structure Put (t : T) (g m o : Nat) (vs : List V) (t' : T) : Prop where
  wf : ∀ j ch, t'.get j = some ch → j < m ∧ ch.length = g
  old : ∀ i v, t'.cell g i = some v → (i < o ∨ o + vs.length ≤ i) → t.cell g i = some v
  new : ∀ i v, t'.cell g i = some v → o ≤ i → i < o + vs.length → vs[i - o]? = some v

theorem cell_set {t t' : T} {j g : Nat} {ch : List V} (h : t.set j ch = some t') (i : Nat) : t'.cell g i = if i / g = j then ch[i % g]? else t.cell g i := by
  simp only [T.cell, T.get_set h]
  split <;> rfl

theorem scatk_ok {g m : Nat} (hg : 0 < g) {f : Nat} {t : T} (hw : ∀ j ch, t.get j = some ch → j < m ∧ ch.length = g) {o n : Nat} {vs : List V} (hn : vs.length = n)
    {k : T → Res} {r : Res} (h : scatk g f t o n vs k = r) (hr : r ≠ .fail) : ∃ t', k t' = r ∧ Put t g m o vs t' := by
  induction f generalizing t o n vs k with
  | zero => exact absurd h.symm hr
  | succ f ih =>
    change (t.getk (o / g) fun ch => takek (o % g) ch fun a rest => ifk (Nat.ble n (g - o % g))
        (takek n rest fun _ b => appk vs b fun c => appk a c fun ch' => t.setk (o / g) ch' k)
        (takek (g - o % g) vs fun p q => appk a p fun ch' => t.setk (o / g) ch' fun t' => scatk g f t' (o + (g - o % g)) (n - (g - o % g)) q k)) = r at h
    obtain ⟨ch, h1, h⟩ := T.getk_ok h hr
    obtain ⟨h2, h⟩ := takek_ok h hr
    obtain ⟨hlt, hlen⟩ := hw _ _ h1
    have hmod := Nat.mod_lt o hg
    have hdm := Nat.div_add_mod o g
    have key : ∀ i, i / g = o / g → i = g * (o / g) + i % g := fun i hi => by have := Nat.div_add_mod i g; rw [hi] at this; omega
    have key2 : ∀ i, o ≤ i → i < g * (o / g) + g → i / g = o / g := fun i h1 h2 => by
      have h3 : i / g < o / g + 1 := by rw [Nat.div_lt_iff_lt_mul hg, Nat.add_mul]; rw [Nat.mul_comm]; omega
      have h4 : o / g ≤ i / g := Nat.div_le_div_right h1
      omega
    have key3 : ∀ i, i < o → i / g = o / g → i % g < o % g := fun i h1 h2 => by have := key i h2; omega
    rcases ifk_ne h with ⟨hb, h⟩ | ⟨hb, h⟩
    · have hb' : n ≤ g - o % g := Nat.le_of_ble_eq_true hb
      obtain ⟨h3, h⟩ := takek_ok h hr
      rw [appk_eq, appk_eq] at h
      obtain ⟨t', h4, h⟩ := T.setk_ok h hr
      refine ⟨t', h, ?_, ?_, ?_⟩
      · intro j c hj
        rw [T.get_set h4] at hj
        split at hj
        · cases hj; rename_i e; exact ⟨by rw [e]; exact hlt, by simp only [List.length_append, List.length_take, List.length_drop]; omega⟩
        · exact hw j c hj
      · intro i v hi hout
        rw [cell_set h4] at hi
        split at hi
        · rename_i e
          have h1' : t.get (i / g) = some ch := by rw [e]; exact h1
          simp only [T.cell, h1', Option.bind_some]
          have e' := key i e
          rcases hout with hout | hout
          · have := key3 i hout e
            rw [List.getElem?_append_left (by simp only [List.length_take]; omega), List.getElem?_take_of_lt this] at hi
            exact hi
          · rw [List.getElem?_append_right (by simp only [List.length_take]; omega), List.getElem?_append_right (by simp only [List.length_take]; omega), List.getElem?_drop, List.getElem?_drop] at hi
            rw [← hi]; congr 1; simp only [List.length_take]; omega
        · exact hi
      · intro i v hi h5 h6
        rw [cell_set h4] at hi
        have e := key2 i h5 (by omega)
        rw [if_pos e] at hi
        have e' := key i e
        rw [List.getElem?_append_right (by simp only [List.length_take]; omega), List.getElem?_append_left (by simp only [List.length_take]; omega)] at hi
        rw [← hi]; congr 1; simp only [List.length_take]; omega
    · have hb' : ¬ n ≤ g - o % g := fun hle => by rw [Nat.ble_eq_true_of_le hle] at hb; cases hb
      obtain ⟨h3, h⟩ := takek_ok h hr
      rw [appk_eq] at h
      obtain ⟨t1, h4, h⟩ := T.setk_ok h hr
      have hw1 : ∀ j c, t1.get j = some c → j < m ∧ c.length = g := by
        intro j c hj
        rw [T.get_set h4] at hj
        split at hj
        · cases hj; rename_i e; exact ⟨by rw [e]; exact hlt, by simp only [List.length_append, List.length_take]; omega⟩
        · exact hw j c hj
      obtain ⟨t', h5, h6⟩ := ih hw1 (by simp only [List.length_drop]; omega) h
      refine ⟨t', h5, h6.wf, ?_, ?_⟩
      · intro i v hi hout
        have hout' : i < o + (g - o % g) ∨ o + (g - o % g) + (vs.drop (g - o % g)).length ≤ i := by simp only [List.length_drop]; omega
        have := h6.old i v hi hout'
        rw [cell_set h4] at this
        split at this
        · rename_i e
          have h1' : t.get (i / g) = some ch := by rw [e]; exact h1
          simp only [T.cell, h1', Option.bind_some]
          have e' := key i e
          have hm := Nat.mod_lt i hg
          rcases hout with hout | hout
          · have h7 := key3 i hout e
            rw [List.getElem?_append_left (by simp only [List.length_take]; omega), List.getElem?_take_of_lt h7] at this
            exact this
          · omega
        · exact this
      · intro i v hi h7 h8
        by_cases hc : i < o + (g - o % g)
        · have := h6.old i v hi (.inl hc)
          rw [cell_set h4] at this
          have e := key2 i h7 (by omega)
          rw [if_pos e] at this
          have e' := key i e
          rw [List.getElem?_append_right (by simp only [List.length_take]; omega), List.getElem?_take_of_lt (by simp only [List.length_take]; omega)] at this
          rw [← this]; congr 1; simp only [List.length_take]; omega
        · have := h6.new i v hi (by omega) (by simp only [List.length_drop]; omega)
          rw [List.getElem?_drop] at this
          rw [← this]; congr 1; omega

theorem putk_ok {t : T} {g m o n : Nat} (hg : 0 < g) (hw : ∀ j ch, t.get j = some ch → j < m ∧ ch.length = g) {vs : List V} (hn : vs.length = n) {k : T → Res} {r : Res}
    (h : putk t g m o n vs k = r) (hr : r ≠ .fail) : ∃ t', k t' = r ∧ Put t g m o vs t' ∧ (n = 0 ∨ o + n ≤ m * g) := by
  unfold putk at h
  rw [zk_eq] at h
  split at h
  · rename_i h0
    subst h0
    have : vs = [] := List.length_eq_zero_iff.1 hn
    subst this
    exact ⟨t, h, ⟨hw, fun i v hi _ => hi, fun i v _ h1 h2 => by simp only [List.length_nil] at h2; omega⟩, .inl rfl⟩
  · obtain ⟨hb0, h⟩ := ifk_fail h hr
    have hle : o + n ≤ m * g := Nat.le_of_ble_eq_true hb0
    suffices hs : ∃ t', k t' = r ∧ Put t g m o vs t' from let ⟨t', h1, h2⟩ := hs; ⟨t', h1, h2, .inr hle⟩
    rcases ifk_ne h with ⟨hb, h⟩ | ⟨hb, h⟩
    · rw [zk_eq] at h
      split at h
      · rename_i hm
        have hm : o % g = 0 := hm
        have hng : n = g := Nat.eq_of_beq_eq_true hb
        obtain ⟨t', h4, h⟩ := T.setk_ok h hr
        have hdm := Nat.div_add_mod o g
        have h4 : t.set (o / g) vs = some t' := h4
        refine ⟨t', h, ?_, ?_, ?_⟩
        · intro j c hj
          rw [T.get_set h4] at hj
          split at hj
          · cases hj; rename_i e
            refine ⟨?_, by omega⟩
            rw [e, Nat.div_lt_iff_lt_mul hg]; omega
          · exact hw j c hj
        · intro i v hi hout
          rw [cell_set h4] at hi
          split at hi
          · rename_i e
            have := Nat.div_add_mod i g
            have := Nat.mod_lt i hg
            rw [e] at *
            omega
          · exact hi
        · intro i v hi h5 h6
          rw [cell_set h4] at hi
          have h3 : i / g < o / g + 1 := by rw [Nat.div_lt_iff_lt_mul hg, Nat.add_mul, Nat.mul_comm]; omega
          have h4 : o / g ≤ i / g := Nat.div_le_div_right h5
          rw [if_pos (by omega)] at hi
          have := Nat.div_add_mod i g
          have e : i / g = o / g := by omega
          rw [e] at this
          rw [← hi]; congr 1; omega
      · exact scatk_ok hg hw hn h hr
    · exact scatk_ok hg hw hn h hr
end Go.Ev
