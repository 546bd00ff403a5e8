/- PAGE: Open. -/
import Derived.Test.YtbdohcmaighhkaaDoorPgE
namespace Go.Ev.W02
open Go.Proofs

theorem ieq_refl (n : Int) : ieq n n = true := by rw [ieq_eq]; simp
theorem oeq_refl (c : Option Nat) : oeq c c = true := by cases c with | none => rfl | some n => exact Nat.beq_refl n
theorem veqk_slice (b : Bid) (o l : Nat) (c : Option Nat) (s : Nat) (r : Res) : veqk (.slice b o l c s) (.slice b o l c s) r = r := by
  show ifk (Nat.beq b.val b.val) (ifk (Nat.beq o o) (ifk (Nat.beq l l) (ifk (oeq c c) (ifk (Nat.beq s s) r .fail) .fail) .fail) .fail) .fail = r
  simp only [Nat.beq_refl, oeq_refl, ifk_true]
theorem veqk_ptr (b : Bid) (o : Nat) (r : Res) : veqk (.ptr b o) (.ptr b o) r = r := by
  show ifk (Nat.beq b.val b.val) (ifk (Nat.beq o o) r .fail) .fail = r
  simp only [Nat.beq_refl, ifk_true]
theorem veqk_int (k : IntKind) (n : Int) (r : Res) : veqk (.int k n) (.int k n) r = r := by
  show ifk (Nat.beq (kno k) (kno k)) (ifk (ieq n n) r .fail) .fail = r
  simp only [Nat.beq_refl, ieq_refl, ifk_true]

/-- what a page holds, by its own word -/
def psize (bs : List Nat) : Nat := bs.getD 4 0 + 256 * bs.getD 5 0
def pin (bs : List Nat) : List Nat := (bs.take (8 + psize bs)).drop 8
def whole (bs : List Nat) : Bool := decide (psize bs ≤ 504) && decide (sealB (bs.getD 6 0) (pin bs) = bs)
theorem pin_length {bs : List Nat} (hl : bs.length = 512) (h : psize bs ≤ 504) : (pin bs).length = psize bs := by simp [pin]; omega

/-- the tests of Open are those of the document -/
theorem whole_iff {bs : List Nat} (hl : bs.length = 512) (hb : ∀ x ∈ bs, x < 256) :
    whole bs = (decide (bs.take 4 = le4 (crc (bs.drop 4))) && (decide (psize bs ≤ 504) && (decide (bs.getD 7 0 = 157) && !((bs.drop (8 + psize bs)).any fun x => decide (x ≠ 0))))) := by
  have h4 : bs.getD 4 0 < 256 := by
    rw [List.getD_eq_getElem?_getD, List.getElem?_eq_getElem (by omega)]; exact hb _ (List.getElem_mem _)
  have h5 : bs.getD 5 0 < 256 := by
    rw [List.getD_eq_getElem?_getD, List.getElem?_eq_getElem (by omega)]; exact hb _ (List.getElem_mem _)
  unfold whole
  by_cases hs : psize bs ≤ 504
  · simp only [decide_eq_true hs, Bool.true_and]
    have hp := pin_length hl hs
    have hbody : body (bs.getD 6 0) (pin bs) = bs.drop 4 ↔ (bs.getD 7 0 = 157 ∧ ((bs.drop (8 + psize bs)).any fun x => decide (x ≠ 0)) = false) := by
      have e1 : bs.drop 4 = [bs.getD 4 0, bs.getD 5 0, bs.getD 6 0, bs.getD 7 0] ++ (pin bs ++ bs.drop (8 + psize bs)) := by
        have e2 : pin bs ++ bs.drop (8 + psize bs) = bs.drop 8 := by
          unfold pin
          have : bs.drop 8 = ((bs.take (8 + psize bs)) ++ bs.drop (8 + psize bs)).drop 8 := by rw [List.take_append_drop]
          rw [this, List.drop_append_of_le_length (by simp; omega)]
        rw [e2]
        have g : ∀ i (hi : i < bs.length), bs.getD i 0 = bs[i] := fun i hi => by rw [List.getD_eq_getElem?_getD, List.getElem?_eq_getElem hi]; rfl
        rw [g 4 (by omega), g 5 (by omega), g 6 (by omega), g 7 (by omega)]
        rw [List.drop_eq_getElem_cons (by omega : 4 < bs.length), List.drop_eq_getElem_cons (by omega : 5 < bs.length), List.drop_eq_getElem_cons (by omega : 6 < bs.length), List.drop_eq_getElem_cons (by omega : 7 < bs.length)]
        rfl
      rw [e1, body, hp]
      have q1 : psize bs % 256 = bs.getD 4 0 := by unfold psize; omega
      have q2 : psize bs / 256 % 256 = bs.getD 5 0 := by unfold psize; omega
      rw [q1, q2]
      simp only [List.cons_append, List.nil_append, List.cons.injEq, true_and, List.append_cancel_left_eq]
      have hz : List.replicate (504 - psize bs) 0 = bs.drop (8 + psize bs) ↔ ((bs.drop (8 + psize bs)).any fun x => decide (x ≠ 0)) = false := by
        rw [eq_comm, List.eq_replicate_iff, List.any_eq_false]
        constructor
        · rintro ⟨_, h⟩ x hx; simpa using h x hx
        · intro h; exact ⟨by simp; omega, fun x hx => by simpa using h x hx⟩
      rw [hz]
      exact ⟨fun ⟨a, b⟩ => ⟨a.symm, b⟩, fun ⟨a, b⟩ => ⟨a.symm, b⟩⟩
    have key : sealB (bs.getD 6 0) (pin bs) = bs ↔ (bs.take 4 = le4 (crc (bs.drop 4)) ∧ body (bs.getD 6 0) (pin bs) = bs.drop 4) := by
      have hl4 : (le4 (crc (body (bs.getD 6 0) (pin bs)))).length = (bs.take 4).length := by simp [le4]; omega
      constructor
      · intro h
        have h2 : le4 (crc (body (bs.getD 6 0) (pin bs))) ++ body (bs.getD 6 0) (pin bs) = bs.take 4 ++ bs.drop 4 := by rw [List.take_append_drop]; exact h
        obtain ⟨h3, h6⟩ := List.append_inj h2 hl4
        exact ⟨by rw [← h6, h3], h6⟩
      · rintro ⟨h, h6⟩
        rw [sealB, h6, ← h, List.take_append_drop]
    rw [Bool.eq_iff_iff]
    simp only [decide_eq_true_eq, Bool.and_eq_true, Bool.not_eq_true', key, hbody]
  · simp [hs]

theorem bor_add {x y : Nat} (hx : x < 256) : x ||| (y * 256) = x + 256 * y := by
  have := Nat.two_pow_add_eq_or_of_lt (i := 8) (b := x) (by omega) y
  rw [Nat.or_comm, show y * 256 = 2 ^ 8 * y by omega, ← this]; omega

structure Callees2 (cf : CF) : Prop extends Callees cf where
  has : ∀ v h (bs : List Nat), IsS h v (bs.map bV) → (∀ x ∈ bs, x < 256) → bs.length ≤ 4096 → cf ⟨.d0, .d0, .d1, .d1⟩ [v, .func 18 []] h = .ret (.bool (bs.any fun x => decide (x ≠ 0))) h

theorem at2 {h : Heap} {v : V} {bs : List Nat} (w : IsS h v (bs.map bV)) (hl : bs.length = 512) : ∃ b o c, v = .slice b o 512 c 1 ∧ ∀ i, i < 512 → ∀ k, load1k h b (Nat.add o i) k = k (bV (bs.getD i 0)) := by
  obtain ⟨b, o, n, c, s, rfl, hn, _⟩ := w.at_ (i := 0) (by simp; omega)
  have hn512 : n = 512 ∧ s = 1 := by
    generalize hll : bs.map bV = l at w
    have : l.length = 512 := by rw [← hll]; simpa using hl
    cases w
    exact ⟨this, rfl⟩
  obtain ⟨rfl, rfl⟩ := hn512
  refine ⟨b, o, c, rfl, fun i hi k => ?_⟩
  obtain ⟨b', o', n', c', s', e, _, h2⟩ := w.at_ (i := i) (by simp; omega)
  cases e
  rw [h2, List.getElem_map, List.getD_eq_getElem?_getD, List.getElem?_eq_getElem (by omega)]
  rfl
end Go.Ev.W02
