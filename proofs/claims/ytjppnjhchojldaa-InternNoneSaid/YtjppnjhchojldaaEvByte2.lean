/- EVALUATOR: slice expressions, copying, strings of bytes on a memory that is known. -/
import Derived.Test.YtjppnjhchojldaaEvByte
namespace Go.Ev

theorem take_drop_length {l : List V} {i j : Nat} (hi : i ≤ j) (hj : j ≤ l.length) : ((l.take j).drop i).length = j - i := by simp; omega
/-- v[i:j] -/
theorem slice_law {h : Heap} {v : V} {l : List V} (w : IsS h v l) {i j : Nat} (hij : i ≤ j) (hj : j ≤ l.length) {lo hi : Option V} (hlo : ∀ k, bndk lo 0 k = k i) (hhi : ∀ k, bndk hi l.length k = k j) :
    ∃ v', (∀ k, words.slice 1 v lo hi none h k = k v' h) ∧ IsS h v' ((l.take j).drop i) ∧ ∀ n, Low v n → Low v' n := by
  have hlen := take_drop_length hij hj
  cases w with
  | nils =>
    simp at hj; subst hj; obtain rfl : i = 0 := by omega
    refine ⟨.nils, fun k => ?_, .nils, fun n h => h⟩
    show bndk lo 0 (fun i => bndk hi 0 fun j => zk i (zk j (k .nils h) .fail) .fail) = _
    have hhi : ∀ k, bndk hi 0 k = k 0 := hhi
    rw [hlo, hhi]; rfl
  | emp =>
    simp at hj; subst hj; obtain rfl : i = 0 := by omega
    refine ⟨.emp, fun k => ?_, .emp, fun n h => h⟩
    show bndk lo 0 (fun i => bndk hi 0 fun j => zk i (zk j (k .emp h) .fail) .fail) = _
    have hhi : ∀ k, bndk hi 0 k = k 0 := hhi
    rw [hlo, hhi]; rfl
  | sl b o c op cs _ row fit is cap =>
    have key : ∀ c' : Option Nat, (∀ n, c' = some n → j - i ≤ n ∧ o + i + n ≤ cs.length) → IsS h (.slice b (o + i * 1) (j - i) c' 1) ((l.take j).drop i) := by
      intro c' hc'
      have := IsS.sl b (o + i * 1) c' op cs ((l.take j).drop i) row (by rw [hlen]; omega) (by
        rw [hlen]
        apply List.ext_getElem?
        intro x
        by_cases hx : x < j - i
        · rw [List.getElem?_take_of_lt hx, List.getElem?_drop, List.getElem?_drop, List.getElem?_take_of_lt (by omega)]
          have : ((cs.drop o).take l.length)[i + x]? = l[i + x]? := by rw [is]
          rw [List.getElem?_take_of_lt (by omega), List.getElem?_drop] at this
          rw [← this]; congr 1; omega
        · rw [List.getElem?_eq_none (by simp; omega), List.getElem?_eq_none (by rw [hlen]; omega)]) (fun n hn => by rw [hlen]; have := hc' n hn; omega)
      rwa [hlen] at this
    have nil : i = j → ((l.take j).drop i) = [] := fun e => List.length_eq_zero_iff.1 (by rw [hlen]; omega)
    have unf : ∀ k, words.slice 1 (.slice b o l.length c 1) lo hi none h k = optk c
          (fun cap => ifk (Nat.ble j cap) (ifk (Nat.beq cap i) (k .emp h) (k (.slice b (o + i * 1) (j - i) (some (cap - i)) 1) h)) .fail)
          (ifk (Nat.ble j l.length) (ifk (Nat.blt i l.length) (k (.slice b (o + i * 1) (j - i) none 1) h) (k .emp h)) .fail) := by
      intro k
      show ifk (Nat.beq 1 1) (bndk lo 0 fun i => bndk hi l.length fun j => ifk (Nat.ble i j)
        (optk c
          (fun cap => ifk (Nat.ble j cap) (ifk (Nat.beq cap i) (k .emp h) (k (.slice b (o + i * 1) (j - i) (some (cap - i)) 1) h)) .fail)
          (ifk (Nat.ble j l.length) (ifk (Nat.blt i l.length) (k (.slice b (o + i * 1) (j - i) none 1) h) (k .emp h)) .fail)) .fail) .fail = _
      rw [show Nat.beq 1 1 = true from rfl, ifk_true, hlo, hhi, ble_of hij, ifk_true]
    cases c with
    | some n =>
      have hn := cap n rfl
      by_cases e : n = i
      · refine ⟨.emp, fun k => ?_, by rw [nil (by omega)]; exact .emp, fun n _ b o l c s e => by cases e⟩
        rw [unf, optk_some, ble_of (by omega), ifk_true, beq_of e, ifk_true]
      · refine ⟨.slice b (o + i * 1) (j - i) (some (n - i)) 1, fun k => ?_, key _ (fun m hm => by cases hm; omega), fun n hn b' o l c s e => by cases e; exact hn b _ _ _ _ rfl⟩
        rw [unf, optk_some, ble_of (by omega), ifk_true, beq_not e, ifk_false]
    | none =>
      by_cases e : i < l.length
      · refine ⟨.slice b (o + i * 1) (j - i) none 1, fun k => ?_, key _ (fun m hm => by cases hm), fun n hn b' o l c s e => by cases e; exact hn b _ _ _ _ rfl⟩
        rw [unf, optk_none, ble_of hj, ifk_true, blt_of e, ifk_true]
      · refine ⟨.emp, fun k => ?_, by rw [nil (by omega)]; exact .emp, fun n _ b o l c s e => by cases e⟩
        rw [unf, optk_none, ble_of hj, ifk_true, blt_not e, ifk_false]

/- STRINGS OF BYTES -/
/-- a byte -/
def bV (n : Nat) : V := .int .u8 (.ofNat n)
def packN : List Nat → Nat
  | [] => 0
  | b :: l => b + 256 * packN l
theorem packN_lt {l : List Nat} (h : ∀ x ∈ l, x < 256) : packN l < 256 ^ l.length := by
  induction l with
  | nil => simp [packN]
  | cons b l ih =>
    have h1 := ih fun x hx => h x (List.mem_cons_of_mem _ hx)
    have h2 := h b (by simp)
    simp only [packN, List.length_cons, Nat.pow_succ]; omega
theorem packN_inj : ∀ {l m : List Nat}, (∀ x ∈ l, x < 256) → (∀ x ∈ m, x < 256) → l.length = m.length → packN l = packN m → l = m
  | [], [], _, _, _, _ => rfl
  | [], _ :: _, _, _, h, _ => by simp at h
  | _ :: _, [], _, _, h, _ => by simp at h
  | a :: l, b :: m, hl, hm, h, e => by
    have h1 := hl a (by simp)
    have h2 := hm b (by simp)
    simp only [packN] at e
    have e1 : a = b := by omega
    have e2 : packN l = packN m := by omega
    rw [e1, packN_inj (fun x hx => hl x (List.mem_cons_of_mem _ hx)) (fun x hx => hm x (List.mem_cons_of_mem _ hx)) (by simpa using h) e2]
theorem seq_pack {l m : List Nat} (hl : ∀ x ∈ l, x < 256) (hm : ∀ x ∈ m, x < 256) : Go.Ev.seq l.length (packN l) m.length (packN m) = decide (l = m) := by
  rw [Bool.eq_iff_iff, decide_eq_true_eq]
  show Bool.rec (motive := fun _ => Bool) false (Nat.beq (packN l) (packN m)) (Nat.beq l.length m.length) = true ↔ _
  by_cases e : l.length = m.length
  · rw [beq_of e]
    show Nat.beq _ _ = true ↔ _
    exact ⟨fun h => packN_inj hl hm e (Nat.eq_of_beq_eq_true h), fun h => by rw [h]; exact Nat.beq_refl _⟩
  · rw [beq_not e]
    exact ⟨(fun h => by cases h), fun h => absurd (congrArg List.length h) e⟩
theorem packk_law {l : List Nat} (h : ∀ x ∈ l, x < 256) (k : Nat → Res) : packk (l.map bV) k = k (packN l) := by
  induction l generalizing k with
  | nil => rfl
  | cons b l ih =>
    show ifk (Nat.blt b 256) (packk (l.map bV) fun n => k (b + 256 * n)) .fail = _
    rw [blt_of (h b (by simp)), ifk_true, ih fun x hx => h x (List.mem_cons_of_mem _ hx)]
    rfl
theorem bytesS_law {h : Heap} {v : V} {bs : List Nat} (w : IsS h v (bs.map bV)) (hb : ∀ x ∈ bs, x < 256) (k : V → Heap → Res) : words.bytesS v h k = k (.str bs.length (packN bs)) h := by
  generalize hl : bs.map bV = l at w
  have hll : l.length = bs.length := by rw [← hl]; simp
  cases w with
  | nils => have : bs = [] := by simpa using hl
            subst this; rfl
  | emp => have : bs = [] := by simpa using hl
           subst this; rfl
  | sl b o c op cs _ row fit is cap =>
    show loadk h b o l.length (fun cs => packk cs fun n => k (.str l.length n) h) = _
    rw [loadk_law row fit, is, ← hl, packk_law hb]
    simp
/-- copying into a block that may be written -/
theorem copy_law {h : Heap} {u : V} {new : List V} (x : IsS h u new) {b : Bid} {o l : Nat} {c : Option Nat} {cs : List V} (row : Row (h.t.get b) 1 cs) (fit : o + l ≤ cs.length) (hl : new.length ≤ l) :
    ∃ h', (∀ k, words.copy 1 (.slice b o l c 1) u h k = k (.int .i64 (.ofNat new.length)) h') ∧ Row (h'.t.get b) 1 (splice cs o new) ∧ But h b h' := by
  obtain ⟨h', h1, h2⟩ := storek_law row (vs := new) (o := o) (n := new.length * 1) (by omega) (by omega)
  refine ⟨h', fun k => ?_, h2⟩
  have e : Nat.min new.length l = new.length := Nat.min_eq_left hl
  cases x with
  | nils => exact h1 _
  | emp => exact h1 _
  | sl b' o' c' op cs' _ row' fit' is cap =>
    show loadk h b' o' (Nat.min new.length l * 1) (fun cs => storek h b o (Nat.min new.length l * 1) cs fun h' => k (.int .i64 (.ofNat (Nat.min new.length l))) h') = _
    rw [e]
    rw [show new.length * 1 = new.length from Nat.mul_one _] at h1 ⊢
    rw [loadk_law row' fit', is]
    exact h1 _
/-- storing one cell -/
theorem store1_law {h : Heap} {b : Bid} {o : Nat} {cs : List V} (row : Row (h.t.get b) 1 cs) (fit : o < cs.length) (x : V) :
    ∃ h', (∀ k, words.store h b o 1 [x] k = k h') ∧ Row (h'.t.get b) 1 (cs.set o x) ∧ But h b h' := by
  obtain ⟨h', h1, h2, h3⟩ := storek_law row (vs := [x]) (o := o) (n := 1) rfl (by omega)
  refine ⟨h', h1, row_ext h2 ?_, h3⟩
  apply List.ext_getElem?
  intro i
  rw [splice_get (by simp; omega), List.getElem?_set]
  simp only [List.length_singleton]
  by_cases e : o = i
  · subst e; simp [fit]
  · rw [if_neg (by omega), if_neg e]
theorem But.up {h h' : Heap} {b : Bid} {n : Nat} (u : But h b h') (hb : n ≤ b.val) : UpTo n h h' := ⟨by rw [u.nx]; exact Nat.le_refl _, fun b' h1 => u.get b' (by rintro rfl; omega)⟩
end Go.Ev
