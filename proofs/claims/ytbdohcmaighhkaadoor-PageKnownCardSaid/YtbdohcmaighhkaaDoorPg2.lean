/- Pg2: texts joined. -/
import Derived.Test.YtbdohcmaighhkaaDoorPg1
/- PAGE: Open. -/
namespace Go.Ev.W02
open Go.Proofs

theorem ieq_refl (n : Int) : ieq n n = true := by rw [ieq_eq]; simp
theorem oeq_refl (c : Option Nat) : oeq c c = true := by cases c with | none => rfl | some n => exact Nat.beq_refl n
theorem veqk_slice (b : Bid) (o l : Nat) (c : Option Nat) (s : Nat) (r : Res) : veqk (.slice b o l c s) (.slice b o l c s) r = r := by
  show ifk (Nat.beq b.val b.val) (ifk (Nat.beq o o) (ifk (Nat.beq l l) (ifk (oeq c c) (ifk (Nat.beq s s) r .fail) .fail) .fail) .fail) .fail = r
  simp only [Nat.beq_refl, oeq_refl, ifk_true]
theorem veqk_ptr (b : Bid) (o : Nat) (r : Res) : veqk (.ptr b o) (.ptr b o) r = r := by
  show ifk (Nat.beq b.val b.val) (ifk (Nat.beq o o) r .fail) .fail = r
  simp only [Nat.beq_refl, ifk_true]
theorem veqk_int (k : IntKind) (n : Int) (r : Res) : veqk (.int k n) (.int k n) r = r := by
  show ifk (Nat.beq (kno k) (kno k)) (ifk (ieq n n) r .fail) .fail = r
  simp only [Nat.beq_refl, ieq_refl, ifk_true]

/-- what a page holds, by its own word -/
def psize (bs : List Nat) : Nat := bs.getD 4 0 + 256 * bs.getD 5 0
def pin (bs : List Nat) : List Nat := (bs.take (8 + psize bs)).drop 8
def whole (bs : List Nat) : Bool := decide (psize bs ≤ 504) && decide (sealB (bs.getD 6 0) (pin bs) = bs)
theorem pin_length {bs : List Nat} (hl : bs.length = 512) (h : psize bs ≤ 504) : (pin bs).length = psize bs := by simp [pin]; omega

/-- the tests of Open are those of the document -/
theorem whole_iff {bs : List Nat} (hl : bs.length = 512) (hb : ∀ x ∈ bs, x < 256) :
    whole bs = (decide (bs.take 4 = le4 (crc (bs.drop 4))) && (decide (psize bs ≤ 504) && (decide (bs.getD 7 0 = 157) && !((bs.drop (8 + psize bs)).any fun x => decide (x ≠ 0))))) := by
  have h4 : bs.getD 4 0 < 256 := by
    rw [List.getD_eq_getElem?_getD, List.getElem?_eq_getElem (by omega)]; exact hb _ (List.getElem_mem _)
  have h5 : bs.getD 5 0 < 256 := by
    rw [List.getD_eq_getElem?_getD, List.getElem?_eq_getElem (by omega)]; exact hb _ (List.getElem_mem _)
  unfold whole
  by_cases hs : psize bs ≤ 504
  · simp only [decide_eq_true hs, Bool.true_and]
    have hp := pin_length hl hs
    have hbody : body (bs.getD 6 0) (pin bs) = bs.drop 4 ↔ (bs.getD 7 0 = 157 ∧ ((bs.drop (8 + psize bs)).any fun x => decide (x ≠ 0)) = false) := by
      have e1 : bs.drop 4 = [bs.getD 4 0, bs.getD 5 0, bs.getD 6 0, bs.getD 7 0] ++ (pin bs ++ bs.drop (8 + psize bs)) := by
        have e2 : pin bs ++ bs.drop (8 + psize bs) = bs.drop 8 := by
          unfold pin
          have : bs.drop 8 = ((bs.take (8 + psize bs)) ++ bs.drop (8 + psize bs)).drop 8 := by rw [List.take_append_drop]
          rw [this, List.drop_append_of_le_length (by simp; omega)]
        rw [e2]
        have g : ∀ i (hi : i < bs.length), bs.getD i 0 = bs[i] := fun i hi => by rw [List.getD_eq_getElem?_getD, List.getElem?_eq_getElem hi]; rfl
        rw [g 4 (by omega), g 5 (by omega), g 6 (by omega), g 7 (by omega)]
        rw [List.drop_eq_getElem_cons (by omega : 4 < bs.length), List.drop_eq_getElem_cons (by omega : 5 < bs.length), List.drop_eq_getElem_cons (by omega : 6 < bs.length), List.drop_eq_getElem_cons (by omega : 7 < bs.length)]
        rfl
      rw [e1, body, hp]
      have q1 : psize bs % 256 = bs.getD 4 0 := by unfold psize; omega
      have q2 : psize bs / 256 % 256 = bs.getD 5 0 := by unfold psize; omega
      rw [q1, q2]
      simp only [List.cons_append, List.nil_append, List.cons.injEq, true_and, List.append_cancel_left_eq]
      have hz : List.replicate (504 - psize bs) 0 = bs.drop (8 + psize bs) ↔ ((bs.drop (8 + psize bs)).any fun x => decide (x ≠ 0)) = false := by
        rw [eq_comm, List.eq_replicate_iff, List.any_eq_false]
        constructor
        · rintro ⟨_, h⟩ x hx; simpa using h x hx
        · intro h; exact ⟨by simp; omega, fun x hx => by simpa using h x hx⟩
      rw [hz]
      exact ⟨fun ⟨a, b⟩ => ⟨a.symm, b⟩, fun ⟨a, b⟩ => ⟨a.symm, b⟩⟩
    have key : sealB (bs.getD 6 0) (pin bs) = bs ↔ (bs.take 4 = le4 (crc (bs.drop 4)) ∧ body (bs.getD 6 0) (pin bs) = bs.drop 4) := by
      have hl4 : (le4 (crc (body (bs.getD 6 0) (pin bs)))).length = (bs.take 4).length := by simp [le4]; omega
      constructor
      · intro h
        have h2 : le4 (crc (body (bs.getD 6 0) (pin bs))) ++ body (bs.getD 6 0) (pin bs) = bs.take 4 ++ bs.drop 4 := by rw [List.take_append_drop]; exact h
        obtain ⟨h3, h6⟩ := List.append_inj h2 hl4
        exact ⟨by rw [← h6, h3], h6⟩
      · rintro ⟨h, h6⟩
        rw [sealB, h6, ← h, List.take_append_drop]
    rw [Bool.eq_iff_iff]
    simp only [decide_eq_true_eq, Bool.and_eq_true, Bool.not_eq_true', key, hbody]
  · simp [hs]

theorem bor_add {x y : Nat} (hx : x < 256) : x ||| (y * 256) = x + 256 * y := by
  have := Nat.two_pow_add_eq_or_of_lt (i := 8) (b := x) (by omega) y
  rw [Nat.or_comm, show y * 256 = 2 ^ 8 * y by omega, ← this]; omega

structure Callees2 (cf : CF) : Prop extends Callees cf where
  has : ∀ v h (bs : List Nat), IsS h v (bs.map bV) → (∀ x ∈ bs, x < 256) → bs.length ≤ 4096 → cf ⟨.d0, .d0, .d1, .d1⟩ [v, .func 18 []] h = .ret (.bool (bs.any fun x => decide (x ≠ 0))) h

theorem at2 {h : Heap} {v : V} {bs : List Nat} (w : IsS h v (bs.map bV)) (hl : bs.length = 512) : ∃ b o c, v = .slice b o 512 c 1 ∧ ∀ i, i < 512 → ∀ k, load1k h b (Nat.add o i) k = k (bV (bs.getD i 0)) := by
  obtain ⟨b, o, n, c, s, rfl, hn, _⟩ := w.at_ (i := 0) (by simp; omega)
  have hn512 : n = 512 ∧ s = 1 := by
    generalize hll : bs.map bV = l at w
    have : l.length = 512 := by rw [← hll]; simpa using hl
    cases w
    exact ⟨this, rfl⟩
  obtain ⟨rfl, rfl⟩ := hn512
  refine ⟨b, o, c, rfl, fun i hi k => ?_⟩
  obtain ⟨b', o', n', c', s', e, _, h2⟩ := w.at_ (i := i) (by simp; omega)
  cases e
  rw [h2, List.getElem_map, List.getD_eq_getElem?_getD, List.getElem?_eq_getElem (by omega)]
  rfl
end Go.Ev.W02

/- PAGE: Open answers as the document does. -/
namespace Go.Ev.W02
open Go.Proofs

/-- the four bytes of the sum are what they should be -/
theorem bytes4 {bs : List Nat} (hl : 4 ≤ bs.length) (q : Nat) : bs.take 4 = le4 q ↔ ∀ i, i < 4 → bs.getD i 0 = q / 2 ^ (8 * i) % 256 := by
  have hlen : (le4 q).length = 4 := rfl
  constructor
  · intro h i hi
    have h1 : (bs.take 4)[i]? = (le4 q)[i]? := by rw [h]
    rw [List.getElem?_take_of_lt hi, le4_get q i hi] at h1
    rw [List.getD_eq_getElem?_getD, h1]; rfl
  · intro h
    apply List.ext_getElem?
    intro i
    by_cases hi : i < 4
    · rw [List.getElem?_take_of_lt hi, le4_get q i hi, ← h i hi, List.getD_eq_getElem?_getD, List.getElem?_eq_getElem (by omega)]; rfl
    · rw [List.getElem?_eq_none (by simp; omega), List.getElem?_eq_none (by omega)]

theorem open_law {n : Nat} {cf : CF} (C : Callees2 cf) {h : Heap} {v : V} {bs : List Nat} (t : Tab h) (w : IsS h v (bs.map bV)) (lo : Low v h.nx.val) (hb : ∀ x ∈ bs, x < 256) (hn : 4 < n) :
    (bs.length ≠ 512 → sh11 words n cf [v] h = .ret (.tup [bV 0, .nils, .int .i64 (.ofNat 2)]) h) ∧
    (bs.length = 512 → whole bs = false → sh11 words n cf [v] h = .ret (.tup [bV 0, .nils, .int .i64 (.ofNat 20)]) h) ∧
    (bs.length = 512 → whole bs = true → ∃ h' v', sh11 words n cf [v] h = .ret (.tup [bV (bs.getD 6 0), v', .int .i64 (.ofNat 0)]) h' ∧ Own h' h.nx.val v' ((pin bs).map bV) ∧ Up h h') := by
  refine ⟨fun hl => ?_, ?_⟩
  · unfold sh11
    simp only [unc_cons, nilk'_nil, w.len, List.length_map, ieq_nat, decide_eq_false hl, Bool.not_false, ifk_true, bV]
  suffices main : bs.length = 512 → (whole bs = false ∧ sh11 words n cf [v] h = .ret (.tup [bV 0, .nils, .int .i64 (.ofNat 20)]) h) ∨ (whole bs = true ∧ ∃ h' v', sh11 words n cf [v] h = .ret (.tup [bV (bs.getD 6 0), v', .int .i64 (.ofNat 0)]) h' ∧
      Own h' h.nx.val v' ((pin bs).map bV) ∧ Up h h') by
    refine ⟨fun hl hw => ?_, fun hl hw => ?_⟩
    · rcases main hl with ⟨_, h1⟩ | ⟨h1, _⟩
      · exact h1
      · rw [hw] at h1; cases h1
    · rcases main hl with ⟨h1, _⟩ | ⟨_, h1⟩
      · rw [hw] at h1; cases h1
      · exact h1
  intro hl
  obtain ⟨b, o, c, rfl, ld⟩ := at2 w hl
  have lt : ∀ i, i < 512 → bs.getD i 0 < 256 := fun i hi => by
    rw [List.getD_eq_getElem?_getD, List.getElem?_eq_getElem (by omega)]; exact hb _ (List.getElem_mem _)
  obtain ⟨v6, e6, s6, _⟩ := slice_law w (i := 4) (j := 512) (by omega) (by simp; omega) (lo := some (.int .i64 (.ofNat 4))) (hi := none) (fun k => rfl) (fun k => by rw [List.length_map, hl]; rfl)
  have c6 : ((bs.map bV).take 512).drop 4 = (bs.drop 4).map bV := by rw [List.take_of_length_le (by simp; omega), List.map_drop]
  rw [c6] at s6
  have sum6 := C.sum v6 h (bs.drop 4) t s6 (fun x hx => hb x (List.mem_of_mem_drop hx)) (by simp; omega)
  have hcr := crc_lt (bs := bs.drop 4)
  rw [whole_iff hl hb]
  generalize hq : crc (bs.drop 4) = q at hcr sum6
  unfold sh11
  simp only [unc_cons, nilk'_nil, lenk_slice, ieq_nat, decide_true, Bool.not_true, ifk_false, e6, sum6, backk_ret, castI_int]
  -- the loop over the sum's bytes
  have loop : ∀ (body : (List V → Heap → Res) → List V → Heap → Res), (∀ again i, i < 4 → body again [.slice b o 512 c 1, .int .u32 (.ofNat q), .int .i64 (.ofNat i)] h =
        if bs.getD i 0 = q / 2 ^ (8 * i) % 256 then again [.slice b o 512 c 1, .int .u32 (.ofNat q), .int .i64 (.ofNat (i + 1))] h else .done .ret [.slice b o 512 c 1, bV 0, .nils, .int .i64 (.ofNat 20)] h) →
      (∀ again, body again [.slice b o 512 c 1, .int .u32 (.ofNat q), .int .i64 (.ofNat 4)] h = .done .normal [.slice b o 512 c 1, .und, .und, .und] h) →
      (bs.take 4 = le4 q ∧ lpk body n [.slice b o 512 c 1, .int .u32 (.ofNat q), .int .i64 (.ofNat 0)] h = .done .normal [.slice b o 512 c 1, .und, .und, .und] h) ∨
      (bs.take 4 ≠ le4 q ∧ lpk body n [.slice b o 512 c 1, .int .u32 (.ofNat q), .int .i64 (.ofNat 0)] h = .done .ret [.slice b o 512 c 1, bV 0, .nils, .int .i64 (.ofNat 20)] h) := by
    intro body h1 h2
    refine lpk_inv (I := fun vs h'' m => ∃ i, i ≤ 4 ∧ m = 4 - i ∧ vs = [.slice b o 512 c 1, .int .u32 (.ofNat q), .int .i64 (.ofNat i)] ∧ h'' = h ∧ ∀ j, j < i → bs.getD j 0 = q / 2 ^ (8 * j) % 256)
      (Q := fun r => (bs.take 4 = le4 q ∧ r = .done .normal [.slice b o 512 c 1, .und, .und, .und] h) ∨ (bs.take 4 ≠ le4 q ∧ r = .done .ret [.slice b o 512 c 1, bV 0, .nils, .int .i64 (.ofNat 20)] h)) ?_ n _ _ 4 hn
      ⟨0, by omega, rfl, rfl, rfl, fun j hj => by omega⟩
    rintro again vs h'' m ⟨i, hi, rfl, rfl, rfl, hj⟩ ih
    by_cases hi4 : i < 4
    · rw [h1 again i hi4]
      split
      · rename_i he
        exact ih _ _ (4 - (i + 1)) (by omega) ⟨i + 1, hi4, rfl, rfl, rfl, fun j hj' => by
          rcases Nat.lt_or_eq_of_le (Nat.le_of_lt_succ hj') with h3 | rfl
          · exact hj j h3
          · exact he⟩
      · rename_i he
        exact .inr ⟨fun h4 => he ((bytes4 (by omega) q).1 h4 i hi4), rfl⟩
    · obtain rfl : i = 4 := by omega
      rw [h2]
      exact .inl ⟨(bytes4 (by omega) q).2 fun j hj' => hj j hj', rfl⟩
  generalize hB : lpk _ n [.slice b o 512 c 1, .int .u32 (.ofNat q), .int .i64 (.ofNat 0)] h = LP
  have hLP : (bs.take 4 = le4 q ∧ LP = .done .normal [.slice b o 512 c 1, .und, .und, .und] h) ∨ (bs.take 4 ≠ le4 q ∧ LP = .done .ret [.slice b o 512 c 1, bV 0, .nils, .int .i64 (.ofNat 20)] h) := by
    rw [← hB]
    refine loop _ (fun again i hi => ?_) fun again => ?_
    · have e0 : Nat.min (8 * i) 32 = 8 * i := Nat.min_eq_left (by omega)
      simp only [unc_cons, castF_int, nilk'_nil, ilt_nat, decide_eq_true hi, ifk_true, slk_slice, natk_ofNat, blt_of (show i < 512 by omega), backk_ret, ptrk_ptr, mul_nat, wrapv_small .i64 (8 * i) (show _ ≤ 9223372036854775807 by omega),
        shrv_nat, intk_int, wrapv_u8, castI_int, e0, add_nat, wrapv_small .i64 (i + 1) (show _ ≤ 9223372036854775807 by omega)]
      rw [show words.load1 = load1k from rfl, ld i (by omega)]
      simp only [bV, castI_int, backk_ret, ieq_nat]
      rw [show Nat.pow 2 (8 * i) = 2 ^ (8 * i) from rfl]
      split
      · rename_i he
        rw [decide_eq_true he]; rfl
      · rename_i he
        rw [decide_eq_false he]; rfl
    · simp only [unc_cons, castF_int, nilk'_nil, ilt_nat, decide_eq_false (show ¬ 4 < 4 by omega), ifk_false]
  clear hB loop
  rcases hLP with ⟨h4, rfl⟩ | ⟨h4, rfl⟩
  · rw [decide_eq_true h4, Bool.true_and]
    have b4 := lt 4 (by omega)
    have b5 := lt 5 (by omega)
    have b7 := lt 7 (by omega)
    have b6 := lt 6 (by omega)
    have esz : bor .i64 (.ofNat (bs.getD 4 0)) (.ofNat (bs.getD 5 0 * 256)) = .ofNat (psize bs) := by
      rw [bor_small .i64 _ _ (show _ ≤ 9223372036854775807 by omega) (show _ ≤ 9223372036854775807 by omega), bor_add b4]; rfl
    have hps : psize bs < 65536 := by unfold psize; omega
    simp only [contk_done, unc_cons, nilk'_nil, nork_normal, slk_slice, blt_of (show 4 < 512 by omega), blt_of (show 5 < 512 by omega), ifk_true, backk_ret, ptrk_ptr]
    rw [show words.load1 = load1k from rfl]
    simp only [ld 4 (by omega), bV, castI_int, backk_ret, ld 5 (by omega), wrapv_small .i64 (bs.getD 4 0) (show _ ≤ 9223372036854775807 by omega), wrapv_small .i64 (bs.getD 5 0) (show _ ≤ 9223372036854775807 by omega), mul_nat,
      wrapv_small .i64 (bs.getD 5 0 * 256) (show _ ≤ 9223372036854775807 by omega), esz, ilt_nat]
    by_cases hs : psize bs ≤ 504
    · rw [decide_eq_true hs, Bool.true_and, decide_eq_false (show ¬ 504 < psize bs by omega)]
      simp only [Bool.not_false, ifk_true, backk_ret, slk_slice, blt_of (show 7 < 512 by omega), ptrk_ptr, ld 7 (by omega), bV, castI_int, intk_int, show Nat.beq (kno .u8) 4 = true from rfl, ieq_nat, pickv_false]
      by_cases h7 : bs.getD 7 0 = 157
      · obtain ⟨v8, e8, s8, _⟩ := slice_law w (i := 8 + psize bs) (j := 512) (by omega) (by simp; omega) (lo := some (.int .i64 (.ofNat (8 + psize bs)))) (hi := none) (fun k => rfl) (fun k => by rw [List.length_map, hl]; rfl)
        have c8 : ((bs.map bV).take 512).drop (8 + psize bs) = (bs.drop (8 + psize bs)).map bV := by rw [List.take_of_length_le (by simp; omega), List.map_drop]
        rw [c8] at s8
        have has8 := C.has v8 h (bs.drop (8 + psize bs)) s8 (fun x hx => hb x (List.mem_of_mem_drop hx)) (by simp; omega)
        rw [decide_eq_true h7, Bool.true_and]
        simp only [Bool.not_true, castB_bool, Bool.not_false, ifk_true, backk_ret, intk_int, show Nat.beq 3 (kno .i64) = true from rfl, add_nat, wrapv_small .i64 (8 + psize bs) (show _ ≤ 9223372036854775807 by omega), e8, has8, pickv_false]
        cases hz : (bs.drop (8 + psize bs)).any fun x => decide (x ≠ 0) with
        | true => exact .inl ⟨rfl, rfl⟩
        | false =>
          refine .inr ⟨rfl, ?_⟩
          obtain ⟨v9, e9, s9, l9⟩ := slice_law w (i := 8) (j := 8 + psize bs) (by omega) (by simp; omega) (lo := some (.int .i64 (.ofNat 8))) (hi := some (.int .i64 (.ofNat (8 + psize bs)))) (fun k => rfl) (fun k => rfl)
          have c9 : ((bs.map bV).take (8 + psize bs)).drop 8 = (pin bs).map bV := by rw [pin, List.map_drop, List.map_take]
          rw [c9] at s9
          obtain ⟨h8, v', g1, g2, g3⟩ := C.clone v9 h _ s9 (l9 _ lo) (by simp [pin_length hl hs]; omega)
          have ld' : ∀ k, load1k h8 b (Nat.add o 6) k = k (bV (bs.getD 6 0)) := by
            have w8 := w.upto lo g3
            intro k
            obtain ⟨b', o', c', e, ld8⟩ := at2 w8 hl
            cases e
            exact ld8 6 (by omega) k
          refine ⟨h8, v', ?_, g2, g3⟩
          simp only [ifk_false, blt_of (show 6 < 512 by omega), ifk_true, backk_ret, ptrk_ptr, ld 6 (by omega), bV, castI_int, e9, g1, veqk_slice, veqk_ptr, ld', veqk_int]
      · rw [decide_eq_false h7, Bool.false_and]
        refine .inl ⟨rfl, ?_⟩
        simp only [Bool.not_false, castB_bool, Bool.not_true, ifk_false, backk_ret, pickv_true, ifk_true]
    · rw [decide_eq_false hs, Bool.false_and, decide_eq_true (show 504 < psize bs by omega)]
      refine .inl ⟨rfl, ?_⟩
      simp only [Bool.not_true, ifk_false, backk_ret, pickv_true, castB_bool, ifk_true]
  · rw [decide_eq_false h4, Bool.false_and]
    refine .inl ⟨rfl, ?_⟩
    simp only [contk_done, unc_cons, nilk'_nil, nork_ret, endk_ret]
end Go.Ev.W02

/- PAGE: the document's Open. -/
namespace Go.Ev.W02
open Go.Proofs

structure Callees3 (cf : CF) : Prop where
  refseal : ∀ h v k (bs : List Nat), IsS h v (bs.map bV) → Low v h.nx.val → k < 256 → (∀ x ∈ bs, x < 256) → bs.length ≤ 504 →
    ∃ h' v', cf ⟨.d0, .d0, .d0, .d9⟩ [bV k, v] h = .ret (.tup [v', .int .i64 (.ofNat 0)]) h' ∧ Own h' h.nx.val v' ((sealB k bs).map bV) ∧ Up h h'

theorem refopen_law {n : Nat} {cf : CF} (C : Callees3 cf) {h : Heap} {v : V} {bs : List Nat} (w : IsS h v (bs.map bV)) (lo : Low v h.nx.val) (hb : ∀ x ∈ bs, x < 256) :
    (bs.length ≠ 512 → sh12 words n cf [v] h = .ret (.tup [bV 0, .nils, .int .i64 (.ofNat 2)]) h) ∧
    (bs.length = 512 → whole bs = false → ∃ h', sh12 words n cf [v] h = .ret (.tup [bV 0, .nils, .int .i64 (.ofNat 20)]) h' ∧ Up h h') ∧
    (bs.length = 512 → whole bs = true → ∃ h' v', sh12 words n cf [v] h = .ret (.tup [bV (bs.getD 6 0), v', .int .i64 (.ofNat 0)]) h' ∧ Own h' h.nx.val v' ((pin bs).map bV) ∧ Up h h') := by
  refine ⟨fun hl => ?_, ?_⟩
  · unfold sh12
    simp only [unc_cons, nilk'_nil, w.len, List.length_map, ieq_nat, decide_eq_false hl, Bool.not_false, ifk_true, bV]
  suffices main : bs.length = 512 → (whole bs = false ∧ ∃ h', sh12 words n cf [v] h = .ret (.tup [bV 0, .nils, .int .i64 (.ofNat 20)]) h' ∧ Up h h') ∨ (whole bs = true ∧ ∃ h' v', sh12 words n cf [v] h = .ret (.tup [bV (bs.getD 6 0), v', .int .i64 (.ofNat 0)]) h' ∧
      Own h' h.nx.val v' ((pin bs).map bV) ∧ Up h h') by
    refine ⟨fun hl hw => ?_, fun hl hw => ?_⟩
    · rcases main hl with ⟨_, h1⟩ | ⟨h1, _⟩
      · exact h1
      · rw [hw] at h1; cases h1
    · rcases main hl with ⟨h1, _⟩ | ⟨_, h1⟩
      · rw [hw] at h1; cases h1
      · exact h1
  intro hl
  obtain ⟨b, o, c, rfl, ld⟩ := at2 w hl
  have lt : ∀ i, i < 512 → bs.getD i 0 < 256 := fun i hi => by
    rw [List.getD_eq_getElem?_getD, List.getElem?_eq_getElem (by omega)]; exact hb _ (List.getElem_mem _)
  have b4 := lt 4 (by omega)
  have b5 := lt 5 (by omega)
  have b6 := lt 6 (by omega)
  have esz : bs.getD 4 0 + 256 * bs.getD 5 0 = psize bs := rfl
  have hps : psize bs < 65536 := by unfold psize; omega
  unfold sh12
  simp only [unc_cons, nilk'_nil, lenk_slice, ieq_nat, decide_true, Bool.not_true, ifk_false, slk_slice, blt_of (show 4 < 512 by omega), blt_of (show 5 < 512 by omega), ifk_true, backk_ret, ptrk_ptr]
  rw [show words.load1 = load1k from rfl]
  simp only [ld 4 (by omega), bV, castI_int, backk_ret, ld 5 (by omega), wrapv_small .i64 (bs.getD 4 0) (show _ ≤ 9223372036854775807 by omega), wrapv_small .i64 (bs.getD 5 0) (show _ ≤ 9223372036854775807 by omega), mul_nat,
    wrapv_small .i64 (256 * bs.getD 5 0) (show _ ≤ 9223372036854775807 by omega), add_nat, esz, wrapv_small .i64 (psize bs) (show _ ≤ 9223372036854775807 by omega), ilt_nat, wrapv_small .i64 (8 + psize bs) (show _ ≤ 9223372036854775807 by omega)]
  by_cases hs : psize bs ≤ 504
  · obtain ⟨v9, e9, s9, l9⟩ := slice_law w (i := 8) (j := 8 + psize bs) (by omega) (by simp; omega) (lo := some (.int .i64 (.ofNat 8))) (hi := some (.int .i64 (.ofNat (8 + psize bs)))) (fun k => rfl) (fun k => rfl)
    have c9 : ((bs.map bV).take (8 + psize bs)).drop 8 = (pin bs).map bV := by rw [pin, List.map_drop, List.map_take]
    rw [c9] at s9
    have hp := pin_length hl hs
    have hpb : ∀ x ∈ pin bs, x < 256 := fun x hx => hb x (List.mem_of_mem_take (List.mem_of_mem_drop hx))
    obtain ⟨h1, v1, e1, o1, u1⟩ := app_own (lo := h.nx.val) (Own.nils (h := h)) s9 (Nat.le_refl _) (by simp [hp]; omega)
    rw [List.nil_append] at o1
    have up1 := u1.up
    have ld1 : ∀ i, i < 512 → ∀ k, load1k h1 b (Nat.add o i) k = k (bV (bs.getD i 0)) := by
      obtain ⟨b', o', c', e, ld1⟩ := at2 (w.upto lo up1) hl
      cases e
      exact ld1
    obtain ⟨h2, v2, e2, o2, u2⟩ := C.refseal h1 v1 (bs.getD 6 0) (pin bs) o1.isS o1.low b6 hpb (by omega)
    have w2 := (w.upto lo (up1.trans u2))
    have ld2 : ∀ i, i < 512 → ∀ k, load1k h2 b (Nat.add o i) k = k (bV (bs.getD i 0)) := by
      obtain ⟨b', o', c', e, ld2⟩ := at2 w2 hl
      cases e
      exact ld2
    simp only [bV] at e2
    simp only [decide_eq_false (show ¬ 504 < psize bs by omega), ifk_false, e9, e1, blt_of (show 6 < 512 by omega), ifk_true, ld1 6 (by omega), bV, castI_int, e2, backk_ret, tupk_tup, unc_cons, nilk'_nil,
      bytesS_law o2.isS (sealB_lt b6 hpb), bytesS_law w2 hb, castS_str, seq_pack (sealB_lt b6 hpb) hb]
    have hw : whole bs = decide (sealB (bs.getD 6 0) (pin bs) = bs) := by unfold whole; rw [decide_eq_true hs, Bool.true_and]
    rw [hw]
    by_cases he : sealB (bs.getD 6 0) (pin bs) = bs
    · rw [decide_eq_true he]
      refine .inr ⟨rfl, h2, v1, ?_, o1.up u2, up1.trans u2⟩
      simp only [Bool.not_true, ifk_false, ld2 6 (by omega), bV, castI_int]
    · rw [decide_eq_false he]
      exact .inl ⟨rfl, h2, rfl, up1.trans u2⟩
  · refine .inl ⟨by unfold whole; rw [decide_eq_false hs]; rfl, h, ?_, .refl _⟩
    simp only [decide_eq_true (show 504 < psize bs by omega), ifk_true]
end Go.Ev.W02

/- PAGE: what was sealed is opened; the short calls. -/
namespace Go.Ev.W02
open Go.Proofs

theorem seal_parts {k : Nat} {bs : List Nat} (hl : bs.length ≤ 504) : psize (sealB k bs) = bs.length ∧ (sealB k bs).getD 6 0 = k ∧ pin (sealB k bs) = bs := by
  have e : ∃ a b c d, sealB k bs = [a, b, c, d, bs.length % 256, bs.length / 256 % 256, k, 157] ++ (bs ++ List.replicate (504 - bs.length) 0) := ⟨_, _, _, _, rfl⟩
  obtain ⟨a, b, c, d, e⟩ := e
  have h1 : psize (sealB k bs) = bs.length := by rw [e]; show bs.length % 256 + 256 * (bs.length / 256 % 256) = _; omega
  refine ⟨h1, by rw [e]; rfl, ?_⟩
  rw [pin, h1, e, List.take_append, List.drop_append]
  simp
theorem seal_whole {k : Nat} {bs : List Nat} (hl : bs.length ≤ 504) : whole (sealB k bs) = true := by
  obtain ⟨h1, h2, h3⟩ := seal_parts (k := k) hl
  unfold whole
  rw [h1, h2, h3]
  simp [hl]

/-- what the program's functions and the document's answer -/
structure CallP (cf : CF) : Prop where
  sum : ∀ v h (bs : List Nat), Tab h → IsS h v (bs.map bV) → (∀ x ∈ bs, x < 256) → bs.length ≤ 4096 → cf ⟨.d0, .d0, .d0, .dd⟩ [v] h = .ret (.int .u32 (.ofNat (crc bs))) h
  refsum : ∀ v h (bs : List Nat), IsS h v (bs.map bV) → (∀ x ∈ bs, x < 256) → bs.length ≤ 4096 → cf ⟨.d0, .d0, .d0, .de⟩ [v] h = .ret (.int .u32 (.ofNat (crc bs))) h
  big : ∀ v h k (bs : List Nat), Tab h → 0 < h.nx.val → IsS h v (bs.map bV) → Low v h.nx.val → k < 256 → (∀ x ∈ bs, x < 256) → 504 < bs.length → cf ⟨.d0, .d0, .d0, .d8⟩ [bV k, v] h = .ret (.tup [.nils, .int .i64 (.ofNat 2)]) h
  shut : ∀ v h k (bs : List Nat), Tab h → 0 < h.nx.val → IsS h v (bs.map bV) → Low v h.nx.val → k < 256 → (∀ x ∈ bs, x < 256) → bs.length ≤ 504 →
    ∃ h' v', cf ⟨.d0, .d0, .d0, .d8⟩ [bV k, v] h = .ret (.tup [v', .int .i64 (.ofNat 0)]) h' ∧ Own h' h.nx.val v' ((sealB k bs).map bV) ∧ Up h h'
  refbig : ∀ v h k (bs : List Nat), IsS h v (bs.map bV) → Low v h.nx.val → k < 256 → (∀ x ∈ bs, x < 256) → 504 < bs.length → cf ⟨.d0, .d0, .d0, .d9⟩ [bV k, v] h = .ret (.tup [.nils, .int .i64 (.ofNat 2)]) h
  refshut : ∀ v h k (bs : List Nat), IsS h v (bs.map bV) → Low v h.nx.val → k < 256 → (∀ x ∈ bs, x < 256) → bs.length ≤ 504 →
    ∃ h' v', cf ⟨.d0, .d0, .d0, .d9⟩ [bV k, v] h = .ret (.tup [v', .int .i64 (.ofNat 0)]) h' ∧ Own h' h.nx.val v' ((sealB k bs).map bV) ∧ Up h h'
  openN : ∀ v h (bs : List Nat), Tab h → IsS h v (bs.map bV) → Low v h.nx.val → (∀ x ∈ bs, x < 256) → bs.length ≠ 512 → cf ⟨.d0, .d0, .d0, .db⟩ [v] h = .ret (.tup [bV 0, .nils, .int .i64 (.ofNat 2)]) h
  openF : ∀ v h (bs : List Nat), Tab h → IsS h v (bs.map bV) → Low v h.nx.val → (∀ x ∈ bs, x < 256) → bs.length = 512 → whole bs = false → cf ⟨.d0, .d0, .d0, .db⟩ [v] h = .ret (.tup [bV 0, .nils, .int .i64 (.ofNat 20)]) h
  openT : ∀ v h (bs : List Nat), Tab h → IsS h v (bs.map bV) → Low v h.nx.val → (∀ x ∈ bs, x < 256) → bs.length = 512 → whole bs = true →
    ∃ h' v', cf ⟨.d0, .d0, .d0, .db⟩ [v] h = .ret (.tup [bV (bs.getD 6 0), v', .int .i64 (.ofNat 0)]) h' ∧ Own h' h.nx.val v' ((pin bs).map bV) ∧ Up h h'
  refopenN : ∀ v h (bs : List Nat), IsS h v (bs.map bV) → Low v h.nx.val → (∀ x ∈ bs, x < 256) → bs.length ≠ 512 → cf ⟨.d0, .d0, .d0, .dc⟩ [v] h = .ret (.tup [bV 0, .nils, .int .i64 (.ofNat 2)]) h
  refopenF : ∀ v h (bs : List Nat), IsS h v (bs.map bV) → Low v h.nx.val → (∀ x ∈ bs, x < 256) → bs.length = 512 → whole bs = false →
    ∃ h', cf ⟨.d0, .d0, .d0, .dc⟩ [v] h = .ret (.tup [bV 0, .nils, .int .i64 (.ofNat 20)]) h' ∧ Up h h'
  refopenT : ∀ v h (bs : List Nat), IsS h v (bs.map bV) → Low v h.nx.val → (∀ x ∈ bs, x < 256) → bs.length = 512 → whole bs = true →
    ∃ h' v', cf ⟨.d0, .d0, .d0, .dc⟩ [v] h = .ret (.tup [bV (bs.getD 6 0), v', .int .i64 (.ofNat 0)]) h' ∧ Own h' h.nx.val v' ((pin bs).map bV) ∧ Up h h'

theorem Own.cons {h : Heap} {lo : Nat} {v : V} {l : List V} (w : Own h lo v l) (hl : l ≠ []) : ∃ b c, v = .slice b 0 l.length c 1 ∧ lo ≤ b.val ∧ b.val < h.nx.val ∧ Row (h.t.get b) 1 l := by
  cases w with
  | nils => exact absurd rfl hl
  | sl b c _ blo bhi row cap => exact ⟨b, c, rfl, blo, bhi, row⟩

theorem zero_torn : whole (List.replicate 512 0) = false := by decide +kernel
theorem crc_one : crc [1] = 2768625435 := by decide +kernel
theorem make_law (n : Nat) (hn : n ≤ 16777216) (h : Heap) : ∃ h', (∀ k, words.make 1 [bV 0] (.int .i64 (.ofNat n)) (.int .i64 (.ofNat n)) h k = k (.slice h.nx 0 n (some n) 1) h') ∧ Own h' h.nx.val (.slice h.nx 0 n (some n) 1) ((List.replicate n 0).map bV) ∧ Up h h' := by
  obtain ⟨h', h3, h4, h5⟩ := newk_law h (.arr 1 n (repT [bV 0] n n) false)
  refine ⟨h', fun k => ?_, ?_, h5.up⟩
  · show ifk (Nat.ble n n) (ifk (Nat.ble n 16777216) (h.newk (.arr 1 n (repT [bV 0] n n) false) fun bb h' => k (.slice bb 0 n (some n) 1) h') .fail) .fail = _
    rw [ble_of (Nat.le_refl n), ble_of hn, ifk_true, ifk_true, h3]
  · have := Own.sl (h := h') (lo := h.nx.val) h.nx (some n) ((List.replicate n 0).map bV) (Nat.le_refl _) h5.lt (by
      rw [h4]
      refine row_ext (Row.rep [bV 0] (by simp) n) ?_
      rw [List.map_replicate]
      clear hn h3 h4 h5
      induction n with
      | zero => rfl
      | succ m ih => rw [List.replicate_succ, List.flatten_cons, ih, List.replicate_succ]; rfl) (fun m e => by cases e; simp)
    simpa using this
theorem works_law {n : Nat} {cf : CF} (C : CallP cf) {h : Heap} (t : Tab h) (h0 : 0 < h.nx.val) : ∃ h', sh10 words n cf [] h = .ret (.bool true) h' ∧ Up h h' := by
  obtain ⟨h1, e1, o1, n1⟩ := build_own [bV 9] h
  have b9 : ∀ x ∈ [9], x < 256 := by simp
  have t1 := t.up h0 n1.up
  have h01 : 0 < h1.nx.val := Nat.lt_of_lt_of_le h0 n1.up.nx
  obtain ⟨h2, v2, e2, o2, u2⟩ := C.shut _ h1 7 [9] t1 h01 (o1.isS : IsS h1 _ ([9].map bV)) o1.low (by omega) b9 (by simp)
  have t2 := t1.up h01 u2
  have h02 : 0 < h2.nx.val := Nat.lt_of_lt_of_le h01 u2.nx
  have hl9 : (sealB 7 [9]).length = 512 := sealB_length (by simp)
  obtain ⟨h3, v3, e3, o3, u3⟩ := C.openT v2 h2 (sealB 7 [9]) t2 o2.isS o2.low (sealB_lt (by omega) b9) hl9 (seal_whole (by simp))
  obtain ⟨_, g6, gp⟩ := seal_parts (k := 7) (bs := [9]) (by simp)
  rw [g6] at e3
  rw [gp] at o3
  have t3 := t2.up h02 u3
  have h03 : 0 < h3.nx.val := Nat.lt_of_lt_of_le h02 u3.nx
  obtain ⟨h4, e4, o4, u4⟩ := make_law 512 (by omega) h3
  have t4 := t3.up h03 u4
  have h04 : 0 < h4.nx.val := Nat.lt_of_lt_of_le h03 u4.nx
  have e5 := C.openF _ h4 (List.replicate 512 0) t4 o4.isS o4.low (fun x hx => by have := (List.mem_replicate.1 hx).2; omega) List.length_replicate zero_torn
  obtain ⟨b3, c3, rfl, _, _, r3⟩ := Own.cons o3 (by simp)
  have s3 := (o3.up u4).isS
  have ld3 : ∀ k, load1k h4 b3 (Nat.add 0 0) k = k (bV 9) := fun k => by
    obtain ⟨b', o', n', c', s', e, _, h2⟩ := s3.at_ (i := 0) (by simp)
    cases e
    rw [h2]; rfl
  obtain ⟨h5, e6, o6, n6⟩ := build_own [bV 1] h4
  have e7 := C.sum _ h5 [1] (t4.up h04 n6.up) (o6.isS : IsS h5 _ ([1].map bV)) (by simp) (by simp)
  rw [crc_one] at e7
  refine ⟨h5, ?_, (u4.trans n6.up |> u3.trans |> u2.trans |> n1.up.trans)⟩
  simp only [bV, List.map_cons, List.map_nil, List.length_cons, List.length_nil] at e1 e2 e3 e4 e5 e6 e7 ld3
  unfold sh10
  simp only [nilk'_nil, e1, e2, backk_ret, tupk_tup, unc_cons, castI_int, e3, e4, e5, ieq_nat, decide_true, ifk_true, intk_int, show Nat.beq (kno .i64) 3 = true from rfl, show Nat.beq (kno .u8) 4 = true from rfl,
    show Nat.beq (kno .u32) 6 = true from rfl, pickv_true, castB_bool, lenk_slice, slk_slice, blt_of (show 0 < 0 + 1 by omega), ptrk_ptr, show words.load1 = load1k from rfl, ld3, e6, e7]
end Go.Ev.W02

/- PAGE: the laws PageBack, PageSeals, PageOpens. -/
namespace Go.Ev.W02
open Go.Proofs

structure CallQ (cf : CF) : Prop extends CallP cf where
  works : ∀ h, Tab h → 0 < h.nx.val → ∃ h', cf ⟨.d0, .d0, .d0, .da⟩ [] h = .ret (.bool true) h' ∧ Up h h'
theorem _root_.Go.Ev.IsS.lenB {h : Heap} {v : V} {bs : List Nat} (w : IsS h v (bs.map bV)) (k : Nat → Res) : lenk v k = k bs.length := by rw [w.len, List.length_map]

theorem pageBack_law {n : Nat} {cf : CF} (C : CallQ cf) {h : Heap} {v : V} {k : Nat} {bs : List Nat} (t : Tab h) (h0 : 0 < h.nx.val) (w : IsS h v (bs.map bV)) (lo : Low v h.nx.val) (hk : k < 256) (hb : ∀ x ∈ bs, x < 256) :
    ∃ h', sh5 words n cf [bV k, v] h = .ret (.bool true) h' := by
  by_cases hl : 504 < bs.length
  · have e1 := C.big v h k bs t h0 w lo hk hb hl
    obtain ⟨h1, e2, _⟩ := C.works h t h0
    refine ⟨h1, ?_⟩
    simp only [bV] at e1
    unfold sh5
    simp only [bV, unc_cons, castI_int, nilk'_nil, e1, backk_ret, tupk_tup, w.lenB, ilt_nat, decide_eq_true hl, ifk_true, ieq_nat, decide_true, lenk_nils, intk_int, show Nat.beq (kno .i64) 3 = true from rfl,
      show ieq (Int.ofNat 0) (Int.ofNat 0) = true from rfl, pickv_true, castB_bool, e2]
  · obtain ⟨h1, v1, e1, o1, u1⟩ := C.shut v h k bs t h0 w lo hk hb (by omega)
    have hl' : bs.length ≤ 504 := by omega
    have t1 := t.up h0 u1
    have h01 : 0 < h1.nx.val := Nat.lt_of_lt_of_le h0 u1.nx
    obtain ⟨h2, v2, e2, o2, u2⟩ := C.openT v1 h1 _ t1 o1.isS o1.low (sealB_lt hk hb) (sealB_length hl') (seal_whole hl')
    obtain ⟨_, g6, gp⟩ := seal_parts (k := k) hl'
    rw [g6] at e2
    rw [gp] at o2
    obtain ⟨h3, e3, _⟩ := C.works h2 (t1.up h01 u2) (Nat.lt_of_lt_of_le h01 u2.nx)
    refine ⟨h3, ?_⟩
    simp only [bV] at e1 e2
    unfold sh5
    simp only [bV, unc_cons, castI_int, nilk'_nil, e1, backk_ret, tupk_tup, w.lenB, ilt_nat, decide_eq_false hl, ifk_false, e2, ieq_nat, decide_true, ifk_true, intk_int, show Nat.beq (kno .i64) 3 = true from rfl, pickv_true, castB_bool,
      IsS.lenB (o1.up u2).isS, sealB_length hl', show Nat.beq (kno .u8) (kno .u8) = true from rfl, bytesS_law o2.isS hb, bytesS_law (w.upto lo (u1.trans u2)) hb, castS_str, strk_str, seq_pack hb hb, e3]

/-- a slice that is written over -/
theorem spoil_law {n : Nat} {h : Heap} {b : Bid} {l : List V} (row : Row (h.t.get b) 1 l) (hn : l.length < n) {A : List V} {body : (List V → Heap → Res) → List V → Heap → Res} {vs : Nat → List V}
    (hs : ∀ again i (h' : Heap), body again (vs i) h' = ifk (ilt (.ofNat i) (.ofNat l.length)) (ifk (Nat.blt i l.length) (words.store h' b (Nat.add 0 i) 1 [bV 238] fun h' => again (vs (i + 1)) h') .fail) (.done .normal A h')) :
    ∃ h', lpk body n (vs 0) h = .done .normal A h' ∧ But h b h' := by
  refine lpk_inv (I := fun w h'' m => ∃ i l', i ≤ l.length ∧ m = l.length - i ∧ w = vs i ∧ Row (h''.t.get b) 1 l' ∧ l'.length = l.length ∧ But h b h'') (Q := fun r => ∃ h', r = .done .normal A h' ∧ But h b h') ?_ n _ _ l.length hn
    ⟨0, l, by omega, by omega, rfl, row, rfl, ⟨rfl, fun _ _ => rfl⟩⟩
  rintro again w h'' m ⟨i, l', hi, rfl, rfl, ri, hli, bi⟩ ih
  rw [hs, ilt_nat]
  by_cases hlt : i < l.length
  · rw [decide_eq_true hlt, ifk_true, blt_of hlt, ifk_true, show Nat.add 0 i = i from Nat.zero_add i]
    obtain ⟨h8, e8, r8, b8⟩ := store1_law ri (o := i) (by omega) (bV 238)
    rw [e8]
    exact ih _ _ (l.length - (i + 1)) (by omega) ⟨i + 1, _, hlt, rfl, rfl, r8, by simpa using hli, ⟨b8.nx.trans bi.nx, fun b' hb' => (b8.get b' hb').trans (bi.get b' hb')⟩⟩
  · rw [decide_eq_false hlt, ifk_false]
    exact ⟨h'', rfl, bi⟩
theorem _root_.Go.Ev.But.isS {h h' : Heap} {b : Bid} {v : V} {l : List V} (u : But h b h') (w : IsS h v l) (hv : ∀ b' o n c s, v = .slice b' o n c s → b' ≠ b) : IsS h' v l := w.up fun b' o n c s e => u.get b' (hv b' o n c s e)
end Go.Ev.W02

/- PAGE: the table of functions; what each call comes to. -/
namespace Go.Ev.W02
open Go.Proofs
set_option maxRecDepth 100000
noncomputable def tz1 : N PO := ⟨.no, .no, .no, .no, .no, .no, .no, .no, .no, .no, .no, .no, .no, .no, .no, .no⟩
noncomputable def tz2 : N (N PO) := ⟨tz1, tz1, tz1, tz1, tz1, tz1, tz1, tz1, tz1, tz1, tz1, tz1, tz1, tz1, tz1, tz1⟩
noncomputable def tz3 : N (N (N PO)) := ⟨tz2, tz2, tz2, tz2, tz2, tz2, tz2, tz2, tz2, tz2, tz2, tz2, tz2, tz2, tz2, tz2⟩
noncomputable def t1_000 : N PO := ⟨.no, .no, .no, .sh (sh3 words), .sh (sh4 words), .sh (sh5 words), .sh (sh6 words), .no, .sh (sh8 words), .sh (sh9 words), .sh (sh10 words), .sh (sh11 words), .sh (sh12 words), .sh (sh13 words), .sh (sh14 words), .sh (sh15 words)⟩
noncomputable def t1_001 : N PO := ⟨.sh (sh16 words), .sh (sh17 words), .sh (sh18 words), .sh (sh19 words), .no, .no, .no, .no, .no, .no, .no, .no, .no, .no, .no, .no⟩
noncomputable def t2_00 : N (N PO) := ⟨t1_000, t1_001, tz1, tz1, tz1, tz1, tz1, tz1, tz1, tz1, tz1, tz1, tz1, tz1, tz1, tz1⟩
noncomputable def t3_0 : N (N (N PO)) := ⟨t2_00, tz2, tz2, tz2, tz2, tz2, tz2, tz2, tz2, tz2, tz2, tz2, tz2, tz2, tz2, tz2⟩
noncomputable def tab : FT := ⟨t3_0, tz3, tz3, tz3, tz3, tz3, tz3, tz3, tz3, tz3, tz3, tz3, tz3, tz3, tz3, tz3⟩
noncomputable def tabL : List (Fid × PO) := [(⟨.d0, .d0, .d0, .da⟩, .sh (sh10 words)), (⟨.d0, .d0, .d0, .dd⟩, .sh (sh13 words)), (⟨.d0, .d0, .d0, .db⟩, .sh (sh11 words)), (⟨.d0, .d0, .d1, .d0⟩, .sh (sh16 words)), (⟨.d0, .d0, .d1, .d2⟩, .sh (sh18 words)), (⟨.d0, .d0, .d1, .d1⟩, .sh (sh17 words)), (⟨.d0, .d0, .d1, .d3⟩, .sh (sh19 words)), (⟨.d0, .d0, .d0, .d8⟩, .sh (sh8 words)), (⟨.d0, .d0, .d0, .d9⟩, .sh (sh9 words)), (⟨.d0, .d0, .d0, .d4⟩, .sh (sh4 words)), (⟨.d0, .d0, .d0, .de⟩, .sh (sh14 words)), (⟨.d0, .d0, .d0, .dc⟩, .sh (sh12 words)), (⟨.d0, .d0, .d0, .d6⟩, .sh (sh6 words)), (⟨.d0, .d0, .d0, .df⟩, .sh (sh15 words)), (⟨.d0, .d0, .d0, .d5⟩, .sh (sh5 words)), (⟨.d0, .d0, .d0, .d3⟩, .sh (sh3 words))]
theorem tab_eq : tab = FT.of tabL := by kernel_rfl

theorem _root_.Go.Ev.POok.of {P : Program} {ng f : Nat} {fi : FI} {p : PF} {sh : Words → Nat → CF → List V → Heap → Res} (h1 : prep P ng fi f = some p.strip)
    (h2 : ∀ S n cf ar h, runFg (semOXg S) n cf p ar h = sh S n cf ar h) : POok P ng f (.sh (sh words)) :=
  ⟨fi, p, h1, fun m cf args h => by rw [← h2, semOXg_words]⟩
theorem po10 : POok Tryd.prog 1 10 (.sh (sh10 words)) := .of pf10_ok sh10_eq
theorem po13 : POok Tryd.prog 1 13 (.sh (sh13 words)) := .of pf13_ok sh13_eq
theorem po11 : POok Tryd.prog 1 11 (.sh (sh11 words)) := .of pf11_ok sh11_eq
theorem po16 : POok Tryd.prog 1 16 (.sh (sh16 words)) := .of pf16_ok sh16_eq
theorem po18 : POok Tryd.prog 1 18 (.sh (sh18 words)) := .of pf18_ok sh18_eq
theorem po17 : POok Tryd.prog 1 17 (.sh (sh17 words)) := .of pf17_ok sh17_eq
theorem po19 : POok Tryd.prog 1 19 (.sh (sh19 words)) := .of pf19_ok sh19_eq
theorem po8 : POok Tryd.prog 1 8 (.sh (sh8 words)) := .of pf8_ok sh8_eq
theorem po9 : POok Tryd.prog 1 9 (.sh (sh9 words)) := .of pf9_ok sh9_eq
theorem po4 : POok Tryd.prog 1 4 (.sh (sh4 words)) := .of pf4_ok sh4_eq
theorem po14 : POok Tryd.prog 1 14 (.sh (sh14 words)) := .of pf14_ok sh14_eq
theorem po12 : POok Tryd.prog 1 12 (.sh (sh12 words)) := .of pf12_ok sh12_eq
theorem po6 : POok Tryd.prog 1 6 (.sh (sh6 words)) := .of pf6_ok sh6_eq
theorem po15 : POok Tryd.prog 1 15 (.sh (sh15 words)) := .of pf15_ok sh15_eq
theorem po5 : POok Tryd.prog 1 5 (.sh (sh5 words)) := .of pf5_ok sh5_eq
theorem po3 : POok Tryd.prog 1 3 (.sh (sh3 words)) := .of pf3_ok sh3_eq
theorem tabOk : TabOk Tryd.prog 1 tab := by
  refine TabOk.of tab_eq fun x hx => ?_
  simp only [tabL, List.mem_cons, List.not_mem_nil, or_false] at hx
  rcases hx with rfl | rfl | rfl | rfl | rfl | rfl | rfl | rfl | rfl | rfl | rfl | rfl | rfl | rfl | rfl | rfl
  · exact po10
  · exact po13
  · exact po11
  · exact po16
  · exact po18
  · exact po17
  · exact po19
  · exact po8
  · exact po9
  · exact po4
  · exact po14
  · exact po12
  · exact po6
  · exact po15
  · exact po5
  · exact po3
/-- how long loops may run -/
abbrev N : Nat := 100000
theorem call10 (d : Nat) (l : List V) (h : Heap) : call tab N (d + 1) ⟨.d0, .d0, .d0, .da⟩ l h = sh10 words N (call tab N d) l h := by kernel_rfl
theorem call13 (d : Nat) (l : List V) (h : Heap) : call tab N (d + 1) ⟨.d0, .d0, .d0, .dd⟩ l h = sh13 words N (call tab N d) l h := by kernel_rfl
theorem call11 (d : Nat) (l : List V) (h : Heap) : call tab N (d + 1) ⟨.d0, .d0, .d0, .db⟩ l h = sh11 words N (call tab N d) l h := by kernel_rfl
theorem call16 (d : Nat) (l : List V) (h : Heap) : call tab N (d + 1) ⟨.d0, .d0, .d1, .d0⟩ l h = sh16 words N (call tab N d) l h := by kernel_rfl
theorem call18 (d : Nat) (l : List V) (h : Heap) : call tab N (d + 1) ⟨.d0, .d0, .d1, .d2⟩ l h = sh18 words N (call tab N d) l h := by kernel_rfl
theorem call17 (d : Nat) (l : List V) (h : Heap) : call tab N (d + 1) ⟨.d0, .d0, .d1, .d1⟩ l h = sh17 words N (call tab N d) l h := by kernel_rfl
theorem call19 (d : Nat) (l : List V) (h : Heap) : call tab N (d + 1) ⟨.d0, .d0, .d1, .d3⟩ l h = sh19 words N (call tab N d) l h := by kernel_rfl
theorem call8 (d : Nat) (l : List V) (h : Heap) : call tab N (d + 1) ⟨.d0, .d0, .d0, .d8⟩ l h = sh8 words N (call tab N d) l h := by kernel_rfl
theorem call9 (d : Nat) (l : List V) (h : Heap) : call tab N (d + 1) ⟨.d0, .d0, .d0, .d9⟩ l h = sh9 words N (call tab N d) l h := by kernel_rfl
theorem call4 (d : Nat) (l : List V) (h : Heap) : call tab N (d + 1) ⟨.d0, .d0, .d0, .d4⟩ l h = sh4 words N (call tab N d) l h := by kernel_rfl
theorem call14 (d : Nat) (l : List V) (h : Heap) : call tab N (d + 1) ⟨.d0, .d0, .d0, .de⟩ l h = sh14 words N (call tab N d) l h := by kernel_rfl
theorem call12 (d : Nat) (l : List V) (h : Heap) : call tab N (d + 1) ⟨.d0, .d0, .d0, .dc⟩ l h = sh12 words N (call tab N d) l h := by kernel_rfl
theorem call6 (d : Nat) (l : List V) (h : Heap) : call tab N (d + 1) ⟨.d0, .d0, .d0, .d6⟩ l h = sh6 words N (call tab N d) l h := by kernel_rfl
theorem call15 (d : Nat) (l : List V) (h : Heap) : call tab N (d + 1) ⟨.d0, .d0, .d0, .df⟩ l h = sh15 words N (call tab N d) l h := by kernel_rfl
theorem call5 (d : Nat) (l : List V) (h : Heap) : call tab N (d + 1) ⟨.d0, .d0, .d0, .d5⟩ l h = sh5 words N (call tab N d) l h := by kernel_rfl
theorem call3 (d : Nat) (l : List V) (h : Heap) : call tab N (d + 1) ⟨.d0, .d0, .d0, .d3⟩ l h = sh3 words N (call tab N d) l h := by kernel_rfl

theorem sum_c (d : Nat) (v : V) (h : Heap) (bs : List Nat) (t : Tab h) (w : IsS h v (bs.map bV)) (hb : ∀ x ∈ bs, x < 256) (hl : bs.length ≤ 4096) : call tab N (d + 1) ⟨.d0, .d0, .d0, .dd⟩ [v] h = .ret (.int .u32 (.ofNat (crc bs))) h := by
  rw [call13]; exact sum_law t w hb (by omega) (show bs.length < 100000 by omega)
theorem refsum_c (d : Nat) (v : V) (h : Heap) (bs : List Nat) (w : IsS h v (bs.map bV)) (hb : ∀ x ∈ bs, x < 256) (hl : bs.length ≤ 4096) : call tab N (d + 1) ⟨.d0, .d0, .d0, .de⟩ [v] h = .ret (.int .u32 (.ofNat (crc bs))) h := by
  rw [call14, refsum_law w hb (by omega) (show bs.length < 100000 by omega) (by decide), crc_ref hb]
theorem clone_c (d : Nat) (v : V) (h : Heap) (l : List V) (w : IsS h v l) (lo : Low v h.nx.val) (hl : l.length ≤ 4096) : ∃ h' v', call tab N (d + 1) ⟨.d0, .d0, .d1, .d0⟩ [v] h = .ret v' h' ∧ Own h' h.nx.val v' l ∧ Up h h' := by
  rw [call16]; exact clone_law w lo (by omega)
theorem isnt_c (d x : Nat) (h : Heap) : call tab N (d + 1) ⟨.d0, .d0, .d1, .d2⟩ [bV x] h = .ret (.bool (decide (x ≠ 0))) h := by
  rw [call18]; exact isnt_law
theorem has_c (d : Nat) (v : V) (h : Heap) (bs : List Nat) (w : IsS h v (bs.map bV)) (hb : ∀ x ∈ bs, x < 256) (hl : bs.length ≤ 4096) :
    call tab N (d + 3) ⟨.d0, .d0, .d1, .d1⟩ [v, .func 18 []] h = .ret (.bool (bs.any fun x => decide (x ≠ 0))) h := by
  rw [call17]
  refine contains_law ?_
  rw [call19]
  exact index_law w hb (by omega) (show bs.length < 100000 by omega) fun x h _ => isnt_c d x h
theorem callees (d : Nat) : Callees (call tab N (d + 1)) := ⟨fun v h bs t w hb hl => sum_c d v h bs t w hb hl, fun v h bs w hb hl => refsum_c d v h bs w hb hl, fun v h l w lo hl => clone_c d v h l w lo hl⟩
theorem callees2 (d : Nat) : Callees2 (call tab N (d + 3)) := ⟨callees (d + 2), fun v h bs w hb hl => has_c d v h bs w hb hl⟩
theorem callees3 (d : Nat) : Callees3 (call tab N (d + 2)) := ⟨fun h v k bs w lo hk hb hl => by
  rw [call9]; exact (refseal_law (callees d) w lo hk hb (by decide)).2 hl⟩
theorem callP (d : Nat) : CallP (call tab N (d + 4)) where
  sum v h bs t w hb hl := sum_c (d + 3) v h bs t w hb hl
  refsum v h bs w hb hl := refsum_c (d + 3) v h bs w hb hl
  big v h k bs t h0 w lo hk hb hl := by rw [call8]; exact (seal_law (callees (d + 2)) t h0 w lo hk hb (by decide)).1 hl
  shut v h k bs t h0 w lo hk hb hl := by rw [call8]; exact (seal_law (callees (d + 2)) t h0 w lo hk hb (by decide)).2 hl
  refbig v h k bs w lo hk hb hl := by rw [call9]; exact (refseal_law (callees (d + 2)) w lo hk hb (by decide)).1 hl
  refshut v h k bs w lo hk hb hl := by rw [call9]; exact (refseal_law (callees (d + 2)) w lo hk hb (by decide)).2 hl
  openN v h bs t w lo hb hl := by rw [call11]; exact (open_law (callees2 d) t w lo hb (by decide)).1 hl
  openF v h bs t w lo hb hl hw := by rw [call11]; exact (open_law (callees2 d) t w lo hb (by decide)).2.1 hl hw
  openT v h bs t w lo hb hl hw := by rw [call11]; exact (open_law (callees2 d) t w lo hb (by decide)).2.2 hl hw
  refopenN v h bs w lo hb hl := by rw [call12]; exact (refopen_law (callees3 (d + 1)) w lo hb).1 hl
  refopenF v h bs w lo hb hl hw := by rw [call12]; exact (refopen_law (callees3 (d + 1)) w lo hb).2.1 hl hw
  refopenT v h bs w lo hb hl hw := by rw [call12]; exact (refopen_law (callees3 (d + 1)) w lo hb).2.2 hl hw
theorem callQ (d : Nat) : CallQ (call tab N (d + 5)) where
  toCallP := callP (d + 1)
  works h t h0 := by rw [call10]; exact works_law (callP d) t h0
end Go.Ev.W02
