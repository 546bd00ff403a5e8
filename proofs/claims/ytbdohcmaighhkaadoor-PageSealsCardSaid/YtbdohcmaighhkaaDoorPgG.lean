/- PAGE: Open answers as the document does. -/
import Derived.Test.YtbdohcmaighhkaaDoorPgF
namespace Go.Ev.W02
open Go.Proofs

/-- the four bytes of the sum are what they should be -/
theorem bytes4 {bs : List Nat} (hl : 4 ≤ bs.length) (q : Nat) : bs.take 4 = le4 q ↔ ∀ i, i < 4 → bs.getD i 0 = q / 2 ^ (8 * i) % 256 := by
  have hlen : (le4 q).length = 4 := rfl
  constructor
  · intro h i hi
    have h1 : (bs.take 4)[i]? = (le4 q)[i]? := by rw [h]
    rw [List.getElem?_take_of_lt hi, le4_get q i hi] at h1
    rw [List.getD_eq_getElem?_getD, h1]; rfl
  · intro h
    apply List.ext_getElem?
    intro i
    by_cases hi : i < 4
    · rw [List.getElem?_take_of_lt hi, le4_get q i hi, ← h i hi, List.getD_eq_getElem?_getD, List.getElem?_eq_getElem (by omega)]; rfl
    · rw [List.getElem?_eq_none (by simp; omega), List.getElem?_eq_none (by omega)]

theorem open_law {n : Nat} {cf : CF} (C : Callees2 cf) {h : Heap} {v : V} {bs : List Nat} (t : Tab h) (w : IsS h v (bs.map bV)) (lo : Low v h.nx.val) (hb : ∀ x ∈ bs, x < 256) (hn : 4 < n) :
    (bs.length ≠ 512 → sh11 words n cf [v] h = .ret (.tup [bV 0, .nils, .int .i64 (.ofNat 2)]) h) ∧
    (bs.length = 512 → whole bs = false → sh11 words n cf [v] h = .ret (.tup [bV 0, .nils, .int .i64 (.ofNat 20)]) h) ∧
    (bs.length = 512 → whole bs = true → ∃ h' v', sh11 words n cf [v] h = .ret (.tup [bV (bs.getD 6 0), v', .int .i64 (.ofNat 0)]) h' ∧ Own h' h.nx.val v' ((pin bs).map bV) ∧ Up h h') := by
  refine ⟨fun hl => ?_, ?_⟩
  · unfold sh11
    simp only [unc_cons, nilk'_nil, w.len, List.length_map, ieq_nat, decide_eq_false hl, Bool.not_false, ifk_true, bV]
  suffices main : bs.length = 512 → (whole bs = false ∧ sh11 words n cf [v] h = .ret (.tup [bV 0, .nils, .int .i64 (.ofNat 20)]) h) ∨ (whole bs = true ∧ ∃ h' v', sh11 words n cf [v] h = .ret (.tup [bV (bs.getD 6 0), v', .int .i64 (.ofNat 0)]) h' ∧
      Own h' h.nx.val v' ((pin bs).map bV) ∧ Up h h') by
    refine ⟨fun hl hw => ?_, fun hl hw => ?_⟩
    · rcases main hl with ⟨_, h1⟩ | ⟨h1, _⟩
      · exact h1
      · rw [hw] at h1; cases h1
    · rcases main hl with ⟨h1, _⟩ | ⟨_, h1⟩
      · rw [hw] at h1; cases h1
      · exact h1
  intro hl
  obtain ⟨b, o, c, rfl, ld⟩ := at2 w hl
  have lt : ∀ i, i < 512 → bs.getD i 0 < 256 := fun i hi => by
    rw [List.getD_eq_getElem?_getD, List.getElem?_eq_getElem (by omega)]; exact hb _ (List.getElem_mem _)
  obtain ⟨v6, e6, s6, _⟩ := slice_law w (i := 4) (j := 512) (by omega) (by simp; omega) (lo := some (.int .i64 (.ofNat 4))) (hi := none) (fun k => rfl) (fun k => by rw [List.length_map, hl]; rfl)
  have c6 : ((bs.map bV).take 512).drop 4 = (bs.drop 4).map bV := by rw [List.take_of_length_le (by simp; omega), List.map_drop]
  rw [c6] at s6
  have sum6 := C.sum v6 h (bs.drop 4) t s6 (fun x hx => hb x (List.mem_of_mem_drop hx)) (by simp; omega)
  have hcr := crc_lt (bs := bs.drop 4)
  rw [whole_iff hl hb]
  generalize hq : crc (bs.drop 4) = q at hcr sum6
  unfold sh11
  simp only [unc_cons, nilk'_nil, lenk_slice, ieq_nat, decide_true, Bool.not_true, ifk_false, e6, sum6, backk_ret, castI_int]
  -- the loop over the sum's bytes
  have loop : ∀ (body : (List V → Heap → Res) → List V → Heap → Res), (∀ again i, i < 4 → body again [.slice b o 512 c 1, .int .u32 (.ofNat q), .int .i64 (.ofNat i)] h =
        if bs.getD i 0 = q / 2 ^ (8 * i) % 256 then again [.slice b o 512 c 1, .int .u32 (.ofNat q), .int .i64 (.ofNat (i + 1))] h else .done .ret [.slice b o 512 c 1, bV 0, .nils, .int .i64 (.ofNat 20)] h) →
      (∀ again, body again [.slice b o 512 c 1, .int .u32 (.ofNat q), .int .i64 (.ofNat 4)] h = .done .normal [.slice b o 512 c 1, .und, .und, .und] h) →
      (bs.take 4 = le4 q ∧ lpk body n [.slice b o 512 c 1, .int .u32 (.ofNat q), .int .i64 (.ofNat 0)] h = .done .normal [.slice b o 512 c 1, .und, .und, .und] h) ∨
      (bs.take 4 ≠ le4 q ∧ lpk body n [.slice b o 512 c 1, .int .u32 (.ofNat q), .int .i64 (.ofNat 0)] h = .done .ret [.slice b o 512 c 1, bV 0, .nils, .int .i64 (.ofNat 20)] h) := by
    intro body h1 h2
    refine lpk_inv (I := fun vs h'' m => ∃ i, i ≤ 4 ∧ m = 4 - i ∧ vs = [.slice b o 512 c 1, .int .u32 (.ofNat q), .int .i64 (.ofNat i)] ∧ h'' = h ∧ ∀ j, j < i → bs.getD j 0 = q / 2 ^ (8 * j) % 256)
      (Q := fun r => (bs.take 4 = le4 q ∧ r = .done .normal [.slice b o 512 c 1, .und, .und, .und] h) ∨ (bs.take 4 ≠ le4 q ∧ r = .done .ret [.slice b o 512 c 1, bV 0, .nils, .int .i64 (.ofNat 20)] h)) ?_ n _ _ 4 hn
      ⟨0, by omega, rfl, rfl, rfl, fun j hj => by omega⟩
    rintro again vs h'' m ⟨i, hi, rfl, rfl, rfl, hj⟩ ih
    by_cases hi4 : i < 4
    · rw [h1 again i hi4]
      split
      · rename_i he
        exact ih _ _ (4 - (i + 1)) (by omega) ⟨i + 1, hi4, rfl, rfl, rfl, fun j hj' => by
          rcases Nat.lt_or_eq_of_le (Nat.le_of_lt_succ hj') with h3 | rfl
          · exact hj j h3
          · exact he⟩
      · rename_i he
        exact .inr ⟨fun h4 => he ((bytes4 (by omega) q).1 h4 i hi4), rfl⟩
    · obtain rfl : i = 4 := by omega
      rw [h2]
      exact .inl ⟨(bytes4 (by omega) q).2 fun j hj' => hj j hj', rfl⟩
  generalize hB : lpk _ n [.slice b o 512 c 1, .int .u32 (.ofNat q), .int .i64 (.ofNat 0)] h = LP
  have hLP : (bs.take 4 = le4 q ∧ LP = .done .normal [.slice b o 512 c 1, .und, .und, .und] h) ∨ (bs.take 4 ≠ le4 q ∧ LP = .done .ret [.slice b o 512 c 1, bV 0, .nils, .int .i64 (.ofNat 20)] h) := by
    rw [← hB]
    refine loop _ (fun again i hi => ?_) fun again => ?_
    · have e0 : Nat.min (8 * i) 32 = 8 * i := Nat.min_eq_left (by omega)
      simp only [unc_cons, castF_int, nilk'_nil, ilt_nat, decide_eq_true hi, ifk_true, slk_slice, natk_ofNat, blt_of (show i < 512 by omega), backk_ret, ptrk_ptr, mul_nat, wrapv_small .i64 (8 * i) (show _ ≤ 9223372036854775807 by omega),
        shrv_nat, intk_int, wrapv_u8, castI_int, e0, add_nat, wrapv_small .i64 (i + 1) (show _ ≤ 9223372036854775807 by omega)]
      rw [show words.load1 = load1k from rfl, ld i (by omega)]
      simp only [bV, castI_int, backk_ret, ieq_nat]
      rw [show Nat.pow 2 (8 * i) = 2 ^ (8 * i) from rfl]
      split
      · rename_i he
        rw [decide_eq_true he]; rfl
      · rename_i he
        rw [decide_eq_false he]; rfl
    · simp only [unc_cons, castF_int, nilk'_nil, ilt_nat, decide_eq_false (show ¬ 4 < 4 by omega), ifk_false]
  clear hB loop
  rcases hLP with ⟨h4, rfl⟩ | ⟨h4, rfl⟩
  · rw [decide_eq_true h4, Bool.true_and]
    have b4 := lt 4 (by omega)
    have b5 := lt 5 (by omega)
    have b7 := lt 7 (by omega)
    have b6 := lt 6 (by omega)
    have esz : bor .i64 (.ofNat (bs.getD 4 0)) (.ofNat (bs.getD 5 0 * 256)) = .ofNat (psize bs) := by
      rw [bor_small .i64 _ _ (show _ ≤ 9223372036854775807 by omega) (show _ ≤ 9223372036854775807 by omega), bor_add b4]; rfl
    have hps : psize bs < 65536 := by unfold psize; omega
    simp only [contk_done, unc_cons, nilk'_nil, nork_normal, slk_slice, blt_of (show 4 < 512 by omega), blt_of (show 5 < 512 by omega), ifk_true, backk_ret, ptrk_ptr]
    rw [show words.load1 = load1k from rfl]
    simp only [ld 4 (by omega), bV, castI_int, backk_ret, ld 5 (by omega), wrapv_small .i64 (bs.getD 4 0) (show _ ≤ 9223372036854775807 by omega), wrapv_small .i64 (bs.getD 5 0) (show _ ≤ 9223372036854775807 by omega), mul_nat,
      wrapv_small .i64 (bs.getD 5 0 * 256) (show _ ≤ 9223372036854775807 by omega), esz, ilt_nat]
    by_cases hs : psize bs ≤ 504
    · rw [decide_eq_true hs, Bool.true_and, decide_eq_false (show ¬ 504 < psize bs by omega)]
      simp only [Bool.not_false, ifk_true, backk_ret, slk_slice, blt_of (show 7 < 512 by omega), ptrk_ptr, ld 7 (by omega), bV, castI_int, intk_int, show Nat.beq (kno .u8) 4 = true from rfl, ieq_nat, pickv_false]
      by_cases h7 : bs.getD 7 0 = 157
      · obtain ⟨v8, e8, s8, _⟩ := slice_law w (i := 8 + psize bs) (j := 512) (by omega) (by simp; omega) (lo := some (.int .i64 (.ofNat (8 + psize bs)))) (hi := none) (fun k => rfl) (fun k => by rw [List.length_map, hl]; rfl)
        have c8 : ((bs.map bV).take 512).drop (8 + psize bs) = (bs.drop (8 + psize bs)).map bV := by rw [List.take_of_length_le (by simp; omega), List.map_drop]
        rw [c8] at s8
        have has8 := C.has v8 h (bs.drop (8 + psize bs)) s8 (fun x hx => hb x (List.mem_of_mem_drop hx)) (by simp; omega)
        rw [decide_eq_true h7, Bool.true_and]
        simp only [Bool.not_true, castB_bool, Bool.not_false, ifk_true, backk_ret, intk_int, show Nat.beq 3 (kno .i64) = true from rfl, add_nat, wrapv_small .i64 (8 + psize bs) (show _ ≤ 9223372036854775807 by omega), e8, has8, pickv_false]
        cases hz : (bs.drop (8 + psize bs)).any fun x => decide (x ≠ 0) with
        | true => exact .inl ⟨rfl, rfl⟩
        | false =>
          refine .inr ⟨rfl, ?_⟩
          obtain ⟨v9, e9, s9, l9⟩ := slice_law w (i := 8) (j := 8 + psize bs) (by omega) (by simp; omega) (lo := some (.int .i64 (.ofNat 8))) (hi := some (.int .i64 (.ofNat (8 + psize bs)))) (fun k => rfl) (fun k => rfl)
          have c9 : ((bs.map bV).take (8 + psize bs)).drop 8 = (pin bs).map bV := by rw [pin, List.map_drop, List.map_take]
          rw [c9] at s9
          obtain ⟨h8, v', g1, g2, g3⟩ := C.clone v9 h _ s9 (l9 _ lo) (by simp [pin_length hl hs]; omega)
          have ld' : ∀ k, load1k h8 b (Nat.add o 6) k = k (bV (bs.getD 6 0)) := by
            have w8 := w.upto lo g3
            intro k
            obtain ⟨b', o', c', e, ld8⟩ := at2 w8 hl
            cases e
            exact ld8 6 (by omega) k
          refine ⟨h8, v', ?_, g2, g3⟩
          simp only [ifk_false, blt_of (show 6 < 512 by omega), ifk_true, backk_ret, ptrk_ptr, ld 6 (by omega), bV, castI_int, e9, g1, veqk_slice, veqk_ptr, ld', veqk_int]
      · rw [decide_eq_false h7, Bool.false_and]
        refine .inl ⟨rfl, ?_⟩
        simp only [Bool.not_false, castB_bool, Bool.not_true, ifk_false, backk_ret, pickv_true, ifk_true]
    · rw [decide_eq_false hs, Bool.false_and, decide_eq_true (show 504 < psize bs by omega)]
      refine .inl ⟨rfl, ?_⟩
      simp only [Bool.not_true, ifk_false, backk_ret, pickv_true, castB_bool, ifk_true]
  · rw [decide_eq_false h4, Bool.false_and]
    refine .inl ⟨rfl, ?_⟩
    simp only [contk_done, unc_cons, nilk'_nil, nork_ret, endk_ret]
end Go.Ev.W02
