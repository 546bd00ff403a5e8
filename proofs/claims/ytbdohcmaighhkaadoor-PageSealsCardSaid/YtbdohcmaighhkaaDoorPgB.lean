/- PAGE: slices.Clone, slices.ContainsFunc, the document's sum. -/
import Derived.Test.YtbdohcmaighhkaaDoorPgA
namespace Go.Ev.W02
open Go.Proofs

theorem clone_law {n : Nat} {cf : CF} {h : Heap} {v : V} {l : List V} (w : IsS h v l) (lo : Low v h.nx.val) (hl : l.length ≤ 16777216) :
    ∃ h' v', sh16 words n cf [v] h = .ret v' h' ∧ Own h' h.nx.val v' l ∧ Up h h' := by
  have main : Go.Ev.snk v = (fun k => k false) → ∃ h' v', sh16 words n cf [v] h = .ret v' h' ∧ Own h' h.nx.val v' l ∧ Up h h' := by
    intro hs
    unfold sh16
    simp only [unc_cons, nilk'_nil, hs, ifk_false]
    obtain ⟨t, h1, h2⟩ := rowk_law (g := 1) (n := 0) (by omega) (l := []) rfl
    obtain ⟨h3, h4, h5, h6⟩ := newk_law h (.arr 1 0 t false)
    have ow : Own h3 h.nx.val (.slice h.nx 0 0 (some 0) 1) [] := .sl h.nx (some 0) [] (Nat.le_refl _) h6.lt (by rw [h5]; exact h2) fun n e => by cases e; rfl
    obtain ⟨h7, v', h8, h9, h10⟩ := app_own ow (w.upto lo h6.up) h6.up.nx (by simpa using hl)
    refine ⟨h7, v', ?_, h9, (h6.up.to (Nat.le_refl _) |>.trans h10).up⟩
    show rowk 1 0 [] (fun l6 => Heap.newk h (.arr 1 0 l6 false) fun p8 h10 => words.app 1 (.slice p8 0 0 (some 0) 1) v h10 fun v16 h18 => .ret v16 h18) = .ret v' h7
    rw [h1, h4, h8]
  cases w with
  | nils => exact ⟨h, .nils, rfl, .nils, .refl _⟩
  | emp => exact main rfl
  | sl b o c op cs _ row fit is cap => exact main rfl

/-- the first that is not nought -/
theorem index_law {n : Nat} {cf : CF} {h : Heap} {v : V} {bs : List Nat} (w : IsS h v (bs.map bV)) (hb : ∀ x ∈ bs, x < 256) (hl : bs.length < 2 ^ 62) (hn : bs.length < n)
    (hcf : ∀ x h, x < 256 → cf ⟨.d0, .d0, .d1, .d2⟩ [bV x] h = .ret (.bool (decide (x ≠ 0))) h) :
    ∃ i : Int, sh19 words n cf [v, .func 18 []] h = .ret (.int .i64 i) h ∧ (ilt i 0 = !(bs.any fun x => decide (x ≠ 0))) := by
  unfold sh19
  simp only [unc_cons, nilk'_nil, w.len, List.length_map, words]
  refine lpk_inv (I := fun vs h' m => ∃ i, i ≤ bs.length ∧ m = bs.length - i ∧ h' = h ∧ vs = [v, .func 18 [], .int .i64 (.ofNat bs.length), .int .i64 (.ofNat i)] ∧ (bs.take i).any (fun x => decide (x ≠ 0)) = false)
    (Q := fun r => ∃ i : Int, r = .ret (.int .i64 i) h ∧ (ilt i 0 = !(bs.any fun x => decide (x ≠ 0)))) ?_ n _ _ bs.length hn ⟨0, by omega, by omega, rfl, rfl, by simp⟩
  rintro again vs h' m ⟨i, h1, rfl, rfl, rfl, ha⟩ ih
  simp only [unc_cons, castF_int, nilk'_nil, ilt_nat]
  by_cases hi : i < bs.length
  · obtain ⟨b, o, l, c, s, rfl, hil, hld⟩ := w.at_ (i := i) (by simpa using hi)
    have hbi := hb bs[i] (List.getElem_mem hi)
    simp only [decide_eq_true hi, ifk_true, slk_slice, natk_ofNat, blt_of hil, hld, List.getElem_map, bV, castI_int]
    have e : callv cf (.func 18 []) [.int .u8 (.ofNat bs[i])] h' = .ret (.bool (decide (bs[i] ≠ 0))) h' := hcf bs[i] h' hbi
    rw [e]
    simp only [backk_ret, castB_bool]
    have ht : bs.take (i + 1) = bs.take i ++ [bs[i]] := List.take_succ_eq_append_getElem hi
    by_cases h0 : bs[i] = 0
    · rw [decide_eq_false (by simpa using h0), ifk_false, add_nat, wrapv_small .i64 _ (show i + 1 ≤ 9223372036854775807 by omega)]
      exact ih _ _ (bs.length - (i + 1)) (by omega) ⟨i + 1, hi, rfl, rfl, rfl, by rw [ht, List.any_append, ha]; simp [h0]⟩
    · rw [decide_eq_true h0, ifk_true]
      refine ⟨_, rfl, ?_⟩
      have : bs.any (fun x => decide (x ≠ 0)) = true := List.any_eq_true.2 ⟨bs[i], List.getElem_mem hi, by simpa using h0⟩
      rw [this]; rfl
  · have : i = bs.length := by omega
    subst this
    rw [decide_eq_false hi, ifk_false]
    rw [List.take_length] at ha
    exact ⟨_, rfl, by rw [ha]; rfl⟩
theorem contains_law {n : Nat} {cf : CF} {h : Heap} {v : V} {bs : List Nat} (hcf : ∃ i : Int, cf ⟨.d0, .d0, .d1, .d3⟩ [v, .func 18 []] h = .ret (.int .i64 i) h ∧ (ilt i 0 = !(bs.any fun x => decide (x ≠ 0)))) :
    sh17 words n cf [v, .func 18 []] h = .ret (.bool (bs.any fun x => decide (x ≠ 0))) h := by
  obtain ⟨i, h1, h2⟩ := hcf
  unfold sh17
  simp only [unc_cons, nilk'_nil, h1, backk_ret, castI_int]
  rw [show (Int.ofNat 0) = (0 : Int) from rfl, h2, Bool.not_not]
theorem isnt_law {n : Nat} {cf : CF} {h : Heap} {x : Nat} : sh18 words n cf [bV x] h = .ret (.bool (decide (x ≠ 0))) h := by
  unfold sh18
  simp only [unc_cons, bV, castI_int, nilk'_nil, ieq_nat]
  by_cases e : x = 0 <;> simp [e]

/- the document's sum -/
def bit1 (r : Nat) : Nat := if r % 2 = 1 then (r / 2) ^^^ 3988292384 else r / 2
def bits : Nat → Nat → Nat
  | 0, r => r
  | k + 1, r => bits k (bit1 r)
theorem bit1_lt {r : Nat} (h : r < 2 ^ 32) : bit1 r < 2 ^ 32 := by
  unfold bit1
  split
  · exact Nat.xor_lt_two_pow (by omega) (by decide)
  · omega
theorem bits_succ (k r : Nat) : bits (k + 1) r = bit1 (bits k r) := by
  induction k generalizing r with
  | zero => rfl
  | succ k ih => exact ih (bit1 r)
theorem bits_lt {k r : Nat} (h : r < 2 ^ 32) : bits k r < 2 ^ 32 := by
  induction k generalizing r with
  | zero => exact h
  | succ k ih => exact ih (bit1_lt h)
def refByte (r c : Nat) : Nat := bits 8 (r ^^^ c)
def refR (bs : List Nat) : Nat := bs.foldl refByte 4294967295
theorem refByte_lt {r c : Nat} (h : r < 2 ^ 32) (hc : c < 256) : refByte r c < 2 ^ 32 := bits_lt (Nat.xor_lt_two_pow h (by omega))
theorem reffold_lt {bs : List Nat} (hb : ∀ x ∈ bs, x < 256) : ∀ {r : Nat}, r < 2 ^ 32 → bs.foldl refByte r < 2 ^ 32 := by
  induction bs with
  | nil => intro r h; exact h
  | cons c bs ih => intro r h; exact ih (fun x hx => hb x (List.mem_cons_of_mem _ hx)) (refByte_lt h (hb c (by simp)))
theorem refR_lt {bs : List Nat} (hb : ∀ x ∈ bs, x < 256) : refR bs < 2 ^ 32 := reffold_lt hb (by decide)
theorem refR_succ {bs : List Nat} {i : Nat} (hi : i < bs.length) : refR (bs.take (i + 1)) = refByte (refR (bs.take i)) bs[i] := by
  rw [refR, refR, List.take_succ_eq_append_getElem hi, List.foldl_append]; rfl

theorem refsum_law {n : Nat} {cf : CF} {h : Heap} {v : V} {bs : List Nat} (w : IsS h v (bs.map bV)) (hb : ∀ x ∈ bs, x < 256) (hl : bs.length < 2 ^ 62) (hn : bs.length < n) (hn8 : 8 < n) :
    sh14 words n cf [v] h = .ret (.int .u32 (.ofNat (refR bs ^^^ 4294967295))) h := by
  unfold sh14
  simp only [unc_cons, nilk'_nil, words]
  refine lpk_inv (I := fun vs h' m => ∃ i, i ≤ bs.length ∧ m = bs.length - i ∧ h' = h ∧ vs = [v, .int .u32 (.ofNat (refR (bs.take i))), .int .i64 (.ofNat i)]) (Q := (· = _)) ?_ n _ _ bs.length hn ⟨0, by omega, by omega, rfl, rfl⟩
  rintro again vs h' m ⟨i, h1, rfl, rfl, rfl⟩ ih
  have hr := refR_lt (bs := bs.take i) fun x hx => hb x (List.mem_of_mem_take hx)
  simp only [unc_cons, castF_int, nilk'_nil, w.len, List.length_map, ilt_nat]
  by_cases hi : i < bs.length
  · obtain ⟨b, o, l, c, s, rfl, hil, hld⟩ := w.at_ (i := i) (by simpa using hi)
    have hbi := hb bs[i] (List.getElem_mem hi)
    have hx : refR (bs.take i) ^^^ bs[i] < 2 ^ 32 := Nat.xor_lt_two_pow hr (by omega)
    simp only [decide_eq_true hi, ifk_true, slk_slice, natk_ofNat, blt_of hil, hld, List.getElem_map, bV, castI_int, wrapv_small .u32 bs[i] (by show _ ≤ 4294967295; omega),
      bxor_small .u32 _ _ (show refR (bs.take i) ≤ 4294967295 by omega) (show bs[i] ≤ 4294967295 by omega)]
    -- the inner loop
    rw [lpk_inv (body := fun (again : List V → Heap → Res) vs h => unc vs fun v48 l50 => unc l50 fun v52 l54 => castF .u32 v52 fun i56 => unc l54 fun v58 l60 => castF .i64 v58 fun i62 => unc l60 fun v64 l66 => castF .i64 v64 fun i68 => nilk' l66
        (ifk (ilt i68 (.ofNat 8)) (contk (ifk (ieq (band .u32 i56 (.ofNat 1)) (.ofNat 1)) (.done .normal [v48, .int .u32 (bxor .u32 (shrv i56 2) (.ofNat 3988292384)), .int .i64 i62, .int .i64 i68] h)
          (.done .normal [v48, .int .u32 (shrv i56 2), .int .i64 i62, .int .i64 i68] h)) fun x70 l72 h74 => unc l72 fun v76 l78 => unc l78 fun v80 l82 => castI .u32 v80 fun i84 => unc l82 fun v86 l88 => castI .i64 v86 fun i90 =>
            unc l88 fun v92 l94 => castI .i64 v92 fun i96 => nilk' l94 (nork x70 (again [v76, .int .u32 i84, .int .i64 i90, .int .i64 (wrapv .i64 (Int.add i96 (.ofNat 1)))] h74) .fail)) (.done .normal [v48, .int .u32 i56, .int .i64 i62] h)))
      (I := fun vs h'' m => ∃ j, j ≤ 8 ∧ m = 8 - j ∧ h'' = h' ∧ vs = [.slice b o l c s, .int .u32 (.ofNat (bits j (refR (bs.take i) ^^^ bs[i]))), .int .i64 (.ofNat i), .int .i64 (.ofNat j)])
      (Q := (· = .done .normal [.slice b o l c s, .int .u32 (.ofNat (refByte (refR (bs.take i)) bs[i])), .int .i64 (.ofNat i)] h')) ?_ n _ _ 8 hn8 ⟨0, by omega, rfl, rfl, rfl⟩]
    · simp only [contk_done, unc_cons, castI_int, nilk'_nil, nork_normal, add_nat, wrapv_small .i64 _ (show i + 1 ≤ 9223372036854775807 by omega)]
      refine ih _ _ (bs.length - (i + 1)) (by omega) ⟨i + 1, hi, rfl, rfl, ?_⟩
      rw [refR_succ hi]
    · rintro again vs h'' m ⟨j, hj, rfl, rfl, rfl⟩ ih
      have hq := bits_lt (k := j) hx
      simp only [unc_cons, castF_int, nilk'_nil, ilt_nat]
      by_cases hj8 : j < 8
      · rw [decide_eq_true hj8, ifk_true, band_small .u32 _ _ (show _ ≤ 4294967295 by omega) (by decide), ieq_nat, shrv_nat]
        have e1 : bits j (refR (bs.take i) ^^^ bs[i]) &&& 1 = bits j (refR (bs.take i) ^^^ bs[i]) % 2 := Nat.and_one_is_mod _
        rw [e1]
        have step : ∀ q, q = bits (j + 1) (refR (bs.take i) ^^^ bs[i]) → again [.slice b o l c s, .int .u32 (.ofNat q), .int .i64 (.ofNat i), .int .i64 (wrapv .i64 (Int.add (.ofNat j) (.ofNat 1)))] h'' =
            .done .normal [.slice b o l c s, .int .u32 (.ofNat (refByte (refR (bs.take i)) bs[i])), .int .i64 (.ofNat i)] h'' := by
          rintro q rfl
          rw [add_nat, wrapv_small .i64 _ (show j + 1 ≤ 9223372036854775807 by omega)]
          exact ih _ _ (8 - (j + 1)) (by omega) ⟨j + 1, hj8, rfl, rfl, rfl⟩
        by_cases hbit : bits j (refR (bs.take i) ^^^ bs[i]) % 2 = 1
        · rw [decide_eq_true hbit, ifk_true]
          simp only [contk_done, unc_cons, castI_int, nilk'_nil, nork_normal]
          rw [bxor_small .u32 _ _ (show _ ≤ 4294967295 by omega) (by decide)]
          exact step _ (by rw [bits_succ, bit1, if_pos hbit])
        · rw [decide_eq_false hbit, ifk_false]
          simp only [contk_done, unc_cons, castI_int, nilk'_nil, nork_normal]
          exact step _ (by rw [bits_succ, bit1, if_neg hbit])
      · have : j = 8 := by omega
        subst this
        rw [decide_eq_false hj8, ifk_false]
        rfl
  · have : i = bs.length := by omega
    subst this
    rw [decide_eq_false hi, ifk_false, List.take_length]
    rw [List.take_length] at hr
    rw [bxor_small .u32 _ _ (show _ ≤ 4294967295 by omega) (by decide)]
end Go.Ev.W02
