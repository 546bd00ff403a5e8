/- PAGE: a burst of four bytes is found. -/
import Derived.Test.YtbdohcmaighhkaaDoorPg2
namespace Go.Ev.W02
open Go.Proofs

theorem bit1_top {x : Nat} (h : x < 2 ^ 32) : (bit1 x).testBit 31 = decide (x % 2 = 1) := by
  have h1 : (x / 2).testBit 31 = false := Nat.testBit_lt_two_pow (by omega)
  unfold bit1
  split
  · rename_i h2
    rw [Nat.testBit_xor, h1, decide_eq_true h2]; decide
  · rename_i h2
    rw [h1, decide_eq_false h2]
theorem xor_cancel {x y z : Nat} (h : x ^^^ z = y ^^^ z) : x = y := by
  have := congrArg (· ^^^ z) h
  simpa [Nat.xor_assoc] using this
theorem bit1_inj {x y : Nat} (hx : x < 2 ^ 32) (hy : y < 2 ^ 32) (h : bit1 x = bit1 y) : x = y := by
  have h1 := bit1_top hx
  rw [h, bit1_top hy, decide_eq_decide] at h1
  unfold bit1 at h
  by_cases h2 : x % 2 = 1
  · rw [if_pos h2, if_pos (h1.2 h2)] at h
    have := xor_cancel h
    have := h1.2 h2
    omega
  · have h3 : ¬ y % 2 = 1 := fun h4 => h2 (h1.1 h4)
    rw [if_neg h2, if_neg h3] at h
    omega
theorem bits_inj : ∀ (k : Nat) {x y : Nat}, x < 2 ^ 32 → y < 2 ^ 32 → bits k x = bits k y → x = y
  | 0, _, _, _, _, h => h
  | k + 1, _, _, hx, hy, h => bit1_inj hx hy (bits_inj k (bit1_lt hx) (bit1_lt hy) h)
theorem crcByte_inj {r s c : Nat} (hr : r < 2 ^ 32) (hs : s < 2 ^ 32) (hc : c < 256) (h : crcByte r c = crcByte s c) : r = s := by
  rw [byte_eq, byte_eq] at h
  exact xor_cancel (bits_inj 8 (Nat.xor_lt_two_pow hr (by omega)) (Nat.xor_lt_two_pow hs (by omega)) h)
theorem fold_inj : ∀ {v : List Nat} {r s : Nat}, r < 2 ^ 32 → s < 2 ^ 32 → (∀ x ∈ v, x < 256) → v.foldl crcByte r = v.foldl crcByte s → r = s
  | [], _, _, _, _, _, h => h
  | c :: v, r, s, hr, hs, hv, h => crcByte_inj hr hs (hv c (by simp)) (fold_inj (crcByte_lt hr (hv c (by simp))) (crcByte_lt hs (hv c (by simp))) (fun x hx => hv x (List.mem_cons_of_mem _ hx)) h)
/-- four bytes in one word -/
def word4 (a b c d : Nat) : Nat := a ^^^ 2 ^ 8 * b ^^^ 2 ^ 16 * c ^^^ 2 ^ 24 * d
theorem fold4 (r a b c d : Nat) : [a, b, c, d].foldl crcByte r = bits 32 (r ^^^ word4 a b c d) := by
  have e : r ^^^ word4 a b c d = (((r ^^^ a) ^^^ 2 ^ 8 * b) ^^^ 2 ^ 16 * c) ^^^ 2 ^ 24 * d := by unfold word4; simp only [Nat.xor_assoc]
  simp only [List.foldl_cons, List.foldl_nil, byte_eq]
  rw [e, show (32 : Nat) = 8 + 24 from rfl, bits_add, bits_xor, show (24 : Nat) = 8 + 16 from rfl, bits_add, bits_xor, show (16 : Nat) = 8 + 8 from rfl, bits_add, bits_xor]
  rfl
theorem word4_lt {a b c d : Nat} (ha : a < 256) (hb : b < 256) (hc : c < 256) (hd : d < 256) : word4 a b c d < 2 ^ 32 :=
  Nat.xor_lt_two_pow (Nat.xor_lt_two_pow (Nat.xor_lt_two_pow (by omega) (by omega)) (by omega)) (by omega)
theorem word4_add {a b c d : Nat} (ha : a < 256) (hb : b < 256) (hc : c < 256) : word4 a b c d = a + 2 ^ 8 * b + 2 ^ 16 * c + 2 ^ 24 * d := by
  have x : ∀ (i y z : Nat), y < 2 ^ i → y ^^^ 2 ^ i * z = y + 2 ^ i * z := fun i y z hy => by
    rw [Nat.add_comm y, Nat.two_pow_add_eq_or_of_lt hy z]
    apply Nat.eq_of_testBit_eq
    intro j
    rw [Nat.testBit_xor, Nat.testBit_or, Nat.testBit_two_pow_mul]
    by_cases hj : i ≤ j
    · rw [Nat.testBit_lt_two_pow (Nat.lt_of_lt_of_le hy (Nat.pow_le_pow_right (by omega) hj))]; simp
    · simp [hj]
  unfold word4
  rw [x 8 a b (by omega), x 16 _ c (by omega), x 24 _ d (by omega)]
theorem word4_inj {a b c d a' b' c' d' : Nat} (ha : a < 256) (hb : b < 256) (hc : c < 256) (ha' : a' < 256) (hb' : b' < 256) (hc' : c' < 256) (h : word4 a b c d = word4 a' b' c' d') :
    a = a' ∧ b = b' ∧ c = c' ∧ d = d' := by
  rw [word4_add ha hb hc, word4_add ha' hb' hc'] at h
  omega

/-- byte i of a word -/
def byteOf (ch i : Nat) : Nat := ch / 256 ^ i % 256
/-- the first j of four bytes from place a on are changed -/
def torn (p : List Nat) (a ch : Nat) : Nat → List Nat
  | 0 => p
  | j + 1 => (torn p a ch j).set (a + j) ((torn p a ch j).getD (a + j) 0 ^^^ byteOf ch j)
theorem torn_length (p : List Nat) (a ch j : Nat) : (torn p a ch j).length = p.length := by
  induction j with
  | zero => rfl
  | succ j ih => simp [torn, ih]
theorem byteOf_lt (ch i : Nat) : byteOf ch i < 256 := Nat.mod_lt _ (by decide)
theorem torn_lt {p : List Nat} {a ch : Nat} (hp : ∀ x ∈ p, x < 256) (j : Nat) : ∀ x ∈ torn p a ch j, x < 256 := by
  induction j with
  | zero => exact hp
  | succ j ih =>
    intro x hx
    rcases List.mem_or_eq_of_mem_set hx with h | h
    · exact ih x h
    · rw [h]
      refine Nat.xor_lt_two_pow (n := 8) ?_ (byteOf_lt _ _)
      by_cases hl : a + j < (torn p a ch j).length
      · rw [List.getD_eq_getElem?_getD, List.getElem?_eq_getElem hl]; exact ih _ (List.getElem_mem _)
      · rw [List.getD_eq_getElem?_getD, List.getElem?_eq_none (by omega)]; decide
theorem set_at (u v : List Nat) (c x : Nat) : (u ++ c :: v).set u.length x = u ++ x :: v := by simp
theorem get_at (u v : List Nat) (c : Nat) : (u ++ c :: v).getD u.length 0 = c := by simp
theorem torn_four (u v : List Nat) (a b c d ch : Nat) : torn (u ++ a :: b :: c :: d :: v) u.length ch 4 = u ++ (a ^^^ byteOf ch 0) :: (b ^^^ byteOf ch 1) :: (c ^^^ byteOf ch 2) :: (d ^^^ byteOf ch 3) :: v := by
  have e1 : torn (u ++ a :: b :: c :: d :: v) u.length ch 1 = u ++ (a ^^^ byteOf ch 0) :: b :: c :: d :: v := by
    show (u ++ a :: b :: c :: d :: v).set (u.length + 0) ((u ++ a :: b :: c :: d :: v).getD (u.length + 0) 0 ^^^ _) = _
    rw [Nat.add_zero, get_at, set_at]
  have step : ∀ (j : Nat) (w z : List Nat) (e : Nat), torn (u ++ a :: b :: c :: d :: v) u.length ch j = (u ++ w) ++ e :: z → w.length = j → torn (u ++ a :: b :: c :: d :: v) u.length ch (j + 1) = (u ++ w) ++ (e ^^^ byteOf ch j) :: z := by
    intro j w z e h hw
    have hl : u.length + j = (u ++ w).length := by simp [hw]
    show (torn (u ++ a :: b :: c :: d :: v) u.length ch j).set (u.length + j) ((torn (u ++ a :: b :: c :: d :: v) u.length ch j).getD (u.length + j) 0 ^^^ _) = _
    rw [h, hl, get_at, set_at]
  have e2 := step 1 [a ^^^ byteOf ch 0] (c :: d :: v) b (by rw [e1]; simp) rfl
  have e3 := step 2 [a ^^^ byteOf ch 0, b ^^^ byteOf ch 1] (d :: v) c (by rw [e2]; simp) rfl
  have e4 := step 3 [a ^^^ byteOf ch 0, b ^^^ byteOf ch 1, c ^^^ byteOf ch 2] v d (by rw [e3]; simp) rfl
  rw [e4]; simp
theorem split4 {l : List Nat} {a : Nat} (h : a + 4 ≤ l.length) : ∃ c0 c1 c2 c3, l = l.take a ++ c0 :: c1 :: c2 :: c3 :: l.drop (a + 4) := by
  refine ⟨l[a], l[a + 1], l[a + 2], l[a + 3], ?_⟩
  conv => lhs; rw [← List.take_append_drop a l]
  rw [List.drop_eq_getElem_cons (by omega : a < l.length), List.drop_eq_getElem_cons (by omega : a + 1 < l.length), List.drop_eq_getElem_cons (by omega : a + 2 < l.length), List.drop_eq_getElem_cons (by omega : a + 3 < l.length)]
theorem le4_inj {x y : Nat} (hx : x < 2 ^ 32) (hy : y < 2 ^ 32) (h : le4 x = le4 y) : x = y := by
  simp only [le4, List.cons.injEq, and_true] at h
  omega
theorem bytes_zero {ch : Nat} (h : ch < 2 ^ 32) (h0 : byteOf ch 0 = 0) (h1 : byteOf ch 1 = 0) (h2 : byteOf ch 2 = 0) (h3 : byteOf ch 3 = 0) : ch = 0 := by
  unfold byteOf at h0 h1 h2 h3
  simp only [Nat.pow_zero, Nat.div_one, Nat.pow_one, show 256 ^ 2 = 65536 from rfl, show 256 ^ 3 = 16777216 from rfl] at h0 h1 h2 h3
  omega
theorem xor_zero_of {x y : Nat} (h : x ^^^ y = x) : y = 0 := by
  have := congrArg (x ^^^ ·) h
  simpa [← Nat.xor_assoc] using this
theorem torn_law {k : Nat} {bs : List Nat} {a ch : Nat} (hl : bs.length ≤ 504) (hk : k < 256) (hb : ∀ x ∈ bs, x < 256) (ha : a ≤ 508) (ha4 : a = 0 ∨ 4 ≤ a) (hc : ch < 2 ^ 32) (h0 : ch ≠ 0) : whole (torn (sealB k bs) a ch 4) = false := by
  have hp := sealB_lt (bs := bs) hk hb
  have hpl : (sealB k bs).length = 512 := sealB_length hl
  have hbl := body_length (k := k) hl
  have hbody := body_lt (bs := bs) hk hb
  cases hw : whole (torn (sealB k bs) a ch 4) with
  | false => rfl
  | true =>
    exfalso
    rw [whole_iff (by rw [torn_length, hpl]) (torn_lt hp 4), Bool.and_eq_true, decide_eq_true_eq] at hw
    have hs := hw.1
    rcases ha4 with rfl | ha4
    · have e := torn_four [] (body k bs) (crc (body k bs) % 256) (crc (body k bs) / 256 % 256) (crc (body k bs) / 65536 % 256) (crc (body k bs) / 16777216 % 256) ch
      have e' : torn (sealB k bs) 0 ch 4 = _ := e
      rw [e'] at hs
      simp only [List.nil_append, List.take_succ_cons, List.take_zero, List.drop_succ_cons, List.drop_zero, le4, List.cons.injEq, and_true] at hs
      obtain ⟨s0, s1, s2, s3⟩ := hs
      exact h0 (bytes_zero hc (xor_zero_of s0) (xor_zero_of s1) (xor_zero_of s2) (xor_zero_of s3))
    · obtain ⟨c0, c1, c2, c3, e⟩ := split4 (l := body k bs) (a := a - 4) (by omega)
      generalize hu : (body k bs).take (a - 4) = u at e
      generalize hv : (body k bs).drop (a - 4 + 4) = v at e
      have hul : u.length = a - 4 := by rw [← hu]; simp; omega
      have hin : ∀ x, x ∈ u ∨ x = c0 ∨ x = c1 ∨ x = c2 ∨ x = c3 ∨ x ∈ v → x < 256 := fun x hx => hbody x (by rw [e]; simpa using hx)
      have hX : (le4 (crc (body k bs)) ++ u).length = a := by simp [le4, hul]; omega
      have e2 := torn_four (le4 (crc (body k bs)) ++ u) v c0 c1 c2 c3 ch
      have e3 : sealB k bs = (le4 (crc (body k bs)) ++ u) ++ c0 :: c1 :: c2 :: c3 :: v := by
        rw [List.append_assoc, ← e]; rfl
      rw [hX, ← e3] at e2
      rw [e2, List.append_assoc] at hs
      have l4 : (le4 (crc (body k bs))).length = 4 := rfl
      rw [List.take_left' l4, List.drop_left' l4] at hs
      have hx := le4_inj crc_lt crc_lt hs
      have d0 := byteOf_lt ch 0
      have d1 := byteOf_lt ch 1
      have d2 := byteOf_lt ch 2
      have d3 := byteOf_lt ch 3
      have b0 := hin c0 (by simp)
      have b1 := hin c1 (by simp)
      have b2 := hin c2 (by simp)
      have b3 := hin c3 (by simp)
      have x8 : ∀ {x y : Nat}, x < 256 → y < 256 → x ^^^ y < 256 := fun h h' => Nat.xor_lt_two_pow (n := 8) h h'
      have f0 := x8 b0 d0
      have f1 := x8 b1 d1
      have f2 := x8 b2 d2
      have f3 := x8 b3 d3
      have hvv : ∀ x ∈ v, x < 256 := fun x hx => hin x (by simp [hx])
      have huu : ∀ x ∈ u, x < 256 := fun x hx => hin x (by simp [hx])
      have hc1 : crcR (body k bs) < 2 ^ 32 := crcR_lt hbody
      have hc2 : crcR (u ++ (c0 ^^^ byteOf ch 0) :: (c1 ^^^ byteOf ch 1) :: (c2 ^^^ byteOf ch 2) :: (c3 ^^^ byteOf ch 3) :: v) < 2 ^ 32 := crcR_lt (by
        intro x hx
        simp only [List.mem_append, List.mem_cons] at hx
        rcases hx with h | h | h | h | h | h
        · exact huu x h
        · omega
        · omega
        · omega
        · omega
        · exact hvv x h)
      unfold crc at hx
      have hr : crcR (body k bs) = crcR (u ++ (c0 ^^^ byteOf ch 0) :: (c1 ^^^ byteOf ch 1) :: (c2 ^^^ byteOf ch 2) :: (c3 ^^^ byteOf ch 3) :: v) := by omega
      rw [e] at hr
      have g : ∀ (p q r s : Nat), crcR (u ++ p :: q :: r :: s :: v) = v.foldl crcByte ([p, q, r, s].foldl crcByte (u.foldl crcByte 4294967295)) := fun p q r s => by rw [crcR, List.foldl_append]; rfl
      rw [g, g] at hr
      have hr0 : u.foldl crcByte 4294967295 < 2 ^ 32 := foldl_lt huu (by decide)
      have in4 : ∀ {p q r s : Nat}, p < 256 → q < 256 → r < 256 → s < 256 → ∀ x ∈ [p, q, r, s], x < 256 := by
        intro p q r s h1 h2 h3 h4 x hx
        simp only [List.mem_cons, List.not_mem_nil, or_false] at hx
        omega
      have hr2 := fold_inj (foldl_lt (in4 b0 b1 b2 b3) hr0) (foldl_lt (in4 f0 f1 f2 f3) hr0) hvv hr
      rw [fold4, fold4] at hr2
      have hr3 := bits_inj 32 (Nat.xor_lt_two_pow hr0 (word4_lt b0 b1 b2 b3)) (Nat.xor_lt_two_pow hr0 (word4_lt f0 f1 f2 f3)) hr2
      rw [Nat.xor_comm _ (word4 c0 c1 c2 c3), Nat.xor_comm _ (word4 (c0 ^^^ byteOf ch 0) _ _ _)] at hr3
      obtain ⟨s0, s1, s2, s3⟩ := word4_inj b0 b1 b2 f0 f1 f2 (xor_cancel hr3)
      exact h0 (bytes_zero hc (xor_zero_of s0.symm) (xor_zero_of s1.symm) (xor_zero_of s2.symm) (xor_zero_of s3.symm))
end Go.Ev.W02
