/- Pg1: texts joined. -/
import Derived.Test.YtbdohcmaighhkaaDoorEvByte2
import Derived.Test.YtbdohcmaighhkaaDoorEvW02Sh
/- PAGE: the sum. -/
namespace Go.Ev.W02
open Go.Proofs

def tab16 : List Nat := [0, 498536548, 997073096, 651767980, 1994146192, 1802195444, 1303535960, 1342533948, 3988292384, 4027552580, 3604390888, 3412177804, 2607071920, 2262029012, 2685067896, 3183342108]
def steps : List V := tab16.map fun n => .int .u32 (.ofNat n)
/-- the table of the program lies where it lies -/
def Tab (h : Heap) : Prop := RowO true (h.t.get (gid 0)) 1 steps
def nib (r : Nat) : Nat := (r / 16) ^^^ (tab16.getD (r &&& 15) 0)
def crcByte (r c : Nat) : Nat := nib (nib (r ^^^ c))
def crcR (bs : List Nat) : Nat := bs.foldl crcByte 4294967295
def crc (bs : List Nat) : Nat := 4294967295 - crcR bs

theorem Tab.at_ {h : Heap} (t : Tab h) {i : Nat} (hi : i < 16) (k : V → Res) : load1k h ⟨0, .d0, .d0, .d0, .d0⟩ i k = k (.int .u32 (.ofNat (tab16.getD i 0))) := by
  refine load1k_law (b := gid 0) t ?_ k
  have hl : tab16.length = 16 := rfl
  rw [steps, List.getElem?_map, List.getElem?_eq_getElem (by omega), List.getD_eq_getElem?_getD, List.getElem?_eq_getElem (by omega)]; rfl

theorem tab16_lt (i : Nat) : tab16.getD i 0 < 2 ^ 32 := by
  by_cases h : i < 16
  · have : ∀ j : Fin 16, tab16.getD j.val 0 < 2 ^ 32 := by decide
    exact this ⟨i, h⟩
  · rw [List.getD_eq_getElem?_getD, List.getElem?_eq_none (by simp [tab16]; omega)]; decide
theorem nib_lt {r : Nat} (h : r < 2 ^ 32) : nib r < 2 ^ 32 := Nat.xor_lt_two_pow (by omega) (tab16_lt _)
theorem crcByte_lt {r c : Nat} (h : r < 2 ^ 32) (hc : c < 256) : crcByte r c < 2 ^ 32 := nib_lt (nib_lt (Nat.xor_lt_two_pow h (by omega)))
theorem foldl_lt {bs : List Nat} (hb : ∀ x ∈ bs, x < 256) : ∀ {r : Nat}, r < 2 ^ 32 → bs.foldl crcByte r < 2 ^ 32 := by
  induction bs with
  | nil => intro r h; exact h
  | cons c bs ih => intro r h; exact ih (fun x hx => hb x (List.mem_cons_of_mem _ hx)) (crcByte_lt h (hb c (by simp)))
theorem crcR_lt {bs : List Nat} (hb : ∀ x ∈ bs, x < 256) : crcR bs < 2 ^ 32 := foldl_lt hb (by decide)
theorem crcR_succ {bs : List Nat} {i : Nat} (hi : i < bs.length) : crcR (bs.take (i + 1)) = crcByte (crcR (bs.take i)) bs[i] := by
  rw [crcR, crcR, List.take_succ_eq_append_getElem hi, List.foldl_append]; rfl

theorem sum_law {n : Nat} {cf : CF} {h : Heap} {v : V} {bs : List Nat} (ht : Tab h) (w : IsS h v (bs.map bV)) (hb : ∀ x ∈ bs, x < 256) (hl : bs.length < 2 ^ 62) (hn : bs.length < n) : sh13 words n cf [v] h = .ret (.int .u32 (.ofNat (crc bs))) h := by
  unfold sh13
  simp only [unc_cons, nilk'_nil, w.len, List.length_map, words]
  refine lpk_inv (I := fun vs h' m => ∃ i, i ≤ bs.length ∧ m = bs.length - i ∧ h' = h ∧ vs = [.int .u32 (.ofNat (crcR (bs.take i))), v, .int .i64 (.ofNat bs.length), .int .i64 (.ofNat i)]) (Q := (· = _)) ?_ n _ _ bs.length hn ⟨0, by omega, by omega, rfl, rfl⟩
  rintro again vs h' m ⟨i, h1, rfl, rfl, rfl⟩ ih
  have hr := crcR_lt (bs := bs.take i) fun x hx => hb x (List.mem_of_mem_take hx)
  simp only [unc_cons, castF_int, nilk'_nil, ilt_nat]
  by_cases hi : i < bs.length
  · rw [decide_eq_true hi, ifk_true]
    obtain ⟨b, o, l, c, s, rfl, hil, hld⟩ := w.at_ (i := i) (by simpa using hi)
    have hb := hb bs[i] (List.getElem_mem hi)
    have hx : crcR (bs.take i) ^^^ bs[i] < 2 ^ 32 := Nat.xor_lt_two_pow hr (by omega)
    have hq := nib_lt hx
    simp only [slk_slice, natk_ofNat, blt_of hil, ifk_true, hld, List.getElem_map, bV, castI_int, wrapv_small .u32 bs[i] (by show _ ≤ 4294967295; omega), bxor_small .u32 _ _ (show crcR (bs.take i) ≤ 4294967295 by omega) (show bs[i] ≤ 4294967295 by omega)]
    rw [band_small .u32 _ _ (show _ ≤ 4294967295 by omega) (by decide), natk_ofNat, blt_of (Nat.lt_of_le_of_lt Nat.and_le_right (by decide)), ifk_true]
    rw [show Nat.add 0 ((crcR (bs.take i) ^^^ bs[i]) &&& 15) = (crcR (bs.take i) ^^^ bs[i]) &&& 15 from Nat.zero_add _, ht.at_ (Nat.lt_of_le_of_lt Nat.and_le_right (by decide)), castI_int, shrv_nat,
      bxor_small .u32 _ _ (show _ ≤ 4294967295 by omega) (show _ ≤ 4294967295 from Nat.le_of_lt_succ (tab16_lt _))]
    have e1 : ((crcR (bs.take i) ^^^ bs[i]) / 16 ^^^ tab16.getD ((crcR (bs.take i) ^^^ bs[i]) &&& 15) 0) = nib (crcR (bs.take i) ^^^ bs[i]) := rfl
    rw [e1, band_small .u32 _ _ (show _ ≤ 4294967295 by omega) (by decide), natk_ofNat, blt_of (Nat.lt_of_le_of_lt Nat.and_le_right (by decide)), ifk_true,
      show Nat.add 0 (nib (crcR (bs.take i) ^^^ bs[i]) &&& 15) = nib (crcR (bs.take i) ^^^ bs[i]) &&& 15 from Nat.zero_add _, ht.at_ (Nat.lt_of_le_of_lt Nat.and_le_right (by decide)), castI_int, shrv_nat,
      bxor_small .u32 _ _ (show _ ≤ 4294967295 by omega) (show _ ≤ 4294967295 from Nat.le_of_lt_succ (tab16_lt _)), add_nat, wrapv_small .i64 _ (show i + 1 ≤ 9223372036854775807 by omega)]
    refine ih _ _ (bs.length - (i + 1)) (by omega) ⟨i + 1, hi, rfl, rfl, ?_⟩
    rw [crcR_succ hi]
    rfl
  · have : i = bs.length := by omega
    subst this
    rw [decide_eq_false hi, ifk_false, List.take_length] 
    rw [List.take_length] at hr
    rw [comv_u32 _ (by omega)]
    rfl
end Go.Ev.W02

/- PAGE: slices.Clone, slices.ContainsFunc, the document's sum. -/
namespace Go.Ev.W02
open Go.Proofs

theorem clone_law {n : Nat} {cf : CF} {h : Heap} {v : V} {l : List V} (w : IsS h v l) (lo : Low v h.nx.val) (hl : l.length ≤ 16777216) :
    ∃ h' v', sh16 words n cf [v] h = .ret v' h' ∧ Own h' h.nx.val v' l ∧ Up h h' := by
  have main : Go.Ev.snk v = (fun k => k false) → ∃ h' v', sh16 words n cf [v] h = .ret v' h' ∧ Own h' h.nx.val v' l ∧ Up h h' := by
    intro hs
    unfold sh16
    simp only [unc_cons, nilk'_nil, hs, ifk_false]
    obtain ⟨t, h1, h2⟩ := rowk_law (g := 1) (n := 0) (by omega) (l := []) rfl
    obtain ⟨h3, h4, h5, h6⟩ := newk_law h (.arr 1 0 t false)
    have ow : Own h3 h.nx.val (.slice h.nx 0 0 (some 0) 1) [] := .sl h.nx (some 0) [] (Nat.le_refl _) h6.lt (by rw [h5]; exact h2) fun n e => by cases e; rfl
    obtain ⟨h7, v', h8, h9, h10⟩ := app_own ow (w.upto lo h6.up) h6.up.nx (by simpa using hl)
    refine ⟨h7, v', ?_, h9, (h6.up.to (Nat.le_refl _) |>.trans h10).up⟩
    show rowk 1 0 [] (fun l6 => Heap.newk h (.arr 1 0 l6 false) fun p8 h10 => words.app 1 (.slice p8 0 0 (some 0) 1) v h10 fun v16 h18 => .ret v16 h18) = .ret v' h7
    rw [h1, h4, h8]
  cases w with
  | nils => exact ⟨h, .nils, rfl, .nils, .refl _⟩
  | emp => exact main rfl
  | sl b o c op cs _ row fit is cap => exact main rfl

/-- the first that is not nought -/
theorem index_law {n : Nat} {cf : CF} {h : Heap} {v : V} {bs : List Nat} (w : IsS h v (bs.map bV)) (hb : ∀ x ∈ bs, x < 256) (hl : bs.length < 2 ^ 62) (hn : bs.length < n)
    (hcf : ∀ x h, x < 256 → cf ⟨.d0, .d0, .d1, .d2⟩ [bV x] h = .ret (.bool (decide (x ≠ 0))) h) :
    ∃ i : Int, sh19 words n cf [v, .func 18 []] h = .ret (.int .i64 i) h ∧ (ilt i 0 = !(bs.any fun x => decide (x ≠ 0))) := by
  unfold sh19
  simp only [unc_cons, nilk'_nil, w.len, List.length_map, words]
  refine lpk_inv (I := fun vs h' m => ∃ i, i ≤ bs.length ∧ m = bs.length - i ∧ h' = h ∧ vs = [v, .func 18 [], .int .i64 (.ofNat bs.length), .int .i64 (.ofNat i)] ∧ (bs.take i).any (fun x => decide (x ≠ 0)) = false)
    (Q := fun r => ∃ i : Int, r = .ret (.int .i64 i) h ∧ (ilt i 0 = !(bs.any fun x => decide (x ≠ 0)))) ?_ n _ _ bs.length hn ⟨0, by omega, by omega, rfl, rfl, by simp⟩
  rintro again vs h' m ⟨i, h1, rfl, rfl, rfl, ha⟩ ih
  simp only [unc_cons, castF_int, nilk'_nil, ilt_nat]
  by_cases hi : i < bs.length
  · obtain ⟨b, o, l, c, s, rfl, hil, hld⟩ := w.at_ (i := i) (by simpa using hi)
    have hbi := hb bs[i] (List.getElem_mem hi)
    simp only [decide_eq_true hi, ifk_true, slk_slice, natk_ofNat, blt_of hil, hld, List.getElem_map, bV, castI_int]
    have e : callv cf (.func 18 []) [.int .u8 (.ofNat bs[i])] h' = .ret (.bool (decide (bs[i] ≠ 0))) h' := hcf bs[i] h' hbi
    rw [e]
    simp only [backk_ret, castB_bool]
    have ht : bs.take (i + 1) = bs.take i ++ [bs[i]] := List.take_succ_eq_append_getElem hi
    by_cases h0 : bs[i] = 0
    · rw [decide_eq_false (by simpa using h0), ifk_false, add_nat, wrapv_small .i64 _ (show i + 1 ≤ 9223372036854775807 by omega)]
      exact ih _ _ (bs.length - (i + 1)) (by omega) ⟨i + 1, hi, rfl, rfl, rfl, by rw [ht, List.any_append, ha]; simp [h0]⟩
    · rw [decide_eq_true h0, ifk_true]
      refine ⟨_, rfl, ?_⟩
      have : bs.any (fun x => decide (x ≠ 0)) = true := List.any_eq_true.2 ⟨bs[i], List.getElem_mem hi, by simpa using h0⟩
      rw [this]; rfl
  · have : i = bs.length := by omega
    subst this
    rw [decide_eq_false hi, ifk_false]
    rw [List.take_length] at ha
    exact ⟨_, rfl, by rw [ha]; rfl⟩
theorem contains_law {n : Nat} {cf : CF} {h : Heap} {v : V} {bs : List Nat} (hcf : ∃ i : Int, cf ⟨.d0, .d0, .d1, .d3⟩ [v, .func 18 []] h = .ret (.int .i64 i) h ∧ (ilt i 0 = !(bs.any fun x => decide (x ≠ 0)))) :
    sh17 words n cf [v, .func 18 []] h = .ret (.bool (bs.any fun x => decide (x ≠ 0))) h := by
  obtain ⟨i, h1, h2⟩ := hcf
  unfold sh17
  simp only [unc_cons, nilk'_nil, h1, backk_ret, castI_int]
  rw [show (Int.ofNat 0) = (0 : Int) from rfl, h2, Bool.not_not]
theorem isnt_law {n : Nat} {cf : CF} {h : Heap} {x : Nat} : sh18 words n cf [bV x] h = .ret (.bool (decide (x ≠ 0))) h := by
  unfold sh18
  simp only [unc_cons, bV, castI_int, nilk'_nil, ieq_nat]
  by_cases e : x = 0 <;> simp [e]

/- the document's sum -/
def bit1 (r : Nat) : Nat := if r % 2 = 1 then (r / 2) ^^^ 3988292384 else r / 2
def bits : Nat → Nat → Nat
  | 0, r => r
  | k + 1, r => bits k (bit1 r)
theorem bit1_lt {r : Nat} (h : r < 2 ^ 32) : bit1 r < 2 ^ 32 := by
  unfold bit1
  split
  · exact Nat.xor_lt_two_pow (by omega) (by decide)
  · omega
theorem bits_succ (k r : Nat) : bits (k + 1) r = bit1 (bits k r) := by
  induction k generalizing r with
  | zero => rfl
  | succ k ih => exact ih (bit1 r)
theorem bits_lt {k r : Nat} (h : r < 2 ^ 32) : bits k r < 2 ^ 32 := by
  induction k generalizing r with
  | zero => exact h
  | succ k ih => exact ih (bit1_lt h)
def refByte (r c : Nat) : Nat := bits 8 (r ^^^ c)
def refR (bs : List Nat) : Nat := bs.foldl refByte 4294967295
theorem refByte_lt {r c : Nat} (h : r < 2 ^ 32) (hc : c < 256) : refByte r c < 2 ^ 32 := bits_lt (Nat.xor_lt_two_pow h (by omega))
theorem reffold_lt {bs : List Nat} (hb : ∀ x ∈ bs, x < 256) : ∀ {r : Nat}, r < 2 ^ 32 → bs.foldl refByte r < 2 ^ 32 := by
  induction bs with
  | nil => intro r h; exact h
  | cons c bs ih => intro r h; exact ih (fun x hx => hb x (List.mem_cons_of_mem _ hx)) (refByte_lt h (hb c (by simp)))
theorem refR_lt {bs : List Nat} (hb : ∀ x ∈ bs, x < 256) : refR bs < 2 ^ 32 := reffold_lt hb (by decide)
theorem refR_succ {bs : List Nat} {i : Nat} (hi : i < bs.length) : refR (bs.take (i + 1)) = refByte (refR (bs.take i)) bs[i] := by
  rw [refR, refR, List.take_succ_eq_append_getElem hi, List.foldl_append]; rfl

theorem refsum_law {n : Nat} {cf : CF} {h : Heap} {v : V} {bs : List Nat} (w : IsS h v (bs.map bV)) (hb : ∀ x ∈ bs, x < 256) (hl : bs.length < 2 ^ 62) (hn : bs.length < n) (hn8 : 8 < n) :
    sh14 words n cf [v] h = .ret (.int .u32 (.ofNat (refR bs ^^^ 4294967295))) h := by
  unfold sh14
  simp only [unc_cons, nilk'_nil, words]
  refine lpk_inv (I := fun vs h' m => ∃ i, i ≤ bs.length ∧ m = bs.length - i ∧ h' = h ∧ vs = [v, .int .u32 (.ofNat (refR (bs.take i))), .int .i64 (.ofNat i)]) (Q := (· = _)) ?_ n _ _ bs.length hn ⟨0, by omega, by omega, rfl, rfl⟩
  rintro again vs h' m ⟨i, h1, rfl, rfl, rfl⟩ ih
  have hr := refR_lt (bs := bs.take i) fun x hx => hb x (List.mem_of_mem_take hx)
  simp only [unc_cons, castF_int, nilk'_nil, w.len, List.length_map, ilt_nat]
  by_cases hi : i < bs.length
  · obtain ⟨b, o, l, c, s, rfl, hil, hld⟩ := w.at_ (i := i) (by simpa using hi)
    have hbi := hb bs[i] (List.getElem_mem hi)
    have hx : refR (bs.take i) ^^^ bs[i] < 2 ^ 32 := Nat.xor_lt_two_pow hr (by omega)
    simp only [decide_eq_true hi, ifk_true, slk_slice, natk_ofNat, blt_of hil, hld, List.getElem_map, bV, castI_int, wrapv_small .u32 bs[i] (by show _ ≤ 4294967295; omega),
      bxor_small .u32 _ _ (show refR (bs.take i) ≤ 4294967295 by omega) (show bs[i] ≤ 4294967295 by omega)]
    -- the inner loop
    rw [lpk_inv (body := fun (again : List V → Heap → Res) vs h => unc vs fun v48 l50 => unc l50 fun v52 l54 => castF .u32 v52 fun i56 => unc l54 fun v58 l60 => castF .i64 v58 fun i62 => unc l60 fun v64 l66 => castF .i64 v64 fun i68 => nilk' l66
        (ifk (ilt i68 (.ofNat 8)) (contk (ifk (ieq (band .u32 i56 (.ofNat 1)) (.ofNat 1)) (.done .normal [v48, .int .u32 (bxor .u32 (shrv i56 2) (.ofNat 3988292384)), .int .i64 i62, .int .i64 i68] h)
          (.done .normal [v48, .int .u32 (shrv i56 2), .int .i64 i62, .int .i64 i68] h)) fun x70 l72 h74 => unc l72 fun v76 l78 => unc l78 fun v80 l82 => castI .u32 v80 fun i84 => unc l82 fun v86 l88 => castI .i64 v86 fun i90 =>
            unc l88 fun v92 l94 => castI .i64 v92 fun i96 => nilk' l94 (nork x70 (again [v76, .int .u32 i84, .int .i64 i90, .int .i64 (wrapv .i64 (Int.add i96 (.ofNat 1)))] h74) .fail)) (.done .normal [v48, .int .u32 i56, .int .i64 i62] h)))
      (I := fun vs h'' m => ∃ j, j ≤ 8 ∧ m = 8 - j ∧ h'' = h' ∧ vs = [.slice b o l c s, .int .u32 (.ofNat (bits j (refR (bs.take i) ^^^ bs[i]))), .int .i64 (.ofNat i), .int .i64 (.ofNat j)])
      (Q := (· = .done .normal [.slice b o l c s, .int .u32 (.ofNat (refByte (refR (bs.take i)) bs[i])), .int .i64 (.ofNat i)] h')) ?_ n _ _ 8 hn8 ⟨0, by omega, rfl, rfl, rfl⟩]
    · simp only [contk_done, unc_cons, castI_int, nilk'_nil, nork_normal, add_nat, wrapv_small .i64 _ (show i + 1 ≤ 9223372036854775807 by omega)]
      refine ih _ _ (bs.length - (i + 1)) (by omega) ⟨i + 1, hi, rfl, rfl, ?_⟩
      rw [refR_succ hi]
    · rintro again vs h'' m ⟨j, hj, rfl, rfl, rfl⟩ ih
      have hq := bits_lt (k := j) hx
      simp only [unc_cons, castF_int, nilk'_nil, ilt_nat]
      by_cases hj8 : j < 8
      · rw [decide_eq_true hj8, ifk_true, band_small .u32 _ _ (show _ ≤ 4294967295 by omega) (by decide), ieq_nat, shrv_nat]
        have e1 : bits j (refR (bs.take i) ^^^ bs[i]) &&& 1 = bits j (refR (bs.take i) ^^^ bs[i]) % 2 := Nat.and_one_is_mod _
        rw [e1]
        have step : ∀ q, q = bits (j + 1) (refR (bs.take i) ^^^ bs[i]) → again [.slice b o l c s, .int .u32 (.ofNat q), .int .i64 (.ofNat i), .int .i64 (wrapv .i64 (Int.add (.ofNat j) (.ofNat 1)))] h'' =
            .done .normal [.slice b o l c s, .int .u32 (.ofNat (refByte (refR (bs.take i)) bs[i])), .int .i64 (.ofNat i)] h'' := by
          rintro q rfl
          rw [add_nat, wrapv_small .i64 _ (show j + 1 ≤ 9223372036854775807 by omega)]
          exact ih _ _ (8 - (j + 1)) (by omega) ⟨j + 1, hj8, rfl, rfl, rfl⟩
        by_cases hbit : bits j (refR (bs.take i) ^^^ bs[i]) % 2 = 1
        · rw [decide_eq_true hbit, ifk_true]
          simp only [contk_done, unc_cons, castI_int, nilk'_nil, nork_normal]
          rw [bxor_small .u32 _ _ (show _ ≤ 4294967295 by omega) (by decide)]
          exact step _ (by rw [bits_succ, bit1, if_pos hbit])
        · rw [decide_eq_false hbit, ifk_false]
          simp only [contk_done, unc_cons, castI_int, nilk'_nil, nork_normal]
          exact step _ (by rw [bits_succ, bit1, if_neg hbit])
      · have : j = 8 := by omega
        subst this
        rw [decide_eq_false hj8, ifk_false]
        rfl
  · have : i = bs.length := by omega
    subst this
    rw [decide_eq_false hi, ifk_false, List.take_length]
    rw [List.take_length] at hr
    rw [bxor_small .u32 _ _ (show _ ≤ 4294967295 by omega) (by decide)]
end Go.Ev.W02

/- PAGE: both sums are one; the sealed page. -/
namespace Go.Ev.W02
open Go.Proofs

theorem bit1_xor (x y : Nat) : bit1 (x ^^^ 2 * y) = bit1 x ^^^ y := by
  have e1 : (x ^^^ 2 * y) % 2 = x % 2 := by
    have := Nat.testBit_xor (x := x) (y := 2 * y) (i := 0)
    simp only [Nat.testBit_zero] at this
    have h2 : decide (2 * y % 2 = 1) = false := by simp
    rw [h2, Bool.xor_false] at this
    rcases Nat.mod_two_eq_zero_or_one (x ^^^ 2 * y) with h3 | h3 <;> rcases Nat.mod_two_eq_zero_or_one x with h4 | h4 <;> simp_all
  have e2 : (x ^^^ 2 * y) / 2 = x / 2 ^^^ y := by
    apply Nat.eq_of_testBit_eq
    intro i
    rw [Nat.testBit_xor, ← Nat.testBit_succ, ← Nat.testBit_succ, Nat.testBit_xor]
    congr 1
    rw [Nat.testBit_succ]; congr 1; omega
  unfold bit1
  rw [e1, e2]
  split
  · rw [Nat.xor_assoc, Nat.xor_comm y, ← Nat.xor_assoc]
  · rfl
theorem bits_xor (k x y : Nat) : bits k (x ^^^ 2 ^ k * y) = bits k x ^^^ y := by
  induction k generalizing x with
  | zero => simp [bits]
  | succ k ih =>
    show bits k (bit1 (x ^^^ 2 ^ (k + 1) * y)) = bits k (bit1 x) ^^^ y
    rw [show 2 ^ (k + 1) * y = 2 * (2 ^ k * y) by rw [Nat.pow_succ, Nat.mul_comm (2 ^ k) 2, Nat.mul_assoc], bit1_xor, ih]
theorem nib_bits (x : Nat) : nib x = bits 4 x := by
  have h1 : x = x % 16 ^^^ 2 ^ 4 * (x / 16) := by
    apply Nat.eq_of_testBit_eq
    intro i
    rw [Nat.testBit_xor, show (16 : Nat) = 2 ^ 4 from rfl, Nat.testBit_mod_two_pow, Nat.testBit_two_pow_mul]
    by_cases hi : i < 4
    · have h4 : ¬ 4 ≤ i := by omega
      simp [hi, h4]
    · have : 4 ≤ i := by omega
      simp only [hi, decide_false, Bool.false_and, Bool.false_xor, this, decide_true, Bool.true_and]
      rw [Nat.testBit_div_two_pow]; congr 1; omega
  have h2 : ∀ t : Fin 16, bits 4 t.val = tab16.getD t.val 0 := by decide
  have h3 : x &&& 15 = x % 16 := Nat.and_two_pow_sub_one_eq_mod x 4
  conv => rhs; rw [h1, bits_xor, h2 ⟨x % 16, Nat.mod_lt _ (by decide)⟩]
  rw [nib, h3, Nat.xor_comm]
theorem bits_add (j k x : Nat) : bits (j + k) x = bits j (bits k x) := by
  induction k generalizing x with
  | zero => rfl
  | succ k ih => exact ih (bit1 x)
theorem byte_eq (r c : Nat) : crcByte r c = refByte r c := by
  rw [crcByte, nib_bits, nib_bits, ← bits_add]; rfl
theorem crcR_eq (bs : List Nat) : crcR bs = refR bs := by
  have : crcByte = refByte := by funext r c; exact byte_eq r c
  rw [crcR, refR, this]
theorem xor_ones {r : Nat} (h : r < 2 ^ 32) : r ^^^ 4294967295 = 4294967295 - r := by
  apply Nat.eq_of_testBit_eq
  intro i
  rw [Nat.testBit_xor, show (4294967295 : Nat) = 2 ^ 32 - 1 from rfl, Nat.testBit_two_pow_sub_one, show 2 ^ 32 - 1 - r = 2 ^ 32 - (r + 1) by omega, Nat.testBit_two_pow_sub_succ h]
  by_cases hi : i < 32
  · simp [hi]
  · simp [hi]
    exact Nat.testBit_lt_two_pow (Nat.lt_of_lt_of_le h (Nat.pow_le_pow_right (by omega) (by omega)))
theorem crc_ref {bs : List Nat} (hb : ∀ x ∈ bs, x < 256) : refR bs ^^^ 4294967295 = crc bs := by
  rw [xor_ones (refR_lt hb), crc, crcR_eq]
theorem crc_lt {bs : List Nat} : crc bs < 2 ^ 32 := by unfold crc; omega

/- THE SEALED PAGE -/
def body (k : Nat) (bs : List Nat) : List Nat := [bs.length % 256, bs.length / 256 % 256, k, 157] ++ (bs ++ List.replicate (504 - bs.length) 0)
def le4 (n : Nat) : List Nat := [n % 256, n / 256 % 256, n / 65536 % 256, n / 16777216 % 256]
def sealB (k : Nat) (bs : List Nat) : List Nat := le4 (crc (body k bs)) ++ body k bs
theorem body_length {k : Nat} {bs : List Nat} (h : bs.length ≤ 504) : (body k bs).length = 508 := by simp [body]; omega
theorem sealB_length {k : Nat} {bs : List Nat} (h : bs.length ≤ 504) : (sealB k bs).length = 512 := by simp [sealB, le4, body_length h]
theorem body_lt {k : Nat} {bs : List Nat} (hk : k < 256) (hb : ∀ x ∈ bs, x < 256) : ∀ x ∈ body k bs, x < 256 := by
  intro x hx
  simp only [body, List.mem_append, List.mem_cons, List.not_mem_nil, or_false, List.mem_replicate] at hx
  rcases hx with (h | h | h | h) | h | h
  · omega
  · omega
  · omega
  · omega
  · exact hb x h
  · omega
theorem sealB_lt {k : Nat} {bs : List Nat} (hk : k < 256) (hb : ∀ x ∈ bs, x < 256) : ∀ x ∈ sealB k bs, x < 256 := by
  intro x hx
  rcases List.mem_append.1 hx with h | h
  · simp only [le4, List.mem_cons, List.not_mem_nil, or_false] at h; omega
  · exact body_lt hk hb x h

theorem wrapv_u8 (m : Nat) : wrapv .u8 (.ofNat m) = .ofNat (m % 256) := by
  rw [wrapv_eq]
  simp [IntKind.wrap, IntKind.bits, IntKind.signed]
theorem map_set (l : List Nat) (i x : Nat) : (l.map bV).set i (bV x) = (l.set i x).map bV := by rw [List.map_set]
end Go.Ev.W02

/- PAGE: Seal. -/
namespace Go.Ev.W02
open Go.Proofs

def spliceN (l : List Nat) (o : Nat) (m : List Nat) : List Nat := l.take o ++ m ++ l.drop (o + m.length)
theorem splice_map (l : List Nat) (o : Nat) (m : List Nat) : splice (l.map bV) o (m.map bV) = (spliceN l o m).map bV := by
  simp [splice, spliceN, List.map_take, List.map_drop]

/-- what the callees answer -/
structure Callees (cf : CF) : Prop where
  sum : ∀ v h (bs : List Nat), Tab h → IsS h v (bs.map bV) → (∀ x ∈ bs, x < 256) → bs.length ≤ 4096 → cf ⟨.d0, .d0, .d0, .dd⟩ [v] h = .ret (.int .u32 (.ofNat (crc bs))) h
  refsum : ∀ v h (bs : List Nat), IsS h v (bs.map bV) → (∀ x ∈ bs, x < 256) → bs.length ≤ 4096 → cf ⟨.d0, .d0, .d0, .de⟩ [v] h = .ret (.int .u32 (.ofNat (crc bs))) h
  clone : ∀ v h l, IsS h v l → Low v h.nx.val → l.length ≤ 4096 → ∃ h' v', cf ⟨.d0, .d0, .d1, .d0⟩ [v] h = .ret v' h' ∧ Own h' h.nx.val v' l ∧ Up h h'

theorem Tab.up {h h' : Heap} (t : Tab h) (h0 : 0 < h.nx.val) (u : Up h h') : Tab h' := by
  unfold Tab at *
  rw [u.get (gid 0) h0]; exact t
theorem Tab.upTo {n : Nat} {h h' : Heap} (t : Tab h) (h0 : 0 < n) (u : UpTo n h h') : Tab h' := by
  unfold Tab at *
  rw [u.get (gid 0) h0]; exact t

def headN (k : Nat) (bs : List Nat) : List Nat := ((((List.replicate 512 0).set 4 (bs.length % 256)).set 5 (bs.length / 256 % 256)).set 6 k).set 7 157
theorem head_law (k : Nat) (bs : List Nat) : spliceN (headN k bs) 8 bs = [0, 0, 0, 0] ++ body k bs := by
  have e : headN k bs = [0, 0, 0, 0, bs.length % 256, bs.length / 256 % 256, k, 157] ++ List.replicate 504 0 := by
    rw [headN, show (512 : Nat) = 8 + 504 from rfl, ← List.replicate_append_replicate]; rfl
  unfold spliceN
  rw [e, List.take_append_of_le_length (by simp only [List.length_cons, List.length_nil]; omega), List.drop_append]
  have e1 : List.drop (8 + bs.length) [0, 0, 0, 0, bs.length % 256, bs.length / 256 % 256, k, 157] = [] := List.drop_of_length_le (by simp only [List.length_cons, List.length_nil]; omega)
  rw [e1, List.nil_append, List.drop_replicate]
  simp only [body, List.length_cons, List.length_nil, List.take]
  rw [show 504 - (8 + bs.length - (0 + 1 + 1 + 1 + 1 + 1 + 1 + 1 + 1)) = 504 - bs.length by omega]
  simp only [List.cons_append, List.nil_append]
theorem le4_get (n i : Nat) (hi : i < 4) : (le4 n)[i]? = some (n / 2 ^ (8 * i) % 256) := by
  rcases (by omega : i = 0 ∨ i = 1 ∨ i = 2 ∨ i = 3) with rfl | rfl | rfl | rfl <;> simp [le4]

theorem seal_law {n : Nat} {cf : CF} (C : Callees cf) {h : Heap} {v : V} {k : Nat} {bs : List Nat} (t : Tab h) (h0 : 0 < h.nx.val) (w : IsS h v (bs.map bV)) (lo : Low v h.nx.val) (hk : k < 256)
    (hb : ∀ x ∈ bs, x < 256) (hn : 4 < n) :
    (504 < bs.length → sh8 words n cf [bV k, v] h = .ret (.tup [.nils, .int .i64 (.ofNat 2)]) h) ∧
    (bs.length ≤ 504 → ∃ h' v', sh8 words n cf [bV k, v] h = .ret (.tup [v', .int .i64 (.ofNat 0)]) h' ∧ Own h' h.nx.val v' ((sealB k bs).map bV) ∧ Up h h') := by
  constructor
  · intro hl
    unfold sh8
    simp only [bV, unc_cons, castI_int, nilk'_nil, w.len, List.length_map, ilt_nat, decide_eq_true hl, ifk_true]
  · intro hl
    -- the array and the stores
    obtain ⟨h1, e1, r1, n1⟩ := newk_law h (.arr 1 512 (repT [bV 0] 512 512) false)
    have c1 : Row (h1.t.get h.nx) 1 ((List.replicate 512 0).map bV) := by
      rw [r1]
      refine row_ext (Row.rep [bV 0] (by simp) 512) ?_
      rw [List.map_replicate]
      generalize 512 = m
      induction m with
      | zero => rfl
      | succ m ih => rw [List.replicate_succ, List.flatten_cons, ih, List.replicate_succ]; rfl
    obtain ⟨h2, e2, r2, b2⟩ := store1_law c1 (o := 4) (by simp only [List.length_map, List.length_replicate]; omega) (bV (bs.length % 256))
    rw [map_set] at r2
    obtain ⟨h3, e3, r3, b3⟩ := store1_law r2 (o := 5) (by simp only [List.length_map, List.length_set, List.length_replicate]; omega) (bV (bs.length / 256 % 256))
    rw [map_set] at r3
    obtain ⟨h4, e4, r4, b4⟩ := store1_law r3 (o := 6) (by simp only [List.length_map, List.length_set, List.length_replicate]; omega) (bV k)
    rw [map_set] at r4
    obtain ⟨h5, e5, r5, b5⟩ := store1_law r4 (o := 7) (by simp only [List.length_map, List.length_set, List.length_replicate]; omega) (bV 157)
    rw [map_set] at r5
    have u5 : Up h h5 := ((n1.up.to (Nat.le_refl _)).trans ((b2.up (Nat.le_refl _)).trans ((b3.up (Nat.le_refl _)).trans ((b4.up (Nat.le_refl _)).trans (b5.up (Nat.le_refl _)))))).up
    obtain ⟨h6, e6, r6, b6⟩ := copy_law (w.upto lo u5) r5 (o := 8) (l := 504) (c := some 504) (by simp only [List.length_map, List.length_set, List.length_replicate]; omega) (by simpa using hl)
    rw [show (((((List.replicate 512 0).set 4 (bs.length % 256)).set 5 (bs.length / 256 % 256)).set 6 k).set 7 157) = headN k bs from rfl, splice_map, head_law] at r6
    have u6 : Up h h6 := ((u5.to (Nat.le_refl _)).trans (b6.up (Nat.le_refl _))).up
    have nx6 : h.nx.val < h6.nx.val := by rw [b6.nx, b5.nx, b4.nx, b3.nx, b2.nx]; exact n1.lt
    have hbl := body_length (k := k) hl
    have s6 : IsS h6 (.slice h.nx 4 508 (some 508) 1) ((body k bs).map bV) := by
      have := IsS.sl h.nx 4 (some 508) false _ ((body k bs).map bV) r6 (by simp [hbl]) (by simp [hbl]; exact List.take_of_length_le (by simp [hbl])) (fun n e => by cases e; simp [hbl])
      simpa [hbl] using this
    have sum6 := C.sum _ h6 (body k bs) (t.up h0 u6) s6 (body_lt hk hb) (by omega)
    unfold sh8
    simp only [bV, unc_cons, castI_int, nilk'_nil, w.len, List.length_map, ilt_nat, decide_eq_false (show ¬ 504 < bs.length by omega), ifk_false, wrapv_u8, shrv_nat]
    simp only [bV] at e1 e2 e3 e4 e5
    rw [show words.new = Heap.newk from rfl, e1, e2, e3, e4, e5]
    have sl8 : ∀ (k : V → Heap → Res), words.sliceA 512 1 (.ptr h.nx 0) (some (.int .i64 (.ofNat 8))) none h5 k = k (.slice h.nx 8 504 (some 504) 1) h5 := fun k => rfl
    have sl4 : ∀ (k : V → Heap → Res), words.sliceA 512 1 (.ptr h.nx 0) (some (.int .i64 (.ofNat 4))) none h6 k = k (.slice h.nx 4 508 (some 508) 1) h6 := fun k => rfl
    rw [sl8, e6]
    simp only [castI_int]
    rw [sl4, sum6]
    simp only [backk_ret, castI_int]
    have hcr := crc_lt (bs := body k bs)
    generalize hq : crc (body k bs) = q at hcr
    -- the loop
    have fin : ∀ h7, Row (h7.t.get h.nx) 1 ((sealB k bs).map bV) → UpTo h.nx.val h h7 → h.nx.val < h7.nx.val → ∃ h' v', words.sliceA 512 1 (.ptr h.nx 0) none none h7 (fun v89 h91 => backk (cf ⟨.d0, .d0, .d1, .d0⟩ [v89] h91)
        (fun v93 h95 => .ret (.tup [v93, .int .i64 (.ofNat 0)]) h95) fun v97 h99 => .pan v97 h99) = .ret (.tup [v', .int .i64 (.ofNat 0)]) h' ∧ Own h' h.nx.val v' ((sealB k bs).map bV) ∧ Up h h' := by
      intro h7 r7 u7 n7
      have s7 : IsS h7 (.slice h.nx 0 512 (some 512) 1) ((sealB k bs).map bV) := by
        have := IsS.sl h.nx 0 (some 512) false _ ((sealB k bs).map bV) r7 (by simp) (by simp only [List.drop_zero, List.take_length]) (fun n e => by cases e; simp [sealB_length hl])
        simpa [sealB_length hl] using this
      obtain ⟨h8, v', g1, g2, g3⟩ := C.clone _ h7 _ s7 (fun b o l c s e => by cases e; exact n7) (by simp [sealB_length hl])
      refine ⟨h8, v', ?_, g2.mono (by omega), (u7.trans (g3.to (by omega))).up⟩
      show backk (cf ⟨.d0, .d0, .d1, .d0⟩ [.slice h.nx 0 512 (some 512) 1] h7) _ _ = _
      rw [g1]
      rfl
    have loop : ∃ h7, (lpk (fun (l47 : List V → Heap → Res) l49 h51 => unc l49 (fun v53 l55 => unc l55 (fun v57 l59 => castF .u32 v57 (fun i61 => unc l59 (fun v63 l65 => castF .i64 v63 (fun i67 => nilk' l65 (ifk (ilt i67 (.ofNat 4))
        (natk (wrapv .i64 (Int.mul (.ofNat 8) i67)) (fun n69 => ptrk v53 (fun p71 n73 => natk i67 (fun n75 => ifk (Nat.blt n75 512) (words.store h51 p71 (Nat.add n73 n75) 1 [.int .u8 (wrapv .u8 (shrv i61 (Nat.pow 2 (Nat.min n69 32))))]
        (fun h77 => l47 [v53, .int .u32 i61, .int .i64 (wrapv .i64 (Int.add i67 (.ofNat 1)))] h77)) .fail)))) (.done .normal [v53] h51)))))))) n [.ptr h.nx 0, .int .u32 (.ofNat q), .int .i64 (.ofNat 0)] h6) = .done .normal [.ptr h.nx 0] h7 ∧
        Row (h7.t.get h.nx) 1 ((le4 q ++ body k bs).map bV) ∧ UpTo h.nx.val h6 h7 ∧ h7.nx = h6.nx := by
      refine lpk_inv (I := fun vs h'' m => ∃ i, i ≤ 4 ∧ m = 4 - i ∧ vs = [.ptr h.nx 0, .int .u32 (.ofNat q), .int .i64 (.ofNat i)] ∧ Row (h''.t.get h.nx) 1 (((le4 q).take i ++ (List.replicate (4 - i) 0) ++ body k bs).map bV) ∧ UpTo h.nx.val h6 h'' ∧ h''.nx = h6.nx)
        (Q := fun r => ∃ h7, r = .done .normal [.ptr h.nx 0] h7 ∧ Row (h7.t.get h.nx) 1 ((le4 q ++ body k bs).map bV) ∧ UpTo h.nx.val h6 h7 ∧ h7.nx = h6.nx) ?_ n _ _ 4 hn ⟨0, by omega, rfl, rfl, row_ext r6 rfl, .refl _ _, rfl⟩
      rintro again vs h'' m ⟨i, hi, rfl, rfl, ri, ui, nxi⟩ ih
      simp only [unc_cons, castF_int, nilk'_nil, ilt_nat]
      by_cases hi4 : i < 4
      · rw [decide_eq_true hi4, ifk_true, mul_nat, wrapv_small .i64 _ (show 8 * i ≤ 9223372036854775807 by omega), natk_ofNat, ptrk_ptr, natk_ofNat, blt_of (by omega), ifk_true, shrv_nat, wrapv_u8, add_nat,
          wrapv_small .i64 _ (show i + 1 ≤ 9223372036854775807 by omega)]
        obtain ⟨h8, e8, r8, b8⟩ := store1_law ri (o := i) (by simp [le4, hbl]; omega) (bV (q / 2 ^ (8 * i) % 256))
        have e0 : Nat.min (8 * i) 32 = 8 * i := Nat.min_eq_left (by omega)
        rw [show Nat.add 0 i = i from Nat.zero_add i, e0]
        refine (e8 _).symm ▸ ih _ _ (4 - (i + 1)) (by omega) ⟨i + 1, hi4, rfl, rfl, ?_, ui.trans (b8.up (Nat.le_refl _)), by rw [b8.nx, nxi]⟩
        rw [map_set] at r8
        refine row_ext r8 (congrArg (List.map bV) ?_)
        have hlt : i < (le4 q).length := by simpa [le4] using hi4
        have hg : (le4 q)[i] = q / 2 ^ (8 * i) % 256 := by
          have := le4_get q i hi4
          rw [List.getElem?_eq_getElem hlt] at this
          exact Option.some.inj this
        rw [List.take_succ_eq_append_getElem hlt, hg, show 4 - i = (4 - (i + 1)) + 1 by omega, List.replicate_succ, List.append_assoc, List.set_append_right _ _ (by simp [le4]; omega)]
        have : i - (List.take i (le4 q)).length = 0 := by simp [le4]; omega
        rw [this]
        simp
      · have : i = 4 := by omega
        subst this
        rw [decide_eq_false hi4, ifk_false]
        exact ⟨h'', rfl, row_ext ri (by simp [le4]), ui, nxi⟩
    obtain ⟨h7, el, r7, u7, nx7⟩ := loop
    rw [el]
    simp only [contk_done, unc_cons, nilk'_nil, nork_normal]
    refine fin h7 (row_ext r7 (by rw [sealB, hq])) ((u6.to (Nat.le_refl _)).trans u7) (by rw [nx7]; exact nx6)
end Go.Ev.W02

/- PAGE: the document's Seal. -/
namespace Go.Ev.W02
open Go.Proofs

/-- a slice literal -/
theorem build_own (l : List V) (h : Heap) : ∃ h', (∀ k, words.row 1 l.length l (fun t => words.new h (.arr 1 l.length t false) k) = k h.nx h') ∧ Own h' h.nx.val (.slice h.nx 0 l.length (some l.length) 1) l ∧ New h h' := by
  obtain ⟨t, h1, h2⟩ := rowk_law (g := 1) (n := l.length) (by omega) (l := l) (by omega)
  obtain ⟨h3, h4, h5, h6⟩ := newk_law h (.arr 1 l.length t false)
  refine ⟨h3, fun k => ?_, .sl h.nx (some l.length) l (Nat.le_refl _) h6.lt (by rw [h5]; exact h2) (fun n e => by cases e; rfl), h6⟩
  show rowk 1 l.length l (fun t => Heap.newk h (.arr 1 l.length t false) k) = _
  rw [h1, h4]
theorem sub_nat {a b : Nat} (h : b ≤ a) : Int.sub (.ofNat a) (.ofNat b) = .ofNat (a - b) := by
  show (a : Int) - (b : Int) = ((a - b : Nat) : Int)
  omega
theorem tmod_nat (a b : Nat) : Int.tmod (.ofNat a) (.ofNat b) = .ofNat (a % b) := rfl
theorem tdiv_nat (a b : Nat) : Int.tdiv (.ofNat a) (.ofNat b) = .ofNat (a / b) := rfl

theorem refseal_law {n : Nat} {cf : CF} (C : Callees cf) {h : Heap} {v : V} {k : Nat} {bs : List Nat} (w : IsS h v (bs.map bV)) (lo : Low v h.nx.val) (hk : k < 256)
    (hb : ∀ x ∈ bs, x < 256) (hn : 4 < n) :
    (504 < bs.length → sh9 words n cf [bV k, v] h = .ret (.tup [.nils, .int .i64 (.ofNat 2)]) h) ∧
    (bs.length ≤ 504 → ∃ h' v', sh9 words n cf [bV k, v] h = .ret (.tup [v', .int .i64 (.ofNat 0)]) h' ∧ Own h' h.nx.val v' ((sealB k bs).map bV) ∧ Up h h') := by
  constructor
  · intro hl
    unfold sh9
    simp only [bV, unc_cons, castI_int, nilk'_nil, w.len, List.length_map, ilt_nat, decide_eq_true hl, ifk_true]
  · intro hl
    obtain ⟨h1, e1, o1, n1⟩ := build_own ([bs.length % 256, bs.length / 256 % 256, k, 157].map bV) h
    obtain ⟨h2, v2, e2, o2, u2⟩ := app_own o1 (w.upto lo n1.up) n1.up.nx (by simp; omega)
    have l2 : ([bs.length % 256, bs.length / 256 % 256, k, 157].map bV ++ bs.map bV).length = 4 + bs.length := by simp; omega
    obtain ⟨h3, v3, e3, o3, u3⟩ := appZ_own (z := bV 0) (n := 504 - bs.length) (kd := .i64) o2 (Nat.le_trans n1.up.nx u2.nx) (by rw [l2]; omega)
    have u03 : Up h h3 := ((n1.up.to (Nat.le_refl _)).trans (u2.trans u3)).up
    have c3 : ([bs.length % 256, bs.length / 256 % 256, k, 157].map bV ++ bs.map bV) ++ List.replicate (504 - bs.length) (bV 0) = (body k bs).map bV := by
      simp [body]
    rw [c3] at o3
    have hbl := body_length (k := k) hl
    have sum3 := C.refsum v3 h3 (body k bs) o3.isS (body_lt hk hb) (by omega)
    unfold sh9
    simp only [bV, unc_cons, castI_int, nilk'_nil, w.len, List.length_map, ilt_nat, decide_eq_false (show ¬ 504 < bs.length by omega), ifk_false, tmod_nat, tdiv_nat, wrapv_u8,
      wrapv_small .i64 (bs.length / 256) (show _ ≤ 9223372036854775807 by omega)]
    simp only [bV, List.map_cons, List.map_nil, List.length_cons, List.length_nil] at e1 o1 e2 e3
    rw [Nat.mod_mod, e1, e2]
    rw [o2.isS.len, l2, sub_nat (by omega), wrapv_small .i64 _ (show _ ≤ 9223372036854775807 by omega), show 508 - (4 + bs.length) = 504 - bs.length by omega, e3, sum3]
    simp only [backk_ret, castI_int]
    have hcr := crc_lt (bs := body k bs)
    generalize hq : crc (body k bs) = q at hcr
    have loop : ∃ h7 v7, (lpk (fun (l42 : List V → Heap → Res) l44 h46 => unc l44 (fun v48 l50 => unc l50 (fun v52 l54 => castF .u32 v52 (fun i56 => unc l54 (fun v58 l60 => unc l60 (fun v62 l64 => castF .i64 v62 (fun i66 => nilk' l64 (ifk (ilt i66 (.ofNat 4))
        (natk (wrapv .i64 (Int.mul (.ofNat 8) i66)) (fun n68 => words.row 1 1 [.int .u8 (wrapv .u8 (shrv i56 (Nat.pow 2 (Nat.min n68 32))))] (fun l70 => words.new h46 (.arr 1 1 l70 .false) (fun p72 h74 =>
          words.app 1 v58 (.slice p72 0 1 (.some 1) 1) h74 (fun v76 h78 => l42 [v48, .int .u32 i56, v76, .int .i64 (wrapv .i64 (Int.add i66 (.ofNat 1)))] h78))))) (.done .normal [v48, v58] h46))))))))) n
        [v3, .int .u32 (.ofNat q), .nils, .int .i64 (.ofNat 0)] h3) = .done .normal [v3, v7] h7 ∧ Own h7 h3.nx.val v7 ((le4 q).map bV) ∧ UpTo h3.nx.val h3 h7 := by
      refine lpk_inv (I := fun vs h'' m => ∃ i v'', i ≤ 4 ∧ m = 4 - i ∧ vs = [v3, .int .u32 (.ofNat q), v'', .int .i64 (.ofNat i)] ∧ Own h'' h3.nx.val v'' (((le4 q).take i).map bV) ∧ UpTo h3.nx.val h3 h'')
        (Q := fun r => ∃ h7 v7, r = .done .normal [v3, v7] h7 ∧ Own h7 h3.nx.val v7 ((le4 q).map bV) ∧ UpTo h3.nx.val h3 h7) ?_ n _ _ 4 hn ⟨0, .nils, by omega, rfl, rfl, .nils, .refl _ _⟩
      rintro again vs h'' m ⟨i, v'', hi, rfl, rfl, oi, ui⟩ ih
      simp only [unc_cons, castF_int, nilk'_nil, ilt_nat]
      by_cases hi4 : i < 4
      · rw [decide_eq_true hi4, ifk_true, mul_nat, wrapv_small .i64 _ (show 8 * i ≤ 9223372036854775807 by omega), natk_ofNat, shrv_nat, wrapv_u8, add_nat, wrapv_small .i64 _ (show i + 1 ≤ 9223372036854775807 by omega)]
        have e0 : Nat.min (8 * i) 32 = 8 * i := Nat.min_eq_left (by omega)
        rw [e0]
        obtain ⟨h8, e8, o8, n8⟩ := build_own [bV (q / 2 ^ (8 * i) % 256)] h''
        obtain ⟨h9, v9, e9, o9, u9⟩ := app_own (oi.up n8.up) o8.isS (Nat.le_trans ui.nx n8.up.nx) (by simp [le4]; omega)
        simp only [bV, List.length_cons, List.length_nil] at e8 e9
        have step := ih [v3, .int .u32 (.ofNat q), v9, .int .i64 (.ofNat (i + 1))] h9 (4 - (i + 1)) (by omega) ⟨i + 1, v9, hi4, rfl, rfl, ?_, ui.trans ((n8.up.to ui.nx).trans u9)⟩
        · have e10 := (e8 (fun p72 h74 => words.app 1 v'' (.slice p72 0 1 (.some 1) 1) h74 (fun v76 h78 => again [v3, .int .u32 (.ofNat q), v76, .int .i64 (.ofNat (i + 1))] h78))).trans (e9 _)
          exact e10.symm ▸ step
        · have hlt : i < (le4 q).length := by simpa [le4] using hi4
          have hg : (le4 q)[i] = q / 2 ^ (8 * i) % 256 := by
            have := le4_get q i hi4
            rw [List.getElem?_eq_getElem hlt] at this
            exact Option.some.inj this
          rw [List.take_succ_eq_append_getElem hlt, hg, List.map_append]
          exact o9
      · have : i = 4 := by omega
        subst this
        rw [decide_eq_false hi4, ifk_false]
        exact ⟨h'', v'', rfl, by simpa [le4] using oi, ui⟩
    obtain ⟨h7, v7, el, o7, u7⟩ := loop
    rw [el]
    simp only [contk_done, unc_cons, nilk'_nil, nork_normal]
    obtain ⟨h8, v8, e8, o8, u8⟩ := app_own o7 (o3.isS.upTo o3.low u7) u7.nx (by simp [le4, hbl])
    rw [e8]
    refine ⟨h8, v8, rfl, ?_, ((u03.to (Nat.le_refl _)).trans ((u7.trans u8).mono u03.nx)).up⟩
    have : (sealB k bs).map bV = (le4 q).map bV ++ (body k bs).map bV := by rw [sealB, hq, List.map_append]
    rw [this]
    exact o8.mono u03.nx
end Go.Ev.W02
