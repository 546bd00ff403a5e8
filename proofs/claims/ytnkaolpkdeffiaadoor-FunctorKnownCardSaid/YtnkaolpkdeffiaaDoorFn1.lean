/- Fn1: texts joined. -/
import Derived.Test.YtnkaolpkdeffiaaDoorEvByte2
import Derived.Test.YtnkaolpkdeffiaaDoorEvW04Sh
/- FUNCTOR: numbers of 64 bits. -/
namespace Go.Ev.W04
open Go.Proofs

theorem w64 (n : Int) : wrapv .i64 n = if n % 18446744073709551616 ≥ 9223372036854775808 then n % 18446744073709551616 - 18446744073709551616 else n % 18446744073709551616 := by
  rw [wrapv_eq]
  simp [IntKind.wrap, IntKind.bits, IntKind.signed]
theorem wu64 (n : Int) : wrapv .u64 n = n % 18446744073709551616 := by
  rw [wrapv_eq]
  simp [IntKind.wrap, IntKind.bits, IntKind.signed]
/-- a number of 64 bits -/
def In64 (n : Int) : Prop := -9223372036854775808 ≤ n ∧ n ≤ 9223372036854775807
theorem w64_in (n : Int) : In64 (wrapv .i64 n) := by
  rw [w64]; unfold In64; split <;> omega
theorem w64_mod (n : Int) : wrapv .i64 n % 18446744073709551616 = n % 18446744073709551616 := by
  rw [w64]; split <;> omega
theorem w64_id {n : Int} (h : In64 n) : wrapv .i64 n = n := by
  rw [wrapv_eq]; exact wrap_small .i64 n h.1 h.2
theorem w64_congr {x y : Int} (h : x % 18446744073709551616 = y % 18446744073709551616) : wrapv .i64 x = wrapv .i64 y := by rw [w64, w64, h]
/-- two numbers of 64 bits that are alike -/
theorem in64_eq {x y : Int} (hx : In64 x) (hy : In64 y) (h : x % 18446744073709551616 = y % 18446744073709551616) : x = y := by
  rw [← w64_id hx, ← w64_id hy]; exact w64_congr h
theorem w64_u (n : Int) : wrapv .i64 (wrapv .u64 n) = wrapv .i64 n := w64_congr (by rw [wu64]; omega)
theorem add_wu (a b : Int) : wrapv .i64 (wrapv .u64 (Int.add (wrapv .u64 a) (wrapv .u64 b))) = wrapv .i64 (Int.add a b) := by
  rw [w64_u, wu64, wu64]
  exact w64_congr (show (a % _ + b % _) % _ = (a + b) % _ by omega)
theorem sub_wu (a b : Int) : wrapv .i64 (wrapv .u64 (Int.sub (wrapv .u64 a) (wrapv .u64 b))) = wrapv .i64 (Int.sub a b) := by
  rw [w64_u, wu64, wu64]
  exact w64_congr (show (a % _ - b % _) % _ = (a - b) % _ by omega)
theorem mul_wu (a b : Int) : wrapv .i64 (wrapv .u64 (Int.mul (wrapv .u64 a) (wrapv .u64 b))) = wrapv .i64 (Int.mul a b) := by
  rw [w64_u, wu64, wu64]
  exact w64_congr (show (a % _ * (b % _)) % _ = (a * b) % _ from (Int.mul_emod a b _).symm)
/-- a minus b, by the opposite -/
theorem add_opp (a b : Int) : wrapv .i64 (Int.add a (wrapv .i64 (Int.sub 0 b))) = wrapv .i64 (Int.sub a b) := by
  refine w64_congr (show (a + wrapv .i64 (0 - b)) % _ = (a - b) % _ from ?_)
  have := w64_mod (0 - b)
  omega
theorem neg_wu (a : Int) : wrapv .i64 (wrapv .u64 (Int.sub 0 (wrapv .u64 a))) = wrapv .i64 (Int.sub 0 a) := by
  rw [w64_u, wu64]
  exact w64_congr (show (0 - a % _) % _ = (0 - a) % _ by omega)
/-- the complement, by one more and the opposite -/
theorem not_opp (a : Int) : wrapv .i64 (Int.sub 0 (wrapv .i64 (Int.add a 1))) = wrapv .i64 (Int.sub (-1) a) := by
  refine w64_congr (show (0 - wrapv .i64 (a + 1)) % _ = (-1 - a) % _ from ?_)
  have := w64_mod (a + 1)
  omega
/-- quotient and what is left -/
theorem div_in {a b : Int} (ha : In64 a) (hb : b ≠ 0) (h : ¬ (a = -9223372036854775808 ∧ b = -1)) : In64 (Int.tdiv a b) := by
  have h1 : (Int.tdiv a b).natAbs = a.natAbs / b.natAbs := Int.natAbs_tdiv a b
  have h2 : 0 < b.natAbs := by omega
  unfold In64 at *
  by_cases h3 : b.natAbs = 1
  · have h4 : b = 1 ∨ b = -1 := by omega
    rcases h4 with rfl | rfl
    · rw [Int.tdiv_one]; exact ha
    · rw [Int.tdiv_neg, Int.tdiv_one]; omega
  · have h5 : a.natAbs / b.natAbs ≤ a.natAbs / 2 := Nat.div_le_div_left (by omega) (by omega)
    omega
theorem parts_eq {a b : Int} : Int.sub a (Int.mul (Int.tdiv a b) b) = Int.tmod a b := by
  have := Int.tdiv_mul_add_tmod a b
  show a - Int.tdiv a b * b = _
  omega
theorem mod_in {a b : Int} (ha : In64 a) : In64 (Int.tmod a b) := by
  have h1 : (Int.tmod a b).natAbs = a.natAbs % b.natAbs := Int.natAbs_tmod a b
  have h2 : a.natAbs % b.natAbs ≤ a.natAbs := Nat.mod_le _ _
  have h3 : 0 ≤ a → 0 ≤ Int.tmod a b := fun h => Int.tmod_nonneg b h
  unfold In64 at *
  by_cases h0 : 0 ≤ a
  · have := h3 h0; omega
  · have h4 := Int.tmod_nonneg b (show 0 ≤ -a by omega)
    rw [Int.neg_tmod] at h4
    omega
theorem rem_wrap {a b : Int} (ha : In64 a) : wrapv .i64 (Int.sub a (wrapv .i64 (Int.mul (wrapv .i64 (Int.tdiv a b)) b))) = Int.tmod a b := by
  refine in64_eq (w64_in _) (mod_in ha) ?_
  rw [w64_mod]
  show (a - wrapv .i64 (wrapv .i64 (Int.tdiv a b) * b)) % _ = _
  have h1 := w64_mod (wrapv .i64 (Int.tdiv a b) * b)
  have h2 : wrapv .i64 (Int.tdiv a b) * b % 18446744073709551616 = Int.tdiv a b * b % 18446744073709551616 := by rw [Int.mul_emod, w64_mod, ← Int.mul_emod]
  have h3 : a - Int.tdiv a b * b = Int.tmod a b := parts_eq
  omega
end Go.Ev.W04

/- FUNCTOR: the bits of a number; moving. -/
namespace Go.Ev.W04
open Go.Proofs

/-- bit i of a number of 64 bits -/
noncomputable def bitI (a : Int) (i : Nat) : Bool := (wrapv .u64 a).toNat.testBit i
theorem u64_nat (a : Int) : ∃ m : Nat, wrapv .u64 a = .ofNat m ∧ m < 2 ^ 64 := by
  rw [wu64]
  refine ⟨(a % 18446744073709551616).toNat, ?_, ?_⟩
  · have : 0 ≤ a % 18446744073709551616 := by omega
    simp only [Int.ofNat_eq_natCast]; omega
  · omega
/-- the sum of the bits so far -/
def bitsTo (f : Nat → Bool) : Nat → Nat
  | 0 => 0
  | n + 1 => bitsTo f n + if f n then 2 ^ n else 0
theorem bitsTo_lt (f : Nat → Bool) (n : Nat) : bitsTo f n < 2 ^ n := by
  induction n with
  | zero => exact Nat.one_pos
  | succ n ih =>
    show bitsTo f n + (if f n then 2 ^ n else 0) < 2 ^ (n + 1)
    rw [Nat.pow_succ]
    split <;> omega
theorem bitsTo_testBit (f : Nat → Bool) (n i : Nat) : (bitsTo f n).testBit i = (decide (i < n) && f i) := by
  induction n with
  | zero => simp [bitsTo]
  | succ n ih =>
    show (bitsTo f n + (if f n then 2 ^ n else 0)).testBit i = _
    have hlt := bitsTo_lt f n
    by_cases hf : f n = true
    · rw [if_pos hf, Nat.add_comm]
      by_cases hi : i < n
      · rw [Nat.testBit_two_pow_add_gt hi, ih]; simp [hi, Nat.lt_succ_of_lt hi]
      · by_cases he : i = n
        · subst he
          rw [Nat.testBit_two_pow_add_eq, ih]; simp [hf]
        · have h2 : 2 ^ n + bitsTo f n < 2 ^ i := by
            have : 2 ^ (n + 1) ≤ 2 ^ i := Nat.pow_le_pow_right (by omega) (by omega)
            rw [Nat.pow_succ] at this; omega
          rw [Nat.testBit_lt_two_pow h2]
          have : ¬ i < n + 1 := by omega
          simp [this]
    · have hf' : f n = false := by simpa using hf
      rw [if_neg hf, Nat.add_zero, ih]
      by_cases hi : i < n
      · simp [hi, Nat.lt_succ_of_lt hi]
      · by_cases he : i = n
        · subst he; simp [hf']
        · have : ¬ i < n + 1 := by omega
          simp [hi, this]
/-- a number below 2^n is the sum of its bits -/
theorem bitsTo_eq {m n : Nat} {f : Nat → Bool} (hm : m < 2 ^ n) (hf : ∀ i, i < n → f i = m.testBit i) : bitsTo f n = m := by
  apply Nat.eq_of_testBit_eq
  intro i
  rw [bitsTo_testBit]
  by_cases hi : i < n
  · simp [hi, hf i hi]
  · rw [Nat.testBit_lt_two_pow (Nat.lt_of_lt_of_le hm (Nat.pow_le_pow_right (by omega) (by omega)))]
    simp [hi]
end Go.Ev.W04

/- FUNCTOR: the document's bits. -/
namespace Go.Ev.W04
open Go.Proofs

def comb (both one x y : Bool) : Bool := (x && y && both) || ((x != y) && one)
theorem bit_read {a : Int} {i : Nat} (hi : i < 64) : ieq (band .u64 (shrv (wrapv .u64 a) (Nat.pow 2 (Nat.min i 64))) (.ofNat 1)) (.ofNat 1) = bitI a i := by
  obtain ⟨m, hm, hlt⟩ := u64_nat a
  have h1 : m / 2 ^ i ≤ m := Nat.div_le_self _ _
  rw [bitI, hm, shrv_nat, show Nat.min i 64 = i from Nat.min_eq_left (by omega), band_small .u64 _ _ (show m / Nat.pow 2 i ≤ 18446744073709551615 by show m / 2 ^ i ≤ _; omega) (by decide), ieq_nat]
  show decide (m / 2 ^ i &&& 1 = 1) = m.testBit i
  rw [Nat.testBit, Nat.shiftRight_eq_div_pow, Nat.and_comm]
  have := Nat.and_one_is_mod (m / 2 ^ i)
  rw [Nat.and_comm] at this
  rw [this]
  rcases Nat.mod_two_eq_zero_or_one (m / 2 ^ i) with h | h <;> simp [h]
theorem bits_law {n : Nat} {cf : CF} {h : Heap} {a b : Int} {both one : Bool} (hn : 64 < n) :
    sh31 words n cf [.int .i64 a, .int .i64 b, .bool both, .bool one] h = .ret (.int .i64 (wrapv .i64 (.ofNat (bitsTo (fun i => comb both one (bitI a i) (bitI b i)) 64)))) h := by
  unfold sh31
  simp only [unc_cons, castI_int, castB_bool, nilk'_nil]
  refine lpk_inv (I := fun w h' m => ∃ i, i ≤ 64 ∧ m = 64 - i ∧ h' = h ∧ w = [.int .i64 a, .int .i64 b, .bool both, .bool one, .int .u64 (.ofNat (bitsTo (fun i => comb both one (bitI a i) (bitI b i)) i)), .int .i64 (.ofNat i)])
    (Q := (· = _)) ?_ n _ _ 64 hn ⟨0, by omega, by omega, rfl, rfl⟩
  rintro again w h' m ⟨i, hi, rfl, rfl, rfl⟩ ih
  simp only [unc_cons, castF_int, castB_bool, nilk'_nil, ilt_nat]
  by_cases h4 : i < 64
  · have i1 : i + 1 ≤ 9223372036854775807 := by omega
    have hb : bitsTo (fun i => comb both one (bitI a i) (bitI b i)) (i + 1) = bitsTo (fun i => comb both one (bitI a i) (bitI b i)) i + if comb both one (bitI a i) (bitI b i) then 2 ^ i else 0 := rfl
    have hlt := bitsTo_lt (fun i => comb both one (bitI a i) (bitI b i)) (i + 1)
    have hle : 2 ^ (i + 1) ≤ 2 ^ 64 := Nat.pow_le_pow_right (by omega) (by omega)
    have hw : wrapv .u64 (Int.add (.ofNat (bitsTo (fun i => comb both one (bitI a i) (bitI b i)) i)) (wrapv .u64 (Int.mul (.ofNat 1) (.ofNat (Nat.pow 2 (Nat.min i 64)))))) = .ofNat (bitsTo (fun i => comb both one (bitI a i) (bitI b i)) i + 2 ^ i) := by
      have h5 := bitsTo_lt (fun i => comb both one (bitI a i) (bitI b i)) i
      rw [Nat.pow_succ] at hle
      rw [show Nat.min i 64 = i from Nat.min_eq_left (by omega), mul_nat, Nat.one_mul, wrapv_small .u64 _ (show Nat.pow 2 i ≤ 18446744073709551615 by show 2 ^ i ≤ _; omega), add_nat]
      exact wrapv_small .u64 _ (show bitsTo (fun i => comb both one (bitI a i) (bitI b i)) i + 2 ^ i ≤ 18446744073709551615 by omega)
    have key := ih [.int .i64 a, .int .i64 b, .bool both, .bool one, .int .u64 (.ofNat (bitsTo (fun i => comb both one (bitI a i) (bitI b i)) (i + 1))), .int .i64 (.ofNat (i + 1))] h' (64 - (i + 1)) (by omega) ⟨i + 1, h4, rfl, rfl, rfl⟩
    rw [hb] at key
    simp only [decide_eq_true h4, ifk_true, natk_ofNat, backk_ret, intk_int, show Nat.beq (kno .u64) 7 = true from rfl, bit_read h4, boolk_bool, hw, add_nat, wrapv_small .i64 _ i1]
    generalize bitI a i = x at key ⊢
    generalize bitI b i = y at key ⊢
    generalize bitsTo (fun i => comb both one (bitI a i) (bitI b i)) i = S at key hw ⊢
    cases x <;> cases y <;> cases both <;> cases one <;>
      simp only [comb, Bool.true_and, Bool.false_and, Bool.and_true, Bool.and_false, Bool.or_true, Bool.or_false, Bool.false_or, bne_self_eq_false, grdk_bool, grdk_skip, if_true, boolk_bool, ifk_true, ifk_false, backk_ret, castB_bool, pickv_true, pickv_false, Bool.not_true, Bool.not_false, beqk, natk_ofNat, hw, contk_done, unc_cons, castI_int, nilk'_nil, nork_normal,
        add_nat, wrapv_small .i64 _ i1] at key ⊢ <;> exact key
  · obtain rfl : i = 64 := by omega
    rw [decide_eq_false h4, ifk_false]
end Go.Ev.W04

/- FUNCTOR: and, or, xor are the document's; moving. -/
namespace Go.Ev.W04
open Go.Proofs

theorem bitI_vec (a : Int) (i : Nat) : bitI a i = (BitVec.ofInt 64 a).toNat.testBit i := by
  rw [bitI, wu64, BitVec.toNat_ofInt]; rfl
theorem band64 (a b : Int) : band .i64 a b = wrapv .i64 (.ofNat (bitsTo (fun i => comb true false (bitI a i) (bitI b i)) 64)) := by
  rw [band, bitv_eq (f := Nat.land) (fun _ _ _ => BitVec.toNat_and ..) and_lt, wrapv_eq]
  congr 1
  have : bitsTo (fun i => comb true false (bitI a i) (bitI b i)) 64 = (BitVec.ofInt 64 a &&& BitVec.ofInt 64 b).toNat := bitsTo_eq (BitVec.isLt _) fun i _ => by
    rw [BitVec.toNat_and, Nat.testBit_and, ← bitI_vec, ← bitI_vec]; simp [comb]
  rw [this]; rfl
theorem bor64 (a b : Int) : bor .i64 a b = wrapv .i64 (.ofNat (bitsTo (fun i => comb true true (bitI a i) (bitI b i)) 64)) := by
  rw [bor, bitv_eq (f := Nat.lor) (fun _ _ _ => BitVec.toNat_or ..) or_lt, wrapv_eq]
  congr 1
  have : bitsTo (fun i => comb true true (bitI a i) (bitI b i)) 64 = (BitVec.ofInt 64 a ||| BitVec.ofInt 64 b).toNat := bitsTo_eq (BitVec.isLt _) fun i _ => by
    rw [BitVec.toNat_or, Nat.testBit_or, ← bitI_vec, ← bitI_vec]; cases bitI a i <;> cases bitI b i <;> rfl
  rw [this]; rfl
theorem bxor64 (a b : Int) : bxor .i64 a b = wrapv .i64 (.ofNat (bitsTo (fun i => comb false true (bitI a i) (bitI b i)) 64)) := by
  rw [bxor, bitv_eq (f := Nat.xor) (fun _ _ _ => BitVec.toNat_xor ..) xor_lt, wrapv_eq]
  congr 1
  have : bitsTo (fun i => comb false true (bitI a i) (bitI b i)) 64 = (BitVec.ofInt 64 a ^^^ BitVec.ofInt 64 b).toNat := bitsTo_eq (BitVec.isLt _) fun i _ => by
    rw [BitVec.toNat_xor, Nat.testBit_xor, ← bitI_vec, ← bitI_vec]; cases bitI a i <;> cases bitI b i <;> rfl
  rw [this]; rfl

/-- how far a number is moved -/
theorem by64 (b : Int) : ∃ k : Nat, k < 64 ∧ Int.tmod (wrapv .u64 b) (.ofNat 64) = .ofNat k := by
  obtain ⟨m, hm, _⟩ := u64_nat b
  exact ⟨m % 64, Nat.mod_lt _ (by decide), by rw [hm]; rfl⟩
/-- to the left, by one more -/
theorem shl_succ (a : Int) (i : Nat) : wrapv .i64 (Int.mul a (.ofNat (2 ^ (i + 1)))) = wrapv .i64 (wrapv .u64 (Int.add (wrapv .u64 (wrapv .i64 (Int.mul a (.ofNat (2 ^ i))))) (wrapv .u64 (wrapv .i64 (Int.mul a (.ofNat (2 ^ i))))))) := by
  rw [add_wu]
  refine w64_congr ?_
  have h := w64_mod (Int.mul a (.ofNat (2 ^ i)))
  have e : Int.mul a (.ofNat (2 ^ (i + 1))) = Int.mul a (.ofNat (2 ^ i)) + Int.mul a (.ofNat (2 ^ i)) := by
    show a * ((2 ^ (i + 1) : Nat) : Int) = a * ((2 ^ i : Nat) : Int) + a * ((2 ^ i : Nat) : Int)
    rw [Nat.pow_succ, Int.natCast_mul, ← Int.mul_assoc]; omega
  rw [e]
  generalize Int.mul a (.ofNat (2 ^ i)) = x at h ⊢
  show (x + x) % _ = (wrapv .i64 x + wrapv .i64 x) % _
  omega
end Go.Ev.W04

/- FUNCTOR: moving to the right; the quotient. -/
namespace Go.Ev.W04
open Go.Proofs

theorem half {a : Int} (ha : In64 a) : In64 (Int.fdiv a 2) ∧ In64 (Int.tdiv a 2) ∧ (0 ≤ a → Int.tdiv a 2 = Int.fdiv a 2) ∧ (a < 0 → Int.tdiv a 2 * 2 = a → Int.tdiv a 2 = Int.fdiv a 2) ∧ (a < 0 → Int.tdiv a 2 * 2 ≠ a → Int.tdiv a 2 - 1 = Int.fdiv a 2) := by
  have h1 : Int.fdiv a 2 = a / 2 := Int.fdiv_eq_ediv_of_nonneg a (by decide)
  have h2 := Int.tdiv_mul_add_tmod a 2
  have h3 := Int.tmod_lt_of_pos a (show (0 : Int) < 2 by decide)
  have h4 : 0 ≤ a → 0 ≤ Int.tmod a 2 := fun h => Int.tmod_nonneg 2 h
  have h5 : a < 0 → -2 < Int.tmod a 2 ∧ Int.tmod a 2 ≤ 0 := fun h => by
    have h6 := Int.tmod_nonneg 2 (show 0 ≤ -a by omega)
    have h7 := Int.tmod_lt_of_pos (-a) (show (0 : Int) < 2 by decide)
    rw [Int.neg_tmod] at h6 h7
    omega
  unfold In64 at *
  by_cases h0 : 0 ≤ a
  · have := h4 h0; omega
  · have := h5 (by omega); omega
theorem fdiv_pow (a : Int) (i : Nat) : Int.fdiv (Int.fdiv a (.ofNat (2 ^ i))) 2 = Int.fdiv a (.ofNat (2 ^ (i + 1))) := by
  have hp : (0 : Int) ≤ Int.ofNat (2 ^ i) := Int.natCast_nonneg _
  have hp1 : (0 : Int) ≤ Int.ofNat (2 ^ (i + 1)) := Int.natCast_nonneg _
  rw [Int.fdiv_eq_ediv_of_nonneg a hp, Int.fdiv_eq_ediv_of_nonneg a hp1, Int.fdiv_eq_ediv_of_nonneg _ (by decide), Int.ediv_ediv_of_nonneg hp]
  congr 1
theorem fdiv_in {a : Int} (ha : In64 a) (i : Nat) : In64 (Int.fdiv a (.ofNat (2 ^ i))) := by
  induction i with
  | zero =>
    have : Int.fdiv a (.ofNat (2 ^ 0)) = a := Int.fdiv_one a
    rw [this]; exact ha
  | succ i ih => rw [← fdiv_pow]; exact (half ih).1
theorem down_law {n : Nat} {cf : CF} {h : Heap} {a : Int} {k : Nat} (ha : In64 a) (hk : k < 64) (hn : 64 < n) :
    sh32 words n cf [.int .i64 a, .int .i64 (.ofNat k)] h = .ret (.int .i64 (shrv a (2 ^ k))) h := by
  unfold sh32
  simp only [unc_cons, castI_int, nilk'_nil]
  refine lpk_inv (I := fun w h' m => ∃ i, i ≤ k ∧ m = k - i ∧ h' = h ∧ w = [.int .i64 (Int.fdiv a (.ofNat (2 ^ i))), .int .i64 (.ofNat k), .int .i64 (.ofNat i)])
    (Q := (· = _)) ?_ n _ _ k (by omega) ⟨0, by omega, by omega, rfl, by rw [show Int.fdiv a (.ofNat (2 ^ 0)) = a from Int.fdiv_one a]⟩
  rintro again w h' m ⟨i, hi, rfl, rfl, rfl⟩ ih
  simp only [unc_cons, castF_int, nilk'_nil, ilt_nat]
  by_cases h4 : i < k
  · have i1 : i + 1 ≤ 9223372036854775807 := by omega
    have key := ih [.int .i64 (Int.fdiv a (.ofNat (2 ^ (i + 1)))), .int .i64 (.ofNat k), .int .i64 (.ofNat (i + 1))] h' (k - (i + 1)) (by omega) ⟨i + 1, h4, rfl, rfl, rfl⟩
    have hx := fdiv_in ha i
    rw [← fdiv_pow] at key
    generalize Int.fdiv a (.ofNat (2 ^ i)) = x at hx key ⊢
    obtain ⟨g1, g2, g3, g4, g5⟩ := half hx
    have t2 : Int.tdiv x (.ofNat 2) = Int.tdiv x 2 := rfl
    simp only [decide_eq_true h4, ifk_true, t2, w64_id g2]
    by_cases h0 : x < 0
    · have e : ilt x (.ofNat 0) = true := by rw [ilt_eq]; simpa using h0
      have hm : wrapv .i64 (Int.mul (Int.tdiv x 2) (.ofNat 2)) = Int.tdiv x 2 * 2 := w64_id (by
        show In64 (Int.tdiv x 2 * 2)
        have h2 := Int.tdiv_mul_add_tmod x 2
        have h6 := Int.tmod_nonneg 2 (show 0 ≤ -x by omega)
        have h7 := Int.tmod_lt_of_pos (-x) (show (0 : Int) < 2 by decide)
        rw [Int.neg_tmod] at h6 h7
        unfold In64 at *
        omega)
      by_cases h5 : Int.tdiv x 2 * 2 = x
      · simp only [e, ifk_true, backk_ret, intk_int, show Nat.beq (kno .i64) 3 = true from rfl, show Nat.beq (kno .i64) (kno .i64) = true from rfl, hm, h5, ieq_eq, beq_self_eq_true, Bool.not_true, pickv_true, castB_bool, ifk_false, contk_done, unc_cons, castI_int, nilk'_nil, nork_normal, add_nat, wrapv_small .i64 _ i1]
        rw [g4 h0 h5]; exact key
      · have e5 : (Int.tdiv x 2 * 2 == x) = false := by simpa using h5
        have hs : wrapv .i64 (Int.sub (Int.tdiv x 2) (.ofNat 1)) = Int.fdiv x 2 := by
          rw [show Int.sub (Int.tdiv x 2) (.ofNat 1) = Int.tdiv x 2 - 1 from rfl, g5 h0 h5]; exact w64_id g1
        simp only [e, ifk_true, backk_ret, intk_int, show Nat.beq (kno .i64) 3 = true from rfl, show Nat.beq (kno .i64) (kno .i64) = true from rfl, hm, ieq_eq, e5, Bool.not_false, pickv_true, castB_bool, contk_done, unc_cons, castI_int, nilk'_nil, nork_normal, add_nat, wrapv_small .i64 _ i1, hs]
        exact key
    · have e : ilt x (.ofNat 0) = false := by rw [ilt_eq]; simpa using h0
      simp only [e, ifk_false, backk_ret, pickv_false, castB_bool, contk_done, unc_cons, castI_int, nilk'_nil, nork_normal, add_nat, wrapv_small .i64 _ i1]
      rw [g3 (by omega)]; exact key
  · obtain rfl : i = k := by omega
    rw [decide_eq_false h4, ifk_false, shrv_eq]
end Go.Ev.W04

/- FUNCTOR: quotient and what is left. -/
namespace Go.Ev.W04
open Go.Proofs

theorem ieq_ne {a b : Int} (h : a ≠ b) : ieq a b = false := by rw [ieq_eq]; simpa using h
theorem ieq_same (a : Int) : ieq a a = true := by rw [ieq_eq]; simp
theorem parts_zero {n : Nat} {cf : CF} {h : Heap} {op : Nat} {a : Int} : sh29 words n cf [.int .u8 (.ofNat op), .int .i64 a, .int .i64 (.ofNat 0)] h = .ret (.tup [.int .i64 (.ofNat 0), .bool false]) h := by
  unfold sh29
  simp only [unc_cons, castI_int, nilk'_nil, ieq_same, ifk_true]
theorem parts_div {n : Nat} {cf : CF} {h : Heap} {a b : Int} (hb : b ≠ .ofNat 0) : sh29 words n cf [.int .u8 (.ofNat 13), .int .i64 a, .int .i64 b] h = .ret (.tup [.int .i64 (wrapv .i64 (Int.tdiv a b)), .bool true]) h := by
  unfold sh29
  simp only [unc_cons, castI_int, nilk'_nil, ieq_ne hb, ieq_same, ifk_true, ifk_false]
theorem parts_rem {n : Nat} {cf : CF} {h : Heap} {a b : Int} (hb : b ≠ .ofNat 0) : sh29 words n cf [.int .u8 (.ofNat 14), .int .i64 a, .int .i64 b] h = .ret (.tup [.int .i64 (Int.tmod a b), .bool true]) h := by
  unfold sh29
  simp only [unc_cons, castI_int, nilk'_nil, ieq_ne hb, ieq_nat, show decide (14 = 13) = false from rfl, ifk_false]
theorem divided_law {n : Nat} {cf : CF} {h : Heap} {a b : Int} (ha : In64 a) (hb : b ≠ .ofNat 0) :
    sh30 words n cf [.int .i64 a, .int .i64 b] h = .ret (.tup [.int .i64 (wrapv .i64 (Int.tdiv a b)), .int .i64 (Int.tmod a b)]) h := by
  have hr := rem_wrap (b := b) ha
  unfold sh30
  by_cases h1 : a = .negSucc 9223372036854775807
  · by_cases h2 : b = .negSucc 0
    · subst h1; subst h2
      simp only [unc_cons, castI_int, nilk'_nil, ieq_same, ifk_true, backk_ret, intk_int, show Nat.beq (kno .i64) 3 = true from rfl, pickv_true, castB_bool]
      rw [show Int.tmod (.negSucc 9223372036854775807) (.negSucc 0) = .ofNat 0 by decide +kernel, show wrapv .i64 (Int.tdiv (.negSucc 9223372036854775807) (.negSucc 0)) = .negSucc 9223372036854775807 by rw [w64]; decide +kernel]
    · subst h1
      simp only [unc_cons, castI_int, nilk'_nil, ieq_same, ieq_ne h2, ieq_ne hb, ifk_true, ifk_false, backk_ret, intk_int, show Nat.beq (kno .i64) 3 = true from rfl, pickv_true, castB_bool, hr]
  · simp only [unc_cons, castI_int, nilk'_nil, ieq_ne h1, ieq_ne hb, ifk_false, backk_ret, pickv_false, castB_bool, hr]
end Go.Ev.W04
