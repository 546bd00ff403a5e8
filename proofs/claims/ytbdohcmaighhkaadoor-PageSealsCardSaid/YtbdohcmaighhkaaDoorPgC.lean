/- PAGE: both sums are one; the sealed page. -/
import Derived.Test.YtbdohcmaighhkaaDoorPgB
namespace Go.Ev.W02
open Go.Proofs

theorem bit1_xor (x y : Nat) : bit1 (x ^^^ 2 * y) = bit1 x ^^^ y := by
  have e1 : (x ^^^ 2 * y) % 2 = x % 2 := by
    have := Nat.testBit_xor (x := x) (y := 2 * y) (i := 0)
    simp only [Nat.testBit_zero] at this
    have h2 : decide (2 * y % 2 = 1) = false := by simp
    rw [h2, Bool.xor_false] at this
    rcases Nat.mod_two_eq_zero_or_one (x ^^^ 2 * y) with h3 | h3 <;> rcases Nat.mod_two_eq_zero_or_one x with h4 | h4 <;> simp_all
  have e2 : (x ^^^ 2 * y) / 2 = x / 2 ^^^ y := by
    apply Nat.eq_of_testBit_eq
    intro i
    rw [Nat.testBit_xor, ← Nat.testBit_succ, ← Nat.testBit_succ, Nat.testBit_xor]
    congr 1
    rw [Nat.testBit_succ]; congr 1; omega
  unfold bit1
  rw [e1, e2]
  split
  · rw [Nat.xor_assoc, Nat.xor_comm y, ← Nat.xor_assoc]
  · rfl
theorem bits_xor (k x y : Nat) : bits k (x ^^^ 2 ^ k * y) = bits k x ^^^ y := by
  induction k generalizing x with
  | zero => simp [bits]
  | succ k ih =>
    show bits k (bit1 (x ^^^ 2 ^ (k + 1) * y)) = bits k (bit1 x) ^^^ y
    rw [show 2 ^ (k + 1) * y = 2 * (2 ^ k * y) by rw [Nat.pow_succ, Nat.mul_comm (2 ^ k) 2, Nat.mul_assoc], bit1_xor, ih]
theorem nib_bits (x : Nat) : nib x = bits 4 x := by
  have h1 : x = x % 16 ^^^ 2 ^ 4 * (x / 16) := by
    apply Nat.eq_of_testBit_eq
    intro i
    rw [Nat.testBit_xor, show (16 : Nat) = 2 ^ 4 from rfl, Nat.testBit_mod_two_pow, Nat.testBit_two_pow_mul]
    by_cases hi : i < 4
    · have h4 : ¬ 4 ≤ i := by omega
      simp [hi, h4]
    · have : 4 ≤ i := by omega
      simp only [hi, decide_false, Bool.false_and, Bool.false_xor, this, decide_true, Bool.true_and]
      rw [Nat.testBit_div_two_pow]; congr 1; omega
  have h2 : ∀ t : Fin 16, bits 4 t.val = tab16.getD t.val 0 := by decide
  have h3 : x &&& 15 = x % 16 := Nat.and_two_pow_sub_one_eq_mod x 4
  conv => rhs; rw [h1, bits_xor, h2 ⟨x % 16, Nat.mod_lt _ (by decide)⟩]
  rw [nib, h3, Nat.xor_comm]
theorem bits_add (j k x : Nat) : bits (j + k) x = bits j (bits k x) := by
  induction k generalizing x with
  | zero => rfl
  | succ k ih => exact ih (bit1 x)
theorem byte_eq (r c : Nat) : crcByte r c = refByte r c := by
  rw [crcByte, nib_bits, nib_bits, ← bits_add]; rfl
theorem crcR_eq (bs : List Nat) : crcR bs = refR bs := by
  have : crcByte = refByte := by funext r c; exact byte_eq r c
  rw [crcR, refR, this]
theorem xor_ones {r : Nat} (h : r < 2 ^ 32) : r ^^^ 4294967295 = 4294967295 - r := by
  apply Nat.eq_of_testBit_eq
  intro i
  rw [Nat.testBit_xor, show (4294967295 : Nat) = 2 ^ 32 - 1 from rfl, Nat.testBit_two_pow_sub_one, show 2 ^ 32 - 1 - r = 2 ^ 32 - (r + 1) by omega, Nat.testBit_two_pow_sub_succ h]
  by_cases hi : i < 32
  · simp [hi]
  · simp [hi]
    exact Nat.testBit_lt_two_pow (Nat.lt_of_lt_of_le h (Nat.pow_le_pow_right (by omega) (by omega)))
theorem crc_ref {bs : List Nat} (hb : ∀ x ∈ bs, x < 256) : refR bs ^^^ 4294967295 = crc bs := by
  rw [xor_ones (refR_lt hb), crc, crcR_eq]
theorem crc_lt {bs : List Nat} : crc bs < 2 ^ 32 := by unfold crc; omega

/- THE SEALED PAGE -/
def body (k : Nat) (bs : List Nat) : List Nat := [bs.length % 256, bs.length / 256 % 256, k, 157] ++ (bs ++ List.replicate (504 - bs.length) 0)
def le4 (n : Nat) : List Nat := [n % 256, n / 256 % 256, n / 65536 % 256, n / 16777216 % 256]
def sealB (k : Nat) (bs : List Nat) : List Nat := le4 (crc (body k bs)) ++ body k bs
theorem body_length {k : Nat} {bs : List Nat} (h : bs.length ≤ 504) : (body k bs).length = 508 := by simp [body]; omega
theorem sealB_length {k : Nat} {bs : List Nat} (h : bs.length ≤ 504) : (sealB k bs).length = 512 := by simp [sealB, le4, body_length h]
theorem body_lt {k : Nat} {bs : List Nat} (hk : k < 256) (hb : ∀ x ∈ bs, x < 256) : ∀ x ∈ body k bs, x < 256 := by
  intro x hx
  simp only [body, List.mem_append, List.mem_cons, List.not_mem_nil, or_false, List.mem_replicate] at hx
  rcases hx with (h | h | h | h) | h | h
  · omega
  · omega
  · omega
  · omega
  · exact hb x h
  · omega
theorem sealB_lt {k : Nat} {bs : List Nat} (hk : k < 256) (hb : ∀ x ∈ bs, x < 256) : ∀ x ∈ sealB k bs, x < 256 := by
  intro x hx
  rcases List.mem_append.1 hx with h | h
  · simp only [le4, List.mem_cons, List.not_mem_nil, or_false] at h; omega
  · exact body_lt hk hb x h

theorem wrapv_u8 (m : Nat) : wrapv .u8 (.ofNat m) = .ofNat (m % 256) := by
  rw [wrapv_eq]
  simp [IntKind.wrap, IntKind.bits, IntKind.signed]
theorem map_set (l : List Nat) (i x : Nat) : (l.map bV).set i (bV x) = (l.set i x).map bV := by rw [List.map_set]
end Go.Ev.W02
