/- Fn2: texts joined. -/
import Derived.Test.YtnkaolpkdeffiaaDoorFn1
import Derived.Test.YtnkaolpkdeffiaaDoorEvFrame
import GoSem.PinnedTables
/- FUNCTOR: both functors of two numbers answer alike. -/
namespace Go.Ev.W04
open Go.Proofs

structure CallT (cf : CF) : Prop where
  parts0 : ∀ op (a : Int) h, cf ⟨.d0, .d0, .d1, .dd⟩ [.int .u8 (.ofNat op), .int .i64 a, .int .i64 (.ofNat 0)] h = .ret (.tup [.int .i64 (.ofNat 0), .bool false]) h
  partsD : ∀ (a b : Int) h, b ≠ .ofNat 0 → cf ⟨.d0, .d0, .d1, .dd⟩ [.int .u8 (.ofNat 13), .int .i64 a, .int .i64 b] h = .ret (.tup [.int .i64 (wrapv .i64 (Int.tdiv a b)), .bool true]) h
  partsR : ∀ (a b : Int) h, b ≠ .ofNat 0 → cf ⟨.d0, .d0, .d1, .dd⟩ [.int .u8 (.ofNat 14), .int .i64 a, .int .i64 b] h = .ret (.tup [.int .i64 (Int.tmod a b), .bool true]) h
  divided : ∀ (a b : Int) h, In64 a → b ≠ .ofNat 0 → cf ⟨.d0, .d0, .d1, .de⟩ [.int .i64 a, .int .i64 b] h = .ret (.tup [.int .i64 (wrapv .i64 (Int.tdiv a b)), .int .i64 (Int.tmod a b)]) h
  bits : ∀ (a b : Int) (both one : Bool) h, cf ⟨.d0, .d0, .d1, .df⟩ [.int .i64 a, .int .i64 b, .bool both, .bool one] h = .ret (.int .i64 (wrapv .i64 (.ofNat (bitsTo (fun i => comb both one (bitI a i) (bitI b i)) 64)))) h
  down : ∀ (a : Int) (k : Nat) h, In64 a → k < 64 → cf ⟨.d0, .d0, .d2, .d0⟩ [.int .i64 a, .int .i64 (.ofNat k)] h = .ret (.int .i64 (shrv a (2 ^ k))) h

/-- what both answer -/
inductive Two : Nat → Int → Int → Int → Bool → Prop where
  | add (a b) : Two 10 a b (wrapv .i64 (Int.add a b)) true
  | sub (a b) : Two 11 a b (wrapv .i64 (Int.sub a b)) true
  | mul (a b) : Two 12 a b (wrapv .i64 (Int.mul a b)) true
  | div0 (a) : Two 13 a 0 0 false
  | rem0 (a) : Two 14 a 0 0 false
  | div (a b) (h : b ≠ 0) : Two 13 a b (wrapv .i64 (Int.tdiv a b)) true
  | rem (a b) (h : b ≠ 0) : Two 14 a b (Int.tmod a b) true
  | and (a b) : Two 15 a b (band .i64 a b) true
  | or (a b) : Two 16 a b (bor .i64 a b) true
  | xor (a b) : Two 17 a b (bxor .i64 a b) true
  | shl (a b) (k : Nat) (hk : k < 64) (h : Int.tmod (wrapv .u64 b) (.ofNat 64) = .ofNat k) : Two 18 a b (wrapv .i64 (Int.mul a (.ofNat (2 ^ k)))) true
  | shr (a b) (k : Nat) (hk : k < 64) (h : Int.tmod (wrapv .u64 b) (.ofNat 64) = .ofNat k) : Two 19 a b (shrv a (2 ^ k)) true
  | no (op a b) (h : op < 10 ∨ 19 < op) : Two op a b 0 false
theorem two_ex (op : Nat) (a b : Int) : ∃ r ok, Two op a b r ok := by
  by_cases h : op < 10 ∨ 19 < op
  · exact ⟨_, _, .no op a b h⟩
  · obtain ⟨k, hk, e⟩ := by64 b
    have : op = 10 ∨ op = 11 ∨ op = 12 ∨ op = 13 ∨ op = 14 ∨ op = 15 ∨ op = 16 ∨ op = 17 ∨ op = 18 ∨ op = 19 := by omega
    by_cases hb : b = 0
    · subst hb
      rcases this with rfl | rfl | rfl | rfl | rfl | rfl | rfl | rfl | rfl | rfl
      · exact ⟨_, _, .add _ _⟩
      · exact ⟨_, _, .sub _ _⟩
      · exact ⟨_, _, .mul _ _⟩
      · exact ⟨_, _, .div0 _⟩
      · exact ⟨_, _, .rem0 _⟩
      · exact ⟨_, _, .and _ _⟩
      · exact ⟨_, _, .or _ _⟩
      · exact ⟨_, _, .xor _ _⟩
      · exact ⟨_, _, .shl _ _ k hk e⟩
      · exact ⟨_, _, .shr _ _ k hk e⟩
    · rcases this with rfl | rfl | rfl | rfl | rfl | rfl | rfl | rfl | rfl | rfl
      · exact ⟨_, _, .add _ _⟩
      · exact ⟨_, _, .sub _ _⟩
      · exact ⟨_, _, .mul _ _⟩
      · exact ⟨_, _, .div _ _ hb⟩
      · exact ⟨_, _, .rem _ _ hb⟩
      · exact ⟨_, _, .and _ _⟩
      · exact ⟨_, _, .or _ _⟩
      · exact ⟨_, _, .xor _ _⟩
      · exact ⟨_, _, .shl _ _ k hk e⟩
      · exact ⟨_, _, .shr _ _ k hk e⟩
variable {n : Nat} {cf : CF} {h : Heap} {a b : Int}
theorem via {h : Heap} : ∀ (x : Res) (r : Int) (ok : Bool), x = .ret (.tup [.int .i64 r, .bool ok]) h → backk x (fun v h => tupk v (fun l => unc l (fun v l => castI .i64 v (fun i => unc l (fun v l => castB v (fun b => nilk' l (.ret (.tup [.int .i64 i, .bool b]) h))))))) (fun v h => .pan v h) = .ret (.tup [.int .i64 r, .bool ok]) h := by
  rintro x r ok rfl; rfl
theorem two_add : sh10 words n cf [.int .u8 (.ofNat 10), .int .i64 a, .int .i64 b] h = .ret (.tup [.int .i64 (wrapv .i64 (Int.add a b)), .bool true]) h := rfl
theorem two_sub0 : sh10 words n cf [.int .u8 (.ofNat 11), .int .i64 a, .int .i64 b] h = .ret (.tup [.int .i64 (wrapv .i64 (Int.add a (wrapv .i64 (Int.sub (.ofNat 0) b)))), .bool true]) h := rfl
theorem two_mul : sh10 words n cf [.int .u8 (.ofNat 12), .int .i64 a, .int .i64 b] h = .ret (.tup [.int .i64 (wrapv .i64 (Int.mul a b)), .bool true]) h := rfl
theorem two_and : sh10 words n cf [.int .u8 (.ofNat 15), .int .i64 a, .int .i64 b] h = .ret (.tup [.int .i64 (band .i64 a b), .bool true]) h := rfl
theorem two_or : sh10 words n cf [.int .u8 (.ofNat 16), .int .i64 a, .int .i64 b] h = .ret (.tup [.int .i64 (bor .i64 a b), .bool true]) h := rfl
theorem two_xor : sh10 words n cf [.int .u8 (.ofNat 17), .int .i64 a, .int .i64 b] h = .ret (.tup [.int .i64 (bxor .i64 a b), .bool true]) h := rfl
theorem two_div (C : CallT cf) (hb : b ≠ .ofNat 0) : sh10 words n cf [.int .u8 (.ofNat 13), .int .i64 a, .int .i64 b] h = .ret (.tup [.int .i64 (wrapv .i64 (Int.tdiv a b)), .bool true]) h := via _ _ _ (C.partsD a b h hb)
theorem two_rem (C : CallT cf) (hb : b ≠ .ofNat 0) : sh10 words n cf [.int .u8 (.ofNat 14), .int .i64 a, .int .i64 b] h = .ret (.tup [.int .i64 (Int.tmod a b), .bool true]) h := via _ _ _ (C.partsR a b h hb)
theorem two_div0 (C : CallT cf) : sh10 words n cf [.int .u8 (.ofNat 13), .int .i64 a, .int .i64 (.ofNat 0)] h = .ret (.tup [.int .i64 (.ofNat 0), .bool false]) h := via _ _ _ (C.parts0 13 a h)
theorem two_rem0 (C : CallT cf) : sh10 words n cf [.int .u8 (.ofNat 14), .int .i64 a, .int .i64 (.ofNat 0)] h = .ret (.tup [.int .i64 (.ofNat 0), .bool false]) h := via _ _ _ (C.parts0 14 a h)
theorem two_shl (k : Nat) (hk : k < 64) (e : Int.tmod (wrapv .u64 b) (.ofNat 64) = .ofNat k) : sh10 words n cf [.int .u8 (.ofNat 18), .int .i64 a, .int .i64 b] h = .ret (.tup [.int .i64 (wrapv .i64 (Int.mul a (.ofNat (2 ^ k)))), .bool true]) h := by
  have h1 : sh10 words n cf [.int .u8 (.ofNat 18), .int .i64 a, .int .i64 b] h = natk (Int.tmod (wrapv .u64 b) (.ofNat 64)) (fun n => .ret (.tup [.int .i64 (wrapv .i64 (Int.mul a (.ofNat (Nat.pow 2 (Nat.min n 64))))), .bool true]) h) := rfl
  rw [h1, e, natk_ofNat, show Nat.min k 64 = k from Nat.min_eq_left (by omega), show Nat.pow 2 k = 2 ^ k from rfl]
theorem two_shr (k : Nat) (hk : k < 64) (e : Int.tmod (wrapv .u64 b) (.ofNat 64) = .ofNat k) : sh10 words n cf [.int .u8 (.ofNat 19), .int .i64 a, .int .i64 b] h = .ret (.tup [.int .i64 (shrv a (2 ^ k)), .bool true]) h := by
  have h1 : sh10 words n cf [.int .u8 (.ofNat 19), .int .i64 a, .int .i64 b] h = natk (Int.tmod (wrapv .u64 b) (.ofNat 64)) (fun n => .ret (.tup [.int .i64 (shrv a (Nat.pow 2 (Nat.min n 64))), .bool true]) h) := rfl
  rw [h1, e, natk_ofNat, show Nat.min k 64 = k from Nat.min_eq_left (by omega), show Nat.pow 2 k = 2 ^ k from rfl]
theorem two_no {op : Nat} (hop : op < 10 ∨ 19 < op) : sh10 words n cf [.int .u8 (.ofNat op), .int .i64 a, .int .i64 b] h = .ret (.tup [.int .i64 (.ofNat 0), .bool false]) h := by
  have ne : ∀ {y : Nat}, op ≠ y → ieq (.ofNat op) (.ofNat y) = false := fun h => by rw [ieq_nat]; exact decide_eq_false h
  unfold sh10
  simp only [unc_cons, castI_int, nilk'_nil, ne (show op ≠ 10 by omega), ne (show op ≠ 11 by omega), ne (show op ≠ 12 by omega), ne (show op ≠ 13 by omega), ne (show op ≠ 14 by omega), ne (show op ≠ 15 by omega), ne (show op ≠ 16 by omega), ne (show op ≠ 17 by omega), ne (show op ≠ 18 by omega), ne (show op ≠ 19 by omega), ifk_false, contk_done, nork_normal, nork_exit, show ∀ a b : Res, exk 3 (.exit 0) a b = b from fun _ _ => rfl, show ∀ a b : Res, exk 4 (.exit 0) a b = b from fun _ _ => rfl, show ∀ a b : Res, exk 5 (.exit 0) a b = b from fun _ _ => rfl, show ∀ a b : Res, exk 6 (.exit 0) a b = b from fun _ _ => rfl, show ∀ a b : Res, exk 7 (.exit 0) a b = b from fun _ _ => rfl, show ∀ a b : Res, exk 8 (.exit 0) a b = b from fun _ _ => rfl, show ∀ a b : Res, exk 9 (.exit 0) a b = b from fun _ _ => rfl, show ∀ a b : Res, exk 0 (.exit 0) a b = a from fun _ _ => rfl]
theorem two_law (C : CallT cf) {op : Nat} {r : Int} {ok : Bool} (t : Two op a b r ok) :
    sh10 words n cf [.int .u8 (.ofNat op), .int .i64 a, .int .i64 b] h = .ret (.tup [.int .i64 r, .bool ok]) h := by
  cases t with
  | add => exact two_add
  | sub => exact two_sub0.trans (by rw [show Int.sub (.ofNat 0) b = Int.sub 0 b from rfl, add_opp])
  | mul => exact two_mul
  | div0 => exact two_div0 C
  | rem0 => exact two_rem0 C
  | div _ _ hb => exact two_div C hb
  | rem _ _ hb => exact two_rem C hb
  | and => exact two_and
  | or => exact two_or
  | xor => exact two_xor
  | shl _ _ k hk e => exact two_shl k hk e
  | shr _ _ k hk e => exact two_shr k hk e
  | no _ _ _ hop => exact two_no hop
end Go.Ev.W04

/- FUNCTOR: the document's functors of two numbers. -/
namespace Go.Ev.W04
open Go.Proofs
variable {n : Nat} {cf : CF} {h : Heap} {a b : Int}

theorem ref_add : sh11 words n cf [.int .u8 (.ofNat 10), .int .i64 a, .int .i64 b] h = .ret (.tup [.int .i64 (wrapv .i64 (Int.add a b)), .bool true]) h :=
  (show _ = Res.ret (.tup [.int .i64 (wrapv .i64 (wrapv .u64 (Int.add (wrapv .u64 a) (wrapv .u64 b)))), .bool true]) h from rfl).trans (by rw [add_wu])
theorem ref_sub : sh11 words n cf [.int .u8 (.ofNat 11), .int .i64 a, .int .i64 b] h = .ret (.tup [.int .i64 (wrapv .i64 (Int.sub a b)), .bool true]) h :=
  (show _ = Res.ret (.tup [.int .i64 (wrapv .i64 (wrapv .u64 (Int.sub (wrapv .u64 a) (wrapv .u64 b)))), .bool true]) h from rfl).trans (by rw [sub_wu])
theorem ref_mul : sh11 words n cf [.int .u8 (.ofNat 12), .int .i64 a, .int .i64 b] h = .ret (.tup [.int .i64 (wrapv .i64 (Int.mul a b)), .bool true]) h :=
  (show _ = Res.ret (.tup [.int .i64 (wrapv .i64 (wrapv .u64 (Int.mul (wrapv .u64 a) (wrapv .u64 b)))), .bool true]) h from rfl).trans (by rw [mul_wu])
theorem ref_div0 : sh11 words n cf [.int .u8 (.ofNat 13), .int .i64 a, .int .i64 (.ofNat 0)] h = .ret (.tup [.int .i64 (.ofNat 0), .bool false]) h := rfl
theorem ref_rem0 : sh11 words n cf [.int .u8 (.ofNat 14), .int .i64 a, .int .i64 (.ofNat 0)] h = .ret (.tup [.int .i64 (.ofNat 0), .bool false]) h := rfl
theorem ref_div (C : CallT cf) (ha : In64 a) (hb : b ≠ .ofNat 0) : sh11 words n cf [.int .u8 (.ofNat 13), .int .i64 a, .int .i64 b] h = .ret (.tup [.int .i64 (wrapv .i64 (Int.tdiv a b)), .bool true]) h := by
  have h1 : sh11 words n cf [.int .u8 (.ofNat 13), .int .i64 a, .int .i64 b] h = ifk (ieq b (.ofNat 0)) (.ret (.tup [.int .i64 (.ofNat 0), .bool .false]) h) (backk (cf ⟨.d0, .d0, .d1, .de⟩ [.int .i64 a, .int .i64 b] h) (fun v h => tupk v (fun l => unc l (fun v l => castI .i64 v (fun q => unc l (fun v l => castI .i64 v (fun r => nilk' l (ifk (ieq (.ofNat 13) (.ofNat 14)) (.ret (.tup [.int .i64 r, .bool .true]) h) (.ret (.tup [.int .i64 q, .bool .true]) h)))))))) (fun v h => .pan v h)) := rfl
  rw [h1, ieq_ne hb, ifk_false, C.divided a b h ha hb]; rfl
theorem ref_rem (C : CallT cf) (ha : In64 a) (hb : b ≠ .ofNat 0) : sh11 words n cf [.int .u8 (.ofNat 14), .int .i64 a, .int .i64 b] h = .ret (.tup [.int .i64 (Int.tmod a b), .bool true]) h := by
  have h1 : sh11 words n cf [.int .u8 (.ofNat 14), .int .i64 a, .int .i64 b] h = ifk (ieq b (.ofNat 0)) (.ret (.tup [.int .i64 (.ofNat 0), .bool .false]) h) (backk (cf ⟨.d0, .d0, .d1, .de⟩ [.int .i64 a, .int .i64 b] h) (fun v h => tupk v (fun l => unc l (fun v l => castI .i64 v (fun q => unc l (fun v l => castI .i64 v (fun r => nilk' l (ifk (ieq (.ofNat 14) (.ofNat 14)) (.ret (.tup [.int .i64 r, .bool .true]) h) (.ret (.tup [.int .i64 q, .bool .true]) h)))))))) (fun v h => .pan v h)) := rfl
  rw [h1, ieq_ne hb, ifk_false, C.divided a b h ha hb]; rfl
theorem ref_and (C : CallT cf) : sh11 words n cf [.int .u8 (.ofNat 15), .int .i64 a, .int .i64 b] h = .ret (.tup [.int .i64 (band .i64 a b), .bool true]) h := by
  have h1 : sh11 words n cf [.int .u8 (.ofNat 15), .int .i64 a, .int .i64 b] h = backk (cf ⟨.d0, .d0, .d1, .df⟩ [.int .i64 a, .int .i64 b, .bool true, .bool false] h) (fun v h => castI .i64 v (fun i => .ret (.tup [.int .i64 i, .bool .true]) h)) (fun v h => .pan v h) := rfl
  rw [h1, C.bits, backk_ret, castI_int, band64]
theorem ref_or (C : CallT cf) : sh11 words n cf [.int .u8 (.ofNat 16), .int .i64 a, .int .i64 b] h = .ret (.tup [.int .i64 (bor .i64 a b), .bool true]) h := by
  have h1 : sh11 words n cf [.int .u8 (.ofNat 16), .int .i64 a, .int .i64 b] h = backk (cf ⟨.d0, .d0, .d1, .df⟩ [.int .i64 a, .int .i64 b, .bool true, .bool true] h) (fun v h => castI .i64 v (fun i => .ret (.tup [.int .i64 i, .bool .true]) h)) (fun v h => .pan v h) := rfl
  rw [h1, C.bits, backk_ret, castI_int, bor64]
theorem ref_xor (C : CallT cf) : sh11 words n cf [.int .u8 (.ofNat 17), .int .i64 a, .int .i64 b] h = .ret (.tup [.int .i64 (bxor .i64 a b), .bool true]) h := by
  have h1 : sh11 words n cf [.int .u8 (.ofNat 17), .int .i64 a, .int .i64 b] h = backk (cf ⟨.d0, .d0, .d1, .df⟩ [.int .i64 a, .int .i64 b, .bool false, .bool true] h) (fun v h => castI .i64 v (fun i => .ret (.tup [.int .i64 i, .bool .true]) h)) (fun v h => .pan v h) := rfl
  rw [h1, C.bits, backk_ret, castI_int, bxor64]
theorem ref_shr (C : CallT cf) (ha : In64 a) (k : Nat) (hk : k < 64) (e : Int.tmod (wrapv .u64 b) (.ofNat 64) = .ofNat k) : sh11 words n cf [.int .u8 (.ofNat 19), .int .i64 a, .int .i64 b] h = .ret (.tup [.int .i64 (shrv a (2 ^ k)), .bool true]) h := by
  have h1 : sh11 words n cf [.int .u8 (.ofNat 19), .int .i64 a, .int .i64 b] h = backk (cf ⟨.d0, .d0, .d2, .d0⟩ [.int .i64 a, .int .i64 (wrapv .i64 (Int.tmod (wrapv .u64 b) (.ofNat 64)))] h) (fun v h => castI .i64 v (fun i => .ret (.tup [.int .i64 i, .bool .true]) h)) (fun v h => .pan v h) := rfl
  rw [h1, e, wrapv_small .i64 _ (show k ≤ 9223372036854775807 by omega), C.down a k h ha hk, backk_ret, castI_int]
theorem ref_shl (ha : In64 a) (hn : 64 < n) (k : Nat) (hk : k < 64) (e : Int.tmod (wrapv .u64 b) (.ofNat 64) = .ofNat k) : sh11 words n cf [.int .u8 (.ofNat 18), .int .i64 a, .int .i64 b] h = .ret (.tup [.int .i64 (wrapv .i64 (Int.mul a (.ofNat (2 ^ k)))), .bool true]) h := by
  have h1 : sh11 words n cf [.int .u8 (.ofNat 18), .int .i64 a, .int .i64 b] h = lpk (fun l106 l108 h110 => unc l108 (fun v112 l114 => castF .i64 v112 (fun i116 => unc l114 (fun v118 l120 => castF .i64 v118 (fun i122 => unc l120 (fun v124 l126 => castF .i64 v124 (fun i128 => nilk' l126 (ifk (ilt i128 i122) (l106 [.int .i64 (wrapv .i64 (wrapv .u64 (Int.add (wrapv .u64 i116) (wrapv .u64 i116)))), .int .i64 i122, .int .i64 (wrapv .i64 (Int.add i128 (.ofNat (nat_lit 1))))] h110) (.ret (.tup [.int .i64 i116, .bool .true]) h110))))))))) n [.int .i64 a, .int .i64 (wrapv .i64 (Int.tmod (wrapv .u64 b) (.ofNat 64))), .int .i64 (.ofNat 0)] h := rfl
  rw [h1, e, wrapv_small .i64 _ (show k ≤ 9223372036854775807 by omega)]
  refine lpk_inv (I := fun w h' m => ∃ i, i ≤ k ∧ m = k - i ∧ h' = h ∧ w = [.int .i64 (wrapv .i64 (Int.mul a (.ofNat (2 ^ i)))), .int .i64 (.ofNat k), .int .i64 (.ofNat i)])
    (Q := (· = _)) ?_ n _ _ k (by omega) ⟨0, by omega, by omega, rfl, by rw [show Int.mul a (.ofNat (2 ^ 0)) = a from Int.mul_one a, w64_id ha]⟩
  rintro again w h' m ⟨i, hi, rfl, rfl, rfl⟩ ih
  simp only [unc_cons, castF_int, nilk'_nil, ilt_nat]
  by_cases h4 : i < k
  · rw [decide_eq_true h4, ifk_true, ← shl_succ, add_nat, wrapv_small .i64 _ (show i + 1 ≤ 9223372036854775807 by omega)]
    exact ih _ _ (k - (i + 1)) (by omega) ⟨i + 1, h4, rfl, rfl, rfl⟩
  · obtain rfl : i = k := by omega
    rw [decide_eq_false h4, ifk_false]
end Go.Ev.W04

/- FUNCTOR: both functors of two numbers, and of one, answer alike. -/
namespace Go.Ev.W04
open Go.Proofs
variable {n : Nat} {cf : CF} {h : Heap} {a b : Int}

theorem ref_no {op : Nat} (hop : op < 10 ∨ 19 < op) : sh11 words n cf [.int .u8 (.ofNat op), .int .i64 a, .int .i64 b] h = .ret (.tup [.int .i64 (.ofNat 0), .bool false]) h := by
  have ne : ∀ {y : Nat}, op ≠ y → ieq (.ofNat op) (.ofNat y) = false := fun h => by rw [ieq_nat]; exact decide_eq_false h
  unfold sh11
  simp only [unc_cons, castI_int, castB_bool, nilk'_nil, ne (show op ≠ 10 by omega), ne (show op ≠ 11 by omega), ne (show op ≠ 12 by omega), ne (show op ≠ 13 by omega), ne (show op ≠ 14 by omega), ne (show op ≠ 15 by omega), ne (show op ≠ 16 by omega), ne (show op ≠ 17 by omega), ne (show op ≠ 18 by omega), ne (show op ≠ 19 by omega), ifk_false, contk_done, nork_normal]
theorem ref_law (C : CallT cf) (ha : In64 a) (hn : 64 < n) {op : Nat} {r : Int} {ok : Bool} (t : Two op a b r ok) :
    sh11 words n cf [.int .u8 (.ofNat op), .int .i64 a, .int .i64 b] h = .ret (.tup [.int .i64 r, .bool ok]) h := by
  cases t with
  | add => exact ref_add
  | sub => exact ref_sub
  | mul => exact ref_mul
  | div0 => exact ref_div0
  | rem0 => exact ref_rem0
  | div _ _ hb => exact ref_div C ha hb
  | rem _ _ hb => exact ref_rem C ha hb
  | and => exact ref_and C
  | or => exact ref_or C
  | xor => exact ref_xor C
  | shl _ _ k hk e => exact ref_shl ha hn k hk e
  | shr _ _ k hk e => exact ref_shr C ha k hk e
  | no _ _ _ hop => exact ref_no hop
/-- what both functors of one number answer -/
noncomputable def one (op : Nat) (a : Int) : Int := if op = 9 then wrapv .i64 (Int.sub (.negSucc 0) a) else if op = 8 then wrapv .i64 (Int.sub (.ofNat 0) a) else .ofNat 0
theorem one_law {op : Nat} : sh12 words n cf [.int .u8 (.ofNat op), .int .i64 a] h = .ret (.int .i64 (one op a)) h := by
  unfold sh12 one
  simp only [unc_cons, castI_int, nilk'_nil, ieq_nat]
  by_cases h9 : op = 9
  · rw [decide_eq_true h9, ifk_true, if_pos h9]
    exact congrArg (fun x => Res.ret (.int .i64 x) h) (not_opp a)
  · rw [decide_eq_false h9, ifk_false, if_neg h9]
    by_cases h8 : op = 8
    · rw [decide_eq_true h8, ifk_true, if_pos h8]
    · rw [decide_eq_false h8, ifk_false, if_neg h8]
theorem refone_law {op : Nat} : sh13 words n cf [.int .u8 (.ofNat op), .int .i64 a] h = .ret (.int .i64 (one op a)) h := by
  unfold sh13 one
  simp only [unc_cons, castI_int, nilk'_nil, ieq_nat]
  by_cases h9 : op = 9
  · subst h9
    rw [show decide (9 = 8) = false from rfl, ifk_false, show decide (9 = 9) = true from rfl, ifk_true, if_pos rfl]
  · rw [if_neg h9]
    by_cases h8 : op = 8
    · rw [decide_eq_true h8, ifk_true, if_pos h8]
      exact congrArg (fun x => Res.ret (.int .i64 x) h) (neg_wu a)
    · rw [decide_eq_false h8, ifk_false, decide_eq_false h9, ifk_false, if_neg h8]
end Go.Ev.W04

/- FUNCTOR: the law FunctorNumbers. -/
namespace Go.Ev.W04
open Go.Proofs
variable {n : Nat} {cf : CF} {h : Heap} {a b : Int}

structure CallN (cf : CF) : Prop where
  two : ∀ op (a b r : Int) ok h, Two op a b r ok → cf ⟨.d0, .d0, .d0, .da⟩ [.int .u8 (.ofNat op), .int .i64 a, .int .i64 b] h = .ret (.tup [.int .i64 r, .bool ok]) h
  reftwo : ∀ op (a b r : Int) ok h, In64 a → Two op a b r ok → cf ⟨.d0, .d0, .d0, .db⟩ [.int .u8 (.ofNat op), .int .i64 a, .int .i64 b] h = .ret (.tup [.int .i64 r, .bool ok]) h
  one : ∀ op (a : Int) h, cf ⟨.d0, .d0, .d0, .dc⟩ [.int .u8 (.ofNat op), .int .i64 a] h = .ret (.int .i64 (one op a)) h
  refone : ∀ op (a : Int) h, cf ⟨.d0, .d0, .d0, .dd⟩ [.int .u8 (.ofNat op), .int .i64 a] h = .ret (.int .i64 (Go.Ev.W04.one op a)) h
theorem numbers_law (C : CallN cf) {op : Nat} (ha : In64 a) {h' : Heap} (hw : cf ⟨.d0, .d0, .d0, .de⟩ [] h = .ret (.bool true) h') :
    sh3 words n cf [.int .u8 (.ofNat op), .int .i64 a, .int .i64 b] h = .ret (.bool true) h' := by
  obtain ⟨r, ok, t⟩ := two_ex op a b
  unfold sh3
  simp only [unc_cons, castI_int, castB_bool, nilk'_nil, C.two op a b r ok h t, C.reftwo op a b r ok h ha t, backk_ret, tupk_tup, ieq_same, ifk_true, boolk_bool, show beqk ok ok = true by cases ok <;> rfl, pickv_true, C.one, C.refone, intk_int, show Nat.beq (kno .i64) (kno .i64) = true from rfl, hw]
end Go.Ev.W04

/- FUNCTOR: works, run. -/
namespace Go.Ev.W04
open Go.Proofs
set_option maxRecDepth 100000
noncomputable def tz1 : Go.Ev.N PO := ⟨.no, .no, .no, .no, .no, .no, .no, .no, .no, .no, .no, .no, .no, .no, .no, .no⟩
noncomputable def tz2 : Go.Ev.N (N PO) := ⟨tz1, tz1, tz1, tz1, tz1, tz1, tz1, tz1, tz1, tz1, tz1, tz1, tz1, tz1, tz1, tz1⟩
noncomputable def tz3 : Go.Ev.N (N (N PO)) := ⟨tz2, tz2, tz2, tz2, tz2, tz2, tz2, tz2, tz2, tz2, tz2, tz2, tz2, tz2, tz2, tz2⟩
noncomputable def t1_000 : Go.Ev.N PO := ⟨.no, .no, .no, .no, .no, .no, .no, .no, .no, .no, .sh (sh10 words), .no, .sh (sh12 words), .no, .sh (sh14 words), .no⟩
noncomputable def t1_001 : Go.Ev.N PO := ⟨.no, .sh (sh17 words), .sh (sh18 words), .sh (sh19 words), .no, .no, .no, .no, .no, .no, .no, .no, .no, .sh (sh29 words), .no, .no⟩
noncomputable def t1_002 : Go.Ev.N PO := ⟨.no, .sh (sh33 words), .sh (sh34 words), .no, .sh (sh36 words), .no, .no, .sh (sh39 words), .no, .no, .no, .no, .no, .no, .no, .no⟩
noncomputable def t2_00 : Go.Ev.N (N PO) := ⟨t1_000, t1_001, t1_002, tz1, tz1, tz1, tz1, tz1, tz1, tz1, tz1, tz1, tz1, tz1, tz1, tz1⟩
noncomputable def t3_0 : Go.Ev.N (N (N PO)) := ⟨t2_00, tz2, tz2, tz2, tz2, tz2, tz2, tz2, tz2, tz2, tz2, tz2, tz2, tz2, tz2, tz2⟩
noncomputable def tabW : FT := ⟨t3_0, tz3, tz3, tz3, tz3, tz3, tz3, tz3, tz3, tz3, tz3, tz3, tz3, tz3, tz3, tz3⟩
noncomputable def tabWL : List (Fid × PO) := [(⟨.d0, .d0, .d0, .da⟩, .sh (sh10 words)), (⟨.d0, .d0, .d0, .dc⟩, .sh (sh12 words)), (⟨.d0, .d0, .d0, .de⟩, .sh (sh14 words)), (⟨.d0, .d0, .d1, .d1⟩, .sh (sh17 words)), (⟨.d0, .d0, .d1, .d2⟩, .sh (sh18 words)), (⟨.d0, .d0, .d1, .d3⟩, .sh (sh19 words)), (⟨.d0, .d0, .d1, .dd⟩, .sh (sh29 words)), (⟨.d0, .d0, .d2, .d1⟩, .sh (sh33 words)), (⟨.d0, .d0, .d2, .d2⟩, .sh (sh34 words)), (⟨.d0, .d0, .d2, .d4⟩, .sh (sh36 words)), (⟨.d0, .d0, .d2, .d7⟩, .sh (sh39 words))]
theorem tabW_eq : tabW = FT.of tabWL := by kernel_rfl
def firstL : List V := Go.Pinned.utf8FirstZ.map bV
def acceptL : List V := [128, 191, 160, 191, 128, 159, 144, 191, 128, 143, 0, 0, 0, 0, 0, 0, 0, 0, 0, 0, 0, 0, 0, 0, 0, 0, 0, 0, 0, 0, 0, 0].map bV
theorem runW : ∃ t0 t1, (Wf t0 1 256 ∧ ∀ j, t0.cell 1 j = firstL[j]?) ∧ (Wf t1 1 32 ∧ ∀ j, t1.cell 1 j = acceptL[j]?) ∧ yes (call tabW 100000 6 ⟨.d0, .d0, .d0, .de⟩ [] (doorHeap (.arr 1 256 t0 true) (.arr 1 32 t1 true))) = true := by
  obtain ⟨t0, h1, h2, h3⟩ := chopk_law (g := 1) (by omega) (wf_e (by omega)) (l := firstL) (m := 256) (by kernel_rfl)
  obtain ⟨t1, g1, g2, g3⟩ := chopk_law (g := 1) (by omega) (wf_e (by omega)) (l := acceptL) (m := 32) (by kernel_rfl)
  refine ⟨t0, t1, ⟨by simpa using h2, fun j => by simpa using h3 j⟩, ⟨by simpa using g2, fun j => by simpa using g3 j⟩, ?_⟩
  have e : chopk 1 256 0 firstL .e (fun t0 => chopk 1 32 0 acceptL .e fun t1 => call tabW 100000 6 ⟨.d0, .d0, .d0, .de⟩ [] (doorHeap (.arr 1 256 t0 true) (.arr 1 32 t1 true))) = call tabW 100000 6 ⟨.d0, .d0, .d0, .de⟩ [] (doorHeap (.arr 1 256 t0 true) (.arr 1 32 t1 true)) := by
    rw [h1, g1]
  exact (congrArg yes e).symm.trans (by kernel_rfl)
end Go.Ev.W04
