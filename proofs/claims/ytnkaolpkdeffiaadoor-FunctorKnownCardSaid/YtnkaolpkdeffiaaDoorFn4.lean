/- Fn4: texts joined. -/
import Derived.Test.YtnkaolpkdeffiaaDoorFn2
import Derived.Test.YtnkaolpkdeffiaaDoorFn3
/- FUNCTOR: the law FunctorParts. -/
namespace Go.Ev.W04
open Go.Proofs
variable {n : Nat} {cf : CF} {h : Heap} {a b : Int}

/-- how far a number is from 0 -/
noncomputable def sz (x : Int) : Int := if x < 0 then wrapv .u64 (Int.sub (.ofNat 0) (wrapv .u64 x)) else wrapv .u64 x
theorem size_law {x : Int} : sh15 words n cf [.int .i64 x] h = .ret (.int .u64 (sz x)) h := by
  unfold sh15 sz
  simp only [unc_cons, castI_int, nilk'_nil, ilt_eq]
  by_cases hx : x < 0
  · rw [if_pos hx, show decide (x < .ofNat 0) = true from decide_eq_true hx, ifk_true]
  · rw [if_neg hx, show decide (x < .ofNat 0) = false from decide_eq_false hx, ifk_false]
theorem sz_abs {x : Int} (hx : In64 x) : sz x = x.natAbs := by
  unfold sz In64 at *
  split
  · rw [wu64, wu64]; show (0 - x % _) % _ = _; omega
  · rw [wu64]; omega
structure CallS (cf : CF) : Prop where
  two : ∀ op (a b r : Int) ok h, Two op a b r ok → cf ⟨.d0, .d0, .d0, .da⟩ [.int .u8 (.ofNat op), .int .i64 a, .int .i64 b] h = .ret (.tup [.int .i64 r, .bool ok]) h
  size : ∀ (x : Int) h, cf ⟨.d0, .d0, .d0, .df⟩ [.int .i64 x] h = .ret (.int .u64 (sz x)) h
theorem sum_back {a b : Int} (ha : In64 a) : wrapv .i64 (Int.add (wrapv .i64 (Int.mul (wrapv .i64 (Int.tdiv a b)) b)) (Int.tmod a b)) = a := by
  refine in64_eq (w64_in _) ha ?_
  rw [w64_mod]
  show (wrapv .i64 (wrapv .i64 (Int.tdiv a b) * b) + Int.tmod a b) % _ = _
  have h1 := w64_mod (wrapv .i64 (Int.tdiv a b) * b)
  have h2 : wrapv .i64 (Int.tdiv a b) * b % 18446744073709551616 = Int.tdiv a b * b % 18446744073709551616 := by rw [Int.mul_emod, w64_mod, ← Int.mul_emod]
  have h3 : Int.tdiv a b * b + Int.tmod a b = a := Int.tdiv_mul_add_tmod a b
  omega
theorem parts0_law (C : CallS cf) {h' : Heap} (hw : cf ⟨.d0, .d0, .d0, .de⟩ [] h = .ret (.bool true) h') :
    sh4 words n cf [.int .i64 a, .int .i64 (.ofNat 0)] h = .ret (.bool true) h' := by
  unfold sh4
  simp only [unc_cons, castI_int, castB_bool, nilk'_nil, C.two 13 a (.ofNat 0) (.ofNat 0) false h (.div0 a), C.two 14 a (.ofNat 0) (.ofNat 0) false h (.rem0 a), backk_ret, tupk_tup, ieq_same, ifk_true, boolk_bool, pickv_true, Bool.not_false, Bool.not_true, intk_int, show Nat.beq (kno .i64) 3 = true from rfl, hw]
theorem parts_law (C : CallS cf) (ha : In64 a) (hb' : In64 b) (hb : b ≠ 0) {h' : Heap} (hw : cf ⟨.d0, .d0, .d0, .de⟩ [] h = .ret (.bool true) h') :
    sh4 words n cf [.int .i64 a, .int .i64 b] h = .ret (.bool true) h' := by
  have hr := mod_in (b := b) ha
  have hsum := sum_back (b := b) ha
  have hlt : Int.tmod a b ≠ 0 → (Int.tmod a b < 0 ↔ a < 0) := by
    intro h0
    by_cases h1 : 0 ≤ a
    · have := Int.tmod_nonneg b h1; omega
    · have h2 := Int.tmod_nonneg b (show 0 ≤ -a by omega)
      rw [Int.neg_tmod] at h2; omega
  have hsz : ilt (sz (Int.tmod a b)) (sz b) = true := by
    rw [ilt_eq, decide_eq_true_eq, sz_abs hr, sz_abs hb', Int.natAbs_tmod]
    have := Nat.mod_lt a.natAbs (show 0 < b.natAbs by omega)
    omega
  unfold sh4
  simp only [unc_cons, castI_int, castB_bool, nilk'_nil, C.two 13 a b _ true h (.div a b hb), C.two 14 a b _ true h (.rem a b hb), backk_ret, tupk_tup, ieq_ne (show b ≠ .ofNat 0 from hb), ifk_false, C.two 12 _ b _ true h (.mul _ b), C.two 10 _ _ _ true h (.add _ _), hsum]
  generalize Int.tmod a b = r at hr hlt hsz ⊢
  by_cases h0 : r = .ofNat 0
  · subst h0
    simp only [ieq_same, Bool.not_true, ifk_true, ifk_false, backk_ret, pickv_true, pickv_false, castB_bool, boolk_bool, grdk_skip, grdk_bool, intk_int, show Nat.beq (kno .i64) (kno .i64) = true from rfl, hw, if_true]
  · have hl : beqk (ilt r (.ofNat 0)) (ilt a (.ofNat 0)) = true := by
      have := hlt h0
      rw [ilt_eq, ilt_eq]
      have e : decide (r < .ofNat 0) = decide (a < .ofNat 0) := decide_eq_decide.2 this
      rw [e]; cases decide (a < .ofNat 0) <;> rfl
    simp only [ieq_ne h0, Bool.not_false, ifk_true, ifk_false, backk_ret, pickv_true, pickv_false, castB_bool, castI_int, boolk_bool, grdk_skip, grdk_bool, intk_int, ieq_same, show Nat.beq (kno .i64) (kno .i64) = true from rfl, show Nat.beq (kno .i64) 3 = true from rfl, show Nat.beq (kno .u64) (kno .u64) = true from rfl, hl, hsz, C.size, hw, if_true]
end Go.Ev.W04

/- FUNCTOR: the law FunctorLaws. -/
namespace Go.Ev.W04
open Go.Proofs
set_option maxRecDepth 100000
variable {n : Nat} {cf : CF} {h : Heap} {a b c : Int}

theorem bitsTo_and_or (f g : Nat → Bool) (n : Nat) : bitsTo (fun i => comb true false (f i) (g i)) n + bitsTo (fun i => comb true true (f i) (g i)) n = bitsTo f n + bitsTo g n := by
  induction n with
  | zero => rfl
  | succ n ih =>
    show _ + (if comb true false (f n) (g n) then 2 ^ n else 0) + (_ + (if comb true true (f n) (g n) then 2 ^ n else 0)) = _ + (if f n then 2 ^ n else 0) + (_ + (if g n then 2 ^ n else 0))
    have e : (if comb true false (f n) (g n) then 2 ^ n else 0) + (if comb true true (f n) (g n) then 2 ^ n else 0) = (if f n then 2 ^ n else 0) + (if g n then 2 ^ n else 0) := by
      cases f n <;> cases g n <;> simp [comb]
    omega
theorem bitsTo_and_xor (f g : Nat → Bool) (n : Nat) : bitsTo (fun i => comb true false (f i) (g i)) n + bitsTo (fun i => comb false true (f i) (g i)) n = bitsTo (fun i => comb true true (f i) (g i)) n := by
  induction n with
  | zero => rfl
  | succ n ih =>
    show _ + (if comb true false (f n) (g n) then 2 ^ n else 0) + (_ + (if comb false true (f n) (g n) then 2 ^ n else 0)) = _ + (if comb true true (f n) (g n) then 2 ^ n else 0)
    have e : (if comb true false (f n) (g n) then 2 ^ n else 0) + (if comb false true (f n) (g n) then 2 ^ n else 0) = (if comb true true (f n) (g n) then 2 ^ n else 0) := by
      cases f n <;> cases g n <;> simp [comb]
    omega
theorem bitsTo_bitI (a : Int) : (Int.ofNat (bitsTo (bitI a) 64)) = wrapv .u64 a := by
  obtain ⟨m, hm, hlt⟩ := u64_nat a
  have : bitsTo (bitI a) 64 = m := bitsTo_eq hlt fun i _ => by rw [bitI, hm]; rfl
  rw [this, hm]
theorem and_or (a b : Int) : wrapv .i64 (Int.add (band .i64 a b) (bor .i64 a b)) = wrapv .i64 (Int.add a b) := by
  rw [band64, bor64]
  refine w64_congr ?_
  show (wrapv .i64 _ + wrapv .i64 _) % _ = (a + b) % _
  have h1 := w64_mod (.ofNat (bitsTo (fun i => comb true false (bitI a i) (bitI b i)) 64))
  have h2 := w64_mod (.ofNat (bitsTo (fun i => comb true true (bitI a i) (bitI b i)) 64))
  have h3 := bitsTo_and_or (bitI a) (bitI b) 64
  have h4 := bitsTo_bitI a
  have h5 := bitsTo_bitI b
  rw [wu64] at h4 h5
  simp only [Int.ofNat_eq_natCast] at h1 h2 h4 h5 ⊢
  omega
theorem and_xor (a b : Int) : wrapv .i64 (Int.add (band .i64 a b) (bxor .i64 a b)) = bor .i64 a b := by
  rw [band64, bor64, bxor64]
  refine w64_congr ?_
  show (wrapv .i64 _ + wrapv .i64 _) % _ = _
  have h1 := w64_mod (.ofNat (bitsTo (fun i => comb true false (bitI a i) (bitI b i)) 64))
  have h2 := w64_mod (.ofNat (bitsTo (fun i => comb false true (bitI a i) (bitI b i)) 64))
  have h3 := bitsTo_and_xor (bitI a) (bitI b) 64
  simp only [Int.ofNat_eq_natCast] at h1 h2 ⊢
  omega
theorem mul_w (x y : Int) : x * wrapv .i64 y % 18446744073709551616 = x * y % 18446744073709551616 := by
  rw [Int.mul_emod, w64_mod, ← Int.mul_emod]
theorem add_assoc64 (a b c : Int) : wrapv .i64 (Int.add (wrapv .i64 (Int.add a b)) c) = wrapv .i64 (Int.add a (wrapv .i64 (Int.add b c))) := by
  refine w64_congr ?_
  have h1 := w64_mod (Int.add a b)
  have h2 := w64_mod (Int.add b c)
  change _ % _ = (a + b) % _ at h1
  change _ % _ = (b + c) % _ at h2
  show (wrapv .i64 (Int.add a b) + c) % _ = (a + wrapv .i64 (Int.add b c)) % _
  omega
theorem mul_add64 (a b c : Int) : wrapv .i64 (Int.mul a (wrapv .i64 (Int.add b c))) = wrapv .i64 (Int.add (wrapv .i64 (Int.mul a b)) (wrapv .i64 (Int.mul a c))) := by
  refine w64_congr ?_
  have h1 := w64_mod (Int.mul a b)
  have h2 := w64_mod (Int.mul a c)
  change _ % _ = (a * b) % _ at h1
  change _ % _ = (a * c) % _ at h2
  show (a * wrapv .i64 (b + c)) % _ = (wrapv .i64 (Int.mul a b) + wrapv .i64 (Int.mul a c)) % _
  rw [mul_w, Int.mul_add]
  omega
theorem sub_add64 (ha : In64 a) : wrapv .i64 (Int.add (wrapv .i64 (Int.sub a b)) b) = a := by
  refine in64_eq (w64_in _) ha ?_
  rw [w64_mod]
  have h1 := w64_mod (Int.sub a b)
  change _ % _ = (a - b) % _ at h1
  show (wrapv .i64 (Int.sub a b) + b) % _ = _
  omega
theorem not_not (ha : In64 a) : one 9 (one 9 a) = a := by
  simp only [one, if_pos]
  refine in64_eq (w64_in _) ha ?_
  rw [w64_mod]
  have h1 := w64_mod (Int.sub (.negSucc 0) a)
  change _ % _ = (-1 - a) % _ at h1
  show (-1 - wrapv .i64 (Int.sub (.negSucc 0) a)) % _ = _
  omega
theorem sub_opp (a b : Int) : wrapv .i64 (Int.add a (one 8 b)) = wrapv .i64 (Int.sub a b) := add_opp a b
theorem shl_one (a : Int) (i : Nat) : wrapv .i64 (Int.mul (wrapv .i64 (Int.mul a (.ofNat (2 ^ i)))) (.ofNat (2 ^ 1))) = wrapv .i64 (Int.mul a (.ofNat (2 ^ (i + 1)))) := by
  refine w64_congr ?_
  have h := w64_mod (Int.mul a (.ofNat (2 ^ i)))
  have e : Int.mul a (.ofNat (2 ^ (i + 1))) = Int.mul a (.ofNat (2 ^ i)) * 2 := by
    show a * ((2 ^ (i + 1) : Nat) : Int) = a * ((2 ^ i : Nat) : Int) * 2
    rw [Nat.pow_succ, Int.natCast_mul, ← Int.mul_assoc]; rfl
  rw [e]
  show (wrapv .i64 (Int.mul a (.ofNat (2 ^ i))) * 2) % _ = _
  omega
structure CallL (cf : CF) : Prop extends CallS cf where
  reck : ∀ op (a b r : Int) ok h, Two op a b r ok → cf ⟨.d0, .d0, .d1, .d0⟩ [.int .u8 (.ofNat op), .int .i64 a, .int .i64 b] h = .ret (.int .i64 r) h
  one : ∀ op (a : Int) h, cf ⟨.d0, .d0, .d0, .dc⟩ [.int .u8 (.ofNat op), .int .i64 a] h = .ret (.int .i64 (Go.Ev.W04.one op a)) h
theorem reck_law (C : CallS cf) {op : Nat} {r : Int} {ok : Bool} (t : Two op a b r ok) : sh16 words n cf [.int .u8 (.ofNat op), .int .i64 a, .int .i64 b] h = .ret (.int .i64 r) h := by
  unfold sh16
  simp only [unc_cons, castI_int, castB_bool, nilk'_nil, C.two op a b r ok h t, backk_ret, tupk_tup]
/-- a number from 0 to 63, of 64 bits without sign, is its own rest -/
theorem small64 {k : Nat} (hk : k < 64) : Int.tmod (wrapv .u64 (.ofNat k)) (.ofNat 64) = .ofNat k := by
  rw [wrapv_small .u64 _ (show k ≤ 18446744073709551615 by omega)]
  show Int.ofNat (k % 64) = _
  rw [Nat.mod_eq_of_lt hk]
theorem rest64 (c : Int) : ∃ k : Nat, k < 64 ∧ (if Int.tmod c (.ofNat 64) < 0 then wrapv .i64 (Int.sub (.ofNat 0) (Int.tmod c (.ofNat 64))) else Int.tmod c (.ofNat 64)) = .ofNat k := by
  have h1 : (Int.tmod c (.ofNat 64)).natAbs = c.natAbs % 64 := Int.natAbs_tmod c 64
  have h2 := Nat.mod_lt c.natAbs (show 0 < 64 by decide)
  generalize Int.tmod c (.ofNat 64) = r at h1
  split
  · refine ⟨r.natAbs, by omega, ?_⟩
    rw [w64_id (by unfold In64; show _ ≤ 0 - r ∧ 0 - r ≤ _; omega)]
    show 0 - r = (r.natAbs : Int); omega
  · exact ⟨r.natAbs, by omega, by show r = (r.natAbs : Int); omega⟩
theorem laws_law (C : CallL cf) (hn : 64 < n) (ha : In64 a) {h' : Heap} (hw : cf ⟨.d0, .d0, .d0, .de⟩ [] h = .ret (.bool true) h') :
    sh5 words n cf [.int .i64 a, .int .i64 b, .int .i64 c] h = .ret (.bool true) h' := by
  obtain ⟨k, hk, hkc⟩ := rest64 c
  unfold sh5
  simp only [unc_cons, castI_int, castB_bool, nilk'_nil, C.two 11 a b _ true h (.sub a b), backk_ret, tupk_tup, ilt_eq]
  have hj : ∀ (f : Int → Res), (ifk (decide (Int.tmod c (.ofNat 64) < .ofNat 0)) (f (wrapv .i64 (Int.sub (.ofNat 0) (Int.tmod c (.ofNat 64))))) (f (Int.tmod c (.ofNat 64)))) = f (.ofNat k) := by
    intro f
    by_cases h0 : Int.tmod c (.ofNat 64) < 0
    · rw [if_pos h0] at hkc
      rw [show decide (Int.tmod c (.ofNat 64) < .ofNat 0) = true from decide_eq_true h0, ifk_true, hkc]
    · rw [if_neg h0] at hkc
      rw [show decide (Int.tmod c (.ofNat 64) < .ofNat 0) = false from decide_eq_false h0, ifk_false, hkc]
  rw [hj fun x => .done .normal [.int .i64 a, .int .i64 b, .int .i64 c, .int .u8 (.ofNat 10), .int .u8 (.ofNat 12), .int .i64 (wrapv .i64 (Int.sub a b)), .int .i64 x] h]
  simp only [contk_done, nork_normal, unc_cons, castI_int, nilk'_nil]
  refine (congrArg (fun r => contk r _) (lpk_inv (I := fun w h' m => ∃ i, i ≤ k ∧ m = k - i ∧ h' = h ∧ w = [.int .i64 a, .int .i64 b, .int .i64 c, .int .u8 (.ofNat 10), .int .u8 (.ofNat 12), .int .i64 (wrapv .i64 (Int.sub a b)), .int .i64 (.ofNat k), .int .i64 (wrapv .i64 (Int.mul a (.ofNat (2 ^ i)))), .int .i64 (shrv a (2 ^ i)), .int .i64 (.ofNat i)])
    (Q := (· = .done .normal [.int .i64 a, .int .i64 b, .int .i64 c, .int .u8 (.ofNat 10), .int .u8 (.ofNat 12), .int .i64 (wrapv .i64 (Int.sub a b)), .int .i64 (.ofNat k), .int .i64 (wrapv .i64 (Int.mul a (.ofNat (2 ^ k)))), .int .i64 (shrv a (2 ^ k))] h)) ?_ n _ _ k (by omega) ⟨0, by omega, by omega, rfl, ?_⟩)).trans ?_
  · rintro again w h' m ⟨i, hi, rfl, rfl, rfl⟩ ih
    simp only [unc_cons, castF_int, nilk'_nil, ilt_nat]
    by_cases h4 : i < k
    · rw [show decide (Int.ofNat i < Int.ofNat k) = true from decide_eq_true (Int.ofNat_lt.2 h4), ifk_true]
      simp only [C.two 18 _ _ _ true h' (.shl _ (.ofNat 1) 1 (by omega) rfl), C.two 19 _ _ _ true h' (.shr _ (.ofNat 1) 1 (by omega) rfl), backk_ret, tupk_tup, unc_cons, castI_int, castB_bool, nilk'_nil]
      rw [shl_one, show shrv (shrv a (2 ^ i)) (2 ^ 1) = shrv a (2 ^ (i + 1)) by rw [shrv_eq, shrv_eq, shrv_eq]; exact fdiv_pow a i, add_nat, wrapv_small .i64 _ (show i + 1 ≤ 9223372036854775807 by omega)]
      exact ih _ _ (k - (i + 1)) (by omega) ⟨i + 1, h4, rfl, rfl, rfl⟩
    · obtain rfl : i = k := by omega
      rw [show decide (Int.ofNat i < Int.ofNat i) = false from decide_eq_false (Int.lt_irrefl _), ifk_false]
  · rw [show Int.mul a (.ofNat (2 ^ 0)) = a from Int.mul_one a, w64_id ha, show shrv a (2 ^ 0) = a by rw [shrv_eq]; exact Int.fdiv_one a]
  have add2 : ∀ (x y : Int) h, cf ⟨.d0, .d0, .d1, .d0⟩ [.int .u8 (.ofNat 10), .int .i64 x, .int .i64 y] h = .ret (.int .i64 (wrapv .i64 (Int.add x y))) h := fun x y h => C.reck 10 x y _ true h (.add x y)
  have mul2 : ∀ (x y : Int) h, cf ⟨.d0, .d0, .d1, .d0⟩ [.int .u8 (.ofNat 12), .int .i64 x, .int .i64 y] h = .ret (.int .i64 (wrapv .i64 (Int.mul x y))) h := fun x y h => C.reck 12 x y _ true h (.mul x y)
  simp only [contk_done, nork_normal, unc_cons, castI_int, castB_bool, nilk'_nil, C.two 18 a (.ofNat k) _ true h (.shl a _ k hk (small64 hk)), C.two 19 a (.ofNat k) _ true h (.shr a _ k hk (small64 hk)), C.two 15 a b _ true h (.and a b), C.two 16 a b _ true h (.or a b), C.two 17 a b _ true h (.xor a b), backk_ret, tupk_tup,
    add2, mul2, C.one, ifk_true, pickv_true, intk_int, show Nat.beq (kno .i64) (kno .i64) = true from rfl, show Int.add b a = Int.add a b from Int.add_comm b a, show Int.mul b a = Int.mul a b from Int.mul_comm b a, ieq_same, add_assoc64, mul_add64, sub_add64 ha, sub_opp, and_or, and_xor, not_not ha, hw]
end Go.Ev.W04

/- FUNCTOR: the table of functions of FunctorParts and FunctorLaws; works there; the walks. -/
namespace Go.Ev.W04
open Go.Proofs Go.RowKit
set_option maxRecDepth 100000
noncomputable def tabMz1 : Go.Ev.N PO := ⟨.no, .no, .no, .no, .no, .no, .no, .no, .no, .no, .no, .no, .no, .no, .no, .no⟩
noncomputable def tabMz2 : Go.Ev.N (Go.Ev.N PO) := ⟨tabMz1, tabMz1, tabMz1, tabMz1, tabMz1, tabMz1, tabMz1, tabMz1, tabMz1, tabMz1, tabMz1, tabMz1, tabMz1, tabMz1, tabMz1, tabMz1⟩
noncomputable def tabMz3 : Go.Ev.N (Go.Ev.N (Go.Ev.N PO)) := ⟨tabMz2, tabMz2, tabMz2, tabMz2, tabMz2, tabMz2, tabMz2, tabMz2, tabMz2, tabMz2, tabMz2, tabMz2, tabMz2, tabMz2, tabMz2, tabMz2⟩
noncomputable def tabM1_000 : Go.Ev.N PO := ⟨.no, .no, .no, .no, .sh (sh4 words), .sh (sh5 words), .no, .no, .no, .no, .sh (sh10 words), .no, .sh (sh12 words), .no, .sh (sh14 words), .sh (sh15 words)⟩
noncomputable def tabM1_001 : Go.Ev.N PO := ⟨.sh (sh16 words), .sh (sh17 words), .sh (sh18 words), .sh (sh19 words), .no, .no, .no, .no, .no, .no, .no, .no, .no, .sh (sh29 words), .no, .no⟩
noncomputable def tabM1_002 : Go.Ev.N PO := ⟨.no, .sh (sh33 words), .sh (sh34 words), .no, .sh (sh36 words), .no, .no, .sh (sh39 words), .no, .no, .no, .no, .no, .no, .no, .no⟩
noncomputable def tabM2_00 : Go.Ev.N (Go.Ev.N PO) := ⟨tabM1_000, tabM1_001, tabM1_002, tabMz1, tabMz1, tabMz1, tabMz1, tabMz1, tabMz1, tabMz1, tabMz1, tabMz1, tabMz1, tabMz1, tabMz1, tabMz1⟩
noncomputable def tabM3_0 : Go.Ev.N (Go.Ev.N (Go.Ev.N PO)) := ⟨tabM2_00, tabMz2, tabMz2, tabMz2, tabMz2, tabMz2, tabMz2, tabMz2, tabMz2, tabMz2, tabMz2, tabMz2, tabMz2, tabMz2, tabMz2, tabMz2⟩
noncomputable def tabM : FT := ⟨tabM3_0, tabMz3, tabMz3, tabMz3, tabMz3, tabMz3, tabMz3, tabMz3, tabMz3, tabMz3, tabMz3, tabMz3, tabMz3, tabMz3, tabMz3, tabMz3⟩
noncomputable def tabML : List (Fid × PO) := [(⟨.d0, .d0, .d0, .d4⟩, .sh (sh4 words)), (⟨.d0, .d0, .d0, .d5⟩, .sh (sh5 words)), (⟨.d0, .d0, .d0, .da⟩, .sh (sh10 words)), (⟨.d0, .d0, .d0, .dc⟩, .sh (sh12 words)), (⟨.d0, .d0, .d0, .de⟩, .sh (sh14 words)), (⟨.d0, .d0, .d0, .df⟩, .sh (sh15 words)), (⟨.d0, .d0, .d1, .d0⟩, .sh (sh16 words)), (⟨.d0, .d0, .d1, .d1⟩, .sh (sh17 words)), (⟨.d0, .d0, .d1, .d2⟩, .sh (sh18 words)), (⟨.d0, .d0, .d1, .d3⟩, .sh (sh19 words)), (⟨.d0, .d0, .d1, .dd⟩, .sh (sh29 words)), (⟨.d0, .d0, .d2, .d1⟩, .sh (sh33 words)), (⟨.d0, .d0, .d2, .d2⟩, .sh (sh34 words)), (⟨.d0, .d0, .d2, .d4⟩, .sh (sh36 words)), (⟨.d0, .d0, .d2, .d7⟩, .sh (sh39 words))]
theorem tabM_eq : tabM = FT.of tabML := by kernel_rfl
theorem tabMo4 : POok Tryd.prog 2 4 (.sh (sh4 words)) := .of4 pf4_ok sh4_eq
theorem tabMo5 : POok Tryd.prog 2 5 (.sh (sh5 words)) := .of4 pf5_ok sh5_eq
theorem tabMo10 : POok Tryd.prog 2 10 (.sh (sh10 words)) := .of4 pf10_ok sh10_eq
theorem tabMo12 : POok Tryd.prog 2 12 (.sh (sh12 words)) := .of4 pf12_ok sh12_eq
theorem tabMo14 : POok Tryd.prog 2 14 (.sh (sh14 words)) := .of4 pf14_ok sh14_eq
theorem tabMo15 : POok Tryd.prog 2 15 (.sh (sh15 words)) := .of4 pf15_ok sh15_eq
theorem tabMo16 : POok Tryd.prog 2 16 (.sh (sh16 words)) := .of4 pf16_ok sh16_eq
theorem tabMo17 : POok Tryd.prog 2 17 (.sh (sh17 words)) := .of4 pf17_ok sh17_eq
theorem tabMo18 : POok Tryd.prog 2 18 (.sh (sh18 words)) := .of4 pf18_ok sh18_eq
theorem tabMo19 : POok Tryd.prog 2 19 (.sh (sh19 words)) := .of4 pf19_ok sh19_eq
theorem tabMo29 : POok Tryd.prog 2 29 (.sh (sh29 words)) := .of4 pf29_ok sh29_eq
theorem tabMo33 : POok Tryd.prog 2 33 (.sh (sh33 words)) := .of4 pf33_ok sh33_eq
theorem tabMo34 : POok Tryd.prog 2 34 (.sh (sh34 words)) := .of4 pf34_ok sh34_eq
theorem tabMo36 : POok Tryd.prog 2 36 (.sh (sh36 words)) := .of4 pf36_ok sh36_eq
theorem tabMo39 : POok Tryd.prog 2 39 (.sh (sh39 words)) := .of4 pf39_ok sh39_eq
theorem tabMOk : TabOk Tryd.prog 2 tabM := by
  refine TabOk.of tabM_eq fun x hx => ?_
  simp only [tabML, List.mem_cons, List.not_mem_nil, or_false] at hx
  rcases hx with rfl | rfl | rfl | rfl | rfl | rfl | rfl | rfl | rfl | rfl | rfl | rfl | rfl | rfl | rfl
  · exact tabMo4
  · exact tabMo5
  · exact tabMo10
  · exact tabMo12
  · exact tabMo14
  · exact tabMo15
  · exact tabMo16
  · exact tabMo17
  · exact tabMo18
  · exact tabMo19
  · exact tabMo29
  · exact tabMo33
  · exact tabMo34
  · exact tabMo36
  · exact tabMo39
theorem tabMc4 (m d : Nat) (l : List V) (h : Heap) : call tabM m (d + 1) ⟨.d0, .d0, .d0, .d4⟩ l h = sh4 words m (call tabM m d) l h := by kernel_rfl
theorem tabMc5 (m d : Nat) (l : List V) (h : Heap) : call tabM m (d + 1) ⟨.d0, .d0, .d0, .d5⟩ l h = sh5 words m (call tabM m d) l h := by kernel_rfl
theorem tabMc10 (m d : Nat) (l : List V) (h : Heap) : call tabM m (d + 1) ⟨.d0, .d0, .d0, .da⟩ l h = sh10 words m (call tabM m d) l h := by kernel_rfl
theorem tabMc12 (m d : Nat) (l : List V) (h : Heap) : call tabM m (d + 1) ⟨.d0, .d0, .d0, .dc⟩ l h = sh12 words m (call tabM m d) l h := by kernel_rfl
theorem tabMc14 (m d : Nat) (l : List V) (h : Heap) : call tabM m (d + 1) ⟨.d0, .d0, .d0, .de⟩ l h = sh14 words m (call tabM m d) l h := by kernel_rfl
theorem tabMc15 (m d : Nat) (l : List V) (h : Heap) : call tabM m (d + 1) ⟨.d0, .d0, .d0, .df⟩ l h = sh15 words m (call tabM m d) l h := by kernel_rfl
theorem tabMc16 (m d : Nat) (l : List V) (h : Heap) : call tabM m (d + 1) ⟨.d0, .d0, .d1, .d0⟩ l h = sh16 words m (call tabM m d) l h := by kernel_rfl
theorem tabMc17 (m d : Nat) (l : List V) (h : Heap) : call tabM m (d + 1) ⟨.d0, .d0, .d1, .d1⟩ l h = sh17 words m (call tabM m d) l h := by kernel_rfl
theorem tabMc18 (m d : Nat) (l : List V) (h : Heap) : call tabM m (d + 1) ⟨.d0, .d0, .d1, .d2⟩ l h = sh18 words m (call tabM m d) l h := by kernel_rfl
theorem tabMc19 (m d : Nat) (l : List V) (h : Heap) : call tabM m (d + 1) ⟨.d0, .d0, .d1, .d3⟩ l h = sh19 words m (call tabM m d) l h := by kernel_rfl
theorem tabMc29 (m d : Nat) (l : List V) (h : Heap) : call tabM m (d + 1) ⟨.d0, .d0, .d1, .dd⟩ l h = sh29 words m (call tabM m d) l h := by kernel_rfl
theorem tabMc33 (m d : Nat) (l : List V) (h : Heap) : call tabM m (d + 1) ⟨.d0, .d0, .d2, .d1⟩ l h = sh33 words m (call tabM m d) l h := by kernel_rfl
theorem tabMc34 (m d : Nat) (l : List V) (h : Heap) : call tabM m (d + 1) ⟨.d0, .d0, .d2, .d2⟩ l h = sh34 words m (call tabM m d) l h := by kernel_rfl
theorem tabMc36 (m d : Nat) (l : List V) (h : Heap) : call tabM m (d + 1) ⟨.d0, .d0, .d2, .d4⟩ l h = sh36 words m (call tabM m d) l h := by kernel_rfl
theorem tabMc39 (m d : Nat) (l : List V) (h : Heap) : call tabM m (d + 1) ⟨.d0, .d0, .d2, .d7⟩ l h = sh39 words m (call tabM m d) l h := by kernel_rfl
theorem runM : ∃ t0 t1, (Wf t0 1 256 ∧ ∀ j, t0.cell 1 j = firstL[j]?) ∧ (Wf t1 1 32 ∧ ∀ j, t1.cell 1 j = acceptL[j]?) ∧ yes (call tabM NN 6 ⟨.d0, .d0, .d0, .de⟩ [] (doorHeap (.arr 1 256 t0 true) (.arr 1 32 t1 true))) = true := by
  obtain ⟨t0, h1, h2, h3⟩ := chopk_law (g := 1) (by omega) (wf_e (by omega)) (l := firstL) (m := 256) (by kernel_rfl)
  obtain ⟨t1, g1, g2, g3⟩ := chopk_law (g := 1) (by omega) (wf_e (by omega)) (l := acceptL) (m := 32) (by kernel_rfl)
  refine ⟨t0, t1, ⟨by simpa using h2, fun j => by simpa using h3 j⟩, ⟨by simpa using g2, fun j => by simpa using g3 j⟩, ?_⟩
  have e : chopk 1 256 0 firstL .e (fun t0 => chopk 1 32 0 acceptL .e fun t1 => call tabM NN 6 ⟨.d0, .d0, .d0, .de⟩ [] (doorHeap (.arr 1 256 t0 true) (.arr 1 32 t1 true))) = call tabM NN 6 ⟨.d0, .d0, .d0, .de⟩ [] (doorHeap (.arr 1 256 t0 true) (.arr 1 32 t1 true)) := by
    rw [h1, g1]
  exact (congrArg yes e).symm.trans (by kernel_rfl)
theorem doorM {W : World} (L : laidMet Tryd.prog laid04 W) : ∃ ρ h h', Door W firstL ρ h ∧ GlobR ρ 2 ∧ call tabM NN 6 ⟨.d0, .d0, .d0, .de⟩ [] h = .ret (.bool true) h' := by
  obtain ⟨S, B⟩ := accept_holds L
  obtain ⟨t0, t1, ⟨w0, c0⟩, ⟨w1, c1⟩, hy⟩ := runM
  obtain ⟨d, _⟩ := door2_at (first_holds L) B (by omega) (t0 := t0) (t1 := t1) (firstLen.symm ▸ w0) c0 (acceptLen.symm ▸ w1) c1
  obtain ⟨h', e⟩ := yes_ok hy
  rw [firstLen, acceptLen] at d
  exact ⟨_, _, h', d, glob2, e⟩
theorem partsM0 (d : Nat) : ∀ op (a : Int) h, call tabM NN (d + 1) ⟨.d0, .d0, .d1, .dd⟩ [.int .u8 (.ofNat op), .int .i64 a, .int .i64 (.ofNat 0)] h = .ret (.tup [.int .i64 (.ofNat 0), .bool false]) h := fun op a h => by rw [tabMc29]; exact parts_zero
theorem callM (d : Nat) : CallS (call tabM NN (d + 2)) where
  two op a b r ok h t := by
    rw [tabMc10]
    cases t with
    | add => exact two_add
    | sub => exact two_sub0.trans (by rw [show Int.sub (.ofNat 0) b = Int.sub 0 b from rfl, add_opp])
    | mul => exact two_mul
    | div0 => exact via _ _ _ (partsM0 d 13 a h)
    | rem0 => exact via _ _ _ (partsM0 d 14 a h)
    | div _ _ hb => exact via _ _ _ ((tabMc29 _ d _ _).trans (parts_div hb))
    | rem _ _ hb => exact via _ _ _ ((tabMc29 _ d _ _).trans (parts_rem hb))
    | and => exact two_and
    | or => exact two_or
    | xor => exact two_xor
    | shl _ _ k hk e => exact two_shl k hk e
    | shr _ _ k hk e => exact two_shr k hk e
    | no _ _ _ hop => exact two_no hop
  size x h := by rw [tabMc15]; exact size_law
theorem callL (d : Nat) : CallL (call tabM NN (d + 3)) where
  toCallS := callM (d + 1)
  reck op a b r ok h t := by rw [tabMc16]; exact reck_law (callM d) t
  one op a h := by rw [tabMc12]; exact one_law
theorem walk4 {W : World} (L : laidMet Tryd.prog laid04 W) {a b : Int} (ha : In64 a) (hb : In64 b) :
    Calls Tryd.prog 4 #[.int .i64 a, .int .i64 b] W fun e w' => e = .returned (.bool true) ∧ Below W.heap.size W w' := by
  obtain ⟨ρ, h, h', d, g, hw⟩ := doorM L
  have e : sh4 words NN (call tabM NN 6) [.int .i64 a, .int .i64 b] h = .ret (.bool true) h' := by
    by_cases h0 : b = 0
    · subst h0; exact parts0_law (callM 4) hw
    · exact parts_law (callM 4) ha hb h0 hw
  rw [← tabMc4] at e
  obtain ⟨_, c⟩ := call_ok tabMOk (n := NN) 7 ⟨.d0, .d0, .d0, .d4⟩ _ _ _ e (by simp)
  exact (c ρ W [.int .i64 a, .int .i64 b] (.cons (.int .i64 _) (.cons (.int .i64 _) .nil)) d.rh g).mono fun e w' hc => d.below hc
theorem walk5 {W : World} (L : laidMet Tryd.prog laid04 W) {a b c : Int} (ha : In64 a) (_ : In64 b) (_ : In64 c) :
    Calls Tryd.prog 5 #[.int .i64 a, .int .i64 b, .int .i64 c] W fun e w' => e = .returned (.bool true) ∧ Below W.heap.size W w' := by
  obtain ⟨ρ, h, h', d, g, hw⟩ := doorM L
  have e := laws_law (n := NN) (callL 3) (by decide) (b := b) (c := c) ha hw
  rw [← tabMc5] at e
  obtain ⟨_, cc⟩ := call_ok tabMOk (n := NN) 7 ⟨.d0, .d0, .d0, .d5⟩ _ _ _ e (by simp)
  exact (cc ρ W [.int .i64 a, .int .i64 b, .int .i64 c] (.cons (.int .i64 _) (.cons (.int .i64 _) (.cons (.int .i64 _) .nil))) d.rh g).mono fun e w' hc => d.below hc
end Go.Ev.W04
