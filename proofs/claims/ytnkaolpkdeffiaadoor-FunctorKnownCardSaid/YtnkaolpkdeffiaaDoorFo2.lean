/- Fo2: texts joined. -/
import Derived.Test.YtnkaolpkdeffiaaDoorFo1
import Derived.Test.YtnkaolpkdeffiaaDoorFnX
/- FUNCTOR: DecodeRuneInString. -/
namespace Go.Ev.W04
open Go.Proofs Go.Lib
set_option maxRecDepth 100000
variable {n : Nat} {cf : CF} {h : Heap}

theorem first_at {b : Nat} (hb : b < 256) : firstL[b]? = some (bV (firstT b)) := by
  have e : firstL = (List.range 256).map fun b => bV (firstT b) := by kernel_rfl
  rw [e, List.getElem?_map, List.getElem?_range hb]; rfl
theorem accept_at {m : Nat} (hm : m < 16) : (acceptL.drop (m * 2)).take 2 = [bV (accLo m), bV (accHi m)] := by
  have : m = 0 ∨ m = 1 ∨ m = 2 ∨ m = 3 ∨ m = 4 ∨ m = 5 ∨ m = 6 ∨ m = 7 ∨ m = 8 ∨ m = 9 ∨ m = 10 ∨ m = 11 ∨ m = 12 ∨ m = 13 ∨ m = 14 ∨ m = 15 := by omega
  rcases this with rfl | rfl | rfl | rfl | rfl | rfl | rfl | rfl | rfl | rfl | rfl | rfl | rfl | rfl | rfl | rfl <;> rfl
/-- the mask: as the program makes it -/
noncomputable def mskE (b x : Nat) : Int := bor .i32 (bano .i32 (wrapv .i32 (.ofNat b)) (shrv (wrapv .i32 (Int.mul (wrapv .i32 (.ofNat x)) (.ofNat 2147483648))) 2147483648)) (band .i32 (.ofNat 65533) (shrv (wrapv .i32 (Int.mul (wrapv .i32 (.ofNat x)) (.ofNat 2147483648))) 2147483648))
theorem mskE_all : ((List.range 256).all fun b => (firstT b != 240 || ieq (mskE b (firstT b)) (.ofNat b)) && (firstT b != 241 || ieq (mskE b (firstT b)) (.ofNat 65533))) = true := by kernel_rfl
theorem mskE_240 {b : Nat} (hb : b < 256) (h : firstT b = 240) : mskE b (firstT b) = .ofNat b := by
  have := List.all_eq_true.1 mskE_all b (List.mem_range.2 hb)
  rw [Bool.and_eq_true, Bool.or_eq_true, h] at this
  have h1 := this.1.resolve_left (by decide)
  rw [ieq_eq] at h1
  rw [h]; simpa using h1
theorem mskE_241 {b : Nat} (hb : b < 256) (h : firstT b = 241) : mskE b (firstT b) = .ofNat 65533 := by
  have := List.all_eq_true.1 mskE_all b (List.mem_range.2 hb)
  rw [Bool.and_eq_true, Bool.or_eq_true, Bool.or_eq_true, h] at this
  have h1 := this.2.resolve_left (by decide)
  rw [ieq_eq] at h1
  rw [h]; simpa using h1
theorem firstT_ge {b : Nat} (h : ¬ firstT b < 240) : firstT b = 240 ∨ firstT b = 241 := by
  unfold firstT at *
  repeat' split at h
  all_goals first | omega | (repeat' split) <;> omega
theorem firstT_sz {b : Nat} (h : firstT b < 240) : 2 ≤ firstT b % 8 ∧ firstT b % 8 ≤ 4 ∧ firstT b / 16 < 16 := by
  rcases firstT_low h with h | h | h | h | h | h | h
  · rw [firstT_C2 h]; decide
  · rw [firstT_E0 h]; decide
  · rw [firstT_E1 h]; decide
  · rw [firstT_ED h]; decide
  · rw [firstT_F0 h]; decide
  · rw [firstT_F1 h]; decide
  · rw [firstT_F4 h]; decide
theorem and_mod (b k : Nat) : b &&& (2 ^ k - 1) = b % 2 ^ k := Nat.and_two_pow_sub_one_eq_mod b k
theorem bandm {b m k : Nat} (hb : b < 256) (hm : m = 2 ^ k - 1) (h8 : m < 256) : band .u8 (.ofNat b) (.ofNat m) = .ofNat (b % 2 ^ k) := by
  rw [band_small .u8 _ _ (show b ≤ 255 by omega) (show m ≤ 255 by omega), hm, and_mod]
theorem or_add (a c k : Nat) (hc : c < 2 ^ k) : (a * 2 ^ k) ||| c = a * 2 ^ k + c := by
  rw [← Nat.shiftLeft_eq, Nat.shiftLeft_add_eq_or_of_lt hc]
theorem bor_add {a c k s : Nat} (hc : c < 2 ^ k) (hs : s = a * 2 ^ k) (hl : s ≤ 2147483647) (hc' : c ≤ 2147483647) : bor .i32 (.ofNat s) (.ofNat c) = .ofNat (s + c) := by
  rw [bor_small .i32 _ _ hl hc', hs, or_add a c k hc]
theorem w32 {m : Nat} (h : m ≤ 2147483647) : wrapv .i32 (.ofNat m) = .ofNat m := wrapv_small .i32 _ h
theorem row_two : Row (.arr 2 1 (repT [.int .u8 (.ofNat 0), .int .u8 (.ofNat 0)] 1 1) false) 2 [bV 0, bV 0] := by
  have := Row.rep [V.int .u8 (.ofNat 0), .int .u8 (.ofNat 0)] (by decide) 1
  exact this
theorem slow_law {bs : List Nat} (hb : Bytes bs) (hne : bs ≠ []) (hl' : bs.length ≤ 1000000) (t : Tabs h) :
    ∃ h', Up h h' ∧ sh39 words n cf [.str bs.length (packN bs)] h = .ret (.tup [.int .i32 (.ofNat (dc bs).1), .int .i64 (.ofNat (dc bs).2)]) h' := by
  have hpos : 0 < bs.length := List.length_pos_iff.2 hne
  have hg : ∀ i, i < bs.length → bs.getD i 0 = bs[i]! := fun i hi => by rw [List.getD_eq_getElem?_getD, getElem!_def]; simp [hi]
  have h0 : bs[0] = bs.getD 0 0 := by rw [List.getD_eq_getElem?_getD, List.getElem?_eq_getElem hpos]; rfl
  unfold dc
  have l0 := getD_lt hb 0
  have l1 := getD_lt hb 1
  have l2 := getD_lt hb 2
  have l3 := getD_lt hb 3
  unfold sh39
  simp only [unc_cons, castS_str, nilk'_nil, ilt_nat]
  rw [show decide (bs.length < 1) = false from decide_eq_false (by omega), ifk_false, idxS_law hb hpos, h0]
  have e1 : ∀ i, i < bs.length → ∀ (hi : i < bs.length), bs[i] = bs.getD i 0 := fun i _ hi => by rw [List.getD_eq_getElem?_getD, List.getElem?_eq_getElem hi]; rfl
  generalize hb1 : bs.getD 1 0 = b1 at l1 ⊢
  generalize hb2 : bs.getD 2 0 = b2 at l2 ⊢
  generalize hb3 : bs.getD 3 0 = b3 at l3 ⊢
  generalize hb0 : bs.getD 0 0 = b0 at l0 ⊢
  have ld0 : ∀ K, words.load1 h gb0 (Nat.add 0 b0) K = K (bV (firstT b0)) := fun K => by
    rw [show Nat.add 0 b0 = b0 from Nat.zero_add b0]
    exact load1k_law t.first (first_at l0) K
  simp only [bV, castI_int, natk_ofNat, blt_of l0, ifk_true]
  rw [ld0]
  simp only [bV, castI_int, ilt_nat]
  by_cases hx : firstT b0 < 240
  · obtain ⟨z1, z2, z3⟩ := firstT_sz hx
    have hx' : firstT b0 < 256 := by omega
    rw [decide_eq_true hx, Bool.not_true, ifk_false, shrv_nat, natk_ofNat, blt_of z3, ifk_true]
    have hse := slow_eq bs.length b0 b1 b2 b3 hpos l1 l2 l3 hx
    have ld1 : ∀ K, words.load h gb1 (Nat.add 0 (Nat.mul (firstT b0 / 16) 2)) 2 K = K [bV (accLo (firstT b0 / 16)), bV (accHi (firstT b0 / 16))] := fun K => by
      rw [show Nat.add 0 (Nat.mul (firstT b0 / 16) 2) = firstT b0 / 16 * 2 from Nat.zero_add _]
      refine (loadk_law t.accept (show firstT b0 / 16 * 2 + 2 ≤ acceptL.length by rw [acceptLen]; omega) K).trans ?_
      rw [accept_at z3]
    rw [ld1]
    have hsz : wrapv .i64 (band .u8 (.ofNat (firstT b0)) (.ofNat 7)) = .ofNat (firstT b0 % 8) := by
      rw [bandm hx' (show 7 = 2 ^ 3 - 1 from rfl) (by decide), wrapv_small .i64 _ (show firstT b0 % 2 ^ 3 ≤ 9223372036854775807 by omega)]
    generalize firstT b0 % 8 = sz at *
    generalize accLo (firstT b0 / 16) = lo at *
    generalize accHi (firstT b0 / 16) = hi at *
    obtain ⟨h1, k1, g1, n1⟩ := newk_law h (.arr 2 1 (repT [.int .u8 (.ofNat 0), .int .u8 (.ofNat 0)] 1 1) false)
    have r1 : Row (h1.t.get h.nx) 2 [bV 0, bV 0] := by rw [g1]; exact row_two
    obtain ⟨h2, s1, s2, s3⟩ := storek_law r1 (o := 0) (n := 2) (vs := [bV lo, bV hi]) rfl (by decide)
    have up : Up h h2 := ((n1.up.to (Nat.le_refl _)).trans (s3.up (Nat.le_refl _))).up
    have e2 : ∀ K, words.new h (.arr 2 1 (repT [.int .u8 (.ofNat 0), .int .u8 (.ofNat 0)] 1 1) .false) K = K h.nx h1 := k1
    have e3 : ∀ K, words.store h1 h.nx 0 2 [.int .u8 (.ofNat lo), .int .u8 (.ofNat hi)] K = K h2 := s1
    have e4 : ∀ K, words.load1 h2 h.nx 0 K = K (.int .u8 (.ofNat lo)) := fun K => load1k_law s2 rfl K
    have e5 : ∀ K, words.load1 h2 h.nx 1 K = K (.int .u8 (.ofNat hi)) := fun K => load1k_law s2 rfl K
    simp only [unc_cons, bV, castI_int, nilk'_nil, e2, e3, hsz, ilt_nat]
    refine ⟨h2, up, ?_⟩
    unfold slowN at hse
    by_cases c0 : bs.length < sz
    · rw [if_pos c0] at hse
      rw [decide_eq_true c0, ifk_true, ← hse]
    rw [if_neg c0] at hse
    rw [decide_eq_false c0, ifk_false, idxS_law hb (show 1 < bs.length by omega), e1 1 (by omega) (by omega), hb1]
    simp only [bV, castI_int, e4, ilt_nat]
    have no1 : ∀ {K : V → Heap → Res}, K (.tup [.int .i32 (.ofNat 65533), .int .i64 (.ofNat 1)]) h2 = K (.tup [.int .i32 (.ofNat (65533, 1).1), .int .i64 (.ofNat (65533, 1).2)]) h2 := rfl
    by_cases c1 : b1 < lo
    · rw [if_pos (.inl c1)] at hse
      simp only [decide_eq_true c1, Bool.not_true, ifk_false, backk_ret, pickv_true, castB_bool, ifk_true, ← hse]
    by_cases c2 : hi < b1
    · rw [if_pos (.inr c2)] at hse
      simp only [decide_eq_false c1, Bool.not_false, ifk_true, backk_ret, ptrk_ptr, e5, castI_int, intk_int, show Nat.beq (kno .u8) (kno .u8) = true from rfl, ilt_nat, decide_eq_true c2, pickv_false, castB_bool, ← hse]
    rw [if_neg (fun hx => hx.elim c1 c2)] at hse
    simp only [decide_eq_false c1, Bool.not_false, ifk_true, backk_ret, ptrk_ptr, e5, castI_int, intk_int, show Nat.beq (kno .u8) (kno .u8) = true from rfl, ilt_nat, decide_eq_false c2, pickv_false, castB_bool, ifk_false]
    have m31 : band .u8 (.ofNat b0) (.ofNat 31) = .ofNat (b0 % 32) := bandm l0 (k := 5) rfl (by decide)
    have m15 : band .u8 (.ofNat b0) (.ofNat 15) = .ofNat (b0 % 16) := bandm l0 (k := 4) rfl (by decide)
    have m7 : band .u8 (.ofNat b0) (.ofNat 7) = .ofNat (b0 % 8) := bandm l0 (k := 3) rfl (by decide)
    have m63 : ∀ {b : Nat}, b < 256 → band .u8 (.ofNat b) (.ofNat 63) = .ofNat (b % 64) := fun hb => bandm hb (k := 6) rfl (by decide)
    by_cases c3 : sz ≤ 2
    · rw [if_pos c3] at hse
      rw [show decide (2 < sz) = false from decide_eq_false (by omega), Bool.not_false, ifk_true, m31, m63 l1, w32 (by omega), mul_nat, w32 (by omega), w32 (by omega), bor_add (a := b0 % 32) (k := 6) (by omega) rfl (by omega) (by omega), ← hse]
    rw [if_neg c3] at hse
    rw [show decide (2 < sz) = true from decide_eq_true (by omega), Bool.not_true, ifk_false, idxS_law hb (show 2 < bs.length by omega), e1 2 (by omega) (by omega), hb2]
    simp only [bV, castI_int, ilt_nat]
    by_cases c4 : b2 < 128
    · rw [if_pos (.inl c4)] at hse
      simp only [decide_eq_true c4, Bool.not_true, ifk_false, backk_ret, pickv_true, castB_bool, ifk_true, ← hse]
    by_cases c5 : 191 < b2
    · rw [if_pos (.inr c5)] at hse
      simp only [decide_eq_false c4, Bool.not_false, ifk_true, backk_ret, intk_int, show Nat.beq 4 (kno .u8) = true from rfl, ilt_nat, decide_eq_true c5, pickv_false, castB_bool, ← hse]
    rw [if_neg (fun hx => hx.elim c4 c5)] at hse
    simp only [decide_eq_false c4, Bool.not_false, ifk_true, backk_ret, intk_int, show Nat.beq 4 (kno .u8) = true from rfl, ilt_nat, decide_eq_false c5, pickv_false, castB_bool, ifk_false]
    by_cases c6 : sz ≤ 3
    · rw [if_pos c6] at hse
      rw [show decide (3 < sz) = false from decide_eq_false (by omega), Bool.not_false, ifk_true, m15, m63 l1, m63 l2, w32 (by omega), mul_nat, w32 (by omega), w32 (by omega), mul_nat, w32 (by omega), w32 (by omega), bor_add (a := b0 % 16) (k := 12) (by omega) rfl (by omega) (by omega),
        bor_add (a := b0 % 16 * 64 + b1 % 64) (k := 6) (by omega) (by omega) (by omega) (by omega), ← hse]
    rw [if_neg c6] at hse
    rw [show decide (3 < sz) = true from decide_eq_true (by omega), Bool.not_true, ifk_false, idxS_law hb (show 3 < bs.length by omega), e1 3 (by omega) (by omega), hb3]
    simp only [bV, castI_int, ilt_nat]
    by_cases c7 : b3 < 128
    · rw [if_pos (.inl c7)] at hse
      simp only [decide_eq_true c7, Bool.not_true, ifk_false, backk_ret, pickv_true, castB_bool, ifk_true, ← hse]
    by_cases c8 : 191 < b3
    · rw [if_pos (.inr c8)] at hse
      simp only [decide_eq_false c7, Bool.not_false, ifk_true, backk_ret, intk_int, show Nat.beq 4 (kno .u8) = true from rfl, ilt_nat, decide_eq_true c8, pickv_false, castB_bool, ← hse]
    rw [if_neg (fun hx => hx.elim c7 c8)] at hse
    simp only [decide_eq_false c7, Bool.not_false, ifk_true, backk_ret, intk_int, show Nat.beq 4 (kno .u8) = true from rfl, ilt_nat, decide_eq_false c8, pickv_false, castB_bool, ifk_false]
    rw [m7, m63 l1, m63 l2, m63 l3, w32 (by omega), mul_nat, w32 (by omega), w32 (by omega), mul_nat, w32 (by omega), w32 (by omega), mul_nat, w32 (by omega), w32 (by omega), bor_add (a := b0 % 8) (k := 18) (by omega) rfl (by omega) (by omega),
      bor_add (a := b0 % 8 * 64 + b1 % 64) (k := 12) (by omega) (by omega) (by omega) (by omega), bor_add (a := (b0 % 8 * 64 + b1 % 64) * 64 + b2 % 64) (k := 6) (by omega) (by omega) (by omega) (by omega), ← hse]
  · rw [decide_eq_false hx, Bool.not_false, ifk_true, idxS_law hb hpos, h0, hb0]
    refine ⟨h, .refl h, ?_⟩
    simp only [bV, castI_int]
    rcases firstT_ge hx with e | e
    · rw [ascii_eq bs.length b0 b1 b2 b3 e]
      exact congrArg (fun x => Res.ret (.tup [.int .i32 x, .int .i64 (.ofNat 1)]) h) (mskE_240 l0 e)
    · rw [bad_eq bs.length b0 b1 b2 b3 l0 e]
      exact congrArg (fun x => Res.ret (.tup [.int .i32 x, .int .i64 (.ofNat 1)]) h) (mskE_241 l0 e)
structure CallSlow (cf : CF) : Prop where
  slow : ∀ bs h, Bytes bs → bs ≠ [] → bs.length ≤ 1000000 → Tabs h → ∃ h', Up h h' ∧ cf ⟨.d0, .d0, .d2, .d7⟩ [.str bs.length (packN bs)] h = .ret (.tup [.int .i32 (.ofNat (dc bs).1), .int .i64 (.ofNat (dc bs).2)]) h'
/-- DecodeRuneInString -/
theorem decode_law (C : CallSlow cf) {bs : List Nat} (hb : Bytes bs) (hne : bs ≠ []) (hl' : bs.length ≤ 1000000) (t : Tabs h) :
    ∃ h', Up h h' ∧ sh36 words n cf [.str bs.length (packN bs)] h = .ret (.tup [.int .i32 (.ofNat (dc bs).1), .int .i64 (.ofNat (dc bs).2)]) h' := by
  have hpos : 0 < bs.length := List.length_pos_iff.2 hne
  have hseq : seq bs.length (packN bs) 0 0 = false := (seq_pack (m := []) hb (by simp)).trans (decide_eq_false hne)
  have h0 : bs[0] = bs.getD 0 0 := by rw [List.getD_eq_getElem?_getD, List.getElem?_eq_getElem hpos]; rfl
  have l0 := getD_lt hb 0
  unfold sh36
  simp only [unc_cons, castS_str, nilk'_nil, hseq, Bool.not_false, ifk_true, backk_ret, idxS_law hb hpos, h0]
  generalize hb0 : bs.getD 0 0 = b0 at *
  simp only [bV, castI_int, backk_ret, intk_int, show Nat.beq (kno .u8) 4 = true from rfl, ifk_true, ilt_nat, pickv_true, castB_bool]
  by_cases h1 : b0 < 128
  · rw [decide_eq_true h1, ifk_true, w32 (by omega)]
    refine ⟨h, .refl h, ?_⟩
    have : dc bs = (b0, 1) := by unfold dc; rw [hb0]; unfold decodeN; rw [if_pos h1]
    rw [this]
  · obtain ⟨h', u, e⟩ := C.slow bs h hb hne hl' t
    rw [decide_eq_false h1, ifk_false, e]
    exact ⟨h', u, rfl⟩
end Go.Ev.W04

/- FUNCTOR: skip, Cut, Code, and the document's. -/
namespace Go.Ev.W04
open Go.Proofs
set_option maxRecDepth 100000
variable {n : Nat} {cf : CF} {h : Heap}

/-- what skip answers -/
noncomputable def skipR (bs : List Nat) (m : Int) : Nat × Bool := if 0 ≤ m ∧ m.toNat ≤ runes bs then (plc m.toNat bs, true) else (0, false)
structure CallDec (cf : CF) : Prop where
  dec : ∀ bs h, Bytes bs → bs ≠ [] → bs.length ≤ 1000000 → Tabs h → ∃ h', Up h h' ∧ cf ⟨.d0, .d0, .d2, .d4⟩ [.str bs.length (packN bs)] h = .ret (.tup [.int .i32 (.ofNat (dc bs).1), .int .i64 (.ofNat (dc bs).2)]) h'
theorem skip_law (C : CallDec cf) {bs : List Nat} (hb : Bytes bs) (hl : bs.length < n) (hl' : bs.length ≤ 1000000) (t : Tabs h) {m : Int} (hm : In64 m) :
    ∃ h', Up h h' ∧ sh34 words n cf [.str bs.length (packN bs), .int .i64 m] h = .ret (.tup [.int .i64 (.ofNat (skipR bs m).1), .bool (skipR bs m).2]) h' := by
  have hrun := runes_le (Nat.le_refl bs.length)
  unfold In64 at hm
  unfold sh34
  simp only [unc_cons, castS_str, castI_int, nilk'_nil]
  by_cases h0 : 0 ≤ m
  · obtain ⟨M, rfl⟩ : ∃ M : Nat, m = .ofNat M := ⟨m.toNat, (Int.toNat_of_nonneg h0).symm⟩
    have hM : M ≤ 9223372036854775807 := by have := hm.2; simp only [Int.ofNat_eq_natCast] at this; omega
    refine contk_lpk (P := fun r => ∃ h', Up h h' ∧ r = .ret (.tup [.int .i64 (.ofNat (skipR bs (.ofNat M)).1), .bool (skipR bs (.ofNat M)).2]) h')
      (I := fun w h' m => ∃ k, k ≤ runes bs ∧ k ≤ M ∧ m = runes bs - k ∧ w = [.str bs.length (packN bs), .int .i64 (.ofNat (M - k)), .int .i64 (.ofNat (plc k bs))] ∧ Up h h')
      (Q := fun r => ∃ h', Up h h' ∧ ((M ≤ runes bs ∧ r = .done .normal [.int .i64 (.ofNat 0), .und, .und, .int .i64 (.ofNat (plc M bs))] h') ∨ (¬ M ≤ runes bs ∧ ∃ a b, r = .done .ret [.int .i64 a, .int .i64 (.ofNat 0), .bool false, .int .i64 b] h')))
      (runes bs) ?_ (show runes bs < n by omega) ⟨0, by omega, by omega, rfl, rfl, .refl h⟩ ?_
    · rintro again w h' m ⟨k, hk, hkM, rfl, rfl, u⟩ ih
      simp only [unc_cons, castS_str, castF_int, nilk'_nil, ilt_nat]
      by_cases h4 : k < M
      · rw [show decide (0 < M - k) = true from decide_eq_true (by omega), ifk_true, ieq_nat]
        by_cases h5 : k < runes bs
        · have hlt := (plc_lt hk).2 h5
          rw [show decide (plc k bs = bs.length) = false from decide_eq_false (by omega), ifk_false, sliceS_law hb (i := plc k bs) (j := bs.length) (by omega) (Nat.le_refl _) (fun k => rfl) (fun k => rfl)]
          rw [List.take_length]
          have hne : bs.drop (plc k bs) ≠ [] := fun e => by have := (drop_nil hk).1 e; omega
          obtain ⟨h2, u2, c2⟩ := C.dec (bs.drop (plc k bs)) h' (hb.drop _) hne (by rw [List.length_drop]; omega) (t.up u)
          have hw := dc_w hne
          rw [List.length_drop] at hw
          simp only [castS_sV, c2, backk_ret, tupk_tup, unc_cons, castI_int, nilk'_nil]
          rw [show Int.sub (.ofNat (M - k)) (.ofNat 1) = .ofNat (M - (k + 1)) by show ((M - k : Nat) : Int) - 1 = ((M - (k + 1) : Nat) : Int); omega, wrapv_small .i64 _ (show M - (k + 1) ≤ 9223372036854775807 by omega), add_nat, wrapv_small .i64 _ (show plc k bs + _ ≤ 9223372036854775807 by omega), plc_next h5]
          exact ih _ _ (runes bs - (k + 1)) (by omega) ⟨k + 1, h5, h4, rfl, rfl, u.trans u2⟩
        · obtain rfl : k = runes bs := by omega
          rw [show decide (plc (runes bs) bs = bs.length) = true from decide_eq_true (plc_all (Nat.le_refl _)), ifk_true]
          exact ⟨h', u, .inr ⟨by omega, _, _, rfl⟩⟩
      · obtain rfl : k = M := by omega
        rw [show decide (0 < k - k) = false from decide_eq_false (by omega), ifk_false, Nat.sub_self]
        exact ⟨h', u, .inl ⟨hk, rfl⟩⟩
    · rintro r ⟨h', u, hr⟩
      refine ⟨h', u, ?_⟩
      unfold skipR
      rcases hr with ⟨h1, rfl⟩ | ⟨h1, a, b, rfl⟩
      · simp only [contk_done, unc_cons, castI_int, nilk'_nil, nork_normal]
        rw [if_pos ⟨h0, h1⟩]; rfl
      · simp only [contk_done, unc_cons, castI_int, nilk'_nil, nork_ret, endk_ret]
        rw [if_neg (fun hx => h1 hx.2)]
  · refine ⟨h, .refl h, ?_⟩
    obtain ⟨k, rfl⟩ : ∃ k, n = k + 1 := ⟨n - 1, by omega⟩
    rw [lpk_succ]
    simp only [unc_cons, castS_str, castF_int, nilk'_nil, ilt_eq]
    rw [show decide (Int.ofNat 0 < m) = false from decide_eq_false (by simp only [Int.ofNat_eq_natCast]; omega), ifk_false]
    simp only [contk_done, unc_cons, castI_int, nilk'_nil, nork_normal]
    unfold skipR
    rw [if_neg (fun hx => h0 hx.1), ieq_ne (show m ≠ .ofNat 0 by intro e; rw [e] at h0; exact h0 (by decide))]

/-- what Cut answers -/
noncomputable def cutR (bs : List Nat) (a m : Int) : List Nat × Bool :=
  if (0 ≤ a ∧ 0 ≤ m) ∧ a.toNat + m.toNat ≤ runes bs then ((bs.take (plc (a.toNat + m.toNat) bs)).drop (plc a.toNat bs), true) else ([], false)
theorem plc_mono {k m : Nat} {bs : List Nat} (h : k ≤ runes bs) : plc k bs ≤ plc (k + m) bs := by rw [plc_add k m bs h]; omega
structure CallSkip (cf : CF) : Prop where
  skip : ∀ bs m h, Bytes bs → bs.length ≤ 20000 → Tabs h → In64 m → ∃ h', Up h h' ∧ cf ⟨.d0, .d0, .d2, .d2⟩ [.str bs.length (packN bs), .int .i64 m] h = .ret (.tup [.int .i64 (.ofNat (skipR bs m).1), .bool (skipR bs m).2]) h'
theorem cut_law (C : CallSkip cf) {bs : List Nat} (hb : Bytes bs) (hl : bs.length ≤ 20000) (t : Tabs h) {a m : Int} (ha : In64 a) (hm : In64 m) :
    ∃ h', Up h h' ∧ sh19 words n cf [.str bs.length (packN bs), .int .i64 a, .int .i64 m] h = .ret (.tup [sV (cutR bs a m).1, .bool (cutR bs a m).2]) h' := by
  obtain ⟨h1, u1, c1⟩ := C.skip bs a h hb hl t ha
  unfold sh19
  simp only [unc_cons, castS_str, castI_int, nilk'_nil, c1, backk_ret, tupk_tup, castB_bool]
  unfold skipR
  by_cases hA : 0 ≤ a ∧ a.toNat ≤ runes bs
  · rw [if_pos hA]
    have hp := plc_le a.toNat bs
    simp only [Bool.not_true, ifk_false]
    rw [sliceS_law hb (i := plc a.toNat bs) (j := bs.length) hp (Nat.le_refl _) (fun k => rfl) (fun k => rfl), List.take_length]
    obtain ⟨h2, u2, c2⟩ := C.skip (bs.drop (plc a.toNat bs)) m h1 (hb.drop _) (by rw [List.length_drop]; omega) (t.up u1) hm
    simp only [castS_sV, c2, backk_ret, tupk_tup, unc_cons, castI_int, castB_bool, nilk'_nil]
    unfold skipR cutR
    rw [runes_drop a.toNat bs hA.2]
    by_cases hM : 0 ≤ m ∧ m.toNat ≤ runes bs - a.toNat
    · have hle : a.toNat + m.toNat ≤ runes bs := by omega
      have hp2 := plc_le (a.toNat + m.toNat) bs
      have hadd := plc_add a.toNat m.toNat bs hA.2
      rw [if_pos hM, if_pos ⟨⟨hA.1, hM.1⟩, hle⟩]
      simp only [Bool.not_true, ifk_false]
      rw [add_nat, ← hadd, wrapv_small .i64 _ (show plc (a.toNat + m.toNat) bs ≤ 9223372036854775807 by omega),
        sliceS_law hb (i := plc a.toNat bs) (j := plc (a.toNat + m.toNat) bs) (plc_mono hA.2) hp2 (fun k => rfl) (fun k => rfl)]
      exact ⟨h2, u1.trans u2, rfl⟩
    · rw [if_neg hM, if_neg (fun hx => hM ⟨hx.1.2, by omega⟩)]
      exact ⟨h2, u1.trans u2, rfl⟩
  · rw [if_neg hA]
    unfold cutR
    rw [if_neg (fun hx => hA ⟨hx.1.1, by omega⟩)]
    exact ⟨h1, u1, rfl⟩
/-- what Code answers -/
theorem code_law (C : CallDec cf) {bs : List Nat} (hb : Bytes bs) (hl : bs.length ≤ 20000) (t : Tabs h) :
    ∃ h', Up h h' ∧ sh21 words n cf [.str bs.length (packN bs)] h = .ret (.tup [.int .i64 (.ofNat (if bs = [] then 0 else (dc bs).1)), .bool (decide (bs ≠ []))]) h' := by
  have hseq : seq bs.length (packN bs) 0 0 = decide (bs = []) := seq_pack (m := []) hb (by simp)
  unfold sh21
  simp only [unc_cons, castS_str, nilk'_nil, hseq]
  by_cases hbs : bs = []
  · rw [decide_eq_true hbs, ifk_true, if_pos hbs, show decide (bs ≠ []) = false from decide_eq_false (fun h => h hbs)]
    exact ⟨h, .refl h, rfl⟩
  · obtain ⟨h1, u1, c1⟩ := C.dec bs h hb hbs (by omega) t
    have hc := dc_c hb
    rw [decide_eq_false hbs, ifk_false, if_neg hbs, show decide (bs ≠ []) = true from decide_eq_true hbs]
    simp only [c1, backk_ret, tupk_tup, unc_cons, castI_int, nilk'_nil]
    rw [wrapv_small .i64 _ (show (dc bs).1 ≤ 9223372036854775807 by omega)]
    exact ⟨h1, u1, rfl⟩
end Go.Ev.W04

/- FUNCTOR: the document's Cut, Int, digits. -/
namespace Go.Ev.W04
open Go.Proofs
set_option maxRecDepth 100000
variable {n : Nat} {cf : CF} {h : Heap}

theorem places_at {bs : List Nat} {i k : Nat} (hi : i < k) : (places bs k)[i]'(by simp [places]; exact hi) = .int .i64 (.ofNat (plc i bs)) := by simp [places]
theorem refcut_law {bs : List Nat} (hb : Bytes bs) (hl : bs.length ≤ 20000) {v : V} {h' : Heap} (hc : cf ⟨.d0, .d0, .d2, .d3⟩ [.str bs.length (packN bs)] h = .ret v h') (is : IsS h' v (places bs (runes bs + 1)))
    {a m : Int} (ha : In64 a) (hm : In64 m) :
    sh20 words n cf [.str bs.length (packN bs), .int .i64 a, .int .i64 m] h = .ret (.tup [sV (cutR bs a m).1, .bool (cutR bs a m).2]) h' := by
  have hrun := runes_le (Nat.le_refl bs.length)
  have hpl : (places bs (runes bs + 1)).length = runes bs + 1 := by simp [places]
  have e1 : wrapv .i64 (Int.sub (.ofNat (runes bs + 1)) (.ofNat 1)) = .ofNat (runes bs) := by
    rw [show Int.sub (.ofNat (runes bs + 1)) (.ofNat 1) = .ofNat (runes bs) by show ((runes bs + 1 : Nat) : Int) - 1 = (runes bs : Int); omega, wrapv_small .i64 _ (show runes bs ≤ 9223372036854775807 by omega)]
  unfold In64 at ha hm
  unfold sh20
  simp only [unc_cons, castS_str, castI_int, nilk'_nil, hc, backk_ret]
  rw [is.len, hpl, e1]
  have b3 : Nat.beq (kno .i64) 3 = true := rfl
  have bb : Nat.beq (kno .i64) (kno .i64) = true := rfl
  have z0 : ∀ x : Int, ilt x (.ofNat 0) = decide (x < 0) := fun x => ilt_eq x _
  by_cases h1 : a < 0
  · simp only [z0, decide_eq_true h1, Bool.not_true, ifk_false, ifk_true, backk_ret, pickv_true, castB_bool]
    unfold cutR
    rw [if_neg (fun hx => by omega)]; rfl
  by_cases h2 : m < 0
  · simp only [z0, decide_eq_false h1, decide_eq_true h2, Bool.not_true, Bool.not_false, ifk_false, ifk_true, backk_ret, pickv_true, pickv_false, castB_bool, intk_int, b3]
    unfold cutR
    rw [if_neg (fun hx => by omega)]; rfl
  obtain ⟨A, rfl⟩ : ∃ A : Nat, a = .ofNat A := ⟨a.toNat, (Int.toNat_of_nonneg (by omega)).symm⟩
  obtain ⟨M, rfl⟩ : ∃ M : Nat, m = .ofNat M := ⟨m.toNat, (Int.toNat_of_nonneg (by omega)).symm⟩
  by_cases h3 : runes bs < A
  · simp only [z0, decide_eq_false h1, decide_eq_false h2, ilt_nat, decide_eq_true h3, Bool.not_true, Bool.not_false, ifk_false, ifk_true, backk_ret, pickv_true, pickv_false, castB_bool, intk_int, b3, bb]
    unfold cutR
    rw [if_neg (fun hx => by have : A + M ≤ runes bs := hx.2
                             omega)]; rfl
  have hA : A ≤ 20000 := by omega
  have e2 : wrapv .i64 (Int.sub (.ofNat (runes bs)) (.ofNat A)) = .ofNat (runes bs - A) := by
    rw [show Int.sub (.ofNat (runes bs)) (.ofNat A) = .ofNat (runes bs - A) by show (runes bs : Int) - (A : Int) = ((runes bs - A : Nat) : Int); omega, wrapv_small .i64 _ (show runes bs - A ≤ 9223372036854775807 by omega)]
  by_cases h4 : runes bs - A < M
  · simp only [z0, decide_eq_false h1, decide_eq_false h2, ilt_nat, decide_eq_false h3, e2, decide_eq_true h4, Bool.not_true, Bool.not_false, ifk_false, ifk_true, backk_ret, pickv_true, pickv_false, castB_bool, intk_int, b3, bb]
    unfold cutR
    rw [if_neg (fun hx => by have : A + M ≤ runes bs := hx.2
                             omega)]; rfl
  · have hAM : A + M ≤ runes bs := by omega
    simp only [z0, decide_eq_false h1, decide_eq_false h2, ilt_nat, decide_eq_false h3, e2, decide_eq_false h4, Bool.not_false, ifk_false, ifk_true, backk_ret, pickv_false, castB_bool, intk_int, b3, bb]
    obtain ⟨b, o, len, c, s, rfl, l1, k1⟩ := is.at_ (i := A) (by rw [hpl]; omega)
    obtain ⟨b', o', len', c', s', e, l2, k2⟩ := is.at_ (i := A + M) (by rw [hpl]; omega)
    cases e
    rw [places_at (by omega)] at k1 k2
    have k1' : ∀ K, words.load1 h' b (Nat.add o A) K = K (.int .i64 (.ofNat (plc A bs))) := k1
    have k2' : ∀ K, words.load1 h' b (Nat.add o (A + M)) K = K (.int .i64 (.ofNat (plc (A + M) bs))) := k2
    have hp := plc_le (A + M) bs
    simp only [slk_slice, natk_ofNat, blt_of l1, ifk_true, backk_ret, ptrk_ptr, k1', castI_int]
    rw [add_nat, wrapv_small .i64 _ (show A + M ≤ 9223372036854775807 by omega)]
    simp only [natk_ofNat, blt_of l2, ifk_true, backk_ret, ptrk_ptr, k2', castI_int]
    rw [sliceS_law hb (i := plc A bs) (j := plc (A + M) bs) (plc_mono (by omega)) hp (fun k => rfl) (fun k => rfl)]
    simp only [castS_sV, backk_ret, castS_str]
    unfold cutR
    rw [if_pos ⟨⟨by omega, by omega⟩, hAM⟩]; rfl
theorem refint_law {bs : List Nat} (hb : Bytes bs) (hl : bs.length < n) (hl' : bs.length ≤ 1000000) :
    sh23 words n cf [.str bs.length (packN bs)] h = .ret (.tup [.int .i64 (refR bs).1, .bool (refR bs).2]) h := by
  have hsign : sign bs = true → ∃ r, bs = 45 :: r := by
    intro e
    unfold sign at e
    cases bs with
    | nil => simp at e
    | cons b r => simp at e; exact ⟨r, by rw [e]⟩
  have hrb : Bytes (rest bs) := by
    unfold rest; split
    · exact fun x hx => hb x (List.mem_of_mem_tail hx)
    · exact hb
  have hrl : (rest bs).length ≤ bs.length := by unfold rest; split <;> simp
  unfold sh23
  simp only [unc_cons, castS_str, nilk'_nil, ilt_nat]
  have hhead : ∀ (K : Heap → Bool → Res) (KP : V → Heap → Res), backk (ifk (decide (0 < bs.length)) (.ret (.str bs.length (packN bs)) h) (.ret .skip h)) (fun v8 h10 => backk (ifk (decide (0 < bs.length)) (words.idxS v8 (.int .i64 (.ofNat 0)) h10 (fun v12 h14 => castI .u8 v12 (fun i16 => .ret (.int .u8 i16) h14))) (.ret .skip h10)) (fun v18 h20 => backk (ifk (decide (0 < bs.length)) (intk v18 (fun l22 i24 => ifk (Nat.beq (kno l22) 4) (.ret (.bool (ieq i24 (.ofNat 45))) h20) .fail)) (.ret .skip h20)) (fun v26 h28 => castB (pickv (decide (0 < bs.length)) v26 (.bool .false)) (K h28)) KP) KP) KP = K h (sign bs) := by
    intro K KP
    cases bs with
    | nil => rfl
    | cons b r =>
      simp only [show decide (0 < (b :: r).length) = true from decide_eq_true (by simp), ifk_true, backk_ret, idxS_law hb (show 0 < (b :: r).length by simp), bV, castI_int, intk_int, show Nat.beq (kno .u8) 4 = true from rfl, pickv_true, ieq_nat, sign]
      simp
  refine (hhead _ _).trans ?_
  have hcut : ∀ (K : Ex → List V → Heap → Res), contk (ifk (sign bs) (words.sliceS (.str bs.length (packN bs)) (.some (.int .i64 (.ofNat 1))) .none h (fun v32 h34 => castS v32 (fun n36 n38 => .done .normal [.str n36 n38, .bool (sign bs)] h34))) (.done .normal [.str bs.length (packN bs), .bool (sign bs)] h)) K = K .normal [sV (rest bs), .bool (sign bs)] h := by
    intro K
    unfold rest
    cases hs : sign bs with
    | false => rfl
    | true =>
      obtain ⟨r, rfl⟩ := hsign hs
      rw [ifk_true, sliceS_law hb (i := 1) (j := (45 :: r).length) (by simp) (Nat.le_refl _) (fun k => rfl) (fun k => rfl)]
      simp only [castS_sV, castS_str, contk_done, if_pos, List.take_length, List.drop_succ_cons, List.drop_zero, List.tail_cons, sV]
  refine (hcut _).trans ?_
  simp only [unc_cons, castS_sV, castB_bool, nilk'_nil, nork_normal]
  unfold refR
  generalize hR : rest bs = R at hrb hrl ⊢
  generalize hS : sign bs = S
  have hseqR : seq R.length (packN R) 0 0 = decide (R = []) := seq_pack (m := []) hrb (by simp)
  rw [hseqR]
  by_cases hn : R = []
  · rw [decide_eq_true hn, ifk_true, if_pos hn]; rfl
  rw [decide_eq_false hn, ifk_false, if_neg hn]
  have htop : ∀ (f : Int → Res), ifk S (f (.ofNat 9223372036854775808)) (f (.ofNat 9223372036854775807)) = f (.ofNat (if S = true then big else big - 1)) := by
    intro f; cases S <;> rfl
  rw [htop fun x => .done .normal [.str R.length (packN R), .bool S, .int .u64 x] h]
  generalize htp : (if S = true then big else big - 1) = top
  have htop1 : 9 ≤ top ∧ top ≤ 9223372036854775808 := by rw [← htp]; split <;> decide
  simp only [contk_done, unc_cons, castS_str, castB_bool, castI_int, nilk'_nil, nork_normal]
  have hle : ∀ {a : Nat}, accT top 0 R = some a → a ≤ top := by
    intro a ha
    rw [accT_eq htop1.1 htop1.2 (by omega)] at ha
    obtain ⟨v, _, h2⟩ := Option.bind_eq_some_iff.1 ha
    split at h2
    · cases h2; assumption
    · cases h2
  refine contk_lpk (P := (· = _)) (I := fun w h' m => ∃ i a, i ≤ R.length ∧ m = R.length - i ∧ h' = h ∧ accT top 0 R = accT top a (R.drop i) ∧ a ≤ top ∧ w = [.str R.length (packN R), .bool S, .int .u64 (.ofNat top), .int .u64 (.ofNat a), .int .i64 (.ofNat i)])
    (Q := fun r => (∃ a, accT top 0 R = some a ∧ a ≤ top ∧ r = .done .normal [.und, .und, .bool S, .int .u64 (.ofNat a)] h) ∨ (accT top 0 R = none ∧ ∃ a, r = .done .ret [.int .i64 (.ofNat 0), .bool .false, .bool S, .int .u64 (.ofNat a)] h)) R.length ?_ (show R.length < n by omega)
    ⟨0, 0, by omega, by omega, rfl, by simp, by omega, rfl⟩ ?_
  · rintro again w h' m ⟨i, a, hi, rfl, rfl, hacc, ha, rfl⟩ ih
    simp only [unc_cons, castS_str, castF_int, castB_bool, nilk'_nil, ilt_nat]
    by_cases h4 : i < R.length
    · have hc : R[i] < 256 := hrb _ (List.getElem_mem h4)
      rw [decide_eq_true h4, ifk_true, idxS_law hrb h4]
      simp only [bV, castI_int, ilt_nat]
      rw [List.drop_eq_getElem_cons h4] at hacc
      simp only [accT] at hacc
      generalize hd : (R[i] + 208) % 256 = d at hacc
      by_cases c1 : R[i] < 48
      · rw [if_pos (.inl (show 9 < d by omega))] at hacc
        simp only [decide_eq_true c1, Bool.not_true, ifk_false, backk_ret, pickv_true, castB_bool, ifk_true]
        exact .inr ⟨hacc, a, rfl⟩
      by_cases c2 : 57 < R[i]
      · rw [if_pos (.inl (show 9 < d by omega))] at hacc
        simp only [decide_eq_false c1, Bool.not_false, ifk_true, backk_ret, idxS_law hrb h4, bV, castI_int, intk_int, show Nat.beq (kno .u8) 4 = true from rfl, ilt_nat, decide_eq_true c2, pickv_false, castB_bool]
        exact .inr ⟨hacc, a, rfl⟩
      have h9 : ¬ 9 < d := by omega
      have hbig : top ≤ 18446744073709551615 := by omega
      simp only [decide_eq_false c1, Bool.not_false, ifk_true, backk_ret, idxS_law hrb h4, bV, castI_int, intk_int, show Nat.beq (kno .u8) 4 = true from rfl, ilt_nat, decide_eq_false c2, pickv_false, castB_bool, ifk_false, byteD hc, hd, u64_sub (show d ≤ top by omega) hbig, u64_div (show top - d ≤ 18446744073709551615 by omega)]
      by_cases hm : (top - d) / 10 < a
      · rw [if_pos (.inr hm)] at hacc
        rw [decide_eq_true hm, ifk_true]
        exact .inr ⟨hacc, a, rfl⟩
      · rw [if_neg (fun hx => hx.elim h9 hm)] at hacc
        rw [decide_eq_false hm, ifk_false, mul_nat, wrapv_small .u64 _ (show a * 10 ≤ 18446744073709551615 by omega), add_nat, wrapv_small .u64 _ (show a * 10 + d ≤ 18446744073709551615 by omega), add_nat, wrapv_small .i64 _ (show i + 1 ≤ 9223372036854775807 by omega), Nat.mul_comm a 10]
        exact ih _ _ (R.length - (i + 1)) (by omega) ⟨i + 1, 10 * a + d, h4, rfl, rfl, hacc, by omega, rfl⟩
    · obtain rfl : i = R.length := by omega
      rw [decide_eq_false h4, ifk_false]
      rw [List.drop_length] at hacc
      exact .inl ⟨a, hacc, ha, rfl⟩
  · rintro r (⟨a, e, ha, rfl⟩ | ⟨e, a, rfl⟩)
    · rw [e]
      simp only [contk_done, unc_cons, castB_bool, castI_int, nilk'_nil, nork_normal]
      cases S with
      | false =>
        have : top = 9223372036854775807 := by rw [← htp]; rfl
        rw [ifk_false, wrapv_small .i64 _ (show a ≤ 9223372036854775807 by omega)]; rfl
      | true =>
        rw [ifk_true]
        have e2 : wrapv .i64 (wrapv .u64 (Int.sub (.ofNat 0) (.ofNat a))) = -(a : Int) := by
          rw [w64_u, w64_id (by unfold In64; show _ ≤ (0 : Int) - (a : Int) ∧ (0 : Int) - (a : Int) ≤ _; omega)]
          exact Int.zero_sub _
        rw [e2]; rfl
    · rw [e]
      simp only [contk_done, unc_cons, castB_bool, castI_int, nilk'_nil, nork_ret, endk_ret]
      rfl
theorem cat_law' {a b : List Nat} (ha : a.length ≤ 20000) (hb : b.length ≤ 20000) : sh24 words n cf [.str a.length (packN a), .str b.length (packN b)] h = .ret (sV (a ++ b)) h := by
  unfold sh24
  simp only [unc_cons, castS_str, nilk'_nil]
  rw [short_law (by omega), short_law (by omega), cat_law]
theorem refcat_law {a b : List Nat} (ha : a.length ≤ 20000) (hb : b.length ≤ 20000) : sh25 words n cf [.str a.length (packN a), .str b.length (packN b)] h = .ret (sV (a ++ b)) h := by
  unfold sh25
  simp only [unc_cons, castS_str, nilk'_nil]
  rw [short_law (by omega), short_law (by omega), cat_law]
theorem len_law {bs : List Nat} {h' : Heap} (hc : cf ⟨.d0, .d0, .d2, .d5⟩ [.str bs.length (packN bs)] h = .ret (.int .i64 (.ofNat (runes bs))) h') : sh26 words n cf [.str bs.length (packN bs)] h = .ret (.int .i64 (.ofNat (runes bs))) h' := by
  unfold sh26
  simp only [unc_cons, castS_str, nilk'_nil, hc, backk_ret, castI_int]
/-- one digit as a text -/
theorem one_digit {d : Nat} (hd : d < 256) (h : Heap) (K : V → Heap → Res) :
    ∃ h', words.row 1 1 [.int .u8 (.ofNat d)] (fun t => words.new h (.arr 1 1 t .false) (fun p h1 => words.bytesS (.slice p 0 1 (.some 1) 1) h1 K)) = K (.str 1 d) h' ∧ Up h h' := by
  obtain ⟨t, k1, r1⟩ := rowk_law (g := 1) (n := 1) (by decide) (l := [bV d]) rfl
  obtain ⟨h1, k2, g2, n2⟩ := newk_law h (.arr 1 1 t false)
  have is : IsS h1 (.slice h.nx 0 1 (some 1) 1) ([d].map bV) := .sl h.nx 0 (some 1) false [bV d] [bV d] (by rw [g2]; exact r1) (by simp) rfl (fun n e => by cases e; simp)
  refine ⟨h1, ?_, n2.up⟩
  have e1 : ∀ K, words.row 1 1 [.int .u8 (.ofNat d)] K = K t := k1
  have e2 : ∀ K, words.new h (.arr 1 1 t .false) K = K h.nx h1 := k2
  rw [e1, e2, bytesS_law is (Bytes.nil.cons hd)]
  show K (.str 1 (d + 256 * 0)) h1 = _
  rw [Nat.mul_zero, Nat.add_zero]
theorem refdigits_law {f N : Nat} (hN : N ≤ 18446744073709551615) (hlt : N < 10 ^ (f + 1))
    (C : ∀ h, 9 < N → ∃ h', Up h h' ∧ cf ⟨.d0, .d0, .d2, .d6⟩ [.int .u64 (.ofNat (N / 10))] h = .ret (sV (dec f (N / 10))) h') :
    ∃ h', Up h h' ∧ sh38 words n cf [.int .u64 (.ofNat N)] h = .ret (sV (dec (f + 1) N)) h' := by
  unfold sh38
  simp only [unc_cons, castI_int, nilk'_nil, ilt_nat]
  have hd : wrapv .u8 (wrapv .u64 (Int.add (.ofNat 48) (Int.tmod (.ofNat N) (.ofNat 10)))) = .ofNat (48 + N % 10) := by
    have : Int.tmod (.ofNat N) (.ofNat 10) = .ofNat (N % 10) := rfl
    rw [this, add_nat, wrapv_small .u64 _ (show 48 + N % 10 ≤ 18446744073709551615 by omega), wrapv_small .u8 _ (show 48 + N % 10 ≤ 255 by omega)]
  rw [hd, u64_div hN]
  obtain ⟨h1, e1, u1⟩ := one_digit (show 48 + N % 10 < 256 by omega) h (fun v12 h14 => castS v12 (fun n16 n18 => ifk (decide (9 < N)) (backk (cf (.mk .d0 .d0 .d2 .d6) [.int .u64 (.ofNat (N / 10))] h14) (fun v20 h22 => castS v20 (fun n24 n26 => short n24 (short n16 (.ret (.str (Nat.add n24 n16) (Nat.add n26 (Nat.mul n18 (Nat.pow 2 (Nat.mul 8 n24))))) h22)))) (fun v28 h30 => .pan v28 h30)) (.ret (.str n16 n18) h14)))
  rw [e1]
  simp only [castS_str]
  by_cases h9 : 9 < N
  · obtain ⟨h2, u2, c2⟩ := C h1 h9
    rw [decide_eq_true h9, ifk_true, c2]
    have hl := dec_length f (N / 10)
    have hl2 : (dec f (N / 10)).length ≤ 2305843009213693952 := by
      by_cases hf : f ≤ 1000000
      · omega
      · have h3 := dec_same f 20 (N / 10) (by omega) (by decide) (Nat.lt_of_lt_of_le (show N / 10 < 10 ^ 20 by omega) (Nat.pow_le_pow_right (by decide) (by omega))) (by omega)
        have := dec_length 20 (N / 10)
        rw [h3]; omega
    simp only [backk_ret, castS_sV]
    rw [short_law hl2, short_law (by decide)]
    refine ⟨h2, u1.trans u2, ?_⟩
    have e : dec (f + 1) N = dec f (N / 10) ++ [48 + N % 10] := by rw [dec, if_neg (by omega)]
    rw [e, ← cat_law]
    rfl
  · rw [decide_eq_false h9, ifk_false]
    refine ⟨h1, u1, ?_⟩
    have e : dec (f + 1) N = [48 + N % 10] := by rw [dec, if_pos (by omega), show N % 10 = N by omega]
    rw [e]
    show Res.ret (.str 1 _) h1 = .ret (.str 1 (48 + N % 10 + 256 * 0)) h1
    rw [Nat.mul_zero, Nat.add_zero]
structure CallRD (cf : CF) : Prop where
  dig : ∀ (N : Nat) h, N ≤ 18446744073709551615 → ∃ h', Up h h' ∧ cf ⟨.d0, .d0, .d2, .d6⟩ [.int .u64 (.ofNat N)] h = .ret (sV (dec 20 N)) h'
theorem refstr_law (C : CallRD cf) {a : Int} (ha : In64 a) : ∃ h', Up h h' ∧ sh28 words n cf [.int .i64 a] h = .ret (sV (strB a)) h' := by
  unfold In64 at ha
  obtain ⟨h1, u1, c1⟩ := C.dig a.natAbs h (by omega)
  have hlen := dec_length 20 a.natAbs
  unfold sh28
  simp only [unc_cons, castI_int, nilk'_nil, ilt_eq]
  by_cases h0 : a < 0
  · have e : wrapv .u64 (Int.sub (.ofNat 0) (wrapv .u64 a)) = .ofNat a.natAbs := by
      rw [wu64, wu64]; show ((0 : Int) - a % _) % _ = (a.natAbs : Int); omega
    rw [show decide (a < .ofNat 0) = true from decide_eq_true h0, ifk_true, e, c1]
    simp only [backk_ret, castS_sV]
    rw [short_law (by decide), short_law (by omega)]
    refine ⟨h1, u1, ?_⟩
    rw [show strB a = [45] ++ dec 20 a.natAbs by unfold strB; rw [if_pos h0]; rfl, ← cat_law]
    rfl
  · have e : wrapv .u64 a = .ofNat a.natAbs := by
      rw [wu64]; show a % _ = (a.natAbs : Int); omega
    rw [show decide (a < .ofNat 0) = false from decide_eq_false h0, ifk_false, e, c1]
    simp only [backk_ret, castS_sV]
    refine ⟨h1, u1, ?_⟩
    rw [show strB a = dec 20 a.natAbs by unfold strB; rw [if_neg h0]]
    rfl
end Go.Ev.W04

/- FUNCTOR: the law FunctorTexts. -/
namespace Go.Ev.W04
open Go.Proofs
set_option maxRecDepth 100000
variable {n : Nat} {cf : CF} {h : Heap}

structure CallX (cf : CF) : Prop where
  cut : ∀ bs a m h, Bytes bs → bs.length ≤ 20000 → Tabs h → In64 a → In64 m → ∃ h', Up h h' ∧ cf ⟨.d0, .d0, .d1, .d3⟩ [.str bs.length (packN bs), .int .i64 a, .int .i64 m] h = .ret (.tup [sV (cutR bs a m).1, .bool (cutR bs a m).2]) h'
  refcut : ∀ bs a m h, Bytes bs → bs.length ≤ 20000 → In64 a → In64 m → ∃ h', Up h h' ∧ cf ⟨.d0, .d0, .d1, .d4⟩ [.str bs.length (packN bs), .int .i64 a, .int .i64 m] h = .ret (.tup [sV (cutR bs a m).1, .bool (cutR bs a m).2]) h'
  code : ∀ bs h, Bytes bs → bs.length ≤ 20000 → Tabs h → ∃ h', Up h h' ∧ cf ⟨.d0, .d0, .d1, .d5⟩ [.str bs.length (packN bs)] h = .ret (.tup [.int .i64 (.ofNat (if bs = [] then 0 else (dc bs).1)), .bool (decide (bs ≠ []))]) h'
  refcode : ∀ bs h, Bytes bs → bs.length ≤ 20000 → ∃ h', Up h h' ∧ cf ⟨.d0, .d0, .d1, .d6⟩ [.str bs.length (packN bs)] h = .ret (.tup [.int .i64 (.ofNat (if bs = [] then 0 else (dc bs).1)), .bool (decide (bs ≠ []))]) h'
  int : ∀ bs h, Bytes bs → bs.length ≤ 20000 → cf ⟨.d0, .d0, .d1, .d1⟩ [.str bs.length (packN bs)] h = .ret (.tup [.int .i64 (intR bs).1, .bool (intR bs).2]) h
  refint : ∀ bs h, Bytes bs → bs.length ≤ 20000 → cf ⟨.d0, .d0, .d1, .d7⟩ [.str bs.length (packN bs)] h = .ret (.tup [.int .i64 (intR bs).1, .bool (intR bs).2]) h
  cat : ∀ a b h, a.length ≤ 20000 → b.length ≤ 20000 → cf ⟨.d0, .d0, .d1, .d8⟩ [.str a.length (packN a), .str b.length (packN b)] h = .ret (sV (a ++ b)) h
  refcat : ∀ a b h, a.length ≤ 20000 → b.length ≤ 20000 → cf ⟨.d0, .d0, .d1, .d9⟩ [.str a.length (packN a), .str b.length (packN b)] h = .ret (sV (a ++ b)) h
  len : ∀ bs h, Bytes bs → bs.length ≤ 20000 → ∃ h', Up h h' ∧ cf ⟨.d0, .d0, .d1, .da⟩ [.str bs.length (packN bs)] h = .ret (.int .i64 (.ofNat (runes bs))) h'
  reflen : ∀ bs h, Bytes bs → bs.length ≤ 20000 → ∃ h', Up h h' ∧ cf ⟨.d0, .d0, .d1, .db⟩ [.str bs.length (packN bs)] h = .ret (.int .i64 (.ofNat (runes bs))) h'
  str : ∀ a h, In64 a → ∃ h', Up h h' ∧ cf ⟨.d0, .d0, .d1, .d2⟩ [.int .i64 a] h = .ret (sV (strB a)) h'
  refstr : ∀ a h, In64 a → ∃ h', Up h h' ∧ cf ⟨.d0, .d0, .d1, .dc⟩ [.int .i64 a] h = .ret (sV (strB a)) h'
  works : ∀ h, Tabs h → cf ⟨.d0, .d0, .d0, .de⟩ [] h = .ret (.bool true) h
theorem seq_same {bs : List Nat} (hb : Bytes bs) : seq bs.length (packN bs) bs.length (packN bs) = true := by rw [seq_pack hb hb]; simp
theorem cutR_bytes {bs : List Nat} (hb : Bytes bs) (a m : Int) : Bytes (cutR bs a m).1 := by
  unfold cutR; split
  · exact (hb.take _).drop _
  · exact .nil
theorem texts_law (C : CallX cf) {s u : List Nat} (hs : Bytes s) (hu : Bytes u) (t : Tabs h) {a m : Int} (ha : In64 a) (hm : In64 m) :
    ∃ h', sh7 words n cf [.str s.length (packN s), .str u.length (packN u), .int .i64 a, .int .i64 m] h = .ret (.bool true) h' := by
  have b3 : Nat.beq (kno .i64) 3 = true := rfl
  have bb : Nat.beq (kno .i64) (kno .i64) = true := rfl
  have beq_ : ∀ b : Bool, beqk b b = true := fun b => by cases b <;> rfl
  unfold sh7
  simp only [unc_cons, castS_str, castI_int, nilk'_nil, ilt_nat]
  by_cases l1 : 16384 < s.length
  · simp only [decide_eq_true l1, Bool.not_true, ifk_false, backk_ret, pickv_true, castB_bool, ifk_true]
    exact ⟨h, rfl⟩
  by_cases l2 : 16384 < u.length
  · simp only [decide_eq_false l1, Bool.not_false, ifk_true, backk_ret, strk_str, intk_int, b3, ilt_nat, decide_eq_true l2, pickv_false, castB_bool]
    exact ⟨h, rfl⟩
  obtain ⟨h1, u1, c1⟩ := C.cut s a m h hs (by omega) t ha hm
  have t1 := t.up u1
  obtain ⟨h2, u2, c2⟩ := C.refcut s a m h1 hs (by omega) ha hm
  have t2 := t1.up u2
  obtain ⟨h3, u3, c3⟩ := C.code s h2 hs (by omega) t2
  obtain ⟨h4, u4, c4⟩ := C.refcode s h3 hs (by omega)
  have t4 := (t2.up u3).up u4
  have c5 := C.int s h4 hs (by omega)
  have c6 := C.refint s h4 hs (by omega)
  have c7 := C.cat s u h4 (by omega) (by omega)
  have c8 := C.refcat s u h4 (by omega) (by omega)
  obtain ⟨h5, u5, c9⟩ := C.len s h4 hs (by omega)
  obtain ⟨h6, u6, c10⟩ := C.reflen s h5 hs (by omega)
  have t6 := (t4.up u5).up u6
  obtain ⟨h7, u7, c11⟩ := C.str m h6 hm
  obtain ⟨h8, u8, c12⟩ := C.refstr m h7 hm
  have c13 := C.works h8 ((t6.up u7).up u8)
  have q1 := seq_same (cutR_bytes hs a m)
  have q2 := seq_same (hs.append hu)
  have q3 := seq_same (strB_bytes m)
  simp only [decide_eq_false l1, Bool.not_false, ifk_true, backk_ret, strk_str, intk_int, b3, bb, ilt_nat, decide_eq_false l2, pickv_false, castB_bool, ifk_false,
    c1, c2, c3, c4, c5, c6, c7, c8, c9, c10, c11, c12, c13, tupk_tup, unc_cons, castS_sV, castI_int, castS_str, nilk'_nil, strk_sV, boolk_bool, q1, q2, q3, beq_, ieq_same, pickv_true]
  exact ⟨h8, rfl⟩
end Go.Ev.W04

/- FUNCTOR: pieces of a text: plain laws. -/
namespace Go.Ev.W04
open Go.Proofs Go.Lib
set_option maxRecDepth 100000

theorem decodeN_cut {n m b0 b1 b2 b3 : Nat} (hn : m ≤ n) (hw : (decodeN n b0 b1 b2 b3).2 ≤ m) (hm : 0 < m) :
    decodeN m b0 (if 1 < m then b1 else 0) (if 2 < m then b2 else 0) (if 3 < m then b3 else 0) = decodeN n b0 b1 b2 b3 := by
  have hm' : m = 1 ∨ m = 2 ∨ m = 3 ∨ 4 ≤ m := by omega
  rcases hm' with rfl | rfl | rfl | h4
  · simp only [Nat.lt_irrefl, if_false, show ¬ 2 < 1 by omega, show ¬ 3 < 1 by omega]
    unfold decodeN at hw ⊢
    repeat' split at hw
    all_goals simp only at hw
    all_goals first | omega | skip
    all_goals repeat' split
    all_goals first | rfl | omega
  · simp only [show (1 : Nat) < 2 by omega, if_true, Nat.lt_irrefl, if_false, show ¬ 3 < 2 by omega]
    unfold decodeN at hw ⊢
    repeat' split at hw
    all_goals simp only at hw
    all_goals first | omega | skip
    all_goals repeat' split
    all_goals first | rfl | omega
  · simp only [show (1 : Nat) < 3 by omega, show (2 : Nat) < 3 by omega, if_true, Nat.lt_irrefl, if_false]
    unfold decodeN at hw ⊢
    repeat' split at hw
    all_goals simp only at hw
    all_goals first | omega | skip
    all_goals repeat' split
    all_goals first | rfl | omega
  · rw [if_pos (by omega), if_pos (by omega), if_pos (by omega)]
    have a1 : (1 < m) = (1 < n) := propext ⟨fun _ => by omega, fun _ => by omega⟩
    have a2 : (2 < m) = (2 < n) := propext ⟨fun _ => by omega, fun _ => by omega⟩
    have a3 : (3 < m) = (3 < n) := propext ⟨fun _ => by omega, fun _ => by omega⟩
    unfold decodeN
    simp only [a1, a2, a3]
theorem getD_take (bs : List Nat) (q i : Nat) : (bs.take q).getD i 0 = if i < q then bs.getD i 0 else 0 := by
  rw [List.getD_eq_getElem?_getD, List.getD_eq_getElem?_getD, List.getElem?_take]
  split <;> rfl
/-- a text that is cut behind its first rune begins with it still -/
theorem dc_take {bs : List Nat} {q : Nat} (hne : bs ≠ []) (hq : (dc bs).2 ≤ q) : dc (bs.take q) = dc bs := by
  have hw := dc_w hne
  by_cases hl : bs.length ≤ q
  · rw [List.take_of_length_le hl]
  · have hlen : (bs.take q).length = q := by rw [List.length_take]; omega
    unfold dc at hq hw ⊢
    rw [hlen, getD_take, getD_take, getD_take, getD_take, if_pos (by omega)]
    exact decodeN_cut (by omega) hq (by omega)
theorem runes_take : ∀ (k : Nat) (bs : List Nat), k ≤ runes bs → runes (bs.take (plc k bs)) = k
  | 0, bs, _ => by show runes (bs.take 0) = 0; rw [List.take_zero]; rfl
  | k + 1, bs, h => by
    by_cases hb : bs = []
    · subst hb; simp [runes_nil] at h
    · have hw := dc_w hb
      have hp := plc_step (k := k) hb
      have hpl := plc_le (k + 1) bs
      have hne : bs.take (plc (k + 1) bs) ≠ [] := by
        intro e
        have := congrArg List.length e
        rw [List.length_take, List.length_nil] at this; omega
      rw [runes_step hb] at h
      have hd := dc_take hb (q := plc (k + 1) bs) (by omega)
      rw [runes_step hne, hd, List.drop_take, hp, Nat.add_sub_cancel_left, runes_take k _ (by omega)]; omega
end Go.Ev.W04

/- FUNCTOR: the law FunctorPieces. -/
namespace Go.Ev.W04
open Go.Proofs
set_option maxRecDepth 100000
variable {n : Nat} {cf : CF} {h : Heap}

theorem rest_of (k : Int) (R : Nat) : ∃ M : Nat, M ≤ R ∧ (if Int.tmod k (.ofNat (R + 1)) < 0 then wrapv .i64 (Int.sub (.ofNat 0) (Int.tmod k (.ofNat (R + 1)))) else Int.tmod k (.ofNat (R + 1))) = .ofNat M ∨ 9223372036854775807 < R := by
  by_cases hR : 9223372036854775807 < R
  · exact ⟨0, .inr hR⟩
  have h1 : (Int.tmod k (.ofNat (R + 1))).natAbs = k.natAbs % (R + 1) := Int.natAbs_tmod k _
  have h2 := Nat.mod_lt k.natAbs (show 0 < R + 1 by omega)
  generalize Int.tmod k (.ofNat (R + 1)) = r at h1
  refine ⟨r.natAbs, .inl ⟨by omega, ?_⟩⟩
  split
  · rw [w64_id (by unfold In64; show _ ≤ 0 - r ∧ 0 - r ≤ _; omega)]
    show 0 - r = (r.natAbs : Int); omega
  · show r = (r.natAbs : Int); omega
theorem cutR_all (bs : List Nat) : cutR bs (.ofNat 0) (.ofNat (runes bs)) = (bs, true) := by
  unfold cutR
  rw [if_pos ⟨⟨by decide, Int.natCast_nonneg _⟩, by show 0 + runes bs ≤ _; omega⟩]
  show ((bs.take (plc (0 + runes bs) bs)).drop 0, true) = _
  rw [Nat.zero_add, plc_all (Nat.le_refl _), List.take_length, List.drop_zero]
theorem cutR_over (bs : List Nat) : cutR bs (.ofNat 0) (.ofNat (runes bs + 1)) = ([], false) := by
  unfold cutR
  rw [if_neg (fun hx => by have : 0 + (runes bs + 1) ≤ runes bs := hx.2
                           omega)]
theorem cutR_at {bs : List Nat} {A M : Nat} (h : A + M ≤ runes bs) : cutR bs (.ofNat A) (.ofNat M) = ((bs.take (plc (A + M) bs)).drop (plc A bs), true) := by
  unfold cutR
  rw [if_pos ⟨⟨Int.natCast_nonneg _, Int.natCast_nonneg _⟩, h⟩]; rfl
theorem pieces_law (C : CallX cf) {s : List Nat} (hs : Bytes s) (t : Tabs h) {k : Int} (hk : In64 k) :
    ∃ h', sh8 words n cf [.str s.length (packN s), .int .i64 k] h = .ret (.bool true) h' := by
  have b3 : Nat.beq (kno .i64) 3 = true := rfl
  have bb : Nat.beq (kno .i64) (kno .i64) = true := rfl
  have beq_ : ∀ b : Bool, beqk b b = true := fun b => by cases b <;> rfl
  unfold sh8
  simp only [unc_cons, castS_str, castI_int, nilk'_nil, ilt_nat]
  by_cases l1 : 4096 < s.length
  · rw [decide_eq_true l1, ifk_true]; exact ⟨h, rfl⟩
  rw [decide_eq_false l1, ifk_false]
  have hrun := runes_le (Nat.le_refl s.length)
  obtain ⟨h1, u1, c1⟩ := C.len s h hs (by omega)
  have t1 := t.up u1
  have i1 : ∀ m : Nat, m ≤ 5000 → In64 (.ofNat m) := fun m hm => by unfold In64; simp only [Int.ofNat_eq_natCast]; omega
  obtain ⟨h2, u2, c2⟩ := C.cut s (.ofNat 0) (.ofNat (runes s + 1)) h1 hs (by omega) t1 (i1 0 (by omega)) (i1 _ (by omega))
  rw [cutR_over] at c2
  have t2 := t1.up u2
  obtain ⟨h3, u3, c3⟩ := C.cut s (.ofNat 0) (.ofNat (runes s)) h2 hs (by omega) t2 (i1 0 (by omega)) (i1 _ (by omega))
  rw [cutR_all] at c3
  have t3 := t2.up u3
  have q1 := seq_same hs
  have hlen : decide (s.length < runes s) = false := decide_eq_false (by omega)
  have hz : ilt (.ofNat (runes s)) (.ofNat 0) = false := by rw [ilt_nat]; exact decide_eq_false (by omega)
  have hadd : wrapv .i64 (Int.add (.ofNat (runes s)) (.ofNat 1)) = .ofNat (runes s + 1) := by rw [add_nat, wrapv_small .i64 _ (show runes s + 1 ≤ 9223372036854775807 by omega)]
  simp only [c1, backk_ret, castI_int, hadd, c2, tupk_tup, unc_cons, castS_sV, castB_bool, nilk'_nil, c3, Bool.not_false, ifk_true, boolk_bool, Bool.not_true, pickv_false, strk_str, strk_sV, castS_str, q1, intk_int, b3, bb, hz, hlen, ilt_nat, ifk_false,
    show ieq (.ofNat (runes s + 1)) (.ofNat 0) = false by rw [ieq_nat]; exact decide_eq_false (by omega)]
  obtain ⟨M, hMR⟩ := rest_of k (runes s)
  rcases hMR with ⟨hM, eM⟩ | hbad
  case inr => omega
  have hj : ∀ (f : Int → Res), ifk (ilt (Int.tmod k (.ofNat (runes s + 1))) (.ofNat 0)) (f (wrapv .i64 (Int.sub (.ofNat 0) (Int.tmod k (.ofNat (runes s + 1)))))) (f (Int.tmod k (.ofNat (runes s + 1)))) = f (.ofNat M) := by
    intro f
    rw [ilt_eq]
    by_cases h0 : Int.tmod k (.ofNat (runes s + 1)) < 0
    · rw [if_pos h0] at eM
      rw [show decide (Int.tmod k (.ofNat (runes s + 1)) < .ofNat 0) = true from decide_eq_true h0, ifk_true, eM]
    · rw [if_neg h0] at eM
      rw [show decide (Int.tmod k (.ofNat (runes s + 1)) < .ofNat 0) = false from decide_eq_false h0, ifk_false, eM]
  rw [hj fun x => .done .normal [.str s.length (packN s), .int .i64 (.ofNat (runes s)), .int .i64 x] h3]
  have hsub : wrapv .i64 (Int.sub (.ofNat (runes s)) (.ofNat M)) = .ofNat (runes s - M) := by
    rw [show Int.sub (.ofNat (runes s)) (.ofNat M) = .ofNat (runes s - M) by show (runes s : Int) - (M : Int) = ((runes s - M : Nat) : Int); omega, wrapv_small .i64 _ (show runes s - M ≤ 9223372036854775807 by omega)]
  obtain ⟨h4, u4, c4⟩ := C.cut s (.ofNat 0) (.ofNat M) h3 hs (by omega) t3 (i1 0 (by omega)) (i1 _ (by omega))
  rw [cutR_at (by omega)] at c4
  have t4 := t3.up u4
  obtain ⟨h5, u5, c5⟩ := C.cut s (.ofNat M) (.ofNat (runes s - M)) h4 hs (by omega) t4 (i1 _ (by omega)) (i1 _ (by omega))
  rw [cutR_at (by omega), show M + (runes s - M) = runes s by omega, plc_all (Nat.le_refl _), List.take_length] at c5
  have t5 := t4.up u5
  have hpl := plc_le M s
  have hbb : Bytes (s.drop (plc M s)) := hs.drop _
  have hbl : (s.drop (plc M s)).length ≤ 20000 := by rw [List.length_drop]; omega
  obtain ⟨h6, u6, c6⟩ := C.code (s.drop (plc M s)) h5 hbb hbl t5
  have t6 := t5.up u6
  -- the first rune
  have hmin : ∃ F : Nat, M + F ≤ runes s ∧ F ≤ 1 ∧ (M < runes s → F = 1) ∧ ∀ (K : V → Heap → Res), sMM false (.int .i64 (.ofNat 1)) (.int .i64 (.ofNat (runes s - M))) h6 K = K (.int .i64 (.ofNat F)) h6 := by
    by_cases hMr : M < runes s
    · refine ⟨1, by omega, by omega, fun _ => rfl, fun K => ?_⟩
      show ifk (ilt (.ofNat (runes s - M)) (.ofNat 1)) (K (.int .i64 (.ofNat (runes s - M))) h6) (K (.int .i64 (.ofNat 1)) h6) = _
      rw [ilt_nat, decide_eq_false (by omega), ifk_false]
    · refine ⟨0, by omega, by omega, fun h => absurd h hMr, fun K => ?_⟩
      show ifk (ilt (.ofNat (runes s - M)) (.ofNat 1)) (K (.int .i64 (.ofNat (runes s - M))) h6) (K (.int .i64 (.ofNat 1)) h6) = _
      rw [ilt_nat, decide_eq_true (by omega), ifk_true, show runes s - M = 0 by omega]
  obtain ⟨F, hF, hF1, hFM, eF⟩ := hmin
  obtain ⟨h7, u7, c7⟩ := C.cut s (.ofNat M) (.ofNat F) h6 hs (by omega) t6 (i1 _ (by omega)) (i1 _ (by omega))
  rw [cutR_at hF] at c7
  have t7 := t6.up u7
  have hfb : Bytes ((s.take (plc (M + F) s)).drop (plc M s)) := (hs.take _).drop _
  have hfl : ((s.take (plc (M + F) s)).drop (plc M s)).length ≤ 20000 := by rw [List.length_drop, List.length_take]; omega
  obtain ⟨h8, u8, c8⟩ := C.code ((s.take (plc (M + F) s)).drop (plc M s)) h7 hfb hfl t7
  have t8 := t7.up u8
  have hend := drop_nil hM
  -- both begin with one rune
  have hfirst : (if (s.take (plc (M + F) s)).drop (plc M s) = [] then 0 else (dc ((s.take (plc (M + F) s)).drop (plc M s))).1) = (if s.drop (plc M s) = [] then 0 else (dc (s.drop (plc M s))).1) ∧
      decide ((s.take (plc (M + F) s)).drop (plc M s) ≠ []) = decide (s.drop (plc M s) ≠ []) ∧ decide (s.drop (plc M s) ≠ []) = decide (M < runes s) := by
    by_cases hMr : M < runes s
    · have hne : s.drop (plc M s) ≠ [] := fun e => by have := hend.1 e; omega
      have hw := dc_w hne
      obtain rfl := hFM hMr
      have e1 : (s.take (plc (M + 1) s)).drop (plc M s) = (s.drop (plc M s)).take (dc (s.drop (plc M s))).2 := by
        rw [← plc_next hMr, List.drop_take, Nat.add_sub_cancel_left]
      have hne2 : (s.drop (plc M s)).take (dc (s.drop (plc M s))).2 ≠ [] := by
        intro e
        have := congrArg List.length e
        rw [List.length_take, List.length_nil] at this; omega
      rw [e1, if_neg hne2, if_neg hne, dc_take hne (Nat.le_refl _)]
      exact ⟨rfl, by simp only [hne, hne2, ne_eq, not_false_eq_true, decide_true], by simp only [hne, ne_eq, not_false_eq_true, hMr]⟩
    · have e0 : s.drop (plc M s) = [] := hend.2 (by omega)
      have hF0 : F = 0 := by omega
      subst hF0
      have e1 : (s.take (plc (M + 0) s)).drop (plc M s) = [] := by rw [Nat.add_zero, List.drop_take, Nat.sub_self, List.take_zero]
      rw [e1, e0]
      exact ⟨rfl, rfl, by simp [hMr]⟩
  obtain ⟨f1, f2, f3⟩ := hfirst
  rw [f1, f2, f3] at c8
  rw [f3] at c6
  have ha : (s.take (plc (0 + M) s)).drop (plc 0 s) = s.take (plc M s) := by rw [Nat.zero_add]; exact List.drop_zero
  rw [ha] at c4
  have hal : (s.take (plc M s)).length ≤ 20000 := by rw [List.length_take]; omega
  have c9 := C.cat (s.take (plc M s)) (s.drop (plc M s)) h8 hal hbl
  rw [List.take_append_drop] at c9
  obtain ⟨h9, u9, c10⟩ := C.len (s.take (plc M s)) h8 (hs.take _) hal
  rw [runes_take M s hM] at c10
  obtain ⟨h10, u10, c11⟩ := C.len (s.drop (plc M s)) h9 hbb hbl
  rw [runes_drop M s hM] at c11
  have c12 := C.works h10 ((t8.up u9).up u10)
  simp only [contk_done, unc_cons, castS_str, castI_int, nilk'_nil, nork_normal, c4, backk_ret, tupk_tup, castS_sV, castB_bool, hsub, c5, c6, eF, c7, c8, ifk_true, pickv_true, strk_sV, strk_str, c9, q1, c10, intk_int, b3, bb, ieq_same, c11, boolk_bool, beq_, ilt_nat, c12]
  exact ⟨h10, rfl⟩
end Go.Ev.W04

/- FUNCTOR: the table of functions of FunctorTexts and FunctorPieces; the walks. -/
namespace Go.Ev.W04
open Go.Proofs Go.RowKit
set_option maxRecDepth 100000
noncomputable def tabXz1 : Go.Ev.N PO := ⟨.no, .no, .no, .no, .no, .no, .no, .no, .no, .no, .no, .no, .no, .no, .no, .no⟩
noncomputable def tabXz2 : Go.Ev.N (Go.Ev.N PO) := ⟨tabXz1, tabXz1, tabXz1, tabXz1, tabXz1, tabXz1, tabXz1, tabXz1, tabXz1, tabXz1, tabXz1, tabXz1, tabXz1, tabXz1, tabXz1, tabXz1⟩
noncomputable def tabXz3 : Go.Ev.N (Go.Ev.N (Go.Ev.N PO)) := ⟨tabXz2, tabXz2, tabXz2, tabXz2, tabXz2, tabXz2, tabXz2, tabXz2, tabXz2, tabXz2, tabXz2, tabXz2, tabXz2, tabXz2, tabXz2, tabXz2⟩
noncomputable def tabX1_000 : Go.Ev.N PO := ⟨.no, .no, .no, .no, .no, .no, .no, .sh (sh7 words), .sh (sh8 words), .no, .no, .no, .no, .no, .orc orcW, .no⟩
noncomputable def tabX1_001 : Go.Ev.N PO := ⟨.no, .sh (sh17 words), .sh (sh18 words), .sh (sh19 words), .sh (sh20 words), .sh (sh21 words), .sh (sh22 words), .sh (sh23 words), .sh (sh24 words), .sh (sh25 words), .sh (sh26 words), .sh (sh27 words), .sh (sh28 words), .no, .no, .no⟩
noncomputable def tabX1_002 : Go.Ev.N PO := ⟨.no, .sh (sh33 words), .sh (sh34 words), .sh (sh35 words), .sh (sh36 words), .sh (sh37 words), .sh (sh38 words), .sh (sh39 words), .no, .no, .no, .no, .no, .no, .no, .no⟩
noncomputable def tabX2_00 : Go.Ev.N (Go.Ev.N PO) := ⟨tabX1_000, tabX1_001, tabX1_002, tabXz1, tabXz1, tabXz1, tabXz1, tabXz1, tabXz1, tabXz1, tabXz1, tabXz1, tabXz1, tabXz1, tabXz1, tabXz1⟩
noncomputable def tabX3_0 : Go.Ev.N (Go.Ev.N (Go.Ev.N PO)) := ⟨tabX2_00, tabXz2, tabXz2, tabXz2, tabXz2, tabXz2, tabXz2, tabXz2, tabXz2, tabXz2, tabXz2, tabXz2, tabXz2, tabXz2, tabXz2, tabXz2⟩
noncomputable def tabX : FT := ⟨tabX3_0, tabXz3, tabXz3, tabXz3, tabXz3, tabXz3, tabXz3, tabXz3, tabXz3, tabXz3, tabXz3, tabXz3, tabXz3, tabXz3, tabXz3, tabXz3⟩
noncomputable def tabXL : List (Fid × PO) := [(⟨.d0, .d0, .d0, .d7⟩, .sh (sh7 words)), (⟨.d0, .d0, .d0, .d8⟩, .sh (sh8 words)), (⟨.d0, .d0, .d0, .de⟩, .orc orcW), (⟨.d0, .d0, .d1, .d1⟩, .sh (sh17 words)), (⟨.d0, .d0, .d1, .d2⟩, .sh (sh18 words)), (⟨.d0, .d0, .d1, .d3⟩, .sh (sh19 words)), (⟨.d0, .d0, .d1, .d4⟩, .sh (sh20 words)), (⟨.d0, .d0, .d1, .d5⟩, .sh (sh21 words)), (⟨.d0, .d0, .d1, .d6⟩, .sh (sh22 words)), (⟨.d0, .d0, .d1, .d7⟩, .sh (sh23 words)), (⟨.d0, .d0, .d1, .d8⟩, .sh (sh24 words)), (⟨.d0, .d0, .d1, .d9⟩, .sh (sh25 words)), (⟨.d0, .d0, .d1, .da⟩, .sh (sh26 words)), (⟨.d0, .d0, .d1, .db⟩, .sh (sh27 words)), (⟨.d0, .d0, .d1, .dc⟩, .sh (sh28 words)), (⟨.d0, .d0, .d2, .d1⟩, .sh (sh33 words)), (⟨.d0, .d0, .d2, .d2⟩, .sh (sh34 words)), (⟨.d0, .d0, .d2, .d3⟩, .sh (sh35 words)), (⟨.d0, .d0, .d2, .d4⟩, .sh (sh36 words)), (⟨.d0, .d0, .d2, .d5⟩, .sh (sh37 words)), (⟨.d0, .d0, .d2, .d6⟩, .sh (sh38 words)), (⟨.d0, .d0, .d2, .d7⟩, .sh (sh39 words))]
theorem tabX_eq : tabX = FT.of tabXL := by kernel_rfl
theorem tabXo7 : POok Tryd.prog 2 7 (.sh (sh7 words)) := .of4 pf7_ok sh7_eq
theorem tabXo8 : POok Tryd.prog 2 8 (.sh (sh8 words)) := .of4 pf8_ok sh8_eq
theorem tabXo14 : POok Tryd.prog 2 14 (.orc orcW) := fnokW
theorem tabXo17 : POok Tryd.prog 2 17 (.sh (sh17 words)) := .of4 pf17_ok sh17_eq
theorem tabXo18 : POok Tryd.prog 2 18 (.sh (sh18 words)) := .of4 pf18_ok sh18_eq
theorem tabXo19 : POok Tryd.prog 2 19 (.sh (sh19 words)) := .of4 pf19_ok sh19_eq
theorem tabXo20 : POok Tryd.prog 2 20 (.sh (sh20 words)) := .of4 pf20_ok sh20_eq
theorem tabXo21 : POok Tryd.prog 2 21 (.sh (sh21 words)) := .of4 pf21_ok sh21_eq
theorem tabXo22 : POok Tryd.prog 2 22 (.sh (sh22 words)) := .of4 pf22_ok sh22_eq
theorem tabXo23 : POok Tryd.prog 2 23 (.sh (sh23 words)) := .of4 pf23_ok sh23_eq
theorem tabXo24 : POok Tryd.prog 2 24 (.sh (sh24 words)) := .of4 pf24_ok sh24_eq
theorem tabXo25 : POok Tryd.prog 2 25 (.sh (sh25 words)) := .of4 pf25_ok sh25_eq
theorem tabXo26 : POok Tryd.prog 2 26 (.sh (sh26 words)) := .of4 pf26_ok sh26_eq
theorem tabXo27 : POok Tryd.prog 2 27 (.sh (sh27 words)) := .of4 pf27_ok sh27_eq
theorem tabXo28 : POok Tryd.prog 2 28 (.sh (sh28 words)) := .of4 pf28_ok sh28_eq
theorem tabXo33 : POok Tryd.prog 2 33 (.sh (sh33 words)) := .of4 pf33_ok sh33_eq
theorem tabXo34 : POok Tryd.prog 2 34 (.sh (sh34 words)) := .of4 pf34_ok sh34_eq
theorem tabXo35 : POok Tryd.prog 2 35 (.sh (sh35 words)) := .of4 pf35_ok sh35_eq
theorem tabXo36 : POok Tryd.prog 2 36 (.sh (sh36 words)) := .of4 pf36_ok sh36_eq
theorem tabXo37 : POok Tryd.prog 2 37 (.sh (sh37 words)) := .of4 pf37_ok sh37_eq
theorem tabXo38 : POok Tryd.prog 2 38 (.sh (sh38 words)) := .of4 pf38_ok sh38_eq
theorem tabXo39 : POok Tryd.prog 2 39 (.sh (sh39 words)) := .of4 pf39_ok sh39_eq
theorem tabXOk : TabOk Tryd.prog 2 tabX := by
  refine TabOk.of tabX_eq fun x hx => ?_
  simp only [tabXL, List.mem_cons, List.not_mem_nil, or_false] at hx
  rcases hx with rfl | rfl | rfl | rfl | rfl | rfl | rfl | rfl | rfl | rfl | rfl | rfl | rfl | rfl | rfl | rfl | rfl | rfl | rfl | rfl | rfl | rfl
  · exact tabXo7
  · exact tabXo8
  · exact tabXo14
  · exact tabXo17
  · exact tabXo18
  · exact tabXo19
  · exact tabXo20
  · exact tabXo21
  · exact tabXo22
  · exact tabXo23
  · exact tabXo24
  · exact tabXo25
  · exact tabXo26
  · exact tabXo27
  · exact tabXo28
  · exact tabXo33
  · exact tabXo34
  · exact tabXo35
  · exact tabXo36
  · exact tabXo37
  · exact tabXo38
  · exact tabXo39
theorem tabXc7 (m d : Nat) (l : List V) (h : Heap) : call tabX m (d + 1) ⟨.d0, .d0, .d0, .d7⟩ l h = sh7 words m (call tabX m d) l h := by kernel_rfl
theorem tabXc8 (m d : Nat) (l : List V) (h : Heap) : call tabX m (d + 1) ⟨.d0, .d0, .d0, .d8⟩ l h = sh8 words m (call tabX m d) l h := by kernel_rfl
theorem tabXc14 (m d : Nat) (l : List V) (h : Heap) : call tabX m (d + 1) ⟨.d0, .d0, .d0, .de⟩ l h = orcW l h := by kernel_rfl
theorem tabXc17 (m d : Nat) (l : List V) (h : Heap) : call tabX m (d + 1) ⟨.d0, .d0, .d1, .d1⟩ l h = sh17 words m (call tabX m d) l h := by kernel_rfl
theorem tabXc18 (m d : Nat) (l : List V) (h : Heap) : call tabX m (d + 1) ⟨.d0, .d0, .d1, .d2⟩ l h = sh18 words m (call tabX m d) l h := by kernel_rfl
theorem tabXc19 (m d : Nat) (l : List V) (h : Heap) : call tabX m (d + 1) ⟨.d0, .d0, .d1, .d3⟩ l h = sh19 words m (call tabX m d) l h := by kernel_rfl
theorem tabXc20 (m d : Nat) (l : List V) (h : Heap) : call tabX m (d + 1) ⟨.d0, .d0, .d1, .d4⟩ l h = sh20 words m (call tabX m d) l h := by kernel_rfl
theorem tabXc21 (m d : Nat) (l : List V) (h : Heap) : call tabX m (d + 1) ⟨.d0, .d0, .d1, .d5⟩ l h = sh21 words m (call tabX m d) l h := by kernel_rfl
theorem tabXc22 (m d : Nat) (l : List V) (h : Heap) : call tabX m (d + 1) ⟨.d0, .d0, .d1, .d6⟩ l h = sh22 words m (call tabX m d) l h := by kernel_rfl
theorem tabXc23 (m d : Nat) (l : List V) (h : Heap) : call tabX m (d + 1) ⟨.d0, .d0, .d1, .d7⟩ l h = sh23 words m (call tabX m d) l h := by kernel_rfl
theorem tabXc24 (m d : Nat) (l : List V) (h : Heap) : call tabX m (d + 1) ⟨.d0, .d0, .d1, .d8⟩ l h = sh24 words m (call tabX m d) l h := by kernel_rfl
theorem tabXc25 (m d : Nat) (l : List V) (h : Heap) : call tabX m (d + 1) ⟨.d0, .d0, .d1, .d9⟩ l h = sh25 words m (call tabX m d) l h := by kernel_rfl
theorem tabXc26 (m d : Nat) (l : List V) (h : Heap) : call tabX m (d + 1) ⟨.d0, .d0, .d1, .da⟩ l h = sh26 words m (call tabX m d) l h := by kernel_rfl
theorem tabXc27 (m d : Nat) (l : List V) (h : Heap) : call tabX m (d + 1) ⟨.d0, .d0, .d1, .db⟩ l h = sh27 words m (call tabX m d) l h := by kernel_rfl
theorem tabXc28 (m d : Nat) (l : List V) (h : Heap) : call tabX m (d + 1) ⟨.d0, .d0, .d1, .dc⟩ l h = sh28 words m (call tabX m d) l h := by kernel_rfl
theorem tabXc33 (m d : Nat) (l : List V) (h : Heap) : call tabX m (d + 1) ⟨.d0, .d0, .d2, .d1⟩ l h = sh33 words m (call tabX m d) l h := by kernel_rfl
theorem tabXc34 (m d : Nat) (l : List V) (h : Heap) : call tabX m (d + 1) ⟨.d0, .d0, .d2, .d2⟩ l h = sh34 words m (call tabX m d) l h := by kernel_rfl
theorem tabXc35 (m d : Nat) (l : List V) (h : Heap) : call tabX m (d + 1) ⟨.d0, .d0, .d2, .d3⟩ l h = sh35 words m (call tabX m d) l h := by kernel_rfl
theorem tabXc36 (m d : Nat) (l : List V) (h : Heap) : call tabX m (d + 1) ⟨.d0, .d0, .d2, .d4⟩ l h = sh36 words m (call tabX m d) l h := by kernel_rfl
theorem tabXc37 (m d : Nat) (l : List V) (h : Heap) : call tabX m (d + 1) ⟨.d0, .d0, .d2, .d5⟩ l h = sh37 words m (call tabX m d) l h := by kernel_rfl
theorem tabXc38 (m d : Nat) (l : List V) (h : Heap) : call tabX m (d + 1) ⟨.d0, .d0, .d2, .d6⟩ l h = sh38 words m (call tabX m d) l h := by kernel_rfl
theorem tabXc39 (m d : Nat) (l : List V) (h : Heap) : call tabX m (d + 1) ⟨.d0, .d0, .d2, .d7⟩ l h = sh39 words m (call tabX m d) l h := by kernel_rfl
theorem digX : ∀ (f d N : Nat) (h : Heap), N ≤ 18446744073709551615 → N < 10 ^ f → 0 < f → ∃ h', Up h h' ∧ call tabX NN (d + f) ⟨.d0, .d0, .d2, .d6⟩ [.int .u64 (.ofNat N)] h = .ret (sV (dec f N)) h'
  | 0, _, _, _, _, _, h0 => absurd h0 (by decide)
  | f + 1, d, N, h, hN, hlt, _ => by
    rw [show d + (f + 1) = (d + f) + 1 from rfl, tabXc38]
    refine refdigits_law hN hlt fun h h9 => ?_
    rw [Nat.pow_succ] at hlt
    have hf : 0 < f := by
      rcases Nat.eq_zero_or_pos f with rfl | hf
      · simp at hlt; omega
      · exact hf
    exact digX f d (N / 10) h (by omega) (by omega) hf
theorem decX (d : Nat) : CallDec (call tabX NN (d + 2)) := ⟨fun bs h hb hne hl t => by
  rw [tabXc36]
  refine decode_law ⟨fun bs h hb hne hl t => ?_⟩ hb hne hl t
  rw [tabXc39]; exact slow_law hb hne hl t⟩
theorem skipX (d : Nat) : CallSkip (call tabX NN (d + 3)) := ⟨fun bs m h hb hl t hm => by
  rw [tabXc34]
  exact skip_law (decX d) hb (by show bs.length < 100000; omega) (by omega) t hm⟩
theorem callX (d : Nat) : CallX (call tabX NN (d + 25)) where
  cut bs a m h hb hl t ha hm := by rw [tabXc19]; exact cut_law (skipX (d + 21)) hb hl t ha hm
  refcut bs a m h hb hl ha hm := by
    obtain ⟨h', v, u, is, e⟩ := places_law (n := NN) (cf := call tabX NN (d + 23)) (h := h) hb (by show bs.length < 100000; omega) (by omega)
    exact ⟨h', u, (tabXc20 _ _ _ _).trans (refcut_law hb hl ((tabXc35 _ _ _ _).trans e) is ha hm)⟩
  code bs h hb hl t := by rw [tabXc21]; exact code_law (decX (d + 22)) hb hl t
  refcode bs h hb hl := by rw [tabXc22]; exact refcode_law hb (by decide)
  int bs h hb hl := by rw [tabXc17]; exact int_law hb (by show bs.length < 100000; omega) (by omega)
  refint bs h hb hl := by rw [tabXc23, ← refR_eq]; exact refint_law hb (by show bs.length < 100000; omega) (by omega)
  cat a b h ha hb := by rw [tabXc24]; exact cat_law' ha hb
  refcat a b h ha hb := by rw [tabXc25]; exact refcat_law ha hb
  len bs h hb hl := by
    obtain ⟨h', u, e⟩ := count_law (n := NN) (cf := call tabX NN (d + 23)) (h := h) hb (by show bs.length < 100000; omega) (by omega)
    exact ⟨h', u, (tabXc26 _ _ _ _).trans (len_law ((tabXc37 _ _ _ _).trans e))⟩
  reflen bs h hb hl := by
    obtain ⟨h', v, u, is, e⟩ := places_law (n := NN) (cf := call tabX NN (d + 23)) (h := h) hb (by show bs.length < 100000; omega) (by omega)
    exact ⟨h', u, (tabXc27 _ _ _ _).trans (reflen_law (by omega) ((tabXc35 _ _ _ _).trans e) is)⟩
  str a h ha := by
    obtain ⟨h', u, e⟩ := str_law (n := NN) (cf := call tabX NN (d + 24)) (h := h) ⟨fun N h hN => by rw [tabXc33]; exact digits_law hN (by decide)⟩ ha
    exact ⟨h', u, (tabXc18 _ _ _ _).trans e⟩
  refstr a h ha := by
    obtain ⟨h', u, e⟩ := refstr_law (n := NN) (cf := call tabX NN (d + 24)) (h := h) ⟨fun N h hN => digX 20 (d + 4) N h hN (by omega) (by decide)⟩ ha
    exact ⟨h', u, (tabXc28 _ _ _ _).trans e⟩
  works h t := by rw [tabXc14]; exact orcW_law t
theorem walk7 {W : World} (L : laidMet Tryd.prog laid04 W) {s u : ByteArray} (_ : s.size ≤ maxLen) (_ : u.size ≤ maxLen) {a m : Int} (ha : In64 a) (hm : In64 m) :
    Calls Tryd.prog 7 #[.string s, .string u, .int .i64 a, .int .i64 m] W fun e w' => e = .returned (.bool true) ∧ Below W.heap.size W w' := by
  obtain ⟨S, B⟩ := accept_holds L
  obtain ⟨ρ, h, d, g, t⟩ := doorT (first_holds L) B
  obtain ⟨bs, hb, _, hv⟩ := bytes_in (ρ := ρ) s
  obtain ⟨cs, hc, _, hw⟩ := bytes_in (ρ := ρ) u
  obtain ⟨h', e⟩ := texts_law (n := NN) (callX 0) hb hc t ha hm
  rw [← tabXc7] at e
  obtain ⟨_, c⟩ := call_ok tabXOk (n := NN) 26 ⟨.d0, .d0, .d0, .d7⟩ _ _ _ e (by simp)
  exact (c ρ W [.string s, .string u, .int .i64 a, .int .i64 m] (.cons hv (.cons hw (.cons (.int .i64 _) (.cons (.int .i64 _) .nil)))) d.rh g).mono fun e w' hc => d.below hc
theorem walk8 {W : World} (L : laidMet Tryd.prog laid04 W) {s : ByteArray} (_ : s.size ≤ maxLen) {k : Int} (hk : In64 k) :
    Calls Tryd.prog 8 #[.string s, .int .i64 k] W fun e w' => e = .returned (.bool true) ∧ Below W.heap.size W w' := by
  obtain ⟨S, B⟩ := accept_holds L
  obtain ⟨ρ, h, d, g, t⟩ := doorT (first_holds L) B
  obtain ⟨bs, hb, _, hv⟩ := bytes_in (ρ := ρ) s
  obtain ⟨h', e⟩ := pieces_law (n := NN) (callX 0) hb t hk
  rw [← tabXc8] at e
  obtain ⟨_, c⟩ := call_ok tabXOk (n := NN) 26 ⟨.d0, .d0, .d0, .d8⟩ _ _ _ e (by simp)
  exact (c ρ W [.string s, .int .i64 k] (.cons hv (.cons (.int .i64 _) .nil)) d.rh g).mono fun e w' hc => d.below hc
end Go.Ev.W04
