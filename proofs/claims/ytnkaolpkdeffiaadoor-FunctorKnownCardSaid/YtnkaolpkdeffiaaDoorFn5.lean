/- Fn5: texts joined. -/
import Derived.Test.YtnkaolpkdeffiaaDoorEvText
import Derived.Test.YtnkaolpkdeffiaaDoorFn1
/- FUNCTOR: numbers and their digits: plain functions and their laws. -/
namespace Go.Ev.W04
open Go.Proofs

abbrev big : Nat := 9223372036854775808
/-- the number that digits tell, behind m -/
def accN (m : Nat) : List Nat → Option Nat
  | [] => some m
  | c :: r => if 9 < (c + 208) % 256 ∨ (big - (c + 208) % 256) / 10 < m then none else accN (10 * m + (c + 208) % 256) r
def sign (bs : List Nat) : Bool := decide (bs.head? = some 45)
def rest (bs : List Nat) : List Nat := if sign bs then bs.tail else bs
/-- what Int answers -/
def intR (bs : List Nat) : Int × Bool :=
  match accN 0 (rest bs) with
  | none => (0, false)
  | some m => if rest bs = [] ∨ (m = big ∧ sign bs = false) then (0, false) else if sign bs then (-(m : Int), true) else ((m : Int), true)
/-- the digits of a number -/
def dec : Nat → Nat → List Nat
  | 0, _ => []
  | f + 1, n => if n < 10 then [48 + n] else dec f (n / 10) ++ [48 + n % 10]
def strB (n : Int) : List Nat := if n < 0 then 45 :: dec 20 n.natAbs else dec 20 n.natAbs

theorem accN_append (m : Nat) (a b : List Nat) : accN m (a ++ b) = (accN m a).bind fun x => accN x b := by
  induction a generalizing m with
  | nil => rfl
  | cons c a ih =>
    simp only [List.cons_append, accN]
    split
    · rfl
    · exact ih _
theorem dig_mod {d : Nat} (hd : d < 10) : (48 + d + 208) % 256 = d := by omega
theorem accN_dec : ∀ (f n : Nat), n < 10 ^ f → n ≤ big → accN 0 (dec f n) = some n
  | 0, n, h, _ => by
    have : n = 0 := by simpa using h
    subst this; rfl
  | f + 1, n, h, hb => by
    simp only [dec]
    split
    · rename_i h10
      simp only [accN, dig_mod h10]
      rw [if_neg (by unfold big at *; omega)]
      simp
    · rename_i h10
      rw [Nat.pow_succ] at h
      have h1 := Nat.mod_lt n (show 0 < 10 by decide)
      rw [accN_append, accN_dec f (n / 10) (by omega) (by unfold big at *; omega)]
      simp only [Option.bind_some, accN, dig_mod h1]
      rw [if_neg (by unfold big at *; omega)]
      congr 1; omega
theorem dec_length : ∀ (f n : Nat), (dec f n).length ≤ f
  | 0, _ => Nat.le_refl _
  | f + 1, n => by
    simp only [dec]
    split
    · simp
    · have := dec_length f (n / 10); simp; omega
theorem dec_bytes : ∀ (f n : Nat), Bytes (dec f n)
  | 0, _ => .nil
  | f + 1, n => by
    simp only [dec]
    split
    · exact Bytes.nil.cons (by omega)
    · exact (dec_bytes f (n / 10)).append (Bytes.nil.cons (by omega))
theorem dec_pos (f n : Nat) : dec (f + 1) n ≠ [] := by
  simp only [dec]
  split <;> simp
/-- no more room than is wanted -/
theorem dec_room : ∀ (f n : Nat), 0 < f → n < 10 ^ f → dec (f + 1) n = dec f n
  | 0, _, h, _ => absurd h (by decide)
  | f + 1, n, _, hn => by
    show (if n < 10 then [48 + n] else dec (f + 1) (n / 10) ++ [48 + n % 10]) = (if n < 10 then [48 + n] else dec f (n / 10) ++ [48 + n % 10])
    split
    · rfl
    · rename_i h
      rw [Nat.pow_succ] at hn
      by_cases hf : f = 0
      · subst hf; simp at hn; omega
      · rw [dec_room f (n / 10) (by omega) (by omega)]
theorem dec_same (f g n : Nat) (hf : 0 < f) (hg : 0 < g) (h : n < 10 ^ f) (h' : n < 10 ^ g) : dec f n = dec g n := by
  have up : ∀ (d f : Nat), 0 < f → n < 10 ^ f → dec (f + d) n = dec f n := by
    intro d
    induction d with
    | zero => intro f _ _; rfl
    | succ d ih =>
      intro f hf hn
      rw [← Nat.add_assoc, dec_room (f + d) n (by omega) (Nat.lt_of_lt_of_le hn (Nat.pow_le_pow_right (by decide) (by omega))), ih f hf hn]
  by_cases hl : f ≤ g
  · have := up (g - f) f hf h; rw [Nat.add_sub_cancel' hl] at this; exact this.symm
  · have := up (f - g) g hg h'; rw [Nat.add_sub_cancel' (by omega)] at this; exact this
theorem dec_step {m d : Nat} (hm : 0 < m) (hd : d < 10) (hb : 10 * m + d ≤ big) : dec 20 (10 * m + d) = dec 20 m ++ [48 + d] := by
  have e : dec 20 (10 * m + d) = dec 19 m ++ [48 + d] := by
    rw [show (20 : Nat) = 19 + 1 from rfl, dec, if_neg (by omega), show (10 * m + d) / 10 = m by omega, show (10 * m + d) % 10 = d by omega]
  rw [e, dec_same 19 20 m (by omega) (by omega) (by unfold big at hb; omega) (by unfold big at hb; omega)]
theorem accN_step {m c m' : Nat} {r : List Nat} (h : accN m (c :: r) = some m') : (c + 208) % 256 ≤ 9 ∧ 10 * m + (c + 208) % 256 ≤ big ∧ accN (10 * m + (c + 208) % 256) r = some m' := by
  simp only [accN] at h
  split at h
  · cases h
  · rename_i hn
    unfold big at *
    exact ⟨by omega, by omega, h⟩
theorem accN_le : ∀ {r : List Nat} {m m' : Nat}, m ≤ big → accN m r = some m' → m' ≤ big
  | [], _, _, hm, h => by cases h; exact hm
  | _ :: _, _, _, _, h => let ⟨_, h2, h3⟩ := accN_step h; accN_le h2 h3
theorem digit_back {c : Nat} (hc : c < 256) (h : (c + 208) % 256 ≤ 9) : c = 48 + (c + 208) % 256 := by omega
theorem accN_tail : ∀ {r : List Nat} {m m' : Nat}, Bytes r → 0 < m → accN m r = some m' → dec 20 m' = dec 20 m ++ r
  | [], _, _, _, _, h => by cases h; simp
  | c :: r, m, m', hr, hm, h => by
    obtain ⟨h1, h2, h3⟩ := accN_step h
    rw [accN_tail hr.tail (by omega) h3, dec_step hm (by omega) h2, List.append_assoc]
    have := digit_back hr.head h1
    rw [← this]; rfl
/-- without the noughts ahead -/
def strip : List Nat → List Nat
  | c :: c' :: r => if c = 48 then strip (c' :: r) else c :: c' :: r
  | l => l
theorem dec_one {d : Nat} (hd : d < 10) : dec 20 d = [48 + d] := by
  rw [show (20 : Nat) = 19 + 1 from rfl, dec, if_pos hd]
theorem strip_dec : ∀ {r : List Nat} {m : Nat}, Bytes r → r ≠ [] → accN 0 r = some m → strip r = dec 20 m
  | [], _, _, h, _ => absurd rfl h
  | [c], m, hb, _, h => by
    obtain ⟨h1, _, h3⟩ := accN_step h
    have := digit_back hb.head h1
    cases h3
    rw [Nat.mul_zero, Nat.zero_add, dec_one (by omega), ← this]; rfl
  | c :: c' :: r, m, hb, _, h => by
    obtain ⟨h1, _, h3⟩ := accN_step h
    have := digit_back hb.head h1
    rw [Nat.mul_zero, Nat.zero_add] at h3
    show (if c = 48 then strip (c' :: r) else c :: c' :: r) = _
    split
    · rename_i hc
      subst hc
      exact strip_dec hb.tail (by simp) h3
    · rename_i hc
      rw [accN_tail hb.tail (by omega) h3, dec_one (by omega), ← this]; rfl
/-- what FunctorBack makes of a text -/
def norm (bs : List Nat) : List Nat := if sign bs = true ∧ strip (rest bs) ≠ [48] then 45 :: strip (rest bs) else strip (rest bs)
theorem dec_zero : dec 20 0 = [48] := rfl
theorem dec_head : ∀ (f n : Nat), ∃ d r, d < 10 ∧ dec (f + 1) n = (48 + d) :: r
  | 0, n => by
    simp only [dec]
    split
    · exact ⟨n, [], by assumption, rfl⟩
    · exact ⟨n % 10, [], by omega, rfl⟩
  | f + 1, n => by
    rw [dec]
    split
    · exact ⟨n, [], by assumption, rfl⟩
    · obtain ⟨d, r, h1, h2⟩ := dec_head f (n / 10)
      exact ⟨d, r ++ [48 + n % 10], h1, by rw [h2]; rfl⟩
theorem dec_ne_zero {m : Nat} (hm : 0 < m) (hb : m ≤ big) : dec 20 m ≠ [48] := by
  intro h
  have h1 := accN_dec 20 m (by unfold big at hb; omega) hb
  rw [h] at h1
  have : accN 0 [48] = some 0 := by decide
  rw [this] at h1
  cases h1; omega
theorem sign_dec (n : Nat) : sign (dec 20 n) = false := by
  obtain ⟨d, r, _, h⟩ := dec_head 19 n
  unfold sign
  rw [h, List.head?_cons]
  exact decide_eq_false fun e => by have := Option.some.inj e; omega
/-- there and back -/
theorem int_str {n : Int} (h : In64 n) : intR (strB n) = (n, true) := by
  unfold In64 at h
  unfold strB
  by_cases h0 : n < 0
  · rw [if_pos h0]
    have hs : sign (45 :: dec 20 n.natAbs) = true := rfl
    have hr : rest (45 :: dec 20 n.natAbs) = dec 20 n.natAbs := rfl
    unfold intR
    rw [hs, hr, accN_dec 20 n.natAbs (by omega) (by unfold big; omega)]
    show (if dec 20 n.natAbs = [] ∨ _ then _ else _) = _
    rw [if_neg (fun hx => hx.elim (fun e => dec_pos 19 _ e) (fun ⟨_, e⟩ => by cases e)), if_pos rfl]
    congr 1; omega
  · rw [if_neg h0]
    have hr : rest (dec 20 n.natAbs) = dec 20 n.natAbs := by unfold rest; rw [sign_dec]; rfl
    unfold intR
    rw [hr, sign_dec, accN_dec 20 n.natAbs (by omega) (by unfold big; omega)]
    show (if dec 20 n.natAbs = [] ∨ _ then _ else _) = _
    rw [if_neg (fun hx => hx.elim (fun e => dec_pos 19 _ e) (fun ⟨e, _⟩ => by unfold big at e; omega))]
    show ((n.natAbs : Int), true) = _
    congr 1; omega
theorem str_int {bs : List Nat} (hb : Bytes bs) {k : Int} (h : intR bs = (k, true)) : strB k = norm bs ∧ In64 k := by
  unfold intR at h
  split at h
  · cases h
  · rename_i m hm
    split at h
    · cases h
    · rename_i hn
      have hrb : Bytes (rest bs) := by
        unfold rest; split
        · exact fun x hx => hb x (List.mem_of_mem_tail hx)
        · exact hb
      have hr : rest bs ≠ [] := fun e => hn (.inl e)
      have hle := accN_le (Nat.zero_le _) hm
      have hst := strip_dec hrb hr hm
      unfold norm strB In64
      rw [hst]
      cases hs : sign bs with
      | false =>
        rw [hs] at h
        cases h
        have hne : m ≠ big := fun e => hn (.inr ⟨e, hs⟩)
        unfold big at *
        rw [if_neg (by omega), if_neg (by rintro ⟨e, _⟩; cases e)]
        exact ⟨by simp, by omega⟩
      | true =>
        rw [hs] at h
        cases h
        by_cases h0 : m = 0
        · subst h0
          rw [if_neg (by simp), if_neg (by rintro ⟨_, e⟩; exact e dec_zero)]
          exact ⟨rfl, by decide⟩
        · rw [if_pos (by omega), if_pos ⟨rfl, dec_ne_zero (by omega) hle⟩]
          unfold big at *
          exact ⟨by simp, by omega⟩
end Go.Ev.W04

/- FUNCTOR: Int and Str, walked. -/
namespace Go.Ev.W04
open Go.Proofs
set_option maxRecDepth 100000
variable {n : Nat} {cf : CF} {h : Heap}

theorem contk_lpk {body : (List V → Heap → Res) → List V → Heap → Res} {I : List V → Heap → Nat → Prop} {Q P : Res → Prop} {n : Nat} {vs : List V} {h : Heap} (m : Nat) {K : Ex → List V → Heap → Res}
    (step : ∀ again vs h m, I vs h m → (∀ vs' h' m', m' < m → I vs' h' m' → Q (again vs' h')) → Q (body again vs h)) (hm : m < n) (hi : I vs h m) (fin : ∀ r, Q r → P (contk r K)) : P (contk (lpk body n vs h) K) :=
  fin _ (lpk_inv step n vs h m hm hi)
theorem byteD {c : Nat} (hc : c < 256) : wrapv .u64 (wrapv .u8 (Int.sub (.ofNat c) (.ofNat 48))) = .ofNat ((c + 208) % 256) := by
  have h1 : wrapv .u8 (Int.sub (.ofNat c) (.ofNat 48)) = .ofNat ((c + 208) % 256) := by
    rw [wrapv_eq]
    simp only [IntKind.wrap, IntKind.bits, IntKind.signed]
    show ((c : Int) - 48) % 256 = ((c + 208) % 256 : Nat)
    omega
  rw [h1, wrapv_small .u64 _ (show _ ≤ 18446744073709551615 by omega)]
theorem u64_sub {a b : Nat} (h : b ≤ a) (ha : a ≤ 18446744073709551615) : wrapv .u64 (Int.sub (.ofNat a) (.ofNat b)) = .ofNat (a - b) := by
  rw [wu64]; show ((a : Int) - b) % _ = ((a - b : Nat) : Int); omega
theorem u64_div {a b : Nat} (ha : a ≤ 18446744073709551615) : wrapv .u64 (Int.tdiv (.ofNat a) (.ofNat b)) = .ofNat (a / b) :=
  wrapv_small .u64 _ (Nat.le_trans (Nat.div_le_self a b) ha)
theorem int_law {bs : List Nat} (hb : Bytes bs) (hl : bs.length < n) (hl' : bs.length ≤ 1000000) :
    sh17 words n cf [sV bs] h = .ret (.tup [.int .i64 (intR bs).1, .bool (intR bs).2]) h := by
  have hsign : sign bs = true → ∃ r, bs = 45 :: r := by
    intro e
    unfold sign at e
    cases bs with
    | nil => simp at e
    | cons b r => simp at e; exact ⟨r, by rw [e]⟩
  have hrb : Bytes (rest bs) := by
    unfold rest; split
    · exact fun x hx => hb x (List.mem_of_mem_tail hx)
    · exact hb
  have hrl : (rest bs).length ≤ bs.length := by unfold rest; split <;> simp
  unfold sh17
  simp only [unc_cons, castS_sV, nilk'_nil]
  have hseq : seq bs.length (packN bs) 0 0 = decide (bs = []) := seq_pack (m := []) hb (by simp)
  rw [hseq]
  -- the sign
  have hhead : ∀ (K : Heap → Bool → Res) (KP : V → Heap → Res), backk (ifk (Bool.not (decide (bs = []))) (.ret (.str bs.length (packN bs)) h) (.ret .skip h)) (fun v8 h10 => backk (ifk (Bool.not (decide (bs = []))) (words.idxS v8 (.int .i64 (.ofNat 0)) h10 (fun v12 h14 => castI .u8 v12 (fun i16 => .ret (.int .u8 i16) h14))) (.ret .skip h10)) (fun v18 h20 => backk (ifk (Bool.not (decide (bs = []))) (intk v18 (fun l22 i24 => ifk (Nat.beq (kno l22) 4) (.ret (.bool (ieq i24 (.ofNat 45))) h20) .fail)) (.ret .skip h20)) (fun v26 h28 => castB (pickv (Bool.not (decide (bs = []))) v26 (.bool .false)) (K h28)) KP) KP) KP = K h (sign bs) := by
    intro K KP
    cases bs with
    | nil => rfl
    | cons b r =>
      simp only [show decide (b :: r = []) = false from rfl, Bool.not_false, ifk_true, backk_ret, idxS_law hb (show 0 < (b :: r).length by simp), bV, castI_int, intk_int, show Nat.beq (kno .u8) 4 = true from rfl, pickv_true, ieq_nat, sign]
      simp
  refine (hhead _ _).trans ?_
  have hcut : ∀ (K : Ex → List V → Heap → Res), contk (ifk (sign bs) (words.sliceS (.str bs.length (packN bs)) (.some (.int .i64 (.ofNat 1))) .none h (fun v32 h34 => castS v32 (fun n36 n38 => .done .normal [.str n36 n38, .bool (sign bs)] h34))) (.done .normal [.str bs.length (packN bs), .bool (sign bs)] h)) K = K .normal [sV (rest bs), .bool (sign bs)] h := by
    intro K
    unfold rest
    cases hs : sign bs with
    | false => rfl
    | true =>
      obtain ⟨r, rfl⟩ := hsign hs
      rw [ifk_true, sliceS_law hb (i := 1) (j := (45 :: r).length) (by simp) (Nat.le_refl _) (fun k => rfl) (fun k => rfl)]
      simp only [castS_sV, castS_str, contk_done, if_pos, List.take_length, List.drop_succ_cons, List.drop_zero, List.tail_cons, sV]
  refine (hcut _).trans ?_
  simp only [unc_cons, castS_sV, castB_bool, nilk'_nil, nork_normal]
  generalize hR : rest bs = R at hrb hrl ⊢
  generalize hS : sign bs = S
  refine contk_lpk (P := (· = _)) (I := fun w h' m => ∃ i a, i ≤ R.length ∧ m = R.length - i ∧ h' = h ∧ accN 0 R = accN a (R.drop i) ∧ a ≤ big ∧ w = [sV R, .bool S, .int .u64 (.ofNat a), .int .i64 (.ofNat R.length), .int .i64 (.ofNat i)])
    (Q := fun r => (∃ a, accN 0 R = some a ∧ a ≤ big ∧ r = .done .normal [sV R, .und, .und, .bool S, .int .u64 (.ofNat a)] h) ∨ (accN 0 R = none ∧ ∃ a, r = .done .ret [sV R, .int .i64 (.ofNat 0), .bool .false, .bool S, .int .u64 (.ofNat a)] h)) R.length ?_ (by omega)
    ⟨0, 0, by omega, by omega, rfl, by simp, by decide, rfl⟩ ?_
  · rintro again w h' m ⟨i, a, hi, rfl, rfl, hacc, ha, rfl⟩ ih
    simp only [unc_cons, castS_sV, castF_int, castB_bool, nilk'_nil, ilt_nat]
    by_cases h4 : i < R.length
    · have hc : R[i] < 256 := hrb _ (List.getElem_mem h4)
      rw [decide_eq_true h4, ifk_true, idxS_law hrb h4]
      simp only [bV, castI_int, byteD hc, ilt_nat]
      rw [List.drop_eq_getElem_cons h4] at hacc
      simp only [accN] at hacc
      generalize hd : (R[i] + 208) % 256 = d at hacc ⊢
      have hd' : d < 256 := by omega
      by_cases h9 : 9 < d
      · rw [if_pos (.inl h9)] at hacc
        simp only [decide_eq_true h9, Bool.not_true, ifk_false, backk_ret, pickv_true, castB_bool, ifk_true]
        exact .inr ⟨hacc, a, rfl⟩
      · have hbig : (9223372036854775808 : Nat) ≤ 18446744073709551615 := by decide
        simp only [decide_eq_false h9, Bool.not_false, ifk_true, backk_ret, intk_int, show Nat.beq 7 (kno .u64) = true from rfl, show Nat.beq (kno .u64) 7 = true from rfl, show Nat.beq (kno .u64) (kno .u64) = true from rfl, u64_sub (show d ≤ 9223372036854775808 by omega) hbig, u64_div (show 9223372036854775808 - d ≤ 18446744073709551615 by omega), ilt_nat, pickv_false, castB_bool]
        by_cases hm : (9223372036854775808 - d) / 10 < a
        · rw [if_pos (.inr hm)] at hacc
          rw [decide_eq_true hm, ifk_true]
          exact .inr ⟨hacc, a, rfl⟩
        · rw [if_neg (fun hx => hx.elim (fun e => h9 e) (fun e => hm e))] at hacc
          rw [decide_eq_false hm, ifk_false, mul_nat, wrapv_small .u64 _ (show 10 * a ≤ 18446744073709551615 by omega), add_nat, wrapv_small .u64 _ (show 10 * a + d ≤ 18446744073709551615 by omega), add_nat, wrapv_small .i64 _ (show i + 1 ≤ 9223372036854775807 by omega)]
          exact ih _ _ (R.length - (i + 1)) (by omega) ⟨i + 1, 10 * a + d, h4, rfl, rfl, hacc, by unfold big; omega, rfl⟩
    · obtain rfl : i = R.length := by omega
      rw [decide_eq_false h4, ifk_false]
      rw [List.drop_length] at hacc
      exact .inl ⟨a, hacc, ha, rfl⟩
  · have hseqR : seq R.length (packN R) 0 0 = decide (R = []) := seq_pack (m := []) hrb (by simp)
    unfold intR
    rw [hR, hS]
    rintro r (⟨a, e, ha, rfl⟩ | ⟨e, a, rfl⟩)
    · rw [e]
      simp only [contk_done, unc_cons, castS_sV, castB_bool, castI_int, nilk'_nil, nork_normal, hseqR, ieq_nat]
      by_cases hn : R = []
      · rw [decide_eq_true hn, ifk_true]
        simp only [contk_done, unc_cons, castB_bool, castI_int, nilk'_nil, nork_normal, ifk_true]
        rw [if_pos (.inl hn)]; rfl
      · rw [decide_eq_false hn, ifk_false]
        by_cases hm : a = 9223372036854775808
        · subst hm
          cases S with
          | false =>
            rw [if_pos (Or.inr ⟨rfl, rfl⟩)]; rfl
          | true =>
            rw [if_neg (fun hx => hx.elim (fun e => hn e) (fun ⟨_, e⟩ => by cases e))]; rfl
        · simp only [decide_eq_false hm, ifk_false, backk_ret, pickv_false, castB_bool, contk_done, unc_cons, castI_int, nilk'_nil, nork_normal]
          rw [if_neg (fun hx => hx.elim (fun e => hn e) (fun ⟨e, _⟩ => hm e))]
          have ha' : a ≤ 9223372036854775807 := by unfold big at ha; omega
          rw [wrapv_small .i64 _ ha']
          cases S with
          | false => rfl
          | true =>
            rw [ifk_true, w64_id (n := Int.sub (.ofNat 0) (.ofNat a)) (by unfold In64; show _ ≤ (0 : Int) - (a : Int) ∧ (0 : Int) - (a : Int) ≤ _; omega)]
            show _ = Res.ret (.tup [.int .i64 (-(a : Int)), .bool true]) h
            rw [show Int.sub (.ofNat 0) (.ofNat a) = -(a : Int) from Int.zero_sub _]
    · rw [e]
      simp only [contk_done, unc_cons, castS_sV, castB_bool, castI_int, nilk'_nil, nork_ret, endk_ret]
      rfl
end Go.Ev.W04

/- FUNCTOR: the digits of a number, walked. -/
namespace Go.Ev.W04
open Go.Proofs
set_option maxRecDepth 100000
variable {n : Nat} {cf : CF} {h : Heap}

theorem row_lf {l : List V} (hl : 0 < l.length) : Row (.arr l.length 1 (.lf l) false) l.length l := by
  refine ⟨1, .lf l, rfl, ⟨hl, .lf l, fun j ch hj => ?_⟩, by omega, fun i => ?_⟩
  · simp only [T.get] at hj
    split at hj
    · cases hj; rfl
    · cases hj
  · by_cases hi : i < l.length
    · simp [T.cell, T.get, Nat.div_eq_of_lt hi, Nat.mod_eq_of_lt hi]
    · have h1 : i / l.length ≠ 0 := by
        have := Nat.div_pos (show l.length ≤ i by omega) hl; omega
      simp [T.cell, T.get, h1]; omega
theorem row_zero : Row (.arr 1 20 (repT [.int .u8 (.ofNat 0)] 20 20) false) 1 (List.replicate 20 (bV 0)) := by
  have := Row.rep [V.int .u8 (.ofNat 0)] (by decide) 20
  have e : (List.replicate 20 [V.int .u8 (.ofNat 0)]).flatten = List.replicate 20 (bV 0) := rfl
  rw [e] at this
  exact this
abbrev zeros : Nat → List V := fun k => List.replicate k (bV 0)
theorem zeros_set (k : Nat) (c : Nat) (suf : List Nat) : splice (zeros (k + 1) ++ suf.map bV) k [bV c] = zeros k ++ (c :: suf).map bV := by
  have t1 : (zeros (k + 1) ++ suf.map bV).take k = zeros k := by
    rw [show zeros (k + 1) ++ suf.map bV = zeros k ++ ([bV 0] ++ suf.map bV) by simp [zeros, List.replicate_succ']]
    exact List.take_left' (by simp [zeros])
  have t2 : (zeros (k + 1) ++ suf.map bV).drop (k + 1) = suf.map bV := List.drop_left' (by simp [zeros])
  show (zeros (k + 1) ++ suf.map bV).take k ++ [bV c] ++ (zeros (k + 1) ++ suf.map bV).drop (k + 1) = _
  rw [t1, t2, List.append_assoc]; rfl
/-- what stands when so many digits are laid -/
theorem digits_law {N : Nat} (hN : N ≤ 18446744073709551615) (hn : 21 < n) :
    ∃ h', Up h h' ∧ sh33 words n cf [.agg 20 (zeros 20), .int .u64 (.ofNat N)] h = .ret (.tup [.agg 20 (zeros (20 - (dec 20 N).length) ++ (dec 20 N).map bV), .int .i64 (.ofNat (dec 20 N).length)]) h' := by
  obtain ⟨h1, k1, g1, n1⟩ := newk_law h (.arr 20 1 (.lf (zeros 20)) false)
  obtain ⟨h2, k2, g2, n2⟩ := newk_law h1 (.arr 1 20 (repT [.int .u8 (.ofNat 0)] 20 20) false)
  have hp : h.nx ≠ h1.nx := by intro e; have := n1.lt; rw [e] at this; omega
  have r1 : Row (h2.t.get h.nx) 20 (zeros 20) := by
    rw [n2.get _ hp, g1]; exact row_lf (l := zeros 20) (by decide)
  have r2 : Row (h2.t.get h1.nx) 1 (zeros 20) := by rw [g2]; exact row_zero
  have hlen := dec_length 20 N
  have hpos : 0 < (dec 20 N).length := List.length_pos_iff.2 (dec_pos 19 N)
  unfold sh33
  simp only [unc_cons, castI_int, nilk'_nil]
  have e0 : ∀ (k : Nat → List V → Res), partsk (.agg 20 (zeros 20)) k = k 20 (zeros 20) := fun k => rfl
  rw [e0]
  have hz : ∀ x y, zk 20 x y = y := fun _ _ => rfl
  rw [hz]
  have w1 : words.new = Heap.newk := rfl
  rw [w1, k1, k2]
  suffices H : ∀ r, (∃ h3, h3.nx = h2.nx ∧ (∀ b, b ≠ h.nx → h3.t.get b = h2.t.get b) ∧ Row (h3.t.get h.nx) 20 (zeros (20 - (dec 20 N).length) ++ (dec 20 N).map bV) ∧ r = .done .normal [.ptr h.nx 0, .ptr h1.nx 0, .int .i64 (.ofNat (20 - (dec 20 N).length))] h3) →
      ∃ h', Up h h' ∧ contk r (fun x62 l64 h66 => unc l64 (fun v68 l70 => unc l70 (fun v72 l74 => unc l74 (fun v76 l78 => castI .i64 v76 (fun i80 => nilk' l78 (nork x62 (ptrk v68 (fun p82 n84 => words.load h66 p82 n84 20 (fun l86 => ptrk v72 (fun p88 n90 => words.store h66 p88 n90 20 l86 (fun h92 => ptrk v72 (fun p94 n96 => loadk h92 p94 n96 20 (fun l98 => .ret (.tup [.agg 20 l98, .int .i64 (wrapv .i64 (Int.sub (.ofNat 20) i80))]) h92))))))) .fail)))))) = .ret (.tup [.agg 20 (zeros (20 - (dec 20 N).length) ++ (dec 20 N).map bV), .int .i64 (.ofNat (dec 20 N).length)]) h' by
    refine contk_lpk (P := fun r => ∃ h', Up h h' ∧ r = .ret (.tup [.agg 20 (zeros (20 - (dec 20 N).length) ++ (dec 20 N).map bV), .int .i64 (.ofNat (dec 20 N).length)]) h') (I := fun w h' m => ∃ a suf more, (more = true → suf.length < 20 ∧ m = 20 - suf.length ∧ dec 20 N = dec (20 - suf.length) a ++ suf ∧ a < 10 ^ (20 - suf.length)) ∧ (more = false → dec 20 N = suf ∧ m = 0) ∧ suf.length ≤ 20 ∧ h'.nx = h2.nx ∧ (∀ b, b ≠ h.nx → h'.t.get b = h2.t.get b) ∧ Row (h'.t.get h.nx) 20 (zeros (20 - suf.length) ++ suf.map bV) ∧ w = [.int .u64 (.ofNat a), .ptr h.nx 0, .ptr h1.nx 0, .int .i64 (.ofNat (20 - suf.length)), .bool more] ∧ a ≤ 18446744073709551615)
      (Q := fun r => ∃ h3, h3.nx = h2.nx ∧ (∀ b, b ≠ h.nx → h3.t.get b = h2.t.get b) ∧ Row (h3.t.get h.nx) 20 (zeros (20 - (dec 20 N).length) ++ (dec 20 N).map bV) ∧ r = .done .normal [.ptr h.nx 0, .ptr h1.nx 0, .int .i64 (.ofNat (20 - (dec 20 N).length))] h3) 20 ?_ (show 20 < n by omega)
      ⟨N, [], true, fun _ => ⟨by decide, rfl, by simp, show N < 10 ^ 20 by omega⟩, (fun e => by cases e), by decide, rfl, fun _ _ => rfl, by simpa using r1, rfl, hN⟩ H
    rintro again w h' m ⟨a, suf, more, ht, hf, hs, hnx, hoth, hrow, rfl, ha⟩ ih
    simp only [unc_cons, castF_int, castI_int, castB_bool, nilk'_nil]
    cases more with
    | false =>
      obtain ⟨e1, _⟩ := hf rfl
      rw [ifk_false, e1]
      exact ⟨h', hnx, hoth, hrow, rfl⟩
    | true =>
      obtain ⟨h5, rfl, h6, h7⟩ := ht rfl
      rw [ifk_true]
      obtain ⟨k, hk⟩ : ∃ k, 20 - suf.length = k + 1 := ⟨19 - suf.length, by omega⟩
      rw [hk] at h6 h7 hrow ⊢
      have hw : wrapv .i64 (Int.sub (.ofNat (k + 1)) (.ofNat 1)) = .ofNat k := by
        rw [w64_id (by unfold In64; show _ ≤ ((k + 1 : Nat) : Int) - 1 ∧ ((k + 1 : Nat) : Int) - 1 ≤ _; omega)]
        show ((k + 1 : Nat) : Int) - 1 = (k : Int); omega
      have hd : wrapv .u8 (wrapv .u64 (Int.add (.ofNat 48) (Int.tmod (.ofNat a) (.ofNat 10)))) = .ofNat (48 + a % 10) := by
        have : Int.tmod (.ofNat a) (.ofNat 10) = .ofNat (a % 10) := rfl
        rw [this, add_nat, wrapv_small .u64 _ (show 48 + a % 10 ≤ 18446744073709551615 by omega), wrapv_small .u8 _ (show 48 + a % 10 ≤ 255 by omega)]
      simp only [ptrk_ptr, hw, natk_ofNat, hd, u64_div ha, ilt_nat]
      have hb : Nat.blt k 20 = true := blt_of (by omega)
      rw [hb, ifk_true]
      have hl20 : (zeros (k + 1) ++ suf.map bV).length = 20 := by simp [zeros]; omega
      obtain ⟨h8, s1, s2, s3⟩ := storek_law hrow (o := k) (vs := [bV (48 + a % 10)]) (n := 1) rfl (by rw [hl20]; omega)
      have hst : ∀ K, words.store h' h.nx (Nat.add 0 k) 1 [.int .u8 (.ofNat (48 + a % 10))] K = K h8 := by
        intro K; rw [show Nat.add 0 k = k from Nat.zero_add k]; exact s1 K
      rw [hst]
      rw [zeros_set] at s2
      have hr20 : 20 - ((48 + a % 10) :: suf).length = k := by simp; omega
      by_cases h10 : a < 10
      · have e10 : a / 10 = 0 := by omega
        rw [e10, show decide (0 < 0) = false from rfl]
        refine ih _ _ 0 (by omega) ⟨0, (48 + a % 10) :: suf, false, (fun e => by cases e), fun _ => ⟨?_, rfl⟩, by simp; omega, s3.nx.trans hnx, fun b hb => (s3.get b hb).trans (hoth b hb), by rw [hr20]; exact s2, by rw [hr20], by omega⟩
        rw [h6, dec, if_pos h10, show a % 10 = a by omega]; rfl
      · rw [show decide (0 < a / 10) = true from decide_eq_true (by omega)]
        rw [Nat.pow_succ] at h7
        have hk0 : 0 < k := by
          rcases Nat.eq_zero_or_pos k with rfl | hk0
          · simp at h7; omega
          · exact hk0
        refine ih _ _ k (by omega) ⟨a / 10, (48 + a % 10) :: suf, true, fun _ => ⟨by simp; omega, hr20.symm, ?_, by rw [hr20]; omega⟩, (fun e => by cases e), by simp; omega, s3.nx.trans hnx, fun b hb => (s3.get b hb).trans (hoth b hb), by rw [hr20]; exact s2, by rw [hr20], by omega⟩
        rw [h6, dec, if_neg h10, hr20, List.append_assoc]; rfl
  rintro r ⟨h3, hnx, hoth, hrow, rfl⟩
  have hl20 : (zeros (20 - (dec 20 N).length) ++ (dec 20 N).map bV).length = 20 := by simp [zeros]; omega
  generalize hD : zeros (20 - (dec 20 N).length) ++ (dec 20 N).map bV = D at hrow hl20 ⊢
  have r3 : Row (h3.t.get h1.nx) 1 (zeros 20) := by rw [hoth _ hp.symm]; exact r2
  obtain ⟨h4, s1, s2, s3⟩ := storek_law r3 (o := 0) (vs := D) (n := 20) hl20 (by simp [zeros])
  have hsp : splice (zeros 20) 0 D = D := by
    unfold splice; rw [hl20]; simp [zeros]
  rw [hsp] at s2
  refine ⟨h4, ⟨?_, fun b hb => ?_⟩, ?_⟩
  · rw [s3.nx, hnx]; have := n1.lt; have := n2.lt; omega
  · have hb0 : b ≠ h.nx := by rintro rfl; omega
    have hb1 : b ≠ h1.nx := by rintro rfl; have := n1.lt; omega
    rw [s3.get b hb1, hoth b hb0, n2.get b hb1, n1.get b hb0]
  · simp only [contk_done, unc_cons, castI_int, nilk'_nil, nork_normal, ptrk_ptr]
    have e1 : ∀ K, words.load h3 h.nx 0 20 K = K D := fun K => (loadk_law hrow (o := 0) (n := 20) (by rw [hl20]; omega) K).trans (by rw [List.drop_zero, List.take_of_length_le (by omega)])
    have e2 : ∀ K, words.store h3 h1.nx 0 20 D K = K h4 := s1
    have e3 : ∀ K, loadk h4 h1.nx 0 20 K = K D := fun K => (loadk_law s2 (o := 0) (n := 20) (by rw [hl20]; omega) K).trans (by rw [List.drop_zero, List.take_of_length_le (by omega)])
    rw [e1, e2, e3, w64_id (by unfold In64; show _ ≤ (20 : Int) - ((20 - (dec 20 N).length : Nat) : Int) ∧ (20 : Int) - ((20 - (dec 20 N).length : Nat) : Int) ≤ _; omega)]
    rw [show Int.sub (.ofNat 20) (.ofNat (20 - (dec 20 N).length)) = .ofNat (dec 20 N).length by show (20 : Int) - ((20 - (dec 20 N).length : Nat) : Int) = ((dec 20 N).length : Int); omega]
structure CallD (cf : CF) : Prop where
  digits : ∀ (N : Nat) h, N ≤ 18446744073709551615 → ∃ h', Up h h' ∧ cf ⟨.d0, .d0, .d2, .d1⟩ [.agg 20 (zeros 20), .int .u64 (.ofNat N)] h = .ret (.tup [.agg 20 (zeros (20 - (dec 20 N).length) ++ (dec 20 N).map bV), .int .i64 (.ofNat (dec 20 N).length)]) h'
theorem str_law (C : CallD cf) {a : Int} (ha : In64 a) : ∃ h', Up h h' ∧ sh18 words n cf [.int .i64 a] h = .ret (sV (strB a)) h' := by
  obtain ⟨h1, u1, c1⟩ := C.digits a.natAbs h (by unfold In64 at ha; omega)
  have hlen := dec_length 20 a.natAbs
  have hpos : 0 < (dec 20 a.natAbs).length := List.length_pos_iff.2 (dec_pos 19 _)
  obtain ⟨h2, k2, g2, n2⟩ := newk_law h1 (.arr 1 20 (repT [.int .u8 (.ofNat 0)] 20 20) false)
  have r2 : Row (h2.t.get h1.nx) 1 (zeros 20) := by rw [g2]; exact row_zero
  have hl20 : (zeros (20 - (dec 20 a.natAbs).length) ++ (dec 20 a.natAbs).map bV).length = 20 := by simp [zeros]; omega
  generalize hD : zeros (20 - (dec 20 a.natAbs).length) ++ (dec 20 a.natAbs).map bV = D at c1 hl20
  obtain ⟨h3, s1, s2, s3⟩ := storek_law r2 (o := 0) (vs := D) (n := 20) hl20 (by simp [zeros])
  have hsp : splice (zeros 20) 0 D = D := by
    unfold splice; rw [hl20]; simp [zeros]
  rw [hsp] at s2
  refine ⟨h3, u1.trans ⟨?_, fun b hb => ?_⟩, ?_⟩
  · rw [s3.nx]; have := n2.lt; omega
  · have hb1 : b ≠ h1.nx := by rintro rfl; omega
    rw [s3.get b hb1, n2.get b hb1]
  have w1 : words.new = Heap.newk := rfl
  have tail : ∀ (l m : Nat), l ≤ 1 → (fun (n22 n24 : Nat) => (backk (cf (.mk .d0 .d0 .d2 .d1) [.agg 20 (zeros 20), .int .u64 (.ofNat a.natAbs)] h) (fun v26 h28 => tupk v26 (fun l30 => unc l30 (fun v32 l34 => unc l34 (fun v36 l38 => castI .i64 v36 (fun i40 => nilk' l38 (words.new h28 (.arr 1 20 (repT [.int .u8 (.ofNat 0)] 20 20) .false) (fun p42 h44 => aggk v32 (fun n46 l48 => ifk (Nat.beq n46 20) (words.store h44 p42 0 20 l48 (fun h50 => words.sliceA 20 1 (.ptr p42 0) (.some (.int .i64 (wrapv .i64 (Int.sub (.ofNat 20) i40)))) .none h50 (fun v52 h54 => words.bytesS v52 h54 (fun v56 h58 => castS v56 (fun n60 n62 => short n22 (short n60 (.ret (.str (Nat.add n22 n60) (Nat.add n24 (Nat.mul n62 (Nat.pow 2 (Nat.mul 8 n22))))) h58))))))) .fail)))))))) (fun v64 h66 => .pan v64 h66))) l m = .ret (.str (Nat.add l (dec 20 a.natAbs).length) (Nat.add m (Nat.mul (packN (dec 20 a.natAbs)) (Nat.pow 2 (Nat.mul 8 l))))) h3 := by
    intro l m hl
    simp only [c1, backk_ret, tupk_tup, unc_cons, castI_int, nilk'_nil, w1, k2, aggk_agg, show Nat.beq 20 20 = true from rfl, ifk_true]
    have e2 : ∀ K, words.store h2 h1.nx 0 20 D K = K h3 := s1
    rw [e2]
    have hs : wrapv .i64 (Int.sub (.ofNat 20) (.ofNat (dec 20 a.natAbs).length)) = .ofNat (20 - (dec 20 a.natAbs).length) := by
      rw [w64_id (by unfold In64; show _ ≤ (20 : Int) - ((dec 20 a.natAbs).length : Int) ∧ (20 : Int) - ((dec 20 a.natAbs).length : Int) ≤ _; omega)]
      show (20 : Int) - ((dec 20 a.natAbs).length : Int) = ((20 - (dec 20 a.natAbs).length : Nat) : Int); omega
    rw [hs]
    generalize hL : (dec 20 a.natAbs).length = L at hlen hpos hD hs ⊢
    have e3 : ∀ K, words.sliceA 20 1 (.ptr h1.nx 0) (.some (.int .i64 (.ofNat (20 - L)))) .none h3 K = K (.slice h1.nx (20 - L) L (some L) 1) h3 := by
      intro K
      show ifk (Nat.ble (20 - L) 20) (ifk (Nat.ble 20 20) (ifk (Nat.beq 20 (20 - L)) (K .emp h3) (K (.slice h1.nx (Nat.add 0 (Nat.mul (20 - L) 1)) (Nat.sub 20 (20 - L)) (some (Nat.sub 20 (20 - L))) 1) h3)) .fail) .fail = _
      rw [ble_of (show 20 - L ≤ 20 by omega), ifk_true, show Nat.ble 20 20 = true from rfl, ifk_true, beq_not (show 20 ≠ 20 - L by omega), ifk_false]
      rw [show Nat.sub 20 (20 - L) = L by show 20 - (20 - L) = L; omega, show Nat.add 0 (Nat.mul (20 - L) 1) = 20 - L by show 0 + (20 - L) * 1 = _; omega]
    rw [e3]
    have hdr : D.drop (20 - L) = (dec 20 a.natAbs).map bV := by
      rw [← hD, List.drop_append_of_le_length (by simp [zeros])]
      simp [zeros]
    have hml : ((dec 20 a.natAbs).map bV).length = L := by rw [List.length_map, hL]
    have is : IsS h3 (.slice h1.nx (20 - L) L (some L) 1) ((dec 20 a.natAbs).map bV) := by
      have := IsS.sl h1.nx (20 - L) (some L) false D ((dec 20 a.natAbs).map bV) s2 (by omega) (by rw [hdr, List.take_length]) (fun n e => by cases e; omega)
      rw [hml] at this
      exact this
    rw [bytesS_law is (dec_bytes 20 _)]
    simp only [castS_str, hL]
    rw [short_law (by omega), short_law (by omega)]
  unfold sh18
  simp only [unc_cons, castI_int, nilk'_nil, ilt_eq]
  unfold In64 at ha
  by_cases h0 : a < 0
  · have e : wrapv .u64 (Int.sub (.ofNat 0) (wrapv .u64 a)) = .ofNat a.natAbs := by
      rw [wu64, wu64]; show ((0 : Int) - a % _) % _ = (a.natAbs : Int); omega
    rw [show decide (a < .ofNat 0) = true from decide_eq_true h0, ifk_true, e]
    simp only [contk_done, unc_cons, castI_int, castS_str, nilk'_nil, nork_normal]
    refine (tail 1 45 (by omega)).trans ?_
    rw [show strB a = [45] ++ dec 20 a.natAbs by unfold strB; rw [if_pos h0]; rfl, ← cat_law]
    rfl
  · have e : wrapv .u64 a = .ofNat a.natAbs := by
      rw [wu64]; show a % _ = (a.natAbs : Int); omega
    rw [show decide (a < .ofNat 0) = false from decide_eq_false h0, ifk_false, e]
    simp only [contk_done, unc_cons, castI_int, castS_str, nilk'_nil, nork_normal]
    refine (tail 0 0 (by omega)).trans ?_
    rw [show strB a = [] ++ dec 20 a.natAbs by unfold strB; rw [if_neg h0]; rfl, ← cat_law]
    rfl
end Go.Ev.W04
