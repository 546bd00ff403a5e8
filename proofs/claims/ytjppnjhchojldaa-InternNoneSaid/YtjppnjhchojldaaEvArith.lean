/- EVALUATOR, 6: numbers, bools and strings, as the kernel reckons with them and as the model does. -/
import Derived.Test.YtjppnjhchojldaaEvVal
namespace Go.Ev
variable {P : Program}

noncomputable def kno (k : IntKind) : Nat := IntKind.rec (motive := fun _ => Nat) 0 1 2 3 4 5 6 7 k
theorem kno_inj {a b : IntKind} (h : Nat.beq (kno a) (kno b) = true) : a = b := by cases a <;> cases b <;> first | rfl | exact absurd h (by decide)

/-- the bounds of a kind: what it holds above nought, and below -/
noncomputable def kmax (k : IntKind) : Nat := IntKind.rec (motive := fun _ => Nat) 127 32767 2147483647 9223372036854775807 255 65535 4294967295 18446744073709551615 k
noncomputable def kmin (k : IntKind) : Nat := IntKind.rec (motive := fun _ => Nat) 128 32768 2147483648 9223372036854775808 0 0 0 0 k

/-- a number wrapped -/
noncomputable def wrapv (k : IntKind) (n : Int) : Int :=
  Int.rec (motive := fun _ => Int) (fun m => Bool.rec (motive := fun _ => Int) (k.wrap (.ofNat m)) (.ofNat m) (Nat.ble m (kmax k)))
    (fun m => Bool.rec (motive := fun _ => Int) (k.wrap (.negSucc m)) (.negSucc m) (Nat.blt m (kmin k))) n
noncomputable def wrapk (k : IntKind) (n : Int) (c : Int → Res) : Res := c (wrapv k n)

theorem wrap_small (k : IntKind) (n : Int) (h1 : -(kmin k : Int) ≤ n) (h2 : n ≤ kmax k) : k.wrap n = n := by
  unfold IntKind.wrap
  cases k <;> simp only [kmin, kmax] at h1 h2 <;> simp [IntKind.bits, IntKind.signed] <;> omega
theorem wrapv_eq (k : IntKind) (n : Int) : wrapv k n = k.wrap n := by
  cases n with
  | ofNat m =>
    show Bool.rec (motive := fun _ => Int) (k.wrap (.ofNat m)) (.ofNat m) (Nat.ble m (kmax k)) = _
    cases h : Nat.ble m (kmax k) with
    | false => rfl
    | true =>
      have := Nat.le_of_ble_eq_true h
      exact (wrap_small k (.ofNat m) (by simp only [Int.ofNat_eq_natCast]; omega) (by simp only [Int.ofNat_eq_natCast]; omega)).symm
  | negSucc m =>
    show Bool.rec (motive := fun _ => Int) (k.wrap (.negSucc m)) (.negSucc m) (Nat.blt m (kmin k)) = _
    cases h : Nat.blt m (kmin k) with
    | false => rfl
    | true =>
      have : m < kmin k := Nat.le_of_ble_eq_true h
      exact (wrap_small k (.negSucc m) (by omega) (by omega)).symm
theorem wrapk_eq (k : IntKind) (n : Int) (c : Int → Res) : wrapk k n c = c (k.wrap n) := by rw [wrapk, wrapv_eq]

/- comparing -/
noncomputable def ieq (a b : Int) : Bool :=
  Int.rec (motive := fun _ => Bool) (fun m => Int.rec (motive := fun _ => Bool) (fun n => Nat.beq m n) (fun _ => false) b) (fun m => Int.rec (motive := fun _ => Bool) (fun _ => false) (fun n => Nat.beq m n) b) a
theorem ieq_eq (a b : Int) : ieq a b = (a == b) := by
  cases a with
  | ofNat m => cases b with
    | ofNat n => show Nat.beq m n = _; rw [Bool.eq_iff_iff]; simp only [Nat.beq_eq, beq_iff_eq, Int.ofNat_eq_natCast]; omega
    | negSucc n => show false = _; simp
  | negSucc m => cases b with
    | ofNat n => show false = _; simp
    | negSucc n => show Nat.beq m n = _; rw [Bool.eq_iff_iff]; simp [Nat.beq_eq]
noncomputable def ilt (a b : Int) : Bool :=
  Int.rec (motive := fun _ => Bool) (fun m => Int.rec (motive := fun _ => Bool) (fun n => Nat.blt m n) (fun _ => false) b) (fun m => Int.rec (motive := fun _ => Bool) (fun _ => true) (fun n => Nat.blt n m) b) a
theorem ilt_eq (a b : Int) : ilt a b = decide (a < b) := by
  cases a with
  | ofNat m => cases b with
    | ofNat n => show Nat.blt m n = _; rw [Bool.eq_iff_iff]; simp only [Nat.blt_eq, decide_eq_true_eq, Int.ofNat_eq_natCast]; omega
    | negSucc n => show false = _; symm; simp; omega
  | negSucc m => cases b with
    | ofNat n => show true = _; symm; simp; omega
    | negSucc n => show Nat.blt n m = _; rw [Bool.eq_iff_iff]; simp only [Nat.blt_eq, decide_eq_true_eq]; omega

/-- a Bool as a value -/
noncomputable def bk (b : Bool) (k : V → Res) : Res := k (.bool b)
theorem bk_eq (b : Bool) (k : V → Res) : bk b k = k (.bool b) := rfl

/- bits of numbers that are not below nought -/
noncomputable def bitv (f : Nat → Nat → Nat) (g : (n : Nat) → BitVec n → BitVec n → BitVec n) (kx : IntKind) (a b : Int) : Int :=
  Int.rec (motive := fun _ => Int) (fun m => Int.rec (motive := fun _ => Int)
      (fun n => Bool.rec (motive := fun _ => Int) (kx.wrap (g kx.bits (BitVec.ofInt kx.bits (.ofNat m)) (BitVec.ofInt kx.bits (.ofNat n))).toNat)
        (Bool.rec (motive := fun _ => Int) (kx.wrap (g kx.bits (BitVec.ofInt kx.bits (.ofNat m)) (BitVec.ofInt kx.bits (.ofNat n))).toNat) (.ofNat (f m n)) (Nat.ble n (kmax kx))) (Nat.ble m (kmax kx)))
      (fun n => kx.wrap (g kx.bits (BitVec.ofInt kx.bits (.ofNat m)) (BitVec.ofInt kx.bits (.negSucc n))).toNat) b)
    (fun m => kx.wrap (g kx.bits (BitVec.ofInt kx.bits (.negSucc m)) (BitVec.ofInt kx.bits b)).toNat) a
theorem kmax_lt (k : IntKind) : kmax k < 2 ^ k.bits ∧ (kmax k + 1 = 2 ^ k.bits ∨ kmax k + 1 = 2 ^ (k.bits - 1)) := by cases k <;> simp only [kmax, IntKind.bits] <;> decide
theorem ofInt_toNat {n m : Nat} (h : m < 2 ^ n) : (BitVec.ofInt n (.ofNat m)).toNat = m := by
  simp only [BitVec.toNat_ofInt, Int.ofNat_eq_natCast]
  have : ((m : Int) % ((2 ^ n : Nat) : Int)) = m := Int.emod_eq_of_lt (by omega) (by exact_mod_cast h)
  rw [this]; simp
theorem bitv_eq {f : Nat → Nat → Nat} {g : (n : Nat) → BitVec n → BitVec n → BitVec n} (hfg : ∀ n (x y : BitVec n), (g n x y).toNat = f x.toNat y.toNat)
    (hf : ∀ m n M, m < 2 ^ M → n < 2 ^ M → f m n < 2 ^ M) (kx : IntKind) (a b : Int) : bitv f g kx a b = kx.wrap (g kx.bits (BitVec.ofInt kx.bits a) (BitVec.ofInt kx.bits b)).toNat := by
  cases a with
  | ofNat m => cases b with
    | ofNat n =>
      show Bool.rec (motive := fun _ => Int) _ (Bool.rec (motive := fun _ => Int) _ (.ofNat (f m n)) (Nat.ble n (kmax kx))) (Nat.ble m (kmax kx)) = _
      cases h1 : Nat.ble m (kmax kx) with
      | false => rfl
      | true =>
        cases h2 : Nat.ble n (kmax kx) with
        | false => rfl
        | true =>
          have h1 := Nat.le_of_ble_eq_true h1
          have h2 := Nat.le_of_ble_eq_true h2
          obtain ⟨h3, h4⟩ := kmax_lt kx
          show Int.ofNat (f m n) = _
          rw [hfg, ofInt_toNat (by omega), ofInt_toNat (by omega)]
          have h5 : f m n ≤ kmax kx := by
            rcases h4 with h4 | h4
            · have := hf m n kx.bits (by omega) (by omega); omega
            · have := hf m n (kx.bits - 1) (by omega) (by omega); omega
          exact (wrap_small kx _ (by simp only [Int.ofNat_eq_natCast]; omega) (by simp only [Int.ofNat_eq_natCast]; omega)).symm
    | negSucc n => rfl
  | negSucc m => rfl
noncomputable def band (k : IntKind) (a b : Int) : Int := bitv Nat.land (fun _ x y => x &&& y) k a b
noncomputable def bor (k : IntKind) (a b : Int) : Int := bitv Nat.lor (fun _ x y => x ||| y) k a b
noncomputable def bxor (k : IntKind) (a b : Int) : Int := bitv Nat.xor (fun _ x y => x ^^^ y) k a b
noncomputable def bano (k : IntKind) (a b : Int) : Int := bitv (fun m n => Nat.xor m (Nat.land m n)) (fun _ x y => x &&& ~~~y) k a b
theorem and_lt (m n M : Nat) (h : m < 2 ^ M) (_ : n < 2 ^ M) : Nat.land m n < 2 ^ M := Nat.lt_of_le_of_lt Nat.and_le_left h
theorem or_lt (m n M : Nat) (h : m < 2 ^ M) (h' : n < 2 ^ M) : Nat.lor m n < 2 ^ M := Nat.or_lt_two_pow h h'
theorem xor_lt (m n M : Nat) (h : m < 2 ^ M) (h' : n < 2 ^ M) : Nat.xor m n < 2 ^ M := Nat.xor_lt_two_pow h h'

theorem ano_lt (m n M : Nat) (h : m < 2 ^ M) (h' : n < 2 ^ M) : Nat.xor m (Nat.land m n) < 2 ^ M := xor_lt _ _ _ h (and_lt m n M h h')
theorem ano_nat (n : Nat) (x y : BitVec n) : (x &&& ~~~y).toNat = Nat.xor x.toNat (Nat.land x.toNat y.toNat) := by
  have : x &&& ~~~y = x ^^^ (x &&& y) := by
    apply BitVec.eq_of_getLsbD_eq
    intro i hi
    simp [hi]
    cases x[i] <;> cases y[i] <;> rfl
  rw [this, BitVec.toNat_xor, BitVec.toNat_and]; rfl

/- THE OPERATIONS ON NUMBERS. -/
noncomputable def arith (f : Int → Int → Int) (x y : V) (k : V → Res) : Res :=
  intk x fun kx a => intk y fun ky b => ifk (Nat.beq (kno kx) (kno ky)) (wrapk kx (f a b) fun n => k (.int kx n)) .fail
noncomputable def cmpi (f : Int → Int → Bool) (x y : V) (k : V → Res) : Res :=
  intk x fun kx a => intk y fun ky b => ifk (Nat.beq (kno kx) (kno ky)) (bk (f a b) k) .fail
noncomputable def bits2 (f : IntKind → Int → Int → Int) (x y : V) (k : V → Res) : Res :=
  intk x fun kx a => intk y fun ky b => ifk (Nat.beq (kno kx) (kno ky)) (k (.int kx (f kx a b))) .fail
noncomputable def divk (f : Int → Int → Int) (x y : V) (k : V → Res) : Res :=
  intk x fun kx a => intk y fun ky b => ifk (Nat.beq (kno kx) (kno ky)) (ifk (ieq b 0) .fail (k (.int kx (f a b)))) .fail
noncomputable def quok (x y : V) (k : V → Res) : Res :=
  intk x fun kx a => intk y fun ky b => ifk (Nat.beq (kno kx) (kno ky)) (ifk (ieq b 0) .fail (wrapk kx (Int.tdiv a b) fun n => k (.int kx n))) .fail
/-- a quotient rounded down; the divisor is above nought -/
noncomputable def shrv (a : Int) (d : Nat) : Int := Int.rec (motive := fun _ => Int) (fun m => .ofNat (Nat.div m d)) (fun m => Int.fdiv (.negSucc m) (.ofNat d)) a
theorem shrv_eq (a : Int) (d : Nat) : shrv a d = Int.fdiv a (.ofNat d) := by
  cases a with
  | ofNat m =>
    show Int.ofNat (m / d) = _
    rw [Int.fdiv_eq_ediv_of_nonneg _ (by simp)]
    rfl
  | negSucc m => rfl
noncomputable def natk (i : Int) (k : Nat → Res) : Res := Int.rec (motive := fun _ => Res) (fun m => k m) (fun _ => .fail) i
theorem natk_ok {i : Int} {k : Nat → Res} {r : Res} (h : natk i k = r) (hr : r ≠ .fail) : ∃ m : Nat, i = m ∧ k m = r := by
  cases i with
  | ofNat m => exact ⟨m, rfl, h⟩
  | negSucc m => exact absurd (show Res.fail = r from h).symm hr
noncomputable def shlk (x y : V) (k : V → Res) : Res :=
  intk x fun kx a => intk y fun _ b => natk b fun m => wrapk kx (Int.mul a (.ofNat (Nat.pow 2 (Nat.min m kx.bits)))) fun n => k (.int kx n)
noncomputable def shrk (x y : V) (k : V → Res) : Res :=
  intk x fun kx a => intk y fun _ b => natk b fun m => k (.int kx (shrv a (Nat.pow 2 (Nat.min m kx.bits))))
noncomputable def binI (o : BinOp) : V → V → (V → Res) → Res :=
  BinOp.rec (motive := fun _ => V → V → (V → Res) → Res)
    (arith Int.add) (arith Int.sub) (arith Int.mul) quok (divk Int.tmod) (bits2 band) (bits2 bor) (bits2 bxor)
    shlk shrk (bits2 bano)
    (cmpi ieq) (cmpi fun a b => not (ieq a b)) (cmpi ilt) (cmpi fun a b => not (ilt b a)) (cmpi fun a b => ilt b a) (cmpi fun a b => not (ilt a b)) o

theorem int2_ok {G : IntKind → Int → Int → Res} {x y : V} {r : Res} (h : (intk x fun kx a => intk y fun ky b => ifk (Nat.beq (kno kx) (kno ky)) (G kx a b) .fail) = r) (hr : r ≠ .fail) :
    ∃ kx p q, x = .int kx p ∧ y = .int kx q ∧ G kx p q = r := by
  obtain ⟨kx, p, e1, h1⟩ := intk_ok h hr
  obtain ⟨ky, q, e2, h2⟩ := intk_ok h1 hr
  obtain ⟨hk, h3⟩ := ifk_fail h2 hr
  obtain rfl := kno_inj hk
  exact ⟨kx, p, q, e1, e2, h3⟩
theorem VR.int_inv {ρ : Rho} {k : IntKind} {n : Int} {x : Value} (h : VR ρ (.int k n) x) : x = .int k n := by cases h; rfl
theorem guard_int (o : BinOp) (t : TypeId) (X Y : Operand) (w : World) (kx ky : IntKind) (p q : Int) :
    (do eqGuard o t X Y (.int kx p) (.int ky q); binOp o t (.int kx p) (.int ky q) : Sem Value).run P w = (binOp o t (.int kx p) (.int ky q)).run P w := by
  have : (eqGuard o t X Y (.int kx p) (.int ky q)).run P w = .ok () w := by unfold eqGuard; cases o <;> rfl
  rw [Sem.run_bind, this]; rfl

theorem binI_ok {o : BinOp} {x y : V} {k : V → Res} {r : Res} (h : binI o x y k = r) (hr : r ≠ .fail) {ρ : Rho} {a b : Value} (ha : VR ρ x a) (hb : VR ρ y b) (t : TypeId) (X Y : Operand) (w : World) :
    ∃ u z, k u = r ∧ (do eqGuard o t X Y a b; binOp o t a b : Sem Value).run P w = .ok z w ∧ VR ρ u z ∧ z.oneCell' = true := by
  cases o
  case add | sub | mul =>
    obtain ⟨kx, p, q, rfl, rfl, h1⟩ := int2_ok (G := fun kx a b => wrapk kx _ fun n => k (.int kx n)) h hr
    rw [ha.int_inv, hb.int_inv]
    rw [wrapk_eq] at h1
    exact ⟨_, _, h1, by rw [guard_int]; simp [binOp, Op.intArith] <;> rfl, .int _ _, rfl⟩
  case quo =>
    obtain ⟨kx, p, q, rfl, rfl, h1⟩ := int2_ok (G := fun kx a b => ifk (ieq b 0) .fail (wrapk kx (Int.tdiv a b) fun n => k (.int kx n))) h hr
    rw [ha.int_inv, hb.int_inv]
    rcases ifk_ne h1 with ⟨_, h2⟩ | ⟨h0, h2⟩
    · exact absurd h2.symm hr
    · rw [ieq_eq] at h0
      have h0 : q ≠ 0 := by simpa using h0
      rw [wrapk_eq] at h2
      exact ⟨_, _, h2, by rw [guard_int]; simp [binOp, Op.intDiv, h0], .int _ _, rfl⟩
  case rem =>
    obtain ⟨kx, p, q, rfl, rfl, h1⟩ := int2_ok (G := fun kx a b => ifk (ieq b 0) .fail (k (.int kx (Int.tmod a b)))) h hr
    rw [ha.int_inv, hb.int_inv]
    rcases ifk_ne h1 with ⟨_, h2⟩ | ⟨h0, h2⟩
    · exact absurd h2.symm hr
    · rw [ieq_eq] at h0
      have h0 : q ≠ 0 := by simpa using h0
      exact ⟨_, _, h2, by rw [guard_int]; simp [binOp, Op.intDiv, h0], .int _ _, rfl⟩
  case and =>
    obtain ⟨kx, p, q, rfl, rfl, h1⟩ := int2_ok (G := fun kx a b => k (.int kx (band kx a b))) h hr
    rw [ha.int_inv, hb.int_inv]
    have h2 : k (.int kx (kx.wrap (BitVec.ofInt kx.bits p &&& BitVec.ofInt kx.bits q).toNat)) = r := by rw [← h1, band, bitv_eq (fun n x y => by simp <;> rfl) and_lt]
    exact ⟨_, _, h2, by rw [guard_int]; simp [binOp, Op.intBits], .int _ _, rfl⟩
  case or =>
    obtain ⟨kx, p, q, rfl, rfl, h1⟩ := int2_ok (G := fun kx a b => k (.int kx (bor kx a b))) h hr
    rw [ha.int_inv, hb.int_inv]
    have h2 : k (.int kx (kx.wrap (BitVec.ofInt kx.bits p ||| BitVec.ofInt kx.bits q).toNat)) = r := by rw [← h1, bor, bitv_eq (fun n x y => by simp <;> rfl) or_lt]
    exact ⟨_, _, h2, by rw [guard_int]; simp [binOp, Op.intBits], .int _ _, rfl⟩
  case xor =>
    obtain ⟨kx, p, q, rfl, rfl, h1⟩ := int2_ok (G := fun kx a b => k (.int kx (bxor kx a b))) h hr
    rw [ha.int_inv, hb.int_inv]
    have h2 : k (.int kx (kx.wrap (BitVec.ofInt kx.bits p ^^^ BitVec.ofInt kx.bits q).toNat)) = r := by rw [← h1, bxor, bitv_eq (fun n x y => by simp <;> rfl) xor_lt]
    exact ⟨_, _, h2, by rw [guard_int]; simp [binOp, Op.intBits], .int _ _, rfl⟩
  case shl =>
    obtain ⟨kx, p, rfl, h1⟩ := intk_ok (show intk x (fun kx a => intk y fun _ b => natk b fun m => wrapk kx (Int.mul a (.ofNat (Nat.pow 2 (Nat.min m kx.bits)))) fun n => k (.int kx n)) = r from h) hr
    obtain ⟨ky, q, rfl, h2⟩ := intk_ok h1 hr
    rw [ha.int_inv, hb.int_inv]
    obtain ⟨m, rfl, h3⟩ := natk_ok h2 hr
    rw [wrapk_eq] at h3
    refine ⟨_, _, h3, ?_, .int _ _, rfl⟩
    rw [guard_int]
    have h0 : ¬ ((m : Int) < 0) := by omega
    simp only [binOp, Op.shift, h0, if_false]
    simp [Nat.min_def, Int.natCast_pow] <;> rfl
  case shr =>
    obtain ⟨kx, p, rfl, h1⟩ := intk_ok (show intk x (fun kx a => intk y fun _ b => natk b fun m => k (.int kx (shrv a (Nat.pow 2 (Nat.min m kx.bits))))) = r from h) hr
    obtain ⟨ky, q, rfl, h2⟩ := intk_ok h1 hr
    rw [ha.int_inv, hb.int_inv]
    obtain ⟨m, rfl, h3⟩ := natk_ok h2 hr
    rw [shrv_eq] at h3
    refine ⟨_, _, h3, ?_, .int _ _, rfl⟩
    rw [guard_int]
    have h0 : ¬ ((m : Int) < 0) := by omega
    simp only [binOp, Op.shift, h0, if_false]
    simp [Nat.min_def, Int.natCast_pow]
  case andNot =>
    obtain ⟨kx, p, q, rfl, rfl, h1⟩ := int2_ok (G := fun kx a b => k (.int kx (bano kx a b))) h hr
    rw [ha.int_inv, hb.int_inv]
    have h2 : k (.int kx (kx.wrap (BitVec.ofInt kx.bits p &&& ~~~BitVec.ofInt kx.bits q).toNat)) = r := by rw [← h1, bano, bitv_eq ano_nat ano_lt]
    exact ⟨_, _, h2, by rw [guard_int]; simp [binOp, Op.intBits], .int _ _, rfl⟩
  case eql | neq | lss | leq | gtr | geq =>
    obtain ⟨kx, p, q, rfl, rfl, h1⟩ := int2_ok (G := fun kx a b => bk _ k) h hr
    rw [ha.int_inv, hb.int_inv]
    rw [bk_eq] at h1
    refine ⟨_, _, h1, ?_, .bool _, rfl⟩
    rw [guard_int]
    simp only [ieq_eq, ilt_eq]
    simp only [binOp, ne_eq, not_true_eq_false, if_false, Op.intCmp, Sem.run_pure]
    all_goals first
      | rfl
      | (refine congrArg (fun b => Result.ok (Value.bool b) w) ?_
         rw [Bool.eq_iff_iff]
         simp
         try omega)
end Go.Ev
