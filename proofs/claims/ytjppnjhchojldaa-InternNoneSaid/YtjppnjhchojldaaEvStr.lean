/- EVALUATOR, 7: strings, packed into one number, the first byte lowest. -/
import Derived.Test.YtjppnjhchojldaaEvArith
import Derived.Laws.Strings
namespace Go.Ev
variable {P : Program}

theorem dig_length (l n : Nat) : (dig l n).length = l := by induction l generalizing n with | zero => rfl | succ l ih => simp [dig, ih]
theorem dig_inj {l n m : Nat} (hn : n < 256 ^ l) (hm : m < 256 ^ l) (h : dig l n = dig l m) : n = m := by
  induction l generalizing n m with
  | zero => simp at hn hm; omega
  | succ l ih =>
    simp only [dig, List.cons.injEq] at h
    obtain ⟨h1, h2⟩ := h
    have e1 : n % 256 = m % 256 := by
      have := congrArg UInt8.toNat h1
      simpa using this
    rw [Nat.pow_succ] at hn hm
    have := ih (by omega) (by omega) h2
    omega
theorem dig_append (l l' n m : Nat) (hn : n < 256 ^ l) : dig (l + l') (n + m * 256 ^ l) = dig l n ++ dig l' m := by
  induction l generalizing n with
  | zero => simp at hn; subst hn; simp [dig]
  | succ l ih =>
    have e : l + 1 + l' = (l + l') + 1 := by omega
    rw [e, dig, dig, List.cons_append]
    rw [Nat.pow_succ] at hn ⊢
    have e1 : (n + m * (256 ^ l * 256)) % 256 = n % 256 := by rw [← Nat.mul_assoc]; omega
    have e2 : (n + m * (256 ^ l * 256)) / 256 = n / 256 + m * 256 ^ l := by rw [← Nat.mul_assoc]; omega
    rw [e1, e2, ih (n / 256) (by omega)]
theorem dig_drop (a l n : Nat) : (dig (a + l) n).drop a = dig l (n / 256 ^ a) := by
  induction a generalizing n with
  | zero => simp
  | succ a ih =>
    have e : a + 1 + l = (a + l) + 1 := by omega
    rw [e, dig, List.drop_succ_cons, ih, Nat.pow_succ, Nat.div_div_eq_div_mul, Nat.mul_comm]
theorem dig_take (a l n : Nat) : (dig (a + l) n).take a = dig a (n % 256 ^ a) := by
  induction a generalizing n with
  | zero => simp [dig]
  | succ a ih =>
    have e : a + 1 + l = (a + l) + 1 := by omega
    rw [e, dig, List.take_succ_cons, ih, dig, Nat.pow_succ]
    have h1 : n % (256 ^ a * 256) % 256 = n % 256 := Nat.mod_mul_left_mod _ _ _
    have h2 : n % (256 ^ a * 256) / 256 = n / 256 % 256 ^ a := by rw [Nat.mul_comm, Nat.mod_mul_right_div_self]
    rw [h1, h2]
theorem dig_get {l n i : Nat} (h : i < l) : (dig l n)[i]? = some (UInt8.ofNat (n / 256 ^ i % 256)) := by
  obtain ⟨d, rfl⟩ : ∃ d, l = i + (d + 1) := ⟨l - i - 1, by omega⟩
  have : (dig (i + (d + 1)) n)[i]? = ((dig (i + (d + 1)) n).drop i)[0]? := by rw [List.getElem?_drop]; simp
  rw [this, dig_drop, dig]; rfl
theorem pow256 (i : Nat) : 256 ^ i = 2 ^ (8 * i) := by rw [Nat.pow_mul]

def pack : List UInt8 → Nat
  | [] => 0
  | b :: l => b.toNat + 256 * pack l
theorem pack_lt (l : List UInt8) : pack l < 256 ^ l.length := by
  induction l with
  | nil => simp [pack]
  | cons b l ih => have := b.toNat_lt; simp only [pack, List.length_cons, Nat.pow_succ]; omega
theorem dig_pack (l : List UInt8) : dig l.length (pack l) = l := by
  induction l with
  | nil => rfl
  | cons b l ih =>
    have h1 := b.toNat_lt
    simp only [pack, List.length_cons, dig]
    have e1 : (b.toNat + 256 * pack l) % 256 = b.toNat := by omega
    have e2 : (b.toNat + 256 * pack l) / 256 = pack l := by omega
    rw [e1, e2, ih]; simp

/- the operations -/
noncomputable def slt (f : Nat) : Nat → Nat → Nat → Nat → Bool :=
  Nat.rec (motive := fun _ => Nat → Nat → Nat → Nat → Bool) (fun _ _ _ _ => false)
    (fun _ ih l n l' m => Nat.rec (motive := fun _ => Bool) false (fun l'1 _ => Nat.rec (motive := fun _ => Bool) true (fun l1 _ =>
      Bool.rec (motive := fun _ => Bool) (Bool.rec (motive := fun _ => Bool) false (ih l1 (Nat.div n 256) l'1 (Nat.div m 256)) (Nat.beq (Nat.mod n 256) (Nat.mod m 256))) true (Nat.blt (Nat.mod n 256) (Nat.mod m 256))) l) l') f
theorem slt_eq (f l n l' m : Nat) (hf : l' < f) : slt f l n l' m = Op.bytesLess (dig l n) (dig l' m) := by
  induction f generalizing l n l' m with
  | zero => omega
  | succ f ih =>
    cases l' with
    | zero => cases l <;> rfl
    | succ l' =>
      cases l with
      | zero => rfl
      | succ l =>
        show Bool.rec (motive := fun _ => Bool) (Bool.rec (motive := fun _ => Bool) false (slt f l (n / 256) l' (m / 256)) (Nat.beq (n % 256) (m % 256))) true (Nat.blt (n % 256) (m % 256)) = _
        rw [ih _ _ _ _ (by omega)]
        simp only [dig, Op.bytesLess]
        have e1 : (UInt8.ofNat (n % 256) < UInt8.ofNat (m % 256)) = (n % 256 < m % 256) := by
          rw [UInt8.lt_iff_toNat_lt]; simp
        have e2 : (UInt8.ofNat (n % 256) == UInt8.ofNat (m % 256)) = Nat.beq (n % 256) (m % 256) := by
          rw [Bool.eq_iff_iff, Nat.beq_eq, beq_iff_eq]
          constructor
          · intro h; have := congrArg UInt8.toNat h; simpa using this
          · intro h; rw [h]
        have e3 : (decide (n % 256 < m % 256)) = Nat.blt (n % 256) (m % 256) := by rw [Bool.eq_iff_iff]; simp [Nat.blt_eq]
        simp only [e1, e2, e3]
        cases Nat.blt (n % 256) (m % 256) <;> cases Nat.beq (n % 256) (m % 256) <;> rfl
noncomputable def seq (l n l' m : Nat) : Bool := Bool.rec (motive := fun _ => Bool) false (Nat.beq n m) (Nat.beq l l')
theorem seq_eq {l n l' m : Nat} (hn : n < 256 ^ l) (hm : m < 256 ^ l') : seq l n l' m = (dig l n == dig l' m) := by
  unfold seq
  rw [Bool.eq_iff_iff, beq_iff_eq]
  cases hb : Nat.beq l l' with
  | false =>
    have : l ≠ l' := fun e => by subst e; simp at hb
    constructor
    · intro h; cases h
    · intro h; have := congrArg List.length h; rw [dig_length, dig_length] at this; contradiction
  | true =>
    obtain rfl := Nat.eq_of_beq_eq_true hb
    show Nat.beq n m = true ↔ _
    constructor
    · intro h; rw [Nat.eq_of_beq_eq_true h]
    · intro h; rw [dig_inj hn hm h]; simp

/-- so long that no length comes near to an int's bounds -/
noncomputable def short (l : Nat) (x : Res) : Res := ifk (Nat.ble l 2305843009213693952) x .fail

noncomputable def cmps (f : Nat → Nat → Nat → Nat → Bool) (x y : V) (k : V → Res) : Res := strk x fun l n => strk y fun l' m => bk (f l n l' m) k
noncomputable def cats (x y : V) (k : V → Res) : Res :=
  strk x fun l n => strk y fun l' m => short l (short l' (k (.str (Nat.add l l') (Nat.add n (Nat.mul m (Nat.pow 2 (Nat.mul 8 l)))))))
noncomputable def binS (o : BinOp) : V → V → (V → Res) → Res :=
  BinOp.rec (motive := fun _ => V → V → (V → Res) → Res)
    cats (fun _ _ _ => .fail) (fun _ _ _ => .fail) (fun _ _ _ => .fail) (fun _ _ _ => .fail) (fun _ _ _ => .fail) (fun _ _ _ => .fail) (fun _ _ _ => .fail) (fun _ _ _ => .fail)
    (fun _ _ _ => .fail) (fun _ _ _ => .fail)
    (cmps seq) (cmps fun l n l' m => not (seq l n l' m)) (cmps fun l n l' m => slt (Nat.succ l') l n l' m) (cmps fun l n l' m => or (slt (Nat.succ l') l n l' m) (seq l n l' m))
    (cmps fun l n l' m => not (or (slt (Nat.succ l') l n l' m) (seq l n l' m))) (cmps fun l n l' m => not (slt (Nat.succ l') l n l' m)) o

theorem short_ok {l : Nat} {x r : Res} (h : short l x = r) (hr : r ≠ .fail) : l ≤ 2305843009213693952 ∧ x = r := by
  obtain ⟨h1, h2⟩ := ifk_fail h hr
  exact ⟨Nat.le_of_ble_eq_true h1, h2⟩
theorem str_size {s : ByteArray} {l n : Nat} (h : s.data.toList = dig l n) : s.size = l := by
  have := congrArg List.length h
  rw [dig_length] at this
  exact this
theorem VR.str_inv {ρ : Rho} {l n : Nat} {x : Value} (h : VR ρ (.str l n) x) : ∃ s : ByteArray, x = .string s ∧ s.data.toList = dig l n ∧ n < 256 ^ l := by
  cases h with | str h hn => exact ⟨_, rfl, h, hn⟩
theorem guard_str (o : BinOp) (t : TypeId) (X Y : Operand) (w : World) (p q : ByteArray) :
    (do eqGuard o t X Y (.string p) (.string q); binOp o t (.string p) (.string q) : Sem Value).run P w = (Op.stringOp o p q).run P w := by
  have : (eqGuard o t X Y (.string p) (.string q)).run P w = .ok () w := by unfold eqGuard; cases o <;> rfl
  rw [Sem.run_bind, this]
  cases o <;> rfl
theorem cmps_ok {f : Nat → Nat → Nat → Nat → Bool} {x y : V} {k : V → Res} {r : Res} (h : cmps f x y k = r) (hr : r ≠ .fail) {ρ : Rho} {a b : Value} (ha : VR ρ x a) (hb : VR ρ y b) :
    ∃ l n l' m s s', a = .string s ∧ b = .string s' ∧ s.toList = dig l n ∧ s'.toList = dig l' m ∧ n < 256 ^ l ∧ m < 256 ^ l' ∧ k (.bool (f l n l' m)) = r := by
  obtain ⟨l, n, rfl, h1⟩ := strk_ok h hr
  obtain ⟨l', m, rfl, h2⟩ := strk_ok h1 hr
  obtain ⟨s, rfl, e1, e2⟩ := ha.str_inv
  obtain ⟨s', rfl, e3, e4⟩ := hb.str_inv
  rw [bk_eq] at h2
  exact ⟨l, n, l', m, s, s', rfl, rfl, by rw [ByteArray.toList_eq, e1], by rw [ByteArray.toList_eq, e3], e2, e4, h2⟩

theorem binS_ok {o : BinOp} {x y : V} {k : V → Res} {r : Res} (h : binS o x y k = r) (hr : r ≠ .fail) {ρ : Rho} {a b : Value} (ha : VR ρ x a) (hb : VR ρ y b) (t : TypeId) (X Y : Operand) (w : World) :
    ∃ u z, k u = r ∧ (do eqGuard o t X Y a b; binOp o t a b : Sem Value).run P w = .ok z w ∧ VR ρ u z ∧ z.oneCell' = true := by
  cases o
  case add =>
    obtain ⟨l, n, rfl, h1⟩ := strk_ok (show strk x (fun l n => strk y fun l' m => short l (short l' (k (.str (Nat.add l l') (Nat.add n (Nat.mul m (Nat.pow 2 (Nat.mul 8 l)))))))) = r from h) hr
    obtain ⟨l', m, rfl, h2⟩ := strk_ok h1 hr
    obtain ⟨hl, h3⟩ := short_ok h2 hr
    obtain ⟨hl', h4⟩ := short_ok h3 hr
    obtain ⟨s, rfl, e1, e2⟩ := ha.str_inv
    obtain ⟨s', rfl, e3, e4⟩ := hb.str_inv
    refine ⟨_, .string (s ++ s'), h4, ?_, .str ?_ ?_, rfl⟩
    · rw [guard_str]
      have hs := str_size e1
      have hs' := str_size e3
      have hlt : ¬ ((s.size + s'.size : Nat) : Int) > IntKind.i64.max := by
        rw [hs, hs']
        have : IntKind.i64.max = 9223372036854775807 := by decide
        rw [this]; omega
      simp only [Op.stringOp]
      rw [if_neg hlt]; rfl
    · show (s ++ s').data.toList = dig (l + l') (n + m * 2 ^ (8 * l))
      rw [← pow256, dig_append _ _ _ _ e2, ← e1, ← e3]; simp
    · show n + m * 2 ^ (8 * l) < 256 ^ (l + l')
      rw [← pow256, Nat.pow_add]
      have : m * 256 ^ l + 256 ^ l ≤ 256 ^ l' * 256 ^ l := by
        have := Nat.mul_le_mul_right (256 ^ l) (Nat.succ_le_of_lt e4)
        rw [Nat.succ_mul] at this; exact this
      rw [Nat.mul_comm (256 ^ l)]; omega
  case eql | neq | lss | leq | gtr | geq =>
    obtain ⟨l, n, l', m, s, s', rfl, rfl, e1, e2, e3, e4, h1⟩ := cmps_ok h hr ha hb
    refine ⟨_, _, h1, ?_, .bool _, rfl⟩
    rw [guard_str]
    simp only [Op.stringOp, e1, e2, slt_eq _ _ _ _ _ (Nat.lt_succ_self l'), seq_eq e3 e4]
    rfl
  all_goals exact absurd (show Res.fail = r from h).symm hr
end Go.Ev
