/- EVALUATOR: blocks that are no cells; going over a string. -/
import Derived.Test.YtacpbnjbbkhngaaGreatDoorEvOps3
import Derived.Test.YtacpbnjbbkhngaaGreatDoorEvVal
namespace Go.Ev
variable {P : Program}

/- GOING OVER A STRING -/
/-- the byte at place i of a string that is a number -/
def byt (n i : Nat) : Nat := Nat.mod (Nat.div n (Nat.pow 2 (Nat.mul 8 i))) 256
/-- is there a byte that goes on -/
noncomputable def cnt (l n i : Nat) : Bool := Bool.rec (motive := fun _ => Bool) false (Nat.beq (Nat.div (byt n i) 64) 2) (Nat.blt i l)
def c2 (n p : Nat) : Nat := Nat.add (Nat.mul (Nat.mod (byt n p) 32) 64) (Nat.mod (byt n (Nat.add p 1)) 64)
def c3 (n p : Nat) : Nat := Nat.add (Nat.add (Nat.mul (Nat.mod (byt n p) 16) 4096) (Nat.mul (Nat.mod (byt n (Nat.add p 1)) 64) 64)) (Nat.mod (byt n (Nat.add p 2)) 64)
def c4 (n p : Nat) : Nat := Nat.add (Nat.add (Nat.add (Nat.mul (Nat.mod (byt n p) 8) 262144) (Nat.mul (Nat.mod (byt n (Nat.add p 1)) 64) 4096)) (Nat.mul (Nat.mod (byt n (Nat.add p 2)) 64) 64)) (Nat.mod (byt n (Nat.add p 3)) 64)
noncomputable def vld (c : Nat) : Bool := Bool.rec (motive := fun _ => Bool) (Bool.rec (motive := fun _ => Bool) false (Nat.ble c 1114111) (Nat.ble 57344 c)) true (Nat.blt c 55296)
/-- the rune at a place, and how many bytes it takes -/
noncomputable def runek (l n p : Nat) (k : Nat → Nat → Res) : Res :=
  ifk (Nat.blt (byt n p) 128) (k (byt n p) 1)
    (ifk (and (Nat.beq (Nat.div (byt n p) 32) 6) (cnt l n (Nat.add p 1))) (ifk (Nat.ble 128 (c2 n p)) (k (c2 n p) 2) (k 65533 1))
      (ifk (and (and (Nat.beq (Nat.div (byt n p) 16) 14) (cnt l n (Nat.add p 1))) (cnt l n (Nat.add p 2))) (ifk (and (Nat.ble 2048 (c3 n p)) (vld (c3 n p))) (k (c3 n p) 3) (k 65533 1))
        (ifk (and (and (and (Nat.beq (Nat.div (byt n p) 8) 30) (cnt l n (Nat.add p 1))) (cnt l n (Nat.add p 2))) (cnt l n (Nat.add p 3))) (ifk (and (Nat.ble 65536 (c4 n p)) (vld (c4 n p))) (k (c4 n p) 4) (k 65533 1)) (k 65533 1))))
theorem byt_get {s : ByteArray} {l n : Nat} (h : s.data.toList = dig l n) (hn : n < 256 ^ l) (i : Nat) : (s.get! i).toNat = byt n i := by
  have hs : s.data.size = l := by have := congrArg List.length h; rw [dig_length] at this; simpa using this
  show (s.data[i]!).toNat = n / 2 ^ (8 * i) % 256
  rw [← pow256]
  by_cases hi : i < l
  · have h1 := dig_get (n := n) hi
    rw [← h, Array.getElem?_toList] at h1
    rw [getElem!_def, h1]
    simp
  · rw [getElem!_def, Array.getElem?_eq_none (by omega)]
    have : n < 256 ^ i := Nat.lt_of_lt_of_le hn (Nat.pow_le_pow_right (by decide) (by omega))
    rw [Nat.div_eq_of_lt this]; rfl
theorem nbeq (a b : Nat) : Nat.beq a b = (a == b) := by rw [Bool.eq_iff_iff, Nat.beq_eq, beq_iff_eq]
theorem cnt_eq (l n i : Nat) : cnt l n i = (decide (i < l) && (byt n i / 64 == 2)) := by
  unfold cnt
  have : Nat.blt i l = decide (i < l) := by rw [Bool.eq_iff_iff]; simp [Nat.blt_eq]
  rw [this, nbeq]
  cases decide (i < l) <;> rfl
theorem vld_eq (c : Nat) : vld c = Utf8.valid (c : Int) := by
  unfold vld Utf8.valid
  have h1 : Nat.blt c 55296 = decide (c < 55296) := by rw [Bool.eq_iff_iff]; simp [Nat.blt_eq]
  have h2 : Nat.ble 57344 c = decide (57344 ≤ c) := by rw [Bool.eq_iff_iff]; simp
  have h3 : Nat.ble c 1114111 = decide (c ≤ 1114111) := by rw [Bool.eq_iff_iff]; simp
  rw [h1, h2, h3]
  have e1 : decide (c < 55296) = (decide ((0 : Int) ≤ (c : Int)) && decide ((c : Int) < 0xD800)) := by rw [Bool.eq_iff_iff]; simp; omega
  have e2 : decide (57344 ≤ c) = decide ((0xE000 : Int) ≤ (c : Int)) := by rw [Bool.eq_iff_iff]; simp; omega
  have e3 : decide (c ≤ 1114111) = decide ((c : Int) ≤ 0x10FFFF) := by rw [Bool.eq_iff_iff]; simp; omega
  rw [e1, e2, e3]
  cases (decide ((0 : Int) ≤ (c : Int)) && decide ((c : Int) < 0xD800)) <;> cases decide ((0xE000 : Int) ≤ (c : Int)) <;> cases decide ((c : Int) ≤ 0x10FFFF) <;> rfl
theorem runek_eq {s : ByteArray} {l n : Nat} (h : s.data.toList = dig l n) (hn : n < 256 ^ l) (p : Nat) (k : Nat → Nat → Res) : runek l n p k = k (Utf8.decode s p).1 (Utf8.decode s p).2 := by
  have hs : s.size = l := by have := congrArg List.length h; rw [dig_length] at this; exact this
  have hb := fun i => byt_get h hn i
  have f1 : ∀ a b, Nat.blt a b = decide (a < b) := fun a b => by rw [Bool.eq_iff_iff]; simp [Nat.blt_eq]
  have f2 : ∀ a b, Nat.ble a b = decide (a ≤ b) := fun a b => by rw [Bool.eq_iff_iff]; simp
  have f3 := nbeq
  unfold runek Utf8.decode
  simp only [ifk_eq, f1, f2, f3, cnt_eq, vld_eq, hb, hs, Nat.add_zero, Utf8.runeError]
  by_cases c1 : byt n p < 128
  · simp only [c1, decide_true, if_true]
  · simp only [c1, decide_false, if_false, Bool.false_eq_true]
    have a1 : ∀ a b : Nat, Nat.add a b = a + b := fun _ _ => rfl
    have a2 : ∀ a b : Nat, Nat.div a b = a / b := fun _ _ => rfl
    have e2 : c2 n p = byt n p % 32 * 64 + byt n (p + 1) % 64 := rfl
    have e3 : c3 n p = byt n p % 16 * 4096 + byt n (p + 1) % 64 * 64 + byt n (p + 2) % 64 := rfl
    have e4 : c4 n p = byt n p % 8 * 262144 + byt n (p + 1) % 64 * 4096 + byt n (p + 2) % 64 * 64 + byt n (p + 3) % 64 := rfl
    simp only [a1, a2, ← e2, ← e3, ← e4, ge_iff_le]
    generalize (byt n p / 32 == 6 && (decide (p + 1 < l) && byt n (p + 1) / 64 == 2)) = b2
    generalize (byt n p / 16 == 14 && (decide (p + 1 < l) && byt n (p + 1) / 64 == 2) && (decide (p + 2 < l) && byt n (p + 2) / 64 == 2)) = b3
    generalize (byt n p / 8 == 30 && (decide (p + 1 < l) && byt n (p + 1) / 64 == 2) && (decide (p + 2 < l) && byt n (p + 2) / 64 == 2) && (decide (p + 3 < l) && byt n (p + 3) / 64 == 2)) = b4
    generalize (decide (2048 ≤ c3 n p) && Utf8.valid (c3 n p : Int)) = b5
    generalize (decide (65536 ≤ c4 n p) && Utf8.valid (c4 n p : Int)) = b6
    cases b2
    · cases b3
      · cases b4
        · rfl
        · cases b6 <;> rfl
      · cases b5 <;> rfl
    · by_cases h2 : 128 ≤ c2 n p
      · simp only [h2, decide_true, if_true]
      · simp only [h2, decide_false, if_true, if_false, Bool.false_eq_true]

noncomputable def sRngS (v : V) (h : Heap) (k : V → Heap → Res) : Res := strk v fun l n => h.newk (.ob (.it l n 0)) fun b h' => k (.ptr b 0) h'
theorem sRngS_ok {x : V} {h : Heap} {k : V → Heap → Res} {r : Res} (hh : sRngS x h k = r) (hr : r ≠ .fail) {ρ : Rho} {w : World} (rh : RH P ρ h w) {v : Value} (hv : VR ρ x v)
    {t : TypeId} (ht : P.underlying t = some .string) : Ok P ρ h w (Instr.range t v) k r := by
  obtain ⟨l, n, rfl, h1⟩ := strk_ok hh hr
  obtain ⟨s, rfl, e1, e2⟩ := hv.str_inv
  obtain ⟨nx, h2, h3⟩ := Heap.newk_ok h1 hr
  obtain ⟨h4, h5⟩ := alloc rh h2 (x := .ob (.it l n 0)) (o := .stringIter s 0) (S := 0) (fun g n t ro e => by cases e) (fun x' e => by cases e; exact ⟨e1, e2, rfl⟩)
  exact ⟨_, _, _, .pointer (some ⟨w.heap.size, 0, none⟩), _, h3, by simp [Instr.range, run_und ht], VR.ptr_new _ _ _ _, h4, h5⟩

/-- blocks that are no cells -/
noncomputable def obk (x : Blk) (k : Oth → Res) : Res := Blk.rec (motive := fun _ => Res) .fail (fun _ _ _ _ => .fail) k x
theorem obk_ok {x : Blk} {k : Oth → Res} {r : Res} (h : obk x k = r) (hr : r ≠ .fail) : ∃ o, x = .ob o ∧ k o = r := by
  cases x with
  | none => exact absurd h.symm hr
  | arr g n t ro => exact absurd h.symm hr
  | ob o => exact ⟨o, rfl, h⟩
noncomputable def itk (x : Oth) (k : Nat → Nat → Nat → Res) : Res := Oth.rec (motive := fun _ => Res) (fun _ _ => .fail) k (fun _ _ _ _ _ => .fail) (fun _ _ _ _ => .fail) (fun _ _ _ => .fail) (fun _ _ _ => .fail) x
theorem itk_ok {x : Oth} {k : Nat → Nat → Nat → Res} {r : Res} (h : itk x k = r) (hr : r ≠ .fail) : ∃ l n p, x = .it l n p ∧ k l n p = r := by
  cases x with
  | it l n p => exact ⟨l, n, p, rfl, h⟩
  | _ => exact absurd h.symm hr
noncomputable def mpk (x : Oth) (k : List ME → Nat → Res) : Res := Oth.rec (motive := fun _ => Res) k (fun _ _ _ => .fail) (fun _ _ _ _ _ => .fail) (fun _ _ _ _ => .fail) (fun _ _ _ => .fail) (fun _ _ _ => .fail) x
theorem mpk_ok {x : Oth} {k : List ME → Nat → Res} {r : Res} (h : mpk x k = r) (hr : r ≠ .fail) : ∃ es c, x = .mp es c ∧ k es c = r := by
  cases x with
  | mp es c => exact ⟨es, c, rfl, h⟩
  | _ => exact absurd h.symm hr
/-- the next rune of a string that is gone over -/
noncomputable def sNxtS (v : V) (h : Heap) (k : V → Heap → Res) : Res :=
  ptrk v fun b o => zk o (h.getk b fun x => obk x fun x => itk x fun l n p => ifk (Nat.blt p l)
    (runek l n p fun c wd => h.turnk b (.ob (.it l n (Nat.add p wd))) fun h' => k (.tup [.bool true, .int .i64 (.ofNat p), .int .i32 (.ofNat c)]) h')
    (k (.tup [.bool false]) h)) .fail
theorem zk_ok0 {n : Nat} {x y r : Res} (h : zk n x y = r) : (n = 0 ∧ x = r) ∨ (n ≠ 0 ∧ y = r) := by
  cases n with
  | zero => exact .inl ⟨rfl, h⟩
  | succ n => exact .inr ⟨by omega, h⟩
theorem sNxtS_ok {x : V} {h : Heap} {k : V → Heap → Res} {r : Res} (hh : sNxtS x h k = r) (hr : r ≠ .fail) {ρ : Rho} {w : World} (rh : RH P ρ h w) {v : Value} (hv : VR ρ x v) (t : TypeId) :
    Ok P ρ h w (Instr.next v true t) k r := by
  obtain ⟨b, o, rfl, h1⟩ := ptrk_ok hh hr
  obtain ⟨c, z, S, hb, rfl⟩ := hv.ptr_inv
  have h0 : o = 0 ∧ _ = r := (zk_ok0 h1).elim id fun h2 => absurd h2.2.symm hr
  obtain ⟨rfl, h1⟩ := h0
  rw [Heap.getk_eq] at h1
  obtain ⟨x, hx, h1⟩ := obk_ok h1 hr
  obtain ⟨l, n, p, rfl, h1⟩ := itk_ok h1 hr
  obtain ⟨ob, g1, g2, rfl, _⟩ := rh.ob b c z S _ hb hx
  have : ∃ s, ob = .stringIter s p ∧ s.data.toList = dig l n ∧ n < 256 ^ l := by
    cases ob <;> first | exact absurd g2 id | exact ⟨_, by rw [g2.2.2], g2.1, g2.2.1⟩
  obtain ⟨s, rfl, e1, e2⟩ := this
  have hsz := str_size e1
  have hget : (getObj c).run P w = .ok (.stringIter s p) w := by
    show Sem.run P (.getObj c .pure) w = _
    simp only [Sem.run, g1]
  rcases ifk_ne h1 with ⟨hp, h1⟩ | ⟨hp, h1⟩
  · have hp : p < s.size := by rw [hsz]; simpa [Nat.blt_eq] using hp
    rw [runek_eq e1 e2, Heap.turnk_eq] at h1
    have hlt := rh.lt _ _ _ _ hb
    obtain ⟨h10, h11⟩ := turn (w' := { w with heap := w.heap.setIfInBounds c (.stringIter s (p + (Utf8.decode s p).2)) }) rh hb (by rw [hx]; rfl) (x := .ob (.it l n (Nat.add p (Utf8.decode s p).2)))
      (o := .stringIter s (p + (Utf8.decode s p).2)) rfl rfl rfl (by simp) (by simp [hlt]) (fun k hk => by simp [Array.getElem?_setIfInBounds, Ne.symm hk]) (fun g n t ro e => by cases e) (fun x' e => by cases e; exact ⟨⟨e1, e2, rfl⟩, rfl⟩)
    refine ⟨_, _, _, .tuple #[.bool true, goInt p, .int .i32 (Utf8.decode s p).1], _, h1, ?_, .tup (.cons (.bool _) (.cons (.int _ _) (.cons (.int _ _) .nil))), h10, h11⟩
    have hset : ∀ o, (setObj c o).run P w = .ok () { w with heap := w.heap.setIfInBounds c o } := fun o => by
      show Sem.run P (.setObj c o (.pure ())) w = _
      simp only [Sem.run, g1]
    simp only [Instr.next, Nat.add_zero, Sem.run_bind, hget, Result.andThen_ok, if_pos hp, hset]
    rfl
  · have hp : ¬ p < s.size := by
      rw [hsz]; intro h'
      rw [show Nat.blt p l = true by simpa [Nat.blt_eq] using h'] at hp; cases hp
    refine .pure rh ⟨_, .tuple #[.bool false], h1, ?_, .tup (.cons (.bool _) .nil)⟩
    simp only [Instr.next, Nat.add_zero, Sem.run_bind, hget, Result.andThen_ok, if_neg hp]
    rfl

end Go.Ev
