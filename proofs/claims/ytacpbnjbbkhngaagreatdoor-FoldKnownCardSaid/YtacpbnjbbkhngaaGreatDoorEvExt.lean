/- EVALUATOR: functions without a Go body: looking for a byte in a string, comparing two strings. -/
import Derived.Test.YtacpbnjbbkhngaaGreatDoorEvEx0
import Derived.Laws.StandIn
import Derived.Lib.Bytealg
import Derived.KernelRfl
namespace Go.Ev
variable {P : Program}

/- A FUNCTION WITHOUT A BODY, BY ITS NAME -/
theorem findNext_of {fn : Func} {a b : String} (h1 : fn.name = a) (h2 : fn.origin = b) (l1 : Extern.allNextRows.lookup a = none) (l2 : Extern.allNextRows.lookup b = none) : Extern.findNext fn = none := by
  unfold Extern.findNext
  simp only [h1, h2, l1, l2, Option.map_none]
  rfl
theorem find_of {fn : Func} {a : String} (h1 : fn.name = a) {e : Array Value → Sem Value} (l1 : Extern.allGenericRows.lookup a = none) (l2 : Extern.allTypedRows.lookup a = none) (l3 : Extern.allRows.lookup a = some e) : Extern.find fn = some e := by
  unfold Extern.find
  simp only [h1, l1, l2, l3, Option.map_none]
  rfl
/-- a function of this name and no body -/
def extF (P : Program) (g : Nat) (name : String) : Bool := match P.funcs[g]? with
  | some fn => fn.body.isNone && fn.name == name && fn.origin == ""
  | none => false
theorem extF_ok {g : Nat} {name : String} (h : extF P g name = true) : ∃ fn, P.funcs[g]? = some fn ∧ fn.body.isNone = true ∧ fn.name = name ∧ fn.origin = "" := by
  unfold extF at h
  split at h
  · rename_i fn hf
    simp only [Bool.and_eq_true, beq_iff_eq] at h
    exact ⟨fn, hf, h.1.1, h.1.2, h.2⟩
  · cases h
theorem next_none : Extern.allNextRows.lookup "" = none := by kernel_rfl

/- LOOKING FOR A BYTE -/
noncomputable def idxb (f : Nat) : Nat → Nat → Nat → (Int → Res) → Res :=
  Nat.rec (motive := fun _ => Nat → Nat → Nat → (Int → Res) → Res) (fun _ _ _ k => k (.negSucc 0))
    (fun _ ih i n c k => ifk (Nat.beq (Nat.mod n 256) c) (k (.ofNat i)) (ih (Nat.succ i) (Nat.div n 256) c k)) f
theorem idxb_eq (f i n c : Nat) (hc : c < 256) (k : Int → Res) : idxb f i n c k = k (if Lib.indexByte (dig f n) (UInt8.ofNat c) = -1 then -1 else Lib.indexByte (dig f n) (UInt8.ofNat c) + i) := by
  induction f generalizing i n with
  | zero => rfl
  | succ f ih =>
    show ifk (Nat.beq (n % 256) c) (k (.ofNat i)) (idxb f (i + 1) (n / 256) c k) = _
    rw [ifk_eq, ih]
    have e : (UInt8.ofNat (n % 256) == UInt8.ofNat c) = Nat.beq (n % 256) c := by
      rw [Bool.eq_iff_iff, Nat.beq_eq, beq_iff_eq]
      constructor
      · intro h
        have := congrArg UInt8.toNat h
        simp at this
        omega
      · intro h; rw [h]
    simp only [dig, Lib.indexByte, e]
    have hge := Lib.indexByte_ge (dig f (n / 256)) (UInt8.ofNat c)
    cases hb : Nat.beq (n % 256) c with
    | true => simp
    | false =>
      simp only [Bool.false_eq_true, if_false]
      by_cases h1 : Lib.indexByte (dig f (n / 256)) (UInt8.ofNat c) = -1
      · simp [h1]
      · have : (Lib.indexByte (dig f (n / 256)) (UInt8.ofNat c) == -1) = false := by simpa using h1
        rw [if_neg h1, this]
        simp only [Bool.false_eq_true, if_false]
        rw [if_neg (by omega)]
        congr 1; omega
noncomputable def sIdxB (x y : V) (h : Heap) (k : V → Heap → Res) : Res :=
  strk x fun l n => intk y fun kd c => ifk (Nat.beq (kno kd) 4) (natk c fun c => ifk (Nat.blt c 256) (idxb l 0 n c fun i => k (.int .i64 i) h) .fail) .fail
theorem sIdxB_ok {x y : V} {h : Heap} {k : V → Heap → Res} {r : Res} (hh : sIdxB x y h k = r) (hr : r ≠ .fail) {ρ : Rho} {w : World} {v u : Value} (hv : VR ρ x v) (hu : VR ρ y u)
    {g : Nat} (hg : extF P g "internal/bytealg.IndexByteString" = true) : ∃ u' y, k u' h = r ∧ (callFunc g #[v, u]).run P w = .ok (.value y) w ∧ VR ρ u' y := by
  obtain ⟨fn, h1, h2, h3, h4⟩ := extF_ok hg
  obtain ⟨l, n, rfl, h5⟩ := strk_ok hh hr
  obtain ⟨kd, c, rfl, h6⟩ := intk_ok h5 hr
  obtain ⟨hk, h7⟩ := ifk_fail h6 hr
  obtain ⟨c, rfl, h8⟩ := natk_ok h7 hr
  obtain ⟨hc, h9⟩ := ifk_fail h8 hr
  have hc : c < 256 := by simpa [Nat.blt_eq] using hc
  obtain rfl : kd = .u8 := by cases kd <;> first | rfl | exact absurd hk (by decide)
  obtain ⟨s, rfl, e1, e2⟩ := hv.str_inv
  rw [hu.int_inv]
  rw [idxb_eq _ _ _ _ hc] at h9
  refine ⟨_, .int .i64 (Lib.indexByte (dig l n) (UInt8.ofNat c)), h9, ?_, ?_⟩
  · rw [run_callFunc_standIn h1 (by rw [h3]; decide) h2 (findNext_of h3 h4 (by kernel_rfl) next_none) (e := Extern.BytealgIndexByte.indexByte) (find_of h3 (by kernel_rfl) (by kernel_rfl) (by kernel_rfl)),
      Lib.run_indexByteString, e1]
    simp [Result.andThen]
  · have : (if Lib.indexByte (dig l n) (UInt8.ofNat c) = -1 then -1 else Lib.indexByte (dig l n) (UInt8.ofNat c) + (0 : Nat)) = Lib.indexByte (dig l n) (UInt8.ofNat c) := by split <;> simp_all
    rw [this]
    exact .int _ _

/- COMPARING TWO STRINGS -/
theorem cmp_less : ∀ (a b : List UInt8), Lib.compareBytes a b = if a == b then 0 else if Op.bytesLess a b then -1 else 1
  | [], [] => rfl
  | [], b :: bs => rfl
  | a :: as, [] => rfl
  | a :: as, b :: bs => by
    have ih := cmp_less as bs
    simp only [Lib.compareBytes, Op.bytesLess, ih]
    by_cases h1 : a < b
    · have hne : ¬ a = b := by rintro rfl; exact UInt8.lt_irrefl _ h1
      simp [h1, hne]
    · by_cases h2 : b < a
      · have hne : ¬ a = b := by rintro rfl; exact UInt8.lt_irrefl _ h2
        simp [h1, h2, hne]
      · have : a = b := UInt8.le_antisymm (UInt8.not_lt.1 h2) (UInt8.not_lt.1 h1)
        subst this
        simp [h1]
noncomputable def sCmpS (x y : V) (h : Heap) (k : V → Heap → Res) : Res :=
  strk x fun l n => strk y fun l' m => ifk (seq l n l' m) (k (.int .i64 (.ofNat 0)) h) (ifk (slt (Nat.succ l') l n l' m) (k (.int .i64 (.negSucc 0)) h) (k (.int .i64 (.ofNat 1)) h))
theorem sCmpS_ok {x y : V} {h : Heap} {k : V → Heap → Res} {r : Res} (hh : sCmpS x y h k = r) (hr : r ≠ .fail) {ρ : Rho} {w : World} {v u : Value} (hv : VR ρ x v) (hu : VR ρ y u)
    {g : Nat} (hg : extF P g "internal/bytealg.abigen_runtime_cmpstring" = true) : ∃ u' y, k u' h = r ∧ (callFunc g #[v, u]).run P w = .ok (.value y) w ∧ VR ρ u' y := by
  obtain ⟨fn, h1, h2, h3, h4⟩ := extF_ok hg
  obtain ⟨l, n, rfl, h5⟩ := strk_ok hh hr
  obtain ⟨l', m, rfl, h6⟩ := strk_ok h5 hr
  obtain ⟨s, rfl, e1, e2⟩ := hv.str_inv
  obtain ⟨s', rfl, e3, e4⟩ := hu.str_inv
  have key : ∀ i, Lib.compareBytes s.data.toList s'.data.toList = i → k (.int .i64 i) h = r → ∃ u' y, k u' h = r ∧ (callFunc g #[.string s, .string s']).run P w = .ok (.value y) w ∧ VR ρ u' y := fun i hi hk => by
    refine ⟨_, .int .i64 i, hk, ?_, .int _ _⟩
    rw [run_callFunc_standIn h1 (by rw [h3]; decide) h2 (findNext_of h3 h4 (by kernel_rfl) next_none) (e := Extern.BytealgCompare.compare) (find_of h3 (by kernel_rfl) (by kernel_rfl) (by kernel_rfl)),
      Lib.run_compareString, hi]
    simp [Result.andThen]
  rw [e1, e3, cmp_less] at key
  rw [seq_eq e2 e4, slt_eq _ _ _ _ _ (by omega)] at h6
  rcases ifk_ne h6 with ⟨h7, h8⟩ | ⟨h7, h8⟩
  · exact key _ (by rw [h7]; rfl) h8
  · rcases ifk_ne h8 with ⟨h9, h10⟩ | ⟨h9, h10⟩
    · exact key _ (by rw [h7, h9]; rfl) h10
    · exact key _ (by rw [h7, h9]; rfl) h10
end Go.Ev
