/- EVALUATOR: what is known where ways meet, kept apart from the code: a row of remarks, read off along the code. -/
import Derived.Test.YtacpbnjbbkhngaaGreatDoorEvPO
namespace Go.Ev
variable {P : Program}

/-- remarks: none; ways meet (may it have been left otherwise; what is carried on); a loop; ways that are not gone; a loop over a function: what is kept -/
inductive An where
  | n
  | j (abn : Bool) (sl : List Nat)
  | l (sl : List Nat)
  | x
  | y
  | r (mask : Nat)
/-- a slot and a shape as one number -/
def shNo : Nat → Sh1
  | 0 => .any
  | 1 => .bool
  | 2 => .str
  | 3 => .int .i8 | 4 => .int .i16 | 5 => .int .i32 | 6 => .int .i64 | 7 => .int .u8 | 8 => .int .u16 | 9 => .int .u32 | 10 => .int .u64
  | 11 => .intF .i8 | 12 => .intF .i16 | 13 => .intF .i32 | 14 => .intF .i64 | 15 => .intF .u8 | 16 => .intF .u16 | 17 => .intF .u32 | _ => .intF .u64
def slNo (n : Nat) : Slot × Sh1 := (⟨D.ofNat (n / 16 % 16), D.ofNat (n % 16)⟩, shNo (n / 256))
def PC.ann (np : Bool) : PC → List An → PC × List An
  | .seq x y, A =>
    let p := x.ann np A.tail
    let q := y.ann np p.2
    (match A.head? with
      | some (.j b sl) => .jn b (sl.map slNo) p.1 q.1
      | _ => .seq p.1 q.1, q.2)
  | .cond c x y, A =>
    match A.head? with
    | some .x =>
      let q := y.ann np A.tail
      (.cond c (.stop x) q.1, q.2)
    | some .y =>
      let p := x.ann np A.tail
      (.cond c p.1 (.stop y), p.2)
    | _ =>
      let p := x.ann np A.tail
      let q := y.ann np p.2
      (.cond c p.1 q.1, q.2)
  | .block i x, A =>
    let p := x.ann np A
    (.block i p.1, p.2)
  | .loop x, A =>
    let p := x.ann np A.tail
    (match A.head? with
      | some (.l sl) => .lpv (sl.map slNo) p.1
      | _ => .loop p.1, p.2)
  | .reg l, A => (bif np then .np (.reg l) else .reg l, A)
  | .draw l o, A => (bif np then .np (.draw l o) else .draw l o, A)
  | .draw2 l1 o1 l2 o2, A => (bif np then .np (.draw2 l1 o1 l2 o2) else .draw2 l1 o1 l2 o2, A)
  | .rf id inl g, A => (match A.head? with
    | some (.r mask) => .rfa id inl mask g
    | _ => .rf id inl g, A.tail)
  | x, A => (x, A)
theorem PC.ann_strip (np : Bool) : ∀ (x : PC) (A : List An), (x.ann np A).1.strip = x.strip
  | .seq x y, A => by
    have h1 := PC.ann_strip np x A.tail
    have h2 := PC.ann_strip np y (x.ann np A.tail).2
    simp only [PC.ann]
    split <;> simp [PC.strip, h1, h2]
  | .cond c x y, A => by
    simp only [PC.ann]
    split
    · simp [PC.strip, PC.ann_strip np y A.tail]
    · simp [PC.strip, PC.ann_strip np x A.tail]
    · simp [PC.strip, PC.ann_strip np x A.tail, PC.ann_strip np y (x.ann np A.tail).2]
  | .block i x, A => by simp [PC.ann, PC.strip, PC.ann_strip np x A]
  | .loop x, A => by
    have h1 := PC.ann_strip np x A.tail
    simp only [PC.ann]
    split <;> simp [PC.strip, h1]
  | .reg _, A | .draw _ _, A | .draw2 _ _ _ _, A => by cases np <;> rfl
  | .rf _ _ _, A => by
    simp only [PC.ann]
    split <;> rfl
  | .skip, A | .exit _, A | .ret, A | .dead, A | .rfa _ _ _ _, A => rfl
  | .jn _ _ _ _, A | .lpv _ _, A | .stop _, A | .np _, A => rfl
/-- code as it is prepared bears no remarks -/
theorem cCode_strip {fi : FI} {ng : Nat} : ∀ {c : Code} {i : Option Nat} {p : PC}, cCode P fi ng i c = some p → p.strip = p
  | .skip, _, p, h | .label _, _, p, h | .exit _, _, p, h | .ret, _, p, h | .goto _, _, p, h => by simp [cCode] at h; subst h; rfl
  | .seq x y, _, p, h => by
    obtain ⟨a, h1, h⟩ := Option.bind_eq_some_iff.1 h
    obtain ⟨b, h2, rfl⟩ := Option.map_eq_some_iff.1 h
    simp [PC.strip, cCode_strip h1, cCode_strip h2]
  | .cond c x y, _, p, h => by
    obtain ⟨l, _, h⟩ := Option.bind_eq_some_iff.1 h
    obtain ⟨a, h1, h⟩ := Option.bind_eq_some_iff.1 h
    obtain ⟨b, h2, rfl⟩ := Option.map_eq_some_iff.1 h
    simp [PC.strip, cCode_strip h1, cCode_strip h2]
  | .block id x, _, p, h => by
    obtain ⟨a, h1, rfl⟩ := Option.map_eq_some_iff.1 h
    simp [PC.strip, cCode_strip h1]
  | .loop x, _, p, h => by
    obtain ⟨a, h1, rfl⟩ := Option.map_eq_some_iff.1 h
    simp [PC.strip, cCode_strip h1]
  | .region _ ops false, _, p, h => by
    rcases orDead_ok h with h | rfl
    case inr => rfl
    obtain ⟨a, h1, rfl⟩ := Option.map_eq_some_iff.1 h
    rfl
  | .region _ ops true, _, p, h => by
    simp only [cCode] at h
    rcases orDead_ok h with h | rfl
    case inr => rfl
    split at h
    · split at h
      · obtain ⟨a, _, h⟩ := Option.bind_eq_some_iff.1 h
        obtain ⟨b, _, rfl⟩ := Option.map_eq_some_iff.1 h
        rfl
      · split at h
        · split at h
          · obtain ⟨_, _, h⟩ := Option.bind_eq_some_iff.1 h
            obtain ⟨_, _, h⟩ := Option.bind_eq_some_iff.1 h
            obtain ⟨_, _, h⟩ := Option.bind_eq_some_iff.1 h
            obtain ⟨_, _, rfl⟩ := Option.map_eq_some_iff.1 h
            rfl
          · cases h
        · cases h
    · cases h
  | .scope x, i, p, h => cCode_strip (c := x) (i := i) (by simpa only [cCode] using h)
  | .rangeFunc _ _ _ _, i, p, h => by
    rcases orDead_ok h with h | rfl
    case inr => rfl
    obtain ⟨k, _, h⟩ := Option.bind_eq_some_iff.1 h
    obtain ⟨l, _, rfl⟩ := Option.map_eq_some_iff.1 h
    rfl
  | .refuse _, _, p, h => by simp [cCode] at h; subst h; rfl
theorem prep_strip {ng : Nat} {fi : FI} {f : Nat} {p : PF} (h : prep P ng fi f = some p) : p.code.strip = p.code := by
  unfold prep at h
  split at h
  · split at h
    · split at h
      · cases h
      · split at h
        · obtain ⟨pc, h1, h⟩ := Option.bind_eq_some_iff.1 h
          obtain ⟨as, _, h⟩ := Option.bind_eq_some_iff.1 h
          obtain ⟨rs, _, rfl⟩ := Option.map_eq_some_iff.1 h
          exact cCode_strip h1
        · cases h
    · cases h
  · cases h

/-- what a function comes to, out of the program's own text -/
noncomputable def runPg (P : Program) (ng : Nat) (fi : FI) (f : Nat) (np : Bool) (A : List An) (sem : OX → Do) (n : Nat) (cf : CF) (args : List V) (h : Heap) : Res :=
  Option.rec (motive := fun _ => Res) .fail (fun p => PF.rec (motive := fun _ => Res) (fun code sl res its => runFg sem n cf ⟨(code.ann np A).1, sl, res, its⟩ args h) p) (prep P ng fi f)
theorem POok.of_text {ng f : Nat} (fi : FI) (np : Bool) (A : List An) {sh : Words → Nat → CF → List V → Heap → Res} (h2 : ∀ S n cf ar h, runPg P ng fi f np A (semOXg S) n cf ar h = sh S n cf ar h) : POok P ng f (.sh (sh words)) := by
  intro m cf hcf
  cases hp : prep P ng fi f with
  | none =>
    refine .none fun l h => ?_
    have h3 := h2 words m cf l h
    rw [semOXg_words] at h3
    unfold runPg at h3
    rw [hp] at h3
    exact h3.symm
  | some p =>
    obtain ⟨code, sl, res, its⟩ := p
    have hs := prep_strip hp
    refine POok.of_run (fi := fi) (p := ⟨(code.ann np A).1, sl, res, its⟩) (by rw [hp]; simp only at hs; simp only [PF.strip, PC.ann_strip, hs]) (fun m cf l h => ?_) m cf hcf
    have h3 := h2 words m cf l h
    rw [semOXg_words] at h3
    unfold runPg at h3
    rw [hp] at h3
    exact h3
/-- a function that is run seldom: prepared while it is run -/
noncomputable def dp (P : Program) (ng : Nat) (fi : FI) (f : Nat) (np : Bool) (A : List An) : Words → Nat → CF → List V → Heap → Res := fun S n c l h => runPg P ng fi f np A (semOXg S) n c l h
theorem POok.deep {ng f : Nat} {fi : FI} {np : Bool} {A : List An} : POok P ng f (.sh (dp P ng fi f np A words)) := .of_text fi np A fun _ _ _ _ _ => rfl
end Go.Ev
