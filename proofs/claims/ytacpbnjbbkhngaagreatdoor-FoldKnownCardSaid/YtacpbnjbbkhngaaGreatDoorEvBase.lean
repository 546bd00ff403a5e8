/- EVALUATOR, 1: abstract values, the abstract heap, and what they stand for. -/
import Derived.Orders
import Derived.Laws.Sem
import Derived.Laws.Cells
namespace Go.Ev

inductive D where
  | d0 | d1 | d2 | d3 | d4 | d5 | d6 | d7 | d8 | d9 | da | db | dc | dd | de | df
structure N (α : Type) where
  (x0 x1 x2 x3 x4 x5 x6 x7 x8 x9 xa xb xc xd xe xf : α)
def N.get {α : Type} (n : N α) : D → α
  | .d0 => n.x0
  | .d1 => n.x1
  | .d2 => n.x2
  | .d3 => n.x3
  | .d4 => n.x4
  | .d5 => n.x5
  | .d6 => n.x6
  | .d7 => n.x7
  | .d8 => n.x8
  | .d9 => n.x9
  | .da => n.xa
  | .db => n.xb
  | .dc => n.xc
  | .dd => n.xd
  | .de => n.xe
  | .df => n.xf
def N.set {α : Type} (n : N α) (d : D) (v : α) : N α :=
  match d with
  | .d0 => { n with x0 := v }
  | .d1 => { n with x1 := v }
  | .d2 => { n with x2 := v }
  | .d3 => { n with x3 := v }
  | .d4 => { n with x4 := v }
  | .d5 => { n with x5 := v }
  | .d6 => { n with x6 := v }
  | .d7 => { n with x7 := v }
  | .d8 => { n with x8 := v }
  | .d9 => { n with x9 := v }
  | .da => { n with xa := v }
  | .db => { n with xb := v }
  | .dc => { n with xc := v }
  | .dd => { n with xd := v }
  | .de => { n with xe := v }
  | .df => { n with xf := v }
def N.all {α : Type} (v : α) : N α := ⟨v, v, v, v, v, v, v, v, v, v, v, v, v, v, v, v⟩
def D.val : D → Nat
  | .d0 => 0
  | .d1 => 1
  | .d2 => 2
  | .d3 => 3
  | .d4 => 4
  | .d5 => 5
  | .d6 => 6
  | .d7 => 7
  | .d8 => 8
  | .d9 => 9
  | .da => 10
  | .db => 11
  | .dc => 12
  | .dd => 13
  | .de => 14
  | .df => 15
def D.ofNat : Nat → D
  | 0 => .d0
  | 1 => .d1
  | 2 => .d2
  | 3 => .d3
  | 4 => .d4
  | 5 => .d5
  | 6 => .d6
  | 7 => .d7
  | 8 => .d8
  | 9 => .d9
  | 10 => .da
  | 11 => .db
  | 12 => .dc
  | 13 => .dd
  | 14 => .de
  | _ => .df
theorem N.get_set {α : Type} (n : N α) (d : D) (v : α) : (n.set d v).get d = v := by cases d <;> rfl
theorem N.get_set_ne {α : Type} (n : N α) {d d' : D} (h : d' ≠ d) (v : α) : (n.set d v).get d' = n.get d' := by
  cases d <;> cases d' <;> first | rfl | exact absurd rfl h
theorem N.get_all {α : Type} (v : α) (d : D) : (N.all v).get d = v := by cases d <;> rfl

/-- a block's name -/
structure Bid where
  a : Nat
  (b c d e : D)

def Bid.val (b : Bid) : Nat := ((((b.a * 16 + b.b.val) * 16 + b.c.val) * 16 + b.d.val) * 16 + b.e.val)

/-- values -/
inductive V where
  | und
  | skip
  | bool (b : Bool)
  | int (k : IntKind) (n : Int)
  | str (l n : Nat)
  | nilp
  | ptr (b : Bid) (o : Nat)
  | nils
  | slice (b : Bid) (o l : Nat) (c : Option Nat) (s : Nat)
  | emp
  | nilm
  | map (b : Bid)
  | nilf
  | func (f : Nat) (cap : List V)
  | nili
  | iface (t : Nat) (v : V)
  | agg (n : Nat) (l : List V)
  | tup (l : List V)

/-- l bytes out of a number, the lowest first -/
def dig : Nat → Nat → List UInt8
  | 0, _ => []
  | l + 1, n => UInt8.ofNat (n % 256) :: dig l (n / 256)

/-- where a block lies: the block, the cell at which it begins, how many cells the block has -/
abbrev Rho := Bid → Option (Nat × Nat × Nat)

mutual
/-- a value, and what it stands for -/
inductive VR (ρ : Rho) : V → Value → Prop where
  | und (x : Value) : VR ρ .und x
  | skip : VR ρ .skip Go.undef
  | bool (b : Bool) : VR ρ (.bool b) (.bool b)
  | int (k : IntKind) (n : Int) : VR ρ (.int k n) (.int k n)
  | str {l n : Nat} {s : ByteArray} (h : s.data.toList = dig l n) (hn : n < 256 ^ l) : VR ρ (.str l n) (.string s)
  | nilp : VR ρ .nilp (.pointer none)
  | ptr {b : Bid} {o c z S : Nat} (h : ρ b = some (c, z, S)) : VR ρ (.ptr b o) (.pointer (some ⟨c, z + o, none⟩))
  | nils : VR ρ .nils (.slice none 0 0)
  | slice {b : Bid} {o l : Nat} {cp : Option Nat} {s cap c z S : Nat} (h : ρ b = some (c, z, S)) (hc : ∀ n, cp = some n → cap = n) (ht : cp = none → z + o + cap * s = S)
      (hl : l ≤ cap) : VR ρ (.slice b o l cp s) (.slice (some ⟨c, z + o, none⟩) l cap)
  | emp (a : Addr) (cap : Nat) : VR ρ .emp (.slice (some a) 0 cap)
  | nilm : VR ρ .nilm (.map none)
  | map {b : Bid} {c z S : Nat} (h : ρ b = some (c, z, S)) : VR ρ (.map b) (.map (some c))
  | nilf : VR ρ .nilf .nilFunc
  | yld {b : Bid} {c z S : Nat} (h : ρ b = some (c, z, S)) : VR ρ (.func 4294967296 [.ptr b 0]) (.func (.yield c) #[] #[])
  | func {f k F : Nat} {cap : List V} {first cs : Array Value} (hf : f < 32768) (hk : first.size = k) (hk2 : k < 65536) (hF : F = f + 65536 * k) (h : VRs ρ cap (first.toList ++ cs.toList)) : VR ρ (.func F cap) (.func (.func f) first cs)
  | nili : VR ρ .nili .nilIface
  | iface {t : Nat} {v : V} {x : Value} (h : VR ρ v x) : VR ρ (.iface t v) (.iface t x)
  | agg {n : Nat} {l : List V} {cs : Array Value} (h : VRs ρ l cs.toList) (hc : ∀ x ∈ cs.toList, x.oneCell' = true) (hn : l.length = n) : VR ρ (.agg n l) (.agg cs)
  | tup {l : List V} {cs : Array Value} (h : VRs ρ l cs.toList) : VR ρ (.tup l) (.tuple cs)
inductive VRs (ρ : Rho) : List V → List Value → Prop where
  | nil : VRs ρ [] []
  | cons {v : V} {x : Value} {l : List V} {xs : List Value} (h : VR ρ v x) (hs : VRs ρ l xs) : VRs ρ (v :: l) (x :: xs)
end

def Rho.le (ρ ρ' : Rho) : Prop := ∀ b x, ρ b = some x → ρ' b = some x
theorem Rho.le.refl (ρ : Rho) : ρ.le ρ := fun _ _ h => h
theorem Rho.le.trans {ρ ρ' ρ'' : Rho} (h : ρ.le ρ') (h' : ρ'.le ρ'') : ρ.le ρ'' := fun b x hx => h' b x (h b x hx)

mutual
theorem VR.mono {ρ ρ' : Rho} (h : ρ.le ρ') {v : V} {x : Value} : VR ρ v x → VR ρ' v x
  | .und x => .und x
  | .skip => .skip
  | .bool b => .bool b
  | .int k n => .int k n
  | .str h hn => .str h hn
  | .nilp => .nilp
  | .ptr hb => .ptr (h _ _ hb)
  | .nils => .nils
  | .slice hb hc ht hl => .slice (h _ _ hb) hc ht hl
  | .emp a cap => .emp a cap
  | .nilm => .nilm
  | .map hb => .map (h _ _ hb)
  | .nilf => .nilf
  | .yld hb => .yld (h _ _ hb)
  | .func hf hk hk2 hF hs => .func hf hk hk2 hF (VRs.mono h hs)
  | .nili => .nili
  | .iface hv => .iface (VR.mono h hv)
  | .agg hs hc hn => .agg (VRs.mono h hs) hc hn
  | .tup hs => .tup (VRs.mono h hs)
theorem VRs.mono {ρ ρ' : Rho} (h : ρ.le ρ') {l : List V} {xs : List Value} : VRs ρ l xs → VRs ρ' l xs
  | .nil => .nil
  | .cons hv hs => .cons (VR.mono h hv) (VRs.mono h hs)
end

theorem VRs.length {ρ : Rho} {l : List V} {xs : List Value} (h : VRs ρ l xs) : l.length = xs.length := by
  induction l generalizing xs with
  | nil => cases h; rfl
  | cons v l ih => cases h with | cons hv hs => simp [ih hs]
theorem VRs.get {ρ : Rho} {l : List V} {xs : List Value} (h : VRs ρ l xs) {i : Nat} {v : V} (hi : l[i]? = some v) : ∃ x, xs[i]? = some x ∧ VR ρ v x := by
  induction l generalizing xs i with
  | nil => simp at hi
  | cons u l ih =>
    cases h with
    | cons hv hs =>
      cases i with
      | zero => simp at hi; subst hi; exact ⟨_, by simp, hv⟩
      | succ i => simp at hi; obtain ⟨x, h1, h2⟩ := ih hs hi; exact ⟨x, by simpa using h1, h2⟩
theorem VRs.append {ρ : Rho} {l l' : List V} {xs xs' : List Value} (h : VRs ρ l xs) (h' : VRs ρ l' xs') : VRs ρ (l ++ l') (xs ++ xs') := by
  induction l generalizing xs with
  | nil => cases h; exact h'
  | cons v l ih => cases h with | cons hv hs => exact .cons hv (ih hs)
theorem VRs.of_get {ρ : Rho} {l : List V} {xs : List Value} (hl : l.length = xs.length) (h : ∀ (i : Nat) (v : V), l[i]? = some v → ∃ x, xs[i]? = some x ∧ VR ρ v x) : VRs ρ l xs := by
  induction l generalizing xs with
  | nil => cases xs with | nil => exact .nil | cons x xs => simp at hl
  | cons v l ih =>
    cases xs with
    | nil => simp at hl
    | cons x xs =>
      obtain ⟨y, h1, h2⟩ := h 0 v (by simp)
      simp at h1; subst h1
      exact .cons h2 (ih (by simpa using hl) fun i u hu => by simpa using h (i + 1) u (by simpa using hu))
theorem VRs.drop {ρ : Rho} {l : List V} {xs : List Value} (h : VRs ρ l xs) (n : Nat) : VRs ρ (l.drop n) (xs.drop n) := by
  induction n generalizing l xs with
  | zero => simpa using h
  | succ n ih => cases h with | nil => simpa using VRs.nil | cons hv hs => simpa using ih hs
theorem VRs.take {ρ : Rho} {l : List V} {xs : List Value} (h : VRs ρ l xs) (n : Nat) : VRs ρ (l.take n) (xs.take n) := by
  induction n generalizing l xs with
  | zero => simpa using VRs.nil
  | succ n ih => cases h with | nil => simpa using VRs.nil | cons hv hs => simpa using VRs.cons hv (ih hs)

/-- the chunks of a block, by number: the lowest bit first -/
inductive T where
  | e
  | lf (c : List V)
  | nd (a b : T)

def T.get : T → Nat → Option (List V)
  | .e, _ => none
  | .lf c, i => if i = 0 then some c else none
  | .nd a b, i => if i % 2 = 0 then a.get (i / 2) else b.get (i / 2)

/-- put a chunk in; none: there is no such place -/
def T.set : T → Nat → List V → Option T
  | .e, i, c => if i = 0 then some (.lf c) else none
  | .lf c0, i, c => if i = 0 then some (.lf c) else if i = 1 then some (.nd (.lf c0) (.lf c)) else none
  | .nd a b, i, c => if i % 2 = 0 then (a.set (i / 2) c).map (.nd · b) else (b.set (i / 2) c).map (.nd a ·)

theorem T.get_set {t t' : T} {i : Nat} {c : List V} (h : t.set i c = some t') (j : Nat) : t'.get j = if j = i then some c else t.get j := by
  induction t generalizing t' i j with
  | e =>
    simp only [T.set] at h
    split at h
    · subst i; cases h; simp [T.get]
    · cases h
  | lf c0 =>
    simp only [T.set] at h
    split at h
    · subst i; cases h; simp only [T.get]; split <;> rfl
    · split at h
      · subst i; cases h
        simp only [T.get]
        by_cases h1 : j = 1
        · subst h1; simp
        · rw [if_neg h1]
          by_cases h2 : j % 2 = 0
          · rw [if_pos h2]
            by_cases h3 : j = 0
            · subst h3; simp
            · rw [if_neg h3, if_neg (by omega)]
          · rw [if_neg h2, if_neg (by omega), if_neg (by omega)]
      · cases h
  | nd a b iha ihb =>
    simp only [T.set] at h
    split at h
    · rename_i hi
      obtain ⟨a', ha, rfl⟩ := Option.map_eq_some_iff.1 h
      simp only [T.get]
      by_cases hj : j % 2 = 0
      · rw [if_pos hj, if_pos hj, iha ha]
        by_cases e : j = i
        · subst e; simp
        · rw [if_neg e, if_neg (by omega)]
      · rw [if_neg hj, if_neg hj, if_neg (by omega)]
    · rename_i hi
      obtain ⟨b', hb, rfl⟩ := Option.map_eq_some_iff.1 h
      simp only [T.get]
      by_cases hj : j % 2 = 0
      · rw [if_pos hj, if_pos hj, if_neg (by omega)]
      · rw [if_neg hj, if_neg hj, ihb hb]
        by_cases e : j = i
        · subst e; simp
        · rw [if_neg e, if_neg (by omega)]

/-- so many times one chunk -/
def T.rep (c : List V) : Nat → Nat → T
  | 0, _ => .e
  | f + 1, n => if n = 0 then .e else if n = 1 then .lf c else .nd (T.rep c f ((n + 1) / 2)) (T.rep c f (n / 2))

theorem T.get_rep (c : List V) (f n : Nat) (hf : n ≤ f) (i : Nat) : (T.rep c f n).get i = if i < n then some c else none := by
  induction f generalizing n i with
  | zero => obtain rfl : n = 0 := by omega
            simp [T.rep, T.get]
  | succ f ih =>
    simp only [T.rep]
    split
    · subst n; simp [T.get]
    · split
      · subst n; simp only [T.get]; (split <;> first | (rw [if_pos (by omega)]; done) | (rw [if_neg (by omega)]; done))
      · simp only [T.get]
        split
        · rw [ih _ (by omega)]; (split <;> first | (rw [if_pos (by omega)]; done) | (rw [if_neg (by omega)]; done))
        · rw [ih _ (by omega)]; (split <;> first | (rw [if_pos (by omega)]; done) | (rw [if_neg (by omega)]; done))

/-- a map's entry: key, value, stamp -/
structure ME where
  (key val : V) (born : Nat)
/-- blocks that are no cells: a map (entries in their order, the next stamp); a string that is gone over, and the place; a loop over a function (which, the temporaries that are kept, their values, how it stands, how it is left);
a map that is gone over; a struct of a type that is known; bytes that grow (the element's type, how many, what) -/
inductive Oth where
  | mp (es : List ME) (clock : Nat)
  | it (l n p : Nat)
  | lp (id mask : Nat) (vs : List V) (st pend : Nat)
  | mi (m : Option Bid) (since : Nat) (seen : List Nat) (last : Nat)
  | st (el g : Nat) (t : T)
  | bs (el l n : Nat)
/-- blocks -/
inductive Blk where
  | none
  | arr (g n : Nat) (t : T) (op : Bool)
  | ob (x : Oth)

abbrev H4 := N (N (N (N Blk)))
def H4.e : H4 := N.all (N.all (N.all (N.all Blk.none)))
abbrev HT := List H4
structure Heap where
  (t : HT)
  (nx : Bid)

def H4.get (t : H4) (b : Bid) : Blk := N.get (N.get (N.get (N.get t b.b) b.c) b.d) b.e
def H4.set (t : H4) (b : Bid) (x : Blk) : H4 := N.set t b.b (N.set (N.get t b.b) b.c (N.set (N.get (N.get t b.b) b.c) b.d (N.set (N.get (N.get (N.get t b.b) b.c) b.d) b.e x)))
def HT.top : HT → Nat → H4
  | [], _ => H4.e
  | x :: _, 0 => x
  | _ :: l, n + 1 => HT.top l n
def HT.put : HT → Nat → H4 → HT
  | [], 0, y => [y]
  | [], n + 1, y => H4.e :: HT.put [] n y
  | _ :: l, 0, y => y :: l
  | x :: l, n + 1, y => x :: HT.put l n y
theorem HT.top_put (t : HT) (n : Nat) (y : H4) (m : Nat) : (HT.put t n y).top m = if m = n then y else t.top m := by
  induction n generalizing t m with
  | zero => cases t <;> cases m <;> simp [HT.put, HT.top]
  | succ n ih => cases t <;> cases m <;> simp [HT.put, HT.top, ih]
def HT.get (t : HT) (b : Bid) : Blk := (t.top b.a).get b
def HT.set (t : HT) (b : Bid) (x : Blk) : HT := t.put b.a ((t.top b.a).set b x)
def HT.empty : HT := []

theorem H4.get_set (t : H4) (b : Bid) (x : Blk) : (t.set b x).get b = x := by
  simp [H4.get, H4.set, N.get_set]
theorem H4.get_set_ne (t : H4) {b b' : Bid} (h : b' ≠ b) (ha : b'.a = b.a) (x : Blk) : (t.set b x).get b' = t.get b' := by
  obtain ⟨a, b, c, d, e⟩ := b
  obtain ⟨a', b', c', d', e'⟩ := b'
  cases ha
  simp only [H4.get, H4.set]
  by_cases h2 : b' = b
  · subst h2
    rw [N.get_set]
    by_cases h3 : c' = c
    · subst h3
      rw [N.get_set]
      by_cases h4 : d' = d
      · subst h4
        rw [N.get_set, N.get_set_ne]
        rintro rfl; exact h rfl
      · rw [N.get_set_ne _ h4]
    · rw [N.get_set_ne _ h3]
  · rw [N.get_set_ne _ h2]
theorem HT.get_set (t : HT) (b : Bid) (x : Blk) : (t.set b x).get b = x := by
  rw [HT.get, HT.set, HT.top_put, if_pos rfl, H4.get_set]
theorem HT.get_set_ne (t : HT) {b b' : Bid} (h : b' ≠ b) (x : Blk) : (t.set b x).get b' = t.get b' := by
  rw [HT.get, HT.set, HT.top_put]
  by_cases e : b'.a = b.a
  · rw [if_pos e, H4.get_set_ne _ h e, HT.get, e]
  · rw [if_neg e]; rfl
theorem HT.get_empty (b : Bid) : HT.empty.get b = .none := by simp [HT.get, HT.empty, HT.top, H4.get, H4.e, N.get_all]

theorem D.val_lt (d : D) : d.val < 16 := by cases d <;> decide
theorem D.val_inj {d e : D} (h : d.val = e.val) : d = e := by cases d <;> cases e <;> first | rfl | (exfalso; revert h; decide)
theorem Bid.val_inj {x y : Bid} (h : x.val = y.val) : x = y := by
  obtain ⟨a, b, c, d, e⟩ := x
  obtain ⟨a', b', c', d', e'⟩ := y
  have h2 := b.val_lt; have h3 := c.val_lt; have h4 := d.val_lt; have h5 := e.val_lt
  have h2' := b'.val_lt; have h3' := c'.val_lt; have h4' := d'.val_lt; have h5' := e'.val_lt
  simp only [Bid.val] at h
  have e5 : e.val = e'.val := by omega
  have e4 : d.val = d'.val := by omega
  have e3 : c.val = c'.val := by omega
  have e2 : b.val = b'.val := by omega
  have e1 : a = a' := by omega
  rw [e1, D.val_inj e2, D.val_inj e3, D.val_inj e4, D.val_inj e5]

/-- the next digit; none: there is none -/
def D.next : D → Option D
  | .d0 => some .d1 | .d1 => some .d2 | .d2 => some .d3 | .d3 => some .d4 | .d4 => some .d5 | .d5 => some .d6 | .d6 => some .d7 | .d7 => some .d8
  | .d8 => some .d9 | .d9 => some .da | .da => some .db | .db => some .dc | .dc => some .dd | .dd => some .de | .de => some .df | .df => none
theorem D.next_val {d e : D} (h : d.next = some e) : e.val = d.val + 1 := by cases d <;> simp [D.next] at h <;> subst h <;> rfl
theorem D.next_none {d : D} (h : d.next = none) : d.val = 15 := by cases d <;> simp [D.next] at h <;> rfl

theorem D.val_d0 : D.d0.val = 0 := rfl

def Bid.next (x : Bid) : Option Bid :=
  match x.e.next with
  | some e => some { x with e }
  | none => match x.d.next with
    | some d => some { x with d, e := .d0 }
    | none => match x.c.next with
      | some c => some { x with c, d := .d0, e := .d0 }
      | none => match x.b.next with
        | some b => some { x with b, c := .d0, d := .d0, e := .d0 }
        | none => some { a := x.a + 1, b := .d0, c := .d0, d := .d0, e := .d0 }
theorem Bid.next_val {x y : Bid} (h : x.next = some y) : y.val = x.val + 1 := by
  unfold Bid.next at h
  split at h
  · rename_i e he; cases h; simp only [Bid.val, D.next_val he]; omega
  · rename_i he; have := D.next_none he
    split at h
    · rename_i d hd; cases h; simp only [Bid.val, D.next_val hd, this, D.val_d0]; omega
    · rename_i hd; have := D.next_none hd
      split at h
      · rename_i c hc; cases h; simp only [Bid.val, D.next_val hc, *, D.val_d0]; omega
      · rename_i hc; have := D.next_none hc
        split at h
        · rename_i b hb; cases h; simp only [Bid.val, D.next_val hb, *, D.val_d0]; omega
        · rename_i hb; have := D.next_none hb
          cases h; simp only [Bid.val, *, D.val_d0]; omega

/-- a frame's values -/
abbrev Env := N (N V)
structure Slot where
  (a b : D)

inductive Ex where
  | normal
  | exit (id : Nat)
  | ret
  | pan (v : V)
inductive Res where
  | fail
  | done (e : Ex) (vs : List V) (h : Heap)
  | ret (v : V) (h : Heap)
  | pan (v : V) (h : Heap)
/- the same, by continuation: what the kernel runs -/
noncomputable def selk {α R : Type} (d : D) : N α → (α → R) → R :=
  D.rec (motive := fun _ => N α → (α → R) → R)
    (fun n k => N.rec (motive := fun _ => R) (fun x0 _ _ _ _ _ _ _ _ _ _ _ _ _ _ _ => k x0) n)
    (fun n k => N.rec (motive := fun _ => R) (fun _ x1 _ _ _ _ _ _ _ _ _ _ _ _ _ _ => k x1) n)
    (fun n k => N.rec (motive := fun _ => R) (fun _ _ x2 _ _ _ _ _ _ _ _ _ _ _ _ _ => k x2) n)
    (fun n k => N.rec (motive := fun _ => R) (fun _ _ _ x3 _ _ _ _ _ _ _ _ _ _ _ _ => k x3) n)
    (fun n k => N.rec (motive := fun _ => R) (fun _ _ _ _ x4 _ _ _ _ _ _ _ _ _ _ _ => k x4) n)
    (fun n k => N.rec (motive := fun _ => R) (fun _ _ _ _ _ x5 _ _ _ _ _ _ _ _ _ _ => k x5) n)
    (fun n k => N.rec (motive := fun _ => R) (fun _ _ _ _ _ _ x6 _ _ _ _ _ _ _ _ _ => k x6) n)
    (fun n k => N.rec (motive := fun _ => R) (fun _ _ _ _ _ _ _ x7 _ _ _ _ _ _ _ _ => k x7) n)
    (fun n k => N.rec (motive := fun _ => R) (fun _ _ _ _ _ _ _ _ x8 _ _ _ _ _ _ _ => k x8) n)
    (fun n k => N.rec (motive := fun _ => R) (fun _ _ _ _ _ _ _ _ _ x9 _ _ _ _ _ _ => k x9) n)
    (fun n k => N.rec (motive := fun _ => R) (fun _ _ _ _ _ _ _ _ _ _ xa _ _ _ _ _ => k xa) n)
    (fun n k => N.rec (motive := fun _ => R) (fun _ _ _ _ _ _ _ _ _ _ _ xb _ _ _ _ => k xb) n)
    (fun n k => N.rec (motive := fun _ => R) (fun _ _ _ _ _ _ _ _ _ _ _ _ xc _ _ _ => k xc) n)
    (fun n k => N.rec (motive := fun _ => R) (fun _ _ _ _ _ _ _ _ _ _ _ _ _ xd _ _ => k xd) n)
    (fun n k => N.rec (motive := fun _ => R) (fun _ _ _ _ _ _ _ _ _ _ _ _ _ _ xe _ => k xe) n)
    (fun n k => N.rec (motive := fun _ => R) (fun _ _ _ _ _ _ _ _ _ _ _ _ _ _ _ xf => k xf) n) d
noncomputable def updk {α R : Type} (d : D) : (α → (α → R) → R) → N α → (N α → R) → R :=
  D.rec (motive := fun _ => (α → (α → R) → R) → N α → (N α → R) → R)
    (fun f n k => N.rec (motive := fun _ => R) (fun x0 x1 x2 x3 x4 x5 x6 x7 x8 x9 xa xb xc xd xe xf => f x0 (fun y => k (N.mk y x1 x2 x3 x4 x5 x6 x7 x8 x9 xa xb xc xd xe xf))) n)
    (fun f n k => N.rec (motive := fun _ => R) (fun x0 x1 x2 x3 x4 x5 x6 x7 x8 x9 xa xb xc xd xe xf => f x1 (fun y => k (N.mk x0 y x2 x3 x4 x5 x6 x7 x8 x9 xa xb xc xd xe xf))) n)
    (fun f n k => N.rec (motive := fun _ => R) (fun x0 x1 x2 x3 x4 x5 x6 x7 x8 x9 xa xb xc xd xe xf => f x2 (fun y => k (N.mk x0 x1 y x3 x4 x5 x6 x7 x8 x9 xa xb xc xd xe xf))) n)
    (fun f n k => N.rec (motive := fun _ => R) (fun x0 x1 x2 x3 x4 x5 x6 x7 x8 x9 xa xb xc xd xe xf => f x3 (fun y => k (N.mk x0 x1 x2 y x4 x5 x6 x7 x8 x9 xa xb xc xd xe xf))) n)
    (fun f n k => N.rec (motive := fun _ => R) (fun x0 x1 x2 x3 x4 x5 x6 x7 x8 x9 xa xb xc xd xe xf => f x4 (fun y => k (N.mk x0 x1 x2 x3 y x5 x6 x7 x8 x9 xa xb xc xd xe xf))) n)
    (fun f n k => N.rec (motive := fun _ => R) (fun x0 x1 x2 x3 x4 x5 x6 x7 x8 x9 xa xb xc xd xe xf => f x5 (fun y => k (N.mk x0 x1 x2 x3 x4 y x6 x7 x8 x9 xa xb xc xd xe xf))) n)
    (fun f n k => N.rec (motive := fun _ => R) (fun x0 x1 x2 x3 x4 x5 x6 x7 x8 x9 xa xb xc xd xe xf => f x6 (fun y => k (N.mk x0 x1 x2 x3 x4 x5 y x7 x8 x9 xa xb xc xd xe xf))) n)
    (fun f n k => N.rec (motive := fun _ => R) (fun x0 x1 x2 x3 x4 x5 x6 x7 x8 x9 xa xb xc xd xe xf => f x7 (fun y => k (N.mk x0 x1 x2 x3 x4 x5 x6 y x8 x9 xa xb xc xd xe xf))) n)
    (fun f n k => N.rec (motive := fun _ => R) (fun x0 x1 x2 x3 x4 x5 x6 x7 x8 x9 xa xb xc xd xe xf => f x8 (fun y => k (N.mk x0 x1 x2 x3 x4 x5 x6 x7 y x9 xa xb xc xd xe xf))) n)
    (fun f n k => N.rec (motive := fun _ => R) (fun x0 x1 x2 x3 x4 x5 x6 x7 x8 x9 xa xb xc xd xe xf => f x9 (fun y => k (N.mk x0 x1 x2 x3 x4 x5 x6 x7 x8 y xa xb xc xd xe xf))) n)
    (fun f n k => N.rec (motive := fun _ => R) (fun x0 x1 x2 x3 x4 x5 x6 x7 x8 x9 xa xb xc xd xe xf => f xa (fun y => k (N.mk x0 x1 x2 x3 x4 x5 x6 x7 x8 x9 y xb xc xd xe xf))) n)
    (fun f n k => N.rec (motive := fun _ => R) (fun x0 x1 x2 x3 x4 x5 x6 x7 x8 x9 xa xb xc xd xe xf => f xb (fun y => k (N.mk x0 x1 x2 x3 x4 x5 x6 x7 x8 x9 xa y xc xd xe xf))) n)
    (fun f n k => N.rec (motive := fun _ => R) (fun x0 x1 x2 x3 x4 x5 x6 x7 x8 x9 xa xb xc xd xe xf => f xc (fun y => k (N.mk x0 x1 x2 x3 x4 x5 x6 x7 x8 x9 xa xb y xd xe xf))) n)
    (fun f n k => N.rec (motive := fun _ => R) (fun x0 x1 x2 x3 x4 x5 x6 x7 x8 x9 xa xb xc xd xe xf => f xd (fun y => k (N.mk x0 x1 x2 x3 x4 x5 x6 x7 x8 x9 xa xb xc y xe xf))) n)
    (fun f n k => N.rec (motive := fun _ => R) (fun x0 x1 x2 x3 x4 x5 x6 x7 x8 x9 xa xb xc xd xe xf => f xe (fun y => k (N.mk x0 x1 x2 x3 x4 x5 x6 x7 x8 x9 xa xb xc xd y xf))) n)
    (fun f n k => N.rec (motive := fun _ => R) (fun x0 x1 x2 x3 x4 x5 x6 x7 x8 x9 xa xb xc xd xe xf => f xf (fun y => k (N.mk x0 x1 x2 x3 x4 x5 x6 x7 x8 x9 xa xb xc xd xe y))) n) d
theorem selk_eq {α R : Type} (d : D) (n : N α) (k : α → R) : selk d n k = k (n.get d) := by cases d <;> rfl
theorem updk_eq {α R : Type} (d : D) (f : α → (α → R) → R) (n : N α) (k : N α → R) : updk d f n k = f (n.get d) (fun y => k (n.set d y)) := by cases d <;> rfl
end Go.Ev
