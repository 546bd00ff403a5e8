/- EVALUATOR, 2: an abstract heap and the world that it stands for; what an allocation, a load and a store do to both. -/
import Derived.Test.YtacpbnjbbkhngaaGreatDoorEvSel
namespace Go.Ev
variable {P : Program}

def Blk.wr : Blk → Bool
  | .none => false
  | .arr _ _ _ ro => !ro
  | .ob _ => true

/-- no cell is frozen; what lies behind the cells may be, where chunks are single cells -/
def Thaw (fz : Nat × Nat) (S g : Nat) : Prop := fz.1 = fz.2 ∨ (S ≤ fz.1 ∧ g = 1)
theorem Thaw.not {fz : Nat × Nat} {S g : Nat} (h : Thaw fz S g) (i : Nat) (hi : i < S) : ¬ (fz.1 ≤ i ∧ i < fz.2) := by
  rcases h with h | h <;> omega
/-- the cells of a block, as far as they are known -/
structure ArrR (ρ : Rho) (w : World) (c z S g n : Nat) (t : T) (ro : Bool) (cs : Array Value) : Prop where
  pos : 0 < g
  at_ : ∃ el fz, w.heap[c]? = some (.cells cs el fz) ∧ (ro = false → Thaw fz S g)
  size : cs.size = S
  fits : z + n * g ≤ S
  cells : ∀ (j : Nat) (ch : List V), t.get j = some ch → j < n ∧ ch.length = g ∧ ∀ (i : Nat) (v : V), ch[i]? = some v → ∃ x, cs[z + j * g + i]? = some x ∧ VR ρ v x ∧ x.oneCell' = true

/-- keys and values of a map, in the order of the entries -/
def MapR (ρ : Rho) : List ME → List MapEntry → Prop
  | [], [] => True
  | m :: l, e :: es => VR ρ m.key e.key ∧ VR ρ m.val e.val ∧ m.born = e.born ∧ MapR ρ l es
  | _, _ => False
/-- the ranges over functions in a piece of code, in the order of the text -/
def rfs : Code → List (Array Tmp × Code × Code)
  | .seq a b | .cond _ a b => rfs a ++ rfs b
  | .block _ a | .loop a | .scope a => rfs a
  | .rangeFunc _ ps a b => (ps, a, b) :: (rfs a ++ rfs b)
  | _ => []
/-- which loop over a function has a number -/
def roundAt (P : Program) (id : Nat) : Option (FuncId × Array Tmp × Code × Code) :=
  (P.funcs[id / 16]?).bind fun fn => fn.body.bind fun c => ((rfs c)[id % 16]?).map fun x => (id / 16, x)
/-- the temporaries that a mask tells -/
def maskL (mask : Nat) : List Nat := (List.range 256).filter (mask.testBit ·)
def StR : Nat → LoopState → Prop
  | 0, .ready | 1, .busy | 2, .done => True
  | _, _ => False
def PendR : Nat → Option Code → Prop
  | 0, none => True
  | 1, some .ret => True
  | n + 2, some (.exit id) => n = id
  | _, _ => False
def ItR (ρ : Rho) : Option Bid → Option Nat → Prop
  | none, none => True
  | some b, some c => ∃ S, ρ b = some (c, 0, S)
  | _, _ => False
/-- the cells of a struct in a block of its own -/
def StcR (ρ : Rho) (g : Nat) (t : T) (cs : Array Value) : Prop :=
  ∀ (j : Nat) (ch : List V), t.get j = some ch → j < 1 ∧ ch.length = g ∧ ∀ (i : Nat) (v : V), ch[i]? = some v → ∃ x, cs[0 + j * g + i]? = some x ∧ VR ρ v x ∧ x.oneCell' = true
/-- what a block that is no cells stands for -/
def OthR (P : Program) (ρ : Rho) : Oth → Obj → Prop
  | .lp id mask vs st pend, .loop r => ∃ fn, roundAt P id = some (r.fn, r.params, r.assign, r.body) ∧ P.funcs[r.fn]? = some fn ∧ r.tmps.size = fn.ntmps ∧
    VRs ρ vs ((maskL mask).map fun t => r.tmps.getD t Go.undef) ∧ StR st r.state ∧ PendR pend r.pending
  | .mi m since seen last, .mapIter m' since' seen' last' => ItR ρ m m' ∧ since = since' ∧ seen'.toList.reverse = seen ∧ last = last'
  | .mp es clock, .map ces clock' => MapR ρ es ces.toList ∧ clock = clock'
  | .it l n p, .stringIter s p' => s.data.toList = dig l n ∧ n < 256 ^ l ∧ p = p'
  | .st el g t, .cells cs el' fz => el' = el ∧ fz.1 = fz.2 ∧ 0 < g ∧ cs.size = g ∧ P.cellsOf el = g ∧ StcR ρ g t cs
  | .bs el l n, .cells cs el' fz => el' = el ∧ P.cellsOf el = 1 ∧ n < 256 ^ l ∧ l ≤ cs.size ∧ (fz.1 = fz.2 ∨ fz.2 ≤ l) ∧ ∀ (i : Nat) (b : UInt8), (dig l n)[i]? = some b → cs[i]? = some (.int .u8 b.toNat)
  | _, _ => False

/-- bytes that grow: the block is as big as is known of it -/
def Oth.cel : Oth → Bool
  | .st _ _ _ | .bs _ _ _ => true
  | _ => false
def Big (x : Oth) (o : Obj) (S : Nat) : Prop := x.cel = true → ∃ cs e fz, o = .cells cs e fz ∧ cs.size = S
structure RH (P : Program) (ρ : Rho) (h : Heap) (w : World) : Prop where
  lt : ∀ b c z S, ρ b = some (c, z, S) → c < w.heap.size
  fresh : ∀ b : Bid, h.nx.val ≤ b.val → ρ b = none ∧ h.t.get b = .none
  inj : ∀ b b' c z S z' S', (h.t.get b).wr = true → h.t.get b' ≠ .none → ρ b = some (c, z, S) → ρ b' = some (c, z', S') → b = b'
  arr : ∀ b c z S g n t ro, ρ b = some (c, z, S) → h.t.get b = .arr g n t ro → ∃ cs, ArrR ρ w c z S g n t ro cs
  ob : ∀ b c z S x, ρ b = some (c, z, S) → h.t.get b = .ob x → ∃ o, w.heap[c]? = some o ∧ OthR P ρ x o ∧ z = 0 ∧ Big x o S

def Wr (ρ : Rho) (h : Heap) (c : Nat) : Prop := ∃ b z S, ρ b = some (c, z, S) ∧ (h.t.get b).wr = true

/-- what may have changed -/
structure Ext (ρ : Rho) (h : Heap) (w : World) (ρ' : Rho) (h' : Heap) (w' : World) : Prop where
  le : ρ.le ρ'
  nx : h.nx.val ≤ h'.nx.val
  os : w'.os = w.os
  tape : w'.tape = w.tape
  output : w'.output = w.output
  size : w.heap.size ≤ w'.heap.size
  keep : ∀ c, c < w.heap.size → ¬ Wr ρ h c → w'.heap[c]? = w.heap[c]? ∧ ¬ Wr ρ' h' c
  virt : ∀ b : Bid, b.val < h.nx.val → ρ b = none → ρ' b = none ∧ h'.t.get b = h.t.get b

theorem Ext.refl (ρ : Rho) (h : Heap) (w : World) : Ext ρ h w ρ h w :=
  ⟨.refl ρ, Nat.le_refl _, rfl, rfl, rfl, Nat.le_refl _, fun _ _ hc => ⟨rfl, hc⟩, fun _ _ hb => ⟨hb, rfl⟩⟩
theorem Ext.trans {ρ ρ' ρ'' : Rho} {h h' h'' : Heap} {w w' w'' : World} (a : Ext ρ h w ρ' h' w') (b : Ext ρ' h' w' ρ'' h'' w'') : Ext ρ h w ρ'' h'' w'' where
  le := a.le.trans b.le
  nx := Nat.le_trans a.nx b.nx
  os := b.os.trans a.os
  tape := b.tape.trans a.tape
  output := b.output.trans a.output
  size := Nat.le_trans a.size b.size
  keep := fun c hc hw =>
    let ⟨h1, h2⟩ := a.keep c hc hw
    let ⟨h3, h4⟩ := b.keep c (Nat.lt_of_lt_of_le hc a.size) h2
    ⟨h3.trans h1, h4⟩
  virt := fun x hx hb =>
    let ⟨h1, h2⟩ := a.virt x hx hb
    let ⟨h3, h4⟩ := b.virt x (Nat.lt_of_lt_of_le hx a.nx) h1
    ⟨h3, h4.trans h2⟩

theorem RH.drew {ρ : Rho} {h : Heap} {w : World} (r : RH P ρ h w) (n : Nat) : RH P ρ h { w with drawn := n } where
  lt := r.lt
  fresh := r.fresh
  inj := r.inj
  arr := fun b c z S g m t ro hb ht => let ⟨cs, ha⟩ := r.arr b c z S g m t ro hb ht; ⟨cs, ha.pos, ha.at_, ha.size, ha.fits, ha.cells⟩
  ob := r.ob
theorem Ext.drew (ρ : Rho) (h : Heap) (w : World) (n : Nat) : Ext ρ h w ρ h { w with drawn := n } :=
  ⟨.refl ρ, Nat.le_refl _, rfl, rfl, rfl, Nat.le_refl _, fun _ _ hc => ⟨rfl, hc⟩, fun _ _ hb => ⟨hb, rfl⟩⟩

theorem MapR.mono {ρ ρ' : Rho} (hl : ρ.le ρ') : ∀ {l : List ME} {es : List MapEntry}, MapR ρ l es → MapR ρ' l es
  | [], [], _ => trivial
  | _ :: _, _ :: _, h => ⟨VR.mono hl h.1, VR.mono hl h.2.1, h.2.2.1, MapR.mono hl h.2.2.2⟩
  | [], _ :: _, h => h.elim
  | _ :: _, [], h => h.elim
theorem ItR.mono {ρ ρ' : Rho} (hl : ρ.le ρ') {m : Option Bid} {m' : Option Nat} (h : ItR ρ m m') : ItR ρ' m m' := by
  cases m <;> cases m' <;> first | exact h.elim | exact trivial | exact h.imp fun S hS => hl _ _ hS
theorem StcR.mono {ρ ρ' : Rho} (hl : ρ.le ρ') {g : Nat} {t : T} {cs : Array Value} (h : StcR ρ g t cs) : StcR ρ' g t cs := fun j ch hj =>
  let ⟨h1, h2, h3⟩ := h j ch hj; ⟨h1, h2, fun i v hi => let ⟨x, h4, h5, h6⟩ := h3 i v hi; ⟨x, h4, VR.mono hl h5, h6⟩⟩
theorem OthR.mono {ρ ρ' : Rho} (hl : ρ.le ρ') {x : Oth} {o : Obj} (h : OthR P ρ x o) : OthR P ρ' x o := by
  cases x <;> cases o <;> first | exact h.elim | exact ⟨h.1, h.2.1, h.2.2.1, h.2.2.2.1, h.2.2.2.2.1, StcR.mono hl h.2.2.2.2.2⟩ | exact ⟨MapR.mono hl h.1, h.2⟩ | exact ⟨ItR.mono hl h.1, h.2⟩ | (obtain ⟨fn, h1, h2, h3, h4, h5⟩ := h; exact ⟨fn, h1, h2, h3, VRs.mono hl h4, h5⟩) | exact h

/- A NEW BLOCK. -/
def Rho.put (ρ : Rho) (b : Bid) (x : Nat × Nat × Nat) : Rho := fun b' => if b'.val = b.val then some x else ρ b'
theorem Rho.put_same (ρ : Rho) (b : Bid) (x : Nat × Nat × Nat) : ρ.put b x b = some x := by simp [Rho.put]
theorem Rho.put_ne {ρ : Rho} {b b' : Bid} (h : b' ≠ b) (x : Nat × Nat × Nat) : ρ.put b x b' = ρ b' := by
  simp only [Rho.put]; rw [if_neg fun e => h (Bid.val_inj e)]
theorem Rho.le_put {ρ : Rho} {b : Bid} (h : ρ b = none) (x : Nat × Nat × Nat) : ρ.le (ρ.put b x) := fun b' y hy => by
  by_cases e : b' = b
  · subst e; rw [h] at hy; cases hy
  · rw [Rho.put_ne e]; exact hy

def Heap.new (h : Heap) (x : Blk) (nx : Bid) : Heap := ⟨h.t.set h.nx x, nx⟩

theorem ArrR.mono {ρ ρ' : Rho} (hl : ρ.le ρ') {w w' : World} {c z S g n : Nat} {t : T} {ro : Bool} {cs : Array Value} (h : ArrR ρ w c z S g n t ro cs) (hw : w'.heap[c]? = w.heap[c]?) :
    ArrR ρ' w' c z S g n t ro cs where
  pos := h.pos
  at_ := hw ▸ h.at_
  size := h.size
  fits := h.fits
  cells := fun j ch hj => let ⟨h1, h2, h3⟩ := h.cells j ch hj; ⟨h1, h2, fun i v hi => let ⟨x, h4, h5, h6⟩ := h3 i v hi; ⟨x, h4, VR.mono hl h5, h6⟩⟩

theorem alloc {ρ : Rho} {h : Heap} {w : World} (r : RH P ρ h w) {x : Blk} {nx : Bid} (hn : h.nx.next = some nx) {o : Obj} {S : Nat}
    (harr : ∀ g n t ro, x = .arr g n t ro → ∃ cs el fz, 0 < g ∧ o = .cells cs el fz ∧ Thaw fz S g ∧ cs.size = S ∧ n * g ≤ S ∧
      ∀ (j : Nat) (ch : List V), t.get j = some ch → j < n ∧ ch.length = g ∧ ∀ (i : Nat) (v : V), ch[i]? = some v → ∃ y, cs[j * g + i]? = some y ∧ VR ρ v y ∧ y.oneCell' = true)
    (hob : ∀ x', x = .ob x' → OthR P ρ x' o) (hbig : ∀ x', x = .ob x' → Big x' o S := by intro x' e; cases e <;> (intro e; cases e)) :
    RH P (ρ.put h.nx (w.heap.size, 0, S)) (h.new x nx) { w with heap := w.heap.push o } ∧
    Ext ρ h w (ρ.put h.nx (w.heap.size, 0, S)) (h.new x nx) { w with heap := w.heap.push o } := by
  have hv := Bid.next_val hn
  have hf := r.fresh h.nx (Nat.le_refl _)
  have hle := Rho.le_put (ρ := ρ) hf.1 (w.heap.size, 0, S)
  have old : ∀ c, c < w.heap.size → (w.heap.push o)[c]? = w.heap[c]? := fun c hc => Array.getElem?_push_lt hc ▸ (by simp [hc])
  have new : (w.heap.push o)[w.heap.size]? = some o := by simp
  refine ⟨⟨?_, ?_, ?_, ?_, ?_⟩, ⟨hle, by simp only [Heap.new]; omega, rfl, rfl, rfl, by simp, ?_, ?_⟩⟩
  · intro b c z S' hb
    by_cases e : b = h.nx
    · subst e; rw [Rho.put_same] at hb; cases hb; simp
    · rw [Rho.put_ne e] at hb; have := r.lt _ _ _ _ hb; simp; omega
  · intro b hb
    simp only [Heap.new] at hb ⊢
    have e : b ≠ h.nx := by rintro rfl; omega
    rw [Rho.put_ne e, HT.get_set_ne _ e]
    exact r.fresh b (by omega)
  · intro b b' c z S1 z' S2 h1 h2 h3 h4
    simp only [Heap.new] at h1 h2
    by_cases e : b = h.nx
    · subst e
      rw [Rho.put_same] at h3; cases h3
      by_cases e' : b' = h.nx
      · exact e'.symm
      · rw [Rho.put_ne e'] at h4; have := r.lt _ _ _ _ h4; omega
    · rw [Rho.put_ne e] at h3
      by_cases e' : b' = h.nx
      · subst e'; rw [Rho.put_same] at h4; cases h4; have := r.lt _ _ _ _ h3; omega
      · rw [Rho.put_ne e'] at h4
        rw [HT.get_set_ne _ e] at h1; rw [HT.get_set_ne _ e'] at h2
        exact r.inj b b' c z S1 z' S2 h1 h2 h3 h4
  · intro b c z S' g n t ro hb ht
    simp only [Heap.new] at ht
    by_cases e : b = h.nx
    · subst e
      rw [Rho.put_same] at hb; cases hb
      rw [HT.get_set] at ht
      obtain ⟨cs, el, fz, hg, rfl, h1, h2, h3, h4⟩ := harr g n t ro ht
      refine ⟨cs, ⟨hg, ⟨el, fz, new, fun _ => h1⟩, h2, by omega, fun j ch hj => ?_⟩⟩
      obtain ⟨h5, h6, h7⟩ := h4 j ch hj
      refine ⟨h5, h6, fun i v hi => ?_⟩
      obtain ⟨y, h8, h9, h10⟩ := h7 i v hi
      exact ⟨y, by simpa using h8, VR.mono hle h9, h10⟩
    · rw [Rho.put_ne e] at hb
      rw [HT.get_set_ne _ e] at ht
      obtain ⟨cs, ha⟩ := r.arr b c z S' g n t ro hb ht
      exact ⟨cs, ha.mono hle (old c (r.lt _ _ _ _ hb))⟩
  · intro b c z S' x' hb ht
    simp only [Heap.new] at ht
    by_cases e : b = h.nx
    · subst e
      rw [Rho.put_same] at hb; cases hb
      rw [HT.get_set] at ht
      exact ⟨o, new, (hob x' ht).mono hle, rfl, hbig x' ht⟩
    · rw [Rho.put_ne e] at hb
      rw [HT.get_set_ne _ e] at ht
      obtain ⟨o', h1, h2, h3⟩ := r.ob b c z S' x' hb ht
      exact ⟨o', (old c (r.lt _ _ _ _ hb)).trans h1, h2.mono hle, h3⟩
  · intro c hc hw
    refine ⟨old c hc, ?_⟩
    rintro ⟨b, z, S', hb, hwr⟩
    simp only [Heap.new] at hwr
    by_cases e : b = h.nx
    · subst e; rw [Rho.put_same] at hb; cases hb; omega
    · rw [Rho.put_ne e] at hb; rw [HT.get_set_ne _ e] at hwr
      exact hw ⟨b, z, S', hb, hwr⟩
  · intro b hb hr
    have e : b ≠ h.nx := by rintro rfl; omega
    simp only [Heap.new]
    rw [Rho.put_ne e, HT.get_set_ne _ e]
    exact ⟨hr, rfl⟩

/- A BLOCK WHOSE CONTENT TURNS. -/
def Heap.turn (h : Heap) (b : Bid) (x : Blk) : Heap := ⟨h.t.set b x, h.nx⟩

theorem turn {ρ : Rho} {h : Heap} {w : World} (r : RH P ρ h w) {b : Bid} {c z S : Nat} (hb : ρ b = some (c, z, S)) (hwr : (h.t.get b).wr = true) {x : Blk} {o : Obj}
    {w' : World} (hos : w'.os = w.os) (htape : w'.tape = w.tape) (hout : w'.output = w.output) (hsz : w'.heap.size = w.heap.size)
    (hc : w'.heap[c]? = some o) (hne : ∀ k, k ≠ c → w'.heap[k]? = w.heap[k]?)
    (harr : ∀ g n t ro, x = .arr g n t ro → ∃ cs, ArrR ρ w' c z S g n t ro cs)
    (hob : ∀ x', x = .ob x' → OthR P ρ x' o ∧ z = 0) (hbig : ∀ x', x = .ob x' → Big x' o S := by intro x' e; cases e <;> (intro e; cases e)) :
    RH P ρ (h.turn b x) w' ∧ Ext ρ h w ρ (h.turn b x) w' := by
  have hlive : h.t.get b ≠ .none := by intro e; rw [e] at hwr; cases hwr
  refine ⟨⟨?_, ?_, ?_, ?_, ?_⟩, ⟨.refl _, Nat.le_refl _, hos, htape, hout, by omega, ?_, ?_⟩⟩
  · intro b' c' z' S' h1; rw [hsz]; exact r.lt _ _ _ _ h1
  · intro b' h1
    simp only [Heap.turn] at h1 ⊢
    have e : b' ≠ b := by rintro rfl; rw [(r.fresh _ h1).1] at hb; cases hb
    rw [HT.get_set_ne _ e]; exact r.fresh b' h1
  · intro b1 b2 c' z1 S1 z2 S2 h1 h2 h3 h4
    simp only [Heap.turn] at h1 h2
    refine r.inj b1 b2 c' z1 S1 z2 S2 ?_ ?_ h3 h4
    · by_cases e : b1 = b
      · rw [e]; exact hwr
      · rwa [HT.get_set_ne _ e] at h1
    · by_cases e : b2 = b
      · rw [e]; exact hlive
      · rwa [HT.get_set_ne _ e] at h2
  · intro b' c' z' S' g n t ro h1 h2
    simp only [Heap.turn] at h2
    by_cases e : b' = b
    · subst e; rw [hb] at h1; cases h1; rw [HT.get_set] at h2; exact harr g n t ro h2
    · rw [HT.get_set_ne _ e] at h2
      obtain ⟨cs, ha⟩ := r.arr b' c' z' S' g n t ro h1 h2
      have hcc : c' ≠ c := by rintro rfl; exact e (r.inj b b' _ _ _ _ _ hwr (by rw [h2]; simp) hb h1).symm
      exact ⟨cs, ha.mono (.refl _) (hne c' hcc)⟩
  · intro b' c' z' S' x' h1 h2
    simp only [Heap.turn] at h2
    by_cases e : b' = b
    · subst e; rw [hb] at h1; cases h1; rw [HT.get_set] at h2
      exact ⟨o, hc, (hob x' h2).1, (hob x' h2).2, hbig x' h2⟩
    · rw [HT.get_set_ne _ e] at h2
      obtain ⟨o', h3, h4, h5⟩ := r.ob b' c' z' S' x' h1 h2
      have hcc : c' ≠ c := by rintro rfl; exact e (r.inj b b' _ _ _ _ _ hwr (by rw [h2]; simp) hb h1).symm
      exact ⟨o', (hne c' hcc).trans h3, h4, h5⟩
  · intro k hk hw
    have e : k ≠ c := by rintro rfl; exact hw ⟨b, z, S, hb, hwr⟩
    refine ⟨hne k e, ?_⟩
    rintro ⟨b', z', S', h1, h2⟩
    simp only [Heap.turn] at h2
    by_cases e' : b' = b
    · subst e'; rw [hb] at h1; cases h1; exact e rfl
    · rw [HT.get_set_ne _ e'] at h2; exact hw ⟨b', z', S', h1, h2⟩
  · intro b' h1 h2
    have e : b' ≠ b := by rintro rfl; rw [hb] at h2; cases h2
    simp only [Heap.turn]
    rw [HT.get_set_ne _ e]
    exact ⟨h2, rfl⟩
end Go.Ev
