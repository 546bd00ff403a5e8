/- EVALUATOR, 26: a region whose order is drawn: how it is prepared and run. -/
import Derived.Test.YtjppnjhchojldaaEvEq
import Derived.Test.YtjppnjhchojldaaEvVirt
import Derived.Test.YtjppnjhchojldaaEvPure
namespace Go.Ev
variable {P : Program}

inductive DI where
  | light (v : VI)
  | heavy (v : VI)
  | again (i : Nat) (v : VI)
noncomputable def VI.shp (v : VI) : Sh := VI.rec (motive := fun _ => Sh) (fun _ => .one .any) (fun _ _ => .one .any) (fun _ _ => .one .any) (fun _ => .one .any) (fun _ _ _ _ => .one .any) (fun s _ _ => s) v
noncomputable def runDg (sem : OX → Do) (cf : CF) (env : Env) (l : List DI) (L : List V) (h : Heap) (k : List V → Heap → Res) (kp : V → Heap → Res) : Res :=
  List.rec (motive := fun _ => List V → Heap → Res) (fun L h => k L h)
    (fun i _ ih L h => DI.rec (motive := fun _ => Res)
      (fun v => backk (runVIg sem cf v L env h .ret .pan) (fun u _ => castk v.shp u fun u => appk L [u] fun L' => ih L' h) fun _ _ => .fail)
      (fun v => runVIg sem cf v L env h (fun u h' => appk L [u] fun L' => ih L' h') kp)
      (fun j v => backk (runVIg sem cf v L env h .ret .pan) (fun u _ => nthk L j fun x => veqk u x (ih L h)) fun _ _ => .fail) i)
    l L h
noncomputable abbrev runD := runDg semOX
/-- the values into the frame -/
noncomputable def backs (l : List (Slot × Nat)) (L : List V) (env : Env) (k : Env → Res) : Res :=
  List.rec (motive := fun _ => Env → Res) (fun env => k env) (fun p _ ih env => Prod.rec (motive := fun _ => Res) (fun x i => nthk L i fun v => envk env x v ih) p) l env

/-- what the region writes is not known -/
noncomputable def undk (l : List (Slot × Nat)) (env : Env) (k : Env → Res) : Res :=
  List.rec (motive := fun _ => Env → Res) (fun env => k env) (fun p _ ih env => Prod.rec (motive := fun _ => Res) (fun x _ => envk env x .und ih) p) l env
def VI.light : VI → Bool
  | .op x => x.light
  | .guard _ _ i => i.light
  | .cast _ i => i.light
  | _ => false

def VI.makes : VI → Bool
  | .op x => x.al
  | _ => false

/- HOW IT IS PREPARED -/
def edgesOf (o : Oper) : List Nat := (o.after.toList.filter (Region.binds .any)).map (·.on)
def ancGo : List Oper → List Nat → List Nat
  | [], acc => acc
  | o :: l, acc => ancGo l (acc ++ [(edgesOf o).foldl (fun m j => m ||| (1 <<< j) ||| acc.getD j 0) 0])
def lightOp : Op → Bool
  | .move _ | .assign _ | .pick _ _ _ | .build _ _ | .load _ _ | .nilCheck _ | .binOp _ _ _ _ _ | .unOp _ _ _ | .convert _ _ _ | .makeInterface _ _ | .makeFunc _ _ _ | .slice _ _ _ _ _ | .fieldAddr _ _ _
  | .field _ _ _ | .indexAddr _ _ _ | .index _ _ _ | .extract _ _ | .lookup _ _ _ _ | .typeAssert _ _ _ _ => true
  | .call { callee := .builtin .len, .. } | .call { callee := .builtin .min, .. } | .call { callee := .builtin .max, .. } => true
  | _ => false
/-- an operation that makes a block, and nothing else -/
def makes : Op → Bool
  | .alloc _ | .box _ _ | .buildSlice _ _ _ | .makeMap _ _ | .makeSlice _ _ _ => true
  | _ => false
def makesO (o : Oper) : Bool := o.guard.isNone && makes o.op
/-- an operation that need not stand in its order -/
def floatO (o : Oper) : Bool := lightOp o.op || makesO o
/-- what the preparing of a region goes by -/
structure DP where
  ops : Array Oper
  anc : List Nat
  ord : List Nat
  fi : FI
def DP.A (d : DP) (i j : Nat) : Bool := (d.anc.getD i 0).testBit j
def DP.pos (d : DP) (j : Nat) : Nat := d.ord.idxOf j
def DP.dst (d : DP) (j : Nat) : Option Tmp := (d.ops[j]?).bind (·.dst)
def DP.lt (d : DP) (j : Nat) : Bool := ((d.ops[j]?).map floatO).getD false
def DP.al (d : DP) (j : Nat) : Bool := ((d.ops[j]?).map makesO).getD false
def DP.ed (d : DP) (j : Nat) : List Nat := ((d.ops[j]?).map edgesOf).getD []
def DP.writer (d : DP) (t : Nat) : Option Nat := (List.range d.ops.size).find? fun j => d.dst j == some t
def DP.T (d : DP) (i t : Nat) : Option Loc :=
  let old := if d.fi.inl.testBit t then none else (slotOf t).map .e
  match d.writer t with
  | none => old
  | some j => if d.A i j then some (.s (d.pos j)) else if j == i || d.A j i then old else none
def ordGo (ops : Array Oper) : Nat → Nat → List Nat
  | 0, _ => []
  | k + 1, m =>
    let rdy := (List.range ops.size).filter fun i => !m.testBit i && ((ops[i]?).map fun o => (edgesOf o).all (m.testBit ·)).getD false
    match (rdy.find? fun i => ((ops[i]?).map makesO).getD false) <|> rdy.find? fun i => ((ops[i]?).map floatO).getD false with
    | some i => i :: ordGo ops k (m ||| 1 <<< i)
    | none => match rdy with
      | i :: _ => i :: ordGo ops k (m ||| 1 <<< i)
      | [] => []
def dpOf (fi : FI) (ops : Array Oper) : DP := ⟨ops, ancGo ops.toList [], ordGo ops ops.size 0, fi⟩

def DP.chk (d : DP) : Bool :=
  let n := d.ops.size
  d.ord.length == n && (d.ord.all fun j => decide (j < n)) && (List.range n).all fun i =>
    decide (d.pos i < n) && (d.ord[i]?).any (fun j => d.pos j == i) && ((List.range n).all fun x => !d.A i x || (d.ed i).any fun e => x == e || d.A e x)
      && ((d.ed i).all fun e => decide (d.pos e < d.pos i)) && ((List.range n).all fun j => d.lt j || j == i || !decide (d.pos j < d.pos i) || d.A i j)
      && ((d.dst i).all fun t => d.writer t == some i && decide (t < d.fi.nt))

def DP.vi (P : Program) (ng : Nat) (d : DP) (i : Nat) : Option VI := (d.ops[i]?).bind fun o => cGuard P (locOf (d.T i) ng) d.ops o
/-- what is looked at again after the heavy operation i; 'all': what it hangs on too -/
def DP.agains (P : Program) (ng : Nat) (d : DP) (i : Nat) (all : Bool) : List Nat → Option (List DI)
  | [] => some []
  | j :: js => if d.lt j && !d.al j && (all || !d.A i j) then (d.vi P ng j).bind fun v => if v.pure then d.agains P ng i all js else if v.light then (d.agains P ng i all js).map fun l => .again (d.pos j) v :: l else none else d.agains P ng i all js
def DP.items (P : Program) (ng : Nat) (d : DP) : List Nat → Nat → Option (List DI)
  | [], _ => some []
  | i :: is, m => (d.vi P ng i).bind fun v =>
    if d.al i then if v.makes then (d.agains P ng i true (d.ord.take m)).bind fun g => (d.items P ng is (m + 1)).map fun l => .heavy v :: (g ++ l) else none
    else if d.lt i then if v.light then (d.items P ng is (m + 1)).map fun l => .light v :: l else none
    else (d.agains P ng i false (d.ord.take m)).bind fun g => (d.items P ng is (m + 1)).map fun l => .heavy v :: (g ++ l)
def DP.outs (d : DP) : List Nat → Option (List (Slot × Nat))
  | [] => some []
  | j :: js => match d.dst j with
    | some t => if d.fi.inl.testBit t then d.outs js else (slotOf t).bind fun x => (d.outs js).map fun l => (x, d.pos j) :: l
    | none => d.outs js

section facts
variable {d : DP}
structure DP.Ok (d : DP) : Prop where
  len : d.ord.length = d.ops.size
  bnd : ∀ j ∈ d.ord, j < d.ops.size
  pos : ∀ i, i < d.ops.size → d.pos i < d.ops.size
  inj : ∀ m, m < d.ops.size → ∃ j, d.ord[m]? = some j ∧ d.pos j = m
  anc : ∀ i, i < d.ops.size → ∀ x, x < d.ops.size → d.A i x = true → ∃ e ∈ d.ed i, x = e ∨ d.A e x = true
  edge : ∀ i, i < d.ops.size → ∀ e ∈ d.ed i, d.pos e < d.pos i
  heavy : ∀ i, i < d.ops.size → ∀ j, j < d.ops.size → d.lt j = false → j ≠ i → d.pos j < d.pos i → d.A i j = true
  dst : ∀ i, i < d.ops.size → ∀ t, d.dst i = some t → d.writer t = some i ∧ t < d.fi.nt
theorem DP.chk_ok (h : d.chk = true) : d.Ok := by
  simp only [DP.chk, Bool.and_eq_true, beq_iff_eq, List.all_eq_true, List.mem_range] at h
  obtain ⟨⟨h0, hb⟩, h⟩ := h
  refine ⟨h0, fun j hj => of_decide_eq_true (hb j hj), fun i hi => ?_, fun m hm => ?_, fun i hi x hx ha => ?_, fun i hi e he => ?_, fun i hi j hj hl hne hp => ?_, fun i hi t ht => ?_⟩
  · exact of_decide_eq_true (h i hi).1.1.1.1.1
  · have := (h m hm).1.1.1.1.2
    obtain ⟨j, h1, h2⟩ := Option.any_eq_true _ _ |>.1 this
    exact ⟨j, h1, by simpa using h2⟩
  · have := (h i hi).1.1.1.2 x hx
    rw [ha] at this
    simp only [Bool.not_true, Bool.false_or, List.any_eq_true] at this
    obtain ⟨e, h1, h2⟩ := this
    exact ⟨e, h1, by simpa using h2⟩
  · exact of_decide_eq_true ((h i hi).1.1.2 e he)
  · have := (h i hi).1.2 j hj
    simpa [hl, hne, hp] using this
  · have := (h i hi).2
    rw [ht] at this
    simpa using this
end facts
end Go.Ev
