/- EVALUATOR, 17: an operation as it is prepared, what the kernel does at it. -/
import Derived.Test.YtacpbnjbbkhngaaGreatDoorEvWp
import Derived.Test.YtacpbnjbbkhngaaGreatDoorEvEx
namespace Go.Ev
variable {P : Program}

inductive OX where
  | mv (x : Loc)
  | pick (c a b : Loc)
  | alloc (g n : Nat) (c : List V)
  | box (x : Loc)
  | build (n : Nat) (tmpl : List V) (ps : List (Nat × Nat × Loc))
  | buildS (g n : Nat) (tmpl : List V) (ps : List (Nat × Nat × Loc))
  | load1 (x : Loc)
  | loadN (n : Nat) (x : Loc)
  | store1 (a x : Loc)
  | storeN (n : Nat) (a x : Loc)
  | nil (x : Loc)
  | binI (o : BinOp) (x y : Loc)
  | binS (o : BinOp) (x y : Loc)
  | binB (o : BinOp) (x y : Loc)
  | binP (o : BinOp) (x y : Loc)
  | binL (o : BinOp) (x y : Loc)
  | binM (o : BinOp) (x y : Loc)
  | binF (o : BinOp) (x y : Loc)
  | binE (o : BinOp) (x y : Loc)
  | neg (x : Loc)
  | not (x : Loc)
  | com (x : Loc)
  | convI (kd : IntKind) (x : Loc)
  | convS (x : Loc)
  | bytesS (x : Loc)
  | mkif (t : Nat) (x : Loc)
  | mkfn (f : Nat) (cap : List Loc)
  | mkS (g : Nat) (z : List V) (l c : Loc)
  | sliS (x : Loc) (lo hi : Option Loc)
  | sli (sz : Nat) (x : Loc) (lo hi mx : Option Loc)
  | sliA (n sz : Nat) (x : Loc) (lo hi : Option Loc)
  | faddr (off : Nat) (x : Loc)
  | fld1 (off : Nat) (x : Loc)
  | fldN (off n : Nat) (x : Loc)
  | iaddr (sz : Nat) (x i : Loc)
  | iaddrA (n sz : Nat) (x i : Loc)
  | idxS (x i : Loc)
  | idxA (n sz : Nat) (x i : Loc)
  | extract (i : Nat) (x : Loc)
  | len (x : Loc)
  | lenS (x : Loc)
  | app (sz : Nat) (x y : Loc)
  | appS (x y : Loc)
  | appZ (sz : Nat) (z : List V) (x y : Loc)
  | copy (sz : Nat) (x y : Loc)
  | copyS (x y : Loc)
  | mm (mx : Bool) (x y : Loc)
  | mark (x : Loc)
  | ex (x : EX) (l : List Loc)

/-- it changes nothing -/
def OX.light : OX → Bool
  | .alloc _ _ _ | .box _ | .buildS _ _ _ _ | .store1 _ _ | .storeN _ _ _ | .mkS _ _ _ _ | .app _ _ _ | .appS _ _ | .appZ _ _ _ _ | .copy _ _ _ | .copyS _ _ | .mark _ => false
  | .ex x _ => x.light
  | _ => true

/-- several operands -/
noncomputable def getsk (xs : List Loc) (L : List V) (env : Env) : (List V → Res) → Res :=
  List.rec (motive := fun _ => (List V → Res) → Res) (fun k => k []) (fun x _ ih k => getk x L env fun v => ih fun l => k (v :: l)) xs
noncomputable def getpk (ps : List (Nat × Nat × Loc)) (L : List V) (env : Env) : (List (Nat × Nat × V) → Res) → Res :=
  List.rec (motive := fun _ => (List (Nat × Nat × V) → Res) → Res) (fun k => k [])
    (fun p _ ih k => Prod.rec (motive := fun _ => Res) (fun a q => Prod.rec (motive := fun _ => Res) (fun b x => getk x L env fun v => ih fun l => k ((a, b, v) :: l)) q) p) ps
noncomputable def getok (x : Option Loc) (L : List V) (env : Env) (k : Option V → Res) : Res := Option.rec (motive := fun _ => Res) (k none) (fun x => getk x L env fun v => k (some v)) x

abbrev Do := List V → Env → Heap → (V → Heap → Res) → Res
noncomputable def do1 (f : V → Heap → (V → Heap → Res) → Res) (x : Loc) : Do := fun L env h k => getk x L env fun v => f v h k
noncomputable def do2 (f : V → V → Heap → (V → Heap → Res) → Res) (x y : Loc) : Do := fun L env h k => getk x L env fun v => getk y L env fun u => f v u h k
noncomputable def doB (f : BinOp → V → V → (V → Res) → Res) (o : BinOp) (x y : Loc) : Do := fun L env h k => getk x L env fun v => getk y L env fun u => f o v u fun z => k z h
/-- two integers: the less or the greater -/
noncomputable def sMM (mx : Bool) (x y : V) (h : Heap) (k : V → Heap → Res) : Res :=
  intk x fun kx a => intk y fun ky b => ifk (Nat.beq (kno kx) (kno ky)) (ifk (Bool.rec (motive := fun _ => Bool) (ilt b a) (ilt a b) mx) (k (.int kx b) h) (k (.int kx a) h)) .fail

/-- copy -/
noncomputable def sCopy (sz : Nat) (v u : V) (h : Heap) (k : V → Heap → Res) : Res :=
  slk u (fun _ _ _ _ _ => copyk sz v h (fun d k => srcTk sz d u h k) k) (copyk sz v h (fun d k => srcTk sz d u h k) k) (copyk sz v h (fun d k => srcTk sz d u h k) k)
/-- the one or the other -/
noncomputable def pickv (t : Bool) (a b : V) : V := Bool.rec (motive := fun _ => V) b a t
noncomputable def semOX (x : OX) : Do :=
  OX.rec (motive := fun _ => Do)
    (do1 fun v h k => k v h)
    (fun c a b L env h k => getk c L env fun v => boolk v fun t => getk a L env fun u => getk b L env fun u' => k (pickv t u u') h)
    (fun g n c _ _ h k => sAlloc g n (repT c n n) h k)
    (do1 sBox)
    (fun n tmpl ps L env h k => getpk ps L env fun l => sBuild n tmpl l h k)
    (fun g n tmpl ps L env h k => getpk ps L env fun l => sBuildS g n tmpl l h k)
    (do1 sLoad1)
    (fun n => do1 (sLoadN n))
    (do2 sStore1)
    (fun n => do2 (sStoreN n))
    (do1 sNil)
    (doB Go.Ev.binI) (doB Go.Ev.binS) (doB Go.Ev.binB) (doB (binN pnk)) (doB (binN snk)) (doB (binN mnk)) (doB (binN fnk0)) (doB (binN ink))
    (do1 sNeg) (do1 sNot) (do1 sCom)
    (fun kd => do1 (sConvI kd))
    (do1 sConvS)
    (do1 sBytesS)
    (fun t => do1 fun v h k => k (.iface t v) h)
    (fun f cap L env h k => getsk cap L env fun l => k (.func f l) h)
    (fun g z => do2 (sMake g z))
    (fun x lo hi L env h k => getk x L env fun v => getok lo L env fun a => getok hi L env fun b => sSliceS v a b h k)
    (fun sz x lo hi mx L env h k => getk x L env fun v => getok lo L env fun a => getok hi L env fun b => getok mx L env fun c => sSlice sz v a b c h k)
    (fun n sz x lo hi L env h k => getk x L env fun v => getok lo L env fun a => getok hi L env fun b => sSliceA n sz v a b h k)
    (fun off => do1 (sFaddr off))
    (fun off => do1 (sFld1 off))
    (fun off n => do1 (sFldN off n))
    (fun sz => do2 (sIaddr sz))
    (fun n sz => do2 (sIaddrA n sz))
    (do2 sIdxS)
    (fun n sz => do2 (sIdxA n sz))
    (fun i => do1 (sExtract i))
    (do1 sLen)
    (do1 sLenS)
    (fun sz => do2 fun v u h k => srck sz u h fun m new => appendk sz v m new h k)
    (do2 fun v u h k => srcSk u fun m new => appendk 1 v m new h k)
    (fun sz z => do2 (sAppZ sz z))
    (fun sz => do2 (sCopy sz))
    (do2 fun v u h k => strk u fun _ _ => copyk 1 v h (fun d k => srcTSk d u k) k)
    (fun mx => do2 (sMM mx))
    (do1 sMark)
    (fun x xs L env h k => getsk xs L env fun l => semEX x l h k)
    x

/- THE SAME, OVER ANY WORDS FOR THE MEMORY: what a function comes to is printed over words that nobody can open. -/
structure Words where
  load1 : Heap → Bid → Nat → (V → Res) → Res
  load : Heap → Bid → Nat → Nat → (List V → Res) → Res
  store : Heap → Bid → Nat → Nat → List V → (Heap → Res) → Res
  new : Heap → Blk → (Bid → Heap → Res) → Res
  row : Nat → Nat → List V → (T → Res) → Res
  app : Nat → V → V → Heap → (V → Heap → Res) → Res
  appS : V → V → Heap → (V → Heap → Res) → Res
  appZ : Nat → List V → V → V → Heap → (V → Heap → Res) → Res
  copy : Nat → V → V → Heap → (V → Heap → Res) → Res
  copyS : V → V → Heap → (V → Heap → Res) → Res
  make : Nat → List V → V → V → Heap → (V → Heap → Res) → Res
  slice : Nat → V → Option V → Option V → Option V → Heap → (V → Heap → Res) → Res
  sliceA : Nat → Nat → V → Option V → Option V → Heap → (V → Heap → Res) → Res
  sliceS : V → Option V → Option V → Heap → (V → Heap → Res) → Res
  bytesS : V → Heap → (V → Heap → Res) → Res
  idxS : V → V → Heap → (V → Heap → Res) → Res
  mark : V → Heap → (V → Heap → Res) → Res
  ex : EX → List V → Heap → (V → Heap → Res) → Res
noncomputable def words : Words where
  load1 := load1k
  load := loadk
  store := storek
  new := Heap.newk
  row := rowk
  app := fun sz v u h k => srck sz u h fun m new => appendk sz v m new h k
  appS := fun v u h k => srcSk u fun m new => appendk 1 v m new h k
  appZ := sAppZ
  copy := sCopy
  copyS := fun v u h k => strk u fun _ _ => copyk 1 v h (fun d k => srcTSk d u k) k
  make := sMake
  slice := sSlice
  sliceA := sSliceA
  sliceS := sSliceS
  bytesS := sBytesS
  idxS := sIdxS
  mark := sMark
  ex := semEX
noncomputable def semOXg (S : Words) (x : OX) : Do :=
  OX.rec (motive := fun _ => Do)
    (do1 fun v h k => k v h)
    (fun c a b L env h k => getk c L env fun v => boolk v fun t => getk a L env fun u => getk b L env fun u' => k (pickv t u u') h)
    (fun g n c _ _ h k => S.new h (.arr g n (repT c n n) false) fun b h' => k (.ptr b 0) h')
    (do1 fun v h k => partsk v fun n l => zk n .fail (S.new h (.arr n 1 (.lf l) false) fun b h' => k (.ptr b 0) h'))
    (fun n tmpl ps L env h k => getpk ps L env fun l => sBuild n tmpl l h k)
    (fun g n tmpl ps L env h k => getpk ps L env fun l => fillk l tmpl fun l => S.row g n l fun t => S.new h (.arr g n t false) fun b h' => k (.slice b 0 n (some n) g) h')
    (do1 fun v h k => ptrk v fun b o => S.load1 h b o fun u => k u h)
    (fun n => do1 fun v h k => ptrk v fun b o => S.load h b o n fun l => k (.agg n l) h)
    (do2 fun a v h k => ptrk a fun b o => onek v (S.store h b o 1 [v] fun h' => k .skip h'))
    (fun n => do2 fun a v h k => ptrk a fun b o => aggk v fun m l => ifk (Nat.beq m n) (S.store h b o n l fun h' => k .skip h') .fail)
    (do1 sNil)
    (doB Go.Ev.binI) (doB Go.Ev.binS) (doB Go.Ev.binB) (doB (binN pnk)) (doB (binN snk)) (doB (binN mnk)) (doB (binN fnk0)) (doB (binN ink))
    (do1 sNeg) (do1 sNot) (do1 sCom)
    (fun kd => do1 (sConvI kd))
    (do1 sConvS)
    (do1 S.bytesS)
    (fun t => do1 fun v h k => k (.iface t v) h)
    (fun f cap L env h k => getsk cap L env fun l => k (.func f l) h)
    (fun g z => do2 (S.make g z))
    (fun x lo hi L env h k => getk x L env fun v => getok lo L env fun a => getok hi L env fun b => S.sliceS v a b h k)
    (fun sz x lo hi mx L env h k => getk x L env fun v => getok lo L env fun a => getok hi L env fun b => getok mx L env fun c => S.slice sz v a b c h k)
    (fun n sz x lo hi L env h k => getk x L env fun v => getok lo L env fun a => getok hi L env fun b => S.sliceA n sz v a b h k)
    (fun off => do1 (sFaddr off))
    (fun off => do1 (sFld1 off))
    (fun off n => do1 (sFldN off n))
    (fun sz => do2 (sIaddr sz))
    (fun n sz => do2 (sIaddrA n sz))
    (do2 S.idxS)
    (fun n sz => do2 (sIdxA n sz))
    (fun i => do1 (sExtract i))
    (do1 sLen)
    (do1 sLenS)
    (fun sz => do2 (S.app sz))
    (do2 S.appS)
    (fun sz z => do2 (S.appZ sz z))
    (fun sz => do2 (S.copy sz))
    (do2 S.copyS)
    (fun mx => do2 (sMM mx))
    (do1 S.mark)
    (fun x xs L env h k => getsk xs L env fun l => S.ex x l h k)
    x
theorem semOXg_words : semOXg words = semOX := by funext x; cases x <;> rfl

/- HOW AN OPERATION IS PREPARED -/
def chkSl (P : Program) (t : TypeId) : Option (TypeId × Nat) :=
  match P.underlying t with
  | some (.slice e) => match sz P e with
    | some s => match P.info? e with
      | some i => match i.zero with
        | some z => if 0 < s ∧ i.bytes ≤ 65536 ∧ z.cells.size = s ∧ z.cells.toList.all Value.oneCell' then some (e, s) else none
        | none => none
      | none => none
    | none => none
  | _ => none
theorem chkSl_ok {t e : TypeId} {s : Nat} (h : chkSl P t = some (e, s)) : SliceT P t e s := by
  unfold chkSl at h
  split at h
  · rename_i e' hu
    split at h
    · rename_i s' hs
      split at h
      · rename_i i hi
        split at h
        · rename_i z hz
          split at h
          · rename_i hc
            cases h
            obtain ⟨h1, h2, h3, h4⟩ := hc
            exact ⟨hu, hs, h1, ⟨i, hi, h2⟩, ⟨z, by rw [hi]; exact hz, h3, List.all_eq_true.1 h4⟩⟩
          · cases h
        · cases h
      · cases h
    · cases h
  · cases h

def optLoc (f : Operand → Option Loc) : Option Operand → Option (Option Loc)
  | none => some none
  | some x => (f x).map some
/-- the parts of a struct or an array: where, how many, what -/
def partLocs (f : Operand → Option Loc) (place : Nat → Option (Nat × Nat)) : List (Nat × Operand) → Option (List (Nat × Nat × Loc))
  | [] => some []
  | (i, x) :: ps => match place i, f x, partLocs f place ps with
    | some (off, n), some l, some m => some ((off, n, l) :: m)
    | _, _, _ => none
def locsOf (f : Operand → Option Loc) : List Operand → Option (List Loc)
  | [] => some []
  | x :: xs => match f x, locsOf f xs with
    | some l, some m => some (l :: m)
    | _, _ => none

def one (f : Operand → Option Loc) (c : Bool) (mk : Loc → OX) (x : Operand) : Option OX := if c then (f x).map mk else none
def two (f : Operand → Option Loc) (c : Bool) (mk : Loc → Loc → OX) (x y : Operand) : Option OX := if c then (f x).bind fun a => (f y).map fun b => mk a b else none

def isConst : Operand → Bool
  | .const _ => true
  | _ => false

def cBin (P : Program) (f : Operand → Option Loc) (o : BinOp) (t : TypeId) (x y : Operand) : Option OX :=
  match P.underlying t with
  | some (.int _) => two f true (.binI o) x y
  | some .string => two f true (.binS o) x y
  | some .bool => two f true (.binB o) x y
  | some (.pointer e) => if isConst x || isConst y then two f true (.binP o) x y else match sz P e with
    | some n => if n = 0 then none else (locsOf f [x, y]).map (.ex (.eqp o))
    | none => none
  | some (.slice _) => two f true (.binL o) x y
  | some (.map _ _) => two f true (.binM o) x y
  | some (.func _ _ _) => two f true (.binF o) x y
  | some (.interface _) => two f (isConst y) (.binE o) x y
  | _ => none
def cConv (P : Program) (f : Operand → Option Loc) (s d : TypeId) (x : Operand) : Option OX :=
  match P.underlying s, P.underlying d with
  | some (.int _), some (.int kd) => one f true (.convI kd) x
  | some .string, some .string => one f true .convS x
  | some (.slice e), some .string => match P.underlying e with
    | some (.int .u8) => one f true .bytesS x
    | _ => none
  | _, _ => none
def cMark (P : Program) (f : Operand → Option Loc) (s d : TypeId) (x : Operand) : Option OX :=
  if s = d then match P.underlying s with
    | some (.slice e) => match P.underlying e with
      | some (.int .u8) => one f true .mark x
      | _ => none
    | _ => none
  else none
def cConvM (P : Program) (f : Operand → Option Loc) (s d : TypeId) (x : Operand) : Option OX :=
  match cConv P f s d x with
  | some o => some o
  | none => cMark P f s d x
def cField (P : Program) (f : Operand → Option Loc) (t : TypeId) (x : Operand) (i : Nat) : Option OX :=
  match P.underlying t with
  | some (.struct fields) => match fields[i]? with
    | some fd => if scal P fd.type then one f true (.fld1 fd.offset) x else if aggr P fd.type then match sz P fd.type with
      | some n => one f true (.fldN fd.offset n) x
      | none => none
      else none
    | none => none
  | _ => none
def cFaddr (P : Program) (f : Operand → Option Loc) (t : TypeId) (x : Operand) (i : Nat) : Option OX :=
  match P.underlying t with
  | some (.struct fields) => match fields[i]? with
    | some fd => match sz P fd.type with
      | some n => one f (n != 0) (.faddr fd.offset) x
      | none => none
    | none => none
  | _ => none
def cIaddr (P : Program) (f : Operand → Option Loc) (t : TypeId) (x i : Operand) : Option OX :=
  match P.underlying t with
  | some (.slice e) => match sz P e with
    | some s => two f true (.iaddr s) x i
    | none => none
  | some (.array n e) => match sz P e with
    | some s => two f true (.iaddrA n s) x i
    | none => none
  | _ => none
def cIndex (P : Program) (f : Operand → Option Loc) (t : TypeId) (x i : Operand) : Option OX :=
  match P.underlying t with
  | some .string => two f true .idxS x i
  | some (.array n e) => match sz P e with
    | some s => if aggr P e then (locsOf f [x, i]).map (.ex (.idxAN n s)) else two f (scal P e) (.idxA n s) x i
    | none => none
  | _ => none
def cSlice (P : Program) (f : Operand → Option Loc) (t : TypeId) (x : Operand) (lo hi mx : Option Operand) : Option OX :=
  match f x, optLoc f lo, optLoc f hi, optLoc f mx with
  | some a, some l, some h, some m =>
    match P.underlying t with
    | some .string => if mx.isNone then some (.sliS a l h) else none
    | some (.slice e) => match sz P e with
      | some s => if 0 < s then some (.sli s a l h m) else none
      | none => none
    | some (.array n e) => match sz P e with
      | some s => if mx.isNone then some (.sliA n s a l h) else none
      | none => none
    | _ => none
  | _, _, _, _ => none
def cAlloc0 (P : Program) (t : TypeId) : Option OX :=
  match zeroL P t with
  | some l => let g := grain P t l.length
    if 0 < g.1 ∧ (l.take g.1).length = g.1 ∧ eqVs l ((List.replicate g.2 (l.take g.1)).flatten) = true then some (.alloc g.1 g.2 (l.take g.1)) else none
  | none => none
def cAllocT (P : Program) (t : TypeId) : Option OX :=
  match zeroL P t, sz P t with
  | some l, some g => if 0 < g ∧ l.length = g then some (.ex (.allocT t g l) []) else none
  | _, _ => none
def cAlloc (P : Program) (t : TypeId) : Option OX := if bldT P t then cAllocT P t else cAlloc0 P t
def cBuild (P : Program) (f : Operand → Option Loc) (t : TypeId) (ps : List (Nat × Operand)) : Option OX :=
  match zeroL P t with
  | some tmpl => match P.underlying t with
    | some (.struct fields) => match places P fields with
      | some pl => match partLocs f (pl[·]?) ps with
        | some m => some (.build tmpl.length tmpl m)
        | none => none
      | none => none
    | some (.array _ e) => match sz P e with
      | some s => match partLocs f (fun i => some (i * s, s)) ps with
        | some m => some (.build tmpl.length tmpl m)
        | none => none
      | none => none
    | _ => none
  | none => none
def repeatL (n : Nat) (l : List V) : List V := (List.replicate n l).flatten
def cBuildS (P : Program) (f : Operand → Option Loc) (t : TypeId) (n : Nat) (ps : List (Nat × Operand)) : Option OX :=
  match P.underlying t with
  | some (.slice e) => match sz P e, zeroL P e, partLocs f (fun i => match sz P e with | some s => some (i * s, s) | none => none) ps with
    | some s, some z, some m => if 0 < s ∧ n * s ≤ 2 ^ 24 ∧ z.length = s then some (.buildS s n (repeatL n z) m) else none
    | _, _, _ => none
  | _ => none
def cMake (P : Program) (f : Operand → Option Loc) (t : TypeId) (l c : Operand) : Option OX :=
  match chkSl P t with
  | some (e, s) => match zeroL P e with
    | some z => two f (z.length == s) (.mkS s z) l c
    | none => none
  | none => none
/-- a zero value, as one value -/
def zeroV (P : Program) (t : TypeId) : Option V := ((P.info? t).bind (·.zero)).bind toV
theorem zeroV_ok {t : TypeId} {z : V} (h : zeroV P t = some z) : ZeroV P t z := by
  obtain ⟨v, h1, h2⟩ := Option.bind_eq_some_iff.1 h
  exact ⟨v, h1, fun ρ => toV_ok h2 ρ⟩
/-- how a map's keys are compared: they are strings; or integers -/
def keyKind (P : Program) (t : TypeId) : Option Bool := match P.underlying t with
  | some .string => some true
  | some (.int _) => some false
  | _ => none
theorem keyKind_ok {t : TypeId} {s : Bool} (h : keyKind P t = some s) : ∃ d, P.underlying t = some d ∧ keyD s d = true := by
  unfold keyKind at h
  split at h
  · rename_i hu; cases h; exact ⟨_, hu, rfl⟩
  · rename_i hu; cases h; exact ⟨_, hu, rfl⟩
  · cases h
def cBuiltin (P : Program) (f : Operand → Option Loc) (b : Builtin) (args : List Operand) (ts : Array TypeId) : Option OX :=
  match b, args with
  | .len, [x] => match ts[0]? with
    | some t => match P.underlying t with
      | some .string => one f true .lenS x
      | some (.slice _) => one f true .len x
      | some (.map _ _) => (locsOf f [x]).map (.ex .lenM)
      | _ => none
    | none => none
  | .cap, [x] => match ts[0]? with
    | some t => match P.underlying t with
      | some (.slice _) => (locsOf f [x]).map (.ex .capS)
      | _ => none
    | none => none
  | .delete, [x, y] => match ts[0]? with
    | some t => match P.underlying t with
      | some (.map kt _) => (keyKind P kt).bind fun s => (locsOf f [x, y]).map (.ex (.del s))
      | _ => none
    | none => none
  | .append, [x, y] => match ts[0]?, ts[1]? with
    | some t, some u => match chkSl P t, P.underlying u with
      | some (_, s), some (.slice _) => two f true (.app s) x y
      | some (_, 1), some .string => two f true .appS x y
      | some (e, s), some (.int _) => match zeroL P e with
        | some z => two f (z.length == s) (.appZ s z) x y
        | none => none
      | _, _ => none
    | _, _ => none
  | .copy, [x, y] => match ts[0]?, ts[1]? with
    | some t, some u => match P.underlying t, P.underlying u with
      | some (.slice e), some (.slice _) => match sz P e with
        | some s => two f true (.copy s) x y
        | none => none
      | some (.slice e), some .string => two f (sz P e == some 1) .copyS x y
      | _, _ => none
    | _, _ => none
  | .min, [x, y] => two f true (.mm false) x y
  | .max, [x, y] => two f true (.mm true) x y
  | _, _ => none

/-- where strings.Builder, or what it calls, appends -/
def bldPos (pos : String) : Bool := pos == "builder.go:97" || pos == "builder.go:114" || pos == "utf8.go:413"
def cAppB (P : Program) (f : Operand → Option Loc) (args : List Operand) (ts : Array TypeId) : Option OX :=
  match args with
  | [x, y] => match ts[0]?, ts[1]? with
    | some t, some u => match chkSl P t, P.underlying u with
      | some (e, 1), some (.slice _) => (locsOf f [x, y]).map (.ex (.appB false e))
      | some (e, 1), some .string => (locsOf f [x, y]).map (.ex (.appB true e))
      | _, _ => none
    | _, _ => none
  | _ => none
def cUns (P : Program) (f : Operand → Option Loc) (b : Builtin) (args : List Operand) (ts : Array TypeId) : Option OX :=
  match b, args with
  | .unsafeSliceData, [x] => (locsOf f [x]).map (.ex .usd)
  | .unsafeString, [x, y] => match ts.toList with
    | [pt, _] => match P.underlying pt with
      | some (.pointer e) => if P.cellsOf e == 1 then (locsOf f [x, y]).map (.ex (.ustr e)) else none
      | _ => none
    | _ => none
  | _, _ => none
def cBuiltinP (P : Program) (f : Operand → Option Loc) (pos : String) (b : Builtin) (args : List Operand) (ts : Array TypeId) : Option OX :=
  match b with
  | .append => if bldPos pos then cAppB P f args ts else cBuiltin P f .append args ts
  | .unsafeSliceData => cUns P f .unsafeSliceData args ts
  | .unsafeString => cUns P f .unsafeString args ts
  | b => cBuiltin P f b args ts
/-- the types near a type whose variables begin with one of it -/
def nearT (P : Program) (t : TypeId) : List Nat := ((List.range 64).map (t + · - 8)).filter fun e => bldT P e && liesAt P P.depth e 1 0 t 1
def cUp (P : Program) (f : Operand → Option Loc) (s d : TypeId) (x : Operand) : Option OX :=
  match P.underlying s, P.underlying d with
  | some (.pointer t), some .unsafePointer => match sz P t with
    | some n => if n != 0 then (locsOf f [x]).map (.ex .toU) else none
    | none => none
  | some .unsafePointer, some (.pointer t) => match sz P t with
    | some _ => (locsOf f [x]).map (.ex (.fromU (nearT P t)))
    | none => none
  | some .string, some (.slice e) => match P.underlying e with
    | some (.int .u8) => (locsOf f [x]).map (.ex .s2b)
    | _ => none
  | _, _ => none
def cUpd (P : Program) (f : Operand → Option Loc) (t : TypeId) (m k x : Operand) : Option OX := match P.underlying t with
  | some (.map kt _) => (keyKind P kt).bind fun s => (locsOf f [m, k, x]).map (.ex (.upd s))
  | _ => none
/-- the further operations -/
def cEX (P : Program) (f : Operand → Option Loc) : Op → Option OX
  | .range t x => match P.underlying t with
    | some .string => (locsOf f [x]).map (.ex .rngS)
    | some (.map _ _) => (locsOf f [x]).map (.ex .rngM)
    | _ => none
  | .next x isS => if isS then (locsOf f [x]).map (.ex .nxtS) else (locsOf f [x]).map (.ex .nxtM)
  | .entry x => (locsOf f [x]).map (.ex .entM)
  | .makeMap t r => match P.underlying t with
    | some (.map _ _) => (locsOf f r.toList).map (.ex .mkm)
    | _ => none
  | .lookup t x i ok => match P.underlying t with
    | some (.map kt et) => (keyKind P kt).bind fun s => (zeroV P et).bind fun z => (locsOf f [x, i]).map (.ex (.look s ok z))
    | _ => none
  | .mapUpdate t m k x => cUpd P f t m k x
  | .insert t m k x => cUpd P f t m k x
  | .typeAssert x _ t ok => match P.underlying t with
    | some d => if notIface d then if ok then (zeroV P t).bind fun z => (locsOf f [x]).map (.ex (.tas t true z)) else (locsOf f [x]).map (.ex (.tas t false .und)) else none
    | none => none
  | .call { callee := .value (.func g), args, .. } => match args.toList with
    | [x, y] => if extF P g "internal/bytealg.IndexByteString" then (locsOf f [x, y]).map (.ex .idxb) else if extF P g "internal/bytealg.abigen_runtime_cmpstring" then (locsOf f [x, y]).map (.ex .cmps) else none
    | [x] => if extF P g "maps.clone" then (locsOf f [x]).map (.ex .cloneM) else if extF P g "internal/abi.NoEscape" then (locsOf f [x]).map (.ex .same) else none
    | _ => none
  | _ => none
/-- an operation that neither calls nor leaves -/
def cOX (P : Program) (f : Operand → Option Loc) (pos : String) : Op → Option OX
  | .move x | .assign x => one f true .mv x
  | .pick c a b => (f c).bind fun lc => (f a).bind fun la => (f b).map fun lb => .pick lc la lb
  | .alloc t => cAlloc P t
  | .box _ x => one f true .box x
  | .build t ps => cBuild P f t ps.toList
  | .buildSlice t n ps => cBuildS P f t n ps.toList
  | .load t x => if scal P t then one f true .load1 x else if aggr P t then match sz P t with
      | some n => one f true (.loadN n) x
      | none => none
    else none
  | .store t a x => match sz P t with
    | some n => if scal P t then two f (n == 1) .store1 a x else two f (aggr P t) (.storeN n) a x
    | none => none
  | .nilCheck x => one f true .nil x
  | .binOp o t x y _ => cBin P f o t x y
  | .unOp .neg _ x => one f true .neg x
  | .unOp .not _ x => one f true .not x
  | .unOp .xor _ x => one f true .com x
  | .convert s d x => match cConvM P f s d x with
    | some o => some o
    | none => cUp P f s d x
  | .makeInterface t x => match P.underlying t with
    | some (.interface _) | none => none
    | some _ => one f true (.mkif t) x
  | .makeFunc (.func g) first cap => if g < 32768 ∧ first.size < 65536 then (locsOf f (first.toList ++ cap.toList)).map (.mkfn (g + 65536 * first.size)) else none
  | .makeSlice t l c => cMake P f t l c
  | .slice t x lo hi mx => cSlice P f t x lo hi mx
  | .fieldAddr t x i => cFaddr P f t x i
  | .field t x i => cField P f t x i
  | .indexAddr t x i => cIaddr P f t x i
  | .index t x i => cIndex P f t x i
  | .extract x i => one f true (.extract i) x
  | .call { callee := .builtin b, args, argTypes } => cBuiltinP P f pos b args.toList argTypes
  | op => cEX P f op
end Go.Ev
