/- EVALUATOR, 16: how operations are prepared: where each operand lies, what the types say. -/
import Derived.Test.YtjppnjhchojldaaEvOps4
import Derived.Test.YtjppnjhchojldaaEvWp
namespace Go.Ev
variable {P : Program}

/- CONSTANTS -/
def toV1 : Value → Option V
  | .bool b => some (.bool b)
  | .int k n => some (.int k n)
  | .string s => some (.str s.data.toList.length (pack s.data.toList))
  | .pointer none => some .nilp
  | .slice none 0 0 => some .nils
  | .map none => some .nilm
  | .nilFunc => some .nilf
  | .nilIface => some .nili
  | _ => none
def toVs : List Value → Option (List V)
  | [] => some []
  | v :: l => match toV1 v, toVs l with
    | some u, some m => some (u :: m)
    | _, _ => none
def toV : Value → Option V
  | .agg cs => (toVs cs.toList).map (.agg cs.toList.length)
  | v => toV1 v
theorem toV1_ok {v : Value} {u : V} (h : toV1 v = some u) (ρ : Rho) : VR ρ u v ∧ v.oneCell' = true := by
  unfold toV1 at h
  split at h <;> cases h
  · exact ⟨.bool _, rfl⟩
  · exact ⟨.int _ _, rfl⟩
  · rename_i s
    exact ⟨.str (dig_pack s.data.toList).symm (pack_lt s.data.toList), rfl⟩
  · exact ⟨.nilp, rfl⟩
  · exact ⟨.nils, rfl⟩
  · exact ⟨.nilm, rfl⟩
  · exact ⟨.nilf, rfl⟩
  · exact ⟨.nili, rfl⟩
theorem toVs_ok {l : List Value} {m : List V} (h : toVs l = some m) (ρ : Rho) : VRs ρ m l ∧ ∀ y ∈ l, y.oneCell' = true := by
  induction l generalizing m with
  | nil => cases h; exact ⟨.nil, by simp⟩
  | cons v l ih =>
    simp only [toVs] at h
    split at h
    · rename_i u m' hu hm
      cases h
      obtain ⟨h1, h2⟩ := toV1_ok hu ρ
      obtain ⟨h3, h4⟩ := ih hm
      exact ⟨.cons h1 h3, by simpa using ⟨h2, h4⟩⟩
    · cases h
theorem toV_ok {v : Value} {u : V} (h : toV v = some u) (ρ : Rho) : VR ρ u v := by
  unfold toV at h
  split at h
  · rename_i cs
    obtain ⟨m, h1, rfl⟩ := Option.map_eq_some_iff.1 h
    obtain ⟨h2, h3⟩ := toVs_ok h1 ρ
    exact .agg h2 h3 h2.length
  · exact (toV1_ok h ρ).1

/- EQUAL VALUES OF A TEXT -/
def eqV : V → V → Bool
  | .bool a, .bool b => a == b
  | .int k n, .int k' n' => decide (k = k') && decide (n = n')
  | .str l n, .str l' n' => decide (l = l') && decide (n = n')
  | .nilp, .nilp | .nils, .nils | .nilm, .nilm | .nilf, .nilf | .nili, .nili => true
  | _, _ => false
theorem eqV_ok {a b : V} (h : eqV a b = true) : a = b := by
  unfold eqV at h
  split at h <;> simp_all
def eqVs : List V → List V → Bool
  | [], [] => true
  | a :: l, b :: m => eqV a b && eqVs l m
  | _, _ => false
theorem eqVs_ok : ∀ {l m : List V}, eqVs l m = true → l = m
  | [], [], _ => rfl
  | [], _ :: _, h => by cases h
  | _ :: _, [], h => by cases h
  | a :: l, b :: m, h => by
    simp only [eqVs, Bool.and_eq_true] at h
    rw [eqV_ok h.1, eqVs_ok h.2]

/-- a type's zero value, cell by cell -/
def zeroL (P : Program) (t : TypeId) : Option (List V) := ((P.info? t).bind (·.zero)).bind fun z => toVs z.cells.toList
theorem zeroL_ok {t : TypeId} {l : List V} (h : zeroL P t = some l) : ∃ z, (P.info? t).bind (·.zero) = some z ∧ (∀ ρ, VRs ρ l z.cells.toList) ∧ ∀ y ∈ z.cells.toList, y.oneCell' = true := by
  obtain ⟨z, h1, h2⟩ := Option.bind_eq_some_iff.1 h
  exact ⟨z, h1, fun ρ => (toVs_ok h2 ρ).1, (toVs_ok h2 (fun _ => none)).2⟩
/-- how the cells of a new variable are cut into chunks: cells a chunk, chunks -/
def grain (P : Program) (t : TypeId) (len : Nat) : Nat × Nat :=
  match P.underlying t with
  | some (.array n e) => match sz P e with
    | some s => if 0 < s ∧ n * s = len then (s, n) else (len, 1)
    | none => (len, 1)
  | _ => (len, 1)

/-- where an operand lies: on the stack of the region's own values, in the frame, in the text -/
inductive Loc where
  | s (i : Nat)
  | e (x : Slot)
  | k (v : V)
noncomputable def getk (x : Loc) (L : List V) (env : Env) (k : V → Res) : Res :=
  Loc.rec (motive := fun _ => List V → Env → (V → Res) → Res) (fun i L _ k => nthk L i k) (fun x _ env k => Slot.rec (motive := fun _ => Res) (fun a b => selR a env fun row => selV b row k) x) (fun v _ _ k => k v) x L env k

/-- a function's frame: which temporaries live in one region alone (bits of a number), how many there are -/
structure FI where
  (inl nt : Nat)
def slotOf (t : Nat) : Option Slot := if t < 256 then some ⟨D.ofNat (t / 16), D.ofNat (t % 16)⟩ else none
theorem D.val_ofNat {n : Nat} (h : n < 16) : (D.ofNat n).val = n := by
  rcases n with _ | _ | _ | _ | _ | _ | _ | _ | _ | _ | _ | _ | _ | _ | _ | _ | n <;> first | rfl | omega
theorem slotOf_inj {t t' : Nat} {x : Slot} (h : slotOf t = some x) (h' : slotOf t' = some x) : t = t' := by
  unfold slotOf at h h'
  split at h <;> rename_i h1
  · split at h' <;> rename_i h2
    · cases h
      simp only [Option.some.injEq, Slot.mk.injEq] at h'
      have e1 := congrArg D.val h'.1
      have e2 := congrArg D.val h'.2
      rw [D.val_ofNat (by omega), D.val_ofNat (by omega)] at e1
      rw [D.val_ofNat (by omega), D.val_ofNat (by omega)] at e2
      omega
    · cases h'
  · cases h
def Env.at (env : Env) (x : Slot) : V := (env.get x.a).get x.b
def Env.put (env : Env) (x : Slot) (v : V) : Env := N.set env x.a (N.set (N.get env x.a) x.b v)
theorem Env.at_put (env : Env) (x : Slot) (v : V) : (env.put x v).at x = v := by simp [Env.at, Env.put, N.get_set]
theorem Env.at_put_ne (env : Env) {x y : Slot} (h : y ≠ x) (v : V) : (env.put x v).at y = env.at y := by
  obtain ⟨a, b⟩ := x
  obtain ⟨a', b'⟩ := y
  simp only [Env.at, Env.put]
  by_cases h1 : a' = a
  · subst h1
    rw [N.get_set, N.get_set_ne]
    rintro rfl; exact h rfl
  · rw [N.get_set_ne _ h1]
noncomputable def envk (env : Env) (x : Slot) (v : V) (k : Env → Res) : Res := Slot.rec (motive := fun _ => Res) (fun a b => updR a (fun row k => updV b (fun _ k => k v) row k) env k) x
theorem envk_eq (env : Env) (x : Slot) (v : V) (k : Env → Res) : envk env x v k = k (env.put x v) := by cases x; simp only [envk, updR_eq, updV_eq, Env.put]

structure EnvR (ρ : Rho) (fi : FI) (env : Env) (tmps : Array Value) : Prop where
  size : tmps.size = fi.nt
  val : ∀ t x, slotOf t = some x → fi.inl.testBit t = false → VR ρ (env.at x) (tmps.getD t Go.undef)
theorem EnvR.mono {ρ ρ' : Rho} (h : ρ.le ρ') {fi : FI} {env : Env} {tmps : Array Value} (e : EnvR ρ fi env tmps) : EnvR ρ' fi env tmps := ⟨e.size, fun t x h1 h2 => (e.val t x h1 h2).mono h⟩
/-- the package-level variables' blocks -/
def gid (g : Nat) : Bid := ⟨0, .d0, D.ofNat (g / 256 % 16), D.ofNat (g / 16 % 16), D.ofNat (g % 16)⟩
/-- where the package-level variables of numbers below n lie -/
def GlobR (ρ : Rho) (n : Nat) : Prop := ∀ g, g < n → ∃ S, ρ (gid g) = some (g, 0, S)

/-- an operand's place -/
def locOf (T : Nat → Option Loc) (ng : Nat) : Operand → Option Loc
  | .tmp t => T t
  | .const v => (toV v).map .k
  | .global g => if g < ng then some (.k (.ptr (gid g) 0)) else none
  | .func f => if f < 65536 then some (.k (.func f [])) else none
/-- what lies at a place -/
def Loc.at (L : List V) (env : Env) : Loc → Option V
  | .s i => L[i]?
  | .e x => some (env.at x)
  | .k v => some v
theorem getk_ok {loc : Loc} {L : List V} {env : Env} {k : V → Res} {r : Res} (h : getk loc L env k = r) (hr : r ≠ .fail) : ∃ v, loc.at L env = some v ∧ k v = r := by
  cases loc with
  | s i =>
    obtain ⟨u, h4, h5⟩ := nthk_ok (show nthk L i k = r from h) hr
    exact ⟨u, h4, h5⟩
  | e x =>
    obtain ⟨p, q⟩ := x
    have h3 : selR p env (fun row => selV q row k) = r := h
    rw [selR_eq, selV_eq] at h3
    exact ⟨_, rfl, h3⟩
  | k v => exact ⟨v, rfl, h⟩
/-- the places hold what the temporaries hold -/
def TmpR (ρ : Rho) (T : Nat → Option Loc) (L : List V) (env : Env) (tmps : Array Value) : Prop :=
  ∀ t loc v, T t = some loc → loc.at L env = some v → VR ρ v (tmps.getD t Go.undef)

theorem locOf_at {ng : Nat} {T : Nat → Option Loc} {x : Operand} {loc : Loc} (hl : locOf T ng x = some loc) {L : List V} {env : Env} {v : V} (h1 : loc.at L env = some v)
    {ρ : Rho} {a : Act} (ht : TmpR ρ T L env a.tmps) (hg : GlobR ρ ng) : VR ρ v (a.eval x) := by
  cases x with
  | tmp t => exact ht t loc v hl h1
  | const c =>
    obtain ⟨u, h3, rfl⟩ := Option.map_eq_some_iff.1 hl
    cases h1
    exact toV_ok h3 ρ
  | global g =>
    simp only [locOf] at hl
    split at hl
    · rename_i hlt
      cases hl
      cases h1
      obtain ⟨S, h1⟩ := hg g hlt
      simpa [Act.eval] using VR.ptr (o := 0) h1
    · cases hl
  | func f =>
    simp only [locOf] at hl
    split at hl
    · rename_i hlt
      cases hl
      cases h1
      exact .func (first := #[]) (cs := #[]) hlt rfl (by simp) .nil
    · cases hl
theorem locOf_ok {ng : Nat} {T : Nat → Option Loc} {x : Operand} {loc : Loc} (hl : locOf T ng x = some loc) {L : List V} {env : Env} {k : V → Res} {r : Res} (h : getk loc L env k = r) (hr : r ≠ .fail)
    {ρ : Rho} {a : Act} (ht : TmpR ρ T L env a.tmps) (hg : GlobR ρ ng) : ∃ v, k v = r ∧ VR ρ v (a.eval x) := by
  obtain ⟨v, h1, h2⟩ := getk_ok h hr
  exact ⟨v, h2, locOf_at hl h1 ht hg⟩
end Go.Ev
