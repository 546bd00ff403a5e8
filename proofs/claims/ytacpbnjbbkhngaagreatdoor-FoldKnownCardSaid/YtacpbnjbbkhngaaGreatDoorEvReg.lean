/- EVALUATOR, 21: an operation of a region in its place: guards, calls, panics. -/
import Derived.Test.YtacpbnjbbkhngaaGreatDoorEvLight
import Derived.Test.YtacpbnjbbkhngaaGreatDoorEvRnd
namespace Go.Ev
variable {P : Program}

theorem GlobR.mono {ρ ρ' : Rho} (h : ρ.le ρ') {n : Nat} (g : GlobR ρ n) : GlobR ρ' n := fun i hi => let ⟨S, h1⟩ := g i hi; ⟨S, h _ _ h1⟩
/-- a function's number, by its digits -/
structure Fid where
  (a b c d : D)
def Fid.val (f : Fid) : Nat := ((f.a.val * 16 + f.b.val) * 16 + f.c.val) * 16 + f.d.val
def fidOf (n : Nat) : Fid := ⟨D.ofNat (n / 4096), D.ofNat (n / 256 % 16), D.ofNat (n / 16 % 16), D.ofNat (n % 16)⟩
theorem fidOf_val {n : Nat} (h : n < 65536) : (fidOf n).val = n := by
  simp only [Fid.val, fidOf]
  rw [D.val_ofNat (by omega), D.val_ofNat (by omega), D.val_ofNat (by omega), D.val_ofNat (by omega)]
  omega

/-- what a call of a function comes to -/
abbrev CF := Fid → List V → Heap → Res

/-- how a value is had -/
inductive VI where
  | op (x : OX)
  | call (f : Fid) (args : List Loc)
  | callv (f : Loc) (args : List Loc)
  | pan (x : Loc)
  | guard (c : Loc) (b : Bool) (i : VI)
  | cast (s : Sh) (i : VI)

noncomputable def backk (r : Res) (k kp : V → Heap → Res) : Res := Res.rec (motive := fun _ => Res) .fail (fun _ _ _ => .fail) k kp r
noncomputable def iffk (x : V) (k : Res) : Res :=
  V.rec (motive_1 := fun _ => Res → Res) (motive_2 := fun _ => PUnit) (fun _ => .fail) (fun _ => .fail) (fun _ _ => .fail) (fun _ _ _ => .fail) (fun _ _ _ => .fail) (fun _ => .fail) (fun _ _ _ => .fail)
    (fun _ => .fail) (fun _ _ _ _ _ _ => .fail) (fun _ => .fail) (fun _ => .fail) (fun _ _ => .fail) (fun _ => .fail) (fun _ _ _ _ => .fail) (fun _ => .fail) (fun _ _ _ k => k) (fun _ _ _ _ => .fail)
    (fun _ _ _ => .fail) PUnit.unit (fun _ _ _ _ => PUnit.unit) x k
theorem iffk_ok {x : V} {k r : Res} (h : iffk x k = r) (hr : r ≠ .fail) : (∃ t v, x = .iface t v) ∧ k = r := by
  cases x <;> first | exact absurd h.symm hr | exact ⟨⟨_, _, rfl⟩, h⟩
/-- a truth value, or none because the operation was passed over -/
noncomputable def grdk (x : V) (k : Bool → Res) (z : Res) : Res :=
  V.rec (motive_1 := fun _ => (Bool → Res) → Res → Res) (motive_2 := fun _ => PUnit) (fun _ _ => .fail) (fun _ z => z) (fun b k _ => k b) (fun _ _ _ _ => .fail) (fun _ _ _ _ => .fail) (fun _ _ => .fail)
    (fun _ _ _ _ => .fail) (fun _ _ => .fail) (fun _ _ _ _ _ _ _ => .fail) (fun _ _ => .fail) (fun _ _ => .fail) (fun _ _ _ => .fail) (fun _ _ => .fail) (fun _ _ _ _ _ => .fail) (fun _ _ => .fail)
    (fun _ _ _ _ _ => .fail) (fun _ _ _ _ _ => .fail) (fun _ _ _ _ => .fail) PUnit.unit (fun _ _ _ _ => PUnit.unit) x k z
theorem grdk_ok {x : V} {k : Bool → Res} {z r : Res} (h : grdk x k z = r) (hr : r ≠ .fail) : (∃ b, x = .bool b ∧ k b = r) ∨ (x = .skip ∧ z = r) := by
  cases x <;> first | exact absurd h.symm hr | exact .inl ⟨_, rfl, h⟩ | exact .inr ⟨rfl, h⟩

/-- a call of a function's value; 'z': it is a loop's yield -/
noncomputable def callf (cf : CF) (fv : V) (l : List V) (h : Heap) (z : List V → Res) : Res :=
  fnk fv fun n cap => ifk (Nat.blt n 65536) (appk l cap fun m => cf (fidOf n) m h) (ifk (Nat.blt n 4294967296)
    (takek (Nat.div n 65536) cap fun x y => appk l y fun m => appk x m fun m' => cf (fidOf (Nat.mod n 65536)) m' h) (z cap))
/-- the number of a loop over a function, as a function's -/
def rid (id : Nat) : Fid := fidOf (Nat.add 32768 id)
noncomputable def lpq (x : Oth) (k : Nat → Nat → List V → Nat → Nat → Res) : Res := Oth.rec (motive := fun _ => Res) (fun _ _ => .fail) (fun _ _ _ => .fail) k (fun _ _ _ _ => .fail) (fun _ _ _ => .fail) (fun _ _ _ => .fail) x
theorem lpq_ok {x : Oth} {k : Nat → Nat → List V → Nat → Nat → Res} {r : Res} (h : lpq x k = r) (hr : r ≠ .fail) : ∃ id mask vs st pd, x = .lp id mask vs st pd ∧ k id mask vs st pd = r := by
  cases x with
  | lp id mask vs st pd => exact ⟨id, mask, vs, st, pd, rfl, h⟩
  | _ => exact absurd h.symm hr
/-- a call of a loop's yield: a round -/
noncomputable def roundk (cf : CF) (l : List V) (h : Heap) (cap : List V) : Res :=
  unc cap fun p rest => nilk' rest (ptrk p fun b _ => h.getk b fun y => obk y fun y => lpq y fun id mask vs st _ => zk st (ifk (Nat.blt id 32768) (appk vs l fun m => cf (rid id) (.int .u64 (.ofNat mask) :: .ptr b 0 :: m) h) .fail) .fail)
noncomputable def callv (cf : CF) (fv : V) (l : List V) (h : Heap) : Res := callf cf fv l h (roundk cf l h)
/-- is it as it is wanted -/
noncomputable def wantb (b t : Bool) : Bool := Bool.rec (motive := fun _ => Bool) (not t) t b
noncomputable def runVIg (sem : OX → Do) (cf : CF) (i : VI) (L : List V) (env : Env) (h : Heap) (k kp : V → Heap → Res) : Res :=
  VI.rec (motive := fun _ => CF → List V → Env → Heap → (V → Heap → Res) → (V → Heap → Res) → Res)
    (fun x _ L env h k _ => sem x L env h k)
    (fun f args cf L env h k kp => getsk args L env fun l => backk (cf f l h) k kp)
    (fun f args cf L env h k kp => getk f L env fun fv => getsk args L env fun l => backk (callv cf fv l h) k kp)
    (fun x _ L env h _ kp => getk x L env fun v => iffk v (kp v h))
    (fun c b _ ih cf L env h k kp => getk c L env fun v => backk (grdk v (fun t => ifk (wantb b t) (ih cf L env h .ret .pan) (.ret .skip h)) (.ret .skip h)) k kp)
    (fun s _ ih cf L env h k kp => ih cf L env h (fun u h' => castk s u fun u => k u h') kp)
    i cf L env h k kp

noncomputable abbrev runVI := runVIg semOX
/-- a function that can be entered -/
def Enters (P : Program) (f : Nat) : Prop := ∃ fn c, P.funcs[f]? = some fn ∧ fn.body = some c ∧ (fn.name == "runtime.NumGoroutine") = false
/-- what a call comes to, by the answer for it -/
def Came (P : Program) (ρ : Rho) (h : Heap) (w : World) : Res → Ending → World → Prop
  | .ret v h', e, w' => ∃ ρ' y, e = .returned y ∧ VR ρ' v y ∧ RH P ρ' h' w' ∧ Ext ρ h w ρ' h' w'
  | .pan v h', e, w' => ∃ ρ' y, e = .panicked [{ v := y, recovered := false }] ∧ VR ρ' v y ∧ RH P ρ' h' w' ∧ Ext ρ h w ρ' h' w'
  | _, _, _ => False
/-- what 'F' answers for a function's calls is what they come to -/
def FnOk (P : Program) (ng n : Nat) (F : List V → Heap → Res) : Prop := ∀ l h r, F l h = r → r ≠ .fail → Enters P n ∧ ∀ ρ w args, VRs ρ l args → RH P ρ h w → GlobR ρ ng →
  Calls P n args.toArray w (Came P ρ h w r)
/-- what 'F' answers for a loop's rounds is what they come to: its arguments: the mask of what is kept, the loop's block, what is kept, what is yielded -/
def RnOk (P : Program) (ng id : Nat) (F : List V → Heap → Res) : Prop := ∀ l h r, F l h = r → r ≠ .fail → ∀ mask b vs us, l = .int .u64 (.ofNat mask) :: .ptr b 0 :: (vs ++ us) →
  ∀ ρ w lp S pd args, RH P ρ h w → GlobR ρ ng → ρ b = some (lp, 0, S) → h.t.get b = .ob (.lp id mask vs 0 pd) → VRs ρ us args → Rounds P lp args.toArray w (Came P ρ h w r)
def CallOk (P : Program) (ng n : Nat) (F : List V → Heap → Res) : Prop := (n < 32768 → FnOk P ng n F) ∧ (32768 ≤ n → RnOk P ng (n - 32768) F)
/-- what 'cf' answers is what the calls come to -/
def CFok (P : Program) (ng : Nat) (cf : CF) : Prop := ∀ fid, CallOk P ng fid.val (cf fid)

theorem backk_ok {x : Res} {k kp : V → Heap → Res} {r : Res} (h : backk x k kp = r) (hr : r ≠ .fail) : (∃ v h', x = .ret v h' ∧ k v h' = r) ∨ (∃ v h', x = .pan v h' ∧ kp v h' = r) := by
  cases x with
  | ret v h' => exact .inl ⟨v, h', rfl, h⟩
  | pan v h' => exact .inr ⟨v, h', rfl, h⟩
  | fail => exact absurd h.symm hr
  | done _ _ _ => exact absurd h.symm hr

/- HOW IT IS PREPARED -/
def cVI (P : Program) (f : Operand → Option Loc) (pos : String) (o : Op) : Option VI :=
  match cOX P f pos o with
  | some ox => some (.op ox)
  | none => match o with
    | .call { callee := .value (.func g), args, .. } => if g < 32768 then (locsOf f args.toList).map (.call (fidOf g)) else none
    | .call { callee := .value (.tmp t), args, .. } => (f (.tmp t)).bind fun l => (locsOf f args.toList).map (.callv l)
    | .panic x => (f x).map .pan
    | _ => none
/-- the shape of a type's values -/
def sh1Of (P : Program) (t : TypeId) : Sh1 :=
  match P.underlying t with
  | some .bool => .bool
  | some (.int k) => .int k
  | some .string => .str
  | _ => .any
def V.sh1 : V → Sh1
  | .bool _ => .bool
  | .int k _ => .int k
  | .str _ _ => .str
  | _ => .any
def shOf (P : Program) (t : TypeId) : Sh :=
  match P.underlying t with
  | some (.tuple ts) => .tup (ts.toList.map fun _ => .any)
  | _ => .one (sh1Of P t)
/-- an operation whose value is not seen from its text -/
def blindOp : Op → Bool
  | .load _ _ | .index _ _ _ | .pick _ _ _ | .extract _ _ | .field _ _ _ | .slice _ _ _ _ _ | .convert _ _ _ | .call { callee := .value _, .. } | .call { callee := .builtin .len, .. }
  | .call { callee := .builtin .copy, .. } | .call { callee := .builtin .min, .. } | .call { callee := .builtin .max, .. } => true
  | _ => false
def castO (P : Program) (o : Oper) (v : VI) : VI :=
  if blindOp o.op then match shOf P o.type with
    | .one .any => v
    | s => .cast s v
  else v
def cGuard (P : Program) (f : Operand → Option Loc) (ops : Array Oper) (o : Oper) : Option VI :=
  match o.guard with
  | none => (cVI P f o.pos o.op).map (castO P o)
  | some (j, b) => ((ops[j]?).bind (·.dst)).bind fun t => (f (.tmp t)).bind fun c => (cVI P f o.pos o.op).map fun v => .guard c b (castO P o v)

section ok
variable {ρ : Rho} {h : Heap} {w : World} {k kp : V → Heap → Res} {r : Res} {ng : Nat} {T : Nat → Option Loc} {L : List V} {env : Env} {a : Act} {b : Frame} {ops : Array Oper} {Q : Post}
  {cs : List Frame} {i : Nat} {rest : List Nat} {o : Oper} {cf : CF}

/-- what follows when a value has been had -/
def Goes (P : Program) (b : Frame) (ops : Array Oper) (rest : List Nat) (Q : Post) (a : Act) (cs : List Frame) (ρ : Rho) (h : Heap) (w : World) (dst : Option Tmp) (k : V → Heap → Res) (r : Res) : Prop :=
  ∀ u h' ρ' y w', k u h' = r → VR ρ' u y → RH P ρ' h' w' → Ext ρ h w ρ' h' w' → WO P b ops rest Q (a.put dst y) cs w'
def Leaps (P : Program) (Q : Post) (a : Act) (cs : List Frame) (ρ : Rho) (h : Heap) (w : World) (kp : V → Heap → Res) (r : Res) : Prop :=
  ∀ u h' ρ' y w', kp u h' = r → VR ρ' u y → RH P ρ' h' w' → Ext ρ h w ρ' h' w' → Q (.panic [{ v := y, recovered := false }]) a cs w'

theorem run_enter {f : FuncId} {args : Array Value} (he : Enters P f) : (callFunc f args).run P w = .ok (.enter f args) w := by
  obtain ⟨fn, c, h1, h2, h3⟩ := he
  have h3 : ¬fn.name = "runtime.NumGoroutine" := by simpa using h3
  simp [callFunc, h1, h2, h3]

theorem vi_came {f : FuncId} {args : Array Value} {q : Res} (hh : backk q k kp = r) (hr : r ≠ .fail) (hc : q ≠ .fail → Calls P f args w (Came P ρ h w q))
    (ho : ops[i]? = some o) (hw : Region.wanted o (yielded ops a.tmps) = true) (hd : b.roundOf = none ∨ ∀ c, o.op ≠ .defer c)
    (hx : (execOp a.eval o).run P w = .ok (.enter f args) w) (hk : Goes P b ops rest Q a cs ρ h w o.dst k r) (hp : Leaps P Q a cs ρ h w kp r) : WO P b ops (i :: rest) Q a cs w := by
  rcases backk_ok hh hr with ⟨v, h', rfl, h2⟩ | ⟨v, h', rfl, h2⟩
  · refine .call ho hw hd hx ((hc (by simp)).mono ?_)
    rintro e w' ⟨ρ', y, rfl, h5, h6, h7⟩
    exact hk v h' ρ' y w' h2 h5 h6 h7
  · refine .call ho hw hd hx ((hc (by simp)).mono ?_)
    rintro e w' ⟨ρ', y, rfl, h5, h6, h7⟩
    exact hp v h' ρ' y w' h2 h5 h6 h7
theorem vi_round {lp : Nat} {args : Array Value} {q : Res} (hh : backk q k kp = r) (hr : r ≠ .fail) (hc : q ≠ .fail → Rounds P lp args w (Came P ρ h w q))
    (ho : ops[i]? = some o) (hw : Region.wanted o (yielded ops a.tmps) = true) (hd : b.roundOf = none ∨ ∀ c, o.op ≠ .defer c)
    (hx : (execOp a.eval o).run P w = (Instr.yield lp args).run P w) (hk : Goes P b ops rest Q a cs ρ h w o.dst k r) (hp : Leaps P Q a cs ρ h w kp r) : WO P b ops (i :: rest) Q a cs w := by
  rcases backk_ok hh hr with ⟨v, h', rfl, h2⟩ | ⟨v, h', rfl, h2⟩
  · refine .round ho hw hd hx ((hc (by simp)).mono ?_)
    rintro e w' ⟨ρ', y, rfl, h5, h6, h7⟩
    exact hk v h' ρ' y w' h2 h5 h6 h7
  · refine .round ho hw hd hx ((hc (by simp)).mono ?_)
    rintro e w' ⟨ρ', y, rfl, h5, h6, h7⟩
    exact hp v h' ρ' y w' h2 h5 h6 h7
theorem vi_call (hcf : CFok P ng cf) (hg : GlobR ρ ng) (rh : RH P ρ h w) {fid : Fid} {l : List V} (hf : fid.val < 32768) (hh : backk (cf fid l h) k kp = r) (hr : r ≠ .fail) {args : List Value} (hv : VRs ρ l args)
    (ho : ops[i]? = some o) (hw : Region.wanted o (yielded ops a.tmps) = true) (hd : b.roundOf = none ∨ ∀ c, o.op ≠ .defer c)
    (hx : Enters P fid.val → (execOp a.eval o).run P w = .ok (.enter fid.val args.toArray) w) (hk : Goes P b ops rest Q a cs ρ h w o.dst k r) (hp : Leaps P Q a cs ρ h w kp r) : WO P b ops (i :: rest) Q a cs w := by
  have hq : cf fid l h ≠ .fail := fun e => by rw [e] at hh; exact hr hh.symm
  obtain ⟨h3, h4⟩ := (hcf fid).1 hf l h _ rfl hq
  exact vi_came hh hr (fun _ => h4 ρ w args hv rh hg) ho hw hd (hx h3) hk hp

/-- a function's value that is called -/
theorem callf_ok (hcf : CFok P ng cf) (hg : GlobR ρ ng) (rh : RH P ρ h w) {fv : V} {l : List V} {z : List V → Res} {q : Res} (hq : callf cf fv l h z = q) (hq' : q ≠ .fail) {xv : Value} {args : List Value}
    (hfv : VR ρ fv xv) (hl : VRs ρ l args) : (∃ F first ccs, xv = .func (.func F) first ccs ∧ Enters P F ∧ Calls P F (first.toList ++ (args ++ ccs.toList)).toArray w (Came P ρ h w q)) ∨
      ∃ b c S z0, xv = .func (.yield c) #[] #[] ∧ ρ b = some (c, z0, S) ∧ z [.ptr b 0] = q := by
  obtain ⟨n, cap, rfl, h7⟩ := fnk_ok hq hq'
  cases hfv with
  | yld hb => exact .inr ⟨_, _, _, _, rfl, hb, h7⟩
  | func hf hk hk2 hF hcap =>
    rename_i f k' first ccs
    left
    rcases ifk_ne h7 with ⟨h8, h9⟩ | ⟨h8, h9⟩
    · have hlt : n < 65536 := by simp [Nat.blt] at h8; omega
      have hk0 : k' = 0 := by omega
      subst hk0
      have : first = #[] := Array.size_eq_zero_iff.1 hk
      subst this
      have : n = f := by omega
      subst this
      rw [appk_eq] at h9
      have e0 : (fidOf n).val = n := fidOf_val hlt
      obtain ⟨h3, h4⟩ := (hcf (fidOf n)).1 (by rw [e0]; exact hf) _ _ _ h9 hq'
      rw [e0] at h3 h4
      exact ⟨n, #[], ccs, rfl, h3, by simpa using h4 ρ w _ (hl.append hcap) rh hg⟩
    · rw [show Nat.blt n 4294967296 = true by simp [Nat.blt]; omega] at h9
      have h9 : takek (Nat.div n 65536) cap (fun x y => appk l y fun m => appk x m fun m' => cf (fidOf (Nat.mod n 65536)) m' h) = q := h9
      obtain ⟨h10, h11⟩ := takek_ok h9 hq'
      rw [appk_eq, appk_eq] at h11
      have e1 : Nat.div n 65536 = k' := by show n / 65536 = k'; omega
      have e2 : Nat.mod n 65536 = f := by show n % 65536 = f; omega
      rw [e1, e2] at h11
      have v1 : VRs ρ (cap.take k') first.toList := by
        have := hcap.take k'
        rwa [List.take_left' (by simpa using hk)] at this
      have v2 : VRs ρ (cap.drop k') ccs.toList := by
        have := hcap.drop k'
        rwa [List.drop_left' (by simpa using hk)] at this
      have e0 : (fidOf f).val = f := fidOf_val (by omega)
      obtain ⟨h3, h4⟩ := (hcf (fidOf f)).1 (by rw [e0]; exact hf) _ _ _ h11 hq'
      rw [e0] at h3 h4
      exact ⟨f, first, ccs, rfl, h3, h4 ρ w _ (v1.append (hl.append v2)) rh hg⟩
theorem roundk_ok (hcf : CFok P ng cf) (hg : GlobR ρ ng) (rh : RH P ρ h w) {l : List V} {q : Res} {bb : Bid} {c S z0 : Nat} (hq : roundk cf l h [.ptr bb 0] = q) (hq' : q ≠ .fail) (hb : ρ bb = some (c, z0, S))
    {args : List Value} (hl : VRs ρ l args) : Rounds P c args.toArray w (Came P ρ h w q) := by
  have hq : (h.getk bb fun y => obk y fun y => lpq y fun id mask vs st _ => zk st (ifk (Nat.blt id 32768) (appk vs l fun m => cf (rid id) (.int .u64 (.ofNat mask) :: .ptr bb 0 :: m) h) .fail) .fail) = q := hq
  rw [Heap.getk_eq] at hq
  obtain ⟨x, hx, h1⟩ := obk_ok hq hq'
  obtain ⟨id, mask, vs, st, pd, rfl, h2⟩ := lpq_ok h1 hq'
  obtain ⟨rfl, h3⟩ := zk_fail h2 hq'
  obtain ⟨h4, h5⟩ := ifk_fail h3 hq'
  have hid : id < 32768 := by simpa [Nat.blt_eq] using h4
  rw [appk_eq] at h5
  obtain ⟨ob, _, _, rfl, _⟩ := rh.ob bb c z0 S _ hb hx
  have e0 : (rid id).val = 32768 + id := fidOf_val (by show 32768 + id < 65536; omega)
  have h6 := (hcf (rid id)).2 (by rw [e0]; omega)
  rw [e0, Nat.add_sub_cancel_left] at h6
  exact h6 _ h q h5 hq' mask bb vs l rfl ρ w c S pd args rh hg hb hx hl

theorem cOX_defer (f : Operand → Option Loc) (pos : String) (c : Call) : cOX P f pos (.defer c) = none := by simp [cOX, cEX]
theorem cVI_ok (hcf : CFok P ng cf) (c : Cx P ρ ng T L env h w a) {vi : VI} (hc : cVI P (locOf T ng) o.pos o.op = some vi) (hh : runVI cf vi L env h k kp = r) (hr : r ≠ .fail)
    (ho : ops[i]? = some o) (hw : Region.wanted o (yielded ops a.tmps) = true) (hgo : Goes P b ops rest Q a cs ρ h w o.dst k r) (hp : Leaps P Q a cs ρ h w kp r) :
    WO P b ops (i :: rest) Q a cs w := by
  have hk := hgo
  unfold cVI at hc
  split at hc
  · rename_i ox hox
    cases hc
    obtain ⟨_, u, h', ρ', y, w', h1, h2, h3, h4, h5⟩ := cOX_ok c hox (show semOX ox L env h k = r from hh) hr
    have nd : ∀ c, o.op ≠ .defer c := fun c e => by rw [e, cOX_defer] at hox; cases hox
    rcases h2 with h2 | ⟨h2, rfl⟩
    · exact .value ho hw (.inr nd) h2 (hk u h' ρ' y w' h1 h3 h4 h5)
    · exact .unit ho hw (.inr nd) h2 (hk u h' ρ' _ w' h1 h3 h4 h5)
  · split at hc
    · rename_i g args types hop
      split at hc
      · rename_i hlt
        obtain ⟨ls, h1, rfl⟩ := Option.map_eq_some_iff.1 hc
        obtain ⟨l, h2, h3⟩ := c.locs h1 (k := fun l => backk (cf (fidOf g) l h) k kp) hh hr
        refine vi_call hcf c.glob c.rh (by rw [fidOf_val (Nat.lt_trans hlt (by decide))]; exact hlt) h2 hr h3 ho hw (.inr fun c e => by rw [hop] at e; cases e) (fun he => ?_) hk hp
        rw [fidOf_val (Nat.lt_trans hlt (by decide))] at he ⊢
        simp only [execOp, hop, resolve, Act.eval, Deferred.ofValue, Sem.run_bind, Sem.run_pure, Result.andThen_ok, invoke]
        rw [run_enter he, ← Array.toList_map, Array.toArray_toList]
        simp only [Array.empty_append, Array.append_empty]
      · cases hc
    · rename_i t args types hop
      obtain ⟨lf, h1, hc⟩ := Option.bind_eq_some_iff.1 hc
      obtain ⟨ls, h2, rfl⟩ := Option.map_eq_some_iff.1 hc
      obtain ⟨fv, h3, h4⟩ := c.loc h1 (k := fun fv => getsk ls L env fun l => backk (callv cf fv l h) k kp) hh hr
      obtain ⟨l, h5, h6⟩ := c.locs h2 (k := fun l => backk (callv cf fv l h) k kp) h3 hr
      obtain ⟨q, hq, h5⟩ : ∃ q, callv cf fv l h = q ∧ backk q k kp = r := ⟨_, rfl, h5⟩
      have hq' : q ≠ .fail := fun e => by subst e; exact hr h5.symm
      generalize hx : a.eval (.tmp t) = xv at h4
      rcases callf_ok hcf c.glob c.rh hq hq' h4 h6 with ⟨F, first, ccs, rfl, he, hc⟩ | ⟨bb, cc, S, z0, rfl, hbb, hz⟩
      · refine vi_came h5 hr (fun _ => hc) ho hw (.inr fun c e => by rw [hop] at e; cases e) ?_ hgo hp
        simp only [execOp, hop, resolve, hx, Deferred.ofValue, Sem.run_bind, Sem.run_pure, Result.andThen_ok, invoke]
        rw [run_enter he, ← Array.toList_map]
        simp
      · refine vi_round h5 hr (fun _ => roundk_ok hcf c.glob c.rh hz hq' hbb h6) ho hw (.inr fun c e => by rw [hop] at e; cases e) ?_ hgo hp
        simp only [execOp, hop, resolve, hx, Deferred.ofValue, Sem.run_bind, Sem.run_pure, Result.andThen_ok, invoke]
        rw [← Array.toList_map, Array.toArray_toList, Array.empty_append]
    · rename_i x hop
      obtain ⟨l, h1, rfl⟩ := Option.map_eq_some_iff.1 hc
      obtain ⟨v, h2, h3⟩ := c.loc h1 (k := fun v => iffk v (kp v h)) hh hr
      obtain ⟨⟨t, v', rfl⟩, h4⟩ := iffk_ok h2 hr
      generalize hx : a.eval x = xv at h3
      cases h3
      rename_i y h5
      refine .panic ho hw (.inr fun c e => by rw [hop] at e; cases e) (v := .iface t y) ?_ (hp _ h ρ _ w h4 (.iface h5) c.rh (.refl _ _ _))
      simp [execOp, hop, hx, Instr.panic, goPanic]
    · cases hc

theorem yielded_eq {j t : Nat} (h : ((ops[j]?).bind (·.dst)) = some t) : yielded ops a.tmps j = match a.eval (.tmp t) with | .bool b => some b | _ => none := by
  simp only [yielded, h, Option.bind_some, Act.eval]
  rw [Array.getD_eq_getD_getElem?]
  cases hx : a.tmps[t]? with
  | none => rfl
  | some x => cases x <;> rfl

theorem castO_ok (hcf : CFok P ng cf) (c : Cx P ρ ng T L env h w a) {vi : VI} (hc : cVI P (locOf T ng) o.pos o.op = some vi) (hh : runVI cf (castO P o vi) L env h k kp = r) (hr : r ≠ .fail)
    (ho : ops[i]? = some o) (hw : Region.wanted o (yielded ops a.tmps) = true) (hk : Goes P b ops rest Q a cs ρ h w o.dst k r) (hp : Leaps P Q a cs ρ h w kp r) :
    WO P b ops (i :: rest) Q a cs w := by
  have cast : ∀ s, runVI cf (.cast s vi) L env h k kp = r → WO P b ops (i :: rest) Q a cs w := fun s hh =>
    cVI_ok (k := fun u h' => castk s u fun u => k u h') hcf c hc hh hr ho hw (fun u h' ρ' y w' h1 => hk u h' ρ' y w' (castk_ok (k := fun u => k u h') h1 hr)) hp
  unfold castO at hh
  split at hh
  · split at hh
    · exact cVI_ok hcf c hc hh hr ho hw hk hp
    · exact cast _ hh
  · exact cVI_ok hcf c hc hh hr ho hw hk hp

theorem cGuard_ok (hcf : CFok P ng cf) (c : Cx P ρ ng T L env h w a) {vi : VI} (hc : cGuard P (locOf T ng) ops o = some vi) (hh : runVI cf vi L env h k kp = r) (hr : r ≠ .fail)
    (ho : ops[i]? = some o) (hk : Goes P b ops rest Q a cs ρ h w o.dst k r) (hp : Leaps P Q a cs ρ h w kp r) :
    WO P b ops (i :: rest) Q a cs w := by
  unfold cGuard at hc
  split at hc
  · rename_i hg
    obtain ⟨v, h1, rfl⟩ := Option.map_eq_some_iff.1 hc
    exact castO_ok hcf c h1 hh hr ho (by simp [Region.wanted, hg]) hk hp
  · rename_i j want hg
    obtain ⟨t, h1, hc⟩ := Option.bind_eq_some_iff.1 hc
    obtain ⟨lc, h2, hc⟩ := Option.bind_eq_some_iff.1 hc
    obtain ⟨v, h3, rfl⟩ := Option.map_eq_some_iff.1 hc
    obtain ⟨u, h4, h5⟩ := c.loc h2 (k := fun x => backk (grdk x (fun t => ifk (wantb want t)
      (runVI cf (castO P o v) L env h .ret .pan) (.ret .skip h)) (.ret .skip h)) k kp) hh hr
    have hy := yielded_eq (a := a) h1
    have skip : Region.wanted o (yielded ops a.tmps) = false → k .skip h = r → WO P b ops (i :: rest) Q a cs w := fun h6 h7 => .skip ho h6 (hk _ h ρ _ w h7 .skip c.rh (.refl _ _ _))
    -- what the guarded operation comes to by itself
    obtain ⟨q, h6, hq⟩ : ∃ q, grdk u (fun t => ifk (wantb want t)
        (runVI cf (castO P o v) L env h .ret .pan) (.ret .skip h)) (.ret .skip h) = q ∧ backk q k kp = r := ⟨_, rfl, h4⟩
    have hq' : q ≠ .fail := fun e => by subst e; exact hr hq.symm
    have fin : (Res.ret .skip h) = q → k .skip h = r := fun e => by subst e; exact hq
    rcases grdk_ok h6 hq' with ⟨x, rfl, h6⟩ | ⟨rfl, h6⟩
    · generalize a.eval (.tmp t) = xv at h5 hy
      cases h5
      rcases ifk_ne h6 with ⟨h7, h8⟩ | ⟨h7, h8⟩
      · refine castO_ok (k := .ret) (kp := .pan) hcf c h3 h8 hq' ho ?_ ?_ ?_
        · simp only [Region.wanted, hg, hy]
          cases x <;> cases want <;> simp_all [wantb]
        · intro u h' ρ' y w' e1 e2 e3 e4
          exact hk u h' ρ' y w' (by subst e1; exact hq) e2 e3 e4
        · intro u h' ρ' y w' e1 e2 e3 e4
          exact hp u h' ρ' y w' (by subst e1; exact hq) e2 e3 e4
      · refine skip ?_ (fin h8)
        simp only [Region.wanted, hg, hy]
        cases x <;> cases want <;> simp_all [wantb]
    · generalize a.eval (.tmp t) = xv at h5 hy
      cases h5
      refine skip ?_ (fin h6)
      simp only [Region.wanted, hg, hy]
      rfl
end ok
end Go.Ev
