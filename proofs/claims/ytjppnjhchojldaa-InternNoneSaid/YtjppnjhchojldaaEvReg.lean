/- EVALUATOR, 21: an operation of a region in its place: guards, calls, panics. -/
import Derived.Test.YtjppnjhchojldaaEvLight3
namespace Go.Ev
variable {P : Program}

theorem GlobR.mono {ρ ρ' : Rho} (h : ρ.le ρ') {n : Nat} (g : GlobR ρ n) : GlobR ρ' n := fun i hi => let ⟨S, h1⟩ := g i hi; ⟨S, h _ _ h1⟩
/-- a function's number, by its digits -/
structure Fid where
  (a b c d : D)
def Fid.val (f : Fid) : Nat := ((f.a.val * 16 + f.b.val) * 16 + f.c.val) * 16 + f.d.val
def fidOf (n : Nat) : Fid := ⟨D.ofNat (n / 4096), D.ofNat (n / 256 % 16), D.ofNat (n / 16 % 16), D.ofNat (n % 16)⟩
theorem fidOf_val {n : Nat} (h : n < 65536) : (fidOf n).val = n := by
  simp only [Fid.val, fidOf]
  rw [D.val_ofNat (by omega), D.val_ofNat (by omega), D.val_ofNat (by omega), D.val_ofNat (by omega)]
  omega

/-- what a call of a function comes to -/
abbrev CF := Fid → List V → Heap → Res

/-- how a value is had -/
inductive VI where
  | op (x : OX)
  | call (f : Fid) (args : List Loc)
  | callv (f : Loc) (args : List Loc)
  | pan (x : Loc)
  | guard (c : Loc) (b : Bool) (i : VI)
  | cast (s : Sh) (i : VI)

noncomputable def backk (r : Res) (k kp : V → Heap → Res) : Res := Res.rec (motive := fun _ => Res) .fail (fun _ _ _ => .fail) k kp r
noncomputable def iffk (x : V) (k : Res) : Res :=
  V.rec (motive_1 := fun _ => Res → Res) (motive_2 := fun _ => PUnit) (fun _ => .fail) (fun _ => .fail) (fun _ _ => .fail) (fun _ _ _ => .fail) (fun _ _ _ => .fail) (fun _ => .fail) (fun _ _ _ => .fail)
    (fun _ => .fail) (fun _ _ _ _ _ _ => .fail) (fun _ => .fail) (fun _ => .fail) (fun _ _ => .fail) (fun _ => .fail) (fun _ _ _ _ => .fail) (fun _ => .fail) (fun _ _ _ k => k) (fun _ _ _ _ => .fail)
    (fun _ _ _ => .fail) PUnit.unit (fun _ _ _ _ => PUnit.unit) x k
theorem iffk_ok {x : V} {k r : Res} (h : iffk x k = r) (hr : r ≠ .fail) : (∃ t v, x = .iface t v) ∧ k = r := by
  cases x <;> first | exact absurd h.symm hr | exact ⟨⟨_, _, rfl⟩, h⟩
/-- a truth value, or none because the operation was passed over -/
noncomputable def grdk (x : V) (k : Bool → Res) (z : Res) : Res :=
  V.rec (motive_1 := fun _ => (Bool → Res) → Res → Res) (motive_2 := fun _ => PUnit) (fun _ _ => .fail) (fun _ z => z) (fun b k _ => k b) (fun _ _ _ _ => .fail) (fun _ _ _ _ => .fail) (fun _ _ => .fail)
    (fun _ _ _ _ => .fail) (fun _ _ => .fail) (fun _ _ _ _ _ _ _ => .fail) (fun _ _ => .fail) (fun _ _ => .fail) (fun _ _ _ => .fail) (fun _ _ => .fail) (fun _ _ _ _ _ => .fail) (fun _ _ => .fail)
    (fun _ _ _ _ _ => .fail) (fun _ _ _ _ _ => .fail) (fun _ _ _ _ => .fail) PUnit.unit (fun _ _ _ _ => PUnit.unit) x k z
theorem grdk_ok {x : V} {k : Bool → Res} {z r : Res} (h : grdk x k z = r) (hr : r ≠ .fail) : (∃ b, x = .bool b ∧ k b = r) ∨ (x = .skip ∧ z = r) := by
  cases x <;> first | exact absurd h.symm hr | exact .inl ⟨_, rfl, h⟩ | exact .inr ⟨rfl, h⟩

/-- a call of a function's value -/
noncomputable def callv (cf : CF) (fv : V) (l : List V) (h : Heap) : Res :=
  fnk fv fun n cap => ifk (Nat.blt n 65536) (appk l cap fun m => cf (fidOf n) m h) (takek (Nat.div n 65536) cap fun x y => appk l y fun m => appk x m fun m' => cf (fidOf (Nat.mod n 65536)) m' h)
/-- is it as it is wanted -/
noncomputable def wantb (b t : Bool) : Bool := Bool.rec (motive := fun _ => Bool) (not t) t b
noncomputable def runVIg (sem : OX → Do) (cf : CF) (i : VI) (L : List V) (env : Env) (h : Heap) (k kp : V → Heap → Res) : Res :=
  VI.rec (motive := fun _ => CF → List V → Env → Heap → (V → Heap → Res) → (V → Heap → Res) → Res)
    (fun x _ L env h k _ => sem x L env h k)
    (fun f args cf L env h k kp => getsk args L env fun l => backk (cf f l h) k kp)
    (fun f args cf L env h k kp => getk f L env fun fv => getsk args L env fun l => backk (callv cf fv l h) k kp)
    (fun x _ L env h _ kp => getk x L env fun v => iffk v (kp v h))
    (fun c b _ ih cf L env h k kp => getk c L env fun v => backk (grdk v (fun t => ifk (wantb b t) (ih cf L env h .ret .pan) (.ret .skip h)) (.ret .skip h)) k kp)
    (fun s _ ih cf L env h k kp => ih cf L env h (fun u h' => castk s u fun u => k u h') kp)
    i cf L env h k kp

noncomputable abbrev runVI := runVIg semOX
/-- a function that can be entered -/
def Enters (P : Program) (f : Nat) : Prop := ∃ fn c, P.funcs[f]? = some fn ∧ fn.body = some c ∧ (fn.name == "runtime.NumGoroutine") = false
/-- what a call comes to, by the answer for it -/
def Came (ρ : Rho) (h : Heap) (w : World) : Res → Ending → World → Prop
  | .ret v h', e, w' => ∃ ρ' y, e = .returned y ∧ VR ρ' v y ∧ RH ρ' h' w' ∧ Ext ρ h w ρ' h' w'
  | .pan v h', e, w' => ∃ ρ' y, e = .panicked [{ v := y, recovered := false }] ∧ VR ρ' v y ∧ RH ρ' h' w' ∧ Ext ρ h w ρ' h' w'
  | _, _, _ => False
/-- what 'F' answers for a function's calls is what they come to -/
def FnOk (P : Program) (ng n : Nat) (F : List V → Heap → Res) : Prop := ∀ l h r, F l h = r → r ≠ .fail → Enters P n ∧ ∀ ρ w args, VRs ρ l args → RH ρ h w → GlobR ρ ng →
  Calls P n args.toArray w (Came ρ h w r)
/-- what 'cf' answers is what the calls come to -/
def CFok (P : Program) (ng : Nat) (cf : CF) : Prop := ∀ fid, FnOk P ng fid.val (cf fid)

theorem backk_ok {x : Res} {k kp : V → Heap → Res} {r : Res} (h : backk x k kp = r) (hr : r ≠ .fail) : (∃ v h', x = .ret v h' ∧ k v h' = r) ∨ (∃ v h', x = .pan v h' ∧ kp v h' = r) := by
  cases x with
  | ret v h' => exact .inl ⟨v, h', rfl, h⟩
  | pan v h' => exact .inr ⟨v, h', rfl, h⟩
  | fail => exact absurd h.symm hr
  | done _ _ _ => exact absurd h.symm hr

/- HOW IT IS PREPARED -/
def cVI (P : Program) (f : Operand → Option Loc) (o : Op) : Option VI :=
  match cOX P f o with
  | some ox => some (.op ox)
  | none => match o with
    | .call { callee := .value (.func g), args, .. } => if g < 65536 then (locsOf f args.toList).map (.call (fidOf g)) else none
    | .call { callee := .value (.tmp t), args, .. } => (f (.tmp t)).bind fun l => (locsOf f args.toList).map (.callv l)
    | .panic x => (f x).map .pan
    | _ => none
/-- the shape of a type's values -/
def sh1Of (P : Program) (t : TypeId) : Sh1 :=
  match P.underlying t with
  | some .bool => .bool
  | some (.int k) => .int k
  | some .string => .str
  | _ => .any
def V.sh1 : V → Sh1
  | .bool _ => .bool
  | .int k _ => .int k
  | .str _ _ => .str
  | _ => .any
def shOf (P : Program) (t : TypeId) : Sh :=
  match P.underlying t with
  | some (.tuple ts) => .tup (ts.toList.map fun _ => .any)
  | _ => .one (sh1Of P t)
/-- an operation whose value is not seen from its text -/
def blindOp : Op → Bool
  | .load _ _ | .index _ _ _ | .pick _ _ _ | .extract _ _ | .field _ _ _ | .slice _ _ _ _ _ | .convert _ _ _ | .call { callee := .value _, .. } | .call { callee := .builtin .len, .. }
  | .call { callee := .builtin .copy, .. } | .call { callee := .builtin .min, .. } | .call { callee := .builtin .max, .. } => true
  | _ => false
def castO (P : Program) (o : Oper) (v : VI) : VI :=
  if blindOp o.op then match shOf P o.type with
    | .one .any => v
    | s => .cast s v
  else v
def cGuard (P : Program) (f : Operand → Option Loc) (ops : Array Oper) (o : Oper) : Option VI :=
  match o.guard with
  | none => (cVI P f o.op).map (castO P o)
  | some (j, b) => ((ops[j]?).bind (·.dst)).bind fun t => (f (.tmp t)).bind fun c => (cVI P f o.op).map fun v => .guard c b (castO P o v)

section ok
variable {ρ : Rho} {h : Heap} {w : World} {k kp : V → Heap → Res} {r : Res} {ng : Nat} {T : Nat → Option Loc} {L : List V} {env : Env} {a : Act} {b : Frame} {ops : Array Oper} {Q : Post}
  {cs : List Frame} {i : Nat} {rest : List Nat} {o : Oper} {cf : CF}

/-- what follows when a value has been had -/
def Goes (P : Program) (b : Frame) (ops : Array Oper) (rest : List Nat) (Q : Post) (a : Act) (cs : List Frame) (ρ : Rho) (h : Heap) (w : World) (dst : Option Tmp) (k : V → Heap → Res) (r : Res) : Prop :=
  ∀ u h' ρ' y w', k u h' = r → VR ρ' u y → RH ρ' h' w' → Ext ρ h w ρ' h' w' → WO P b ops rest Q (a.put dst y) cs w'
def Leaps (Q : Post) (a : Act) (cs : List Frame) (ρ : Rho) (h : Heap) (w : World) (kp : V → Heap → Res) (r : Res) : Prop :=
  ∀ u h' ρ' y w', kp u h' = r → VR ρ' u y → RH ρ' h' w' → Ext ρ h w ρ' h' w' → Q (.panic [{ v := y, recovered := false }]) a cs w'

theorem run_enter {f : FuncId} {args : Array Value} (he : Enters P f) : (callFunc f args).run P w = .ok (.enter f args) w := by
  obtain ⟨fn, c, h1, h2, h3⟩ := he
  have h3 : ¬fn.name = "runtime.NumGoroutine" := by simpa using h3
  simp [callFunc, h1, h2, h3]

theorem vi_call (hcf : CFok P ng cf) (hg : GlobR ρ ng) (rh : RH ρ h w) {fid : Fid} {l : List V} (hh : backk (cf fid l h) k kp = r) (hr : r ≠ .fail) {args : List Value} (hv : VRs ρ l args)
    (ho : ops[i]? = some o) (hw : Region.wanted o (yielded ops a.tmps) = true) (hd : b.roundOf = none ∨ ∀ c, o.op ≠ .defer c)
    (hx : Enters P fid.val → (execOp a.eval o).run P w = .ok (.enter fid.val args.toArray) w) (hk : Goes P b ops rest Q a cs ρ h w o.dst k r) (hp : Leaps Q a cs ρ h w kp r) : WO P b ops (i :: rest) Q a cs w := by
  rcases backk_ok hh hr with ⟨v, h', h1, h2⟩ | ⟨v, h', h1, h2⟩
  · obtain ⟨h3, h4⟩ := hcf fid l h _ h1 (by simp)
    refine .call ho hw hd (hx h3) ((h4 ρ w args hv rh hg).mono ?_)
    rintro e w' ⟨ρ', y, rfl, h5, h6, h7⟩
    exact hk v h' ρ' y w' h2 h5 h6 h7
  · obtain ⟨h3, h4⟩ := hcf fid l h _ h1 (by simp)
    refine .call ho hw hd (hx h3) ((h4 ρ w args hv rh hg).mono ?_)
    rintro e w' ⟨ρ', y, rfl, h5, h6, h7⟩
    exact hp v h' ρ' y w' h2 h5 h6 h7

theorem cVI_ok (hcf : CFok P ng cf) (c : Cx ρ ng T L env h w a) {vi : VI} (hc : cVI P (locOf T ng) o.op = some vi) (hh : runVI cf vi L env h k kp = r) (hr : r ≠ .fail)
    (ho : ops[i]? = some o) (hw : Region.wanted o (yielded ops a.tmps) = true) (hb : b.roundOf = none) (hgo : Goes P b ops rest Q a cs ρ h w o.dst k r) (hp : Leaps Q a cs ρ h w kp r) :
    WO P b ops (i :: rest) Q a cs w := by
  have hk := hgo
  unfold cVI at hc
  split at hc
  · rename_i ox hox
    cases hc
    obtain ⟨_, u, h', ρ', y, w', h1, h2, h3, h4, h5⟩ := cOX_ok c hox (show semOX ox L env h k = r from hh) hr
    rcases h2 with h2 | ⟨h2, rfl⟩
    · exact .value ho hw (.inl hb) h2 (hk u h' ρ' y w' h1 h3 h4 h5)
    · exact .unit ho hw (.inl hb) h2 (hk u h' ρ' _ w' h1 h3 h4 h5)
  · split at hc
    · rename_i g args types hop
      split at hc
      · rename_i hlt
        obtain ⟨ls, h1, rfl⟩ := Option.map_eq_some_iff.1 hc
        obtain ⟨l, h2, h3⟩ := c.locs h1 (k := fun l => backk (cf (fidOf g) l h) k kp) hh hr
        refine vi_call hcf c.glob c.rh h2 hr h3 ho hw (.inl hb) (fun he => ?_) hk hp
        rw [fidOf_val hlt] at he ⊢
        simp only [execOp, hop, resolve, Act.eval, Deferred.ofValue, Sem.run_bind, Sem.run_pure, Result.andThen_ok, invoke]
        rw [run_enter he, ← Array.toList_map, Array.toArray_toList]
        simp only [Array.empty_append, Array.append_empty]
      · cases hc
    · rename_i t args types hop
      obtain ⟨lf, h1, hc⟩ := Option.bind_eq_some_iff.1 hc
      obtain ⟨ls, h2, rfl⟩ := Option.map_eq_some_iff.1 hc
      obtain ⟨fv, h3, h4⟩ := c.loc h1 (k := fun fv => getsk ls L env fun l => backk (callv cf fv l h) k kp) hh hr
      obtain ⟨l, h5, h6⟩ := c.locs h2 (k := fun l => backk (callv cf fv l h) k kp) h3 hr
      obtain ⟨q, hq, h5⟩ : ∃ q, callv cf fv l h = q ∧ backk q k kp = r := ⟨_, rfl, h5⟩
      have hq' : q ≠ .fail := fun e => by subst e; exact hr h5.symm
      obtain ⟨n, cap, rfl, h7⟩ := fnk_ok hq hq'
      generalize hx : a.eval (.tmp t) = xv at h4
      cases h4
      rename_i f k' first ccs hf hk hF hcap
      rcases ifk_ne h7 with ⟨h8, h9⟩ | ⟨h8, h9⟩
      · have hlt : n < 65536 := by simp [Nat.blt] at h8; omega
        have hk0 : k' = 0 := by omega
        subst hk0
        have : first = #[] := Array.size_eq_zero_iff.1 hk
        subst this
        have : n = f := by omega
        subst this
        rw [appk_eq] at h9
        subst h9
        refine vi_call hcf c.glob c.rh h5 hr (h6.append hcap) ho hw (.inl hb) (fun he => ?_) hgo hp
        rw [fidOf_val hlt] at he ⊢
        simp only [execOp, hop, resolve, hx, Deferred.ofValue, Sem.run_bind, Sem.run_pure, Result.andThen_ok, invoke]
        rw [run_enter he, ← Array.toList_map]
        simp
      · obtain ⟨h10, h11⟩ := takek_ok h9 hq'
        rw [appk_eq, appk_eq] at h11
        have e1 : Nat.div n 65536 = k' := by show n / 65536 = k'; omega
        have e2 : Nat.mod n 65536 = f := by show n % 65536 = f; omega
        rw [e1, e2] at h11
        subst h11
        have v1 : VRs ρ (cap.take k') first.toList := by
          have := hcap.take k'
          rwa [List.take_left' (by simpa using hk)] at this
        have v2 : VRs ρ (cap.drop k') ccs.toList := by
          have := hcap.drop k'
          rwa [List.drop_left' (by simpa using hk)] at this
        refine vi_call hcf c.glob c.rh h5 hr (v1.append (h6.append v2)) ho hw (.inl hb) (fun he => ?_) hgo hp
        rw [fidOf_val hf] at he ⊢
        simp only [execOp, hop, resolve, hx, Deferred.ofValue, Sem.run_bind, Sem.run_pure, Result.andThen_ok, invoke]
        rw [run_enter he, ← Array.toList_map]
        simp
    · rename_i x hop
      obtain ⟨l, h1, rfl⟩ := Option.map_eq_some_iff.1 hc
      obtain ⟨v, h2, h3⟩ := c.loc h1 (k := fun v => iffk v (kp v h)) hh hr
      obtain ⟨⟨t, v', rfl⟩, h4⟩ := iffk_ok h2 hr
      generalize hx : a.eval x = xv at h3
      cases h3
      rename_i y h5
      refine .panic ho hw (.inl hb) (v := .iface t y) ?_ (hp _ h ρ _ w h4 (.iface h5) c.rh (.refl _ _ _))
      simp [execOp, hop, hx, Instr.panic, goPanic]
    · cases hc

theorem yielded_eq {j t : Nat} (h : ((ops[j]?).bind (·.dst)) = some t) : yielded ops a.tmps j = match a.eval (.tmp t) with | .bool b => some b | _ => none := by
  simp only [yielded, h, Option.bind_some, Act.eval]
  rw [Array.getD_eq_getD_getElem?]
  cases hx : a.tmps[t]? with
  | none => rfl
  | some x => cases x <;> rfl

theorem castO_ok (hcf : CFok P ng cf) (c : Cx ρ ng T L env h w a) {vi : VI} (hc : cVI P (locOf T ng) o.op = some vi) (hh : runVI cf (castO P o vi) L env h k kp = r) (hr : r ≠ .fail)
    (ho : ops[i]? = some o) (hw : Region.wanted o (yielded ops a.tmps) = true) (hb : b.roundOf = none) (hk : Goes P b ops rest Q a cs ρ h w o.dst k r) (hp : Leaps Q a cs ρ h w kp r) :
    WO P b ops (i :: rest) Q a cs w := by
  have cast : ∀ s, runVI cf (.cast s vi) L env h k kp = r → WO P b ops (i :: rest) Q a cs w := fun s hh =>
    cVI_ok (k := fun u h' => castk s u fun u => k u h') hcf c hc hh hr ho hw hb (fun u h' ρ' y w' h1 => hk u h' ρ' y w' (castk_ok (k := fun u => k u h') h1 hr)) hp
  unfold castO at hh
  split at hh
  · split at hh
    · exact cVI_ok hcf c hc hh hr ho hw hb hk hp
    · exact cast _ hh
  · exact cVI_ok hcf c hc hh hr ho hw hb hk hp

theorem cGuard_ok (hcf : CFok P ng cf) (c : Cx ρ ng T L env h w a) {vi : VI} (hc : cGuard P (locOf T ng) ops o = some vi) (hh : runVI cf vi L env h k kp = r) (hr : r ≠ .fail)
    (ho : ops[i]? = some o) (hb : b.roundOf = none) (hk : Goes P b ops rest Q a cs ρ h w o.dst k r) (hp : Leaps Q a cs ρ h w kp r) :
    WO P b ops (i :: rest) Q a cs w := by
  unfold cGuard at hc
  split at hc
  · rename_i hg
    obtain ⟨v, h1, rfl⟩ := Option.map_eq_some_iff.1 hc
    exact castO_ok hcf c h1 hh hr ho (by simp [Region.wanted, hg]) hb hk hp
  · rename_i j want hg
    obtain ⟨t, h1, hc⟩ := Option.bind_eq_some_iff.1 hc
    obtain ⟨lc, h2, hc⟩ := Option.bind_eq_some_iff.1 hc
    obtain ⟨v, h3, rfl⟩ := Option.map_eq_some_iff.1 hc
    obtain ⟨u, h4, h5⟩ := c.loc h2 (k := fun x => backk (grdk x (fun t => ifk (wantb want t)
      (runVI cf (castO P o v) L env h .ret .pan) (.ret .skip h)) (.ret .skip h)) k kp) hh hr
    have hy := yielded_eq (a := a) h1
    have skip : Region.wanted o (yielded ops a.tmps) = false → k .skip h = r → WO P b ops (i :: rest) Q a cs w := fun h6 h7 => .skip ho h6 (hk _ h ρ _ w h7 .skip c.rh (.refl _ _ _))
    -- what the guarded operation comes to by itself
    obtain ⟨q, h6, hq⟩ : ∃ q, grdk u (fun t => ifk (wantb want t)
        (runVI cf (castO P o v) L env h .ret .pan) (.ret .skip h)) (.ret .skip h) = q ∧ backk q k kp = r := ⟨_, rfl, h4⟩
    have hq' : q ≠ .fail := fun e => by subst e; exact hr hq.symm
    have fin : (Res.ret .skip h) = q → k .skip h = r := fun e => by subst e; exact hq
    rcases grdk_ok h6 hq' with ⟨x, rfl, h6⟩ | ⟨rfl, h6⟩
    · generalize a.eval (.tmp t) = xv at h5 hy
      cases h5
      rcases ifk_ne h6 with ⟨h7, h8⟩ | ⟨h7, h8⟩
      · refine castO_ok (k := .ret) (kp := .pan) hcf c h3 h8 hq' ho ?_ hb ?_ ?_
        · simp only [Region.wanted, hg, hy]
          cases x <;> cases want <;> simp_all [wantb]
        · intro u h' ρ' y w' e1 e2 e3 e4
          exact hk u h' ρ' y w' (by subst e1; exact hq) e2 e3 e4
        · intro u h' ρ' y w' e1 e2 e3 e4
          exact hp u h' ρ' y w' (by subst e1; exact hq) e2 e3 e4
      · refine skip ?_ (fin h8)
        simp only [Region.wanted, hg, hy]
        cases x <;> cases want <;> simp_all [wantb]
    · generalize a.eval (.tmp t) = xv at h5 hy
      cases h5
      refine skip ?_ (fin h6)
      simp only [Region.wanted, hg, hy]
      rfl
end ok
end Go.Ev
