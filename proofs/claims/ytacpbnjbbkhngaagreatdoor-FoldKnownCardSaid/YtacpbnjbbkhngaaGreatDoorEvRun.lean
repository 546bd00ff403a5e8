/- EVALUATOR, 22: regions in the order of the text; code; what follows it. -/
import Derived.Test.YtacpbnjbbkhngaaGreatDoorEvReg
namespace Go.Ev
variable {P : Program}

inductive Dst where
  | no
  | push
  | env (x : Slot)
structure RI where
  v : VI
  d : Dst

abbrev Kont := Ex → Env → Heap → Res
noncomputable def runLg (sem : OX → Do) (cf : CF) (l : List RI) (L : List V) (env : Env) (h : Heap) (K : Kont) : Res :=
  List.rec (motive := fun _ => List V → Env → Heap → Kont → Res) (fun _ env h K => K .normal env h)
    (fun i _ ih L env h K => RI.rec (motive := fun _ => Res)
      (fun v d => runVIg sem cf v L env h (fun u h' => Dst.rec (motive := fun _ => Res) (ih L env h' K) (ih (u :: L) env h' K) (fun x => envk env x u fun env' => ih L env' h' K) d) fun u h' => K (.pan u) env h') i)
    l L env h K

noncomputable abbrev runL := runLg semOX
/-- where the temporaries lie in a region that is run in the order of the text -/
def seqT (fi : FI) (T : List (Nat × Loc)) (t : Nat) : Option Loc := if fi.inl.testBit t then T.lookup t else (slotOf t).map .e
def Loc.up : Loc → Loc
  | .s i => .s (i + 1)
  | l => l
def Slot.same (x y : Slot) : Bool := x.a.val == y.a.val && x.b.val == y.b.val
def Loc.is (x : Slot) : Loc → Bool
  | .e y => x.same y
  | _ => false
def cDst (fi : FI) (T : List (Nat × Loc)) : Option Tmp → Option (Dst × List (Nat × Loc))
  | none => some (.no, T)
  | some t => if t < fi.nt then if fi.inl.testBit t then some (.push, (t, .s 0) :: T.map fun p => (p.1, p.2.up)) else
      (slotOf t).bind fun x => if T.any fun p => p.2.is x then none else some (.env x, T)
    else none
/-- a temporary of this region that is but another name: of what -/
def alias (fi : FI) (ng : Nat) (T : List (Nat × Loc)) (o : Oper) (l : List Oper) : Option (Nat × Loc) :=
  match o.guard, o.dst, o.op with
  | none, some t, .move x | none, some t, .assign x => if t < fi.nt && fi.inl.testBit t then match locOf (seqT fi T) ng x with
      | some (.e y) => if l.any fun o' => match o'.dst with | some t' => !fi.inl.testBit t' && ((((slotOf t').map fun z => z.same y).getD false)) | none => false then none else some (t, .e y)
      | some loc => some (t, loc)
      | none => none
    else none
  | _, _, _ => none
def cReg (P : Program) (fi : FI) (ng : Nat) (ops : Array Oper) : List Oper → List (Nat × Loc) → Option (List RI)
  | [], _ => some []
  | o :: l, T => match alias fi ng T o l with
    | some p => cReg P fi ng ops l (p :: T)
    | none => (cGuard P (locOf (seqT fi T) ng) ops o).bind fun v => (cDst fi T o.dst).bind fun d => (cReg P fi ng ops l d.2).map fun m => ⟨v, d.1⟩ :: m

structure StkR (ρ : Rho) (fi : FI) (T : List (Nat × Loc)) (L : List V) (env : Env) (tmps : Array Value) : Prop where
  own : ∀ t loc, T.lookup t = some loc → fi.inl.testBit t = true
  val : ∀ t loc v, T.lookup t = some loc → loc.at L env = some v → VR ρ v (tmps.getD t Go.undef)
theorem StkR.mono {ρ ρ' : Rho} (h : ρ.le ρ') {fi : FI} {T : List (Nat × Loc)} {L : List V} {env : Env} {tmps : Array Value} (e : StkR ρ fi T L env tmps) : StkR ρ' fi T L env tmps :=
  ⟨e.own, fun t loc v h1 h2 => (e.val t loc v h1 h2).mono h⟩
/-- what lies in a frame is what the model's frame holds -/
structure FrR (ρ : Rho) (fi : FI) (T : List (Nat × Loc)) (L : List V) (E : Env) (tmps : Array Value) : Prop where
  env : EnvR ρ fi E tmps
  stk : StkR ρ fi T L E tmps
theorem FrR.tmp {ρ : Rho} {fi : FI} {T : List (Nat × Loc)} {L : List V} {env : Env} {tmps : Array Value} (f : FrR ρ fi T L env tmps) : TmpR ρ (seqT fi T) L env tmps := by
  intro t loc v h1 h2
  unfold seqT at h1
  split at h1
  · exact f.stk.val t loc v h1 h2
  · rename_i hb
    obtain ⟨x, h3, rfl⟩ := Option.map_eq_some_iff.1 h1
    cases h2
    exact f.env.val t x h3 (by simpa using hb)
theorem FrR.mono {ρ ρ' : Rho} (h : ρ.le ρ') {fi : FI} {T : List (Nat × Loc)} {L : List V} {env : Env} {tmps : Array Value} (f : FrR ρ fi T L env tmps) : FrR ρ' fi T L env tmps := ⟨f.env.mono h, f.stk.mono h⟩
theorem getD_set_ne {tmps : Array Value} {t t' : Nat} (h : t' ≠ t) (y : Value) : (tmps.setIfInBounds t y).getD t' Go.undef = tmps.getD t' Go.undef := by
  rw [Array.getD_eq_getD_getElem?, Array.getD_eq_getD_getElem?, Array.getElem?_setIfInBounds_ne (Ne.symm h)]
theorem getD_set_eq {tmps : Array Value} {t : Nat} (h : t < tmps.size) (y : Value) : (tmps.setIfInBounds t y).getD t Go.undef = y := by
  rw [Array.getD_eq_getD_getElem?, Array.getElem?_setIfInBounds_self_of_lt h]; rfl
theorem lookup_map (T : List (Nat × Loc)) (f : Loc → Loc) (t : Nat) : (T.map fun p => (p.1, f p.2)).lookup t = (T.lookup t).map f := by
  induction T with
  | nil => rfl
  | cons p T ih =>
    obtain ⟨t', l⟩ := p
    rw [List.map_cons, List.lookup_cons, List.lookup_cons]
    cases h : t == t' <;> simp [ih]
theorem Loc.at_up (l : Loc) (u : V) (L : List V) (env : Env) : l.up.at (u :: L) env = l.at L env := by cases l <;> simp [Loc.up, Loc.at]
theorem FrR.name {ρ : Rho} {fi : FI} {T : List (Nat × Loc)} {L : List V} {env : Env} {tmps : Array Value} (f : FrR ρ fi T L env tmps) {t : Nat} (ht : t < fi.nt) (hb : fi.inl.testBit t = true) {loc : Loc} {y : Value}
    (hv : ∀ v, loc.at L env = some v → VR ρ v y) : FrR ρ fi ((t, loc) :: T) L env (tmps.setIfInBounds t y) where
  env := ⟨by simp [f.env.size], fun t' x h1 h2 => by
    rw [getD_set_ne (by rintro rfl; rw [hb] at h2; cases h2)]; exact f.env.val t' x h1 h2⟩
  stk := ⟨fun t' l h => by
    rw [List.lookup_cons] at h
    cases e : t' == t with
    | true => have : t' = t := by simpa using e
              rw [this]; exact hb
    | false => rw [e] at h; exact f.stk.own t' l h, fun t' l v h h' => by
    rw [List.lookup_cons] at h
    cases e : t' == t with
    | true =>
      rw [e] at h
      cases h
      have : t' = t := by simpa using e
      subst this
      rw [getD_set_eq (by rw [f.env.size]; exact ht)]; exact hv v h'
    | false =>
      rw [e] at h
      rw [getD_set_ne (by simpa using e)]
      exact f.stk.val t' l v h h'⟩
theorem FrR.push {ρ : Rho} {fi : FI} {T : List (Nat × Loc)} {L : List V} {env : Env} {tmps : Array Value} (f : FrR ρ fi T L env tmps) {t : Nat} (ht : t < fi.nt) (hb : fi.inl.testBit t = true) {u : V} {y : Value}
    (hv : VR ρ u y) : FrR ρ fi ((t, .s 0) :: T.map fun p => (p.1, p.2.up)) (u :: L) env (tmps.setIfInBounds t y) := by
  have f' : FrR ρ fi (T.map fun p => (p.1, p.2.up)) (u :: L) env tmps := ⟨f.env, fun t' l h => by
    rw [lookup_map] at h
    obtain ⟨l', h1, _⟩ := Option.map_eq_some_iff.1 h
    exact f.stk.own t' l' h1, fun t' l v h h' => by
    rw [lookup_map] at h
    obtain ⟨l', h1, rfl⟩ := Option.map_eq_some_iff.1 h
    rw [Loc.at_up] at h'
    exact f.stk.val t' l' v h1 h'⟩
  exact f'.name ht hb fun v h => by
    simp only [Loc.at, List.getElem?_cons_zero] at h
    cases h
    exact hv
theorem FrR.put {ρ : Rho} {fi : FI} {T : List (Nat × Loc)} {L : List V} {env : Env} {tmps : Array Value} (f : FrR ρ fi T L env tmps) {t : Nat} (ht : t < fi.nt) (hb : fi.inl.testBit t = false) {x : Slot}
    (hx : slotOf t = some x) (hn : (T.any fun p => p.2.is x) = false) {u : V} {y : Value} (hv : VR ρ u y) : FrR ρ fi T L (env.put x u) (tmps.setIfInBounds t y) where
  env := ⟨by simp [f.env.size], fun t' x' h1 h2 => by
    by_cases e : t' = t
    · subst e
      rw [hx] at h1
      cases h1
      rw [getD_set_eq (by rw [f.env.size]; exact ht), Env.at_put]; exact hv
    · rw [getD_set_ne e, Env.at_put_ne _ (by rintro rfl; exact e (slotOf_inj h1 hx))]; exact f.env.val t' x' h1 h2⟩
  stk := ⟨f.stk.own, fun t' l v h h' => by
    have hm : (t', l) ∈ T := by
      have : ∀ {T : List (Nat × Loc)}, T.lookup t' = some l → (t', l) ∈ T := by
        intro T
        induction T with
        | nil => intro h; cases h
        | cons p T ih =>
          obtain ⟨t2, l2⟩ := p
          intro h
          rw [List.lookup_cons] at h
          cases e : t' == t2 with
          | true =>
            rw [e] at h
            cases h
            have : t' = t2 := by simpa using e
            rw [this]; simp
          | false => rw [e] at h; exact List.mem_cons_of_mem _ (ih h)
      exact this h
    have hl : l.is x = false := by
      have := List.any_eq_false.1 hn _ hm
      simpa using this
    have e : l.at L (env.put x u) = l.at L env := by
      cases l with
      | s i => rfl
      | k v => rfl
      | e y =>
        simp only [Loc.at]
        rw [Env.at_put_ne]
        rintro rfl
        simp [Loc.is, Slot.same] at hl
    rw [e] at h'
    rw [getD_set_ne (by rintro rfl; rw [f.stk.own _ _ h] at hb; cases hb)]
    exact f.stk.val t' l v h h'⟩

/-- how a piece of code is left -/
inductive ExR (ρ : Rho) : Ex → Exit → Prop where
  | normal : ExR ρ .normal .normal
  | exit (i : Nat) : ExR ρ (.exit i) (.exit i)
  | ret : ExR ρ .ret .ret
  | pan {v : V} {y : Value} (h : VR ρ v y) : ExR ρ (.pan v) (.panic [{ v := y, recovered := false }])

/-- what holds when a piece of code has been left; 'cs', 'ds': the callers and the deferred calls, which stand -/
def Left (P : Program) (fi : FI) (ρ₀ : Rho) (h₀ : Heap) (w₀ : World) (K : Kont) (r : Res) (cs₀ : List Frame) (ds : List Deferred) : Post := fun e a cs w =>
  cs = cs₀ ∧ a.defers = ds ∧ ∃ x env h ρ, K x env h = r ∧ ExR ρ x e ∧ EnvR ρ fi env a.tmps ∧ RH P ρ h w ∧ Ext ρ₀ h₀ w₀ ρ h w

theorem Left.of {fi : FI} {ρ₀ ρ₁ : Rho} {h₀ h₁ : Heap} {w₀ w₁ : World} {K : Kont} {r : Res} {cs₀ : List Frame} {ds : List Deferred} (x : Ext ρ₀ h₀ w₀ ρ₁ h₁ w₁) {e : Exit} {a : Act} {cs : List Frame} {w : World}
    (h : Left P fi ρ₁ h₁ w₁ K r cs₀ ds e a cs w) : Left P fi ρ₀ h₀ w₀ K r cs₀ ds e a cs w := by
  obtain ⟨h1, h2, x', env, h', ρ, h3, h4, h5, h6, h7⟩ := h
  exact ⟨h1, h2, x', env, h', ρ, h3, h4, h5, h6, x.trans h7⟩

theorem alias_ok {fi : FI} {ng : Nat} {T : List (Nat × Loc)} {o : Oper} {l : List Oper} {p : Nat × Loc} (h : alias fi ng T o l = some p) :
    ∃ x, o.guard = none ∧ o.dst = some p.1 ∧ p.1 < fi.nt ∧ fi.inl.testBit p.1 = true ∧ (o.op = .move x ∨ o.op = .assign x) ∧ locOf (seqT fi T) ng x = some p.2 := by
  have key : ∀ {t : Nat} {x : Operand}, (if t < fi.nt && fi.inl.testBit t then match locOf (seqT fi T) ng x with
      | some (.e y) => if l.any fun o' => match o'.dst with | some t' => !fi.inl.testBit t' && (((slotOf t').map fun z => z.same y).getD false) | none => false then none else some (t, .e y)
      | some loc => some (t, loc)
      | none => none
    else none) = some p → p.1 = t ∧ t < fi.nt ∧ fi.inl.testBit t = true ∧ locOf (seqT fi T) ng x = some p.2 := by
    intro t x h
    split at h
    · rename_i hc
      have hc : t < fi.nt ∧ fi.inl.testBit t = true := by simpa using hc
      split at h
      · rename_i hl
        split at h
        · cases h
        · cases h; exact ⟨rfl, hc.1, hc.2, hl⟩
      · rename_i hl
        cases h; exact ⟨rfl, hc.1, hc.2, hl⟩
      · cases h
    · cases h
  unfold alias at h
  split at h
  · rename_i t x h1 h2 h3
    obtain ⟨rfl, h4, h5, h6⟩ := key h
    exact ⟨x, h1, h2, h4, h5, .inl h3, h6⟩
  · rename_i t x h1 h2 h3
    obtain ⟨rfl, h4, h5, h6⟩ := key h
    exact ⟨x, h1, h2, h4, h5, .inr h3, h6⟩
  · cases h
section reg
variable {fi : FI} {ng : Nat} {cf : CF} {ops : Array Oper} {b : Frame} {K : Kont} {r : Res}
theorem reg_ok (hcf : CFok P ng cf) (hr : r ≠ .fail) : ∀ {l : List Oper} {i : Nat} {T : List (Nat × Loc)} {ris : List RI}, cReg P fi ng ops l T = some ris → (∀ j, ops[i + j]? = l[j]?) →
    ∀ {L : List V} {env : Env} {h : Heap} {ρ : Rho} {w : World} {a : Act} {cs : List Frame}, runL cf ris L env h K = r → FrR ρ fi T L env a.tmps → RH P ρ h w → GlobR ρ ng →
    WO P b ops (List.range' i l.length) (Left P fi ρ h w K r cs a.defers) a cs w
  | [], i, T, ris, hc, hi, L, env, h, ρ, w, a, cs, hh, hf, rh, hg => by
    cases hc
    exact .nil ⟨rfl, rfl, .normal, env, h, ρ, hh, .normal, hf.env, rh, .refl _ _ _⟩
  | o :: l, i, T, ris, hc, hi, L, env, h, ρ, w, a, cs, hh, hf, rh, hg => by
    have ho : ops[i]? = some o := by have := hi 0; simpa using this
    have hi' : ∀ j, ops[i + 1 + j]? = l[j]? := fun j => by have := hi (j + 1); rw [show i + 1 + j = i + (j + 1) by omega]; simpa using this
    rw [List.length_cons, List.range'_succ]
    simp only [cReg] at hc
    split at hc
    · rename_i p hp
      obtain ⟨x, hw, hdst, hlt, hin, hop, hl⟩ := alias_ok hp
      have hv := fun v h => locOf_at (v := v) hl h hf.tmp hg
      refine .value (v := a.eval x) (w' := w) ho (by simp [Region.wanted, hw]) (.inr fun c e => by rcases hop with hop | hop <;> (rw [hop] at e; cases e)) ?_ ?_
      · rcases hop with hop | hop <;> simp [execOp, hop]
      · have := reg_ok hcf hr hc hi' (cs := cs) (a := a.put o.dst (a.eval x)) hh (by rw [hdst]; exact hf.name hlt hin hv) rh hg
        rw [hdst] at this ⊢
        exact this
    obtain ⟨v, h1, hc⟩ := Option.bind_eq_some_iff.1 hc
    obtain ⟨⟨d, T'⟩, h2, hc⟩ := Option.bind_eq_some_iff.1 hc
    obtain ⟨m, h3, rfl⟩ := Option.map_eq_some_iff.1 hc
    refine cGuard_ok (k := fun u h' => Dst.rec (motive := fun _ => Res) (runL cf m L env h' K) (runL cf m (u :: L) env h' K) (fun x => envk env x u fun env' => runL cf m L env' h' K) d)
      (kp := fun u h' => K (.pan u) env h') hcf ⟨hf.tmp, hg, rh⟩ h1 hh hr ho ?_ ?_
    · intro u h' ρ' y w' h4 h5 h6 h7
      have hf' := hf.mono h7.le
      have hg' : GlobR ρ' ng := fun g hlt => let ⟨S, h8⟩ := hg g hlt; ⟨S, h7.le _ _ h8⟩
      have step : ∀ {L' : List V} {env' : Env} {a' : Act}, a'.defers = a.defers → runL cf m L' env' h' K = r → FrR ρ' fi T' L' env' a'.tmps → WO P b ops (List.range' (i + 1) l.length) (Left P fi ρ h w K r cs a.defers) a' cs w' := by
        intro L' env' a' hd h8 h9
        have := reg_ok hcf hr h3 hi' (cs := cs) h8 h9 h6 hg'
        rw [hd] at this
        exact this.mono fun e a cs w hl => hl.of h7
      unfold cDst at h2
      split at h2
      · rename_i hdst
        cases h2
        rw [hdst]
        exact step rfl h4 hf'
      · rename_i t hdst
        split at h2
        · rename_i hlt
          rw [hdst]
          split at h2
          · rename_i hin
            cases h2
            exact step rfl h4 (hf'.push hlt hin h5)
          · rename_i hin
            obtain ⟨x, hx, h2⟩ := Option.bind_eq_some_iff.1 h2
            split at h2
            · cases h2
            rename_i hn
            cases h2
            have h4 : envk env x u (fun env' => runL cf m L env' h' K) = r := h4
            rw [envk_eq] at h4
            exact step rfl h4 (hf'.put hlt (by simpa using hin) hx (by simpa using hn) h5)
        · cases h2
    · intro u h' ρ' y w' h4 h5 h6 h7
      exact ⟨rfl, rfl, .pan u, env, h', ρ', h4, .pan h5, hf.env.mono h7.le, h6, h7⟩
end reg
end Go.Ev
