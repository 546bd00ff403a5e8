/- EvLight: texts joined. -/
import Derived.Test.YtacpbnjbbkhngaaGreatDoorEvSem
/- EVALUATOR, 18: an operation as it is prepared, and the model's own. -/
namespace Go.Ev
variable {P : Program} {ρ : Rho} {h : Heap} {w : World} {k : V → Heap → Res} {r : Res} {ng : Nat} {T : Nat → Option Loc} {L : List V} {env : Env} {a : Act}

/-- what an operation comes to -/
def OkN (P : Program) (ρ : Rho) (h : Heap) (w : World) (s : Sem Next) (k : V → Heap → Res) (r : Res) : Prop :=
  ∃ u h' ρ' y w', k u h' = r ∧ (s.run P w = .ok (.value y) w' ∨ (s.run P w = .ok .skip w' ∧ y = Go.undef)) ∧ VR ρ' u y ∧ RH P ρ' h' w' ∧ Ext ρ h w ρ' h' w'
theorem Ok.next {s : Sem Value} (h1 : Ok P ρ h w s k r) : OkN P ρ h w (do Pure.pure (.value (← s))) k r := by
  obtain ⟨u, h', ρ', y, w', h2, h3, h4⟩ := h1
  exact ⟨u, h', ρ', y, w', h2, .inl (by rw [Sem.run_bind, h3]; rfl), h4⟩
theorem OkU.next {s : Sem Unit} (h1 : OkU P ρ h w s k r) : OkN P ρ h w (do s; pure .skip) k r := by
  obtain ⟨h', ρ', w', h2, h3, h4, h5⟩ := h1
  exact ⟨_, h', ρ', _, w', h2, .inr ⟨by rw [Sem.run_bind, h3]; rfl, rfl⟩, .skip, h4, h5⟩
/-- what an operation comes to that changes nothing -/
def OkPN (P : Program) (ρ : Rho) (h : Heap) (w : World) (s : Sem Next) (k : V → Heap → Res) (r : Res) : Prop := ∃ u y, k u h = r ∧ s.run P w = .ok (.value y) w ∧ VR ρ u y
theorem OkP.next {s : Sem Value} (h1 : OkP P ρ h w s k r) : OkPN P ρ h w (do Pure.pure (.value (← s))) k r := by
  obtain ⟨u, y, h2, h3, h4⟩ := h1
  exact ⟨u, y, h2, by rw [Sem.run_bind, h3]; rfl, h4⟩
theorem OkN.pure {s : Sem Next} (rh : RH P ρ h w) (hh : ∃ u y, k u h = r ∧ s.run P w = .ok (.value y) w ∧ VR ρ u y) : OkN P ρ h w s k r :=
  let ⟨u, y, h1, h2, h3⟩ := hh; ⟨u, h, ρ, y, w, h1, .inl h2, h3, rh, .refl _ _ _⟩

/-- what holds before an operation -/
structure Cx (P : Program) (ρ : Rho) (ng : Nat) (T : Nat → Option Loc) (L : List V) (env : Env) (h : Heap) (w : World) (a : Act) : Prop where
  tmp : TmpR ρ T L env a.tmps
  glob : GlobR ρ ng
  rh : RH P ρ h w

theorem Cx.loc (c : Cx P ρ ng T L env h w a) {x : Operand} {loc : Loc} (hl : locOf T ng x = some loc) {k : V → Res} {r : Res} (h : getk loc L env k = r) (hr : r ≠ .fail) :
    ∃ v, k v = r ∧ VR ρ v (a.eval x) := locOf_ok hl h hr c.tmp c.glob
theorem Cx.locs (c : Cx P ρ ng T L env h w a) : ∀ {xs : List Operand} {ls : List Loc}, locsOf (locOf T ng) xs = some ls → ∀ {k : List V → Res} {r : Res}, getsk ls L env k = r → r ≠ .fail →
    ∃ l, k l = r ∧ VRs ρ l (xs.map a.eval)
  | [], ls, h, k, r, h1, _ => by cases h; exact ⟨[], h1, .nil⟩
  | x :: xs, ls, h, k, r, h1, hr => by
    simp only [locsOf] at h
    split at h
    · rename_i l m hx hxs
      cases h
      obtain ⟨v, h2, h3⟩ := c.loc hx (show getk l L env (fun v => getsk m L env fun l => k (v :: l)) = r from h1) hr
      obtain ⟨l', h4, h5⟩ := c.locs hxs h2 hr
      exact ⟨_, h4, .cons h3 h5⟩
    · cases h
theorem Cx.parts (c : Cx P ρ ng T L env h w a) {place : Nat → Option (Nat × Nat)} : ∀ {ps : List (Nat × Operand)} {m : List (Nat × Nat × Loc)}, partLocs (locOf T ng) place ps = some m →
    ∀ {k : List (Nat × Nat × V) → Res} {r : Res}, getpk m L env k = r → r ≠ .fail → ∃ l, k l = r ∧ FillR ρ place l (ps.map fun (i, x) => (i, a.eval x))
  | [], m, h, k, r, h1, _ => by cases h; exact ⟨[], h1, trivial⟩
  | (i, x) :: ps, m, h, k, r, h1, hr => by
    simp only [partLocs] at h
    split at h
    · rename_i off n l m' hp hx hps
      cases h
      obtain ⟨v, h2, h3⟩ := c.loc hx (show getk l L env (fun v => getpk m' L env fun q => k ((off, n, v) :: q)) = r from h1) hr
      obtain ⟨l', h4, h5⟩ := c.parts hps h2 hr
      exact ⟨_, h4, hp, h3, h5⟩
    · cases h
theorem Cx.opt (c : Cx P ρ ng T L env h w a) {x : Option Operand} {l : Option Loc} (hl : optLoc (locOf T ng) x = some l) {k : Option V → Res} {r : Res} (h : getok l L env k = r) (hr : r ≠ .fail) :
    ∃ v, k v = r ∧ BndR ρ v (x.map a.eval) := by
  cases x with
  | none => cases hl; exact ⟨none, h, trivial⟩
  | some x =>
    obtain ⟨y, h1, rfl⟩ := Option.map_eq_some_iff.1 hl
    obtain ⟨v, h2, h3⟩ := c.loc h1 (show getk y L env (fun v => k (some v)) = r from h) hr
    exact ⟨some v, h2, h3⟩

theorem one_inv {f : Operand → Option Loc} {c : Bool} {mk : Loc → OX} {x : Operand} {ox : OX} (h : one f c mk x = some ox) : c = true ∧ ∃ l, f x = some l ∧ ox = mk l := by
  unfold one at h
  split at h
  · rename_i hc
    obtain ⟨l, h1, h2⟩ := Option.map_eq_some_iff.1 h
    exact ⟨hc, l, h1, h2.symm⟩
  · cases h
theorem two_inv {f : Operand → Option Loc} {c : Bool} {mk : Loc → Loc → OX} {x y : Operand} {ox : OX} (h : two f c mk x y = some ox) :
    c = true ∧ ∃ l m, f x = some l ∧ f y = some m ∧ ox = mk l m := by
  unfold two at h
  split at h
  · rename_i hc
    obtain ⟨l, h1, h2⟩ := Option.bind_eq_some_iff.1 h
    obtain ⟨m, h3, h4⟩ := Option.map_eq_some_iff.1 h2
    exact ⟨hc, l, m, h1, h3, h4.symm⟩
  · cases h
theorem Cx.do1 (c : Cx P ρ ng T L env h w a) {cnd : Bool} {mk : Loc → OX} {x : Operand} {ox : OX} (ho : one (locOf T ng) cnd mk x = some ox) {f : V → Heap → (V → Heap → Res) → Res}
    (hm : ∀ l, semOX (mk l) = Go.Ev.do1 f l) (hh : semOX ox L env h k = r) (hr : r ≠ .fail) : cnd = true ∧ ∃ v, f v h k = r ∧ VR ρ v (a.eval x) := by
  obtain ⟨hc, l, h1, rfl⟩ := one_inv ho
  rw [hm] at hh
  exact ⟨hc, c.loc h1 (show getk l L env (fun v => f v h k) = r from hh) hr⟩
theorem Cx.do2 (c : Cx P ρ ng T L env h w a) {cnd : Bool} {mk : Loc → Loc → OX} {x y : Operand} {ox : OX} (ho : two (locOf T ng) cnd mk x y = some ox) {f : V → V → Heap → (V → Heap → Res) → Res}
    (hm : ∀ l m, semOX (mk l m) = Go.Ev.do2 f l m) (hh : semOX ox L env h k = r) (hr : r ≠ .fail) : cnd = true ∧ ∃ v u, f v u h k = r ∧ VR ρ v (a.eval x) ∧ VR ρ u (a.eval y) := by
  obtain ⟨hc, l, m, h1, h2, rfl⟩ := two_inv ho
  rw [hm] at hh
  obtain ⟨v, h3, h4⟩ := c.loc h1 (show getk l L env (fun v => getk m L env fun u => f v u h k) = r from hh) hr
  obtain ⟨u, h5, h6⟩ := c.loc h2 h3 hr
  exact ⟨hc, v, u, h5, h4, h6⟩

/- THE OPERATIONS, ONE KIND AFTER THE OTHER -/
theorem bin_next {o : BinOp} {t : TypeId} {X Y : Operand} {x y : Value}
    (hh : ∃ u z, k u h = r ∧ (do eqGuard o t X Y x y; binOp o t x y : Sem Value).run P w = .ok z w ∧ VR ρ u z ∧ z.oneCell' = true) : OkPN P ρ h w (do pure (.value (← (do eqGuard o t X Y x y; binOp o t x y : Sem Value)))) k r := by
  obtain ⟨u, z, h1, h2, h3, _⟩ := hh
  exact ⟨u, z, h1, by rw [Sem.run_bind, h2]; rfl, h3⟩
theorem cBin_ok (c : Cx P ρ ng T L env h w a) {o : BinOp} {t : TypeId} {x y : Operand} {ox : OX} (hc : cBin P (locOf T ng) o t x y = some ox) (hh : semOX ox L env h k = r) (hr : r ≠ .fail) :
    OkPN P ρ h w (do pure (.value (← (do eqGuard o t x y (a.eval x) (a.eval y); binOp o t (a.eval x) (a.eval y) : Sem Value)))) k r := by
  unfold cBin at hc
  split at hc
  · obtain ⟨_, v, u, h1, h2, h3⟩ := c.do2 (f := fun v u h k => Go.Ev.binI o v u fun z => k z h) hc (fun _ _ => rfl) hh hr
    exact bin_next (binI_ok (k := fun z => k z h) h1 hr h2 h3 t x y w)
  · obtain ⟨_, v, u, h1, h2, h3⟩ := c.do2 (f := fun v u h k => Go.Ev.binS o v u fun z => k z h) hc (fun _ _ => rfl) hh hr
    exact bin_next (binS_ok (k := fun z => k z h) h1 hr h2 h3 t x y w)
  · rename_i ht
    obtain ⟨_, v, u, h1, h2, h3⟩ := c.do2 (f := fun v u h k => Go.Ev.binB o v u fun z => k z h) hc (fun _ _ => rfl) hh hr
    exact bin_next (binB_ok (k := fun z => k z h) h1 hr h2 h3 ht x y w)
  · rename_i ht
    split at hc
    · obtain ⟨_, v, u, h1, h2, h3⟩ := c.do2 (f := fun v u h k => Go.Ev.binN pnk o v u fun z => k z h) hc (fun _ _ => rfl) hh hr
      exact bin_next (binNP_ok (k := fun z => k z h) h1 hr h2 h3 ht x y w)
    · split at hc
      · rename_i n hn
        split at hc
        · cases hc
        · rename_i hn0
          obtain ⟨ls, e1, rfl⟩ := Option.map_eq_some_iff.1 hc
          obtain ⟨l, h1, h2⟩ := c.locs e1 (k := fun l => semEX (.eqp o) l h k) hh hr
          cases h2 with
          | cons h3 h4 =>
            cases h4 with
            | cons h4 h5 =>
              cases h5
              exact bin_next (sEqP_ok (k := k) h1 hr c.rh h3 h4 ht hn hn0 x y)
      · cases hc
  · rename_i ht
    obtain ⟨_, v, u, h1, h2, h3⟩ := c.do2 (f := fun v u h k => Go.Ev.binN snk o v u fun z => k z h) hc (fun _ _ => rfl) hh hr
    exact bin_next (binNS_ok (k := fun z => k z h) h1 hr h2 h3 ht x y w)
  · rename_i ht
    obtain ⟨_, v, u, h1, h2, h3⟩ := c.do2 (f := fun v u h k => Go.Ev.binN mnk o v u fun z => k z h) hc (fun _ _ => rfl) hh hr
    exact bin_next (binNM_ok (k := fun z => k z h) h1 hr h2 h3 ht x y w)
  · rename_i ht
    obtain ⟨_, v, u, h1, h2, h3⟩ := c.do2 (f := fun v u h k => Go.Ev.binN fnk0 o v u fun z => k z h) hc (fun _ _ => rfl) hh hr
    exact bin_next (binNF_ok (k := fun z => k z h) h1 hr h2 h3 ht x y w)
  · rename_i ht
    obtain ⟨hy, v, u, h1, h2, h3⟩ := c.do2 (f := fun v u h k => Go.Ev.binN ink o v u fun z => k z h) hc (fun _ _ => rfl) hh hr
    have : ∃ u, y = .const u := by cases y <;> first | exact ⟨_, rfl⟩ | cases hy
    exact bin_next (binNI_ok (k := fun z => k z h) h1 hr h2 h3 ht x y this w)
  · cases hc
theorem cConv_ok (c : Cx P ρ ng T L env h w a) {s d : TypeId} {x : Operand} {ox : OX} (hc : cConv P (locOf T ng) s d x = some ox) (hh : semOX ox L env h k = r) (hr : r ≠ .fail) :
    OkP P ρ h w (convert s d (a.eval x)) k r := by
  unfold cConv at hc
  split at hc
  · rename_i hs hd
    obtain ⟨_, v, h1, h2⟩ := c.do1 (f := sConvI _) hc (fun _ => rfl) hh hr
    exact sConvI_ok h1 hr c.rh h2 hs hd
  · rename_i hs hd
    obtain ⟨_, v, h1, h2⟩ := c.do1 (f := sConvS) hc (fun _ => rfl) hh hr
    exact sConvS_ok h1 hr c.rh h2 hs hd
  · rename_i hs hd
    split at hc
    · rename_i he
      obtain ⟨_, v, h1, h2⟩ := c.do1 (f := sBytesS) hc (fun _ => rfl) hh hr
      exact sBytesS_ok h1 hr c.rh h2 hs he hd
    · cases hc
  · cases hc
theorem cField_ok (c : Cx P ρ ng T L env h w a) {t : TypeId} {x : Operand} {i : Nat} {ox : OX} (hc : cField P (locOf T ng) t x i = some ox) (hh : semOX ox L env h k = r) (hr : r ≠ .fail) :
    OkP P ρ h w (Instr.field t (a.eval x) i) k r := by
  unfold cField at hc
  split at hc
  · rename_i fields ht
    split at hc
    · rename_i fd hf
      split at hc
      · rename_i hs
        obtain ⟨_, v, h1, h2⟩ := c.do1 (f := sFld1 _) hc (fun _ => rfl) hh hr
        exact sFld1_ok h1 hr c.rh h2 ht hf rfl hs
      · split at hc
        · rename_i hs
          split at hc
          · rename_i n hn
            obtain ⟨_, v, h1, h2⟩ := c.do1 (f := sFldN _ _) hc (fun _ => rfl) hh hr
            exact sFldN_ok h1 hr c.rh h2 ht hf rfl hs hn
          · cases hc
        · cases hc
    · cases hc
  · cases hc
theorem cFaddr_ok (c : Cx P ρ ng T L env h w a) {t : TypeId} {x : Operand} {i : Nat} {ox : OX} (hc : cFaddr P (locOf T ng) t x i = some ox) (hh : semOX ox L env h k = r) (hr : r ≠ .fail) :
    OkP P ρ h w (Instr.fieldAt t (a.eval x) i) k r := by
  unfold cFaddr at hc
  split at hc
  · rename_i fields ht
    split at hc
    · rename_i fd hf
      split at hc
      · rename_i n hn
        obtain ⟨h0, v, h1, h2⟩ := c.do1 (f := sFaddr _) hc (fun _ => rfl) hh hr
        exact sFaddr_ok h1 hr c.rh h2 ht hf rfl hn (by simpa using h0)
      · cases hc
    · cases hc
  · cases hc
theorem cIaddr_ok (c : Cx P ρ ng T L env h w a) {t : TypeId} {x i : Operand} {ox : OX} (hc : cIaddr P (locOf T ng) t x i = some ox) (hh : semOX ox L env h k = r) (hr : r ≠ .fail) :
    OkP P ρ h w (Instr.indexAt t (a.eval x) (a.eval i)) k r := by
  unfold cIaddr at hc
  split at hc
  · rename_i ht
    split at hc
    · rename_i hs
      obtain ⟨_, v, u, h1, h2, h3⟩ := c.do2 (f := sIaddr _) hc (fun _ _ => rfl) hh hr
      exact sIaddr_ok h1 hr c.rh h2 h3 ht hs
    · cases hc
  · rename_i ht
    split at hc
    · rename_i hs
      obtain ⟨_, v, u, h1, h2, h3⟩ := c.do2 (f := sIaddrA _ _) hc (fun _ _ => rfl) hh hr
      exact sIaddrA_ok h1 hr c.rh h2 h3 ht hs
    · cases hc
  · cases hc
theorem cIndex_ok (c : Cx P ρ ng T L env h w a) {t : TypeId} {x i : Operand} {ox : OX} (hc : cIndex P (locOf T ng) t x i = some ox) (hh : semOX ox L env h k = r) (hr : r ≠ .fail) :
    OkP P ρ h w (Instr.index t (a.eval x) (a.eval i)) k r := by
  unfold cIndex at hc
  split at hc
  · rename_i ht
    obtain ⟨_, v, u, h1, h2, h3⟩ := c.do2 (f := sIdxS) hc (fun _ _ => rfl) hh hr
    exact sIdxS_ok h1 hr c.rh h2 h3 ht
  · rename_i ht
    split at hc
    · rename_i n e _ s hs
      split at hc
      · rename_i he
        obtain ⟨ls, e1, rfl⟩ := Option.map_eq_some_iff.1 hc
        obtain ⟨l, h1, h2⟩ := c.locs e1 (k := fun l => semEX (.idxAN n s) l h k) hh hr
        have h2 : VRs ρ l [a.eval x, a.eval i] := h2
        obtain ⟨v, u, rfl, h3, h4⟩ : ∃ v u, l = [v, u] ∧ VR ρ v (a.eval x) ∧ VR ρ u (a.eval i) := by
          cases h2 with | cons h3 h2 => cases h2 with | cons h4 h2 => cases h2; exact ⟨_, _, rfl, h3, h4⟩
        have h1 : sIdxAN n s v u h k = r := h1
        exact sIdxAN_ok h1 hr h3 h4 ht hs he
      · obtain ⟨he, v, u, h1, h2, h3⟩ := c.do2 (f := sIdxA _ _) hc (fun _ _ => rfl) hh hr
        exact sIdxA_ok h1 hr c.rh h2 h3 ht hs he
    · cases hc
  · cases hc
theorem cSlice_ok (c : Cx P ρ ng T L env h w a) {t : TypeId} {x : Operand} {lo hi mx : Option Operand} {ox : OX} (hc : cSlice P (locOf T ng) t x lo hi mx = some ox) (hh : semOX ox L env h k = r)
    (hr : r ≠ .fail) : OkP P ρ h w (Instr.sliceAt t (a.eval x) (lo.map a.eval) (hi.map a.eval) (mx.map a.eval)) k r := by
  unfold cSlice at hc
  split at hc
  · rename_i lx ll lh lm hx hlo hhi hmx
    split at hc
    · rename_i ht
      split at hc
      · rename_i hm
        cases hc
        obtain ⟨v, h1, h2⟩ := c.loc hx (k := fun v => getok ll L env fun a => getok lh L env fun b => sSliceS v a b h k) hh hr
        obtain ⟨p, h3, h4⟩ := c.opt hlo h1 hr
        obtain ⟨q, h5, h6⟩ := c.opt hhi h3 hr
        have : mx = none := by simpa using hm
        subst this
        exact sSliceS_ok h5 hr c.rh h2 h4 h6 ht
      · cases hc
    · rename_i ht
      split at hc
      · rename_i s hs
        split at hc
        · rename_i hpos
          cases hc
          obtain ⟨v, h1, h2⟩ := c.loc hx (k := fun v => getok ll L env fun a => getok lh L env fun b => getok lm L env fun d => sSlice s v a b d h k) hh hr
          obtain ⟨p, h3, h4⟩ := c.opt hlo h1 hr
          obtain ⟨q, h5, h6⟩ := c.opt hhi h3 hr
          obtain ⟨m, h7, h8⟩ := c.opt hmx h5 hr
          exact sSlice_ok h7 hr c.rh h2 h4 h6 h8 ht hs hpos
        · cases hc
      · cases hc
    · rename_i n e ht
      split at hc
      · rename_i s hs
        split at hc
        · rename_i hm
          cases hc
          obtain ⟨v, h1, h2⟩ := c.loc hx (k := fun v => getok ll L env fun a => getok lh L env fun b => sSliceA n s v a b h k) hh hr
          obtain ⟨p, h3, h4⟩ := c.opt hlo h1 hr
          obtain ⟨q, h5, h6⟩ := c.opt hhi h3 hr
          have : mx = none := by simpa using hm
          subst this
          exact sSliceA_ok h5 hr c.rh h2 h4 h6 ht hs
        · cases hc
      · cases hc
    · cases hc
  · cases hc
theorem grain_len (P : Program) (t : TypeId) (len : Nat) : (grain P t len).2 * (grain P t len).1 = len := by
  unfold grain
  split
  · split
    · simp
    · split
      · split
        · rename_i h; exact h.2
        · simp
      · simp
  · simp
theorem cAlloc0_ok (c : Cx P ρ ng T L env h w a) {t : TypeId} {ox : OX} (hc : cAlloc0 P t = some ox) (hh : semOX ox L env h k = r) (hr : r ≠ .fail) :
    Ok P ρ h w (Instr.alloc t true (.tuple #[])) k r := by
  simp only [cAlloc0] at hc
  split at hc
  · rename_i l hz
    split at hc
    · rename_i hcc
      obtain ⟨hpos, hlen, heq⟩ := hcc
      cases hc
      obtain ⟨z, h1, h2, h3⟩ := zeroL_ok hz
      have heq := eqVs_ok heq
      have hh : sAlloc (grain P t l.length).fst (grain P t l.length).snd (repT (l.take (grain P t l.length).fst) (grain P t l.length).snd (grain P t l.length).snd) h k = r := hh
      generalize hx : l.take (grain P t l.length).fst = x at heq hlen hh
      generalize (grain P t l.length).snd = n at heq hh
      generalize (grain P t l.length).fst = g at hpos hlen hh
      refine sAlloc_ok hh hr c.rh (l := l) (z := z) ⟨h1, h2, h3, hpos, ?_, fun j ch hj => ?_⟩
      · rw [heq]; simp [hlen]
      · rw [repT_eq, Go.Ev.T.get_rep _ _ _ (Nat.le_refl _)] at hj
        split at hj
        · rename_i hlt
          cases hj
          exact ⟨hlt, by rw [heq, flat_chunk hlen hlt]⟩
        · cases hj
    · cases hc
  · cases hc
theorem cAllocT_ok (c : Cx P ρ ng T L env h w a) {t : TypeId} {ox : OX} (hc : cAllocT P t = some ox) (hh : semOX ox L env h k = r) (hr : r ≠ .fail) :
    Ok P ρ h w (Instr.alloc t true (.tuple #[])) k r := by
  unfold cAllocT at hc
  split at hc
  · rename_i l g hz hs
    split at hc
    · rename_i hcc
      cases hc
      obtain ⟨z, h1, h2, h3⟩ := zeroL_ok hz
      exact sAllocT_ok (show sAllocT t g l h k = r from hh) hr c.rh h1 (h2 ρ) h3 hcc.2 hcc.1 hs
    · cases hc
  · cases hc
theorem cAlloc_ok (c : Cx P ρ ng T L env h w a) {t : TypeId} {ox : OX} (hc : cAlloc P t = some ox) (hh : semOX ox L env h k = r) (hr : r ≠ .fail) :
    Ok P ρ h w (Instr.alloc t true (.tuple #[])) k r := by
  unfold cAlloc at hc
  split at hc
  · exact cAllocT_ok c hc hh hr
  · exact cAlloc0_ok c hc hh hr
theorem cBuild_ok (c : Cx P ρ ng T L env h w a) {t : TypeId} {ps : Array (Nat × Operand)} {ox : OX} (hc : cBuild P (locOf T ng) t ps.toList = some ox) (hh : semOX ox L env h k = r) (hr : r ≠ .fail) :
    OkP P ρ h w (Instr.build t (ps.map fun (i, x) => (i, a.eval x))) k r := by
  unfold cBuild at hc
  split at hc
  · rename_i tmpl hz
    obtain ⟨z, h1, h2, h3⟩ := zeroL_ok hz
    split at hc
    · rename_i fields ht
      split at hc
      · rename_i pl hpl
        split at hc
        · rename_i m hm
          cases hc
          obtain ⟨l, h4, h5⟩ := c.parts hm (k := fun l => sBuild tmpl.length tmpl l h k) hh hr
          exact sBuild_ok h4 hr c.rh h1 (h2 ρ) h3 rfl ht hpl (vs := ps.map fun (i, x) => (i, a.eval x)) (by rw [Array.toList_map]; exact h5)
        · cases hc
      · cases hc
    · rename_i ht
      split at hc
      · rename_i s hs
        split at hc
        · rename_i m hm
          cases hc
          obtain ⟨l, h4, h5⟩ := c.parts hm (k := fun l => sBuild tmpl.length tmpl l h k) hh hr
          exact sBuildA_ok h4 hr c.rh h1 (h2 ρ) h3 rfl ht hs (vs := ps.map fun (i, x) => (i, a.eval x)) (by rw [Array.toList_map]; exact h5)
        · cases hc
      · cases hc
    · cases hc
  · cases hc
theorem cMake_ok (c : Cx P ρ ng T L env h w a) {t : TypeId} {x y : Operand} {ox : OX} (hc : cMake P (locOf T ng) t x y = some ox) (hh : semOX ox L env h k = r) (hr : r ≠ .fail) :
    Ok P ρ h w (Instr.makeSlice t (a.eval x) (a.eval y)) k r := by
  unfold cMake at hc
  split at hc
  · rename_i e s he
    split at hc
    · rename_i z hz
      obtain ⟨hl, v, u, h1, h2, h3⟩ := c.do2 (f := sMake _ _) hc (fun _ _ => rfl) hh hr
      obtain ⟨zv, h4, h5, h6⟩ := zeroL_ok hz
      exact sMake_ok h1 hr c.rh h2 h3 (chkSl_ok he) h4 (h5 ρ) (by simpa using hl) h6
    · cases hc
  · cases hc
end Go.Ev

/- EVALUATOR, 19: the rest of the operations that neither call nor leave. -/
namespace Go.Ev
variable {P : Program} {ρ : Rho} {h : Heap} {w : World} {k : V → Heap → Res} {r : Res} {ng : Nat} {T : Nat → Option Loc} {L : List V} {env : Env} {a : Act}

theorem VRs.flatten_rep {ρ : Rho} {l : List V} {xs : List Value} (h : VRs ρ l xs) : ∀ n, VRs ρ (List.replicate n l).flatten (List.replicate n xs).flatten
  | 0 => .nil
  | n + 1 => by rw [List.replicate_succ, List.replicate_succ, List.flatten_cons, List.flatten_cons]; exact h.append (flatten_rep h n)
theorem flat_get2 {α : Type} {g : Nat} {z : List α} (hz : z.length = g) : ∀ (n i : Nat), ((List.replicate n z).flatten)[i]? = if i < n * g then z[i % g]? else none
  | 0, i => by simp
  | n + 1, i => by
    rw [List.replicate_succ, List.flatten_cons, List.getElem?_append, flat_get2 hz n, Nat.succ_mul]
    split
    · rename_i h1; rw [if_pos (by omega), Nat.mod_eq_of_lt (by omega)]
    · rename_i h1
      obtain ⟨d, rfl⟩ : ∃ d, i = g + d := ⟨i - g, by omega⟩
      rw [hz, Nat.add_sub_cancel_left, Nat.add_mod_left]
      by_cases h2 : d < n * g
      · rw [if_pos h2, if_pos (by omega)]
      · rw [if_neg h2, if_neg (by omega)]
theorem flat_len {α : Type} (l : List α) (n : Nat) : (List.replicate n l).flatten.length = n * l.length := by
  induction n with
  | zero => simp
  | succ n ih => rw [List.replicate_succ, List.flatten_cons, List.length_append, ih, Nat.succ_mul]; omega
theorem range_cells {z : Array Value} {n s : Nat} (hz : z.size = s) (hs : 0 < s) : ((Array.range (n * s)).map (z[· % z.size]!)).toList = (List.replicate n z.toList).flatten := by
  apply List.ext_getElem?
  intro i
  by_cases hi : i < n * s
  · rw [flat_get2 (g := s) (z := z.toList) (by simpa using hz) n i, if_pos hi]
    have hm : i % s < z.size := by rw [hz]; exact Nat.mod_lt _ hs
    simp [hi, hz, getElem!_pos z (i % s) hm]
  · rw [List.getElem?_eq_none (by simp; omega), List.getElem?_eq_none (by rw [flat_len]; simp [hz]; omega)]

theorem cBuildS_ok (c : Cx P ρ ng T L env h w a) {t : TypeId} {n : Nat} {ps : Array (Nat × Operand)} {ox : OX} (hc : cBuildS P (locOf T ng) t n ps.toList = some ox) (hh : semOX ox L env h k = r)
    (hr : r ≠ .fail) : Ok P ρ h w (Instr.buildSlice t n (ps.map fun (i, x) => (i, a.eval x))) k r := by
  unfold cBuildS at hc
  split at hc
  · rename_i e ht
    split at hc
    · rename_i s z m hs hz hm
      split at hc
      · rename_i hcond
        obtain ⟨h1, h2, h3⟩ := hcond
        cases hc
        obtain ⟨zv, h4, h5, h6⟩ := zeroL_ok hz
        have hzs : zv.cells.size = s := by have := (h5 ρ).length; rw [h3] at this; simpa using this.symm
        obtain ⟨l, h7, h8⟩ := c.parts hm (k := fun l => sBuildS s n (repeatL n z) l h k) hh hr
        have h8 : FillR ρ (fun i => some (i * s, s)) l (ps.toList.map fun (i, x) => (i, a.eval x)) := by
          have e : (fun i => match sz P e with | some s => some (i * s, s) | none => none : Nat → Option (Nat × Nat)) = fun i => some (i * s, s) := by funext i; rw [hs]
          rw [← e]; exact h8
        have hcells : ((Array.range (n * s)).map ((if n * s = 0 then #[] else zv.cells)[· % (if n * s = 0 then #[] else zv.cells).size]!)).toList = (List.replicate n zv.cells.toList).flatten := by
          by_cases h0 : n * s = 0
          · have : n = 0 := by rcases Nat.mul_eq_zero.1 h0 with h | h <;> omega
            subst this; simp
          · simp only [if_neg h0]; exact range_cells hzs h1
        have hv : VRs ρ (repeatL n z) ((Array.range (n * s)).map ((if n * s = 0 then #[] else zv.cells)[· % (if n * s = 0 then #[] else zv.cells).size]!)).toList := by
          rw [hcells]; exact (h5 ρ).flatten_rep n
        have h1' : ∀ y ∈ ((Array.range (n * s)).map ((if n * s = 0 then #[] else zv.cells)[· % (if n * s = 0 then #[] else zv.cells).size]!)).toList, y.oneCell' = true := by
          rw [hcells]
          intro y hy
          obtain ⟨q, hq, hy⟩ := List.mem_flatten.1 hy
          rw [(List.mem_replicate.1 hq).2] at hy
          exact h6 y hy
        have h9 : FillR ρ (fun i => some (i * s, s)) l (ps.map fun (i, x) => (i, a.eval x)).toList := by rw [Array.toList_map]; exact h8
        have h7 : sBuildS s n (repeatL n z) l h k = r := h7
        clear hh hm hcells
        generalize repeatL n z = tmpl at *
        exact sBuildS_ok h7 hr c.rh ht hs h1 h2 (fun _ => h4) hv h1' h9
      · cases hc
    · cases hc
  · cases hc

theorem sNil_ok {x : V} (hh : sNil x h k = r) (hr : r ≠ .fail) {v : Value} (hv : VR ρ x v) : ∃ u ad, k u h = r ∧ v = .pointer (some ad) ∧ VR ρ u v := by
  obtain ⟨b, o, rfl, h1⟩ := ptrk_ok hh hr
  obtain ⟨c, z, S, hb, rfl⟩ := hv.ptr_inv
  exact ⟨_, _, h1, rfl, .ptr hb⟩
theorem sMM_ok {mx : Bool} {x y : V} (hh : sMM mx x y h k = r) (hr : r ≠ .fail) {v u : Value} (hv : VR ρ x v) (hu : VR ρ y u) :
    ∃ z : V, ∃ kx p q, k z h = r ∧ v = .int kx p ∧ u = .int kx q ∧ z = .int kx (if (if mx then p < q else q < p) then q else p) := by
  obtain ⟨kx, p, q, rfl, rfl, h1⟩ := int2_ok (G := fun kx a b => ifk (Bool.rec (motive := fun _ => Bool) (ilt b a) (ilt a b) mx) (k (.int kx b) h) (k (.int kx a) h)) hh hr
  refine ⟨_, kx, p, q, ?_, hv.int_inv, hu.int_inv, rfl⟩
  rw [ifk_eq] at h1
  rw [← h1]
  cases mx <;> simp only [ilt_eq, Bool.false_eq_true, if_false, if_true] <;> simp only [decide_eq_true_eq] <;> split <;> rfl

theorem slice_desc {t e : TypeId} (h : P.underlying t = some (.slice e)) : ∃ d, P.underlying t = some d ∧ (d matches .int _) = false := ⟨_, h, rfl⟩
theorem SrcR.lens {sz0 n : Nat} {y : Value} {l : List V} {xs : List Value} (s : SrcR P ρ w sz0 y n l xs) : ∃ m, (Builtin.lenOf y).run P w = .ok m w := ⟨_, s.len⟩

/-- what an operation comes to; and that it changes nothing, where it is a light one -/
def Both (P : Program) (ρ : Rho) (h : Heap) (w : World) (ox : OX) (s : Sem Next) (k : V → Heap → Res) (r : Res) : Prop := (ox.light = true → OkPN P ρ h w s k r) ∧ OkN P ρ h w s k r
theorem OkPN.both {ox : OX} {s : Sem Next} (h1 : OkPN P ρ h w s k r) (rh : RH P ρ h w) : Both P ρ h w ox s k r := ⟨fun _ => h1, .pure rh h1⟩
theorem OkN.both {ox : OX} {s : Sem Next} (h1 : OkN P ρ h w s k r) (hl : ox.light = false) : Both P ρ h w ox s k r := ⟨fun e => (by rw [hl] at e; cases e), h1⟩
theorem one_light {f : Operand → Option Loc} {c : Bool} {mk : Loc → OX} {x : Operand} {ox : OX} (h : one f c mk x = some ox) (hm : ∀ l, (mk l).light = false) : ox.light = false := by
  obtain ⟨_, l, _, rfl⟩ := one_inv h; exact hm l
theorem two_light {f : Operand → Option Loc} {c : Bool} {mk : Loc → Loc → OX} {x y : Operand} {ox : OX} (h : two f c mk x y = some ox) (hm : ∀ l m, (mk l m).light = false) : ox.light = false := by
  obtain ⟨_, l, m, _, _, rfl⟩ := two_inv h; exact hm l m
theorem VRs.one {ρ : Rho} {l : List V} {x : Value} (h : VRs ρ l [x]) : ∃ v, l = [v] ∧ VR ρ v x := by
  cases h with
  | cons h1 h2 => cases h2; exact ⟨_, rfl, h1⟩
theorem VRs.two {ρ : Rho} {l : List V} {x y : Value} (h : VRs ρ l [x, y]) : ∃ v u, l = [v, u] ∧ VR ρ v x ∧ VR ρ u y := by
  cases h with
  | cons h1 h2 =>
    obtain ⟨u, rfl, h3⟩ := h2.one
    exact ⟨_, _, rfl, h1, h3⟩
theorem VRs.three {ρ : Rho} {l : List V} {x y z : Value} (h : VRs ρ l [x, y, z]) : ∃ v u t, l = [v, u, t] ∧ VR ρ v x ∧ VR ρ u y ∧ VR ρ t z := by
  cases h with
  | cons h1 h2 =>
    obtain ⟨u, t, rfl, h3, h4⟩ := h2.two
    exact ⟨_, _, _, rfl, h1, h3, h4⟩
theorem map1 (f : Operand → Value) (x : Operand) : Array.map f (Array.mk [x]) = #[f x] := by simp
theorem map2 (f : Operand → Value) (x y : Operand) : Array.map f (Array.mk [x, y]) = #[f x, f y] := by simp

theorem cBuiltin_ok (c : Cx P ρ ng T L env h w a) {b : Builtin} {args : Array Operand} {ts : Array TypeId} {ox : OX} (hc : cBuiltin P (locOf T ng) b args.toList ts = some ox) (u : TypeId)
    (cs : Array Bool) (hh : semOX ox L env h k = r) (hr : r ≠ .fail) : Both P ρ h w ox (builtin b ts u cs (args.map a.eval)) k r := by
  obtain ⟨args⟩ := args
  unfold cBuiltin at hc
  split at hc
  · rename_i x hx
    cases hx
    rw [map1]
    split at hc
    · rename_i t ht
      split at hc
      · rename_i hu
        obtain ⟨_, v, h1, h2⟩ := c.do1 (f := sLenS) hc (fun _ => rfl) hh hr
        exact (sLenS_ok h1 hr c.rh h2 ht hu).next.both c.rh
      · rename_i hu
        obtain ⟨_, v, h1, h2⟩ := c.do1 (f := sLen) hc (fun _ => rfl) hh hr
        exact (sLen_ok h1 hr c.rh h2 ht hu).next.both c.rh
      · rename_i hu
        obtain ⟨ls, e1, rfl⟩ := Option.map_eq_some_iff.1 hc
        obtain ⟨l, h1, h2⟩ := c.locs e1 (k := fun l => semEX .lenM l h k) hh hr
        obtain ⟨v, rfl, h3⟩ := h2.one
        have h1 : sLenM v h k = r := h1
        exact (sLenM_ok h1 hr c.rh h3 ht hu).next.both c.rh
      · cases hc
    · cases hc
  · rename_i x hx
    cases hx
    rw [map1]
    split at hc
    · rename_i t ht
      split at hc
      · rename_i hu
        obtain ⟨ls, e1, rfl⟩ := Option.map_eq_some_iff.1 hc
        obtain ⟨l, h1, h2⟩ := c.locs e1 (k := fun l => semEX .capS l h k) hh hr
        obtain ⟨v, rfl, h3⟩ := h2.one
        have h1 : sCapS v h k = r := h1
        exact (sCapS_ok h1 hr h3 ht hu).next.both c.rh
      · cases hc
    · cases hc
  · rename_i x y hx
    cases hx
    rw [map2]
    split at hc
    · rename_i t ht
      split at hc
      · rename_i hu
        obtain ⟨s, es, hc⟩ := Option.bind_eq_some_iff.1 hc
        obtain ⟨d, hd1, hd2⟩ := keyKind_ok es
        obtain ⟨ls, e1, rfl⟩ := Option.map_eq_some_iff.1 hc
        obtain ⟨l, h1, h2⟩ := c.locs e1 (k := fun l => semEX (.del s) l h k) hh hr
        obtain ⟨v, u', rfl, h3, h4⟩ := h2.two
        have h1 : sDel s v u' h k = r := h1
        exact (sDel_ok h1 hr c.rh h3 h4 ht hu hd1 hd2).next.both rfl
      · cases hc
    · cases hc
  · rename_i x y hx
    cases hx
    rw [map2]
    split at hc
    · rename_i t1 t2 ht1 ht2
      split at hc
      · rename_i e s d he hu
        obtain ⟨_, v, v', h1, h2, h3⟩ := c.do2 (f := fun v u h k => srck s u h fun m new => appendk s v m new h k) hc (fun _ _ => rfl) hh hr
        obtain ⟨n, l, xs, h4, h5⟩ := srck_ok (P := P) (k := fun m new => appendk s v m new h k) h1 hr c.rh h3
        exact (appendk_ok h4 hr c.rh h2 (h5.h ht2 hu rfl) ⟨chkSl_ok he, ht1⟩).next.both (two_light hc fun _ _ => rfl)
      · rename_i e he hu
        obtain ⟨_, v, v', h1, h2, h3⟩ := c.do2 (f := fun v u h k => srcSk u fun m new => appendk 1 v m new h k) hc (fun _ _ => rfl) hh hr
        obtain ⟨n, l, xs, h4, h5⟩ := srcSk_ok (P := P) (w := w) (k := fun m new => appendk 1 v m new h k) h1 hr h3
        exact (appendk_ok h4 hr c.rh h2 (h5.h ht2 hu rfl) ⟨chkSl_ok he, ht1⟩).next.both (two_light hc fun _ _ => rfl)
      · rename_i e s kd he hu
        split at hc
        · rename_i z hz
          obtain ⟨hl, v, v', h1, h2, h3⟩ := c.do2 (f := sAppZ s z) hc (fun _ _ => rfl) hh hr
          obtain ⟨zv, g1, g2, g3⟩ := zeroL_ok hz
          exact (sAppZ_ok h1 hr c.rh h2 h3 ⟨chkSl_ok he, ht1⟩ ht2 hu g1 g2 (by simpa using hl) g3).next.both (two_light hc fun _ _ => rfl)
        · cases hc
      · cases hc
    · cases hc
  · rename_i x y hx
    cases hx
    rw [map2]
    split at hc
    · rename_i t1 t2 ht1 ht2
      split at hc
      · rename_i e1 e2 hu1 hu2
        split at hc
        · rename_i s hs
          obtain ⟨_, v, v', h1, h2, h3⟩ := c.do2 (f := sCopy s) hc (fun _ _ => rfl) hh hr
          obtain ⟨h1, h4, h5⟩ : copyk s v h (fun d k => srcTk s d v' h k) k = r ∧ (∃ m, (Builtin.lenOf (a.eval y)).run P w = .ok m w) ∧ (Builtin.firstCells s 0 (a.eval y)).run P w = .ok #[] w := by
            rcases slk_ok h1 hr with ⟨b, o, l, cp, s', rfl, h1⟩ | ⟨rfl, h1⟩ | ⟨rfl, h1⟩
            · obtain ⟨c, z, S, cap, hb, _, _, _, e⟩ := h3.slice_inv
              rw [e]
              exact ⟨h1, ⟨_, rfl⟩, by show (loadCells _ (0 * s)).run P _ = _; rw [Nat.zero_mul]; rfl⟩
            · rw [h3.nils_inv]
              exact ⟨h1, ⟨_, rfl⟩, rfl⟩
            · generalize a.eval y = yv at h3
              cases h3
              exact ⟨h1, ⟨_, rfl⟩, by show (loadCells _ (0 * s)).run P _ = _; rw [Nat.zero_mul]; rfl⟩
          exact (copyk_ok h1 hr c.rh h2 (fun d k r h4 h5 => srcTk_ok h4 h5 c.rh h3) h4 h5 ht1 hu1 hs).next.both (two_light hc fun _ _ => rfl)
        · cases hc
      · rename_i e1 hu1 hu2
        obtain ⟨hs, v, v', h1, h2, h3⟩ := c.do2 (f := fun v u h k => strk u fun _ _ => copyk 1 v h (fun d k => srcTSk d u k) k) hc (fun _ _ => rfl) hh hr
        obtain ⟨l0, n0, rfl, h1⟩ := strk_ok h1 hr
        obtain ⟨s0, e0, e1, e2⟩ := h3.str_inv
        exact (copyk_ok h1 hr c.rh h2 (fun d k r h4 h5 => srcTSk_ok h4 h5 h3) (by rw [e0]; exact ⟨_, rfl⟩) (by rw [e0]; simp [Builtin.firstCells]) ht1 hu1 (by simpa using hs)).next.both (two_light hc fun _ _ => rfl)
      · cases hc
    · cases hc
  · rename_i x y hx
    cases hx
    rw [map2]
    obtain ⟨_, v, v', h1, h2, h3⟩ := c.do2 (f := sMM false) hc (fun _ _ => rfl) hh hr
    obtain ⟨z, kx, p, q, h4, h5, h6, rfl⟩ := sMM_ok h1 hr h2 h3
    refine OkPN.both (OkP.next ⟨_, _, h4, ?_, .int _ _⟩) c.rh
    simp [Builtin.min_, Builtin.min2, h5, h6]
  · rename_i x y hx
    cases hx
    rw [map2]
    obtain ⟨_, v, v', h1, h2, h3⟩ := c.do2 (f := sMM true) hc (fun _ _ => rfl) hh hr
    obtain ⟨z, kx, p, q, h4, h5, h6, rfl⟩ := sMM_ok h1 hr h2 h3
    refine OkPN.both (OkP.next ⟨_, _, h4, ?_, .int _ _⟩) c.rh
    simp [Builtin.max_, Builtin.max2, h5, h6]
  · cases hc
theorem cBuiltinP_ok (c : Cx P ρ ng T L env h w a) {pos : String} {b : Builtin} {args : Array Operand} {ts : Array TypeId} {ox : OX} (hc : cBuiltinP P (locOf T ng) pos b args.toList ts = some ox) (u : TypeId)
    (cs : Array Bool) (hh : semOX ox L env h k = r) (hr : r ≠ .fail) : Both P ρ h w ox (builtin b ts u cs (args.map a.eval)) k r := by
  unfold cBuiltinP at hc
  split at hc
  · split at hc
    · obtain ⟨args⟩ := args
      unfold cAppB at hc
      split at hc
      · rename_i x y hx
        simp only at hx
        subst hx
        rw [map2]
        split at hc
        · rename_i t1 t2 ht1 ht2
          split at hc
          · rename_i e d he hu
            obtain ⟨ls, e1, rfl⟩ := Option.map_eq_some_iff.1 hc
            obtain ⟨l, h1, h2⟩ := c.locs e1 (k := fun l => semEX (.appB false e) l h k) hh hr
            obtain ⟨v, v', rfl, h3, h4⟩ := h2.two
            have h1 : sAppB false e v v' h k = r := h1
            exact (sAppB_ok h1 hr c.rh h3 h4 ⟨chkSl_ok he, ht1⟩ ht2 hu rfl).next.both rfl
          · rename_i e he hu
            obtain ⟨ls, e1, rfl⟩ := Option.map_eq_some_iff.1 hc
            obtain ⟨l, h1, h2⟩ := c.locs e1 (k := fun l => semEX (.appB true e) l h k) hh hr
            obtain ⟨v, v', rfl, h3, h4⟩ := h2.two
            have h1 : sAppB true e v v' h k = r := h1
            exact (sAppB_ok h1 hr c.rh h3 h4 ⟨chkSl_ok he, ht1⟩ ht2 hu rfl).next.both rfl
          · cases hc
        · cases hc
      · cases hc
    · exact cBuiltin_ok c hc u cs hh hr
  · obtain ⟨args⟩ := args
    unfold cUns at hc
    split at hc
    · rename_i x hb hx
      simp only at hx
      subst hx
      rw [map1]
      obtain ⟨ls, e1, rfl⟩ := Option.map_eq_some_iff.1 hc
      obtain ⟨l, h1, h2⟩ := c.locs e1 (k := fun l => semEX .usd l h k) hh hr
      obtain ⟨v, rfl, h3⟩ := h2.one
      have h1 : sUsd v h k = r := h1
      exact (sUsd_ok h1 hr h3).next.both c.rh
    · rename_i hb _; cases hb
    · cases hc
  · obtain ⟨args⟩ := args
    unfold cUns at hc
    split at hc
    · rename_i hb _; cases hb
    · rename_i x y hb hx
      simp only at hx
      subst hx
      rw [map2]
      split at hc
      · rename_i pt it hts
        obtain ⟨ts⟩ := ts
        simp only at hts
        subst hts
        split at hc
        · rename_i e hp
          split at hc
          · rename_i h1e
            obtain ⟨ls, e1, rfl⟩ := Option.map_eq_some_iff.1 hc
            obtain ⟨l, h1, h2⟩ := c.locs e1 (k := fun l => semEX (.ustr e) l h k) hh hr
            obtain ⟨v, v', rfl, h3, h4⟩ := h2.two
            have h1 : sUstr e v v' h k = r := h1
            exact (sUstr_ok h1 hr c.rh h3 h4 hp (by simpa using h1e)).next.both rfl
          · cases hc
        · cases hc
      · cases hc
    · cases hc
  · exact cBuiltin_ok c hc u cs hh hr
end Go.Ev

/- EVALUATOR, 20: every operation that is prepared as OX is what the model runs. -/
namespace Go.Ev
variable {P : Program} {ρ : Rho} {h : Heap} {w : World} {k : V → Heap → Res} {r : Res} {ng : Nat} {T : Nat → Option Loc} {L : List V} {env : Env} {a : Act}

theorem cAlloc_light {t : TypeId} {ox : OX} (h : cAlloc P t = some ox) : ox.light = false := by
  unfold cAlloc at h
  split at h
  · unfold cAllocT at h
    split at h
    · split at h
      · cases h; rfl
      · cases h
    · cases h
  · simp only [cAlloc0] at h
    split at h
    · split at h
      · cases h; rfl
      · cases h
    · cases h
theorem cBuildS_light {f : Operand → Option Loc} {t : TypeId} {n : Nat} {ps : List (Nat × Operand)} {ox : OX} (h : cBuildS P f t n ps = some ox) : ox.light = false := by
  unfold cBuildS at h
  split at h
  · split at h
    · split at h
      · cases h; rfl
      · cases h
    · cases h
  · cases h
theorem cMake_light {f : Operand → Option Loc} {t : TypeId} {x y : Operand} {ox : OX} (h : cMake P f t x y = some ox) : ox.light = false := by
  unfold cMake at h
  split at h
  · split at h
    · exact two_light h fun _ _ => rfl
    · cases h
  · cases h

theorem unc1_ok {l : List V} {f : V → Res} {r : Res} (h : unc l (fun v l => nilk' l (f v)) = r) (hr : r ≠ .fail) : ∃ v, l = [v] ∧ f v = r := by
  obtain ⟨v, m, rfl, h1⟩ := unc_ok h hr
  obtain ⟨rfl, h2⟩ := nilk'_ok h1 hr
  exact ⟨v, rfl, h2⟩
theorem cUpd_ok (c : Cx P ρ ng T L env h w a) {t : TypeId} {m q x : Operand} {ox : OX} (hc : cUpd P (locOf T ng) t m q x = some ox) (hh : semOX ox L env h k = r) (hr : r ≠ .fail) :
    Both P ρ h w ox (do Instr.mapUpdate t (a.eval m) (a.eval q) (a.eval x); Pure.pure .skip) k r := by
  unfold cUpd at hc
  split at hc
  · rename_i ht
    obtain ⟨s, es, hc⟩ := Option.bind_eq_some_iff.1 hc
    obtain ⟨d, hd1, hd2⟩ := keyKind_ok es
    obtain ⟨ls, e1, rfl⟩ := Option.map_eq_some_iff.1 hc
    obtain ⟨l, h1, h2⟩ := c.locs e1 (k := fun l => semEX (.upd s) l h k) hh hr
    obtain ⟨v, u, x', rfl, h3, h4, h5⟩ := h2.three
    have h1 : sUpd s v u x' h k = r := h1
    exact (sUpd_ok h1 hr c.rh h3 h4 h5 ht hd1 hd2).next.both rfl
  · cases hc
theorem cEX_ok (c : Cx P ρ ng T L env h w a) {o : Oper} {ox : OX} (hc : cEX P (locOf T ng) o.op = some ox) (hh : semOX ox L env h k = r) (hr : r ≠ .fail) : Both P ρ h w ox (execOp a.eval o) k r := by
  obtain ⟨dst, op, type, pos, after, guard⟩ := o
  simp only at hc
  unfold cEX at hc
  split at hc
  · rename_i t x
    split at hc
    · rename_i ht
      obtain ⟨ls, e1, rfl⟩ := Option.map_eq_some_iff.1 hc
      obtain ⟨l, h1, h2⟩ := c.locs e1 (k := fun l => semEX .rngS l h k) hh hr
      obtain ⟨v, rfl, h3⟩ := h2.one
      have h1 : sRngS v h k = r := h1
      exact (sRngS_ok h1 hr c.rh h3 ht).next.both rfl
    · rename_i ht
      obtain ⟨ls, e1, rfl⟩ := Option.map_eq_some_iff.1 hc
      obtain ⟨l, h1, h2⟩ := c.locs e1 (k := fun l => semEX .rngM l h k) hh hr
      obtain ⟨v, rfl, h3⟩ := h2.one
      have h1 : sRngM v h k = r := h1
      exact (sRngM_ok h1 hr c.rh h3 ht).next.both rfl
    · cases hc
  · rename_i x isS
    split at hc
    · rename_i ht
      subst ht
      obtain ⟨ls, e1, rfl⟩ := Option.map_eq_some_iff.1 hc
      obtain ⟨l, h1, h2⟩ := c.locs e1 (k := fun l => semEX .nxtS l h k) hh hr
      obtain ⟨v, rfl, h3⟩ := h2.one
      have h1 : sNxtS v h k = r := h1
      exact (sNxtS_ok h1 hr c.rh h3 type).next.both rfl
    · rename_i ht
      obtain rfl : isS = false := by simpa using ht
      obtain ⟨ls, e1, rfl⟩ := Option.map_eq_some_iff.1 hc
      obtain ⟨l, h1, h2⟩ := c.locs e1 (k := fun l => semEX .nxtM l h k) hh hr
      obtain ⟨v, rfl, h3⟩ := h2.one
      have h1 : sNxtM v h k = r := h1
      exact (sNxtM_ok h1 hr c.rh h3 type).next.both rfl
  · rename_i x
    obtain ⟨ls, e1, rfl⟩ := Option.map_eq_some_iff.1 hc
    obtain ⟨l, h1, h2⟩ := c.locs e1 (k := fun l => semEX .entM l h k) hh hr
    obtain ⟨v, rfl, h3⟩ := h2.one
    have h1 : sEntM v h k = r := h1
    exact (sEntM_ok h1 hr c.rh h3).next.both c.rh
  · rename_i t q
    split at hc
    · rename_i ht
      obtain ⟨ls, e1, rfl⟩ := Option.map_eq_some_iff.1 hc
      obtain ⟨l, h1, h2⟩ := c.locs e1 (k := fun l => semEX .mkm l h k) hh hr
      have h1 : sMkM l h k = r := h1
      have h2 : VRs ρ l (q.map a.eval).toList := by cases q <;> exact h2
      exact (sMkM_ok h1 hr c.rh h2 ht).next.both rfl
    · cases hc
  · rename_i t x i ok
    split at hc
    · rename_i kt et ht
      obtain ⟨s, es, hc⟩ := Option.bind_eq_some_iff.1 hc
      obtain ⟨d, hd1, hd2⟩ := keyKind_ok es
      obtain ⟨z, ez, hc⟩ := Option.bind_eq_some_iff.1 hc
      obtain ⟨ls, e1, rfl⟩ := Option.map_eq_some_iff.1 hc
      obtain ⟨l, h1, h2⟩ := c.locs e1 (k := fun l => semEX (.look s ok z) l h k) hh hr
      obtain ⟨v, u, rfl, h3, h4⟩ := h2.two
      have h1 : sLook s ok z v u h k = r := h1
      exact (sLook_ok h1 hr c.rh h3 h4 ht hd1 hd2 (zeroV_ok ez)).next.both c.rh
    · cases hc
  · exact cUpd_ok c hc hh hr
  · exact cUpd_ok c hc hh hr
  · rename_i x xt t ok
    split at hc
    · rename_i d ht
      split at hc
      · rename_i hd
        split at hc
        · rename_i hok
          subst hok
          obtain ⟨z, ez, hc⟩ := Option.bind_eq_some_iff.1 hc
          obtain ⟨ls, e1, rfl⟩ := Option.map_eq_some_iff.1 hc
          obtain ⟨l, h1, h2⟩ := c.locs e1 (k := fun l => semEX (.tas t true z) l h k) hh hr
          obtain ⟨v, rfl, h3⟩ := h2.one
          have h1 : sTas t true z v h k = r := h1
          exact (sTas_ok h1 hr h3 ht hd fun _ => zeroV_ok ez).next.both c.rh
        · rename_i hok
          obtain rfl : ok = false := by simpa using hok
          obtain ⟨ls, e1, rfl⟩ := Option.map_eq_some_iff.1 hc
          obtain ⟨l, h1, h2⟩ := c.locs e1 (k := fun l => semEX (.tas t false .und) l h k) hh hr
          obtain ⟨v, rfl, h3⟩ := h2.one
          have h1 : sTas t false .und v h k = r := h1
          exact (sTas_ok h1 hr h3 ht hd fun e => by cases e).next.both c.rh
      · cases hc
    · cases hc
  · rename_i g args ts
    split at hc
    · rename_i x y hx
      obtain ⟨args⟩ := args
      simp only at hx
      subst hx
      have run : execOp a.eval ⟨dst, .call { callee := .value (.func g), args := ⟨[x, y]⟩, argTypes := ts }, type, pos, after, guard⟩ = callFunc g #[a.eval x, a.eval y] := by
        simp only [execOp, resolve, Act.eval, Deferred.ofValue, invoke]
        rw [map2]
        rfl
      rw [run]
      split at hc
      · rename_i hg
        obtain ⟨ls, e1, rfl⟩ := Option.map_eq_some_iff.1 hc
        obtain ⟨l, h1, h2⟩ := c.locs e1 (k := fun l => semEX .idxb l h k) hh hr
        obtain ⟨v, u, rfl, h3, h4⟩ := h2.two
        have h1 : sIdxB v u h k = r := h1
        exact OkPN.both (sIdxB_ok h1 hr h3 h4 hg) c.rh
      · split at hc
        · rename_i hg
          obtain ⟨ls, e1, rfl⟩ := Option.map_eq_some_iff.1 hc
          obtain ⟨l, h1, h2⟩ := c.locs e1 (k := fun l => semEX .cmps l h k) hh hr
          obtain ⟨v, u, rfl, h3, h4⟩ := h2.two
          have h1 : sCmpS v u h k = r := h1
          exact OkPN.both (sCmpS_ok h1 hr h3 h4 hg) c.rh
        · cases hc
    · rename_i x hx
      obtain ⟨args⟩ := args
      simp only at hx
      subst hx
      have run : execOp a.eval ⟨dst, .call { callee := .value (.func g), args := ⟨[x]⟩, argTypes := ts }, type, pos, after, guard⟩ = callFunc g #[a.eval x] := by
        simp only [execOp, resolve, Act.eval, Deferred.ofValue, invoke]
        rw [map1]
        rfl
      rw [run]
      split at hc
      · rename_i hg
        obtain ⟨ls, e1, rfl⟩ := Option.map_eq_some_iff.1 hc
        obtain ⟨l, h1, h2⟩ := c.locs e1 (k := fun l => semEX .cloneM l h k) hh hr
        obtain ⟨v, rfl, h3⟩ := h2.one
        have h1 : sCloneM v h k = r := h1
        obtain ⟨u, h', ρ', y, w', k1, k2, k3, k4, k5⟩ := sCloneM_ok h1 hr c.rh h3 hg
        exact OkN.both ⟨u, h', ρ', y, w', k1, .inl k2, k3, k4, k5⟩ rfl
      · split at hc
        · rename_i hg
          obtain ⟨ls, e1, rfl⟩ := Option.map_eq_some_iff.1 hc
          obtain ⟨l, h1, h2⟩ := c.locs e1 (k := fun l => semEX .same l h k) hh hr
          obtain ⟨v, rfl, h3⟩ := h2.one
          have h1 : sSame v h k = r := h1
          exact OkPN.both (sSame_ok h1 h3 hg) c.rh
        · cases hc
    · cases hc
  · cases hc
theorem cOX_ok (c : Cx P ρ ng T L env h w a) {o : Oper} {ox : OX} (hc : cOX P (locOf T ng) o.pos o.op = some ox) (hh : semOX ox L env h k = r) (hr : r ≠ .fail) : Both P ρ h w ox (execOp a.eval o) k r := by
  obtain ⟨dst, op, type, pos, after, guard⟩ := o
  simp only at hc
  unfold cOX at hc
  split at hc
  · obtain ⟨_, v, h1, h2⟩ := c.do1 (f := fun v h k => k v h) hc (fun _ => rfl) hh hr
    refine OkPN.both ⟨_, _, h1, rfl, h2⟩ c.rh
  · obtain ⟨_, v, h1, h2⟩ := c.do1 (f := fun v h k => k v h) hc (fun _ => rfl) hh hr
    refine OkPN.both ⟨_, _, h1, rfl, h2⟩ c.rh
  · rename_i x y z
    obtain ⟨lc, e1, hc⟩ := Option.bind_eq_some_iff.1 hc
    obtain ⟨la, e2, hc⟩ := Option.bind_eq_some_iff.1 hc
    obtain ⟨lb, e3, rfl⟩ := Option.map_eq_some_iff.1 hc
    obtain ⟨v, h1, h2⟩ := c.loc e1 (k := fun v => boolk v fun t => getk la L env fun u => getk lb L env fun u' => k (pickv t u u') h) hh hr
    obtain ⟨b, rfl, h1⟩ := boolk_ok h1 hr
    generalize hx : a.eval x = xv at h2
    cases h2
    obtain ⟨u, h3, h4⟩ := c.loc e2 (k := fun u => getk lb L env fun u' => k (pickv b u u') h) h1 hr
    obtain ⟨u', h5, h6⟩ := c.loc e3 (k := fun u' => k (pickv b u u') h) h3 hr
    cases b with
    | true => exact OkPN.both ⟨_, _, h5, by simp [execOp, hx, asBool], h4⟩ c.rh
    | false => exact OkPN.both ⟨_, _, h5, by simp [execOp, hx, asBool], h6⟩ c.rh
  · exact (cAlloc_ok c hc hh hr).next.both (cAlloc_light hc)
  · obtain ⟨_, v, h1, h2⟩ := c.do1 (f := sBox) hc (fun _ => rfl) hh hr
    exact (sBox_ok h1 hr c.rh h2 _).next.both (one_light hc fun _ => rfl)
  · exact (cBuild_ok c hc hh hr).next.both c.rh
  · exact (cBuildS_ok c hc hh hr).next.both (cBuildS_light hc)
  · split at hc
    · rename_i hs
      obtain ⟨_, v, h1, h2⟩ := c.do1 (f := sLoad1) hc (fun _ => rfl) hh hr
      exact (sLoad1_ok h1 hr c.rh h2 hs).next.both c.rh
    · split at hc
      · rename_i hs
        split at hc
        · rename_i n hn
          obtain ⟨_, v, h1, h2⟩ := c.do1 (f := sLoadN n) hc (fun _ => rfl) hh hr
          exact (sLoadN_ok h1 hr c.rh h2 hs hn).next.both c.rh
        · cases hc
      · cases hc
  · split at hc
    · rename_i n hn
      split at hc
      · obtain ⟨h0, v, u, h1, h2, h3⟩ := c.do2 (f := sStore1) hc (fun _ _ => rfl) hh hr
        have : n = 1 := by simpa using h0
        subst this
        exact (sStore1_ok h1 hr c.rh h2 h3 hn).next.both (two_light hc fun _ _ => rfl)
      · obtain ⟨_, v, u, h1, h2, h3⟩ := c.do2 (f := sStoreN n) hc (fun _ _ => rfl) hh hr
        exact (sStoreN_ok h1 hr c.rh h2 h3 hn).next.both (two_light hc fun _ _ => rfl)
    · cases hc
  · rename_i x
    obtain ⟨_, v, h1, h2⟩ := c.do1 (f := sNil) hc (fun _ => rfl) hh hr
    obtain ⟨u, ad, h3, h4, h5⟩ := sNil_ok h1 hr h2
    refine OkPN.both ⟨_, .pointer (some ad), h3, by simp [execOp, h4], by rw [h4] at h5; exact h5⟩ c.rh
  · exact (cBin_ok c hc hh hr).both c.rh
  · obtain ⟨_, v, h1, h2⟩ := c.do1 (f := sNeg) hc (fun _ => rfl) hh hr
    exact (sNeg_ok h1 hr c.rh h2).next.both c.rh
  · obtain ⟨_, v, h1, h2⟩ := c.do1 (f := sNot) hc (fun _ => rfl) hh hr
    exact (sNot_ok h1 hr c.rh h2).next.both c.rh
  · obtain ⟨_, v, h1, h2⟩ := c.do1 (f := sCom) hc (fun _ => rfl) hh hr
    exact (sCom_ok h1 hr c.rh h2).next.both c.rh
  · rename_i s d x
    split at hc
    case h_2 =>
      unfold cUp at hc
      split at hc
      · rename_i t hs hd
        split at hc
        · rename_i n hn
          split at hc
          · rename_i h0
            obtain ⟨ls, e1, rfl⟩ := Option.map_eq_some_iff.1 hc
            obtain ⟨l, h1, h2⟩ := c.locs e1 (k := fun l => semEX .toU l h k) hh hr
            obtain ⟨v, rfl, h3⟩ := h2.one
            have h1 : sToU v h k = r := h1
            exact (sToU_ok h1 hr c.rh h3 hs hd hn (by simpa using h0)).next.both c.rh
          · cases hc
        · cases hc
      · rename_i t hs hd
        split at hc
        · rename_i n hn
          obtain ⟨ls, e1, rfl⟩ := Option.map_eq_some_iff.1 hc
          obtain ⟨l, h1, h2⟩ := c.locs e1 (k := fun l => semEX (.fromU (nearT P t)) l h k) hh hr
          obtain ⟨v, rfl, h3⟩ := h2.one
          have h1 : sFromU (nearT P t) v h k = r := h1
          refine (sFromU_ok h1 hr c.rh h3 hs hd hn fun e he => ?_).next.both c.rh
          have := (List.mem_filter.1 he).2
          simp only [Bool.and_eq_true] at this
          exact this.2
        · cases hc
      · rename_i e hs hd
        split at hc
        · rename_i he
          obtain ⟨ls, e1, rfl⟩ := Option.map_eq_some_iff.1 hc
          obtain ⟨l, h1, h2⟩ := c.locs e1 (k := fun l => semEX .s2b l h k) hh hr
          obtain ⟨v, rfl, h3⟩ := h2.one
          have h1 : sS2B v h k = r := h1
          exact (sS2B_ok h1 hr c.rh h3 hs hd he).next.both rfl
        · cases hc
      · cases hc
    rename_i o2 hc2
    cases hc
    replace hc := hc2
    unfold cConvM at hc
    split at hc
    · rename_i o ho
      cases hc
      exact (cConv_ok c ho hh hr).next.both c.rh
    · unfold cMark at hc
      split at hc
      · rename_i hsd
        subst hsd
        split at hc
        · rename_i hs
          split at hc
          · rename_i he
            obtain ⟨_, v, h1, h2⟩ := c.do1 (f := sMark) hc (fun _ => rfl) hh hr
            exact (sMark_ok h1 hr c.rh h2 hs he).next.both (one_light hc fun _ => rfl)
          · cases hc
        · cases hc
      · cases hc
  · rename_i t x
    split at hc
    · cases hc
    · cases hc
    · rename_i d hd1 hd
      obtain ⟨_, v, h1, h2⟩ := c.do1 (f := fun v h k => k (.iface t v) h) hc (fun _ => rfl) hh hr
      refine OkPN.both ⟨_, .iface t (a.eval x), h1, ?_, .iface h2⟩ c.rh
      simp only [execOp, Sem.run_bind, Instr.makeInterface, run_und hd, Result.andThen_ok]
      cases d <;> first | rfl | exact absurd hd (hd1 _)
  · rename_i f first cap
    split at hc
    · rename_i hf
      obtain ⟨ls, e1, rfl⟩ := Option.map_eq_some_iff.1 hc
      obtain ⟨l, h1, h2⟩ := c.locs e1 (k := fun l => k (.func (f + 65536 * first.size) l) h) hh hr
      refine OkPN.both ⟨_, .func (.func f) (first.map a.eval) (cap.map a.eval), h1, by simp [execOp, Instr.makeFunc], .func (k := first.size) hf.1 (by simp) (by simpa using hf.2) rfl ?_⟩ c.rh
      rw [Array.toList_map, Array.toList_map, ← List.map_append]; exact h2
    · cases hc
  · exact (cMake_ok c hc hh hr).next.both (cMake_light hc)
  · exact (cSlice_ok c hc hh hr).next.both c.rh
  · exact (cFaddr_ok c hc hh hr).next.both c.rh
  · exact (cField_ok c hc hh hr).next.both c.rh
  · exact (cIaddr_ok c hc hh hr).next.both c.rh
  · exact (cIndex_ok c hc hh hr).next.both c.rh
  · obtain ⟨_, v, h1, h2⟩ := c.do1 (f := sExtract _) hc (fun _ => rfl) hh hr
    exact (sExtract_ok h1 hr c.rh h2).next.both c.rh
  · exact cBuiltinP_ok c hc type _ hh hr
  · exact cEX_ok c (o := ⟨dst, op, type, pos, after, guard⟩) hc hh hr
end Go.Ev
