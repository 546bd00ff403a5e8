/- EVALUATOR, 18: an operation as it is prepared, and the model's own. -/
import Derived.Test.YtjppnjhchojldaaEvSem
namespace Go.Ev
variable {P : Program} {ρ : Rho} {h : Heap} {w : World} {k : V → Heap → Res} {r : Res} {ng : Nat} {T : Nat → Option Loc} {L : List V} {env : Env} {a : Act}

/-- what an operation comes to -/
def OkN (P : Program) (ρ : Rho) (h : Heap) (w : World) (s : Sem Next) (k : V → Heap → Res) (r : Res) : Prop :=
  ∃ u h' ρ' y w', k u h' = r ∧ (s.run P w = .ok (.value y) w' ∨ (s.run P w = .ok .skip w' ∧ y = Go.undef)) ∧ VR ρ' u y ∧ RH ρ' h' w' ∧ Ext ρ h w ρ' h' w'
theorem Ok.next {s : Sem Value} (h1 : Ok P ρ h w s k r) : OkN P ρ h w (do Pure.pure (.value (← s))) k r := by
  obtain ⟨u, h', ρ', y, w', h2, h3, h4⟩ := h1
  exact ⟨u, h', ρ', y, w', h2, .inl (by rw [Sem.run_bind, h3]; rfl), h4⟩
theorem OkU.next {s : Sem Unit} (h1 : OkU P ρ h w s k r) : OkN P ρ h w (do s; pure .skip) k r := by
  obtain ⟨h', ρ', w', h2, h3, h4, h5⟩ := h1
  exact ⟨_, h', ρ', _, w', h2, .inr ⟨by rw [Sem.run_bind, h3]; rfl, rfl⟩, .skip, h4, h5⟩
/-- what an operation comes to that changes nothing -/
def OkPN (P : Program) (ρ : Rho) (h : Heap) (w : World) (s : Sem Next) (k : V → Heap → Res) (r : Res) : Prop := ∃ u y, k u h = r ∧ s.run P w = .ok (.value y) w ∧ VR ρ u y
theorem OkP.next {s : Sem Value} (h1 : OkP P ρ h w s k r) : OkPN P ρ h w (do Pure.pure (.value (← s))) k r := by
  obtain ⟨u, y, h2, h3, h4⟩ := h1
  exact ⟨u, y, h2, by rw [Sem.run_bind, h3]; rfl, h4⟩
theorem OkN.pure {s : Sem Next} (rh : RH ρ h w) (hh : ∃ u y, k u h = r ∧ s.run P w = .ok (.value y) w ∧ VR ρ u y) : OkN P ρ h w s k r :=
  let ⟨u, y, h1, h2, h3⟩ := hh; ⟨u, h, ρ, y, w, h1, .inl h2, h3, rh, .refl _ _ _⟩

/-- what holds before an operation -/
structure Cx (ρ : Rho) (ng : Nat) (T : Nat → Option Loc) (L : List V) (env : Env) (h : Heap) (w : World) (a : Act) : Prop where
  tmp : TmpR ρ T L env a.tmps
  glob : GlobR ρ ng
  rh : RH ρ h w

theorem Cx.loc (c : Cx ρ ng T L env h w a) {x : Operand} {loc : Loc} (hl : locOf T ng x = some loc) {k : V → Res} {r : Res} (h : getk loc L env k = r) (hr : r ≠ .fail) :
    ∃ v, k v = r ∧ VR ρ v (a.eval x) := locOf_ok hl h hr c.tmp c.glob
theorem Cx.locs (c : Cx ρ ng T L env h w a) : ∀ {xs : List Operand} {ls : List Loc}, locsOf (locOf T ng) xs = some ls → ∀ {k : List V → Res} {r : Res}, getsk ls L env k = r → r ≠ .fail →
    ∃ l, k l = r ∧ VRs ρ l (xs.map a.eval)
  | [], ls, h, k, r, h1, _ => by cases h; exact ⟨[], h1, .nil⟩
  | x :: xs, ls, h, k, r, h1, hr => by
    simp only [locsOf] at h
    split at h
    · rename_i l m hx hxs
      cases h
      obtain ⟨v, h2, h3⟩ := c.loc hx (show getk l L env (fun v => getsk m L env fun l => k (v :: l)) = r from h1) hr
      obtain ⟨l', h4, h5⟩ := c.locs hxs h2 hr
      exact ⟨_, h4, .cons h3 h5⟩
    · cases h
theorem Cx.parts (c : Cx ρ ng T L env h w a) {place : Nat → Option (Nat × Nat)} : ∀ {ps : List (Nat × Operand)} {m : List (Nat × Nat × Loc)}, partLocs (locOf T ng) place ps = some m →
    ∀ {k : List (Nat × Nat × V) → Res} {r : Res}, getpk m L env k = r → r ≠ .fail → ∃ l, k l = r ∧ FillR ρ place l (ps.map fun (i, x) => (i, a.eval x))
  | [], m, h, k, r, h1, _ => by cases h; exact ⟨[], h1, trivial⟩
  | (i, x) :: ps, m, h, k, r, h1, hr => by
    simp only [partLocs] at h
    split at h
    · rename_i off n l m' hp hx hps
      cases h
      obtain ⟨v, h2, h3⟩ := c.loc hx (show getk l L env (fun v => getpk m' L env fun q => k ((off, n, v) :: q)) = r from h1) hr
      obtain ⟨l', h4, h5⟩ := c.parts hps h2 hr
      exact ⟨_, h4, hp, h3, h5⟩
    · cases h
theorem Cx.opt (c : Cx ρ ng T L env h w a) {x : Option Operand} {l : Option Loc} (hl : optLoc (locOf T ng) x = some l) {k : Option V → Res} {r : Res} (h : getok l L env k = r) (hr : r ≠ .fail) :
    ∃ v, k v = r ∧ BndR ρ v (x.map a.eval) := by
  cases x with
  | none => cases hl; exact ⟨none, h, trivial⟩
  | some x =>
    obtain ⟨y, h1, rfl⟩ := Option.map_eq_some_iff.1 hl
    obtain ⟨v, h2, h3⟩ := c.loc h1 (show getk y L env (fun v => k (some v)) = r from h) hr
    exact ⟨some v, h2, h3⟩

theorem one_inv {f : Operand → Option Loc} {c : Bool} {mk : Loc → OX} {x : Operand} {ox : OX} (h : one f c mk x = some ox) : c = true ∧ ∃ l, f x = some l ∧ ox = mk l := by
  unfold one at h
  split at h
  · rename_i hc
    obtain ⟨l, h1, h2⟩ := Option.map_eq_some_iff.1 h
    exact ⟨hc, l, h1, h2.symm⟩
  · cases h
theorem two_inv {f : Operand → Option Loc} {c : Bool} {mk : Loc → Loc → OX} {x y : Operand} {ox : OX} (h : two f c mk x y = some ox) :
    c = true ∧ ∃ l m, f x = some l ∧ f y = some m ∧ ox = mk l m := by
  unfold two at h
  split at h
  · rename_i hc
    obtain ⟨l, h1, h2⟩ := Option.bind_eq_some_iff.1 h
    obtain ⟨m, h3, h4⟩ := Option.map_eq_some_iff.1 h2
    exact ⟨hc, l, m, h1, h3, h4.symm⟩
  · cases h
theorem Cx.do1 (c : Cx ρ ng T L env h w a) {cnd : Bool} {mk : Loc → OX} {x : Operand} {ox : OX} (ho : one (locOf T ng) cnd mk x = some ox) {f : V → Heap → (V → Heap → Res) → Res}
    (hm : ∀ l, semOX (mk l) = Go.Ev.do1 f l) (hh : semOX ox L env h k = r) (hr : r ≠ .fail) : cnd = true ∧ ∃ v, f v h k = r ∧ VR ρ v (a.eval x) := by
  obtain ⟨hc, l, h1, rfl⟩ := one_inv ho
  rw [hm] at hh
  exact ⟨hc, c.loc h1 (show getk l L env (fun v => f v h k) = r from hh) hr⟩
theorem Cx.do2 (c : Cx ρ ng T L env h w a) {cnd : Bool} {mk : Loc → Loc → OX} {x y : Operand} {ox : OX} (ho : two (locOf T ng) cnd mk x y = some ox) {f : V → V → Heap → (V → Heap → Res) → Res}
    (hm : ∀ l m, semOX (mk l m) = Go.Ev.do2 f l m) (hh : semOX ox L env h k = r) (hr : r ≠ .fail) : cnd = true ∧ ∃ v u, f v u h k = r ∧ VR ρ v (a.eval x) ∧ VR ρ u (a.eval y) := by
  obtain ⟨hc, l, m, h1, h2, rfl⟩ := two_inv ho
  rw [hm] at hh
  obtain ⟨v, h3, h4⟩ := c.loc h1 (show getk l L env (fun v => getk m L env fun u => f v u h k) = r from hh) hr
  obtain ⟨u, h5, h6⟩ := c.loc h2 h3 hr
  exact ⟨hc, v, u, h5, h4, h6⟩

/- THE OPERATIONS, ONE KIND AFTER THE OTHER -/
theorem bin_next {o : BinOp} {t : TypeId} {X Y : Operand} {x y : Value}
    (hh : ∃ u z, k u h = r ∧ (do eqGuard o t X Y x y; binOp o t x y : Sem Value).run P w = .ok z w ∧ VR ρ u z ∧ z.oneCell' = true) : OkPN P ρ h w (do pure (.value (← (do eqGuard o t X Y x y; binOp o t x y : Sem Value)))) k r := by
  obtain ⟨u, z, h1, h2, h3, _⟩ := hh
  exact ⟨u, z, h1, by rw [Sem.run_bind, h2]; rfl, h3⟩
theorem cBin_ok (c : Cx ρ ng T L env h w a) {o : BinOp} {t : TypeId} {x y : Operand} {ox : OX} (hc : cBin P (locOf T ng) o t x y = some ox) (hh : semOX ox L env h k = r) (hr : r ≠ .fail) :
    OkPN P ρ h w (do pure (.value (← (do eqGuard o t x y (a.eval x) (a.eval y); binOp o t (a.eval x) (a.eval y) : Sem Value)))) k r := by
  unfold cBin at hc
  split at hc
  · obtain ⟨_, v, u, h1, h2, h3⟩ := c.do2 (f := fun v u h k => Go.Ev.binI o v u fun z => k z h) hc (fun _ _ => rfl) hh hr
    exact bin_next (binI_ok (k := fun z => k z h) h1 hr h2 h3 t x y w)
  · obtain ⟨_, v, u, h1, h2, h3⟩ := c.do2 (f := fun v u h k => Go.Ev.binS o v u fun z => k z h) hc (fun _ _ => rfl) hh hr
    exact bin_next (binS_ok (k := fun z => k z h) h1 hr h2 h3 t x y w)
  · rename_i ht
    obtain ⟨_, v, u, h1, h2, h3⟩ := c.do2 (f := fun v u h k => Go.Ev.binB o v u fun z => k z h) hc (fun _ _ => rfl) hh hr
    exact bin_next (binB_ok (k := fun z => k z h) h1 hr h2 h3 ht x y w)
  · rename_i ht
    split at hc
    · obtain ⟨_, v, u, h1, h2, h3⟩ := c.do2 (f := fun v u h k => Go.Ev.binN pnk o v u fun z => k z h) hc (fun _ _ => rfl) hh hr
      exact bin_next (binNP_ok (k := fun z => k z h) h1 hr h2 h3 ht x y w)
    · split at hc
      · rename_i n hn
        split at hc
        · cases hc
        · rename_i hn0
          obtain ⟨ls, e1, rfl⟩ := Option.map_eq_some_iff.1 hc
          obtain ⟨l, h1, h2⟩ := c.locs e1 (k := fun l => semEX (.eqp o) l h k) hh hr
          cases h2 with
          | cons h3 h4 =>
            cases h4 with
            | cons h4 h5 =>
              cases h5
              exact bin_next (sEqP_ok (k := k) h1 hr c.rh h3 h4 ht hn hn0 x y)
      · cases hc
  · rename_i ht
    obtain ⟨_, v, u, h1, h2, h3⟩ := c.do2 (f := fun v u h k => Go.Ev.binN snk o v u fun z => k z h) hc (fun _ _ => rfl) hh hr
    exact bin_next (binNS_ok (k := fun z => k z h) h1 hr h2 h3 ht x y w)
  · rename_i ht
    obtain ⟨_, v, u, h1, h2, h3⟩ := c.do2 (f := fun v u h k => Go.Ev.binN mnk o v u fun z => k z h) hc (fun _ _ => rfl) hh hr
    exact bin_next (binNM_ok (k := fun z => k z h) h1 hr h2 h3 ht x y w)
  · rename_i ht
    obtain ⟨_, v, u, h1, h2, h3⟩ := c.do2 (f := fun v u h k => Go.Ev.binN fnk0 o v u fun z => k z h) hc (fun _ _ => rfl) hh hr
    exact bin_next (binNF_ok (k := fun z => k z h) h1 hr h2 h3 ht x y w)
  · rename_i ht
    obtain ⟨hy, v, u, h1, h2, h3⟩ := c.do2 (f := fun v u h k => Go.Ev.binN ink o v u fun z => k z h) hc (fun _ _ => rfl) hh hr
    have : ∃ u, y = .const u := by cases y <;> first | exact ⟨_, rfl⟩ | cases hy
    exact bin_next (binNI_ok (k := fun z => k z h) h1 hr h2 h3 ht x y this w)
  · cases hc
theorem cConv_ok (c : Cx ρ ng T L env h w a) {s d : TypeId} {x : Operand} {ox : OX} (hc : cConv P (locOf T ng) s d x = some ox) (hh : semOX ox L env h k = r) (hr : r ≠ .fail) :
    OkP P ρ h w (convert s d (a.eval x)) k r := by
  unfold cConv at hc
  split at hc
  · rename_i hs hd
    obtain ⟨_, v, h1, h2⟩ := c.do1 (f := sConvI _) hc (fun _ => rfl) hh hr
    exact sConvI_ok h1 hr c.rh h2 hs hd
  · rename_i hs hd
    obtain ⟨_, v, h1, h2⟩ := c.do1 (f := sConvS) hc (fun _ => rfl) hh hr
    exact sConvS_ok h1 hr c.rh h2 hs hd
  · rename_i hs hd
    split at hc
    · rename_i he
      obtain ⟨_, v, h1, h2⟩ := c.do1 (f := sBytesS) hc (fun _ => rfl) hh hr
      exact sBytesS_ok h1 hr c.rh h2 hs he hd
    · cases hc
  · cases hc
theorem cField_ok (c : Cx ρ ng T L env h w a) {t : TypeId} {x : Operand} {i : Nat} {ox : OX} (hc : cField P (locOf T ng) t x i = some ox) (hh : semOX ox L env h k = r) (hr : r ≠ .fail) :
    OkP P ρ h w (Instr.field t (a.eval x) i) k r := by
  unfold cField at hc
  split at hc
  · rename_i fields ht
    split at hc
    · rename_i fd hf
      split at hc
      · rename_i hs
        obtain ⟨_, v, h1, h2⟩ := c.do1 (f := sFld1 _) hc (fun _ => rfl) hh hr
        exact sFld1_ok h1 hr c.rh h2 ht hf rfl hs
      · split at hc
        · rename_i hs
          split at hc
          · rename_i n hn
            obtain ⟨_, v, h1, h2⟩ := c.do1 (f := sFldN _ _) hc (fun _ => rfl) hh hr
            exact sFldN_ok h1 hr c.rh h2 ht hf rfl hs hn
          · cases hc
        · cases hc
    · cases hc
  · cases hc
theorem cFaddr_ok (c : Cx ρ ng T L env h w a) {t : TypeId} {x : Operand} {i : Nat} {ox : OX} (hc : cFaddr P (locOf T ng) t x i = some ox) (hh : semOX ox L env h k = r) (hr : r ≠ .fail) :
    OkP P ρ h w (Instr.fieldAt t (a.eval x) i) k r := by
  unfold cFaddr at hc
  split at hc
  · rename_i fields ht
    split at hc
    · rename_i fd hf
      split at hc
      · rename_i n hn
        obtain ⟨h0, v, h1, h2⟩ := c.do1 (f := sFaddr _) hc (fun _ => rfl) hh hr
        exact sFaddr_ok h1 hr c.rh h2 ht hf rfl hn (by simpa using h0)
      · cases hc
    · cases hc
  · cases hc
theorem cIaddr_ok (c : Cx ρ ng T L env h w a) {t : TypeId} {x i : Operand} {ox : OX} (hc : cIaddr P (locOf T ng) t x i = some ox) (hh : semOX ox L env h k = r) (hr : r ≠ .fail) :
    OkP P ρ h w (Instr.indexAt t (a.eval x) (a.eval i)) k r := by
  unfold cIaddr at hc
  split at hc
  · rename_i ht
    split at hc
    · rename_i hs
      obtain ⟨_, v, u, h1, h2, h3⟩ := c.do2 (f := sIaddr _) hc (fun _ _ => rfl) hh hr
      exact sIaddr_ok h1 hr c.rh h2 h3 ht hs
    · cases hc
  · rename_i ht
    split at hc
    · rename_i hs
      obtain ⟨_, v, u, h1, h2, h3⟩ := c.do2 (f := sIaddrA _ _) hc (fun _ _ => rfl) hh hr
      exact sIaddrA_ok h1 hr c.rh h2 h3 ht hs
    · cases hc
  · cases hc
theorem cIndex_ok (c : Cx ρ ng T L env h w a) {t : TypeId} {x i : Operand} {ox : OX} (hc : cIndex P (locOf T ng) t x i = some ox) (hh : semOX ox L env h k = r) (hr : r ≠ .fail) :
    OkP P ρ h w (Instr.index t (a.eval x) (a.eval i)) k r := by
  unfold cIndex at hc
  split at hc
  · rename_i ht
    obtain ⟨_, v, u, h1, h2, h3⟩ := c.do2 (f := sIdxS) hc (fun _ _ => rfl) hh hr
    exact sIdxS_ok h1 hr c.rh h2 h3 ht
  · rename_i ht
    split at hc
    · rename_i hs
      obtain ⟨he, v, u, h1, h2, h3⟩ := c.do2 (f := sIdxA _ _) hc (fun _ _ => rfl) hh hr
      exact sIdxA_ok h1 hr c.rh h2 h3 ht hs he
    · cases hc
  · cases hc
theorem cSlice_ok (c : Cx ρ ng T L env h w a) {t : TypeId} {x : Operand} {lo hi mx : Option Operand} {ox : OX} (hc : cSlice P (locOf T ng) t x lo hi mx = some ox) (hh : semOX ox L env h k = r)
    (hr : r ≠ .fail) : OkP P ρ h w (Instr.sliceAt t (a.eval x) (lo.map a.eval) (hi.map a.eval) (mx.map a.eval)) k r := by
  unfold cSlice at hc
  split at hc
  · rename_i lx ll lh lm hx hlo hhi hmx
    split at hc
    · rename_i ht
      split at hc
      · rename_i hm
        cases hc
        obtain ⟨v, h1, h2⟩ := c.loc hx (k := fun v => getok ll L env fun a => getok lh L env fun b => sSliceS v a b h k) hh hr
        obtain ⟨p, h3, h4⟩ := c.opt hlo h1 hr
        obtain ⟨q, h5, h6⟩ := c.opt hhi h3 hr
        have : mx = none := by simpa using hm
        subst this
        exact sSliceS_ok h5 hr c.rh h2 h4 h6 ht
      · cases hc
    · rename_i ht
      split at hc
      · rename_i s hs
        split at hc
        · rename_i hpos
          cases hc
          obtain ⟨v, h1, h2⟩ := c.loc hx (k := fun v => getok ll L env fun a => getok lh L env fun b => getok lm L env fun d => sSlice s v a b d h k) hh hr
          obtain ⟨p, h3, h4⟩ := c.opt hlo h1 hr
          obtain ⟨q, h5, h6⟩ := c.opt hhi h3 hr
          obtain ⟨m, h7, h8⟩ := c.opt hmx h5 hr
          exact sSlice_ok h7 hr c.rh h2 h4 h6 h8 ht hs hpos
        · cases hc
      · cases hc
    · rename_i n e ht
      split at hc
      · rename_i s hs
        split at hc
        · rename_i hm
          cases hc
          obtain ⟨v, h1, h2⟩ := c.loc hx (k := fun v => getok ll L env fun a => getok lh L env fun b => sSliceA n s v a b h k) hh hr
          obtain ⟨p, h3, h4⟩ := c.opt hlo h1 hr
          obtain ⟨q, h5, h6⟩ := c.opt hhi h3 hr
          have : mx = none := by simpa using hm
          subst this
          exact sSliceA_ok h5 hr c.rh h2 h4 h6 ht hs
        · cases hc
      · cases hc
    · cases hc
  · cases hc
theorem grain_len (P : Program) (t : TypeId) (len : Nat) : (grain P t len).2 * (grain P t len).1 = len := by
  unfold grain
  split
  · split
    · split
      · rename_i h; exact h.2
      · simp
    · simp
  · simp
theorem cAlloc_ok (c : Cx ρ ng T L env h w a) {t : TypeId} {ox : OX} (hc : cAlloc P t = some ox) (hh : semOX ox L env h k = r) (hr : r ≠ .fail) :
    Ok P ρ h w (Instr.alloc t true (.tuple #[])) k r := by
  simp only [cAlloc] at hc
  split at hc
  · rename_i l hz
    split at hc
    · rename_i hcc
      obtain ⟨hpos, hlen, heq⟩ := hcc
      cases hc
      obtain ⟨z, h1, h2, h3⟩ := zeroL_ok hz
      have heq := eqVs_ok heq
      have hh : sAlloc (grain P t l.length).fst (grain P t l.length).snd (repT (l.take (grain P t l.length).fst) (grain P t l.length).snd (grain P t l.length).snd) h k = r := hh
      generalize hx : l.take (grain P t l.length).fst = x at heq hlen hh
      generalize (grain P t l.length).snd = n at heq hh
      generalize (grain P t l.length).fst = g at hpos hlen hh
      refine sAlloc_ok hh hr c.rh (l := l) (z := z) ⟨h1, h2, h3, hpos, ?_, fun j ch hj => ?_⟩
      · rw [heq]; simp [hlen]
      · rw [repT_eq, Go.Ev.T.get_rep _ _ _ (Nat.le_refl _)] at hj
        split at hj
        · rename_i hlt
          cases hj
          exact ⟨hlt, by rw [heq, flat_chunk hlen hlt]⟩
        · cases hj
    · cases hc
  · cases hc
theorem cBuild_ok (c : Cx ρ ng T L env h w a) {t : TypeId} {ps : Array (Nat × Operand)} {ox : OX} (hc : cBuild P (locOf T ng) t ps.toList = some ox) (hh : semOX ox L env h k = r) (hr : r ≠ .fail) :
    OkP P ρ h w (Instr.build t (ps.map fun (i, x) => (i, a.eval x))) k r := by
  unfold cBuild at hc
  split at hc
  · rename_i tmpl hz
    obtain ⟨z, h1, h2, h3⟩ := zeroL_ok hz
    split at hc
    · rename_i fields ht
      split at hc
      · rename_i pl hpl
        split at hc
        · rename_i m hm
          cases hc
          obtain ⟨l, h4, h5⟩ := c.parts hm (k := fun l => sBuild tmpl.length tmpl l h k) hh hr
          exact sBuild_ok h4 hr c.rh h1 (h2 ρ) h3 rfl ht hpl (vs := ps.map fun (i, x) => (i, a.eval x)) (by rw [Array.toList_map]; exact h5)
        · cases hc
      · cases hc
    · rename_i ht
      split at hc
      · rename_i s hs
        split at hc
        · rename_i m hm
          cases hc
          obtain ⟨l, h4, h5⟩ := c.parts hm (k := fun l => sBuild tmpl.length tmpl l h k) hh hr
          exact sBuildA_ok h4 hr c.rh h1 (h2 ρ) h3 rfl ht hs (vs := ps.map fun (i, x) => (i, a.eval x)) (by rw [Array.toList_map]; exact h5)
        · cases hc
      · cases hc
    · cases hc
  · cases hc
theorem cMake_ok (c : Cx ρ ng T L env h w a) {t : TypeId} {x y : Operand} {ox : OX} (hc : cMake P (locOf T ng) t x y = some ox) (hh : semOX ox L env h k = r) (hr : r ≠ .fail) :
    Ok P ρ h w (Instr.makeSlice t (a.eval x) (a.eval y)) k r := by
  unfold cMake at hc
  split at hc
  · rename_i e s he
    split at hc
    · rename_i z hz
      obtain ⟨hl, v, u, h1, h2, h3⟩ := c.do2 (f := sMake _ _) hc (fun _ _ => rfl) hh hr
      obtain ⟨zv, h4, h5, h6⟩ := zeroL_ok hz
      exact sMake_ok h1 hr c.rh h2 h3 (chkSl_ok he) h4 (h5 ρ) (by simpa using hl) h6
    · cases hc
  · cases hc
end Go.Ev
