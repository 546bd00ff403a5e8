/- EVALUATOR: ranges over functions: the machine's steps, whatever stands behind them. -/
import Derived.Test.YtacpbnjbbkhngaaGreatDoorEvWp
import Derived.RangeFuncLeaves
import Derived.RangeFuncRecord
namespace Go.Ev
variable {P : Program}

/-- where a call that was begun above the frame c comes out -/
def Lands (P : Program) (m : Machine) (c : Frame) (cs : List Frame) : Ending → World → Prop
  | .returned v, w => Steps P m (lone (c.finish v) cs w)
  | .panicked ch, w => Steps P m (lone (c.raise ch) cs w)
  | .outgrown, _ => False
/-- the temporaries that a round begins with -/
def roundTmps (r : Loop) (args : Array Value) : Array Value := (r.params.zip args).foldl (fun tmps (t, a) => tmps.setIfInBounds t a) r.tmps
/-- what a round comes to -/
def Rounds (P : Program) (l : Nat) (args : Array Value) (w : World) (R : Ending → World → Prop) : Prop :=
  ∃ r, w.heap[l]? = some (.loop r) ∧ args.size = r.params.size ∧ ∀ c cs, ∃ e w', R e w' ∧ Lands P (lone (Frame.round l r.fn (roundTmps r args) r.assign r.body .normal) (c :: cs) w) c cs e w'
theorem Rounds.mono {l : Nat} {args : Array Value} {w : World} {R R' : Ending → World → Prop} (h : Rounds P l args w R) (hr : ∀ e w, R e w → R' e w) : Rounds P l args w R' :=
  let ⟨r, h1, h2, h3⟩ := h
  ⟨r, h1, h2, fun c cs => let ⟨e, w', h4, h5⟩ := h3 c cs; ⟨e, w', hr _ _ h4, h5⟩⟩

section
variable {b : Frame} {Q : Post} {a : Act} {cs : List Frame} {w : World} {ops : Array Oper}
/-- a round, begun by an operation -/
theorem WO.round {i : Nat} {rest : List Nat} {o : Oper} (ho : ops[i]? = some o) (hw : Region.wanted o (yielded ops a.tmps) = true) (hd : b.roundOf = none ∨ ∀ c, o.op ≠ .defer c)
    {l : Nat} {args : Array Value} (hr : (execOp a.eval o).run P w = (Instr.yield l args).run P w)
    (h : Rounds P l args w fun
      | .returned v, w'' => WO P b ops rest Q (a.put o.dst v) cs w''
      | .panicked chain, w'' => Q (.panic chain) a cs w''
      | .outgrown, _ => False) : WO P b ops (i :: rest) Q a cs w := by
  intro k
  obtain ⟨r, h1, h2, h3⟩ := h
  obtain ⟨e, w'', hR, hl⟩ := h3 (fr b a (.inRegion ops (i :: rest) :: k)) cs
  rw [run_yield h1 h2] at hr
  have henter : step P (lone (fr b a (.inRegion ops (i :: rest) :: k)) cs w) =
      .next (lone (Frame.round l r.fn (roundTmps r args) r.assign r.body .normal) (fr b a (.inRegion ops (i :: rest) :: k) :: cs) w) :=
    step_lone_go (by rw [st_op ho hw hd]; simp [stepG.apply, hr, fr, roundTmps])
  cases e with
  | returned v =>
    obtain ⟨e, a', cs', w₃, hq, harr⟩ := hR k
    refine ⟨e, a', cs', w₃, hq, .of_steps (.head henter ?_) harr⟩
    rw [← fr_finish ho]; exact hl
  | panicked chain =>
    refine ⟨.panic chain, a, cs, w'', hR, .inRegion ops (i :: rest) :: k, .head henter ?_⟩
    have hl : Steps P _ (lone ((fr b a (.inRegion ops (i :: rest) :: k)).raise chain) cs w'') := hl
    simpa [Frame.raise, fr] using hl
  | outgrown => exact hR.elim

/-- the frame of a round -/
def rbase (l : Nat) (f : FuncId) : Frame := { (default : Frame) with fn := f, kind := .normal, roundOf := some l }
theorem rbase_at (l : Nat) (f : FuncId) (a : Act) (todo : List Item) : fr (rbase l f) a todo = (rbase l f).atR a todo := rfl
def roundPost' (P : Program) (l : Nat) (R : Ending → World → Prop) (cs : List Frame) : Post
  | .normal, _, cs', w => cs' = cs ∧ ∃ v w', (Instr.endRound l none).run P w = .ok v w' ∧ R (.returned v) w'
  | .ret, _, cs', w => cs' = cs ∧ ∃ v w', (Instr.endRound l (some .ret)).run P w = .ok v w' ∧ R (.returned v) w'
  | .exit id, _, cs', w => cs' = cs ∧ ∃ v w', (Instr.endRound l (some (.exit id))).run P w = .ok v w' ∧ R (.returned v) w'
  | _, _, _, _ => False
theorem rounds_of {l : Nat} {r : Loop} {args : Array Value} {R : Ending → World → Prop} (h1 : w.heap[l]? = some (.loop r)) (h2 : args.size = r.params.size)
    (h : ∀ cs, WP P (rbase l r.fn) r.assign (fun e a₁ cs₁ w₁ => e = .normal ∧ cs₁ = cs ∧ ∃ w₂, (Instr.beginRound l).run P w₁ = .ok () w₂ ∧ WP P (rbase l r.fn) r.body (roundPost' P l R cs) a₁ cs w₂)
      { tmps := roundTmps r args, defers := [] } cs w) : Rounds P l args w R := by
  refine ⟨r, h1, h2, fun c cs => ?_⟩
  have hb0 : Frame.round l r.fn (roundTmps r args) r.assign r.body .normal = fr (rbase l r.fn) { tmps := roundTmps r args, defers := [] } [.code r.assign, .beginRound, .code r.body] := by
    simp [Frame.round, fr, rbase]
  obtain ⟨e, a₁, cs₁, w₁, ⟨rfl, rfl, w₂, hbr, hbody⟩, harr⟩ := h (c :: cs) [.beginRound, .code r.body]
  rw [hb0]
  have s1 : Steps P (lone (fr (rbase l r.fn) a₁ [.beginRound, .code r.body]) (c :: cs) w₁) (lone (fr (rbase l r.fn) a₁ [.code r.body]) (c :: cs) w₂) := .one (stepR_beginRound rfl hbr)
  obtain ⟨e₂, a₂, cs₂, w₃, hq₂, harr₂⟩ := hbody []
  cases e₂ with
  | normal =>
    obtain ⟨rfl, v, w₄, hend, hR⟩ := hq₂
    exact ⟨.returned v, w₄, hR, (Steps.trans harr s1).trans (Steps.trans harr₂ (.one (stepR_round_end rfl rfl hend)))⟩
  | ret =>
    obtain ⟨rfl, v, w₄, hend, hR⟩ := hq₂
    obtain ⟨k₁, hs⟩ := harr₂
    exact ⟨.returned v, w₄, hR, (Steps.trans harr s1).trans (Steps.trans hs (.one (stepR_round_ret rfl rfl hend)))⟩
  | exit id =>
    obtain ⟨rfl, v, w₄, hend, hR⟩ := hq₂
    obtain ⟨k₁, hk, hs⟩ := harr₂
    exact ⟨.returned v, w₄, hR, (Steps.trans harr s1).trans (Steps.trans hs (.one (stepR_round_exit rfl rfl hk hend)))⟩
  | goto t => exact hq₂.elim
  | panic chain => exact hq₂.elim
  | outgrown => exact hq₂.elim

/-- the statement -/
theorem WP.rangeFunc {g : Operand} {ps : Array Tmp} {assign body : Code} (hb : b.roundOf = none) {d : Deferred} {f : FuncId} {args : Array Value} {w₁ w₂ : World}
    (hw : w₁ = (w.alloc (.deferred (some []))).alloc (.loop { state := .ready, pending := none, fn := b.fn, tmps := a.tmps, params := ps, assign, body, defers := w.heap.size }))
    (hres : (resolve a.eval (rangeCall g (w.heap.size + 1)) 0).run P w₁ = .ok d w₁) (hinv : (invoke d.target d.args).run P w₁ = .ok (.enter f args) w₂)
    (h : Calls P f args w₂ fun e w₃ => match e with
      | .returned _ => ∃ jump w₄, (Instr.endLoop (w.heap.size + 1)).run P w₃ = .ok jump w₄ ∧ (match jump with
        | none => Q .normal { a with defers := { target := .collected w.heap.size, args := #[] } :: a.defers } cs w₄
        | some .ret => Q .ret { a with defers := { target := .collected w.heap.size, args := #[] } :: a.defers } cs w₄
        | some (.exit id) => Q (.exit id) { a with defers := { target := .collected w.heap.size, args := #[] } :: a.defers } cs w₄
        | _ => False)
      | .panicked chain => Q (.panic chain) { a with defers := { target := .collected w.heap.size, args := #[] } :: a.defers } cs w₃
      | .outgrown => False) : WP P b (.rangeFunc g ps assign body) Q a cs w := by
  intro k
  have hat : ∀ (a : Act) (todo : List Item), fr b a todo = { b with tmps := a.tmps, todo, defers := a.defers, mode := .run } := fun _ _ => rfl
  have he : (Instr.enterLoop b.fn a.tmps ps assign body b.roundOf).run P w = .ok (w.heap.size + 1, [{ target := .collected w.heap.size, args := #[] }]) w₁ := by
    rw [hb, hw]; exact run_enterLoop_outer _ _ _ _ _
  have henter : step P (lone (fr b a (.code (.rangeFunc g ps assign body) :: k)) cs w) = .next (lone (Frame.enter P f args .normal)
      (fr b { a with defers := { target := .collected w.heap.size, args := #[] } :: a.defers } (.inRangeFunc (w.heap.size + 1) :: k) :: cs) w₂) := stepR_rangeFunc (b := b) (a := a) (k := k) (cs := cs) (w := w) he hres hinv
  obtain ⟨e, w₃, frx, hR, hsteps, _, hleave⟩ := h (fr b { a with defers := { target := .collected w.heap.size, args := #[] } :: a.defers } (.inRangeFunc (w.heap.size + 1) :: k) :: cs)
  cases e with
  | returned v =>
    obtain ⟨jump, w₄, hend, hj⟩ := hR
    have sback : Steps P (lone (fr b a (.code (.rangeFunc g ps assign body) :: k)) cs w)
        (lone (fr b { a with defers := { target := .collected w.heap.size, args := #[] } :: a.defers } ((jump.map Item.code).toList ++ k)) cs w₄) := by
      have h1 := step_leave_returned (c := fr b { a with defers := { target := .collected w.heap.size, args := #[] } :: a.defers } (.inRangeFunc (w.heap.size + 1) :: k)) (cs := cs) hleave
      have h2 : (fr b { a with defers := { target := .collected w.heap.size, args := #[] } :: a.defers } (.inRangeFunc (w.heap.size + 1) :: k)).finish v =
          fr b { a with defers := { target := .collected w.heap.size, args := #[] } :: a.defers } (.endRangeFunc (w.heap.size + 1) :: k) := by simp [Frame.finish, fr]
      rw [h2] at h1
      have h3 : step P (lone (fr b { a with defers := { target := .collected w.heap.size, args := #[] } :: a.defers } (.endRangeFunc (w.heap.size + 1) :: k)) cs w₃) =
          .next (lone (fr b { a with defers := { target := .collected w.heap.size, args := #[] } :: a.defers } ((jump.map Item.code).toList ++ k)) cs w₄) := stepR_endRangeFunc hend
      exact .head henter (Steps.trans (hsteps.trans (.one h1)) (.one h3))
    cases jump with
    | none => exact ⟨.normal, _, cs, w₄, hj, sback⟩
    | some c =>
      cases c with
      | ret => exact ⟨.ret, _, cs, w₄, hj, k, sback⟩
      | exit id => exact ⟨.exit id, _, cs, w₄, hj, k, rfl, sback⟩
      | _ => exact hj.elim
  | panicked chain =>
    refine ⟨.panic chain, _, cs, w₃, hR, .inRangeFunc (w.heap.size + 1) :: k, .head henter (hsteps.trans (.one ?_))⟩
    have := step_leave_panicked (c := fr b { a with defers := { target := .collected w.heap.size, args := #[] } :: a.defers } (.inRangeFunc (w.heap.size + 1) :: k)) (cs := cs) hleave
    simpa [Frame.raise, fr] using this
  | outgrown => exact hR.elim
end

/- MARKS: what a frame does with them when it is left. -/
def Peel (P : Program) (Q : World → Prop) : List Deferred → World → Prop
  | [], w => Q w
  | d :: ds, w => ∃ r w', d.target = .collected r ∧ (Instr.takeDeferred r).run P w = .ok [] w' ∧ Peel P Q ds w'
theorem peel_steps {Q : World → Prop} {cs : List Frame} : ∀ (ds : List Deferred) (w : World) (fr : Frame), fr.mode ≠ .run → fr.defers = ds → Peel P Q ds w →
    ∃ w'', Q w'' ∧ Steps P (lone fr cs w) (lone { fr with defers := [] } cs w'')
  | [], w, fr, _, hd, h => ⟨w, h, by obtain ⟨a, b, c, d, e, f, g⟩ := fr; cases hd; exact .refl _ _⟩
  | d :: ds, w, fr, hm, hd, ⟨r, w', h1, h2, h3⟩ => by
    have s1 := step_collected (cs := cs) hm hd h1 h2
    obtain ⟨w'', h4, h5⟩ := peel_steps ds w' { fr with defers := [] ++ ds } hm rfl h3
    exact ⟨w'', h4, .head s1 h5⟩
def callPostM (P : Program) (fn : Func) (cs : List Frame) (R : Ending → World → Prop) : Post
  | .normal, a, cs', w | .ret, a, cs', w => cs' = cs ∧ Peel P (Leaves P fn a.tmps R [] .returning) a.defers w
  | .panic chain, a, cs', w => cs' = cs ∧ Peel P (Leaves P fn a.tmps R [] (.panicking chain)) a.defers w
  | _, _, _, _ => False
theorem calls_ofM {f : FuncId} {fn : Func} {c : Code} {args : Array Value} {w : World} {R : Ending → World → Prop} (hf : P.funcs[f]? = some fn) (hb : fn.body = some c)
    (h : ∀ cs, WP P (base f .normal) c (callPostM P fn cs R) { tmps := args ++ Array.replicate (fn.ntmps - args.size) Go.undef, defers := [] } cs w) : Calls P f args w R := by
  intro cs
  obtain ⟨e, a', cs', w', hq, harr⟩ := h cs []
  rw [← enter_fr hf hb] at harr
  have fin : ∀ {fr0 : Frame} {u : FrameMode} {w' : World}, Steps P (lone (Frame.enter P f args .normal) cs w) (lone fr0 cs w') → fr0.mode = u → u ≠ .run → fr0.tmps = a'.tmps → fr0.fn = f → fr0.kind = .normal →
      Peel P (Leaves P fn a'.tmps R [] u) fr0.defers w' → ∃ e' w'' fr', R e' w'' ∧ Comes P (lone (Frame.enter P f args .normal) cs w) (lone fr' cs w'') e' ∧ fr'.fn = f ∧ fr'.leaving P w'' e' := by
    intro fr0 u w' hs hu hne ht hfn hk hp
    obtain ⟨w2, hl, hs2⟩ := peel_steps (cs := cs) fr0.defers w' fr0 (by rw [hu]; exact hne) rfl hp
    obtain ⟨e', w'', fr', hR, hs3, hfn3, hl3⟩ := leaves_steps [] u w2 { fr0 with defers := [] } cs hu rfl ht (by show P.funcs[fr0.fn]? = _; rw [hfn]; exact hf) hk hl
    exact ⟨e', w'', fr', hR, Comes.of_steps (Steps.trans hs hs2) hs3, hfn3.trans hfn, hl3⟩
  cases e with
  | normal =>
    obtain ⟨rfl, hq⟩ := hq
    exact fin (fr0 := { fr (base f .normal) a' [] with mode := .returning }) (u := .returning) (Steps.trans harr (.one (st_end rfl))) rfl (by simp) rfl rfl rfl hq
  | ret =>
    obtain ⟨rfl, hq⟩ := hq
    obtain ⟨todo, hs₀⟩ := harr
    exact fin (fr0 := { fr (base f .normal) a' (.code .ret :: todo) with mode := .returning }) (u := .returning) (Steps.trans hs₀ (.one (st_ret rfl))) rfl (by simp) rfl rfl rfl hq
  | panic chain =>
    obtain ⟨rfl, hq⟩ := hq
    obtain ⟨todo, hs₀⟩ := harr
    exact fin (fr0 := { fr (base f .normal) a' todo with mode := .panicking chain }) (u := .panicking chain) hs₀ rfl (by simp) rfl rfl rfl hq
  | exit id => exact hq.elim
  | goto l => exact hq.elim
  | outgrown => exact hq.elim
end Go.Ev
