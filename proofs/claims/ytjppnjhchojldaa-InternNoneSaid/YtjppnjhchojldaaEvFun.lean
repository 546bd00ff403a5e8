/- EVALUATOR, 23: code and functions. -/
import Derived.Test.YtjppnjhchojldaaEvDraw3
namespace Go.Ev
variable {P : Program}

inductive PC where
  | skip
  | seq (x y : PC)
  | cond (c : Loc) (x y : PC)
  | block (id : Nat) (x : PC)
  | loop (x : PC)
  | exit (id : Nat)
  | ret
  | reg (l : List RI)
  | draw (l : List DI) (o : List (Slot × Nat))
  | jn (abn : Bool) (sl : List (Slot × Sh1)) (x y : PC)
  | lpv (sl : List (Slot × Sh1)) (x : PC)
  | stop (x : PC)
  | np (x : PC)
/-- without the marks for what is known of a frame where ways meet -/
def PC.strip : PC → PC
  | .seq x y => .seq x.strip y.strip
  | .cond c x y => .cond c x.strip y.strip
  | .block id x => .block id x.strip
  | .loop x => .loop x.strip
  | .jn _ _ x y => .seq x.strip y.strip
  | .lpv _ x => .loop x.strip
  | .stop x => x.strip
  | .np x => x.strip
  | x => x

/-- no mark that stands ahead of a piece -/
def PC.plain : PC → Prop
  | .stop _ | .np _ => False
  | _ => True
theorem strip_seq {pc p q : PC} (hn : pc.plain) (h : PC.seq p q = pc.strip) : (∃ p' q', pc = .seq p' q' ∧ p = p'.strip ∧ q = q'.strip) ∨ ∃ abn sl p' q', pc = .jn abn sl p' q' ∧ p = p'.strip ∧ q = q'.strip := by
  cases pc <;> simp only [PC.strip, PC.seq.injEq, reduceCtorEq, PC.plain] at h hn
  · exact .inl ⟨_, _, rfl, h⟩
  · exact .inr ⟨_, _, _, _, rfl, h⟩
theorem strip_cond {pc p q : PC} {c : Loc} (hn : pc.plain) (h : PC.cond c p q = pc.strip) : ∃ p' q', pc = .cond c p' q' ∧ p = p'.strip ∧ q = q'.strip := by
  cases pc <;> simp only [PC.strip, PC.cond.injEq, reduceCtorEq, PC.plain] at h hn
  obtain ⟨rfl, h⟩ := h
  exact ⟨_, _, rfl, h⟩
theorem strip_block {pc p : PC} {id : Nat} (hn : pc.plain) (h : PC.block id p = pc.strip) : ∃ p', pc = .block id p' ∧ p = p'.strip := by
  cases pc <;> simp only [PC.strip, PC.block.injEq, reduceCtorEq, PC.plain] at h hn
  obtain ⟨rfl, h⟩ := h
  exact ⟨_, rfl, h⟩
theorem strip_loop {pc p : PC} (hn : pc.plain) (h : PC.loop p = pc.strip) : (∃ p', pc = .loop p' ∧ p = p'.strip) ∨ ∃ sl p', pc = .lpv sl p' ∧ p = p'.strip := by
  cases pc <;> simp only [PC.strip, PC.loop.injEq, reduceCtorEq, PC.plain] at h hn
  · exact .inl ⟨_, rfl, h⟩
  · exact .inr ⟨_, _, rfl, h⟩

/-- normally left, or otherwise -/
noncomputable def nork (x : Ex) (a b : Res) : Res := Ex.rec (motive := fun _ => Res) a (fun _ => b) b (fun _ => b) x
theorem nork_eq (x : Ex) (a b : Res) : nork x a b = match x with | .normal => a | _ => b := by cases x <;> rfl
/-- left for a block's end -/
noncomputable def exk (id : Nat) (x : Ex) (a b : Res) : Res := Ex.rec (motive := fun _ => Res) b (fun i => ifk (Nat.beq i id) a b) b (fun _ => b) x
noncomputable def loopk (body : Env → Heap → Kont → Res) (n : Nat) (env : Env) (h : Heap) (K : Kont) : Res :=
  Nat.rec (motive := fun _ => Env → Heap → Res) (fun _ _ => .fail) (fun _ again env h => body env h fun x env' h' => nork x (again env' h') (K x env' h')) n env h

/-- a frame's values that are carried on; a frame of such values alone -/
noncomputable def savek (sl : List (Slot × Sh1)) (env : Env) (k : List V → Res) : Res :=
  List.rec (motive := fun _ => (List V → Res) → Res) (fun k => k []) (fun p _ ih k => Prod.rec (motive := fun _ => Res) (fun x _ => getk (.e x) [] env fun v => ih fun l => k (v :: l)) p) sl k
noncomputable def putsk (sl : List (Slot × Sh1)) (vs : List V) (env : Env) (k : Env → Res) : Res :=
  List.rec (motive := fun _ => List V → Env → Res) (fun vs env => nilk' vs (k env))
    (fun p _ ih vs env => Prod.rec (motive := fun _ => Res) (fun x s => unc vs fun v vs => cast1 s v fun v => envk env x v fun env => ih vs env) p) sl vs env
/-- of no known shape -/
def anys (sl : List (Slot × Sh1)) : List (Slot × Sh1) := sl.map fun p => (p.1, .any)
noncomputable def contk (r : Res) (k : Ex → List V → Heap → Res) : Res := Res.rec (motive := fun _ => Res) .fail k (fun _ _ => .fail) (fun _ _ => .fail) r
noncomputable def lpk (body : (List V → Heap → Res) → List V → Heap → Res) (n : Nat) (vs : List V) (h : Heap) : Res :=
  Nat.rec (motive := fun _ => List V → Heap → Res) (fun _ _ => .fail) (fun _ again => body again) n vs h
noncomputable def env0 : Env := N.all (N.all .und)
/-- no panic -/
noncomputable def npk (x : Ex) (a : Res) : Res := Ex.rec (motive := fun _ => Res) a (fun _ => a) a (fun _ => .fail) x
theorem npk_ok {x : Ex} {a r : Res} (h : npk x a = r) (hr : r ≠ .fail) : a = r := by
  cases x with
  | pan v => exact absurd h.symm hr
  | _ => exact h

noncomputable def runCg (sem : OX → Do) (cf : CF) (n : Nat) (c : PC) (env : Env) (h : Heap) (K : Kont) : Res :=
  PC.rec (motive := fun _ => Env → Heap → Kont → Res)
    (fun env h K => K .normal env h)
    (fun _ _ iha ihb env h K => iha env h fun x env' h' => nork x (ihb env' h' K) (K x env' h'))
    (fun c _ _ iha ihb env h K => getk c [] env fun v => boolk v fun t => ifk t (iha env h K) (ihb env h K))
    (fun id _ ih env h K => ih env h fun x env' h' => exk id x (K .normal env' h') (K x env' h'))
    (fun _ ih env h K => loopk ih n env h K)
    (fun id env h K => K (.exit id) env h)
    (fun env h K => K .ret env h)
    (fun l env h K => runLg sem cf l [] env h K)
    (fun l o env h K => runDg sem cf env l [] h (fun L h' => backs o L env fun env' => K .normal env' h') fun u h' => undk o env fun env' => K (.pan u) env' h')
    (fun abn sl _ _ iha ihb env h K => contk (iha env h fun x env' h' => savek sl env' fun vs => .done x vs h')
      fun x vs h' => nork x (putsk sl vs env0 fun env' => ihb env' h' K) (Bool.rec (motive := fun _ => Res) .fail (putsk (anys sl) vs env0 fun env' => K x env' h') abn))
    (fun sl _ ih env h K => savek sl env fun vs => lpk (fun again vs h => putsk sl vs env0 fun env => ih env h fun x env' h' => nork x (savek sl env' fun vs' => again vs' h') (K x env' h')) n vs h)
    (fun _ _ _ _ _ => .fail)
    (fun _ ih env h K => ih env h fun x env' h' => npk x (K x env' h'))
    c env h K

noncomputable abbrev runC := runCg semOX
def cCode (P : Program) (fi : FI) (ng : Nat) : Code → Option PC
  | .skip | .label _ => some .skip
  | .seq x y => (cCode P fi ng x).bind fun a => (cCode P fi ng y).map fun b => .seq a b
  | .cond c x y => (locOf (seqT fi []) ng c).bind fun l => (cCode P fi ng x).bind fun a => (cCode P fi ng y).map fun b => .cond l a b
  | .block id x => (cCode P fi ng x).map (.block id)
  | .loop x => (cCode P fi ng x).map .loop
  | .exit id => some (.exit id)
  | .ret => some .ret
  | .region _ ops false => (cReg P fi ng ops ops.toList []).map .reg
  | .region _ ops true => if P.follows .mixedOrders then if (dpOf fi ops).chk then ((dpOf fi ops).items P ng (dpOf fi ops).ord 0).bind fun l => ((dpOf fi ops).outs (List.range ops.size)).map fun o => .draw l o
    else none else none
  | _ => none

section code
variable {fi : FI} {ng n : Nat} {cf : CF} {b : Frame}

theorem ExR.normal_iff {ρ : Rho} {x : Ex} {e : Exit} (h : ExR ρ x e) : x = .normal ↔ e = .normal := by cases h <;> simp
theorem Left.defers {fi : FI} {ρ₀ : Rho} {h₀ : Heap} {w₀ : World} {K : Kont} {r : Res} {cs₀ : List Frame} {ds : List Deferred} {e : Exit} {a : Act} {cs : List Frame} {w : World}
    (h : Left fi ρ₀ h₀ w₀ K r cs₀ ds e a cs w) : a.defers = ds ∧ cs = cs₀ := ⟨h.2.1, h.1⟩

/-- a piece of code comes to what its run says -/
def CodeOk (P : Program) (fi : FI) (ng : Nat) (b : Frame) (c : Code) (run : Env → Heap → Kont → Res) : Prop :=
  ∀ ⦃env : Env⦄ ⦃h : Heap⦄ ⦃K : Kont⦄ ⦃r : Res⦄ ⦃ρ : Rho⦄ ⦃w : World⦄ ⦃a : Act⦄ ⦃cs : List Frame⦄, run env h K = r → r ≠ .fail → EnvR ρ fi env a.tmps → RH ρ h w → GlobR ρ ng →
    WP P b c (Left fi ρ h w K r cs a.defers) a cs w

theorem env0_at (x : Slot) : env0.at x = .und := by
  obtain ⟨a, b⟩ := x
  cases a <;> cases b <;> rfl
theorem savek_eq (sl : List (Slot × Sh1)) (env : Env) (k : List V → Res) : savek sl env k = k (sl.map fun p => env.at p.1) := by
  induction sl generalizing k with
  | nil => rfl
  | cons p sl ih =>
    obtain ⟨⟨x, y⟩, s⟩ := p
    show selR x env (fun row => selV y row fun v => savek sl env fun l => k (v :: l)) = _
    rw [selR_eq, selV_eq, ih]
    rfl
theorem putsk_ok {ρ : Rho} {tmps : Array Value} {env₁ : Env} (he : EnvR ρ fi env₁ tmps) : ∀ {sl : List (Slot × Sh1)} {env : Env} {k : Env → Res} {r : Res}, putsk sl (sl.map fun p => env₁.at p.1) env k = r → r ≠ .fail →
    EnvR ρ fi env tmps → ∃ env', k env' = r ∧ EnvR ρ fi env' tmps
  | [], env, k, r, hh, hr, h0 => by
    obtain ⟨_, h1⟩ := nilk'_ok (show nilk' [] (k env) = r from hh) hr
    exact ⟨env, h1, h0⟩
  | (x, s) :: sl, env, k, r, hh, hr, h0 => by
    have hh : cast1 s (env₁.at x) (fun v => envk env x v fun env => putsk sl (sl.map fun p => env₁.at p.1) env k) = r := hh
    have h1 := cast1_ok hh hr
    rw [envk_eq] at h1
    refine putsk_ok he h1 hr ⟨h0.size, fun t y h2 h3 => ?_⟩
    by_cases e : y = x
    · subst e; rw [Env.at_put]; exact he.val t y h2 h3
    · rw [Env.at_put_ne _ e]; exact h0.val t y h2 h3
theorem putsk0_ok {ρ : Rho} {tmps : Array Value} {env₁ : Env} (he : EnvR ρ fi env₁ tmps) {sl : List (Slot × Sh1)} {k : Env → Res} {r : Res} (hh : putsk sl (sl.map fun p => env₁.at p.1) env0 k = r) (hr : r ≠ .fail) :
    ∃ env', k env' = r ∧ EnvR ρ fi env' tmps := putsk_ok he hh hr ⟨he.size, fun t x _ _ => by rw [env0_at]; exact .und _⟩
theorem contk_ok {q : Res} {k : Ex → List V → Heap → Res} {r : Res} (h : contk q k = r) (hr : r ≠ .fail) : ∃ x vs h', q = .done x vs h' ∧ k x vs h' = r := by
  cases q with
  | done x vs h' => exact ⟨x, vs, h', rfl, h⟩
  | _ => exact absurd h.symm hr

theorem EnvR.frame {ρ : Rho} {env : Env} {tmps : Array Value} (e : EnvR ρ fi env tmps) : FrR ρ fi [] [] env tmps := ⟨e, ⟨by simp, by simp⟩⟩

/-- marks ahead of a piece -/
theorem marks {c : Code} (H : ∀ {pc : PC}, pc.plain → cCode P fi ng c = some pc.strip → CodeOk P fi ng b c (runC cf n pc)) : ∀ {pc : PC}, cCode P fi ng c = some pc.strip → CodeOk P fi ng b c (runC cf n pc)
  | .stop x, _ => by
    intro env h K r ρ w a cs hh hr he rh hg
    exact absurd hh.symm hr
  | .np x, hc => by
    intro env h K r ρ w a cs hh hr he rh hg
    refine (marks H (pc := x) hc (K := fun x env' h' => npk x (K x env' h')) hh hr he rh hg).mono ?_
    rintro e a' cs' w' ⟨h1, hd, x, env', h', ρ', h3, h4, h5, h6, h7⟩
    exact ⟨h1, hd, x, env', h', ρ', npk_ok h3 hr, h4, h5, h6, h7⟩
  | .skip, hc | .seq _ _, hc | .cond _ _ _, hc | .block _ _, hc | .loop _, hc | .exit _, hc | .ret, hc | .reg _, hc | .draw _ _, hc | .jn _ _ _ _, hc | .lpv _ _, hc => H trivial hc
theorem code_ok (hcf : CFok P ng cf) (hb : b.roundOf = none) : ∀ {c : Code} {pc : PC}, cCode P fi ng c = some pc.strip → CodeOk P fi ng b c (runC cf n pc)
  | .skip, _, hc => marks (fun {pc} hn hc => by
    obtain rfl : pc = .skip := by cases pc <;> simp [cCode, PC.strip, PC.plain] at hc hn <;> first | rfl | (subst hc; rfl)
    intro env h K r ρ w a cs hh _ he rh _
    exact .skip ⟨rfl, rfl, .normal, env, h, ρ, hh, .normal, he, rh, .refl _ _ _⟩) hc
  | .label l, _, hc => marks (fun {pc} hn hc => by
    obtain rfl : pc = .skip := by cases pc <;> simp [cCode, PC.strip, PC.plain] at hc hn <;> first | rfl | (subst hc; rfl)
    intro env h K r ρ w a cs hh _ he rh _
    exact .label ⟨rfl, rfl, .normal, env, h, ρ, hh, .normal, he, rh, .refl _ _ _⟩) hc
  | .exit id, _, hc => marks (fun {pc} hn hc => by
    obtain rfl : pc = .exit id := by cases pc <;> simp [cCode, PC.strip, PC.plain] at hc hn <;> first | rfl | (subst hc; rfl)
    intro env h K r ρ w a cs hh _ he rh _
    exact .exit ⟨rfl, rfl, .exit id, env, h, ρ, hh, .exit id, he, rh, .refl _ _ _⟩) hc
  | .ret, _, hc => marks (fun {pc} hn hc => by
    obtain rfl : pc = .ret := by cases pc <;> simp [cCode, PC.strip, PC.plain] at hc hn <;> first | rfl | (subst hc; rfl)
    intro env h K r ρ w a cs hh _ he rh _
    exact .ret ⟨rfl, rfl, .ret, env, h, ρ, hh, .ret, he, rh, .refl _ _ _⟩) hc
  | .seq x y, _, hc => marks (fun {pc} hn hc => by
    obtain ⟨p, h1, hc⟩ := Option.bind_eq_some_iff.1 hc
    obtain ⟨q, h2, hc⟩ := Option.map_eq_some_iff.1 hc
    rcases strip_seq hn hc with ⟨p', q', rfl, rfl, rfl⟩ | ⟨abn, sl, p', q', rfl, rfl, rfl⟩
    · intro env h K r ρ w a cs hh hr he rh hg
      refine .seq ((code_ok hcf hb h1 (K := fun x env' h' => nork x (runC cf n q' env' h' K) (K x env' h')) hh hr he rh hg).mono ?_)
      rintro e a' cs' w' ⟨rfl, hd, x, env', h', ρ', h3, h4, h5, h6, h7⟩
      cases h4 with
      | normal =>
        have := code_ok hcf hb h2 (cs := cs') h3 hr h5 h6 (hg.mono h7.le)
        rw [hd] at this
        exact this.mono fun e a cs w hl => hl.of h7
      | exit i => exact ⟨rfl, hd, .exit i, env', h', ρ', h3, .exit i, h5, h6, h7⟩
      | ret => exact ⟨rfl, hd, .ret, env', h', ρ', h3, .ret, h5, h6, h7⟩
      | pan hv => exact ⟨rfl, hd, .pan _, env', h', ρ', h3, .pan hv, h5, h6, h7⟩
    · intro env h K r ρ w a cs hh hr he rh hg
      obtain ⟨x₁, vs, h₁, e1, hh⟩ := contk_ok (show contk (runC cf n p' env h fun x env' h' => savek sl env' fun vs => .done x vs h')
        (fun x vs h' => nork x (putsk sl vs env0 fun env' => runC cf n q' env' h' K) (Bool.rec (motive := fun _ => Res) .fail (putsk (anys sl) vs env0 fun env' => K x env' h') abn)) = r from hh) hr
      refine .seq ((code_ok hcf hb h1 (K := fun x env' h' => savek sl env' fun vs => .done x vs h') e1 (by simp) he rh hg).mono ?_)
      rintro e a' cs' w' ⟨rfl, hd, x, env', h', ρ', h3, h4, h5, h6, h7⟩
      have h3 : savek sl env' (fun vs => Res.done x vs h') = Res.done x₁ vs h₁ := h3
      rw [savek_eq] at h3
      cases h3
      have abK : ∀ {r'}, Bool.rec (motive := fun _ => Res) .fail r' abn = r → r' = r := fun {r'} h => by
        cases abn with
        | false => exact absurd h.symm hr
        | true => exact h
      have anyK : ∀ {x : Ex}, putsk (anys sl) (sl.map fun p => env'.at p.1) env0 (fun env' => K x env' h₁) = r → ∃ env2, K x env2 h₁ = r ∧ EnvR ρ' fi env2 a'.tmps := fun {x} h => by
        have e : (sl.map fun p => env'.at p.1) = (anys sl).map fun p => env'.at p.1 := by simp [anys]
        rw [e] at h
        exact putsk0_ok h5 h hr
      cases h4 with
      | normal =>
        obtain ⟨env', h3, h5⟩ := putsk0_ok h5 (show putsk sl (sl.map fun p => env'.at p.1) env0 (fun env' => runC cf n q' env' h₁ K) = r from hh) hr
        have := code_ok hcf hb h2 (cs := cs') h3 hr h5 h6 (hg.mono h7.le)
        rw [hd] at this
        exact this.mono fun e a cs w hl => hl.of h7
      | exit i =>
        obtain ⟨env2, h3, h5⟩ := anyK (abK hh)
        exact ⟨rfl, hd, .exit i, env2, _, ρ', h3, .exit i, h5, h6, h7⟩
      | ret =>
        obtain ⟨env2, h3, h5⟩ := anyK (abK hh)
        exact ⟨rfl, hd, .ret, env2, _, ρ', h3, .ret, h5, h6, h7⟩
      | pan hv =>
        obtain ⟨env2, h3, h5⟩ := anyK (abK hh)
        exact ⟨rfl, hd, .pan _, env2, _, ρ', h3, .pan hv, h5, h6, h7⟩) hc
  | .cond c x y, _, hc => marks (fun {pc} hn hc => by
    obtain ⟨l, h0, hc⟩ := Option.bind_eq_some_iff.1 hc
    obtain ⟨p, h1, hc⟩ := Option.bind_eq_some_iff.1 hc
    obtain ⟨q, h2, hc⟩ := Option.map_eq_some_iff.1 hc
    obtain ⟨p', q', rfl, rfl, rfl⟩ := strip_cond hn hc
    intro env h K r ρ w a cs hh hr he rh hg
    obtain ⟨v, h3, h4⟩ := (⟨he.frame.tmp, hg, rh⟩ : Cx ρ ng (seqT fi []) [] env h w a).loc h0 (k := fun v => boolk v fun t => ifk t (runC cf n p' env h K) (runC cf n q' env h K)) hh hr
    obtain ⟨t, rfl, h5⟩ := boolk_ok h3 hr
    generalize hx : a.eval c = cv at h4
    cases h4
    refine .cond hx ?_
    rcases ifk_ne h5 with ⟨rfl, h6⟩ | ⟨rfl, h6⟩
    · exact code_ok hcf hb h1 h6 hr he rh hg
    · exact code_ok hcf hb h2 h6 hr he rh hg) hc
  | .block id x, _, hc => marks (fun {pc} hn hc => by
    obtain ⟨p, h1, hc⟩ := Option.map_eq_some_iff.1 hc
    obtain ⟨p', rfl, rfl⟩ := strip_block hn hc
    intro env h K r ρ w a cs hh hr he rh hg
    refine .block ((code_ok hcf hb h1 (K := fun x env' h' => exk id x (K .normal env' h') (K x env' h')) hh hr he rh hg).mono ?_)
    rintro e a' cs' w' ⟨rfl, hd, x, env', h', ρ', h3, h4, h5, h6, h7⟩
    cases h4 with
    | normal => exact ⟨rfl, hd, .normal, env', h', ρ', h3, .normal, h5, h6, h7⟩
    | exit i =>
      simp only [blockP]
      rcases ifk_ne h3 with ⟨e, h8⟩ | ⟨e, h8⟩
      · rw [if_pos (Nat.eq_of_beq_eq_true e)]
        exact ⟨rfl, hd, .normal, env', h', ρ', h8, .normal, h5, h6, h7⟩
      · rw [if_neg (by rintro rfl; rw [Nat.beq_refl] at e; cases e)]
        exact ⟨rfl, hd, .exit i, env', h', ρ', h8, .exit i, h5, h6, h7⟩
    | ret => exact ⟨rfl, hd, .ret, env', h', ρ', h3, .ret, h5, h6, h7⟩
    | pan hv => exact ⟨rfl, hd, .pan _, env', h', ρ', h3, .pan hv, h5, h6, h7⟩) hc
  | .loop x, _, hc => marks (fun {pc} hn hc => by
    obtain ⟨p, h1, hc⟩ := Option.map_eq_some_iff.1 hc
    rcases strip_loop hn hc with ⟨p', rfl, rfl⟩ | ⟨sl, p', rfl, rfl⟩
    · intro env h K r ρ w a cs hh hr he rh hg
      refine .loop (fun m a' cs' w' => cs' = cs ∧ a'.defers = a.defers ∧ ∃ env' h' ρ', loopk (runC cf n p') m env' h' K = r ∧ EnvR ρ' fi env' a'.tmps ∧ RH ρ' h' w' ∧ Ext ρ h w ρ' h' w')
        ⟨n, rfl, rfl, env, h, ρ, hh, he, rh, .refl _ _ _⟩ ?_ ?_
      · rintro m a' cs' w' ⟨rfl, hd, env', h', ρ', h2, h3, h4, h5⟩
        have h6 := code_ok hcf hb h1 (cs := cs') (K := fun x env' h' => nork x (loopk (runC cf n p') m env' h' K) (K x env' h')) h2 hr h3 h4 (hg.mono h5.le)
        refine h6.mono ?_
        rintro e a'' cs'' w'' ⟨rfl, hd', x, env'', h'', ρ'', h7, h8, h9, h10, h11⟩
        rw [hd] at hd'
        cases h8 with
        | normal => exact ⟨rfl, hd', env'', h'', ρ'', h7, h9, h10, h5.trans h11⟩
        | exit i => exact ⟨rfl, hd', .exit i, env'', h'', ρ'', h7, .exit i, h9, h10, h5.trans h11⟩
        | ret => exact ⟨rfl, hd', .ret, env'', h'', ρ'', h7, .ret, h9, h10, h5.trans h11⟩
        | pan hv => exact ⟨rfl, hd', .pan _, env'', h'', ρ'', h7, .pan hv, h9, h10, h5.trans h11⟩
      · rintro a' cs' w' ⟨_, _, env', h', ρ', h2, _⟩
        exact hr h2.symm
    · intro env h K r ρ w a cs hh hr he rh hg
      have hh : savek sl env (fun vs => lpk (fun again vs h => putsk sl vs env0 fun env => runC cf n p' env h fun x env' h' => nork x (savek sl env' fun vs' => again vs' h') (K x env' h')) n vs h) = r := hh
      rw [savek_eq] at hh
      refine .loop (fun m a' cs' w' => cs' = cs ∧ a'.defers = a.defers ∧ ∃ env' h' ρ', lpk (fun again vs h => putsk sl vs env0 fun env => runC cf n p' env h fun x env' h' =>
          nork x (savek sl env' fun vs' => again vs' h') (K x env' h')) m (sl.map fun p => env'.at p.1) h' = r ∧ EnvR ρ' fi env' a'.tmps ∧ RH ρ' h' w' ∧ Ext ρ h w ρ' h' w')
        ⟨n, rfl, rfl, env, h, ρ, hh, he, rh, .refl _ _ _⟩ ?_ ?_
      · rintro m a' cs' w' ⟨rfl, hd, env', h', ρ', h2, h3, h4, h5⟩
        obtain ⟨env1, h2, h3⟩ := putsk0_ok h3 (show putsk sl (sl.map fun p => env'.at p.1) env0 (fun env => runC cf n p' env h' fun x env' h' =>
          nork x (savek sl env' fun vs' => lpk (fun again vs h => putsk sl vs env0 fun env => runC cf n p' env h fun x env' h' => nork x (savek sl env' fun vs' => again vs' h') (K x env' h')) m vs' h') (K x env' h')) = r from h2) hr
        have h6 := code_ok hcf hb h1 (cs := cs') (K := fun x env' h' => nork x (savek sl env' fun vs' => lpk (fun again vs h => putsk sl vs env0 fun env => runC cf n p' env h fun x env' h' =>
          nork x (savek sl env' fun vs' => again vs' h') (K x env' h')) m vs' h') (K x env' h')) h2 hr h3 h4 (hg.mono h5.le)
        refine h6.mono ?_
        rintro e a'' cs'' w'' ⟨rfl, hd', x, env'', h'', ρ'', h7, h8, h9, h10, h11⟩
        rw [hd] at hd'
        cases h8 with
        | normal =>
          have h7 : savek sl env'' (fun vs' => lpk (fun again vs h => putsk sl vs env0 fun env => runC cf n p' env h fun x env' h' => nork x (savek sl env' fun vs' => again vs' h') (K x env' h')) m vs' h'') = r := h7
          rw [savek_eq] at h7
          exact ⟨rfl, hd', env'', h'', ρ'', h7, h9, h10, h5.trans h11⟩
        | exit i => exact ⟨rfl, hd', .exit i, env'', h'', ρ'', h7, .exit i, h9, h10, h5.trans h11⟩
        | ret => exact ⟨rfl, hd', .ret, env'', h'', ρ'', h7, .ret, h9, h10, h5.trans h11⟩
        | pan hv => exact ⟨rfl, hd', .pan _, env'', h'', ρ'', h7, .pan hv, h9, h10, h5.trans h11⟩
      · rintro a' cs' w' ⟨_, _, env', h', ρ', h2, _⟩
        exact hr h2.symm) hc
  | .region id ops false, _, hc => marks (fun {pc} hn hc => by
    obtain ⟨l, h1, hc⟩ := Option.map_eq_some_iff.1 hc
    obtain rfl : pc = .reg l := by cases pc <;> simp only [PC.strip, PC.reg.injEq, reduceCtorEq, PC.plain] at hc hn; subst hc; rfl
    intro env h K r ρ w a cs hh hr he rh hg
    refine .region ?_
    have := reg_ok (b := b) (cs := cs) (i := 0) hcf hb hr h1 (fun j => by simp) hh he.frame rh hg
    rwa [Array.length_toList, ← List.range_eq_range'] at this) hc
  | .region id ops true, _, hc => marks (fun {pc} hn hc => by
    simp only [cCode] at hc
    split at hc
    · rename_i hm
      split at hc
      · rename_i hd
        obtain ⟨l, h1, hc⟩ := Option.bind_eq_some_iff.1 hc
        obtain ⟨o, h2, hc⟩ := Option.map_eq_some_iff.1 hc
        obtain rfl : pc = .draw l o := by cases pc <;> simp only [PC.strip, PC.draw.injEq, reduceCtorEq, PC.plain] at hc hn; obtain ⟨rfl, rfl⟩ := hc; rfl
        intro env h K r ρ w a cs hh hr he rh hg
        exact draw_ok hm hcf hb hr hd h1 h2 hh he rh hg
      · cases hc
    · cases hc) hc
end code
end Go.Ev
