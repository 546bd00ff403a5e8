/- EVALUATOR: the rounds of a loop over a function: prepared, run; they come to what their run says. -/
import Derived.Test.YtacpbnjbbkhngaaGreatDoorEvDefer
namespace Go.Ev
variable {P : Program}

structure PR where
  (inl mask : Nat)
  (ps : List (Slot × Sh1))
  (asg body : PC)
def PR.strip (p : PR) : PR := ⟨p.inl, 0, p.ps, p.asg.strip, p.body.strip⟩
def anyOf (l : List Slot) : List (Slot × Sh1) := l.map fun x => (x, .any)
theorem anyOf_fst (l : List Slot) : (anyOf l).map (·.1) = l := by simp [anyOf, Function.comp_def]
def prepL (P : Program) (ng : Nat) (fi : FI) (id : Nat) : Option PR :=
  (roundAt P id).bind fun x => (P.funcs[x.1]?).bind fun fn => if fn.ntmps = fi.nt ∧ (x.2.1.toList.all fun t => Nat.blt t fi.nt) = true then
    (slots fi x.2.1.toList).bind fun ps => (cCode P fi ng none x.2.2.1).bind fun a => (cCode P fi ng none x.2.2.2).map fun b => ⟨fi.inl, 0, anyOf ps, a, b⟩
  else none

/-- the first values into a frame -/
noncomputable def bindsk (sl : List (Slot × Sh1)) (l : List V) (env : Env) (k : List V → Env → Res) : Res :=
  List.rec (motive := fun _ => List V → Env → Res) (fun l env => k l env) (fun p _ ih l env => Prod.rec (motive := fun _ => Res) (fun x _ => unc l fun v l => envk env x v fun env => ih l env) p) sl l env
noncomputable def beginrk (b : Bid) (h : Heap) (k : Heap → Res) : Res :=
  h.getk b fun y => obk y fun y => lpq y fun id mask vs st pd => zk st (h.turnk b (.ob (.lp id mask vs 1 pd)) k) .fail
noncomputable def endrk (b : Bid) (x : Ex) (h : Heap) : Res :=
  h.getk b fun y => obk y fun y => lpq y fun id mask vs _ _ =>
    Ex.rec (motive := fun _ => Res) (h.turnk b (.ob (.lp id mask vs 0 0)) fun h' => .ret (.bool .true) h') (fun i => h.turnk b (.ob (.lp id mask vs 2 (Nat.succ (Nat.succ i)))) fun h' => .ret (.bool .false) h')
      (h.turnk b (.ob (.lp id mask vs 2 1)) fun h' => .ret (.bool .false) h') (fun _ => .fail) x
noncomputable def runRg (sem : OX → Do) (n : Nat) (cf : CF) (p : PR) (args : List V) (h : Heap) : Res :=
  PR.rec (motive := fun _ => Res) (fun inl mask ps asg body => unc args fun m l => unc l fun b l => intk m fun _ mm => ifk (ieq mm (.ofNat mask)) (ifk (Nat.beq (Nat.land mask inl) 0) (ptrk b fun bb _ =>
    bindsk (maskSl mask) l env0 fun l env => bindsk ps l env fun l env => nilk' l (runCg sem cf n asg env h fun x env h => nork x (beginrk bb h fun h => runCg sem cf n body env h fun x _ h => endrk bb x h) .fail)) .fail) .fail) p

section
variable {ρ : Rho} {tmps : Array Value}
/-- a frame that holds what the temporaries hold -/
def Full (ρ : Rho) (env : Env) (tmps : Array Value) : Prop := ∀ t x, slotOf t = some x → VR ρ (env.at x) (tmps.getD t Go.undef)
theorem bindsk_mask : ∀ {ts : List Nat} {vs us : List V} {env : Env} {k : List V → Env → Res} {r : Res}, (∀ t ∈ ts, t < 256) →
    bindsk (ts.map fun t => (⟨D.ofNat (t / 16), D.ofNat (t % 16)⟩, .any)) (vs ++ us) env k = r → r ≠ .fail → VRs ρ vs (ts.map fun t => tmps.getD t Go.undef) → Full ρ env tmps → ∃ env', k us env' = r ∧ Full ρ env' tmps
  | [], vs, us, env, k, r, _, hh, hr, hv, hf => by
    cases hv
    exact ⟨env, hh, hf⟩
  | t :: ts, vs, us, env, k, r, ht, hh, hr, hv, hf => by
    cases hv with | cons h1 h2 =>
    rename_i v vs
    have hh : envk env ⟨D.ofNat (t / 16), D.ofNat (t % 16)⟩ v (fun env => bindsk (ts.map fun t => (⟨D.ofNat (t / 16), D.ofNat (t % 16)⟩, .any)) (vs ++ us) env k) = r := hh
    rw [envk_eq] at hh
    refine bindsk_mask (fun u hu => ht u (by simp [hu])) hh hr h2 fun t' y hy => ?_
    have hs : slotOf t = some ⟨D.ofNat (t / 16), D.ofNat (t % 16)⟩ := by simp [slotOf, ht t (by simp)]
    by_cases e : y = ⟨D.ofNat (t / 16), D.ofNat (t % 16)⟩
    · subst e
      obtain rfl := slotOf_inj hy hs
      rw [Env.at_put]; exact h1
    · rw [Env.at_put_ne _ e]; exact hf t' y hy
theorem bindsk_ps {fi : FI} : ∀ {pl : List Nat} {sl : List Slot} {us : List V} {args : List Value} {env : Env} {k : List V → Env → Res} {r : Res} {tmps : Array Value}, slots fi pl = some sl → (∀ t ∈ pl, t < tmps.size) →
    bindsk (anyOf sl) us env (fun l env => nilk' l (k l env)) = r → r ≠ .fail → VRs ρ us args → Full ρ env tmps →
    pl.length = args.length ∧ ∃ env', k [] env' = r ∧ Full ρ env' ((pl.zip args).foldl (fun tmps x => tmps.setIfInBounds x.1 x.2) tmps)
  | [], sl, us, args, env, k, r, tmps, hs, _, hh, hr, hv, hf => by
    cases hs
    obtain ⟨rfl, h1⟩ := nilk'_ok (show nilk' us (k us env) = r from hh) hr
    cases hv
    exact ⟨rfl, env, h1, hf⟩
  | t :: pl, sl, us, args, env, k, r, tmps, hs, ht, hh, hr, hv, hf => by
    simp only [slots] at hs
    split at hs
    · cases hs
    · obtain ⟨x, hx, hs⟩ := Option.bind_eq_some_iff.1 hs
      obtain ⟨m, h2, rfl⟩ := Option.map_eq_some_iff.1 hs
      obtain ⟨v, us', rfl, h1⟩ := unc_ok (show unc us (fun v l => envk env x v fun env => bindsk (anyOf m) l env fun l env => nilk' l (k l env)) = r from hh) hr
      cases hv with | cons hv1 hv2 =>
      rename_i y ys
      rw [envk_eq] at h1
      have hlt := ht t (by simp)
      obtain ⟨h3, env', h4, h5⟩ := bindsk_ps (tmps := tmps.setIfInBounds t y) h2 (fun u hu => by simpa using ht u (by simp [hu])) h1 hr hv2 (fun t' z hz => by
        by_cases e : z = x
        · subst e
          obtain rfl := slotOf_inj hz hx
          rw [Env.at_put, Array.getD_eq_getD_getElem?, Array.getElem?_setIfInBounds_self_of_lt hlt]; exact hv1
        · rw [Env.at_put_ne _ e]
          have hne : t ≠ t' := by rintro rfl; rw [hx] at hz; cases hz; exact e rfl
          rw [Array.getD_eq_getD_getElem?, Array.getElem?_setIfInBounds_ne hne, ← Array.getD_eq_getD_getElem?]
          exact hf t' z hz)
      exact ⟨by simp [h3], env', h4, h5⟩
theorem full_env0 : Full ρ env0 tmps := fun t x _ => by rw [env0_at]; exact .und _
theorem fold_size : ∀ (l : List (Nat × Value)) (tmps : Array Value), (l.foldl (fun tmps x => tmps.setIfInBounds x.1 x.2) tmps).size = tmps.size
  | [], _ => rfl
  | x :: l, tmps => by rw [List.foldl_cons, fold_size l]; simp
theorem roundTmps_eq (r : Loop) (args : Array Value) : roundTmps r args = (r.params.toList.zip args.toList).foldl (fun tmps x => tmps.setIfInBounds x.1 x.2) r.tmps := by
  unfold roundTmps
  rw [← Array.foldl_toList, Array.toList_zip]

variable {ng n : Nat} {fi : FI} {cf : CF}
/-- a loop's block and its record -/
theorem lp_at {h : Heap} {w : World} (rh : RH P ρ h w) {b : Bid} {lp S : Nat} (hb : ρ b = some (lp, 0, S)) {id mask st pd : Nat} {vs : List V} (hx : h.t.get b = .ob (.lp id mask vs st pd)) :
    ∃ r fn, w.heap[lp]? = some (.loop r) ∧ roundAt P id = some (r.fn, r.params, r.assign, r.body) ∧ P.funcs[r.fn]? = some fn ∧ r.tmps.size = fn.ntmps ∧
      VRs ρ vs ((maskL mask).map fun t => r.tmps.getD t Go.undef) ∧ StR st r.state ∧ PendR pd r.pending := by
  obtain ⟨o, h1, h2, _⟩ := rh.ob _ _ _ _ _ hb hx
  obtain ⟨r, rfl⟩ : ∃ r, o = .loop r := by cases o <;> first | exact ⟨_, rfl⟩ | exact absurd h2 (fun x => x)
  obtain ⟨fn, h3, h4, h5, h6, h7, h8⟩ := h2
  exact ⟨r, fn, h1, h3, h4, h5, h6, h7, h8⟩
theorem lp_turn {h : Heap} {w : World} (rh : RH P ρ h w) {b : Bid} {lp S : Nat} (hb : ρ b = some (lp, 0, S)) {id mask st pd : Nat} {vs : List V} (hx : h.t.get b = .ob (.lp id mask vs st pd)) {r : Loop} (hr : w.heap[lp]? = some (.loop r))
    {st' pd' : Nat} {s : LoopState} {j : Option Code} (hS : StR st' s) (hP : PendR pd' j) :
    RH P ρ (h.turn b (.ob (.lp id mask vs st' pd'))) (w.putObj lp (.loop { r with state := s, pending := j })) ∧ Ext ρ h w ρ (h.turn b (.ob (.lp id mask vs st' pd'))) (w.putObj lp (.loop { r with state := s, pending := j })) := by
  obtain ⟨r', fn, h1, h2, h3, h4, h5, _, _⟩ := lp_at rh hb hx
  rw [hr] at h1; cases h1
  exact turn rh hb (by rw [hx]; rfl) (o := .loop { r with state := s, pending := j }) rfl rfl rfl (by simp [World.putObj]) (World.putObj_heap_same (Array.getElem?_eq_some_iff.1 hr).1) (fun k hk => World.putObj_heap_other hk)
    (fun _ _ _ _ e => by cases e) (fun x' e => by cases e; exact ⟨⟨fn, h2, h3, h4, h5, hS, hP⟩, rfl⟩)

theorem round_ok (hcf : CFok P ng cf) {id : Nat} {p : PR} (hp : prepL P ng fi id = some p.strip) : RnOk P ng id (runRg semOX n cf p) := by
  intro l h r hh hr mask b vs us hl ρ w lp S pd args rh hg hb hx hv
  subst hl
  obtain ⟨⟨f, ps, asg, body⟩, h1, hp⟩ := Option.bind_eq_some_iff.1 hp
  obtain ⟨fn, h2, hp⟩ := Option.bind_eq_some_iff.1 hp
  simp only at h2 hp
  split at hp
  · rename_i hnt
    obtain ⟨hnt, hps⟩ := hnt
    obtain ⟨sl, h3, hp⟩ := Option.bind_eq_some_iff.1 hp
    obtain ⟨pa, h4, hp⟩ := Option.bind_eq_some_iff.1 hp
    obtain ⟨pb, h5, hp⟩ := Option.map_eq_some_iff.1 hp
    obtain ⟨inl, mk, ps', pa', pb'⟩ := p
    simp only [PR.strip, PR.mk.injEq] at hp
    obtain ⟨rfl, _, rfl, rfl, rfl⟩ := hp
    have hh : ifk (ieq (.ofNat mask) (.ofNat mk)) (ifk (Nat.beq (Nat.land mk fi.inl) 0) (bindsk (maskSl mk) (vs ++ us) env0 fun l env => bindsk (anyOf sl) l env fun l env =>
      nilk' l (runCg semOX cf n pa' env h fun x env h => nork x (beginrk b h fun h => runCg semOX cf n pb' env h fun x _ h => endrk b x h) .fail)) .fail) .fail = r := hh
    obtain ⟨e1, hh⟩ := ifk_fail hh hr
    obtain rfl : mask = mk := by rw [ieq_eq] at e1; simp at e1; omega
    obtain ⟨e2, hh⟩ := ifk_fail hh hr
    obtain ⟨rl, fn', g1, g2, g3, g4, g5, g6, g7⟩ := lp_at rh hb hx
    rw [h1] at g2; cases g2
    rw [h2] at g3; cases g3
    have hsz : rl.tmps.size = fi.nt := by rw [g4, hnt]
    obtain ⟨env1, hh, f1⟩ := bindsk_mask (fun t ht => by simp only [maskL, List.mem_filter, List.mem_range] at ht; exact ht.1) hh hr g5 full_env0
    obtain ⟨hlen, env2, hh, f2⟩ := bindsk_ps h3 (fun t ht => by
      have := List.all_eq_true.1 hps t ht
      rw [hsz]; simpa [Nat.blt_eq] using this) hh hr hv f1
    rw [← roundTmps_eq rl args.toArray] at f2
    have he : EnvR ρ fi env2 (roundTmps rl args.toArray) := ⟨by rw [roundTmps_eq, fold_size, hsz], fun t x h6 _ => f2 t x h6⟩
    refine rounds_of g1 (by simp [← hlen]) fun cs => ?_
    refine (code_plain (b := rbase lp rl.fn) (cs := cs) (a := { tmps := roundTmps rl args.toArray, defers := [] }) hcf h4 hh hr he rh hg).mono ?_
    rintro e a₁ cs₁ w₁ ⟨rfl, hd, x, env3, h', ρ', k1, k2, k3, k4, k5⟩
    cases k2 with
    | normal =>
      have k1 : beginrk b h' (fun h => runCg semOX cf n pb' env3 h fun x _ h => endrk b x h) = r := k1
      unfold beginrk at k1
      rw [Heap.getk_eq] at k1
      obtain ⟨ob, hob, k1a⟩ := obk_ok k1 hr
      obtain ⟨id', mask', vs', st, pd', rfl, k1b⟩ := lpq_ok k1a hr
      obtain ⟨rfl, k1c⟩ := zk_fail k1b hr
      clear k1 k1a k1b
      rw [Heap.turnk_eq] at k1c
      have k1 := k1c
      have hb' := k5.le _ _ hb
      obtain ⟨r2, _, q1, _, _, _, _, q6, q7⟩ := lp_at k4 hb' hob
      have hrdy : r2.state = .ready := by cases hs : r2.state <;> rw [hs] at q6 <;> first | rfl | exact q6.elim
      obtain ⟨rh2, x2⟩ := lp_turn k4 hb' hob q1 (st' := 1) (pd' := pd') (s := .busy) (j := r2.pending) trivial q7
      refine ⟨rfl, rfl, _, run_beginRound q1 hrdy, ?_⟩
      refine (code_plain (b := rbase lp rl.fn) (cs := cs₁) (a := a₁) hcf h5 k1 hr (k3.mono x2.le) rh2 ((hg.mono k5.le).mono x2.le)).mono ?_
      rintro e a₂ cs₂ w₂ ⟨rfl, _, x, env4, h2', ρ2, m1, m2, m3, m4, m5⟩
      have hb2 := m5.le _ _ (x2.le _ _ hb')
      have m1 : endrk b x h2' = r := m1
      unfold endrk at m1
      rw [Heap.getk_eq] at m1
      obtain ⟨ob2, hob2, m1a⟩ := obk_ok m1 hr
      obtain ⟨id2, mask2, vs2, st2, pd2, rfl, m1b⟩ := lpq_ok m1a hr
      clear m1 m1a
      have m1 := m1b
      clear m1b
      obtain ⟨r3, _, q1', _, _, _, _, _, _⟩ := lp_at m4 hb2 hob2
      have X := (k5.trans x2).trans m5
      cases m2 with
      | normal =>
        have m1 : h2'.turnk b (.ob (.lp id2 mask2 vs2 0 0)) (fun h' => .ret (.bool .true) h') = r := m1
        rw [Heap.turnk_eq] at m1
        subst m1
        obtain ⟨rh3, x3⟩ := lp_turn m4 hb2 hob2 q1' (st' := 0) (pd' := 0) (s := .ready) (j := none) trivial trivial
        exact ⟨rfl, _, _, run_endRound none q1', ρ2, _, rfl, .bool true, rh3, X.trans x3⟩
      | exit i =>
        have m1 : h2'.turnk b (.ob (.lp id2 mask2 vs2 2 (Nat.succ (Nat.succ i)))) (fun h' => .ret (.bool .false) h') = r := m1
        rw [Heap.turnk_eq] at m1
        subst m1
        obtain ⟨rh3, x3⟩ := lp_turn m4 hb2 hob2 q1' (st' := 2) (pd' := i + 2) (s := .done) (j := some (.exit i)) trivial rfl
        exact ⟨rfl, _, _, run_endRound (some (.exit i)) q1', ρ2, _, rfl, .bool false, rh3, X.trans x3⟩
      | ret =>
        have m1 : h2'.turnk b (.ob (.lp id2 mask2 vs2 2 1)) (fun h' => .ret (.bool .false) h') = r := m1
        rw [Heap.turnk_eq] at m1
        subst m1
        obtain ⟨rh3, x3⟩ := lp_turn m4 hb2 hob2 q1' (st' := 2) (pd' := 1) (s := .done) (j := some .ret) trivial trivial
        exact ⟨rfl, _, _, run_endRound (some .ret) q1', ρ2, _, rfl, .bool false, rh3, X.trans x3⟩
      | pan _ => exact absurd m1.symm hr
    | exit i => exact absurd k1.symm hr
    | ret => exact absurd k1.symm hr
    | pan _ => exact absurd k1.symm hr
  · cases hp
end

/- OUT OF THE PROGRAM'S OWN TEXT -/
theorem prepL_strip {ng : Nat} {fi : FI} {id : Nat} {p : PR} (h : prepL P ng fi id = some p) : p.strip = p := by
  obtain ⟨x, _, h⟩ := Option.bind_eq_some_iff.1 h
  obtain ⟨fn, _, h⟩ := Option.bind_eq_some_iff.1 h
  split at h
  · obtain ⟨sl, _, h⟩ := Option.bind_eq_some_iff.1 h
    obtain ⟨a, h1, h⟩ := Option.bind_eq_some_iff.1 h
    obtain ⟨b, h2, rfl⟩ := Option.map_eq_some_iff.1 h
    simp [PR.strip, cCode_strip h1, cCode_strip h2]
  · cases h
/-- with remarks -/
def PR.ann (p : PR) (mask : Nat) (np : Bool) (A : List An) : PR :=
  let q := p.asg.ann np A
  ⟨p.inl, mask, p.ps, q.1, (p.body.ann np q.2).1⟩
noncomputable def runPLg (P : Program) (ng : Nat) (fi : FI) (id mask : Nat) (np : Bool) (A : List An) (sem : OX → Do) (n : Nat) (cf : CF) (args : List V) (h : Heap) : Res :=
  Option.rec (motive := fun _ => Res) .fail (fun p => runRg sem n cf (p.ann mask np A) args h) (prepL P ng fi id)
theorem semOXg_wordsR {n : Nat} {cf : CF} {p : PR} {args : List V} {h : Heap} : runRg (semOXg words) n cf p args h = runRg semOX n cf p args h := by rw [semOXg_words]
theorem POok.of_textL {ng f : Nat} (id : Nat) (fi : FI) (mask : Nat) (np : Bool) (A : List An) {sh : Words → Nat → CF → List V → Heap → Res} (h2 : ∀ S n cf ar h, runPLg P ng fi id mask np A (semOXg S) n cf ar h = sh S n cf ar h)
    (hf : 32768 ≤ f) (hi : f - 32768 = id) : POok P ng f (.sh (sh words)) := by
  intro m cf hcf
  cases hp : prepL P ng fi id with
  | none =>
    refine .none fun l h => ?_
    have h3 := h2 words m cf l h
    rw [semOXg_words] at h3
    unfold runPLg at h3
    rw [hp] at h3
    exact h3.symm
  | some p =>
    refine .rn ?_ hf
    have e : sh words m cf = runRg semOX m cf (p.ann mask np A) := by
      funext l h
      have h3 := h2 words m cf l h
      rw [semOXg_words] at h3
      unfold runPLg at h3
      rw [hp] at h3
      exact h3.symm
    rw [e, hi]
    refine round_ok (fi := fi) hcf ?_
    rw [hp]
    have hs := prepL_strip hp
    obtain ⟨inl, mk, ps, a, b⟩ := p
    simp only [PR.strip, PR.mk.injEq] at hs
    simp [PR.strip, PR.ann, PC.ann_strip, hs]
end Go.Ev
