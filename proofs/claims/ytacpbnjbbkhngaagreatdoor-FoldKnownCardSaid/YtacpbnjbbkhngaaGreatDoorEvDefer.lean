/- EVALUATOR: functions that put off one call of a function of their own, which asks at once whether there is a panic ('recover'). -/
import Derived.Test.YtacpbnjbbkhngaaGreatDoorEvAnn
namespace Go.Ev
variable {P : Program}

/-- a function's text that is put off: what stands behind 'recover' in its first region; its code; where its captured values lie -/
structure PFd where
  reg : List RI
  code : PC
  args : List (Slot × Sh1)
/-- a function that puts off a call: code ahead; the region that ends in 'defer'; where the function's value lies; which function; code behind -/
structure PFD where
  pre : List PC
  reg : List RI
  clo : Loc
  g : Nat
  d : PFd
  rest : PC
  args : List (Slot × Sh1)
  res : List RS

def PFd.strip (p : PFd) : PFd := ⟨p.reg, p.code.strip, p.args⟩
def PFD.strip (p : PFD) : PFD := ⟨p.pre.map PC.strip, p.reg, p.clo, p.g, p.d.strip, p.rest.strip, p.args, p.res⟩
/-- how it ends: normally, or not at all -/
noncomputable def runFdg (sem : OX → Do) (n : Nat) (cf : CF) (p : PFd) (cap : List V) (h : Heap) (pv : V) : Res :=
  PFd.rec (motive := fun _ => Res) (fun reg code sl => argk sl cap env0 fun env => runLg sem cf reg [pv] env h fun x env h => nork x (runCg sem cf n code env h fun x _ h => endk x (.ret .skip h) fun _ => .fail) .fail) p
/-- the call that was put off -/
noncomputable def offk (sem : OX → Do) (n : Nat) (cf : CF) (d : PFd) (cap : List V) (h : Heap) (pv : V) (k : Heap → Res) : Res :=
  backk (runFdg sem n cf d cap h pv) (fun _ h' => k h') fun _ _ => .fail
noncomputable def runPre (sem : OX → Do) (n : Nat) (cf : CF) (l : List PC) (env : Env) (h : Heap) (k : Env → Heap → Res) : Res :=
  List.rec (motive := fun _ => Env → Heap → Res) (fun env h => k env h) (fun p _ ih env h => runCg sem cf n p env h fun x env h => nork x (ih env h) .fail) l env h
noncomputable def runFDg (sem : OX → Do) (n : Nat) (cf : CF) (p : PFD) (args : List V) (h : Heap) : Res :=
  PFD.rec (motive := fun _ => Res) (fun pre reg clo g d rest sl res => argk sl args env0 fun env => runPre sem n cf pre env h fun env h => runLg sem cf reg [] env h fun x env h => nork x
    (getk clo [] env fun fv => fnk fv fun F cap => ifk (Nat.beq F g) (runCg sem cf n rest env h fun x env h => endk x
      (offk sem n cf d cap h .nili fun h => resk res env h fun l => soloV l fun v => .ret v h)
      fun v => iffk v (offk sem n cf d cap h v fun h => resk res env h fun l => soloV l fun v => .ret v h)) .fail) .fail) p

/- PREPARING -/
def prepR (P : Program) (ng : Nat) (fi : FI) (g : Nat) : Option PFd :=
  match P.funcs[g]? with
  | some fn => match fn.body with
    | some (.seq (.region _ ops false) rest) => match ops.toList with
      | o :: l => match o.dst, o.op, o.guard with
        | some t, .call { callee := .builtin .recover, args := ⟨[]⟩, .. }, none =>
          if fn.name == "runtime.NumGoroutine" then none else
          if fn.ntmps = fi.nt ∧ fn.params.size = 0 ∧ fn.results.size = 0 ∧ fn.nfree ≤ fi.nt ∧ t < fi.nt ∧ fi.inl.testBit t = true then
            (cReg P fi ng ops l [(t, .s 0)]).bind fun rg => (cCode P fi ng none rest).bind fun pc => (slots fi (List.range fn.nfree)).map fun as => ⟨rg, pc, attach P as []⟩
          else none
        | _, _, _ => none
      | [] => none
    | _ => none
  | none => none
def isDefer (o : Oper) : Bool := match o.op with
  | .defer _ => true
  | _ => false
/-- code ahead; the region; code behind -/
def splitD : Code → Option (List Code × Array Oper × Code)
  | .seq x y => match x with
    | .region _ ops false => if (ops.toList.getLast?.map isDefer).getD false then some ([], ops, y) else (splitD y).map fun q => (x :: q.1, q.2.1, q.2.2)
    | _ => (splitD y).map fun q => (x :: q.1, q.2.1, q.2.2)
  | _ => none
def codesOf (P : Program) (fi : FI) (ng : Nat) : List Code → Option (List PC)
  | [] => some []
  | c :: l => (cCode P fi ng none c).bind fun a => (codesOf P fi ng l).map fun b => a :: b
def prepD (P : Program) (ng : Nat) (fi fid : FI) (f g : Nat) : Option PFD :=
  match P.funcs[f]? with
  | some fn => match fn.body with
    | some c => if fn.name == "runtime.NumGoroutine" then none else if fn.ntmps = fi.nt ∧ fn.params.size + fn.nfree ≤ fi.nt ∧ g < 65536 ∧ f < 32768 then
        (splitD c).bind fun q => (q.2.1.toList.getLast?).bind fun o => match o.op, o.guard, o.dst with
          | .defer { callee := .value (.tmp t), args := ⟨[]⟩, .. }, none, none => if fi.inl.testBit t then none else
            (codesOf P fi ng q.1).bind fun pre => (cReg P fi ng q.2.1 q.2.1.toList.dropLast []).bind fun rg => (slotOf t).bind fun x => (prepR P ng fid g).bind fun d =>
            (cCode P fi ng none q.2.2).bind fun rest => (slots fi (List.range (fn.params.size + fn.nfree))).bind fun as => (ress P fi fn.results.toList).map fun rs => ⟨pre, rg, .e x, g, d, rest, attach P as fn.params.toList, rs⟩
          | _, _, _ => none
      else none
    | none => none
  | none => none

section ok
variable {ng n : Nat} {fi fid : FI} {cf : CF} {ops : Array Oper} {b : Frame} {r : Res}
/-- operations of a region, ahead of others -/
theorem reg_ahead (hcf : CFok P ng cf) (hb : b.roundOf = none) (hr : r ≠ .fail) {K : Kont} (hK : ∀ u env h, K (.pan u) env h = .fail) {Q : Post} {tail : List Nat} {cs : List Frame} {ds : List Deferred}
    {ρ₀ : Rho} {h₀ : Heap} {w₀ : World}
    (base : ∀ {env : Env} {h : Heap} {ρ : Rho} {w : World} {a : Act}, K .normal env h = r → EnvR ρ fi env a.tmps → RH P ρ h w → GlobR ρ ng → Ext ρ₀ h₀ w₀ ρ h w → a.defers = ds → WO P b ops tail Q a cs w) :
    ∀ {l : List Oper} {i : Nat} {T : List (Nat × Loc)} {ris : List RI}, cReg P fi ng ops l T = some ris → (∀ j, j < l.length → ops[i + j]? = l[j]?) →
    ∀ {L : List V} {env : Env} {h : Heap} {ρ : Rho} {w : World} {a : Act}, runL cf ris L env h K = r → FrR ρ fi T L env a.tmps → RH P ρ h w → GlobR ρ ng → Ext ρ₀ h₀ w₀ ρ h w → a.defers = ds →
    WO P b ops (List.range' i l.length ++ tail) Q a cs w
  | [], i, T, ris, hc, hi, L, env, h, ρ, w, a, hh, hf, rh, hg, hx, hds => by
    cases hc
    exact base hh hf.env rh hg hx hds
  | o :: l, i, T, ris, hc, hi, L, env, h, ρ, w, a, hh, hf, rh, hg, hx, hds => by
    have ho : ops[i]? = some o := by have := hi 0 (by simp); simpa using this
    have hi' : ∀ j, j < l.length → ops[i + 1 + j]? = l[j]? := fun j hj => by
      have := hi (j + 1) (by simp; omega)
      rw [show i + 1 + j = i + (j + 1) by omega]; simpa using this
    rw [List.length_cons, List.range'_succ, List.cons_append]
    simp only [cReg] at hc
    split at hc
    · rename_i p hp
      obtain ⟨x, hw, hdst, hlt, hin, hop, hl⟩ := alias_ok hp
      have hv := fun v h => locOf_at (v := v) hl h hf.tmp hg
      refine .value (v := a.eval x) (w' := w) ho (by simp [Region.wanted, hw]) (.inl hb) ?_ ?_
      · rcases hop with hop | hop <;> simp [execOp, hop]
      · exact reg_ahead hcf hb hr hK base hc hi' (a := a.put o.dst (a.eval x)) hh (by rw [hdst]; exact hf.name hlt hin hv) rh hg hx (by rw [← hds, hdst]; rfl)
    obtain ⟨v, h1, hc⟩ := Option.bind_eq_some_iff.1 hc
    obtain ⟨⟨d, T'⟩, h2, hc⟩ := Option.bind_eq_some_iff.1 hc
    obtain ⟨m, h3, rfl⟩ := Option.map_eq_some_iff.1 hc
    refine cGuard_ok (k := fun u h' => Dst.rec (motive := fun _ => Res) (runL cf m L env h' K) (runL cf m (u :: L) env h' K) (fun x => envk env x u fun env' => runL cf m L env' h' K) d)
      (kp := fun u h' => K (.pan u) env h') hcf ⟨hf.tmp, hg, rh⟩ h1 hh hr ho ?_ ?_
    · intro u h' ρ' y w' h4 h5 h6 h7
      have hf' := hf.mono h7.le
      have hg' := hg.mono h7.le
      have step : ∀ {L' : List V} {env' : Env} {a' : Act}, a'.defers = a.defers → runL cf m L' env' h' K = r → FrR ρ' fi T' L' env' a'.tmps → WO P b ops (List.range' (i + 1) l.length ++ tail) Q a' cs w' :=
        fun hd h8 h9 => reg_ahead hcf hb hr hK base h3 hi' h8 h9 h6 hg' (hx.trans h7) (hd.trans hds)
      unfold cDst at h2
      split at h2
      · rename_i hdst
        cases h2
        rw [hdst]
        exact step rfl h4 hf'
      · rename_i t hdst
        split at h2
        · rename_i hlt
          rw [hdst]
          split at h2
          · rename_i hin
            cases h2
            exact step rfl h4 (hf'.push hlt hin h5)
          · rename_i hin
            obtain ⟨x, hx, h2⟩ := Option.bind_eq_some_iff.1 h2
            split at h2
            · cases h2
            rename_i hn
            cases h2
            have h4 : envk env x u (fun env' => runL cf m L env' h' K) = r := h4
            rw [envk_eq] at h4
            exact step rfl h4 (hf'.put hlt (by simpa using hin) hx (by simpa using hn) h5)
        · cases h2
    · intro u h' ρ' y w' h4
      exact absurd ((hK u env h').symm.trans h4).symm hr

/-- what the panic is when the call that was put off begins, and how the frame stands: (abstract, the model's) -/
def Mode (ρ : Rho) (pv : V) (u : FrameMode) : Prop := (pv = .nili ∧ u = .returning) ∨ ∃ t v y, pv = .iface t v ∧ VR ρ pv y ∧ u = .panicking [{ v := y, recovered := false }]
def healed : FrameMode → FrameMode
  | .panicking (e :: l) => .panicking ({ e with recovered := true } :: l)
  | u => u
theorem settle_healed {ρ : Rho} {pv : V} {u : FrameMode} (h : Mode ρ pv u) : settle (healed u) = .returning ∧ u ≠ .run := by
  rcases h with ⟨_, rfl⟩ | ⟨t, v, y, _, _, rfl⟩
  · exact ⟨rfl, by simp⟩
  · exact ⟨rfl, by simp⟩

theorem put_off (hcf : CFok P ng cf) {g : Nat} {d : PFd} (hp : prepR P ng fid g = some d.strip) {cap : List V} {h h' : Heap} {pv : V} {u' : V} (hh : runFdg semOX n cf d cap h pv = .ret u' h') {ρ : Rho} {w : World} {args : List Value}
    (ha : VRs ρ cap args) (rh : RH P ρ h w) (hg : GlobR ρ ng) {u : FrameMode} (hu : Mode ρ pv u) :
    Enters P g ∧ CallsD P g args.toArray u w fun e u₁ w' => (∃ y, e = .returned y) ∧ u₁ = healed u ∧ ∃ ρ', RH P ρ' h' w' ∧ Ext ρ h w ρ' h' w' := by
  unfold prepR at hp
  split at hp
  · rename_i fn hfn
    split at hp
    · rename_i id ops rest hbody
      split at hp
      · rename_i o l hops
        split at hp
        · rename_i t atypes hdst hop hguard
          split at hp
          · cases hp
          rename_i hname
          split at hp
          · rename_i hc
            obtain ⟨hnt, hps, hrs, hnf, htlt, htin⟩ := hc
            obtain ⟨rg, h1, hp⟩ := Option.bind_eq_some_iff.1 hp
            obtain ⟨pc0, h2, hp⟩ := Option.bind_eq_some_iff.1 hp
            obtain ⟨as, h3, hp⟩ := Option.map_eq_some_iff.1 hp
            obtain ⟨rg', pc, sl'⟩ := d
            simp only [PFd.strip, PFd.mk.injEq] at hp
            obtain ⟨rfl, rfl, rfl⟩ := hp
            refine ⟨⟨fn, _, hfn, hbody, by simpa using hname⟩, ?_⟩
            refine callsD_of hfn hbody fun c₀ cs hc₀ => ?_
            have hh : argk (attach P as []) cap env0 (fun env => runL cf rg [pv] env h fun x env h => nork x (runC cf n pc env h fun x _ h => endk x (.ret .skip h) fun _ => .fail) .fail) = .ret u' h' := hh
            obtain ⟨env, h5, h6, h7⟩ := argk_ok (tmps := args.toArray ++ Array.replicate (fn.ntmps - args.toArray.size) Go.undef) (ts := List.range fn.nfree) (by rw [attach_fst]; exact h3) hh (by simp) ha
              (fun t x _ => by rw [env0_at]; exact .und _) (fun hlen i t x h8 h9 => by
                have hi : i < fn.nfree := by
                  rcases Nat.lt_or_ge i fn.nfree with h | h
                  · exact h
                  · rw [List.getElem?_eq_none (by simpa using h)] at h8; cases h8
                have : t = i := by rw [List.getElem?_range hi] at h8; exact (Option.some.inj h8).symm
                subst this
                have hlt : t < args.length := by rw [hlen]; simpa using hi
                rw [Array.getD_eq_getD_getElem?, Array.getElem?_append_left (by simpa using hlt)]
                simp [h9])
            have hlen : args.length = fn.nfree := by simpa using h6
            have he : EnvR ρ fid env (args.toArray ++ Array.replicate (fn.ntmps - args.toArray.size) Go.undef) := ⟨by simp; omega, fun t x h8 _ => h7 t x h8⟩
            -- 'recover'
            have hsz : ops.size = l.length + 1 := by rw [← Array.length_toList, hops]; rfl
            have hget : ∀ j, ops[j]? = (o :: l)[j]? := fun j => by rw [← Array.getElem?_toList, hops]
            refine .seq (.region ?_)
            rw [hsz, List.range_eq_range', List.range'_succ]
            obtain ⟨y, hy, cs₁, hcs₁, hrec⟩ : ∃ y, VR ρ pv y ∧ ∃ cs₁, cs₁ = { c₀ with mode := healed u } :: cs ∧ ∀ f : Frame, f.kind = .deferred → tryRecover f (c₀ :: cs) = some (y, cs₁) ∨ (tryRecover f (c₀ :: cs) = none ∧ y = .nilIface ∧ cs₁ = c₀ :: cs) := by
              rcases hu with ⟨rfl, rfl⟩ | ⟨tt, vv, y, rfl, hy, rfl⟩
              · refine ⟨.nilIface, .nili, _, rfl, fun f hf => .inr ⟨?_, rfl, ?_⟩⟩
                · simp [tryRecover, hf, hc₀]
                · simp only [healed]; rw [← hc₀]
              · refine ⟨y, hy, _, rfl, fun f hf => .inl ?_⟩
                simp [tryRecover, hf, hc₀, healed]
            refine .recover (v := y) (cs₁ := cs₁) (w' := w) (by rw [hget]; rfl) (by simp [Region.wanted, hguard]) rfl ?_ (fun f hf => hrec f hf) ?_
            · simp [execOp, hop, resolve, invoke, builtin]
            · rw [hdst]
              have hf0 : FrR ρ fid [(t, .s 0)] [pv] env ((args.toArray ++ Array.replicate (fn.ntmps - args.toArray.size) Go.undef).setIfInBounds t y) :=
                he.frame.push htlt htin hy
              have := reg_ok (b := base g .deferred) (cs := cs₁) (a := Act.put { tmps := args.toArray ++ Array.replicate (fn.ntmps - args.toArray.size) Go.undef, defers := [] } (some t) y) hcf (by simp) h1
                (i := 1) (fun j => by rw [hget, show 1 + j = j + 1 by omega]; rfl) h5 hf0 rh hg
              refine this.mono ?_
              rintro e a' cs' w' ⟨rfl, hd, x, env', h'', ρ', k1, k2, k3, k4, k5⟩
              cases k2 with
              | normal =>
                have := code_plain (b := base g .deferred) hcf (cs := cs') (pc := pc) h2 k1 (by simp) k3 k4 (hg.mono k5.le)
                refine this.mono ?_
                rintro e a2 cs2 w2 ⟨rfl, hd2, x2, env2, h2', ρ2, m1, m2, m3, m4, m5⟩
                have hd0 : a2.defers = [] := hd2.trans hd
                have fin : ∀ {w3 : World}, (results fn a2.tmps).run P w3 = .ok (.tuple #[]) w3 := fun {w3} => by
                  have e0 : fn.results = #[] := Array.size_eq_zero_iff.1 hrs
                  exact run_results (xs := []) (by rw [e0]; rfl)
                cases m2 with
                | normal =>
                  cases m1
                  exact ⟨hd0, healed u, hcs₁, _, fin, ⟨_, rfl⟩, rfl, ρ2, m4, k5.trans m5⟩
                | ret =>
                  cases m1
                  exact ⟨hd0, healed u, hcs₁, _, fin, ⟨_, rfl⟩, rfl, ρ2, m4, k5.trans m5⟩
                | exit i => cases m1
                | pan hv => cases m1
              | exit i => cases k1
              | ret => cases k1
              | pan hv => cases k1
          · cases hp
        · cases hp
      · cases hp
    · cases hp
  · cases hp

/-- codes, one after the other -/
def seqs : List Code → Code → Code
  | [], c => c
  | x :: l, c => .seq x (seqs l c)
theorem splitD_eq : ∀ {c : Code} {q : List Code × Array Oper × Code}, splitD c = some q → ∃ id, c = seqs q.1 (.seq (.region id q.2.1 false) q.2.2)
  | .seq x y, q, h => by
    have step : (splitD y).map (fun q => (x :: q.1, q.2.1, q.2.2)) = some q → ∃ id, Code.seq x y = seqs q.1 (.seq (.region id q.2.1 false) q.2.2) := fun h => by
      obtain ⟨q', h1, rfl⟩ := Option.map_eq_some_iff.1 h
      obtain ⟨id, h2⟩ := splitD_eq h1
      exact ⟨id, by rw [h2]; rfl⟩
    unfold splitD at h
    split at h
    · rename_i id ops
      split at h
      · cases h; exact ⟨id, rfl⟩
      · exact step h
    · exact step h
  | .skip, q, h | .region _ _ _, q, h | .cond _ _ _, q, h | .block _ _, q, h | .loop _, q, h | .rangeFunc _ _ _ _, q, h | .exit _, q, h | .scope _, q, h | .label _, q, h | .goto _, q, h | .ret, q, h | .refuse _, q, h => by simp [splitD] at h
theorem pre_ok (hcf : CFok P ng cf) (hb : b.roundOf = none) (hr : r ≠ .fail) {Q : Post} {tail : Code} {cs : List Frame} {ds : List Deferred} {ρ₀ : Rho} {h₀ : Heap} {w₀ : World} {k : Env → Heap → Res}
    (base : ∀ {env : Env} {h : Heap} {ρ : Rho} {w : World} {a : Act}, k env h = r → EnvR ρ fi env a.tmps → RH P ρ h w → GlobR ρ ng → Ext ρ₀ h₀ w₀ ρ h w → a.defers = ds → WP P b tail Q a cs w) :
    ∀ {l : List Code} {ps : List PC}, codesOf P fi ng l = some (ps.map PC.strip) → ∀ {env : Env} {h : Heap} {ρ : Rho} {w : World} {a : Act}, runPre semOX n cf ps env h k = r → EnvR ρ fi env a.tmps → RH P ρ h w → GlobR ρ ng →
    Ext ρ₀ h₀ w₀ ρ h w → a.defers = ds → WP P b (seqs l tail) Q a cs w
  | [], ps, hc, env, h, ρ, w, a, hh, he, rh, hg, hx, hds => by
    cases ps with
    | nil => exact base hh he rh hg hx hds
    | cons _ _ => cases hc
  | c :: l, ps, hc, env, h, ρ, w, a, hh, he, rh, hg, hx, hds => by
    obtain ⟨p0, h1, hc⟩ := Option.bind_eq_some_iff.1 hc
    obtain ⟨ps0, h2, hc⟩ := Option.map_eq_some_iff.1 hc
    cases ps with
    | nil => cases hc
    | cons p ps =>
    simp only [List.map_cons, List.cons.injEq] at hc
    obtain ⟨rfl, rfl⟩ := hc
    have hh : runC cf n p env h (fun x env h => nork x (runPre semOX n cf ps env h k) .fail) = r := hh
    refine .seq ((code_plain (b := b) (cs := cs) hcf (pc := p) h1 hh hr he rh hg).mono ?_)
    rintro e a' cs' w' ⟨rfl, hd, x, env', h', ρ', k1, k2, k3, k4, k5⟩
    cases k2 with
    | normal => exact pre_ok hcf hb hr base h2 k1 k3 k4 (hg.mono k5.le) (hx.trans k5) (hd.trans hds)
    | exit i => exact absurd k1.symm hr
    | ret => exact absurd k1.symm hr
    | pan hv => exact absurd k1.symm hr

theorem offk_ok {sem : OX → Do} {d : PFd} {cap : List V} {h : Heap} {pv : V} {k : Heap → Res} (hh : offk sem n cf d cap h pv k = r) (hr : r ≠ .fail) : ∃ u h', runFdg sem n cf d cap h pv = .ret u h' ∧ k h' = r := by
  rcases backk_ok hh hr with ⟨u, h', h4, h5⟩ | ⟨_, _, _, h5⟩
  · exact ⟨u, h', h4, h5⟩
  · exact absurd h5.symm hr

theorem fund_ok (hcf : CFok P ng cf) {f g : Nat} {p : PFD} (hp : prepD P ng fi fid f g = some p.strip) {l : List V} {h : Heap} (hh : runFDg semOX n cf p l h = r) (hr : r ≠ .fail) :
    f < 32768 ∧ Enters P f ∧ ∀ ρ w args, VRs ρ l args → RH P ρ h w → GlobR ρ ng → Calls P f args.toArray w (Came P ρ h w r) := by
  unfold prepD at hp
  split at hp
  · rename_i fn hfn
    split at hp
    · rename_i c hc
      split at hp
      · cases hp
      · rename_i hname
        split at hp
        · rename_i hsz
          obtain ⟨hnt, hnp, hg65, hf32⟩ := hsz
          obtain ⟨⟨cs0, ops, rest⟩, hsp, hp⟩ := Option.bind_eq_some_iff.1 hp
          obtain ⟨o, hlast, hp⟩ := Option.bind_eq_some_iff.1 hp
          simp only at hlast hp
          split at hp
          · rename_i t atypes hop hguard hdst
            split at hp
            · cases hp
            rename_i hin
            obtain ⟨pre0, h1, hp⟩ := Option.bind_eq_some_iff.1 hp
            obtain ⟨rg, h2, hp⟩ := Option.bind_eq_some_iff.1 hp
            obtain ⟨x, hx, hp⟩ := Option.bind_eq_some_iff.1 hp
            obtain ⟨d0, h3, hp⟩ := Option.bind_eq_some_iff.1 hp
            obtain ⟨rst0, h4, hp⟩ := Option.bind_eq_some_iff.1 hp
            obtain ⟨as, h5, hp⟩ := Option.bind_eq_some_iff.1 hp
            obtain ⟨rs, h6, hp⟩ := Option.map_eq_some_iff.1 hp
            obtain ⟨pre, rg', clo', g', d, rst, sl', rs'⟩ := p
            simp only [PFD.strip, PFD.mk.injEq] at hp
            obtain ⟨rfl, rfl, rfl, rfl, rfl, rfl, rfl, rfl⟩ := hp
            obtain ⟨id, rfl⟩ := splitD_eq hsp
            refine ⟨hf32, ⟨fn, _, hfn, hc, by simpa using hname⟩, fun ρ w args hv rh hg => ?_⟩
            refine calls_of hfn hc fun cs => ?_
            have hh : argk (attach P as fn.params.toList) l env0 (fun env => runPre semOX n cf pre env h fun env h => runL cf rg [] env h fun x1 env h => nork x1
              (getk (.e x) [] env fun fv => fnk fv fun F cap => ifk (Nat.beq F g) (runC cf n rst env h fun x1 env h => endk x1
                (offk semOX n cf d cap h .nili fun h => resk rs env h fun l => soloV l fun v => .ret v h)
                fun v => iffk v (offk semOX n cf d cap h v fun h => resk rs env h fun l => soloV l fun v => .ret v h)) .fail) .fail) = r := hh
            obtain ⟨env, e1, e2, e3⟩ := argk_ok (tmps := args.toArray ++ Array.replicate (fn.ntmps - args.toArray.size) Go.undef) (ts := List.range (fn.params.size + fn.nfree)) (by rw [attach_fst]; exact h5) hh hr hv
              (fun t x _ => by rw [env0_at]; exact .und _) (fun hlen i t x h8 h9 => by
                have hi : i < fn.params.size + fn.nfree := by
                  rcases Nat.lt_or_ge i (fn.params.size + fn.nfree) with h | h
                  · exact h
                  · rw [List.getElem?_eq_none (by simpa using h)] at h8; cases h8
                have : t = i := by rw [List.getElem?_range hi] at h8; exact (Option.some.inj h8).symm
                subst this
                have hlt : t < args.length := by rw [hlen]; simpa using hi
                rw [Array.getD_eq_getD_getElem?, Array.getElem?_append_left (by simpa using hlt)]
                simp [h9])
            have hlen : args.length = fn.params.size + fn.nfree := by simpa using e2
            have he : EnvR ρ fi env (args.toArray ++ Array.replicate (fn.ntmps - args.toArray.size) Go.undef) := ⟨by simp; omega, fun t x h8 _ => e3 t x h8⟩
            refine pre_ok (b := base f .normal) (cs := cs) (ds := []) (ρ₀ := ρ) (h₀ := h) (w₀ := w) hcf rfl hr ?_ h1 e1 he rh hg (.refl _ _ _) rfl
            intro env1 hp1 ρ1 w1 a1 k1 k2 k3 k4 k5 k6
            -- the region that ends in 'defer'
            have hne : ops.toList ≠ [] := fun e => by rw [e] at hlast; cases hlast
            have hsplit : ops.toList = ops.toList.dropLast ++ [o] := by
              rw [List.getLast?_eq_some_getLast hne] at hlast
              cases hlast
              exact (List.dropLast_concat_getLast hne).symm
            have hsize : ops.size = ops.toList.dropLast.length + 1 := by
              have := congrArg List.length hsplit
              rw [List.length_append, Array.length_toList] at this
              exact this
            have hall : ∀ j, ops[j]? = (ops.toList.dropLast ++ [o])[j]? := fun j => by
              rw [← Array.getElem?_toList]
              exact congrArg (fun m : List Oper => m[j]?) hsplit
            have hget : ∀ j, j < ops.toList.dropLast.length → ops[0 + j]? = ops.toList.dropLast[j]? := fun j hj => by
              rw [Nat.zero_add, hall, List.getElem?_append_left hj]
            have hgo : ops[ops.toList.dropLast.length]? = some o := by
              rw [hall, List.getElem?_append_right (Nat.le_refl _)]; simp
            refine .seq (.region ?_)
            have hrange : List.range ops.size = List.range' 0 ops.toList.dropLast.length ++ [ops.toList.dropLast.length] := by
              rw [hsize, List.range_succ, List.range_eq_range']
            rw [hrange]
            refine reg_ahead (ds := []) (ρ₀ := ρ) (h₀ := h) (w₀ := w) hcf rfl hr (fun _ _ _ => rfl) ?_ h2 hget k1 k2.frame k3 k4 k5 k6
            intro env2 h2' ρ2 w2 a2 m1 m2 m3 m4 m5 m6
            have m1 : getk (.e x) [] env2 (fun fv => fnk fv fun F cap => ifk (Nat.beq F g) (runC cf n rst env2 h2' fun x1 env h => endk x1
                (offk semOX n cf d cap h .nili fun h => resk rs env h fun l => soloV l fun v => .ret v h)
                fun v => iffk v (offk semOX n cf d cap h v fun h => resk rs env h fun l => soloV l fun v => .ret v h)) .fail) = r := m1
            obtain ⟨fv, q1, q2⟩ := getk_ok m1 hr
            obtain ⟨F, cap, rfl, q3⟩ := fnk_ok q2 hr
            obtain ⟨q4, q5⟩ := ifk_fail q3 hr
            obtain rfl := Nat.eq_of_beq_eq_true q4
            have hfv := m2.val t x hx (by simpa using hin)
            simp only [Loc.at, Option.some.injEq] at q1
            rw [q1] at hfv
            generalize hfx : a2.tmps.getD t Go.undef = fx at hfv
            cases hfv
            case yld => exact absurd hg65 (by decide)
            rename_i f' k' first ccs hf' hk hk2 hF hcap
            have hk0 : k' = 0 := by omega
            subst hk0
            have hfirst : first = #[] := Array.size_eq_zero_iff.1 hk
            subst hfirst
            obtain rfl : F = f' := by omega
            have hcap : VRs ρ2 cap ccs.toList := hcap
            have run : (execOp a2.eval o).run P w2 = .ok (.defer { target := .fn (.func F) ccs, args := #[] }) w2 := by
              have : a2.eval (.tmp t) = .func (.func F) #[] ccs := by simp only [Act.eval]; exact hfx
              simp only [execOp, hop, resolve, this, Sem.run_bind, Deferred.ofValue, Sem.run_pure, Result.andThen_ok]
              simp
            refine .defer hgo (by simp [Region.wanted, hguard]) rfl run (.nil ?_)
            rw [hdst]
            show WP P (base f .normal) rest (callPost P fn cs (Came P ρ h w r)) { a2 with defers := { target := .fn (.func F) ccs, args := #[] } :: a2.defers } cs w2
            rw [m6]
            refine (code_plain (b := base f .normal) (cs := cs) (a := { a2 with defers := [{ target := .fn (.func F) ccs, args := #[] }] }) hcf (pc := rst) h4 q5 hr m2 m3 m4).mono ?_
            rintro e a3 cs' w3 ⟨rfl, hd3, x3, env3, h3', ρ3, n1, n2, n3, n4, n5⟩
            have hd3 : a3.defers = [{ target := .fn (.func F) ccs, args := #[] }] := hd3
            have fin : ∀ {pv : V} {u : FrameMode}, Mode ρ3 pv u → offk semOX n cf d cap h3' pv (fun h => resk rs env3 h fun l => soloV l fun v => .ret v h) = r → Leaves P fn a3.tmps (Came P ρ h w r) a3.defers u w3 := by
              intro pv u hu o1
              obtain ⟨u', h4', o2, o3⟩ := offk_ok o1 hr
              obtain ⟨o4, o5⟩ := put_off hcf h3 o2 (hcap.mono n5.le) n4 (m4.mono n5.le) hu
              obtain ⟨o6, o7⟩ := settle_healed hu
              rw [hd3]
              refine ⟨o7, .func F, ccs, F, ccs, rfl, ?_, ?_⟩
              · have := run_enter (w := w3) (args := ccs) o4
                simp only [invoke]
                rw [← this]
                simp
              · rw [show ccs.toList.toArray = ccs from Array.toArray_toList] at o5
                refine o5.mono ?_
                rintro e u₁ w4 ⟨⟨y, rfl⟩, rfl, ρ4, o8, o9⟩
                show Leaves P fn a3.tmps (Came P ρ h w r) [] (settle (healed u)) w4
                rw [o6]
                obtain ⟨l', xs, e5, e6, e9⟩ := resk_ok (n3.mono o9.le) o8 h6 o3 hr
                obtain ⟨v, e7, e8⟩ := soloV_ok e6 (fun v => .ret v h4')
                refine ⟨_, run_results e9, ?_⟩
                rw [e7] at e5
                subst e5
                exact ⟨ρ4, _, rfl, e8, o8, m5.trans (n5.trans o9)⟩
            cases n2 with
            | normal => exact ⟨rfl, fin (.inl ⟨rfl, rfl⟩) n1⟩
            | ret => exact ⟨rfl, fin (.inl ⟨rfl, rfl⟩) n1⟩
            | exit i => exact absurd n1.symm hr
            | pan hv3 =>
              obtain ⟨⟨tt, vv, rfl⟩, n1⟩ := iffk_ok n1 hr
              exact ⟨rfl, fin (.inr ⟨tt, vv, _, rfl, hv3, rfl⟩) n1⟩
          · cases hp
        · cases hp
    · cases hp
  · cases hp
end ok

/- OUT OF THE PROGRAM's TEXT, WITH REMARKS -/
def annL : List PC → List An → List PC × List An
  | [], A => ([], A)
  | p :: l, A => ((p.ann false A).1 :: (annL l (p.ann false A).2).1, (annL l (p.ann false A).2).2)
theorem annL_strip : ∀ (l : List PC) (A : List An), (annL l A).1.map PC.strip = l.map PC.strip
  | [], _ => rfl
  | p :: l, A => by simp [annL, PC.ann_strip, annL_strip l]
def PFD.ann (p : PFD) (A Ad : List An) : PFD := ⟨(annL p.pre A).1, p.reg, p.clo, p.g, ⟨p.d.reg, (p.d.code.ann false Ad).1, p.d.args⟩, (p.rest.ann false (annL p.pre A).2).1, p.args, p.res⟩
theorem codesOf_strip {ng : Nat} {fi : FI} : ∀ {l : List Code} {ps : List PC}, codesOf P fi ng l = some ps → ps.map PC.strip = ps
  | [], ps, h => by cases h; rfl
  | c :: l, ps, h => by
    obtain ⟨p, h1, h⟩ := Option.bind_eq_some_iff.1 h
    obtain ⟨m, h2, rfl⟩ := Option.map_eq_some_iff.1 h
    simp [cCode_strip h1, codesOf_strip h2]
theorem prepR_strip {ng : Nat} {fi : FI} {g : Nat} {d : PFd} (hp : prepR P ng fi g = some d) : d.code.strip = d.code := by
  unfold prepR at hp
  split at hp
  · split at hp
    · split at hp
      · split at hp
        · split at hp
          · cases hp
          split at hp
          · obtain ⟨_, _, hp⟩ := Option.bind_eq_some_iff.1 hp
            obtain ⟨pc, h2, hp⟩ := Option.bind_eq_some_iff.1 hp
            obtain ⟨_, _, rfl⟩ := Option.map_eq_some_iff.1 hp
            exact cCode_strip h2
          · cases hp
        · cases hp
      · cases hp
    · cases hp
  · cases hp
theorem prepD_strip {ng : Nat} {fi fid : FI} {f g : Nat} {p : PFD} (hp : prepD P ng fi fid f g = some p) (A Ad : List An) : (p.ann A Ad).strip = p := by
  unfold prepD at hp
  split at hp
  · split at hp
    · split at hp
      · cases hp
      · split at hp
        · obtain ⟨q, _, hp⟩ := Option.bind_eq_some_iff.1 hp
          obtain ⟨o, _, hp⟩ := Option.bind_eq_some_iff.1 hp
          split at hp
          · split at hp
            · cases hp
            obtain ⟨pre, h1, hp⟩ := Option.bind_eq_some_iff.1 hp
            obtain ⟨rg, h2, hp⟩ := Option.bind_eq_some_iff.1 hp
            obtain ⟨x, hx, hp⟩ := Option.bind_eq_some_iff.1 hp
            obtain ⟨d, h3, hp⟩ := Option.bind_eq_some_iff.1 hp
            obtain ⟨rst, h4, hp⟩ := Option.bind_eq_some_iff.1 hp
            obtain ⟨as, h5, hp⟩ := Option.bind_eq_some_iff.1 hp
            obtain ⟨rs, h6, rfl⟩ := Option.map_eq_some_iff.1 hp
            have e1 := codesOf_strip h1
            have e2 := prepR_strip h3
            have e3 := cCode_strip h4
            obtain ⟨dr, dc, da⟩ := d
            simp only at e2
            simp only [PFD.ann, PFD.strip, PFd.strip, annL_strip, PC.ann_strip, e1, e2, e3]
          · cases hp
        · cases hp
    · cases hp
  · cases hp
noncomputable def runPDg (P : Program) (ng : Nat) (fi fid : FI) (f g : Nat) (A Ad : List An) (sem : OX → Do) (n : Nat) (cf : CF) (args : List V) (h : Heap) : Res :=
  Option.rec (motive := fun _ => Res) .fail (fun p => runFDg sem n cf (p.ann A Ad) args h) (prepD P ng fi fid f g)
theorem POok.of_textD {ng f : Nat} (g : Nat) (fi fid : FI) (A Ad : List An) {sh : Words → Nat → CF → List V → Heap → Res} (h2 : ∀ S n cf ar h, runPDg P ng fi fid f g A Ad (semOXg S) n cf ar h = sh S n cf ar h) : POok P ng f (.sh (sh words)) := by
  intro m cf hcf
  have h3 : ∀ l h r, sh words m cf l h = r → r ≠ .fail → f < 32768 ∧ Enters P f ∧ ∀ ρ w args, VRs ρ l args → RH P ρ h w → GlobR ρ ng → Calls P f args.toArray w (Came P ρ h w r) := by
    intro l h r hh hr
    have h3 := (h2 words m cf l h).trans hh
    rw [semOXg_words] at h3
    unfold runPDg at h3
    cases hp : prepD P ng fi fid f g with
    | none => rw [hp] at h3; exact absurd h3.symm hr
    | some p =>
      rw [hp] at h3
      exact fund_ok (fi := fi) (fid := fid) (g := g) (p := p.ann A Ad) hcf (by rw [prepD_strip hp]; exact hp) h3 hr
  exact ⟨fun _ l h r hh hr => (h3 l h r hh hr).2, fun hf l h r hh hr => absurd (h3 l h r hh hr).1 (by omega)⟩
end Go.Ev
