/- EVALUATOR, 19: the rest of the operations that neither call nor leave. -/
import Derived.Test.YtjppnjhchojldaaEvLight
namespace Go.Ev
variable {P : Program} {ρ : Rho} {h : Heap} {w : World} {k : V → Heap → Res} {r : Res} {ng : Nat} {T : Nat → Option Loc} {L : List V} {env : Env} {a : Act}

theorem VRs.flatten_rep {ρ : Rho} {l : List V} {xs : List Value} (h : VRs ρ l xs) : ∀ n, VRs ρ (List.replicate n l).flatten (List.replicate n xs).flatten
  | 0 => .nil
  | n + 1 => by rw [List.replicate_succ, List.replicate_succ, List.flatten_cons, List.flatten_cons]; exact h.append (flatten_rep h n)
theorem flat_get2 {α : Type} {g : Nat} {z : List α} (hz : z.length = g) : ∀ (n i : Nat), ((List.replicate n z).flatten)[i]? = if i < n * g then z[i % g]? else none
  | 0, i => by simp
  | n + 1, i => by
    rw [List.replicate_succ, List.flatten_cons, List.getElem?_append, flat_get2 hz n, Nat.succ_mul]
    split
    · rename_i h1; rw [if_pos (by omega), Nat.mod_eq_of_lt (by omega)]
    · rename_i h1
      obtain ⟨d, rfl⟩ : ∃ d, i = g + d := ⟨i - g, by omega⟩
      rw [hz, Nat.add_sub_cancel_left, Nat.add_mod_left]
      by_cases h2 : d < n * g
      · rw [if_pos h2, if_pos (by omega)]
      · rw [if_neg h2, if_neg (by omega)]
theorem flat_len {α : Type} (l : List α) (n : Nat) : (List.replicate n l).flatten.length = n * l.length := by
  induction n with
  | zero => simp
  | succ n ih => rw [List.replicate_succ, List.flatten_cons, List.length_append, ih, Nat.succ_mul]; omega
theorem range_cells {z : Array Value} {n s : Nat} (hz : z.size = s) (hs : 0 < s) : ((Array.range (n * s)).map (z[· % z.size]!)).toList = (List.replicate n z.toList).flatten := by
  apply List.ext_getElem?
  intro i
  by_cases hi : i < n * s
  · rw [flat_get2 (g := s) (z := z.toList) (by simpa using hz) n i, if_pos hi]
    have hm : i % s < z.size := by rw [hz]; exact Nat.mod_lt _ hs
    simp [hi, hz, getElem!_pos z (i % s) hm]
  · rw [List.getElem?_eq_none (by simp; omega), List.getElem?_eq_none (by rw [flat_len]; simp [hz]; omega)]

theorem cBuildS_ok (c : Cx ρ ng T L env h w a) {t : TypeId} {n : Nat} {ps : Array (Nat × Operand)} {ox : OX} (hc : cBuildS P (locOf T ng) t n ps.toList = some ox) (hh : semOX ox L env h k = r)
    (hr : r ≠ .fail) : Ok P ρ h w (Instr.buildSlice t n (ps.map fun (i, x) => (i, a.eval x))) k r := by
  unfold cBuildS at hc
  split at hc
  · rename_i e ht
    split at hc
    · rename_i s z m hs hz hm
      split at hc
      · rename_i hcond
        obtain ⟨h1, h2, h3⟩ := hcond
        cases hc
        obtain ⟨zv, h4, h5, h6⟩ := zeroL_ok hz
        have hzs : zv.cells.size = s := by have := (h5 ρ).length; rw [h3] at this; simpa using this.symm
        obtain ⟨l, h7, h8⟩ := c.parts hm (k := fun l => sBuildS s n (repeatL n z) l h k) hh hr
        have h8 : FillR ρ (fun i => some (i * s, s)) l (ps.toList.map fun (i, x) => (i, a.eval x)) := by
          have e : (fun i => match sz P e with | some s => some (i * s, s) | none => none : Nat → Option (Nat × Nat)) = fun i => some (i * s, s) := by funext i; rw [hs]
          rw [← e]; exact h8
        have hcells : ((Array.range (n * s)).map ((if n * s = 0 then #[] else zv.cells)[· % (if n * s = 0 then #[] else zv.cells).size]!)).toList = (List.replicate n zv.cells.toList).flatten := by
          by_cases h0 : n * s = 0
          · have : n = 0 := by rcases Nat.mul_eq_zero.1 h0 with h | h <;> omega
            subst this; simp
          · simp only [if_neg h0]; exact range_cells hzs h1
        have hv : VRs ρ (repeatL n z) ((Array.range (n * s)).map ((if n * s = 0 then #[] else zv.cells)[· % (if n * s = 0 then #[] else zv.cells).size]!)).toList := by
          rw [hcells]; exact (h5 ρ).flatten_rep n
        have h1' : ∀ y ∈ ((Array.range (n * s)).map ((if n * s = 0 then #[] else zv.cells)[· % (if n * s = 0 then #[] else zv.cells).size]!)).toList, y.oneCell' = true := by
          rw [hcells]
          intro y hy
          obtain ⟨q, hq, hy⟩ := List.mem_flatten.1 hy
          rw [(List.mem_replicate.1 hq).2] at hy
          exact h6 y hy
        have h9 : FillR ρ (fun i => some (i * s, s)) l (ps.map fun (i, x) => (i, a.eval x)).toList := by rw [Array.toList_map]; exact h8
        have h7 : sBuildS s n (repeatL n z) l h k = r := h7
        clear hh hm hcells
        generalize repeatL n z = tmpl at *
        exact sBuildS_ok h7 hr c.rh ht hs h1 h2 (fun _ => h4) hv h1' h9
      · cases hc
    · cases hc
  · cases hc

theorem sNil_ok {x : V} (hh : sNil x h k = r) (hr : r ≠ .fail) {v : Value} (hv : VR ρ x v) : ∃ u ad, k u h = r ∧ v = .pointer (some ad) ∧ VR ρ u v := by
  obtain ⟨b, o, rfl, h1⟩ := ptrk_ok hh hr
  obtain ⟨c, z, S, hb, rfl⟩ := hv.ptr_inv
  exact ⟨_, _, h1, rfl, .ptr hb⟩
theorem sMM_ok {mx : Bool} {x y : V} (hh : sMM mx x y h k = r) (hr : r ≠ .fail) {v u : Value} (hv : VR ρ x v) (hu : VR ρ y u) :
    ∃ z : V, ∃ kx p q, k z h = r ∧ v = .int kx p ∧ u = .int kx q ∧ z = .int kx (if (if mx then p < q else q < p) then q else p) := by
  obtain ⟨kx, p, q, rfl, rfl, h1⟩ := int2_ok (G := fun kx a b => ifk (Bool.rec (motive := fun _ => Bool) (ilt b a) (ilt a b) mx) (k (.int kx b) h) (k (.int kx a) h)) hh hr
  refine ⟨_, kx, p, q, ?_, hv.int_inv, hu.int_inv, rfl⟩
  rw [ifk_eq] at h1
  rw [← h1]
  cases mx <;> simp only [ilt_eq, Bool.false_eq_true, if_false, if_true] <;> simp only [decide_eq_true_eq] <;> split <;> rfl

theorem slice_desc {t e : TypeId} (h : P.underlying t = some (.slice e)) : ∃ d, P.underlying t = some d ∧ (d matches .int _) = false := ⟨_, h, rfl⟩
theorem SrcR.lens {sz0 n : Nat} {y : Value} {l : List V} {xs : List Value} (s : SrcR P ρ w sz0 y n l xs) : ∃ m, (Builtin.lenOf y).run P w = .ok m w := ⟨_, s.len⟩

/-- what an operation comes to; and that it changes nothing, where it is a light one -/
def Both (P : Program) (ρ : Rho) (h : Heap) (w : World) (ox : OX) (s : Sem Next) (k : V → Heap → Res) (r : Res) : Prop := (ox.light = true → OkPN P ρ h w s k r) ∧ OkN P ρ h w s k r
theorem OkPN.both {ox : OX} {s : Sem Next} (h1 : OkPN P ρ h w s k r) (rh : RH ρ h w) : Both P ρ h w ox s k r := ⟨fun _ => h1, .pure rh h1⟩
theorem OkN.both {ox : OX} {s : Sem Next} (h1 : OkN P ρ h w s k r) (hl : ox.light = false) : Both P ρ h w ox s k r := ⟨fun e => (by rw [hl] at e; cases e), h1⟩
theorem one_light {f : Operand → Option Loc} {c : Bool} {mk : Loc → OX} {x : Operand} {ox : OX} (h : one f c mk x = some ox) (hm : ∀ l, (mk l).light = false) : ox.light = false := by
  obtain ⟨_, l, _, rfl⟩ := one_inv h; exact hm l
theorem two_light {f : Operand → Option Loc} {c : Bool} {mk : Loc → Loc → OX} {x y : Operand} {ox : OX} (h : two f c mk x y = some ox) (hm : ∀ l m, (mk l m).light = false) : ox.light = false := by
  obtain ⟨_, l, m, _, _, rfl⟩ := two_inv h; exact hm l m
theorem VRs.one {ρ : Rho} {l : List V} {x : Value} (h : VRs ρ l [x]) : ∃ v, l = [v] ∧ VR ρ v x := by
  cases h with
  | cons h1 h2 => cases h2; exact ⟨_, rfl, h1⟩
theorem VRs.two {ρ : Rho} {l : List V} {x y : Value} (h : VRs ρ l [x, y]) : ∃ v u, l = [v, u] ∧ VR ρ v x ∧ VR ρ u y := by
  cases h with
  | cons h1 h2 =>
    obtain ⟨u, rfl, h3⟩ := h2.one
    exact ⟨_, _, rfl, h1, h3⟩
theorem VRs.three {ρ : Rho} {l : List V} {x y z : Value} (h : VRs ρ l [x, y, z]) : ∃ v u t, l = [v, u, t] ∧ VR ρ v x ∧ VR ρ u y ∧ VR ρ t z := by
  cases h with
  | cons h1 h2 =>
    obtain ⟨u, t, rfl, h3, h4⟩ := h2.two
    exact ⟨_, _, _, rfl, h1, h3, h4⟩
theorem map1 (f : Operand → Value) (x : Operand) : Array.map f (Array.mk [x]) = #[f x] := by simp
theorem map2 (f : Operand → Value) (x y : Operand) : Array.map f (Array.mk [x, y]) = #[f x, f y] := by simp

theorem cBuiltin_ok (c : Cx ρ ng T L env h w a) {b : Builtin} {args : Array Operand} {ts : Array TypeId} {ox : OX} (hc : cBuiltin P (locOf T ng) b args.toList ts = some ox) (u : TypeId)
    (cs : Array Bool) (hh : semOX ox L env h k = r) (hr : r ≠ .fail) : Both P ρ h w ox (builtin b ts u cs (args.map a.eval)) k r := by
  obtain ⟨args⟩ := args
  unfold cBuiltin at hc
  split at hc
  · rename_i x hx
    cases hx
    rw [map1]
    split at hc
    · rename_i t ht
      split at hc
      · rename_i hu
        obtain ⟨_, v, h1, h2⟩ := c.do1 (f := sLenS) hc (fun _ => rfl) hh hr
        exact (sLenS_ok h1 hr c.rh h2 ht hu).next.both c.rh
      · rename_i hu
        obtain ⟨_, v, h1, h2⟩ := c.do1 (f := sLen) hc (fun _ => rfl) hh hr
        exact (sLen_ok h1 hr c.rh h2 ht hu).next.both c.rh
      · rename_i hu
        obtain ⟨ls, e1, rfl⟩ := Option.map_eq_some_iff.1 hc
        obtain ⟨l, h1, h2⟩ := c.locs e1 (k := fun l => semEX .lenM l h k) hh hr
        obtain ⟨v, rfl, h3⟩ := h2.one
        have h1 : sLenM v h k = r := h1
        exact (sLenM_ok h1 hr c.rh h3 ht hu).next.both c.rh
      · cases hc
    · cases hc
  · rename_i x y hx
    cases hx
    rw [map2]
    split at hc
    · rename_i t ht
      split at hc
      · rename_i hu
        obtain ⟨s, es, hc⟩ := Option.bind_eq_some_iff.1 hc
        obtain ⟨d, hd1, hd2⟩ := keyKind_ok es
        obtain ⟨ls, e1, rfl⟩ := Option.map_eq_some_iff.1 hc
        obtain ⟨l, h1, h2⟩ := c.locs e1 (k := fun l => semEX (.del s) l h k) hh hr
        obtain ⟨v, u', rfl, h3, h4⟩ := h2.two
        have h1 : sDel s v u' h k = r := h1
        exact (sDel_ok h1 hr c.rh h3 h4 ht hu hd1 hd2).next.both rfl
      · cases hc
    · cases hc
  · rename_i x y hx
    cases hx
    rw [map2]
    split at hc
    · rename_i t1 t2 ht1 ht2
      split at hc
      · rename_i e s d he hu
        obtain ⟨_, v, v', h1, h2, h3⟩ := c.do2 (f := fun v u h k => srck s u h fun m new => appendk s v m new h k) hc (fun _ _ => rfl) hh hr
        obtain ⟨n, l, xs, h4, h5⟩ := srck_ok (P := P) (k := fun m new => appendk s v m new h k) h1 hr c.rh h3
        exact (appendk_ok h4 hr c.rh h2 (h5.h ht2 hu rfl) ⟨chkSl_ok he, ht1⟩).next.both (two_light hc fun _ _ => rfl)
      · rename_i e he hu
        obtain ⟨_, v, v', h1, h2, h3⟩ := c.do2 (f := fun v u h k => srcSk u fun m new => appendk 1 v m new h k) hc (fun _ _ => rfl) hh hr
        obtain ⟨n, l, xs, h4, h5⟩ := srcSk_ok (P := P) (w := w) (k := fun m new => appendk 1 v m new h k) h1 hr h3
        exact (appendk_ok h4 hr c.rh h2 (h5.h ht2 hu rfl) ⟨chkSl_ok he, ht1⟩).next.both (two_light hc fun _ _ => rfl)
      · rename_i e s kd he hu
        split at hc
        · rename_i z hz
          obtain ⟨hl, v, v', h1, h2, h3⟩ := c.do2 (f := sAppZ s z) hc (fun _ _ => rfl) hh hr
          obtain ⟨zv, g1, g2, g3⟩ := zeroL_ok hz
          exact (sAppZ_ok h1 hr c.rh h2 h3 ⟨chkSl_ok he, ht1⟩ ht2 hu g1 g2 (by simpa using hl) g3).next.both (two_light hc fun _ _ => rfl)
        · cases hc
      · cases hc
    · cases hc
  · rename_i x y hx
    cases hx
    rw [map2]
    split at hc
    · rename_i t1 t2 ht1 ht2
      split at hc
      · rename_i e1 e2 hu1 hu2
        split at hc
        · rename_i s hs
          obtain ⟨_, v, v', h1, h2, h3⟩ := c.do2 (f := sCopy s) hc (fun _ _ => rfl) hh hr
          obtain ⟨h1, h4, h5⟩ : copyk s v h (fun d k => srcTk s d v' h k) k = r ∧ (∃ m, (Builtin.lenOf (a.eval y)).run P w = .ok m w) ∧ (Builtin.firstCells s 0 (a.eval y)).run P w = .ok #[] w := by
            rcases slk_ok h1 hr with ⟨b, o, l, cp, s', rfl, h1⟩ | ⟨rfl, h1⟩ | ⟨rfl, h1⟩
            · obtain ⟨c, z, S, cap, hb, _, _, _, e⟩ := h3.slice_inv
              rw [e]
              exact ⟨h1, ⟨_, rfl⟩, by show (loadCells _ (0 * s)).run P _ = _; rw [Nat.zero_mul]; rfl⟩
            · rw [h3.nils_inv]
              exact ⟨h1, ⟨_, rfl⟩, rfl⟩
            · generalize a.eval y = yv at h3
              cases h3
              exact ⟨h1, ⟨_, rfl⟩, by show (loadCells _ (0 * s)).run P _ = _; rw [Nat.zero_mul]; rfl⟩
          exact (copyk_ok h1 hr c.rh h2 (fun d k r h4 h5 => srcTk_ok h4 h5 c.rh h3) h4 h5 ht1 hu1 hs).next.both (two_light hc fun _ _ => rfl)
        · cases hc
      · rename_i e1 hu1 hu2
        obtain ⟨hs, v, v', h1, h2, h3⟩ := c.do2 (f := fun v u h k => strk u fun _ _ => copyk 1 v h (fun d k => srcTSk d u k) k) hc (fun _ _ => rfl) hh hr
        obtain ⟨l0, n0, rfl, h1⟩ := strk_ok h1 hr
        obtain ⟨s0, e0, e1, e2⟩ := h3.str_inv
        exact (copyk_ok h1 hr c.rh h2 (fun d k r h4 h5 => srcTSk_ok h4 h5 h3) (by rw [e0]; exact ⟨_, rfl⟩) (by rw [e0]; simp [Builtin.firstCells]) ht1 hu1 (by simpa using hs)).next.both (two_light hc fun _ _ => rfl)
      · cases hc
    · cases hc
  · rename_i x y hx
    cases hx
    rw [map2]
    obtain ⟨_, v, v', h1, h2, h3⟩ := c.do2 (f := sMM false) hc (fun _ _ => rfl) hh hr
    obtain ⟨z, kx, p, q, h4, h5, h6, rfl⟩ := sMM_ok h1 hr h2 h3
    refine OkPN.both (OkP.next ⟨_, _, h4, ?_, .int _ _⟩) c.rh
    simp [Builtin.min_, Builtin.min2, h5, h6]
  · rename_i x y hx
    cases hx
    rw [map2]
    obtain ⟨_, v, v', h1, h2, h3⟩ := c.do2 (f := sMM true) hc (fun _ _ => rfl) hh hr
    obtain ⟨z, kx, p, q, h4, h5, h6, rfl⟩ := sMM_ok h1 hr h2 h3
    refine OkPN.both (OkP.next ⟨_, _, h4, ?_, .int _ _⟩) c.rh
    simp [Builtin.max_, Builtin.max2, h5, h6]
  · cases hc
end Go.Ev
