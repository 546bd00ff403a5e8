/- EVALUATOR, 20: every operation that is prepared as OX is what the model runs. -/
import Derived.Test.YtjppnjhchojldaaEvLight2
namespace Go.Ev
variable {P : Program} {ρ : Rho} {h : Heap} {w : World} {k : V → Heap → Res} {r : Res} {ng : Nat} {T : Nat → Option Loc} {L : List V} {env : Env} {a : Act}

theorem cAlloc_light {t : TypeId} {ox : OX} (h : cAlloc P t = some ox) : ox.light = false := by
  simp only [cAlloc] at h
  split at h
  · split at h
    · cases h; rfl
    · cases h
  · cases h
theorem cBuildS_light {f : Operand → Option Loc} {t : TypeId} {n : Nat} {ps : List (Nat × Operand)} {ox : OX} (h : cBuildS P f t n ps = some ox) : ox.light = false := by
  unfold cBuildS at h
  split at h
  · split at h
    · split at h
      · cases h; rfl
      · cases h
    · cases h
  · cases h
theorem cMake_light {f : Operand → Option Loc} {t : TypeId} {x y : Operand} {ox : OX} (h : cMake P f t x y = some ox) : ox.light = false := by
  unfold cMake at h
  split at h
  · split at h
    · exact two_light h fun _ _ => rfl
    · cases h
  · cases h

theorem unc1_ok {l : List V} {f : V → Res} {r : Res} (h : unc l (fun v l => nilk' l (f v)) = r) (hr : r ≠ .fail) : ∃ v, l = [v] ∧ f v = r := by
  obtain ⟨v, m, rfl, h1⟩ := unc_ok h hr
  obtain ⟨rfl, h2⟩ := nilk'_ok h1 hr
  exact ⟨v, rfl, h2⟩
theorem cUpd_ok (c : Cx ρ ng T L env h w a) {t : TypeId} {m q x : Operand} {ox : OX} (hc : cUpd P (locOf T ng) t m q x = some ox) (hh : semOX ox L env h k = r) (hr : r ≠ .fail) :
    Both P ρ h w ox (do Instr.mapUpdate t (a.eval m) (a.eval q) (a.eval x); Pure.pure .skip) k r := by
  unfold cUpd at hc
  split at hc
  · rename_i ht
    obtain ⟨s, es, hc⟩ := Option.bind_eq_some_iff.1 hc
    obtain ⟨d, hd1, hd2⟩ := keyKind_ok es
    obtain ⟨ls, e1, rfl⟩ := Option.map_eq_some_iff.1 hc
    obtain ⟨l, h1, h2⟩ := c.locs e1 (k := fun l => semEX (.upd s) l h k) hh hr
    obtain ⟨v, u, x', rfl, h3, h4, h5⟩ := h2.three
    have h1 : sUpd s v u x' h k = r := h1
    exact (sUpd_ok h1 hr c.rh h3 h4 h5 ht hd1 hd2).next.both rfl
  · cases hc
theorem cEX_ok (c : Cx ρ ng T L env h w a) {o : Oper} {ox : OX} (hc : cEX P (locOf T ng) o.op = some ox) (hh : semOX ox L env h k = r) (hr : r ≠ .fail) : Both P ρ h w ox (execOp a.eval o) k r := by
  obtain ⟨dst, op, type, pos, after, guard⟩ := o
  simp only at hc
  unfold cEX at hc
  split at hc
  · rename_i t x
    split at hc
    · rename_i ht
      obtain ⟨ls, e1, rfl⟩ := Option.map_eq_some_iff.1 hc
      obtain ⟨l, h1, h2⟩ := c.locs e1 (k := fun l => semEX .rngS l h k) hh hr
      obtain ⟨v, rfl, h3⟩ := h2.one
      have h1 : sRngS v h k = r := h1
      exact (sRngS_ok h1 hr c.rh h3 ht).next.both rfl
    · cases hc
  · rename_i x isS
    split at hc
    · rename_i ht
      subst ht
      obtain ⟨ls, e1, rfl⟩ := Option.map_eq_some_iff.1 hc
      obtain ⟨l, h1, h2⟩ := c.locs e1 (k := fun l => semEX .nxtS l h k) hh hr
      obtain ⟨v, rfl, h3⟩ := h2.one
      have h1 : sNxtS v h k = r := h1
      exact (sNxtS_ok h1 hr c.rh h3 type).next.both rfl
    · cases hc
  · rename_i t q
    split at hc
    · rename_i ht
      obtain ⟨ls, e1, rfl⟩ := Option.map_eq_some_iff.1 hc
      obtain ⟨l, h1, h2⟩ := c.locs e1 (k := fun l => semEX .mkm l h k) hh hr
      have h1 : sMkM l h k = r := h1
      have h2 : VRs ρ l (q.map a.eval).toList := by cases q <;> exact h2
      exact (sMkM_ok h1 hr c.rh h2 ht).next.both rfl
    · cases hc
  · rename_i t x i ok
    split at hc
    · rename_i kt et ht
      obtain ⟨s, es, hc⟩ := Option.bind_eq_some_iff.1 hc
      obtain ⟨d, hd1, hd2⟩ := keyKind_ok es
      obtain ⟨z, ez, hc⟩ := Option.bind_eq_some_iff.1 hc
      obtain ⟨ls, e1, rfl⟩ := Option.map_eq_some_iff.1 hc
      obtain ⟨l, h1, h2⟩ := c.locs e1 (k := fun l => semEX (.look s ok z) l h k) hh hr
      obtain ⟨v, u, rfl, h3, h4⟩ := h2.two
      have h1 : sLook s ok z v u h k = r := h1
      exact (sLook_ok h1 hr c.rh h3 h4 ht hd1 hd2 (zeroV_ok ez)).next.both c.rh
    · cases hc
  · exact cUpd_ok c hc hh hr
  · exact cUpd_ok c hc hh hr
  · rename_i x xt t ok
    split at hc
    · rename_i d ht
      split at hc
      · rename_i hd
        split at hc
        · rename_i hok
          subst hok
          obtain ⟨z, ez, hc⟩ := Option.bind_eq_some_iff.1 hc
          obtain ⟨ls, e1, rfl⟩ := Option.map_eq_some_iff.1 hc
          obtain ⟨l, h1, h2⟩ := c.locs e1 (k := fun l => semEX (.tas t true z) l h k) hh hr
          obtain ⟨v, rfl, h3⟩ := h2.one
          have h1 : sTas t true z v h k = r := h1
          exact (sTas_ok h1 hr h3 ht hd fun _ => zeroV_ok ez).next.both c.rh
        · rename_i hok
          obtain rfl : ok = false := by simpa using hok
          obtain ⟨ls, e1, rfl⟩ := Option.map_eq_some_iff.1 hc
          obtain ⟨l, h1, h2⟩ := c.locs e1 (k := fun l => semEX (.tas t false .und) l h k) hh hr
          obtain ⟨v, rfl, h3⟩ := h2.one
          have h1 : sTas t false .und v h k = r := h1
          exact (sTas_ok h1 hr h3 ht hd fun e => by cases e).next.both c.rh
      · cases hc
    · cases hc
  · rename_i g args ts
    split at hc
    · rename_i x y hx
      obtain ⟨args⟩ := args
      simp only at hx
      subst hx
      have run : execOp a.eval ⟨dst, .call { callee := .value (.func g), args := ⟨[x, y]⟩, argTypes := ts }, type, pos, after, guard⟩ = callFunc g #[a.eval x, a.eval y] := by
        simp only [execOp, resolve, Act.eval, Deferred.ofValue, invoke]
        rw [map2]
        rfl
      rw [run]
      split at hc
      · rename_i hg
        obtain ⟨ls, e1, rfl⟩ := Option.map_eq_some_iff.1 hc
        obtain ⟨l, h1, h2⟩ := c.locs e1 (k := fun l => semEX .idxb l h k) hh hr
        obtain ⟨v, u, rfl, h3, h4⟩ := h2.two
        have h1 : sIdxB v u h k = r := h1
        exact OkPN.both (sIdxB_ok h1 hr h3 h4 hg) c.rh
      · split at hc
        · rename_i hg
          obtain ⟨ls, e1, rfl⟩ := Option.map_eq_some_iff.1 hc
          obtain ⟨l, h1, h2⟩ := c.locs e1 (k := fun l => semEX .cmps l h k) hh hr
          obtain ⟨v, u, rfl, h3, h4⟩ := h2.two
          have h1 : sCmpS v u h k = r := h1
          exact OkPN.both (sCmpS_ok h1 hr h3 h4 hg) c.rh
        · cases hc
    · cases hc
  · cases hc
theorem cOX_ok (c : Cx ρ ng T L env h w a) {o : Oper} {ox : OX} (hc : cOX P (locOf T ng) o.op = some ox) (hh : semOX ox L env h k = r) (hr : r ≠ .fail) : Both P ρ h w ox (execOp a.eval o) k r := by
  obtain ⟨dst, op, type, pos, after, guard⟩ := o
  simp only at hc
  unfold cOX at hc
  split at hc
  · obtain ⟨_, v, h1, h2⟩ := c.do1 (f := fun v h k => k v h) hc (fun _ => rfl) hh hr
    refine OkPN.both ⟨_, _, h1, rfl, h2⟩ c.rh
  · obtain ⟨_, v, h1, h2⟩ := c.do1 (f := fun v h k => k v h) hc (fun _ => rfl) hh hr
    refine OkPN.both ⟨_, _, h1, rfl, h2⟩ c.rh
  · rename_i x y z
    obtain ⟨lc, e1, hc⟩ := Option.bind_eq_some_iff.1 hc
    obtain ⟨la, e2, hc⟩ := Option.bind_eq_some_iff.1 hc
    obtain ⟨lb, e3, rfl⟩ := Option.map_eq_some_iff.1 hc
    obtain ⟨v, h1, h2⟩ := c.loc e1 (k := fun v => boolk v fun t => getk la L env fun u => getk lb L env fun u' => k (pickv t u u') h) hh hr
    obtain ⟨b, rfl, h1⟩ := boolk_ok h1 hr
    generalize hx : a.eval x = xv at h2
    cases h2
    obtain ⟨u, h3, h4⟩ := c.loc e2 (k := fun u => getk lb L env fun u' => k (pickv b u u') h) h1 hr
    obtain ⟨u', h5, h6⟩ := c.loc e3 (k := fun u' => k (pickv b u u') h) h3 hr
    cases b with
    | true => exact OkPN.both ⟨_, _, h5, by simp [execOp, hx, asBool], h4⟩ c.rh
    | false => exact OkPN.both ⟨_, _, h5, by simp [execOp, hx, asBool], h6⟩ c.rh
  · exact (cAlloc_ok c hc hh hr).next.both (cAlloc_light hc)
  · obtain ⟨_, v, h1, h2⟩ := c.do1 (f := sBox) hc (fun _ => rfl) hh hr
    exact (sBox_ok h1 hr c.rh h2 _).next.both (one_light hc fun _ => rfl)
  · exact (cBuild_ok c hc hh hr).next.both c.rh
  · exact (cBuildS_ok c hc hh hr).next.both (cBuildS_light hc)
  · split at hc
    · rename_i hs
      obtain ⟨_, v, h1, h2⟩ := c.do1 (f := sLoad1) hc (fun _ => rfl) hh hr
      exact (sLoad1_ok h1 hr c.rh h2 hs).next.both c.rh
    · split at hc
      · rename_i hs
        split at hc
        · rename_i n hn
          obtain ⟨_, v, h1, h2⟩ := c.do1 (f := sLoadN n) hc (fun _ => rfl) hh hr
          exact (sLoadN_ok h1 hr c.rh h2 hs hn).next.both c.rh
        · cases hc
      · cases hc
  · split at hc
    · rename_i n hn
      split at hc
      · obtain ⟨h0, v, u, h1, h2, h3⟩ := c.do2 (f := sStore1) hc (fun _ _ => rfl) hh hr
        have : n = 1 := by simpa using h0
        subst this
        exact (sStore1_ok h1 hr c.rh h2 h3 hn).next.both (two_light hc fun _ _ => rfl)
      · obtain ⟨_, v, u, h1, h2, h3⟩ := c.do2 (f := sStoreN n) hc (fun _ _ => rfl) hh hr
        exact (sStoreN_ok h1 hr c.rh h2 h3 hn).next.both (two_light hc fun _ _ => rfl)
    · cases hc
  · rename_i x
    obtain ⟨_, v, h1, h2⟩ := c.do1 (f := sNil) hc (fun _ => rfl) hh hr
    obtain ⟨u, ad, h3, h4, h5⟩ := sNil_ok h1 hr h2
    refine OkPN.both ⟨_, .pointer (some ad), h3, by simp [execOp, h4], by rw [h4] at h5; exact h5⟩ c.rh
  · exact (cBin_ok c hc hh hr).both c.rh
  · obtain ⟨_, v, h1, h2⟩ := c.do1 (f := sNeg) hc (fun _ => rfl) hh hr
    exact (sNeg_ok h1 hr c.rh h2).next.both c.rh
  · obtain ⟨_, v, h1, h2⟩ := c.do1 (f := sNot) hc (fun _ => rfl) hh hr
    exact (sNot_ok h1 hr c.rh h2).next.both c.rh
  · obtain ⟨_, v, h1, h2⟩ := c.do1 (f := sCom) hc (fun _ => rfl) hh hr
    exact (sCom_ok h1 hr c.rh h2).next.both c.rh
  · rename_i s d x
    unfold cConvM at hc
    split at hc
    · rename_i o ho
      cases hc
      exact (cConv_ok c ho hh hr).next.both c.rh
    · unfold cMark at hc
      split at hc
      · rename_i hsd
        subst hsd
        split at hc
        · rename_i hs
          split at hc
          · rename_i he
            obtain ⟨_, v, h1, h2⟩ := c.do1 (f := sMark) hc (fun _ => rfl) hh hr
            exact (sMark_ok h1 hr c.rh h2 hs he).next.both (one_light hc fun _ => rfl)
          · cases hc
        · cases hc
      · cases hc
  · rename_i t x
    split at hc
    · cases hc
    · cases hc
    · rename_i d hd1 hd
      obtain ⟨_, v, h1, h2⟩ := c.do1 (f := fun v h k => k (.iface t v) h) hc (fun _ => rfl) hh hr
      refine OkPN.both ⟨_, .iface t (a.eval x), h1, ?_, .iface h2⟩ c.rh
      simp only [execOp, Sem.run_bind, Instr.makeInterface, run_und hd, Result.andThen_ok]
      cases d <;> first | rfl | exact absurd hd (hd1 _)
  · rename_i f first cap
    split at hc
    · rename_i hf
      obtain ⟨ls, e1, rfl⟩ := Option.map_eq_some_iff.1 hc
      obtain ⟨l, h1, h2⟩ := c.locs e1 (k := fun l => k (.func (f + 65536 * first.size) l) h) hh hr
      refine OkPN.both ⟨_, .func (.func f) (first.map a.eval) (cap.map a.eval), h1, by simp [execOp, Instr.makeFunc], .func (k := first.size) hf (by simp) rfl ?_⟩ c.rh
      rw [Array.toList_map, Array.toList_map, ← List.map_append]; exact h2
    · cases hc
  · exact (cMake_ok c hc hh hr).next.both (cMake_light hc)
  · exact (cSlice_ok c hc hh hr).next.both c.rh
  · exact (cFaddr_ok c hc hh hr).next.both c.rh
  · exact (cField_ok c hc hh hr).next.both c.rh
  · exact (cIaddr_ok c hc hh hr).next.both c.rh
  · exact (cIndex_ok c hc hh hr).next.both c.rh
  · obtain ⟨_, v, h1, h2⟩ := c.do1 (f := sExtract _) hc (fun _ => rfl) hh hr
    exact (sExtract_ok h1 hr c.rh h2).next.both c.rh
  · exact cBuiltin_ok c hc type _ hh hr
  · exact cEX_ok c (o := ⟨dst, op, type, pos, after, guard⟩) hc hh hr
end Go.Ev
