/- FUNCTOR: the law FunctorBack; works as a known answer. -/
import Derived.Test.YtnkaolpkdeffiaaDoorFn5
import Derived.Test.YtnkaolpkdeffiaaDoorFn4
namespace Go.Ev.W04
open Go.Proofs Go.RowKit
set_option maxRecDepth 100000
variable {n : Nat} {cf : CF} {h : Heap}

/- WORKS AS A KNOWN ANSWER -/
noncomputable def eq8k (zs : List Nat) : List V → Res → Res :=
  List.rec (motive := fun _ => List V → Res → Res) (fun cs r => nilk' cs r) (fun n _ ih cs r => unc cs fun v cs => intk v fun kd m => ifk (Nat.beq (kno kd) 4) (ifk (ieq m (.ofNat n)) (ih cs r) .fail) .fail) zs
theorem eq8k_ok {zs : List Nat} {cs : List V} {q r : Res} (h : eq8k zs cs q = r) (hr : r ≠ .fail) : q = r ∧ cs = zs.map bV := by
  induction zs generalizing cs with
  | nil =>
    cases cs with
    | nil => exact ⟨h, rfl⟩
    | cons _ _ => exact absurd (show Res.fail = r from h).symm hr
  | cons n zs ih =>
    cases cs with
    | nil => exact absurd (show Res.fail = r from h).symm hr
    | cons v cs =>
      obtain ⟨kd, m, rfl, h1⟩ := intk_ok (show intk v _ = r from h) hr
      obtain ⟨hk, h2⟩ := ifk_fail h1 hr
      obtain ⟨hm, h3⟩ := ifk_fail h2 hr
      obtain ⟨h4, rfl⟩ := ih h3
      have hkd : kd = .u8 := by cases kd <;> first | rfl | exact absurd hk (by decide)
      subst hkd
      rw [ieq_eq] at hm
      have : m = .ofNat n := by simpa using hm
      subst this
      exact ⟨h4, rfl⟩
theorem eq8k_law (zs : List Nat) (q : Res) : eq8k zs (zs.map bV) q = q := by
  induction zs with
  | nil => rfl
  | cons n zs ih =>
    show ifk (ieq (.ofNat n) (.ofNat n)) (eq8k zs (zs.map bV) q) .fail = q
    rw [ieq_same, ifk_true, ih]
/-- a block holds these bytes -/
noncomputable def tabB (zs : List Nat) (x : Blk) : Bool := yes (arrk x fun g _ t _ => cellsk t g 0 zs.length fun cs => eq8k zs cs (.ret (.bool .true) ⟨[], gb0⟩))
theorem tabB_law {op : Bool} {x : Blk} {zs : List Nat} (a : RowO op x 1 (zs.map bV)) : tabB zs x = true := by
  obtain ⟨m, t, rfl, h2, h3, h4⟩ := a.is
  show yes (cellsk t 1 0 zs.length fun cs => eq8k zs cs _) = true
  rw [cellsk_law h2 h4 h3 (o := 0) (n := zs.length) _ (by simp), List.drop_zero, List.take_of_length_le (by simp), eq8k_law]
  rfl
theorem tabB_ok {zs : List Nat} {h : Heap} {b : Bid} (hy : tabB zs (h.t.get b) = true) (hz : 0 < zs.length) {ρ : Rho} {w : World} (rh : RH ρ h w) {c S : Nat} (hb : ρ b = some (c, 0, S)) : Holds w c 0 S (zs.map bV) := by
  obtain ⟨h', e⟩ := yes_ok hy
  have e2 : loadk h b 0 zs.length (fun cs => eq8k zs cs (.ret (.bool .true) ⟨[], gb0⟩)) = .ret (.bool true) h' := by
    unfold loadk; rw [Heap.getk_eq]; exact e
  obtain ⟨_, l, cs, el, fz, h1, h2, h3, h4, h5⟩ := loadk_cells e2 (by simp) rh hb
  obtain ⟨_, rfl⟩ := eq8k_ok h1 (by simp)
  refine holds_of h3 h4 (by simpa using hz) fun i v hi => ?_
  obtain ⟨x, h7, h8, h9⟩ := h5 i v hi
  rw [List.getElem?_map] at hi
  obtain ⟨n, _, rfl⟩ := Option.map_eq_some_iff.1 hi
  exact ⟨x, by simpa using h7, int_all h8, h9⟩
abbrev acceptZ : List Nat := [128, 191, 160, 191, 128, 159, 144, 191, 128, 143, 0, 0, 0, 0, 0, 0, 0, 0, 0, 0, 0, 0, 0, 0, 0, 0, 0, 0, 0, 0, 0, 0]
theorem firstLenZ : Go.Pinned.utf8FirstZ.length = 256 := by kernel_rfl
/-- both tables lie where they lie -/
noncomputable def chk2 (h : Heap) (q : Res) : Res := h.getk gb0 fun x => h.getk gb1 fun y => ifk (tabB Go.Pinned.utf8FirstZ x) (ifk (tabB acceptZ y) q .fail) .fail
structure Tabs (h : Heap) : Prop where
  first : RowO true (h.t.get gb0) 1 firstL
  accept : RowO true (h.t.get gb1) 1 acceptL
  low : gb2.val ≤ h.nx.val
theorem Tabs.up {h h' : Heap} (t : Tabs h) (u : Up h h') : Tabs h' :=
  ⟨by rw [u.get gb0 (Nat.lt_of_lt_of_le (by decide) t.low)]; exact t.first, by rw [u.get gb1 (Nat.lt_of_lt_of_le (by decide) t.low)]; exact t.accept, Nat.le_trans t.low u.nx⟩
theorem chk2_law {h : Heap} (t : Tabs h) (q : Res) : chk2 h q = q := by
  unfold chk2
  rw [Heap.getk_eq, Heap.getk_eq, tabB_law t.first, ifk_true, tabB_law (zs := acceptZ) t.accept, ifk_true]
theorem chk2_ok {h : Heap} {q r : Res} (hh : chk2 h q = r) (hr : r ≠ .fail) {ρ : Rho} {w : World} (rh : RH ρ h w) (hg : GlobR ρ 2) : q = r ∧ ∃ S0 S1, Holds w 0 0 S0 firstL ∧ Holds w 1 0 S1 acceptL := by
  unfold chk2 at hh
  rw [Heap.getk_eq, Heap.getk_eq] at hh
  obtain ⟨e1, h1⟩ := ifk_fail hh hr
  obtain ⟨e2, h2⟩ := ifk_fail h1 hr
  obtain ⟨S0, g0⟩ := hg 0 (by omega)
  obtain ⟨S1, g1⟩ := hg 1 (by omega)
  exact ⟨h2, S0, S1, tabB_ok e1 (firstLenZ ▸ (by decide : 0 < 256)) rh g0, tabB_ok e2 (by decide) rh g1⟩
theorem doorT {W : World} {S0 S1 : Nat} (A : Holds W 0 0 S0 firstL) (B : Holds W 1 0 S1 acceptL) : ∃ ρ h, Door W firstL ρ h ∧ GlobR ρ 2 ∧ Tabs h := by
  obtain ⟨t0, w0, c0⟩ := tree_of firstL
  obtain ⟨t1, w1, c1⟩ := tree_of acceptL
  obtain ⟨d, r⟩ := door2_at A B (by omega) w0 c0 w1 c1
  exact ⟨_, _, d, glob2, d.row, r, by rw [d.nx]; exact Nat.le_refl _⟩
theorem walk14 {W : World} {S0 S1 : Nat} (A : Holds W 0 0 S0 firstL) (B : Holds W 1 0 S1 acceptL) : Calls Tryd.prog 14 #[] W fun e w' => e = .returned (.bool true) ∧ Below W.heap.size W w' := by
  obtain ⟨t0, t1, ⟨w0, c0⟩, ⟨w1, c1⟩, hy⟩ := runN
  obtain ⟨d, _⟩ := door2_at A B (by omega) (t0 := t0) (t1 := t1) (firstLen.symm ▸ w0) c0 (acceptLen.symm ▸ w1) c1
  obtain ⟨h', e⟩ := yes_ok hy
  rw [firstLen, acceptLen] at d
  obtain ⟨_, c⟩ := call_ok tabNOk (n := NN) 6 ⟨.d0, .d0, .d0, .de⟩ _ _ _ e (by simp)
  exact (c _ W [] .nil d.rh glob2).mono fun e w' hc => d.below hc
noncomputable def orcW (l : List V) (h : Heap) : Res := nilk' l (chk2 h (.ret (.bool .true) h))
theorem enters {f : Nat} {fn : Func} (hf : Tryd.prog.funcs[f]? = some fn) (hb : fn.body.isSome = true) (hn : (fn.name == "runtime.NumGoroutine") = false) : Enters Tryd.prog f := by
  obtain ⟨c, hc⟩ := Option.isSome_iff_exists.1 hb
  exact ⟨fn, c, hf, hc, hn⟩
theorem fnokW : FnOk Tryd.prog 2 14 orcW := by
  intro l h r hh hr
  refine ⟨enters Tryd.func14 (by kernel_rfl) (by kernel_rfl), fun ρ w args hl rh hg => ?_⟩
  obtain ⟨rfl, h3⟩ := nilk'_ok hh hr
  cases hl
  obtain ⟨h4, S0, S1, A, B⟩ := chk2_ok h3 hr rh hg
  subst h4
  exact (walk14 A B).mono fun e w' hc => came_of rh (.bool true) hc
theorem orcW_law {h : Heap} (t : Tabs h) : orcW [] h = .ret (.bool true) h := chk2_law t _

/- THE LAW -/
structure CallB (cf : CF) : Prop where
  int : ∀ bs h, Bytes bs → bs.length ≤ 5000 → cf ⟨.d0, .d0, .d1, .d1⟩ [.str bs.length (packN bs)] h = .ret (.tup [.int .i64 (intR bs).1, .bool (intR bs).2]) h
  str : ∀ a h, In64 a → ∃ h', Up h h' ∧ cf ⟨.d0, .d0, .d1, .d2⟩ [.int .i64 a] h = .ret (sV (strB a)) h'
  works : ∀ h, Tabs h → cf ⟨.d0, .d0, .d0, .de⟩ [] h = .ret (.bool true) h
theorem strB_bytes (a : Int) : Bytes (strB a) := by
  unfold strB; split
  · exact (dec_bytes 20 _).cons (by decide)
  · exact dec_bytes 20 _
theorem strB_length (a : Int) : (strB a).length ≤ 21 := by
  have := dec_length 20 a.natAbs
  unfold strB; split
  · rw [List.length_cons]; omega
  · omega
theorem intR_no {bs : List Nat} (h : (intR bs).2 = false) : (intR bs).1 = 0 := by
  unfold intR at *
  split at h
  · rfl
  · split at h
    · rename_i h1; rw [if_pos h1]
    · split at h <;> cases h
theorem intR_some {bs : List Nat} (h : (intR bs).2 = true) : bs ≠ [] := by
  rintro rfl
  revert h; decide
theorem back_law (C : CallB cf) (hn : 5000 < n) {a : Int} (ha : In64 a) {bs : List Nat} (hb : Bytes bs) (t : Tabs h) :
    ∃ h', sh6 words n cf [.int .i64 a, sV bs] h = .ret (.bool true) h' := by
  unfold sh6
  simp only [unc_cons, castI_int, castS_sV, nilk'_nil, ilt_nat]
  by_cases hl : 4096 < bs.length
  · rw [decide_eq_true hl, ifk_true]; exact ⟨h, rfl⟩
  rw [decide_eq_false hl, ifk_false]
  obtain ⟨h1, u1, c1⟩ := C.str a h ha
  have i1 := C.int (strB a) h1 (strB_bytes a) (by have := strB_length a; omega)
  rw [int_str ha] at i1
  have i2 := C.int bs h1 hb (by omega)
  simp only [c1, backk_ret, castS_sV, i1, tupk_tup, unc_cons, castI_int, castB_bool, nilk'_nil, Bool.not_true, Bool.not_false, ifk_true, intk_int, show Nat.beq (kno .i64) (kno .i64) = true from rfl, ieq_same, pickv_false, ifk_false, i2]
  cases hok : (intR bs).2 with
  | false =>
    have h0 : (intR bs).1 = .ofNat 0 := intR_no hok
    simp only [Bool.not_false, ifk_true, h0, ieq_same, C.works h1 (t.up u1), backk_ret, castB_bool, pickv_true]
    exact ⟨_, rfl⟩
  | true =>
    simp only [Bool.not_true, ifk_false]
    have hne := intR_some hok
    have hpos : 0 < bs.length := List.length_pos_iff.2 hne
    rw [idxS_law hb hpos]
    have hsg : ieq (.ofNat bs[0]) (.ofNat 45) = sign bs := by
      rw [ieq_nat]
      cases bs with
      | nil => exact absurd rfl hne
      | cons b r => simp [sign]
    simp only [bV, castI_int, hsg]
    have hrb : Bytes (rest bs) := by
      unfold rest; split
      · exact fun x hx => hb x (List.mem_of_mem_tail hx)
      · exact hb
    have hrl : (rest bs).length ≤ bs.length := by unfold rest; split <;> simp
    have hcut : ∀ (x : V) (K : Ex → List V → Heap → Res), contk (ifk (sign bs) (words.sliceS (.str bs.length (packN bs)) (.some (.int .i64 (.ofNat 1))) .none h1 (fun v h108 => castS v (fun n110 n112 => .done .normal [x, .str n110 n112, .bool (sign bs)] h108))) (.done .normal [x, .str bs.length (packN bs), .bool (sign bs)] h1)) K = K .normal [x, sV (rest bs), .bool (sign bs)] h1 := by
      intro x K
      unfold rest
      cases hs : sign bs with
      | false => rfl
      | true =>
        rw [ifk_true, sliceS_law hb (i := 1) (j := bs.length) (by omega) (Nat.le_refl _) (fun k => rfl) (fun k => rfl)]
        simp only [castS_sV, castS_str, contk_done, if_pos, List.take_length, List.drop_one, sV]
    have key : ∀ r, r = .done .normal [.int .i64 (intR bs).1, sV (strip (rest bs)), .bool (sign bs)] h1 → ∃ h', contk r (fun x210 l212 h214 => unc l212 (fun v216 l218 => castI .i64 v216 (fun i220 => unc l218 (fun v222 l224 => castS v222 (fun n226 n228 => unc l224 (fun v230 l232 => castB v230 (fun b234 => nilk' l232 (nork x210 (contk (backk (ifk b234 (.ret (.str n226 n228) h214) (.ret .skip h214)) (fun v236 h238 => backk (ifk b234 (strk v236 (fun n240 n242 => .ret (.bool (Bool.not (seq n240 n242 1 48))) h238)) (.ret .skip h238)) (fun v244 h246 => castB (pickv b234 v244 (.bool .false)) (fun b248 => ifk b248 (short 1 (short n226 (.done .normal [.int .i64 i220, .str (Nat.add 1 n226) (Nat.add 45 (Nat.mul n228 256))] h246))) (.done .normal [.int .i64 i220, .str n226 n228] h246))) (fun v250 h252 => .done (.pan v250) [.int .i64 i220, .str n226 n228] h252)) (fun v254 h256 => .done (.pan v254) [.int .i64 i220, .str n226 n228] h256)) (fun x258 l260 h262 => unc l260 (fun v264 l266 => castI .i64 v264 (fun i268 => unc l266 (fun v270 l272 => castS v270 (fun n274 n276 => nilk' l272 (nork x258 (backk (cf (.mk .d0 .d0 .d1 .d2) [.int .i64 i268] h262) (fun v278 h280 => castS v278 (fun n282 n284 => backk (ifk (seq n282 n284 n274 n276) (backk (cf (.mk .d0 .d0 .d0 .de) [] h280) (fun v286 h288 => castB v286 (fun b290 => .ret (.bool b290) h288)) (fun v292 h294 => .pan v292 h294)) (.ret .skip h280)) (fun v296 h298 => castB (pickv (seq n282 n284 n274 n276) v296 (.bool .false)) (fun b300 => .ret (.bool b300) h298)) (fun v302 h304 => .pan v302 h304))) (fun v306 h308 => .pan v306 h308)) .fail))))))) .fail)))))))) = .ret (.bool true) h' := by
      rintro r rfl
      obtain ⟨hk, hin⟩ := str_int hb (k := (intR bs).1) (by rw [← hok])
      have hsb : Bytes (strip (rest bs)) := by
        have : strip (rest bs) = norm bs ∨ 45 :: strip (rest bs) = norm bs := by unfold norm; split <;> simp
        intro x hx
        have hb2 := strB_bytes (intR bs).1
        rw [hk] at hb2
        rcases this with e | e
        · exact hb2 x (by rw [← e]; exact hx)
        · exact hb2 x (by rw [← e]; exact List.mem_cons_of_mem _ hx)
      have hsl : (strip (rest bs)).length ≤ 21 := by
        have : (strip (rest bs)).length ≤ (norm bs).length := by unfold norm; split <;> simp
        have h2 := strB_length (intR bs).1
        rw [hk] at h2; omega
      have hseq : seq (strip (rest bs)).length (packN (strip (rest bs))) 1 48 = decide (strip (rest bs) = [48]) := seq_pack (m := [48]) hsb (by intro x hx; simp at hx; omega)
      obtain ⟨h2, u2, c2⟩ := C.str (intR bs).1 h1 hin
      have c2' := c2
      rw [hk] at c2
      have hnb : Bytes (norm bs) := by rw [← hk]; exact strB_bytes _
      have fin : seq (norm bs).length (packN (norm bs)) (norm bs).length (packN (norm bs)) = true := by rw [seq_pack hnb hnb]; simp
      have hw := C.works h2 ((t.up u1).up u2)
      simp only [contk_done, unc_cons, castI_int, castS_sV, castB_bool, nilk'_nil, nork_normal]
      cases hs : sign bs with
      | false =>
        have hnorm : norm bs = strip (rest bs) := by unfold norm; rw [if_neg (by rw [hs]; rintro ⟨e, _⟩; cases e)]
        simp only [ifk_false, backk_ret, pickv_false, castB_bool, contk_done, unc_cons, castI_int, castS_str, nilk'_nil, nork_normal, c2, castS_sV, ← hnorm, fin, ifk_true, hw, pickv_true]
        exact ⟨_, rfl⟩
      | true =>
        simp only [ifk_true, backk_ret, strk_str, hseq, pickv_true, castB_bool]
        by_cases he : strip (rest bs) = [48]
        · have hnorm : norm bs = strip (rest bs) := by unfold norm; rw [if_neg (by rintro ⟨_, e⟩; exact e he)]
          rw [decide_eq_true he, Bool.not_true, ifk_false]
          simp only [contk_done, unc_cons, castI_int, castS_str, nilk'_nil, nork_normal, c2, backk_ret, castS_sV, ← hnorm, fin, ifk_true, hw, pickv_true, castB_bool]
          exact ⟨_, rfl⟩
        · have hnorm : norm bs = 45 :: strip (rest bs) := by unfold norm; rw [if_pos ⟨hs, he⟩]
          have hlen : Nat.add 1 (strip (rest bs)).length = (norm bs).length := by rw [hnorm, List.length_cons]; exact Nat.add_comm _ _
          have hpk : Nat.add 45 (Nat.mul (packN (strip (rest bs))) 256) = packN (norm bs) := by rw [hnorm]; show 45 + packN _ * 256 = 45 + 256 * packN _; rw [Nat.mul_comm]
          rw [decide_eq_false he, Bool.not_false, ifk_true, short_law (by decide), short_law (by omega), hlen, hpk]
          simp only [contk_done, unc_cons, castI_int, castS_str, nilk'_nil, nork_normal, c2, backk_ret, castS_sV, fin, ifk_true, hw, pickv_true, castB_bool]
          exact ⟨_, rfl⟩
    refine (exists_congr fun h' => (by rw [hcut] : _ = Res.ret (.bool true) h' ↔ _)).2 ?_
    simp only [unc_cons, castI_int, castS_sV, castB_bool, nilk'_nil, nork_normal]
    refine contk_lpk (P := fun r => ∃ h', r = .ret (.bool true) h') (I := fun w h' m => ∃ r, strip r = strip (rest bs) ∧ Bytes r ∧ r.length = m ∧ h' = h1 ∧ w = [.int .i64 (intR bs).1, sV r, .bool (sign bs)])
      (Q := fun r => r = .done .normal [.int .i64 (intR bs).1, sV (strip (rest bs)), .bool (sign bs)] h1) (rest bs).length ?_ (show (rest bs).length < n by omega) ⟨rest bs, rfl, hrb, rfl, rfl, rfl⟩ key
    rintro again w h' m ⟨r, hst, hrb', rfl, rfl, rfl⟩ ih
    simp only [unc_cons, castF_int, castS_sV, castB_bool, nilk'_nil, ilt_nat]
    match r, hst, hrb', ih with
    | [], hst, _, _ => rw [← hst]; rfl
    | [c], hst, _, _ => rw [← hst]; rfl
    | c :: c' :: r, hst, hrb', ih =>
      have h2 : 1 < (c :: c' :: r).length := by simp
      simp only [decide_eq_true h2, ifk_true, backk_ret, idxS_law hrb' (show 0 < (c :: c' :: r).length by simp), bV, castI_int, intk_int, show Nat.beq (kno .u8) 4 = true from rfl, ieq_nat, pickv_true, castB_bool, List.getElem_cons_zero]
      by_cases hc : c = 48
      · rw [decide_eq_true hc, ifk_true, sliceS_law hrb' (i := 1) (j := (c :: c' :: r).length) (by simp) (Nat.le_refl _) (fun k => rfl) (fun k => rfl)]
        simp only [List.take_length, List.drop_succ_cons, List.drop_zero, castS_sV]
        refine ih _ _ (c' :: r).length (by simp) ⟨c' :: r, ?_, hrb'.tail, rfl, rfl, rfl⟩
        rw [← hst]; show _ = (if c = 48 then strip (c' :: r) else _); rw [if_pos hc]
      · rw [decide_eq_false hc, ifk_false]
        rw [← hst, show strip (c :: c' :: r) = c :: c' :: r from if_neg hc]; rfl
end Go.Ev.W04
