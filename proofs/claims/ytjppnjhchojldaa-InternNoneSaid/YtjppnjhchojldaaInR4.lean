/- PROVED HERE: 'fathomlaw05.InternNone' returns true for every step, and the step reads behind the call as it read before; no conditions. -/
import Derived.Test.YtjppnjhchojldaaInN
import Derived.Test.YtjppnjhchojldaaEvDoor
import Derived.Test.YtjppnjhchojldaaRows
import Derived.JoinedCond
import Derived.Deep.DeepHandedRow
import Derived.WalkKit
import Derived.ProofKit
import Derived.OpenShut
import Derived.Carry
import Derived.ChangeSame
import Derived.ChangeSlices
import Derived.ChangeArms
import Derived.Lib.SmallJoins
import Derived.Test.YtjppnjhchojldaaEvText
namespace Go.Ev.W05
open Go.Proofs Go.ChangeShapes Go.WideShapes Go.ChangeAt Go.RowKit Go.Lib
open Go.Proofs.Ytjppnjhchojldaa
set_option maxRecDepth 100000

theorem own : ownKnob Try.prog.godebug = none := by kernel_rfl
theorem laidOut : laidOutB Try.pinned.checked.prog = true := by kernel_rfl
section
variable {H : Type} {enc : TypeId × Value → H} {w : World} {base : Nat} {spare : Nat → Bool} {held : Bool} {P : Program}
theorem trod_struct6 {t : TypeId} {f0 f1 f2 f3 f4 f5 : Field} {fuel : Nat} {cs : List Value} {x : DataW H × List MemPlace} (ht : P.underlying t = some (.struct #[f0, f1, f2, f3, f4, f5])) (h : DataW.trod enc P w base spare held fuel t cs = some x) :
    ∃ y0 y1 y2 y3 y4 y5 n, DataW.trod enc P w base spare held n f0.type ((cs.drop f0.offset).take (P.cellsOf f0.type)) = some y0 ∧
      DataW.trod enc P w base spare held n f1.type ((cs.drop f1.offset).take (P.cellsOf f1.type)) = some y1 ∧ DataW.trod enc P w base spare held n f2.type ((cs.drop f2.offset).take (P.cellsOf f2.type)) = some y2 ∧
      DataW.trod enc P w base spare held n f3.type ((cs.drop f3.offset).take (P.cellsOf f3.type)) = some y3 ∧ DataW.trod enc P w base spare held n f4.type ((cs.drop f4.offset).take (P.cellsOf f4.type)) = some y4 ∧
      DataW.trod enc P w base spare held n f5.type ((cs.drop f5.offset).take (P.cellsOf f5.type)) = some y5 := by
  obtain ⟨xs, n, _, rfl, hl, hlen, hf⟩ := DataW.trod_struct ht h
  match xs, hlen with
  | [y0, y1, y2, y3, y4, y5], _ => exact ⟨y0, y1, y2, y3, y4, y5, n, by simpa using hf 0 f0 rfl, by simpa using hf 1 f1 rfl, by simpa using hf 2 f2 rfl, by simpa using hf 3 f3 rfl, by simpa using hf 4 f4 rfl, by simpa using hf 5 f5 rfl⟩
end
/-- words that came in -/
theorem words_in {W : World} {c4 : Value} {H : Type} {enc : TypeId × Value → H} {n : Nat} {y : DataW H × List MemPlace} (u : DataW.trod enc Try.prog W 0 (fun _ => true) true n 27 [c4] = some y) :
    ∃ ρ h v, RH ρ h W ∧ (∀ c, ¬ Wr ρ h c) ∧ VR ρ v c4 ∧ Words2 h v ∧ c4.oneCell' = true := by
  have r0 : RH (voidRho nx0.val) ⟨[], nx0⟩ W := void_rh (Nat.zero_le _)
  rcases open_ints Try.underlying27 Try.underlying32 (by kernel_rfl) u with ⟨hcs, _⟩ | ⟨a, l, c, zs, hcs, _, hl, hm, hz, _, hcell, hwz⟩
  · cases hcs
    exact ⟨_, _, .nils, r0, void_wr, .nils, .inl rfl, rfl⟩
  · cases hcs
    by_cases h0 : l = 0
    · subst h0
      exact ⟨_, _, .emp, r0, void_wr, .emp a c, .inr (.inl rfl), rfl⟩
    · have hzl : zs.length = c := by simpa using hz
      obtain ⟨b, off, rfl, hc⟩ := ints_at hcell (by omega)
      obtain ⟨S, B⟩ := holds_ints (k := .u64) hc (by omega)
      obtain ⟨t, w1, ct⟩ := tree_of (zs.map (V.int .u64))
      obtain ⟨cs, el, fz, h1, h2, h3, h4⟩ := B.at_
      have L : Lies W b off S ((zs.map (V.int .u64)).length * 1) (zs.map (Value.int .u64)) := by
        refine ⟨⟨cs, el, fz, h1, h2, fun i y hy => ?_⟩, by simp, by simp; omega⟩
        rw [List.getElem?_map] at hy
        obtain ⟨z, hz1, rfl⟩ := Option.map_eq_some_iff.1 hy
        obtain ⟨x, h5, h6, h7⟩ := h4 i (.int .u64 z) (by simp [hz1])
        have h8 := h6 (fun _ => none)
        cases h8
        exact ⟨h5, rfl⟩
      have vs : ∀ ρ (l : List Int), VRs ρ (l.map (V.int .u64)) (l.map (Value.int .u64)) := by
        intro ρ l
        induction l with
        | nil => exact .nil
        | cons z l ih => exact .cons (.int _ _) ih
      have tg : ∀ j, t.get j = if 0 ≤ j ∧ j < 0 + (zs.map (V.int .u64)).length then some (((zs.map (V.int .u64)).drop ((j - 0) * 1)).take 1) else T.e.get j := by
        intro j
        by_cases hj : j < (zs.map (V.int .u64)).length
        · rw [if_pos (by omega)]
          obtain ⟨ch, e1⟩ := w1.shape.get hj
          have e2 := w1.len _ _ e1
          have e3 := ct j
          simp only [T.cell, Nat.div_one, e1, Option.bind_some, Nat.mod_one] at e3
          rw [e1]
          match ch, e2 with
          | [q], _ =>
            simp only [List.getElem?_cons_zero] at e3
            rw [Nat.sub_zero, Nat.mul_one, List.drop_eq_getElem_cons hj, List.take_succ_cons, List.take_zero]
            rw [List.getElem?_eq_getElem hj] at e3
            simp at e3
            simp [e3]
        · rw [if_neg (by omega)]
          cases e1 : t.get j with
          | none => rfl
          | some ch => exact absurd (w1.shape.get_lt e1) hj
      obtain ⟨le2, rh2, nw2⟩ := r0.view void_wr (g := 1) (n := (zs.map (V.int .u64)).length) (by omega) (cells := zs.map (V.int .u64)) (t := t) (by simp) tg L (vs _ _)
      have gx : ((Heap.new ⟨[], nx0⟩ (.arr 1 (zs.map (V.int .u64)).length t true) nx0.nxt).t.get nx0) = .arr 1 (zs.map (V.int .u64)).length t true := HT.get_set _ _ _
      refine ⟨_, _, .slice nx0 0 l (some c) 1, rh2, nw2, ?_, .inr (.inr ⟨nx0, l, some c, zs.map (V.int .u64), rfl, ?_, ⟨_, t, gx, w1, by simp, ct⟩, fun i hi hil => ?_⟩), rfl⟩
      · have := VR.slice (ρ := (voidRho nx0.val).put nx0 (b, off, S)) (o := 0) (cp := some c) (s := 1) (cap := c) (l := l) (Rho.put_same _ _ _) (fun n hn => by cases hn; rfl) (fun hn => by cases hn) hl
        simpa using this
      · show nx0.val < nx0.nxt.val
        rw [Bid.nxt_val]; omega
      · exact ⟨zs[i]'(by omega), by simp [show i < zs.length by omega]⟩
/-- a step, opened as far as it is looked into -/
theorem open_step {H : Type} {enc : TypeId × Value → H} {W : World} {base : Nat} {v : Value} {d : DataW H} {p : List MemPlace} (hok : Value.okWide Try.prog W .any base 41 v) (hT : DataW.Trod enc Try.prog W 0 (fun _ => true) true 41 v d p) :
    ∃ ρ h k s b l m u, RH ρ h W ∧ (∀ c, ¬ Wr ρ h c) ∧ VR ρ (.agg 9 (stepL k s b l m u undL)) v ∧ Words2 h u := by
  obtain ⟨cs, rfl, hsz⟩ := okWide_struct Try.underlying41 hok
  obtain ⟨fuel, hv⟩ := hT
  obtain ⟨y0, y1, y2, y3, y4, y5, n, u0, u1, u2, u3, u4, u5⟩ := trod_struct6 Try.underlying41 hv
  have hC : Try.prog.cellsOf 41 = 9 := by kernel_rfl
  rw [hC] at hsz
  obtain ⟨c0, c1, c2, c3, c4, c5, c6, c7, c8, rfl⟩ : ∃ c0 c1 c2 c3 c4 c5 c6 c7 c8, cs = #[c0, c1, c2, c3, c4, c5, c6, c7, c8] := by
    obtain ⟨l⟩ := cs
    match l, hsz with
    | [c0, c1, c2, c3, c4, c5, c6, c7, c8], _ => exact ⟨c0, c1, c2, c3, c4, c5, c6, c7, c8, rfl⟩
  have e3 : Try.prog.cellsOf 3 = 1 := by kernel_rfl
  have e2 : Try.prog.cellsOf 2 = 1 := by kernel_rfl
  have e5 : Try.prog.cellsOf 5 = 1 := by kernel_rfl
  have e9 : Try.prog.cellsOf 9 = 1 := by kernel_rfl
  have e23 : Try.prog.cellsOf 23 = 1 := by kernel_rfl
  have e27 : Try.prog.cellsOf 27 = 1 := by kernel_rfl
  have e30 : Try.prog.cellsOf 30 = 4 := by kernel_rfl
  simp only [Value.cells, e3, e9, e27, e30, List.drop, List.take] at u0 u1 u2 u3 u4 u5
  obtain ⟨k, q0, _, _⟩ := DataW.trod_int Try.underlying3 u0
  obtain ⟨s, q1, _, _⟩ := DataW.trod_int Try.underlying3 u1
  obtain ⟨b, q2, _, _⟩ := DataW.trod_int Try.underlying3 u2
  obtain ⟨t, q3, _, _⟩ := DataW.trod_string Try.underlying9 u3
  simp only [List.cons.injEq, and_true] at q0 q1 q2 q3
  subst q0; subst q1; subst q2; subst q3
  obtain ⟨z0, z1, z2, z3, n', _, _, w0, w1, w2, w3⟩ := Go.Joins.trod_struct4 Try.underlying30 u5
  simp only [e2, e5, e9, e23, List.drop, List.take] at w0 w1 w2 w3
  obtain ⟨k5, q5, _, _⟩ := DataW.trod_int Try.underlying5 w0
  obtain ⟨k6, q6, _, _⟩ := DataW.trod_int Try.underlying2 w1
  obtain ⟨t7, q7, _, _⟩ := DataW.trod_string Try.underlying9 w2
  obtain ⟨a8, l8, p8, q8⟩ := Go.Joins.slice_form Try.underlying23 w3
  simp only [List.cons.injEq, and_true] at q5 q6 q7 q8
  subst q5; subst q6; subst q7; subst q8
  obtain ⟨ρ, h, u, rh, nw, vu, a, one⟩ := words_in u4
  obtain ⟨bs, _, _, vt⟩ := bytes_in (ρ := ρ) t
  refine ⟨ρ, h, k, s, b, bs.length, packN bs, u, rh, nw, ?_, a⟩
  refine .agg (.cons (.int _ _) (.cons (.int _ _) (.cons (.int _ _) (.cons vt (.cons vu (.cons (.und _) (.cons (.und _) (.cons (.und _) (.cons (.und _) .nil))))))))) ?_ rfl
  intro x hx
  simp only [List.mem_cons, List.not_mem_nil, or_false] at hx
  rcases hx with rfl | rfl | rfl | rfl | rfl | rfl | rfl | rfl | rfl | hx <;> first | rfl | exact one | exact hx.elim
theorem walk4 {H : Type} {enc : TypeId × Value → H} {W : World} {base : Nat} {v : Value} {d : DataW H} {p : List MemPlace} (hok : Value.okWide Try.prog W .any base 41 v) (hT : DataW.Trod enc Try.prog W 0 (fun _ => true) true 41 v d p) :
    Calls Try.prog 4 #[v] W fun e w' => e = .returned (.bool true) ∧ Below W.heap.size W w' := by
  obtain ⟨ρ, h, k, s, b, l, m, u, rh, nw, vv, a⟩ := open_step hok hT
  obtain ⟨h', e⟩ := none_law (n := 1000) (d := 100) (k := k) (s := s) (b := b) (l := l) (m := m) a
  obtain ⟨_, c⟩ := call_ok tabWOk (n := 1001) 102 f4 _ _ _ e (by simp)
  refine (c ρ W [v] (.cons vv .nil) rh (fun g hg => absurd hg (Nat.not_lt_zero g))).mono fun e w' hc => ?_
  obtain ⟨ρ', y, rfl, hy, _, hx⟩ := hc
  cases hy
  exact ⟨rfl, hx.os, hx.tape, hx.output, hx.size, fun k hk => (hx.keep k hk (nw k)).1⟩

/-- a world for the witness -/
noncomputable def laidWorld (os : Os) : World := World.holding Try.prog os ⟨#[], #[], []⟩
/-- a step for the witness -/
abbrev step0 : Value := .agg #[.int .i64 0, .int .i64 0, .int .i64 0, .string ⟨#[]⟩, .slice none 0 0, .int .u8 0, .int .i64 0, .string ⟨#[]⟩, .slice none 0 0]
theorem contract4 (H : Type) (enc : TypeId × Value → H) (W : World) (base : Nat) (args : Array Value) (ds gs : List (DataW H)) (before : List MemPlace)
    (hval : ∀ (j : Nat) t v, Try.f4.params[j]? = some t → args[j]? = some v → Value.okWide Try.prog W .any base t v)
    (hW : DataW.Whole enc Try.prog Try.f4.params.toList Rows.internNoneSpec.vars false W args.toList ds gs before) :
    Calls Try.prog 4 args W fun e W' => ∃ v, e = .returned v ∧ Rows.internNoneSpec.post enc Try.prog Try.f4 false true false false W args v W' := by
  have hW' := hW
  obtain ⟨p, q, hA0, hV, rfl, hfz, hnd⟩ := hW
  have hA : DataW.TrodAll enc Try.prog W 0 (fun _ => true) true Try.f4.params.toList args.toList ds p := hA0
  rw [Try.params4] at hA hval
  obtain ⟨v0, vs0, d0, ds0, p0, q0, hargs, rfl, rfl, h0, r0⟩ := trodAll_cons hA
  obtain ⟨rfl, rfl, rfl⟩ := trodAll_nil r0
  obtain rfl : args = #[v0] := by cases args; simp_all
  obtain ⟨rfl, rfl⟩ := trodVars_none hV
  have k0 := h0
  have lt0 : ∀ x ∈ p0, x.block < W.heap.size := by obtain ⟨m, hm⟩ := k0; exact DataW.trod_lt m _ _ _ hm
  clear hA0
  simp only [List.append_nil] at hW'
  refine (walk4 (hval 0 41 v0 rfl rfl) h0).mono fun e W' ⟨he, bel⟩ => ?_
  subst he
  have t0 := trodAll_cons_mk (Below.trod laidOut (by kernel_rfl) (of_decide_eq_true (by kernel_rfl)) k0 bel lt0) trodAll_mk0
  rw [List.append_nil] at t0
  exact ⟨_, rfl, _, _, _, [], p0, [], hW', trodAll_mk1 (shut_bool Try.underlying4 _), t0, rfl, bel.frame _, fun h => by cases h⟩
theorem reads4 (os : Os) {H : Type} (enc : TypeId × Value → H) : ∃ ds places, DataW.whole enc Try.prog ((laidWorld os).forCall (fun _ _ => 0) ⟨#[], #[step0], []⟩).memory Try.f4.params.toList Rows.internNoneSpec.vars false (#[step0] : Array Value).toList 8 = some (ds, [], places) :=
  ⟨[.agg [.lit (.int .i64 0), .lit (.int .i64 0), .lit (.int .i64 0), .lit (.string []), .nil, .agg [.lit (.int .u8 0), .lit (.int .i64 0), .lit (.string []), .nil]]], [], by kernel_rfl⟩
theorem laid_met4 (os : Os) : laidMet Try.prog Rows.internNoneRow.laid ((laidWorld os).forCall (fun _ _ => 0) ⟨#[], #[step0], []⟩).memory := ⟨[], rfl, List.nodup_nil, fun _ _ h => by cases h⟩
/-- THE FIRST FORM's STEP. -/
theorem lifted4 (os : Os) (started : os.Started) (H : Type) (enc : TypeId × Value → H) (F : Stop.Interp) :
    ReturnsInHanded {} Try.checked os 4 .any ((OpenSpec.ofChange Rows.internNoneSpec).preRow enc Try.prog Try.f4 Rows.internNoneRow.domain false Rows.internNoneRow.laid) (((OpenSpec.ofChange Rows.internNoneSpec).at F).post enc Try.prog Try.f4 false true false false) := by
  obtain ⟨ds, places, hx⟩ := reads4 os enc
  refine returnsInHanded_of_row (C := Try.checked) (s := OpenSpec.ofChange Rows.internNoneSpec) own started (by kernel_rfl) Try.func4
    (witness_row_at (enc := enc) (C := Try.checked) false (laidWorld os) #[step0] rfl (by kernel_rfl) (by kernel_rfl) (by kernel_rfl)
      (OpenSpec.preRow_of_cond 8 hx (by kernel_rfl) (fun k hk => by cases hk) (by kernel_rfl) (laid_met4 os))) ?_
  intro W base args ds gs before hval hW _ _ _ _ _ _
  exact contract4 H enc W base args ds gs before hval hW
/-- ████ THE ROW ████ -/
theorem said4 : Rows.InternNoneSaid :=
  OpenClaim.holds_of_cond 4 Try.f4 rfl rfl rfl rfl rfl rfl rfl ⟨rfl, rfl, rfl, rfl, rfl⟩ rfl rfl rfl rfl rfl (by kernel_rfl) Try.func4 (by kernel_rfl)
    (of_decide_eq_true (by kernel_rfl)) (by unfold Func.isWrapper; first | (rw [if_pos (by decide +kernel)]; kernel_rfl) | (rw [if_neg (by decide +kernel)]; exact ⟨rfl, rfl⟩))
    (fun os started H enc _ F => by rw [OpenClaim.pre_eq_preRow]; exact lifted4 os started H enc F)
end Go.Ev.W05
namespace Go.Proofs.Ytjppnjhchojldaa
theorem internNone_holds : Rows.InternNoneSaid := Go.Ev.W05.said4
#print axioms internNone_holds
end Go.Proofs.Ytjppnjhchojldaa
