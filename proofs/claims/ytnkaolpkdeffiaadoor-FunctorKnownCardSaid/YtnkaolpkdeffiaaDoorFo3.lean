/- Fo3: texts joined. -/
import Derived.Test.YtnkaolpkdeffiaaDoorFnX
import Derived.Test.YtnkaolpkdeffiaaDoorFo2
/- FUNCTOR: the table of functions of FunctorBack; the walk. -/
namespace Go.Ev.W04
open Go.Proofs Go.RowKit
set_option maxRecDepth 100000
noncomputable def tabB6z1 : Go.Ev.N PO := ⟨.no, .no, .no, .no, .no, .no, .no, .no, .no, .no, .no, .no, .no, .no, .no, .no⟩
noncomputable def tabB6z2 : Go.Ev.N (Go.Ev.N PO) := ⟨tabB6z1, tabB6z1, tabB6z1, tabB6z1, tabB6z1, tabB6z1, tabB6z1, tabB6z1, tabB6z1, tabB6z1, tabB6z1, tabB6z1, tabB6z1, tabB6z1, tabB6z1, tabB6z1⟩
noncomputable def tabB6z3 : Go.Ev.N (Go.Ev.N (Go.Ev.N PO)) := ⟨tabB6z2, tabB6z2, tabB6z2, tabB6z2, tabB6z2, tabB6z2, tabB6z2, tabB6z2, tabB6z2, tabB6z2, tabB6z2, tabB6z2, tabB6z2, tabB6z2, tabB6z2, tabB6z2⟩
noncomputable def tabB61_000 : Go.Ev.N PO := ⟨.no, .no, .no, .no, .no, .no, .sh (sh6 words), .no, .no, .no, .no, .no, .no, .no, .orc orcW, .no⟩
noncomputable def tabB61_001 : Go.Ev.N PO := ⟨.no, .sh (sh17 words), .sh (sh18 words), .no, .no, .no, .no, .no, .no, .no, .no, .no, .no, .no, .no, .no⟩
noncomputable def tabB61_002 : Go.Ev.N PO := ⟨.no, .sh (sh33 words), .no, .no, .no, .no, .no, .no, .no, .no, .no, .no, .no, .no, .no, .no⟩
noncomputable def tabB62_00 : Go.Ev.N (Go.Ev.N PO) := ⟨tabB61_000, tabB61_001, tabB61_002, tabB6z1, tabB6z1, tabB6z1, tabB6z1, tabB6z1, tabB6z1, tabB6z1, tabB6z1, tabB6z1, tabB6z1, tabB6z1, tabB6z1, tabB6z1⟩
noncomputable def tabB63_0 : Go.Ev.N (Go.Ev.N (Go.Ev.N PO)) := ⟨tabB62_00, tabB6z2, tabB6z2, tabB6z2, tabB6z2, tabB6z2, tabB6z2, tabB6z2, tabB6z2, tabB6z2, tabB6z2, tabB6z2, tabB6z2, tabB6z2, tabB6z2, tabB6z2⟩
noncomputable def tabB6 : FT := ⟨tabB63_0, tabB6z3, tabB6z3, tabB6z3, tabB6z3, tabB6z3, tabB6z3, tabB6z3, tabB6z3, tabB6z3, tabB6z3, tabB6z3, tabB6z3, tabB6z3, tabB6z3, tabB6z3⟩
noncomputable def tabB6L : List (Fid × PO) := [(⟨.d0, .d0, .d0, .d6⟩, .sh (sh6 words)), (⟨.d0, .d0, .d0, .de⟩, .orc orcW), (⟨.d0, .d0, .d1, .d1⟩, .sh (sh17 words)), (⟨.d0, .d0, .d1, .d2⟩, .sh (sh18 words)), (⟨.d0, .d0, .d2, .d1⟩, .sh (sh33 words))]
theorem tabB6_eq : tabB6 = FT.of tabB6L := by kernel_rfl
theorem tabB6o6 : POok Tryd.prog 2 6 (.sh (sh6 words)) := .of4 pf6_ok sh6_eq
theorem tabB6o14 : POok Tryd.prog 2 14 (.orc orcW) := fnokW
theorem tabB6o17 : POok Tryd.prog 2 17 (.sh (sh17 words)) := .of4 pf17_ok sh17_eq
theorem tabB6o18 : POok Tryd.prog 2 18 (.sh (sh18 words)) := .of4 pf18_ok sh18_eq
theorem tabB6o33 : POok Tryd.prog 2 33 (.sh (sh33 words)) := .of4 pf33_ok sh33_eq
theorem tabB6Ok : TabOk Tryd.prog 2 tabB6 := by
  refine TabOk.of tabB6_eq fun x hx => ?_
  simp only [tabB6L, List.mem_cons, List.not_mem_nil, or_false] at hx
  rcases hx with rfl | rfl | rfl | rfl | rfl
  · exact tabB6o6
  · exact tabB6o14
  · exact tabB6o17
  · exact tabB6o18
  · exact tabB6o33
theorem tabB6c6 (m d : Nat) (l : List V) (h : Heap) : call tabB6 m (d + 1) ⟨.d0, .d0, .d0, .d6⟩ l h = sh6 words m (call tabB6 m d) l h := by kernel_rfl
theorem tabB6c14 (m d : Nat) (l : List V) (h : Heap) : call tabB6 m (d + 1) ⟨.d0, .d0, .d0, .de⟩ l h = orcW l h := by kernel_rfl
theorem tabB6c17 (m d : Nat) (l : List V) (h : Heap) : call tabB6 m (d + 1) ⟨.d0, .d0, .d1, .d1⟩ l h = sh17 words m (call tabB6 m d) l h := by kernel_rfl
theorem tabB6c18 (m d : Nat) (l : List V) (h : Heap) : call tabB6 m (d + 1) ⟨.d0, .d0, .d1, .d2⟩ l h = sh18 words m (call tabB6 m d) l h := by kernel_rfl
theorem tabB6c33 (m d : Nat) (l : List V) (h : Heap) : call tabB6 m (d + 1) ⟨.d0, .d0, .d2, .d1⟩ l h = sh33 words m (call tabB6 m d) l h := by kernel_rfl
theorem callB (d : Nat) : CallB (call tabB6 NN (d + 2)) where
  int bs h hb hl := by rw [tabB6c17]; exact int_law hb (by show bs.length < 100000; omega) (by omega)
  str a h ha := by
    obtain ⟨h', u, e⟩ := str_law (n := NN) (cf := call tabB6 NN (d + 1)) (h := h) ⟨fun N h hN => by rw [tabB6c33]; exact digits_law hN (by decide)⟩ ha
    exact ⟨h', u, (tabB6c18 _ _ _ _).trans e⟩
  works h t := by rw [tabB6c14]; exact orcW_law t
theorem walk6 {W : World} (L : laidMet Tryd.prog laid04 W) {a : Int} {s : ByteArray} (ha : In64 a) (_ : s.size ≤ maxLen) :
    Calls Tryd.prog 6 #[.int .i64 a, .string s] W fun e w' => e = .returned (.bool true) ∧ Below W.heap.size W w' := by
  obtain ⟨S, B⟩ := accept_holds L
  obtain ⟨ρ, h, d, g, t⟩ := doorT (first_holds L) B
  obtain ⟨bs, hb, _, hv⟩ := bytes_in (ρ := ρ) s
  obtain ⟨h', e⟩ := back_law (n := NN) (callB 0) (by decide) ha hb t
  rw [← tabB6c6] at e
  obtain ⟨_, c⟩ := call_ok tabB6Ok (n := NN) 3 ⟨.d0, .d0, .d0, .d6⟩ _ _ _ e (by simp)
  exact (c ρ W [.int .i64 a, .string s] (.cons (.int .i64 _) (.cons hv .nil)) d.rh g).mono fun e w' hc => d.below hc
end Go.Ev.W04

/- FUNCTOR: the laws as known answers (entries of a table). -/
namespace Go.Ev.W04
open Go.Proofs Go.RowKit
set_option maxRecDepth 100000
theorem castI_i64 {v : V} {k : Int → Res} {r : Res} (h : castI .i64 v k = r) (hr : r ≠ .fail) : ∃ n, v = .int .i64 n ∧ k n = r := by
  obtain ⟨kd, n, rfl, h1⟩ := intk_ok h hr
  obtain ⟨e, h2⟩ := ifk_fail h1 hr
  obtain rfl : kd = .i64 := by cases kd <;> first | rfl | exact absurd e (by decide)
  exact ⟨n, rfl, h2⟩
theorem castS_inv {v : V} {k : Nat → Nat → Res} {r : Res} (h : castS v k = r) (hr : r ≠ .fail) : ∃ l n, v = .str l n ∧ k l n = r := strk_ok h hr
/-- a number of 64 bits -/
noncomputable def in64k (v : V) (q : Res) : Res := castI .i64 v fun n => ifk (ilt (.negSucc 9223372036854775808) n) (ifk (ilt n (.ofNat 9223372036854775808)) q .fail) .fail
theorem in64k_ok {v : V} {q r : Res} (h : in64k v q = r) (hr : r ≠ .fail) : ∃ n, v = .int .i64 n ∧ In64 n ∧ q = r := by
  obtain ⟨n, rfl, h1⟩ := castI_i64 h hr
  obtain ⟨e1, h2⟩ := ifk_fail h1 hr
  obtain ⟨e2, h3⟩ := ifk_fail h2 hr
  rw [ilt_eq] at e1 e2
  refine ⟨n, rfl, ?_, h3⟩
  have e1 := of_decide_eq_true e1
  have e2 := of_decide_eq_true e2
  unfold In64
  have : (Int.negSucc 9223372036854775808 : Int) = -9223372036854775809 := rfl
  have : (Int.ofNat 9223372036854775808 : Int) = 9223372036854775808 := rfl
  omega
noncomputable def u8k (v : V) (q : Res) : Res := intk v fun kd m => ifk (Nat.beq (kno kd) 4) (natk m fun b => ifk (Nat.blt b 256) q .fail) .fail
theorem u8k_ok {v : V} {q r : Res} (h : u8k v q = r) (hr : r ≠ .fail) : ∃ b : Nat, v = .int .u8 (Int.ofNat b) ∧ b < 256 ∧ q = r := by
  obtain ⟨kd, m, rfl, h1⟩ := intk_ok h hr
  obtain ⟨e, h2⟩ := ifk_fail h1 hr
  obtain ⟨b, rfl, h3⟩ := natk_ok h2 hr
  obtain ⟨e2, h4⟩ := ifk_fail h3 hr
  obtain rfl : kd = .u8 := by cases kd <;> first | rfl | exact absurd e (by decide)
  exact ⟨b, rfl, by simpa [Nat.blt_eq] using e2, h4⟩
noncomputable def strq (v : V) (q : Res) : Res := castS v fun _ _ => q
theorem strq_ok {v : V} {q r : Res} (h : strq v q = r) (hr : r ≠ .fail) : ∃ l n, v = .str l n ∧ q = r := castS_inv h hr
abbrev Yes (f : Nat) (args : Array Value) (W : World) : Prop := Calls Tryd.prog f args W fun e w' => e = .returned (.bool true) ∧ Below W.heap.size W w'
abbrev Both (W : World) : Prop := ∃ S0 S1, Holds W 0 0 S0 firstL ∧ Holds W 1 0 S1 acceptL
/-- the memory at the call -/
theorem both_door {W : World} (B : Both W) : ∃ ρ h, Door W firstL ρ h ∧ GlobR ρ 2 ∧ Tabs h := by
  obtain ⟨S0, S1, A, B⟩ := B
  exact doorT A B
theorem both_works {W : World} (B : Both W) (tab : FT) (hy : ∃ t0 t1, (Wf t0 1 256 ∧ ∀ j, t0.cell 1 j = firstL[j]?) ∧ (Wf t1 1 32 ∧ ∀ j, t1.cell 1 j = acceptL[j]?) ∧ yes (call tab NN 6 ⟨.d0, .d0, .d0, .de⟩ [] (doorHeap (.arr 1 256 t0 true) (.arr 1 32 t1 true))) = true) :
    ∃ ρ h h', Door W firstL ρ h ∧ GlobR ρ 2 ∧ call tab NN 6 ⟨.d0, .d0, .d0, .de⟩ [] h = .ret (.bool true) h' := by
  obtain ⟨S0, S1, A, B⟩ := B
  obtain ⟨t0, t1, ⟨w0, c0⟩, ⟨w1, c1⟩, hy⟩ := hy
  obtain ⟨d, _⟩ := door2_at A B (by omega) (t0 := t0) (t1 := t1) (firstLen.symm ▸ w0) c0 (acceptLen.symm ▸ w1) c1
  obtain ⟨h', e⟩ := yes_ok hy
  rw [firstLen, acceptLen] at d
  exact ⟨_, _, h', d, glob2, e⟩
theorem yes3 {W : World} (B : Both W) {op : Nat} {a b : Int} (ha : In64 a) : Yes 3 #[.int .u8 (Int.ofNat op), .int .i64 a, .int .i64 b] W := by
  obtain ⟨ρ, h, h', d, g, hw⟩ := both_works B tabN runN
  have e := numbers_law (n := NN) (callN 4) (op := op) (b := b) ha hw
  rw [← call3] at e
  obtain ⟨_, c⟩ := call_ok tabNOk (n := NN) 7 ⟨.d0, .d0, .d0, .d3⟩ _ _ _ e (by simp)
  exact (c ρ W [.int .u8 (Int.ofNat op), .int .i64 a, .int .i64 b] (.cons (.int .u8 _) (.cons (.int .i64 _) (.cons (.int .i64 _) .nil))) d.rh g).mono fun e w' hc => d.below hc
theorem yes4 {W : World} (B : Both W) {a b : Int} (ha : In64 a) (hb : In64 b) : Yes 4 #[.int .i64 a, .int .i64 b] W := by
  obtain ⟨ρ, h, h', d, g, hw⟩ := both_works B tabM runM
  have e : sh4 words NN (call tabM NN 6) [.int .i64 a, .int .i64 b] h = .ret (.bool true) h' := by
    by_cases h0 : b = 0
    · subst h0; exact parts0_law (callM 4) hw
    · exact parts_law (callM 4) ha hb h0 hw
  rw [← tabMc4] at e
  obtain ⟨_, c⟩ := call_ok tabMOk (n := NN) 7 ⟨.d0, .d0, .d0, .d4⟩ _ _ _ e (by simp)
  exact (c ρ W [.int .i64 a, .int .i64 b] (.cons (.int .i64 _) (.cons (.int .i64 _) .nil)) d.rh g).mono fun e w' hc => d.below hc
theorem yes5 {W : World} (B : Both W) {a b c : Int} (ha : In64 a) : Yes 5 #[.int .i64 a, .int .i64 b, .int .i64 c] W := by
  obtain ⟨ρ, h, h', d, g, hw⟩ := both_works B tabM runM
  have e := laws_law (n := NN) (callL 3) (by decide) (b := b) (c := c) ha hw
  rw [← tabMc5] at e
  obtain ⟨_, cc⟩ := call_ok tabMOk (n := NN) 7 ⟨.d0, .d0, .d0, .d5⟩ _ _ _ e (by simp)
  exact (cc ρ W [.int .i64 a, .int .i64 b, .int .i64 c] (.cons (.int .i64 _) (.cons (.int .i64 _) (.cons (.int .i64 _) .nil))) d.rh g).mono fun e w' hc => d.below hc
theorem yes6 {W : World} (B : Both W) {a : Int} {s : ByteArray} (ha : In64 a) : Yes 6 #[.int .i64 a, .string s] W := by
  obtain ⟨ρ, h, d, g, t⟩ := both_door B
  obtain ⟨bs, hb, _, hv⟩ := bytes_in (ρ := ρ) s
  obtain ⟨h', e⟩ := back_law (n := NN) (callB 0) (by decide) ha hb t
  rw [← tabB6c6] at e
  obtain ⟨_, c⟩ := call_ok tabB6Ok (n := NN) 3 ⟨.d0, .d0, .d0, .d6⟩ _ _ _ e (by simp)
  exact (c ρ W [.int .i64 a, .string s] (.cons (.int .i64 _) (.cons hv .nil)) d.rh g).mono fun e w' hc => d.below hc
theorem yes7 {W : World} (B : Both W) {s u : ByteArray} {a m : Int} (ha : In64 a) (hm : In64 m) : Yes 7 #[.string s, .string u, .int .i64 a, .int .i64 m] W := by
  obtain ⟨ρ, h, d, g, t⟩ := both_door B
  obtain ⟨bs, hb, _, hv⟩ := bytes_in (ρ := ρ) s
  obtain ⟨cs, hc, _, hw⟩ := bytes_in (ρ := ρ) u
  obtain ⟨h', e⟩ := texts_law (n := NN) (callX 0) hb hc t ha hm
  rw [← tabXc7] at e
  obtain ⟨_, c⟩ := call_ok tabXOk (n := NN) 26 ⟨.d0, .d0, .d0, .d7⟩ _ _ _ e (by simp)
  exact (c ρ W [.string s, .string u, .int .i64 a, .int .i64 m] (.cons hv (.cons hw (.cons (.int .i64 _) (.cons (.int .i64 _) .nil)))) d.rh g).mono fun e w' hc => d.below hc
theorem yes8 {W : World} (B : Both W) {s : ByteArray} {k : Int} (hk : In64 k) : Yes 8 #[.string s, .int .i64 k] W := by
  obtain ⟨ρ, h, d, g, t⟩ := both_door B
  obtain ⟨bs, hb, _, hv⟩ := bytes_in (ρ := ρ) s
  obtain ⟨h', e⟩ := pieces_law (n := NN) (callX 0) hb t hk
  rw [← tabXc8] at e
  obtain ⟨_, c⟩ := call_ok tabXOk (n := NN) 26 ⟨.d0, .d0, .d0, .d8⟩ _ _ _ e (by simp)
  exact (c ρ W [.string s, .int .i64 k] (.cons hv (.cons (.int .i64 _) .nil)) d.rh g).mono fun e w' hc => d.below hc
/- ENTRIES -/
noncomputable def orcN (l : List V) (h : Heap) : Res := unc l fun v0 l => unc l fun v1 l => unc l fun v2 l => nilk' l (u8k v0 (in64k v1 (in64k v2 (chk2 h (.ret (.bool .true) h)))))
theorem fnokN : FnOk Tryd.prog 2 3 orcN := by
  intro l h r hh hr
  refine ⟨enters Tryd.func3 (by kernel_rfl) (by kernel_rfl), fun ρ w args hl rh hg => ?_⟩
  obtain ⟨v0, l0, rfl, g0⟩ := unc_ok hh hr
  obtain ⟨v1, l1, rfl, g1⟩ := unc_ok g0 hr
  obtain ⟨v2, l2, rfl, g2⟩ := unc_ok g1 hr
  obtain ⟨rfl, k0⟩ := nilk'_ok g2 hr
  obtain ⟨a0, rfl, b0, k1⟩ := u8k_ok k0 hr
  obtain ⟨a1, rfl, b1, k2⟩ := in64k_ok k1 hr
  obtain ⟨a2, rfl, b2, k3⟩ := in64k_ok k2 hr
  obtain ⟨e, B⟩ := chk2_ok k3 hr rh hg
  subst e
  rcases hl with _ | ⟨x0, hl⟩
  rcases hl with _ | ⟨x1, hl⟩
  rcases hl with _ | ⟨x2, hl⟩
  cases hl
  cases x0
  cases x1
  cases x2
  exact (yes3 B b1).mono fun e w' hc => came_of rh (.bool true) hc
noncomputable def orcP (l : List V) (h : Heap) : Res := unc l fun v0 l => unc l fun v1 l => nilk' l (in64k v0 (in64k v1 (chk2 h (.ret (.bool .true) h))))
theorem fnokP : FnOk Tryd.prog 2 4 orcP := by
  intro l h r hh hr
  refine ⟨enters Tryd.func4 (by kernel_rfl) (by kernel_rfl), fun ρ w args hl rh hg => ?_⟩
  obtain ⟨v0, l0, rfl, g0⟩ := unc_ok hh hr
  obtain ⟨v1, l1, rfl, g1⟩ := unc_ok g0 hr
  obtain ⟨rfl, k0⟩ := nilk'_ok g1 hr
  obtain ⟨a0, rfl, b0, k1⟩ := in64k_ok k0 hr
  obtain ⟨a1, rfl, b1, k2⟩ := in64k_ok k1 hr
  obtain ⟨e, B⟩ := chk2_ok k2 hr rh hg
  subst e
  rcases hl with _ | ⟨x0, hl⟩
  rcases hl with _ | ⟨x1, hl⟩
  cases hl
  cases x0
  cases x1
  exact (yes4 B b0 b1).mono fun e w' hc => came_of rh (.bool true) hc
noncomputable def orcL (l : List V) (h : Heap) : Res := unc l fun v0 l => unc l fun v1 l => unc l fun v2 l => nilk' l (in64k v0 (in64k v1 (in64k v2 (chk2 h (.ret (.bool .true) h)))))
theorem fnokL : FnOk Tryd.prog 2 5 orcL := by
  intro l h r hh hr
  refine ⟨enters Tryd.func5 (by kernel_rfl) (by kernel_rfl), fun ρ w args hl rh hg => ?_⟩
  obtain ⟨v0, l0, rfl, g0⟩ := unc_ok hh hr
  obtain ⟨v1, l1, rfl, g1⟩ := unc_ok g0 hr
  obtain ⟨v2, l2, rfl, g2⟩ := unc_ok g1 hr
  obtain ⟨rfl, k0⟩ := nilk'_ok g2 hr
  obtain ⟨a0, rfl, b0, k1⟩ := in64k_ok k0 hr
  obtain ⟨a1, rfl, b1, k2⟩ := in64k_ok k1 hr
  obtain ⟨a2, rfl, b2, k3⟩ := in64k_ok k2 hr
  obtain ⟨e, B⟩ := chk2_ok k3 hr rh hg
  subst e
  rcases hl with _ | ⟨x0, hl⟩
  rcases hl with _ | ⟨x1, hl⟩
  rcases hl with _ | ⟨x2, hl⟩
  cases hl
  cases x0
  cases x1
  cases x2
  exact (yes5 B b0).mono fun e w' hc => came_of rh (.bool true) hc
noncomputable def orcB (l : List V) (h : Heap) : Res := unc l fun v0 l => unc l fun v1 l => nilk' l (in64k v0 (strq v1 (chk2 h (.ret (.bool .true) h))))
theorem fnokB : FnOk Tryd.prog 2 6 orcB := by
  intro l h r hh hr
  refine ⟨enters Tryd.func6 (by kernel_rfl) (by kernel_rfl), fun ρ w args hl rh hg => ?_⟩
  obtain ⟨v0, l0, rfl, g0⟩ := unc_ok hh hr
  obtain ⟨v1, l1, rfl, g1⟩ := unc_ok g0 hr
  obtain ⟨rfl, k0⟩ := nilk'_ok g1 hr
  obtain ⟨a0, rfl, b0, k1⟩ := in64k_ok k0 hr
  obtain ⟨a1, b1, rfl, k2⟩ := strq_ok k1 hr
  obtain ⟨e, B⟩ := chk2_ok k2 hr rh hg
  subst e
  rcases hl with _ | ⟨x0, hl⟩
  rcases hl with _ | ⟨x1, hl⟩
  cases hl
  cases x0
  obtain ⟨s1, rfl, _, _⟩ := x1.str_inv
  exact (yes6 B b0).mono fun e w' hc => came_of rh (.bool true) hc
noncomputable def orcT (l : List V) (h : Heap) : Res := unc l fun v0 l => unc l fun v1 l => unc l fun v2 l => unc l fun v3 l => nilk' l (strq v0 (strq v1 (in64k v2 (in64k v3 (chk2 h (.ret (.bool .true) h))))))
theorem fnokT : FnOk Tryd.prog 2 7 orcT := by
  intro l h r hh hr
  refine ⟨enters Tryd.func7 (by kernel_rfl) (by kernel_rfl), fun ρ w args hl rh hg => ?_⟩
  obtain ⟨v0, l0, rfl, g0⟩ := unc_ok hh hr
  obtain ⟨v1, l1, rfl, g1⟩ := unc_ok g0 hr
  obtain ⟨v2, l2, rfl, g2⟩ := unc_ok g1 hr
  obtain ⟨v3, l3, rfl, g3⟩ := unc_ok g2 hr
  obtain ⟨rfl, k0⟩ := nilk'_ok g3 hr
  obtain ⟨a0, b0, rfl, k1⟩ := strq_ok k0 hr
  obtain ⟨a1, b1, rfl, k2⟩ := strq_ok k1 hr
  obtain ⟨a2, rfl, b2, k3⟩ := in64k_ok k2 hr
  obtain ⟨a3, rfl, b3, k4⟩ := in64k_ok k3 hr
  obtain ⟨e, B⟩ := chk2_ok k4 hr rh hg
  subst e
  rcases hl with _ | ⟨x0, hl⟩
  rcases hl with _ | ⟨x1, hl⟩
  rcases hl with _ | ⟨x2, hl⟩
  rcases hl with _ | ⟨x3, hl⟩
  cases hl
  obtain ⟨s0, rfl, _, _⟩ := x0.str_inv
  obtain ⟨s1, rfl, _, _⟩ := x1.str_inv
  cases x2
  cases x3
  exact (yes7 B b2 b3).mono fun e w' hc => came_of rh (.bool true) hc
noncomputable def orcC (l : List V) (h : Heap) : Res := unc l fun v0 l => unc l fun v1 l => nilk' l (strq v0 (in64k v1 (chk2 h (.ret (.bool .true) h))))
theorem fnokC : FnOk Tryd.prog 2 8 orcC := by
  intro l h r hh hr
  refine ⟨enters Tryd.func8 (by kernel_rfl) (by kernel_rfl), fun ρ w args hl rh hg => ?_⟩
  obtain ⟨v0, l0, rfl, g0⟩ := unc_ok hh hr
  obtain ⟨v1, l1, rfl, g1⟩ := unc_ok g0 hr
  obtain ⟨rfl, k0⟩ := nilk'_ok g1 hr
  obtain ⟨a0, b0, rfl, k1⟩ := strq_ok k0 hr
  obtain ⟨a1, rfl, b1, k2⟩ := in64k_ok k1 hr
  obtain ⟨e, B⟩ := chk2_ok k2 hr rh hg
  subst e
  rcases hl with _ | ⟨x0, hl⟩
  rcases hl with _ | ⟨x1, hl⟩
  cases hl
  obtain ⟨s0, rfl, _, _⟩ := x0.str_inv
  cases x1
  exact (yes8 B b1).mono fun e w' hc => came_of rh (.bool true) hc
end Go.Ev.W04

/- FUNCTOR: the closed law FunctorKnown, run. -/
namespace Go.Ev.W04
open Go.Proofs Go.RowKit
set_option maxRecDepth 100000
noncomputable def tabKz1 : Go.Ev.N PO := ⟨.no, .no, .no, .no, .no, .no, .no, .no, .no, .no, .no, .no, .no, .no, .no, .no⟩
noncomputable def tabKz2 : Go.Ev.N (Go.Ev.N PO) := ⟨tabKz1, tabKz1, tabKz1, tabKz1, tabKz1, tabKz1, tabKz1, tabKz1, tabKz1, tabKz1, tabKz1, tabKz1, tabKz1, tabKz1, tabKz1, tabKz1⟩
noncomputable def tabKz3 : Go.Ev.N (Go.Ev.N (Go.Ev.N PO)) := ⟨tabKz2, tabKz2, tabKz2, tabKz2, tabKz2, tabKz2, tabKz2, tabKz2, tabKz2, tabKz2, tabKz2, tabKz2, tabKz2, tabKz2, tabKz2, tabKz2⟩
noncomputable def tabK1_000 : Go.Ev.N PO := ⟨.no, .no, .no, .orc orcN, .orc orcP, .orc orcL, .orc orcB, .orc orcT, .orc orcC, .sh (sh9 words), .no, .no, .no, .no, .orc orcW, .no⟩
noncomputable def tabK2_00 : Go.Ev.N (Go.Ev.N PO) := ⟨tabK1_000, tabKz1, tabKz1, tabKz1, tabKz1, tabKz1, tabKz1, tabKz1, tabKz1, tabKz1, tabKz1, tabKz1, tabKz1, tabKz1, tabKz1, tabKz1⟩
noncomputable def tabK3_0 : Go.Ev.N (Go.Ev.N (Go.Ev.N PO)) := ⟨tabK2_00, tabKz2, tabKz2, tabKz2, tabKz2, tabKz2, tabKz2, tabKz2, tabKz2, tabKz2, tabKz2, tabKz2, tabKz2, tabKz2, tabKz2, tabKz2⟩
noncomputable def tabK : FT := ⟨tabK3_0, tabKz3, tabKz3, tabKz3, tabKz3, tabKz3, tabKz3, tabKz3, tabKz3, tabKz3, tabKz3, tabKz3, tabKz3, tabKz3, tabKz3, tabKz3⟩
noncomputable def tabKL : List (Fid × PO) := [(⟨.d0, .d0, .d0, .d3⟩, .orc orcN), (⟨.d0, .d0, .d0, .d4⟩, .orc orcP), (⟨.d0, .d0, .d0, .d5⟩, .orc orcL), (⟨.d0, .d0, .d0, .d6⟩, .orc orcB), (⟨.d0, .d0, .d0, .d7⟩, .orc orcT), (⟨.d0, .d0, .d0, .d8⟩, .orc orcC), (⟨.d0, .d0, .d0, .d9⟩, .sh (sh9 words)), (⟨.d0, .d0, .d0, .de⟩, .orc orcW)]
theorem tabK_eq : tabK = FT.of tabKL := by kernel_rfl

theorem tabKOk : TabOk Tryd.prog 2 tabK := by
  refine TabOk.of tabK_eq fun x hx => ?_
  simp only [tabKL, List.mem_cons, List.not_mem_nil, or_false] at hx
  rcases hx with rfl | rfl | rfl | rfl | rfl | rfl | rfl | rfl
  · exact fnokN
  · exact fnokP
  · exact fnokL
  · exact fnokB
  · exact fnokT
  · exact fnokC
  · exact .of4 pf9_ok sh9_eq
  · exact fnokW
/-- THE RUN -/
theorem run9 : ∃ t0 t1, (Wf t0 1 256 ∧ ∀ j, t0.cell 1 j = firstL[j]?) ∧ (Wf t1 1 32 ∧ ∀ j, t1.cell 1 j = acceptL[j]?) ∧ yes (call tabK NN 3 ⟨.d0, .d0, .d0, .d9⟩ [] (doorHeap (.arr 1 256 t0 true) (.arr 1 32 t1 true))) = true := by
  obtain ⟨t0, h1, h2, h3⟩ := chopk_law (g := 1) (by omega) (wf_e (by omega)) (l := firstL) (m := 256) (by kernel_rfl)
  obtain ⟨t1, g1, g2, g3⟩ := chopk_law (g := 1) (by omega) (wf_e (by omega)) (l := acceptL) (m := 32) (by kernel_rfl)
  refine ⟨t0, t1, ⟨by simpa using h2, fun j => by simpa using h3 j⟩, ⟨by simpa using g2, fun j => by simpa using g3 j⟩, ?_⟩
  have e : chopk 1 256 0 firstL .e (fun t0 => chopk 1 32 0 acceptL .e fun t1 => call tabK NN 3 ⟨.d0, .d0, .d0, .d9⟩ [] (doorHeap (.arr 1 256 t0 true) (.arr 1 32 t1 true))) = call tabK NN 3 ⟨.d0, .d0, .d0, .d9⟩ [] (doorHeap (.arr 1 256 t0 true) (.arr 1 32 t1 true)) := by
    rw [h1, g1]
  exact (congrArg yes e).symm.trans (by kernel_rfl)
theorem yes9 {W : World} (B : Both W) : Yes 9 #[] W := by
  obtain ⟨S0, S1, A, B⟩ := B
  obtain ⟨t0, t1, ⟨w0, c0⟩, ⟨w1, c1⟩, hy⟩ := run9
  obtain ⟨d, _⟩ := door2_at A B (by omega) (t0 := t0) (t1 := t1) (firstLen.symm ▸ w0) c0 (acceptLen.symm ▸ w1) c1
  obtain ⟨h', e⟩ := yes_ok hy
  rw [firstLen, acceptLen] at d
  obtain ⟨_, c⟩ := call_ok tabKOk (n := NN) 3 ⟨.d0, .d0, .d0, .d9⟩ _ _ _ e (by simp)
  exact (c _ W [] .nil d.rh glob2).mono fun e w' hc => d.below hc
theorem walk9 {W : World} (L : laidMet Tryd.prog laid04 W) : Yes 9 #[] W := by
  obtain ⟨S, B⟩ := accept_holds L
  exact yes9 ⟨_, _, first_holds L, B⟩
end Go.Ev.W04
