/- PAGE: the answers that are known, as entries of the table. -/
import Derived.Test.YtbdohcmaighhkaaDoorEvFrame
import Derived.Test.YtbdohcmaighhkaaDoorPg4
import Derived.Test.YtbdohcmaighhkaaDoorPg4
import Derived.Test.YtbdohcmaighhkaaDoorPg4
import Derived.Test.YtbdohcmaighhkaaDoorPg4
namespace Go.Ev.W02
open Go.Proofs Go.RowKit
set_option maxRecDepth 100000

/-- the table lies where it lies -/
noncomputable def chkT (h : Heap) (q : Res) : Res := loadk h gb0 0 tab16.length fun cs => eqsk tab16 cs q
theorem in_read {W : World} {ρ : Rho} {h : Heap} (rh : RH ρ h W) (hg : GlobR ρ 1) {v : V} {x : Value} (hv : VR ρ v x) {q : List Nat → Res} {r : Res} (hh : rdbk v h (fun bs => chkT h (q bs)) = r) (hr : r ≠ .fail) :
    ∃ bs ρ' h' v', q bs = r ∧ In W x ρ' h' v' bs := by
  obtain ⟨S0, hg0⟩ := hg 0 (by omega)
  have hg0 : ρ gb0 = some (0, 0, S0) := hg0
  have key : ∀ bs, chkT h (q bs) = r → q bs = r ∧ h.t.get gb0 ≠ .none ∧ Holds W 0 0 S0 steps := fun bs hb => table_read rh hg0 hb hr (by decide)
  have hA : h.t.get gb0 ≠ .none ∧ Holds W 0 0 S0 steps := by
    rcases slk_ok hh hr with ⟨b, o, l, cp, s, rfl, h1⟩ | ⟨rfl, h1⟩ | ⟨rfl, h1⟩
    · obtain ⟨_, ha⟩ := ifk_fail h1 hr
      obtain ⟨_, hb⟩ := ifk_fail ha hr
      obtain ⟨_, hc⟩ := ifk_fail hb hr
      obtain ⟨c, z, S, cap, hb, _, _, _, _⟩ := hv.slice_inv
      obtain ⟨_, l', cs, el, fz, h2, _⟩ := loadk_cells hc hr rh hb
      obtain ⟨ns, h7, _, _⟩ := numsk_ok h2 hr
      exact (key _ h7).2
    · exact (key _ h1).2
    · exact (key _ h1).2
  obtain ⟨bs, ρ', h', v', h1, d, h2, h3, h4, h5⟩ := bytes_read rh hg0 hA.1 hA.2 hv hh hr
  exact ⟨bs, ρ', h', v', (key _ h1).1, d, h2, h3, h4, h5⟩

noncomputable def orcKB (l : List V) (h : Heap) : Res := unc l fun a l => unc l fun v l => nilk' l (numsk [a] fun _ => rdbk v h fun _ => chkT h (.ret (.bool .true) h))
theorem fnok_KB {f : Nat} (hf : Enters Tryd.prog f) (walk : ∀ {W : World} {k : Nat} (_ : k < 256) {x : Value} {ρ : Rho} {h : Heap} {v : V} {bs : List Nat} (_ : In W x ρ h v bs),
    Calls Tryd.prog f #[.int .u8 (Int.ofNat k), x] W fun e w' => e = .returned (.bool true) ∧ Below W.heap.size W w') : FnOk Tryd.prog 1 f orcKB := by
  intro l h r hh hr
  refine ⟨hf, fun ρ w args hl rh hg => ?_⟩
  obtain ⟨a, l1, rfl, h1⟩ := unc_ok hh hr
  obtain ⟨v, l2, rfl, h2⟩ := unc_ok h1 hr
  obtain ⟨rfl, h3⟩ := nilk'_ok h2 hr
  obtain ⟨ns, h4, h5, h6⟩ := numsk_ok h3 hr
  match ns, h5, h6 with
  | [k], h5, h6 =>
    obtain rfl : a = bV k := by simpa using h5
    have hk : k < 256 := h6 k (by simp)
    cases hl with
    | cons hv0 hl =>
      cases hl with
      | cons hv1 hl =>
        cases hl
        cases hv0
        obtain ⟨bs, ρ', h', v', h7, i⟩ := in_read rh hg hv1 (q := fun _ => .ret (.bool .true) h) h4 hr
        subst h7
        exact (walk hk i).mono fun e w' hc => came_of rh (.bool true) hc
noncomputable def orcB (l : List V) (h : Heap) : Res := unc l fun v l => nilk' l (rdbk v h fun _ => chkT h (.ret (.bool .true) h))
theorem fnok_B {f : Nat} (hf : Enters Tryd.prog f) (walk : ∀ {W : World} {x : Value} {ρ : Rho} {h : Heap} {v : V} {bs : List Nat} (_ : In W x ρ h v bs),
    Calls Tryd.prog f #[x] W fun e w' => e = .returned (.bool true) ∧ Below W.heap.size W w') : FnOk Tryd.prog 1 f orcB := by
  intro l h r hh hr
  refine ⟨hf, fun ρ w args hl rh hg => ?_⟩
  obtain ⟨v, l2, rfl, h2⟩ := unc_ok hh hr
  obtain ⟨rfl, h3⟩ := nilk'_ok h2 hr
  cases hl with
  | cons hv1 hl =>
    cases hl
    obtain ⟨bs, ρ', h', v', h7, i⟩ := in_read rh hg hv1 (q := fun _ => .ret (.bool .true) h) h3 hr
    subst h7
    exact (walk i).mono fun e w' hc => came_of rh (.bool true) hc
noncomputable def orcT (l : List V) (h : Heap) : Res := unc l fun a l => unc l fun v l => unc l fun b l => unc l fun c l => nilk' l (numsk [a] fun _ => intk b fun kb _ => ifk (Nat.beq (kno kb) 3) (intk c fun kc m => ifk (Nat.beq (kno kc) 6) (natk m fun m => ifk (Nat.blt m 4294967296) (rdbk v h fun _ => chkT h (.ret (.bool .true) h)) .fail) .fail) .fail)
theorem fnok_T {f : Nat} (hf : Enters Tryd.prog f) (walk : ∀ {W : World} {k ch : Nat} {z : Int} (_ : k < 256) (_ : ch < 2 ^ 32) {x : Value} {ρ : Rho} {h : Heap} {v : V} {bs : List Nat} (_ : In W x ρ h v bs),
    Calls Tryd.prog f #[.int .u8 (Int.ofNat k), x, .int .i64 z, .int .u32 (Int.ofNat ch)] W fun e w' => e = .returned (.bool true) ∧ Below W.heap.size W w') : FnOk Tryd.prog 1 f orcT := by
  intro l h r hh hr
  refine ⟨hf, fun ρ w args hl rh hg => ?_⟩
  obtain ⟨a, l1, rfl, g1⟩ := unc_ok hh hr
  obtain ⟨v, l2, rfl, g2⟩ := unc_ok g1 hr
  obtain ⟨b, l3, rfl, g3⟩ := unc_ok g2 hr
  obtain ⟨c, l4, rfl, g4⟩ := unc_ok g3 hr
  obtain ⟨rfl, h3⟩ := nilk'_ok g4 hr
  obtain ⟨ns, h4, h5, h6⟩ := numsk_ok h3 hr
  obtain ⟨kb, z, rfl, h7⟩ := intk_ok h4 hr
  obtain ⟨e1, h8⟩ := ifk_fail h7 hr
  obtain ⟨kc, m, rfl, h9⟩ := intk_ok h8 hr
  obtain ⟨e2, h10⟩ := ifk_fail h9 hr
  obtain ⟨ch, rfl, h11⟩ := natk_ok h10 hr
  obtain ⟨e3, h12⟩ := ifk_fail h11 hr
  have e3 : ch < 2 ^ 32 := by simpa [Nat.blt_eq] using e3
  obtain rfl : kb = .i64 := by cases kb <;> first | rfl | exact absurd e1 (by decide)
  obtain rfl : kc = .u32 := by cases kc <;> first | rfl | exact absurd e2 (by decide)
  match ns, h5, h6 with
  | [k], h5, h6 =>
    obtain rfl : a = bV k := by simpa using h5
    have hk : k < 256 := h6 k (by simp)
    cases hl with
    | cons hv0 hl =>
      cases hl with
      | cons hv1 hl =>
        cases hl with
        | cons hv2 hl =>
          cases hl with
          | cons hv3 hl =>
            cases hl
            cases hv0
            cases hv2
            cases hv3
            obtain ⟨bs, ρ', h', v', h7, i⟩ := in_read rh hg hv1 (q := fun _ => .ret (.bool .true) h) h12 hr
            subst h7
            exact (walk hk e3 i).mono fun e w' hc => came_of rh (.bool true) hc
/-- the sum, the number forced at each byte -/
noncomputable def crck (l : List Nat) : Nat → (Nat → Res) → Res :=
  List.rec (motive := fun _ => Nat → (Nat → Res) → Res) (fun r k => k r) (fun c _ ih r k => (fun s => ifk (Nat.beq s s) (ih s k) .fail) (crcByte r c)) l
theorem crck_eq (l : List Nat) : ∀ r k, crck l r k = k (l.foldl crcByte r) := by
  induction l with
  | nil => intro r k; rfl
  | cons c l ih =>
    intro r k
    show ifk (Nat.beq (crcByte r c) (crcByte r c)) (crck l (crcByte r c) k) .fail = _
    rw [Nat.beq_refl, ifk_true, ih]; rfl
noncomputable def orcS (l : List V) (h : Heap) : Res := unc l fun v l => nilk' l (rdbk v h fun bs => chkT h (ifk (Nat.ble bs.length 4096) (crck bs 4294967295 fun r => .ret (.int .u32 (.ofNat (Nat.sub 4294967295 r))) h) .fail))
theorem fnok_S {f : Nat} (hf : Enters Tryd.prog f) (walk : ∀ {W : World} {x : Value} {ρ : Rho} {h : Heap} {v : V} {bs : List Nat} (_ : In W x ρ h v bs) (_ : bs.length ≤ 4096),
    Calls Tryd.prog f #[x] W fun e w' => e = .returned (.int .u32 (Int.ofNat (crc bs))) ∧ Below W.heap.size W w') : FnOk Tryd.prog 1 f orcS := by
  intro l h r hh hr
  refine ⟨hf, fun ρ w args hl rh hg => ?_⟩
  obtain ⟨v, l2, rfl, h2⟩ := unc_ok hh hr
  obtain ⟨rfl, h3⟩ := nilk'_ok h2 hr
  cases hl with
  | cons hv1 hl =>
    cases hl
    obtain ⟨bs, ρ', h', v', h7, i⟩ := in_read rh hg hv1 h3 hr
    obtain ⟨hle, h8⟩ := ifk_fail h7 hr
    rw [crck_eq] at h8
    subst h8
    exact (walk i (by simpa [Nat.ble_eq] using hle)).mono fun e w' hc => came_of rh (.int .u32 _) hc
theorem walk13 {W : World} {x : Value} {ρ : Rho} {h : Heap} {v : V} {bs : List Nat} (i : In W x ρ h v bs) (hl : bs.length ≤ 4096) :
    Calls Tryd.prog 13 #[x] W fun e w' => e = .returned (.int .u32 (Int.ofNat (crc bs))) ∧ Below W.heap.size W w' := by
  obtain ⟨_, c⟩ := call_ok tabOk (n := N) 1 ⟨.d0, .d0, .d0, .dd⟩ _ _ _ (sum_c 0 v h bs i.tab i.is i.lt hl) (by simp)
  exact (c ρ W [x] (.cons i.vr .nil) i.door.rh i.door.glob).mono fun e w' hc => i.door.ends (fun ρ' y' hy => by cases hy; rfl) hc
theorem walk14 {W : World} {x : Value} {ρ : Rho} {h : Heap} {v : V} {bs : List Nat} (i : In W x ρ h v bs) (hl : bs.length ≤ 4096) :
    Calls Tryd.prog 14 #[x] W fun e w' => e = .returned (.int .u32 (Int.ofNat (crc bs))) ∧ Below W.heap.size W w' := by
  obtain ⟨_, c⟩ := call_ok tabOk (n := N) 1 ⟨.d0, .d0, .d0, .de⟩ _ _ _ (refsum_c 0 v h bs i.is i.lt hl) (by simp)
  exact (c ρ W [x] (.cons i.vr .nil) i.door.rh i.door.glob).mono fun e w' hc => i.door.ends (fun ρ' y' hy => by cases hy; rfl) hc
/-- a closed law -/
noncomputable def orc0 (l : List V) (h : Heap) : Res := nilk' l (chkT h (.ret (.bool .true) h))
theorem walk10 {W : World} {S0 : Nat} (A : Holds W 0 0 S0 steps) : Calls Tryd.prog 10 #[] W fun e w' => e = .returned (.bool true) ∧ Below W.heap.size W w' := by
  obtain ⟨ρ, h, d⟩ := door1 A
  obtain ⟨h', e, _⟩ := works_law (n := N) (callP 0) (h := h) d.row (by rw [d.nx]; decide)
  rw [← call10] at e
  obtain ⟨_, c⟩ := call_ok tabOk (n := N) 5 ⟨.d0, .d0, .d0, .da⟩ _ _ _ e (by simp)
  exact (c ρ W [] .nil d.rh d.glob).mono fun e w' hc => d.below hc
theorem fnok_0 {f : Nat} (hf : Enters Tryd.prog f) (walk : ∀ {W : World} {S0 : Nat} (_ : Holds W 0 0 S0 steps), Calls Tryd.prog f #[] W fun e w' => e = .returned (.bool true) ∧ Below W.heap.size W w') : FnOk Tryd.prog 1 f orc0 := by
  intro l h r hh hr
  refine ⟨hf, fun ρ w args hl rh hg => ?_⟩
  obtain ⟨rfl, h3⟩ := nilk'_ok hh hr
  cases hl
  obtain ⟨S0, hg0⟩ := hg 0 (by omega)
  obtain ⟨h4, _, A⟩ := table_read rh hg0 h3 hr (by decide)
  subst h4
  exact (walk A).mono fun e w' hc => came_of rh (.bool true) hc
theorem enters {f : Nat} {fn : Func} (hf : Tryd.prog.funcs[f]? = some fn) (hb : fn.body.isSome = true) (hn : (fn.name == "runtime.NumGoroutine") = false) : Enters Tryd.prog f := by
  obtain ⟨c, hc⟩ := Option.isSome_iff_exists.1 hb
  exact ⟨fn, c, hf, hc, hn⟩
end Go.Ev.W02
