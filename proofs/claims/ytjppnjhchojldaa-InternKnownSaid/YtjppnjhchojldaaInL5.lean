/- InL5: texts joined. -/
import Derived.Test.YtjppnjhchojldaaInL4
/- INTERN: a quick way for kind of the program's table. -/
namespace Go.Ev.W05
open Go.Proofs
set_option maxRecDepth 1000000
noncomputable def kindG (l : List V) (h : Heap) (z : Res) : Res :=
  unc l fun v l => unc l fun s l => nilk' l (castI .i64 s fun i => Int.rec (motive := fun _ => Res) (fun n => ptrk v fun b o => load1k h b (Nat.add o 2) fun sl => slk sl (fun p so m _ _ =>
    ifk (Nat.blt n m) (load1k h p (Nat.add so (Nat.mul n 3)) fun x => castI .u8 x fun q => .ret (.int .u8 q) h) z) z z) (fun _ => z) i)
theorem kindG_ok {n : Nat} {cf : CF} {l : List V} {h : Heap} {z r : Res} (hh : kindG l h z = r) (hr : r ≠ .fail) : z = r ∨ ∃ v, r = .ret v h ∧ sh42 words n cf l h = .ret v h ∧ ∀ ρ, ∃ x, VR ρ v x := by
  obtain ⟨v, l1, rfl, h1⟩ := unc_ok hh hr
  obtain ⟨s, l2, rfl, h2⟩ := unc_ok h1 hr
  obtain ⟨rfl, h3⟩ := nilk'_ok h2 hr
  obtain ⟨i, rfl, h4⟩ := castI_det h3 hr
  cases i with
  | negSucc m => exact .inl h4
  | ofNat s =>
    obtain ⟨b, o, rfl, h5⟩ := ptrk_ok (show ptrk v _ = r from h4) hr
    obtain ⟨sl, h6, e1⟩ := load1k_det h5 hr
    rcases slk_ok h6 hr with ⟨p, so, m, c, ss, rfl, h7⟩ | ⟨_, h7⟩ | ⟨_, h7⟩
    · rcases ifk_ne h7 with ⟨hlt, h8⟩ | ⟨_, h8⟩
      · obtain ⟨x, h9, e2⟩ := load1k_det h8 hr
        obtain ⟨q, rfl, h10⟩ := castI_det h9 hr
        refine .inr ⟨_, h10.symm, ?_, fun ρ => ⟨_, .int _ _⟩⟩
        have f1 : ∀ q : V → Res, words.load1 h b (Nat.add o 2) q = q (.slice p so m c ss) := e1
        have f2 : ∀ q' : V → Res, words.load1 h p (Nat.add so (Nat.mul s 3)) q' = q' (.int .u8 q) := e2
        have hm : s < m := by simpa [Nat.blt_eq] using hlt
        have n1 : ilt (.ofNat s) (.ofNat 0) = false := by rw [ilt_nat]; simp
        have n2 : ilt (.ofNat s) (.ofNat m) = true := by rw [ilt_nat]; simpa using hm
        simp -implicitDefEqProofs only [sh42, ↓u2, ↓unc_cons, ↓castI_int, ↓nilk'_nil, ↓n1, ↓lb, ↓Bool.not_false, ↓Bool.not_true, ↓gd_true, ↓I, ↓backk_ret, ↓ptrk_ptr, ↓pl0, ↓pl, ↓f1, ↓ik, ↓lenk_slice, ↓intk_int, ↓ak, ↓(show Nat.beq (kno .i64) (kno .i64) = true from rfl), ↓ifk_true, ↓n2, ↓or_false, ↓ifk_false, ↓slk_slice, ↓natk_ofNat, ↓hlt, ↓lK, ↓f2]
      · exact .inl h8
    · exact .inl h7
    · exact .inl h7
theorem po42F : POok Try.prog 0 42 (.sh fun m cf l h => kindG l h (sh42 words m cf l h)) := by
  intro m cf hc
  refine .fn (FnOk.forget ((po42 m cf hc).1 (by decide)) ((po42 m cf hc).1 (by decide)) fun l h r hg hr => ?_) (by decide)
  rcases kindG_ok (n := m) (cf := cf) hg hr with h1 | ⟨v, rfl, h1, h2⟩
  · exact .inl h1
  · exact .inr ⟨v, h, rfl, h1, fun _ _ => rfl, fun ρ _ _ _ _ => h2 ρ⟩
end Go.Ev.W05

/- INTERN: the table with the quick ways. -/
namespace Go.Ev.W05
open Go.Proofs
set_option maxRecDepth 1000000
noncomputable section
def shKind (m : Nat) (cf : CF) (l : List V) (h : Heap) : Res := kindF l h (sh82 words m cf l h)
def shKindG (m : Nat) (cf : CF) (l : List V) (h : Heap) : Res := kindG l h (sh42 words m cf l h)
def shThing (m : Nat) (cf : CF) (l : List V) (h : Heap) : Res := thingF l h (sh85 words m cf l h)
def shKey (m : Nat) (cf : CF) (l : List V) (h : Heap) : Res := keyF l h (sh40 words m cf l h)
def shPut (m : Nat) (cf : CF) (l : List V) (h : Heap) : Res := putF l h (sh81 words m cf l h)
noncomputable section
abbrev e3tabD : PO := .sh (sh3 words)
abbrev e4tabD : PO := .sh (sh4 words)
abbrev e5tabD : PO := .sh (sh5 words)
abbrev e6tabD : PO := .sh (sh6 words)
abbrev e8tabD : PO := .sh (sh8 words)
abbrev e9tabD : PO := .orc orcY
abbrev e10tabD : PO := .sh (sh10 words)
abbrev e11tabD : PO := .sh (sh11 words)
abbrev e12tabD : PO := .sh (sh12 words)
abbrev e13tabD : PO := .sh (sh13 words)
abbrev e14tabD : PO := .sh (sh14 words)
abbrev e15tabD : PO := .sh (sh15 words)
abbrev e16tabD : PO := .sh (sh16 words)
abbrev e17tabD : PO := .sh (sh17 words)
abbrev e18tabD : PO := .sh (sh18 words)
abbrev e19tabD : PO := .sh (sh19 words)
abbrev e20tabD : PO := .sh (sh20 words)
abbrev e21tabD : PO := .sh (sh21 words)
abbrev e22tabD : PO := .sh (sh22 words)
abbrev e23tabD : PO := .sh (sh23 words)
abbrev e24tabD : PO := .sh (sh24 words)
abbrev e25tabD : PO := .sh (sh25 words)
abbrev e26tabD : PO := .sh (sh26 words)
abbrev e27tabD : PO := .sh (sh27 words)
abbrev e28tabD : PO := .sh (sh28 words)
abbrev e29tabD : PO := .sh (sh29 words)
abbrev e36tabD : PO := .sh (sh36 words)
abbrev e37tabD : PO := .sh (sh37 words)
abbrev e38tabD : PO := .sh (sh38 words)
abbrev e39tabD : PO := .sh (sh39 words)
abbrev e40tabD : PO := .sh shKey
abbrev e41tabD : PO := .sh (sh41 words)
abbrev e42tabD : PO := .sh shKindG
abbrev e43tabD : PO := .sh (sh43 words)
abbrev e44tabD : PO := .sh (sh44 words)
abbrev e45tabD : PO := .sh (sh45 words)
abbrev e46tabD : PO := .sh (sh46 words)
abbrev e47tabD : PO := .sh (sh47 words)
abbrev e48tabD : PO := .sh (sh48 words)
abbrev e49tabD : PO := .sh (sh49 words)
abbrev e50tabD : PO := .sh (sh50 words)
abbrev e51tabD : PO := .sh (sh51 words)
abbrev e52tabD : PO := .sh (sh52 words)
abbrev e53tabD : PO := .sh (sh53 words)
abbrev e54tabD : PO := .sh (sh54 words)
abbrev e55tabD : PO := .sh (sh55 words)
abbrev e56tabD : PO := .sh (sh56 words)
abbrev e57tabD : PO := .sh (sh57 words)
abbrev e58tabD : PO := .sh (sh58 words)
abbrev e59tabD : PO := .sh (sh59 words)
abbrev e60tabD : PO := .sh (sh60 words)
abbrev e61tabD : PO := .sh (sh61 words)
abbrev e62tabD : PO := .sh (sh62 words)
abbrev e63tabD : PO := .sh (sh63 words)
abbrev e71tabD : PO := .sh (sh71 words)
abbrev e72tabD : PO := .sh (sh72 words)
abbrev e73tabD : PO := .sh (sh73 words)
abbrev e74tabD : PO := .sh (sh74 words)
abbrev e75tabD : PO := .sh (sh75 words)
abbrev e76tabD : PO := .sh (sh76 words)
abbrev e77tabD : PO := .sh (sh77 words)
abbrev e78tabD : PO := .sh (sh78 words)
abbrev e79tabD : PO := .sh (sh79 words)
abbrev e80tabD : PO := .sh (sh80 words)
abbrev e81tabD : PO := .sh shPut
abbrev e82tabD : PO := .sh shKind
abbrev e83tabD : PO := .sh (sh83 words)
abbrev e84tabD : PO := .sh (sh84 words)
abbrev e85tabD : PO := .sh shThing
abbrev e86tabD : PO := .sh (sh86 words)
abbrev e87tabD : PO := .sh (sh87 words)
abbrev e88tabD : PO := .sh (sh88 words)
abbrev e89tabD : PO := .sh (sh89 words)
abbrev e90tabD : PO := .sh (sh90 words)
abbrev e91tabD : PO := .sh (sh91 words)
abbrev e92tabD : PO := .sh (sh92 words)
abbrev e101tabD : PO := .sh (sh101 words)
abbrev e102tabD : PO := .sh (sh102 words)
abbrev e103tabD : PO := .sh (sh103 words)
abbrev e104tabD : PO := .sh (sh104 words)
abbrev e105tabD : PO := .sh (sh105 words)
abbrev e106tabD : PO := .sh (sh106 words)
abbrev e107tabD : PO := .sh (sh107 words)
abbrev e108tabD : PO := .sh (sh108 words)
abbrev e109tabD : PO := .sh (sh109 words)
abbrev e110tabD : PO := .sh shSame
abbrev e111tabD : PO := .sh (sh111 words)
abbrev e112tabD : PO := .sh (sh112 words)
abbrev e113tabD : PO := .sh (sh113 words)
abbrev e114tabD : PO := .sh (sh114 words)
abbrev e115tabD : PO := .sh (sh115 words)
abbrev e136tabD : PO := .sh (sh136 words)
abbrev e138tabD : PO := .sh (sh138 words)
def tabDz1 : Go.Ev.N PO := ⟨.no, .no, .no, .no, .no, .no, .no, .no, .no, .no, .no, .no, .no, .no, .no, .no⟩
def tabDz2 : Go.Ev.N (Go.Ev.N PO) := ⟨tabDz1, tabDz1, tabDz1, tabDz1, tabDz1, tabDz1, tabDz1, tabDz1, tabDz1, tabDz1, tabDz1, tabDz1, tabDz1, tabDz1, tabDz1, tabDz1⟩
def tabDz3 : Go.Ev.N (Go.Ev.N (Go.Ev.N PO)) := ⟨tabDz2, tabDz2, tabDz2, tabDz2, tabDz2, tabDz2, tabDz2, tabDz2, tabDz2, tabDz2, tabDz2, tabDz2, tabDz2, tabDz2, tabDz2, tabDz2⟩
def tabD1_000 : Go.Ev.N PO := ⟨.no, .no, .no, e3tabD, e4tabD, e5tabD, e6tabD, .no, e8tabD, e9tabD, e10tabD, e11tabD, e12tabD, e13tabD, e14tabD, e15tabD⟩
def tabD1_001 : Go.Ev.N PO := ⟨e16tabD, e17tabD, e18tabD, e19tabD, e20tabD, e21tabD, e22tabD, e23tabD, e24tabD, e25tabD, e26tabD, e27tabD, e28tabD, e29tabD, .no, .no⟩
def tabD1_002 : Go.Ev.N PO := ⟨.no, .no, .no, .no, e36tabD, e37tabD, e38tabD, e39tabD, e40tabD, e41tabD, e42tabD, e43tabD, e44tabD, e45tabD, e46tabD, e47tabD⟩
def tabD1_003 : Go.Ev.N PO := ⟨e48tabD, e49tabD, e50tabD, e51tabD, e52tabD, e53tabD, e54tabD, e55tabD, e56tabD, e57tabD, e58tabD, e59tabD, e60tabD, e61tabD, e62tabD, e63tabD⟩
def tabD1_004 : Go.Ev.N PO := ⟨.no, .no, .no, .no, .no, .no, .no, e71tabD, e72tabD, e73tabD, e74tabD, e75tabD, e76tabD, e77tabD, e78tabD, e79tabD⟩
def tabD1_005 : Go.Ev.N PO := ⟨e80tabD, e81tabD, e82tabD, e83tabD, e84tabD, e85tabD, e86tabD, e87tabD, e88tabD, e89tabD, e90tabD, e91tabD, e92tabD, .no, .no, .no⟩
def tabD1_006 : Go.Ev.N PO := ⟨.no, .no, .no, .no, .no, e101tabD, e102tabD, e103tabD, e104tabD, e105tabD, e106tabD, e107tabD, e108tabD, e109tabD, e110tabD, e111tabD⟩
def tabD1_007 : Go.Ev.N PO := ⟨e112tabD, e113tabD, e114tabD, e115tabD, .no, .no, .no, .no, .no, .no, .no, .no, .no, .no, .no, .no⟩
def tabD1_008 : Go.Ev.N PO := ⟨.no, .no, .no, .no, .no, .no, .no, .no, e136tabD, .no, e138tabD, .no, .no, .no, .no, .no⟩
def tabD2_00 : Go.Ev.N (Go.Ev.N PO) := ⟨tabD1_000, tabD1_001, tabD1_002, tabD1_003, tabD1_004, tabD1_005, tabD1_006, tabD1_007, tabD1_008, tabDz1, tabDz1, tabDz1, tabDz1, tabDz1, tabDz1, tabDz1⟩
def tabD3_0 : Go.Ev.N (Go.Ev.N (Go.Ev.N PO)) := ⟨tabD2_00, tabDz2, tabDz2, tabDz2, tabDz2, tabDz2, tabDz2, tabDz2, tabDz2, tabDz2, tabDz2, tabDz2, tabDz2, tabDz2, tabDz2, tabDz2⟩
def tabD : FT := ⟨tabD3_0, tabDz3, tabDz3, tabDz3, tabDz3, tabDz3, tabDz3, tabDz3, tabDz3, tabDz3, tabDz3, tabDz3, tabDz3, tabDz3, tabDz3, tabDz3⟩
theorem tabDOk : TabOk Try.prog 0 tabD := TabOk.of2 (l := [(f3, e3tabD), (f4, e4tabD), (f5, e5tabD), (f6, e6tabD), (f8, e8tabD), (f9, e9tabD), (f10, e10tabD), (f11, e11tabD), (f12, e12tabD), (f13, e13tabD), (f14, e14tabD), (f15, e15tabD), (f16, e16tabD), (f17, e17tabD), (f18, e18tabD), (f19, e19tabD), (f20, e20tabD), (f21, e21tabD), (f22, e22tabD), (f23, e23tabD), (f24, e24tabD), (f25, e25tabD), (f26, e26tabD), (f27, e27tabD), (f28, e28tabD), (f29, e29tabD), (f36, e36tabD), (f37, e37tabD), (f38, e38tabD), (f39, e39tabD), (f40, e40tabD), (f41, e41tabD), (f42, e42tabD), (f43, e43tabD), (f44, e44tabD), (f45, e45tabD), (f46, e46tabD), (f47, e47tabD), (f48, e48tabD), (f49, e49tabD), (f50, e50tabD), (f51, e51tabD), (f52, e52tabD), (f53, e53tabD), (f54, e54tabD), (f55, e55tabD), (f56, e56tabD), (f57, e57tabD), (f58, e58tabD), (f59, e59tabD), (f60, e60tabD), (f61, e61tabD), (f62, e62tabD), (f63, e63tabD), (f71, e71tabD), (f72, e72tabD), (f73, e73tabD), (f74, e74tabD), (f75, e75tabD), (f76, e76tabD), (f77, e77tabD), (f78, e78tabD), (f79, e79tabD), (f80, e80tabD), (f81, e81tabD), (f82, e82tabD), (f83, e83tabD), (f84, e84tabD), (f85, e85tabD), (f86, e86tabD), (f87, e87tabD), (f88, e88tabD), (f89, e89tabD), (f90, e90tabD), (f91, e91tabD), (f92, e92tabD), (f101, e101tabD), (f102, e102tabD), (f103, e103tabD), (f104, e104tabD), (f105, e105tabD), (f106, e106tabD), (f107, e107tabD), (f108, e108tabD), (f109, e109tabD), (f110, e110tabD), (f111, e111tabD), (f112, e112tabD), (f113, e113tabD), (f114, e114tabD), (f115, e115tabD), (f136, e136tabD), (f138, e138tabD)]) (by kernel_rfl) (OkL.cons (po3) (OkL.cons (po4) (OkL.cons (po5) (OkL.cons (po6) (OkL.cons (po8) (OkL.cons (fnok_Y enters9 worksY) (OkL.cons (po10) (OkL.cons (po11) (OkL.cons (po12) (OkL.cons (po13) (OkL.cons (po14) (OkL.cons (po15) (OkL.cons (po16) (OkL.cons (po17) (OkL.cons (po18) (OkL.cons (po19) (OkL.cons (po20) (OkL.cons (po21) (OkL.cons (po22) (OkL.cons (po23) (OkL.cons (po24) (OkL.cons (po25) (OkL.cons (po26) (OkL.cons (po27) (OkL.cons (po28) (OkL.cons (po29) (OkL.cons (po36) (OkL.cons (po37) (OkL.cons (po38) (OkL.cons (po39) (OkL.cons (po40F) (OkL.cons (po41) (OkL.cons (po42F) (OkL.cons (po43) (OkL.cons (po44) (OkL.cons (po45) (OkL.cons (po46) (OkL.cons (po47) (OkL.cons (po48) (OkL.cons (po49) (OkL.cons (po50) (OkL.cons (po51) (OkL.cons (po52) (OkL.cons (po53) (OkL.cons (po54) (OkL.cons (po55) (OkL.cons (po56) (OkL.cons (po57) (OkL.cons (po58) (OkL.cons (po59) (OkL.cons (po60) (OkL.cons (po61) (OkL.cons (po62) (OkL.cons (po63) (OkL.cons (po71) (OkL.cons (po72) (OkL.cons (po73) (OkL.cons (po74) (OkL.cons (po75) (OkL.cons (po76) (OkL.cons (po77) (OkL.cons (po78) (OkL.cons (po79) (OkL.cons (po80) (OkL.cons (po81F) (OkL.cons (po82F) (OkL.cons (po83) (OkL.cons (po84) (OkL.cons (po85F) (OkL.cons (po86) (OkL.cons (po87) (OkL.cons (po88) (OkL.cons (po89) (OkL.cons (po90) (OkL.cons (po91) (OkL.cons (po92) (OkL.cons (po101) (OkL.cons (po102) (OkL.cons (po103) (OkL.cons (po104) (OkL.cons (po105) (OkL.cons (po106) (OkL.cons (po107) (OkL.cons (po108) (OkL.cons (po109) (OkL.cons (po110F) (OkL.cons (po111) (OkL.cons (po112) (OkL.cons (po113) (OkL.cons (po114) (OkL.cons (po115) (OkL.cons (po136) (OkL.cons (po138) (.nil))))))))))))))))))))))))))))))))))))))))))))))))))))))))))))))))))))))))))))))))))))))))))))))
theorem tabDc9 (m d : Nat) (l : List V) (h : Heap) : call tabD m (d + 1) ⟨.d0, .d0, .d0, .d9⟩ l h = orcY l h := by kernel_rfl
end
end
end Go.Ev.W05
