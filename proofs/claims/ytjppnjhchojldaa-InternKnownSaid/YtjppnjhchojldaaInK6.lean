/- INTERN: InternKnown runs: calls(), deep(), bytes(), works() are known. -/
import Derived.Test.YtjppnjhchojldaaInK3
import Derived.Test.YtjppnjhchojldaaInK4
import Derived.Test.YtjppnjhchojldaaInK5
namespace Go.Ev.W05
open Go.Proofs
set_option maxRecDepth 1000000
noncomputable section
theorem enters6 : Enters Try.prog 6 := enters_of Try.func6 (by kernel_rfl) (by decide +kernel)
def datL : List Dt := [.cons shapesD .nil]
theorem all27 : ∀ d ∈ datL, YesD Try.prog 0 27 d := fun d hd => by rcases List.mem_singleton.1 hd with rfl; exact callsY
theorem all28 : ∀ d ∈ datL, YesD Try.prog 0 28 d := fun d hd => by rcases List.mem_singleton.1 hd with rfl; exact deepY
theorem all29 : ∀ d ∈ datL, YesD Try.prog 0 29 d := fun d hd => by rcases List.mem_singleton.1 hd with rfl; exact bytesY
def shCalls (m : Nat) (cf : CF) (l : List V) (h : Heap) : Res := datk datL l h (sh27 words m cf l h)
def shDeep (m : Nat) (cf : CF) (l : List V) (h : Heap) : Res := datk datL l h (sh28 words m cf l h)
def shBytes (m : Nat) (cf : CF) (l : List V) (h : Heap) : Res := datk datL l h (sh29 words m cf l h)
noncomputable section
abbrev e3tabK : PO := .sh (sh3 words)
abbrev e4tabK : PO := .sh (sh4 words)
abbrev e5tabK : PO := .sh (sh5 words)
abbrev e6tabK : PO := .sh (sh6 words)
abbrev e8tabK : PO := .sh (sh8 words)
abbrev e9tabK : PO := .orc orcY
abbrev e10tabK : PO := .sh (sh10 words)
abbrev e11tabK : PO := .sh (sh11 words)
abbrev e12tabK : PO := .sh (sh12 words)
abbrev e13tabK : PO := .sh (sh13 words)
abbrev e14tabK : PO := .sh (sh14 words)
abbrev e15tabK : PO := .sh (sh15 words)
abbrev e16tabK : PO := .sh (sh16 words)
abbrev e17tabK : PO := .sh (sh17 words)
abbrev e18tabK : PO := .sh (sh18 words)
abbrev e19tabK : PO := .sh (sh19 words)
abbrev e20tabK : PO := .sh (sh20 words)
abbrev e21tabK : PO := .sh (sh21 words)
abbrev e22tabK : PO := .sh (sh22 words)
abbrev e23tabK : PO := .sh (sh23 words)
abbrev e24tabK : PO := .sh (sh24 words)
abbrev e25tabK : PO := .sh (sh25 words)
abbrev e26tabK : PO := .sh (sh26 words)
abbrev e27tabK : PO := .sh shCalls
abbrev e28tabK : PO := .sh shDeep
abbrev e29tabK : PO := .sh shBytes
abbrev e36tabK : PO := .sh (sh36 words)
abbrev e37tabK : PO := .sh (sh37 words)
abbrev e38tabK : PO := .sh (sh38 words)
abbrev e39tabK : PO := .sh (sh39 words)
abbrev e40tabK : PO := .sh shKey
abbrev e41tabK : PO := .sh (sh41 words)
abbrev e42tabK : PO := .sh (sh42 words)
abbrev e43tabK : PO := .sh (sh43 words)
abbrev e44tabK : PO := .sh (sh44 words)
abbrev e45tabK : PO := .sh (sh45 words)
abbrev e46tabK : PO := .sh (sh46 words)
abbrev e47tabK : PO := .sh (sh47 words)
abbrev e48tabK : PO := .sh (sh48 words)
abbrev e49tabK : PO := .sh (sh49 words)
abbrev e50tabK : PO := .sh (sh50 words)
abbrev e51tabK : PO := .sh (sh51 words)
abbrev e52tabK : PO := .sh (sh52 words)
abbrev e53tabK : PO := .sh (sh53 words)
abbrev e54tabK : PO := .sh (sh54 words)
abbrev e55tabK : PO := .sh (sh55 words)
abbrev e56tabK : PO := .sh (sh56 words)
abbrev e57tabK : PO := .sh (sh57 words)
abbrev e58tabK : PO := .sh (sh58 words)
abbrev e59tabK : PO := .sh (sh59 words)
abbrev e60tabK : PO := .sh (sh60 words)
abbrev e61tabK : PO := .sh (sh61 words)
abbrev e62tabK : PO := .sh (sh62 words)
abbrev e63tabK : PO := .sh (sh63 words)
abbrev e71tabK : PO := .sh (sh71 words)
abbrev e72tabK : PO := .sh (sh72 words)
abbrev e73tabK : PO := .sh (sh73 words)
abbrev e74tabK : PO := .sh (sh74 words)
abbrev e75tabK : PO := .sh (sh75 words)
abbrev e76tabK : PO := .sh (sh76 words)
abbrev e77tabK : PO := .sh (sh77 words)
abbrev e78tabK : PO := .sh (sh78 words)
abbrev e79tabK : PO := .sh (sh79 words)
abbrev e80tabK : PO := .sh (sh80 words)
abbrev e81tabK : PO := .sh shPut
abbrev e82tabK : PO := .sh shKind
abbrev e83tabK : PO := .sh (sh83 words)
abbrev e84tabK : PO := .sh (sh84 words)
abbrev e85tabK : PO := .sh shThing
abbrev e86tabK : PO := .sh (sh86 words)
abbrev e87tabK : PO := .sh (sh87 words)
abbrev e88tabK : PO := .sh (sh88 words)
abbrev e89tabK : PO := .sh (sh89 words)
abbrev e90tabK : PO := .sh (sh90 words)
abbrev e91tabK : PO := .sh (sh91 words)
abbrev e92tabK : PO := .sh (sh92 words)
abbrev e101tabK : PO := .sh (sh101 words)
abbrev e102tabK : PO := .sh (sh102 words)
abbrev e103tabK : PO := .sh (sh103 words)
abbrev e104tabK : PO := .sh (sh104 words)
abbrev e105tabK : PO := .sh (sh105 words)
abbrev e106tabK : PO := .sh (sh106 words)
abbrev e107tabK : PO := .sh (sh107 words)
abbrev e108tabK : PO := .sh (sh108 words)
abbrev e109tabK : PO := .sh (sh109 words)
abbrev e110tabK : PO := .sh shSame
abbrev e111tabK : PO := .sh (sh111 words)
abbrev e112tabK : PO := .sh (sh112 words)
abbrev e113tabK : PO := .sh (sh113 words)
abbrev e114tabK : PO := .sh (sh114 words)
abbrev e115tabK : PO := .sh (sh115 words)
abbrev e136tabK : PO := .sh (sh136 words)
abbrev e138tabK : PO := .sh (sh138 words)
def tabKz1 : Go.Ev.N PO := ⟨.no, .no, .no, .no, .no, .no, .no, .no, .no, .no, .no, .no, .no, .no, .no, .no⟩
def tabKz2 : Go.Ev.N (Go.Ev.N PO) := ⟨tabKz1, tabKz1, tabKz1, tabKz1, tabKz1, tabKz1, tabKz1, tabKz1, tabKz1, tabKz1, tabKz1, tabKz1, tabKz1, tabKz1, tabKz1, tabKz1⟩
def tabKz3 : Go.Ev.N (Go.Ev.N (Go.Ev.N PO)) := ⟨tabKz2, tabKz2, tabKz2, tabKz2, tabKz2, tabKz2, tabKz2, tabKz2, tabKz2, tabKz2, tabKz2, tabKz2, tabKz2, tabKz2, tabKz2, tabKz2⟩
def tabK1_000 : Go.Ev.N PO := ⟨.no, .no, .no, e3tabK, e4tabK, e5tabK, e6tabK, .no, e8tabK, e9tabK, e10tabK, e11tabK, e12tabK, e13tabK, e14tabK, e15tabK⟩
def tabK1_001 : Go.Ev.N PO := ⟨e16tabK, e17tabK, e18tabK, e19tabK, e20tabK, e21tabK, e22tabK, e23tabK, e24tabK, e25tabK, e26tabK, e27tabK, e28tabK, e29tabK, .no, .no⟩
def tabK1_002 : Go.Ev.N PO := ⟨.no, .no, .no, .no, e36tabK, e37tabK, e38tabK, e39tabK, e40tabK, e41tabK, e42tabK, e43tabK, e44tabK, e45tabK, e46tabK, e47tabK⟩
def tabK1_003 : Go.Ev.N PO := ⟨e48tabK, e49tabK, e50tabK, e51tabK, e52tabK, e53tabK, e54tabK, e55tabK, e56tabK, e57tabK, e58tabK, e59tabK, e60tabK, e61tabK, e62tabK, e63tabK⟩
def tabK1_004 : Go.Ev.N PO := ⟨.no, .no, .no, .no, .no, .no, .no, e71tabK, e72tabK, e73tabK, e74tabK, e75tabK, e76tabK, e77tabK, e78tabK, e79tabK⟩
def tabK1_005 : Go.Ev.N PO := ⟨e80tabK, e81tabK, e82tabK, e83tabK, e84tabK, e85tabK, e86tabK, e87tabK, e88tabK, e89tabK, e90tabK, e91tabK, e92tabK, .no, .no, .no⟩
def tabK1_006 : Go.Ev.N PO := ⟨.no, .no, .no, .no, .no, e101tabK, e102tabK, e103tabK, e104tabK, e105tabK, e106tabK, e107tabK, e108tabK, e109tabK, e110tabK, e111tabK⟩
def tabK1_007 : Go.Ev.N PO := ⟨e112tabK, e113tabK, e114tabK, e115tabK, .no, .no, .no, .no, .no, .no, .no, .no, .no, .no, .no, .no⟩
def tabK1_008 : Go.Ev.N PO := ⟨.no, .no, .no, .no, .no, .no, .no, .no, e136tabK, .no, e138tabK, .no, .no, .no, .no, .no⟩
def tabK2_00 : Go.Ev.N (Go.Ev.N PO) := ⟨tabK1_000, tabK1_001, tabK1_002, tabK1_003, tabK1_004, tabK1_005, tabK1_006, tabK1_007, tabK1_008, tabKz1, tabKz1, tabKz1, tabKz1, tabKz1, tabKz1, tabKz1⟩
def tabK3_0 : Go.Ev.N (Go.Ev.N (Go.Ev.N PO)) := ⟨tabK2_00, tabKz2, tabKz2, tabKz2, tabKz2, tabKz2, tabKz2, tabKz2, tabKz2, tabKz2, tabKz2, tabKz2, tabKz2, tabKz2, tabKz2, tabKz2⟩
def tabK : FT := ⟨tabK3_0, tabKz3, tabKz3, tabKz3, tabKz3, tabKz3, tabKz3, tabKz3, tabKz3, tabKz3, tabKz3, tabKz3, tabKz3, tabKz3, tabKz3, tabKz3⟩
theorem tabKOk : TabOk Try.prog 0 tabK := TabOk.of2 (l := [(f3, e3tabK), (f4, e4tabK), (f5, e5tabK), (f6, e6tabK), (f8, e8tabK), (f9, e9tabK), (f10, e10tabK), (f11, e11tabK), (f12, e12tabK), (f13, e13tabK), (f14, e14tabK), (f15, e15tabK), (f16, e16tabK), (f17, e17tabK), (f18, e18tabK), (f19, e19tabK), (f20, e20tabK), (f21, e21tabK), (f22, e22tabK), (f23, e23tabK), (f24, e24tabK), (f25, e25tabK), (f26, e26tabK), (f27, e27tabK), (f28, e28tabK), (f29, e29tabK), (f36, e36tabK), (f37, e37tabK), (f38, e38tabK), (f39, e39tabK), (f40, e40tabK), (f41, e41tabK), (f42, e42tabK), (f43, e43tabK), (f44, e44tabK), (f45, e45tabK), (f46, e46tabK), (f47, e47tabK), (f48, e48tabK), (f49, e49tabK), (f50, e50tabK), (f51, e51tabK), (f52, e52tabK), (f53, e53tabK), (f54, e54tabK), (f55, e55tabK), (f56, e56tabK), (f57, e57tabK), (f58, e58tabK), (f59, e59tabK), (f60, e60tabK), (f61, e61tabK), (f62, e62tabK), (f63, e63tabK), (f71, e71tabK), (f72, e72tabK), (f73, e73tabK), (f74, e74tabK), (f75, e75tabK), (f76, e76tabK), (f77, e77tabK), (f78, e78tabK), (f79, e79tabK), (f80, e80tabK), (f81, e81tabK), (f82, e82tabK), (f83, e83tabK), (f84, e84tabK), (f85, e85tabK), (f86, e86tabK), (f87, e87tabK), (f88, e88tabK), (f89, e89tabK), (f90, e90tabK), (f91, e91tabK), (f92, e92tabK), (f101, e101tabK), (f102, e102tabK), (f103, e103tabK), (f104, e104tabK), (f105, e105tabK), (f106, e106tabK), (f107, e107tabK), (f108, e108tabK), (f109, e109tabK), (f110, e110tabK), (f111, e111tabK), (f112, e112tabK), (f113, e113tabK), (f114, e114tabK), (f115, e115tabK), (f136, e136tabK), (f138, e138tabK)]) (by kernel_rfl) (OkL.cons (po3) (OkL.cons (po4) (OkL.cons (po5) (OkL.cons (po6) (OkL.cons (po8) (OkL.cons (fnok_Y enters9 worksY) (OkL.cons (po10) (OkL.cons (po11) (OkL.cons (po12) (OkL.cons (po13) (OkL.cons (po14) (OkL.cons (po15) (OkL.cons (po16) (OkL.cons (po17) (OkL.cons (po18) (OkL.cons (po19) (OkL.cons (po20) (OkL.cons (po21) (OkL.cons (po22) (OkL.cons (po23) (OkL.cons (po24) (OkL.cons (po25) (OkL.cons (po26) (OkL.cons (pook_D po27 enters27 all27) (OkL.cons (pook_D po28 enters28 all28) (OkL.cons (pook_D po29 enters29 all29) (OkL.cons (po36) (OkL.cons (po37) (OkL.cons (po38) (OkL.cons (po39) (OkL.cons (po40F) (OkL.cons (po41) (OkL.cons (po42) (OkL.cons (po43) (OkL.cons (po44) (OkL.cons (po45) (OkL.cons (po46) (OkL.cons (po47) (OkL.cons (po48) (OkL.cons (po49) (OkL.cons (po50) (OkL.cons (po51) (OkL.cons (po52) (OkL.cons (po53) (OkL.cons (po54) (OkL.cons (po55) (OkL.cons (po56) (OkL.cons (po57) (OkL.cons (po58) (OkL.cons (po59) (OkL.cons (po60) (OkL.cons (po61) (OkL.cons (po62) (OkL.cons (po63) (OkL.cons (po71) (OkL.cons (po72) (OkL.cons (po73) (OkL.cons (po74) (OkL.cons (po75) (OkL.cons (po76) (OkL.cons (po77) (OkL.cons (po78) (OkL.cons (po79) (OkL.cons (po80) (OkL.cons (po81F) (OkL.cons (po82F) (OkL.cons (po83) (OkL.cons (po84) (OkL.cons (po85F) (OkL.cons (po86) (OkL.cons (po87) (OkL.cons (po88) (OkL.cons (po89) (OkL.cons (po90) (OkL.cons (po91) (OkL.cons (po92) (OkL.cons (po101) (OkL.cons (po102) (OkL.cons (po103) (OkL.cons (po104) (OkL.cons (po105) (OkL.cons (po106) (OkL.cons (po107) (OkL.cons (po108) (OkL.cons (po109) (OkL.cons (po110F) (OkL.cons (po111) (OkL.cons (po112) (OkL.cons (po113) (OkL.cons (po114) (OkL.cons (po115) (OkL.cons (po136) (OkL.cons (po138) (.nil))))))))))))))))))))))))))))))))))))))))))))))))))))))))))))))))))))))))))))))))))))))))))))))
theorem tabKc9 (m d : Nat) (l : List V) (h : Heap) : call tabK m (d + 1) ⟨.d0, .d0, .d0, .d9⟩ l h = orcY l h := by kernel_rfl
end
theorem knownR : yes (call tabK 1000000 300 f6 [] ⟨[], nx0⟩) = true := by kernel_rfl
theorem knownY : Yes0 Try.prog 0 6 [] := yes0 tabKOk knownR nx0g fun _ => .nil
end
end Go.Ev.W05
