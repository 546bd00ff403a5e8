/- INTERN: bytes() runs; calls() runs. -/
import Derived.Test.YtjppnjhchojldaaInK2
namespace Go.Ev.W05
open Go.Proofs
set_option maxRecDepth 1000000
noncomputable section
theorem enters5 : Enters Try.prog 5 := enters_of Try.func5 (by kernel_rfl) (by decide +kernel)
theorem enters27 : Enters Try.prog 27 := enters_of Try.func27 (by kernel_rfl) (by decide +kernel)
theorem enters28 : Enters Try.prog 28 := enters_of Try.func28 (by kernel_rfl) (by decide +kernel)
theorem enters29 : Enters Try.prog 29 := enters_of Try.func29 (by kernel_rfl) (by decide +kernel)
def shLoads (m : Nat) (cf : CF) (l : List V) (h : Heap) : Res := loadsk rowsL l h (sh5 words m cf l h)
noncomputable section
abbrev e3tabX : PO := .sh (sh3 words)
abbrev e4tabX : PO := .sh (sh4 words)
abbrev e5tabX : PO := .sh shLoads
abbrev e6tabX : PO := .sh (sh6 words)
abbrev e8tabX : PO := .sh (sh8 words)
abbrev e9tabX : PO := .orc orcY
abbrev e10tabX : PO := .sh (sh10 words)
abbrev e11tabX : PO := .sh (sh11 words)
abbrev e12tabX : PO := .sh (sh12 words)
abbrev e13tabX : PO := .sh (sh13 words)
abbrev e14tabX : PO := .sh (sh14 words)
abbrev e15tabX : PO := .sh (sh15 words)
abbrev e16tabX : PO := .sh (sh16 words)
abbrev e17tabX : PO := .sh (sh17 words)
abbrev e18tabX : PO := .sh (sh18 words)
abbrev e19tabX : PO := .sh (sh19 words)
abbrev e20tabX : PO := .sh (sh20 words)
abbrev e21tabX : PO := .sh (sh21 words)
abbrev e22tabX : PO := .sh (sh22 words)
abbrev e23tabX : PO := .sh (sh23 words)
abbrev e24tabX : PO := .sh (sh24 words)
abbrev e25tabX : PO := .sh (sh25 words)
abbrev e26tabX : PO := .sh (sh26 words)
abbrev e27tabX : PO := .sh (sh27 words)
abbrev e28tabX : PO := .sh (sh28 words)
abbrev e29tabX : PO := .sh (sh29 words)
abbrev e36tabX : PO := .sh (sh36 words)
abbrev e37tabX : PO := .sh (sh37 words)
abbrev e38tabX : PO := .sh (sh38 words)
abbrev e39tabX : PO := .sh (sh39 words)
abbrev e40tabX : PO := .sh (sh40 words)
abbrev e41tabX : PO := .sh (sh41 words)
abbrev e42tabX : PO := .sh (sh42 words)
abbrev e43tabX : PO := .sh (sh43 words)
abbrev e44tabX : PO := .sh (sh44 words)
abbrev e45tabX : PO := .sh (sh45 words)
abbrev e46tabX : PO := .sh (sh46 words)
abbrev e47tabX : PO := .sh (sh47 words)
abbrev e48tabX : PO := .sh (sh48 words)
abbrev e49tabX : PO := .sh (sh49 words)
abbrev e50tabX : PO := .sh (sh50 words)
abbrev e51tabX : PO := .sh (sh51 words)
abbrev e52tabX : PO := .sh (sh52 words)
abbrev e53tabX : PO := .sh (sh53 words)
abbrev e54tabX : PO := .sh (sh54 words)
abbrev e55tabX : PO := .sh (sh55 words)
abbrev e56tabX : PO := .sh (sh56 words)
abbrev e57tabX : PO := .sh (sh57 words)
abbrev e58tabX : PO := .sh (sh58 words)
abbrev e59tabX : PO := .sh (sh59 words)
abbrev e60tabX : PO := .sh (sh60 words)
abbrev e61tabX : PO := .sh (sh61 words)
abbrev e62tabX : PO := .sh (sh62 words)
abbrev e63tabX : PO := .sh (sh63 words)
abbrev e71tabX : PO := .sh (sh71 words)
abbrev e72tabX : PO := .sh (sh72 words)
abbrev e73tabX : PO := .sh (sh73 words)
abbrev e74tabX : PO := .sh (sh74 words)
abbrev e75tabX : PO := .sh (sh75 words)
abbrev e76tabX : PO := .sh (sh76 words)
abbrev e77tabX : PO := .sh (sh77 words)
abbrev e78tabX : PO := .sh (sh78 words)
abbrev e79tabX : PO := .sh (sh79 words)
abbrev e80tabX : PO := .sh (sh80 words)
abbrev e81tabX : PO := .sh (sh81 words)
abbrev e82tabX : PO := .sh (sh82 words)
abbrev e83tabX : PO := .sh (sh83 words)
abbrev e84tabX : PO := .sh (sh84 words)
abbrev e85tabX : PO := .sh (sh85 words)
abbrev e86tabX : PO := .sh (sh86 words)
abbrev e87tabX : PO := .sh (sh87 words)
abbrev e88tabX : PO := .sh (sh88 words)
abbrev e89tabX : PO := .sh (sh89 words)
abbrev e90tabX : PO := .sh (sh90 words)
abbrev e91tabX : PO := .sh (sh91 words)
abbrev e92tabX : PO := .sh (sh92 words)
abbrev e101tabX : PO := .sh (sh101 words)
abbrev e102tabX : PO := .sh (sh102 words)
abbrev e103tabX : PO := .sh (sh103 words)
abbrev e104tabX : PO := .sh (sh104 words)
abbrev e105tabX : PO := .sh (sh105 words)
abbrev e106tabX : PO := .sh (sh106 words)
abbrev e107tabX : PO := .sh (sh107 words)
abbrev e108tabX : PO := .sh (sh108 words)
abbrev e109tabX : PO := .sh (sh109 words)
abbrev e110tabX : PO := .sh (sh110 words)
abbrev e111tabX : PO := .sh (sh111 words)
abbrev e112tabX : PO := .sh (sh112 words)
abbrev e113tabX : PO := .sh (sh113 words)
abbrev e114tabX : PO := .sh (sh114 words)
abbrev e115tabX : PO := .sh (sh115 words)
abbrev e136tabX : PO := .sh (sh136 words)
abbrev e138tabX : PO := .sh (sh138 words)
def tabXz1 : Go.Ev.N PO := ⟨.no, .no, .no, .no, .no, .no, .no, .no, .no, .no, .no, .no, .no, .no, .no, .no⟩
def tabXz2 : Go.Ev.N (Go.Ev.N PO) := ⟨tabXz1, tabXz1, tabXz1, tabXz1, tabXz1, tabXz1, tabXz1, tabXz1, tabXz1, tabXz1, tabXz1, tabXz1, tabXz1, tabXz1, tabXz1, tabXz1⟩
def tabXz3 : Go.Ev.N (Go.Ev.N (Go.Ev.N PO)) := ⟨tabXz2, tabXz2, tabXz2, tabXz2, tabXz2, tabXz2, tabXz2, tabXz2, tabXz2, tabXz2, tabXz2, tabXz2, tabXz2, tabXz2, tabXz2, tabXz2⟩
def tabX1_000 : Go.Ev.N PO := ⟨.no, .no, .no, e3tabX, e4tabX, e5tabX, e6tabX, .no, e8tabX, e9tabX, e10tabX, e11tabX, e12tabX, e13tabX, e14tabX, e15tabX⟩
def tabX1_001 : Go.Ev.N PO := ⟨e16tabX, e17tabX, e18tabX, e19tabX, e20tabX, e21tabX, e22tabX, e23tabX, e24tabX, e25tabX, e26tabX, e27tabX, e28tabX, e29tabX, .no, .no⟩
def tabX1_002 : Go.Ev.N PO := ⟨.no, .no, .no, .no, e36tabX, e37tabX, e38tabX, e39tabX, e40tabX, e41tabX, e42tabX, e43tabX, e44tabX, e45tabX, e46tabX, e47tabX⟩
def tabX1_003 : Go.Ev.N PO := ⟨e48tabX, e49tabX, e50tabX, e51tabX, e52tabX, e53tabX, e54tabX, e55tabX, e56tabX, e57tabX, e58tabX, e59tabX, e60tabX, e61tabX, e62tabX, e63tabX⟩
def tabX1_004 : Go.Ev.N PO := ⟨.no, .no, .no, .no, .no, .no, .no, e71tabX, e72tabX, e73tabX, e74tabX, e75tabX, e76tabX, e77tabX, e78tabX, e79tabX⟩
def tabX1_005 : Go.Ev.N PO := ⟨e80tabX, e81tabX, e82tabX, e83tabX, e84tabX, e85tabX, e86tabX, e87tabX, e88tabX, e89tabX, e90tabX, e91tabX, e92tabX, .no, .no, .no⟩
def tabX1_006 : Go.Ev.N PO := ⟨.no, .no, .no, .no, .no, e101tabX, e102tabX, e103tabX, e104tabX, e105tabX, e106tabX, e107tabX, e108tabX, e109tabX, e110tabX, e111tabX⟩
def tabX1_007 : Go.Ev.N PO := ⟨e112tabX, e113tabX, e114tabX, e115tabX, .no, .no, .no, .no, .no, .no, .no, .no, .no, .no, .no, .no⟩
def tabX1_008 : Go.Ev.N PO := ⟨.no, .no, .no, .no, .no, .no, .no, .no, e136tabX, .no, e138tabX, .no, .no, .no, .no, .no⟩
def tabX2_00 : Go.Ev.N (Go.Ev.N PO) := ⟨tabX1_000, tabX1_001, tabX1_002, tabX1_003, tabX1_004, tabX1_005, tabX1_006, tabX1_007, tabX1_008, tabXz1, tabXz1, tabXz1, tabXz1, tabXz1, tabXz1, tabXz1⟩
def tabX3_0 : Go.Ev.N (Go.Ev.N (Go.Ev.N PO)) := ⟨tabX2_00, tabXz2, tabXz2, tabXz2, tabXz2, tabXz2, tabXz2, tabXz2, tabXz2, tabXz2, tabXz2, tabXz2, tabXz2, tabXz2, tabXz2, tabXz2⟩
def tabX : FT := ⟨tabX3_0, tabXz3, tabXz3, tabXz3, tabXz3, tabXz3, tabXz3, tabXz3, tabXz3, tabXz3, tabXz3, tabXz3, tabXz3, tabXz3, tabXz3, tabXz3⟩
theorem tabXOk : TabOk Try.prog 0 tabX := TabOk.of2 (l := [(f3, e3tabX), (f4, e4tabX), (f5, e5tabX), (f6, e6tabX), (f8, e8tabX), (f9, e9tabX), (f10, e10tabX), (f11, e11tabX), (f12, e12tabX), (f13, e13tabX), (f14, e14tabX), (f15, e15tabX), (f16, e16tabX), (f17, e17tabX), (f18, e18tabX), (f19, e19tabX), (f20, e20tabX), (f21, e21tabX), (f22, e22tabX), (f23, e23tabX), (f24, e24tabX), (f25, e25tabX), (f26, e26tabX), (f27, e27tabX), (f28, e28tabX), (f29, e29tabX), (f36, e36tabX), (f37, e37tabX), (f38, e38tabX), (f39, e39tabX), (f40, e40tabX), (f41, e41tabX), (f42, e42tabX), (f43, e43tabX), (f44, e44tabX), (f45, e45tabX), (f46, e46tabX), (f47, e47tabX), (f48, e48tabX), (f49, e49tabX), (f50, e50tabX), (f51, e51tabX), (f52, e52tabX), (f53, e53tabX), (f54, e54tabX), (f55, e55tabX), (f56, e56tabX), (f57, e57tabX), (f58, e58tabX), (f59, e59tabX), (f60, e60tabX), (f61, e61tabX), (f62, e62tabX), (f63, e63tabX), (f71, e71tabX), (f72, e72tabX), (f73, e73tabX), (f74, e74tabX), (f75, e75tabX), (f76, e76tabX), (f77, e77tabX), (f78, e78tabX), (f79, e79tabX), (f80, e80tabX), (f81, e81tabX), (f82, e82tabX), (f83, e83tabX), (f84, e84tabX), (f85, e85tabX), (f86, e86tabX), (f87, e87tabX), (f88, e88tabX), (f89, e89tabX), (f90, e90tabX), (f91, e91tabX), (f92, e92tabX), (f101, e101tabX), (f102, e102tabX), (f103, e103tabX), (f104, e104tabX), (f105, e105tabX), (f106, e106tabX), (f107, e107tabX), (f108, e108tabX), (f109, e109tabX), (f110, e110tabX), (f111, e111tabX), (f112, e112tabX), (f113, e113tabX), (f114, e114tabX), (f115, e115tabX), (f136, e136tabX), (f138, e138tabX)]) (by kernel_rfl) (OkL.cons (po3) (OkL.cons (po4) (OkL.cons (pook_loads po5 enters5 rowsY) (OkL.cons (po6) (OkL.cons (po8) (OkL.cons (fnok_Y enters9 worksY) (OkL.cons (po10) (OkL.cons (po11) (OkL.cons (po12) (OkL.cons (po13) (OkL.cons (po14) (OkL.cons (po15) (OkL.cons (po16) (OkL.cons (po17) (OkL.cons (po18) (OkL.cons (po19) (OkL.cons (po20) (OkL.cons (po21) (OkL.cons (po22) (OkL.cons (po23) (OkL.cons (po24) (OkL.cons (po25) (OkL.cons (po26) (OkL.cons (po27) (OkL.cons (po28) (OkL.cons (po29) (OkL.cons (po36) (OkL.cons (po37) (OkL.cons (po38) (OkL.cons (po39) (OkL.cons (po40) (OkL.cons (po41) (OkL.cons (po42) (OkL.cons (po43) (OkL.cons (po44) (OkL.cons (po45) (OkL.cons (po46) (OkL.cons (po47) (OkL.cons (po48) (OkL.cons (po49) (OkL.cons (po50) (OkL.cons (po51) (OkL.cons (po52) (OkL.cons (po53) (OkL.cons (po54) (OkL.cons (po55) (OkL.cons (po56) (OkL.cons (po57) (OkL.cons (po58) (OkL.cons (po59) (OkL.cons (po60) (OkL.cons (po61) (OkL.cons (po62) (OkL.cons (po63) (OkL.cons (po71) (OkL.cons (po72) (OkL.cons (po73) (OkL.cons (po74) (OkL.cons (po75) (OkL.cons (po76) (OkL.cons (po77) (OkL.cons (po78) (OkL.cons (po79) (OkL.cons (po80) (OkL.cons (po81) (OkL.cons (po82) (OkL.cons (po83) (OkL.cons (po84) (OkL.cons (po85) (OkL.cons (po86) (OkL.cons (po87) (OkL.cons (po88) (OkL.cons (po89) (OkL.cons (po90) (OkL.cons (po91) (OkL.cons (po92) (OkL.cons (po101) (OkL.cons (po102) (OkL.cons (po103) (OkL.cons (po104) (OkL.cons (po105) (OkL.cons (po106) (OkL.cons (po107) (OkL.cons (po108) (OkL.cons (po109) (OkL.cons (po110) (OkL.cons (po111) (OkL.cons (po112) (OkL.cons (po113) (OkL.cons (po114) (OkL.cons (po115) (OkL.cons (po136) (OkL.cons (po138) (.nil))))))))))))))))))))))))))))))))))))))))))))))))))))))))))))))))))))))))))))))))))))))))))))))
theorem tabXc9 (m d : Nat) (l : List V) (h : Heap) : call tabX m (d + 1) ⟨.d0, .d0, .d0, .d9⟩ l h = orcY l h := by kernel_rfl
end
theorem bytesR : yes ((Dt.cons shapesD .nil).layk ⟨[], nx0⟩ fun l h => call tabX 1000000 300 f29 l h) = true := by kernel_rfl
theorem bytesY : YesD Try.prog 0 29 (.cons shapesD .nil) := yesD tabXOk bytesR nx0g
end
end Go.Ev.W05
