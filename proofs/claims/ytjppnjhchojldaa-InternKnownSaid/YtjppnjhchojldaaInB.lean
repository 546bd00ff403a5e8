/- InB: texts joined. -/
import Derived.Test.YtjppnjhchojldaaInA
import Derived.Test.YtjppnjhchojldaaEvRen
/- INTERN: works(), run by the kernel; as a table entry. -/
namespace Go.Ev.W05
open Go.Proofs
set_option maxRecDepth 1000000
/-- no global -/
abbrev nx0 : Bid := ⟨0, .d0, .d0, .d0, .d0⟩
theorem nx0g : ∀ g, g < nx0.val → (gid g).val = g := by decide
theorem worksR : yes (call tabA 1000000 300 f9 [] ⟨[], nx0⟩) = true := by kernel_rfl
theorem worksY : Yes0 Try.prog 0 9 [] := yes0 tabAOk worksR nx0g fun _ => .nil
theorem enters9 : Enters Try.prog 9 := enters_of Try.func9 (by kernel_rfl) (by decide +kernel)
end Go.Ev.W05

/- INTERN: the table; works() known. -/
namespace Go.Ev.W05
open Go.Proofs
set_option maxRecDepth 1000000
noncomputable section
abbrev e3tabW : PO := .sh (sh3 words)
abbrev e4tabW : PO := .sh (sh4 words)
abbrev e5tabW : PO := .sh (sh5 words)
abbrev e6tabW : PO := .sh (sh6 words)
abbrev e8tabW : PO := .sh (sh8 words)
abbrev e9tabW : PO := .orc orcY
abbrev e10tabW : PO := .sh (sh10 words)
abbrev e11tabW : PO := .sh (sh11 words)
abbrev e12tabW : PO := .sh (sh12 words)
abbrev e13tabW : PO := .sh (sh13 words)
abbrev e14tabW : PO := .sh (sh14 words)
abbrev e15tabW : PO := .sh (sh15 words)
abbrev e16tabW : PO := .sh (sh16 words)
abbrev e17tabW : PO := .sh (sh17 words)
abbrev e18tabW : PO := .sh (sh18 words)
abbrev e19tabW : PO := .sh (sh19 words)
abbrev e20tabW : PO := .sh (sh20 words)
abbrev e21tabW : PO := .sh (sh21 words)
abbrev e22tabW : PO := .sh (sh22 words)
abbrev e23tabW : PO := .sh (sh23 words)
abbrev e24tabW : PO := .sh (sh24 words)
abbrev e25tabW : PO := .sh (sh25 words)
abbrev e26tabW : PO := .sh (sh26 words)
abbrev e27tabW : PO := .sh (sh27 words)
abbrev e28tabW : PO := .sh (sh28 words)
abbrev e29tabW : PO := .sh (sh29 words)
abbrev e36tabW : PO := .sh (sh36 words)
abbrev e37tabW : PO := .sh (sh37 words)
abbrev e38tabW : PO := .sh (sh38 words)
abbrev e39tabW : PO := .sh (sh39 words)
abbrev e40tabW : PO := .sh (sh40 words)
abbrev e41tabW : PO := .sh (sh41 words)
abbrev e42tabW : PO := .sh (sh42 words)
abbrev e43tabW : PO := .sh (sh43 words)
abbrev e44tabW : PO := .sh (sh44 words)
abbrev e45tabW : PO := .sh (sh45 words)
abbrev e46tabW : PO := .sh (sh46 words)
abbrev e47tabW : PO := .sh (sh47 words)
abbrev e48tabW : PO := .sh (sh48 words)
abbrev e49tabW : PO := .sh (sh49 words)
abbrev e50tabW : PO := .sh (sh50 words)
abbrev e51tabW : PO := .sh (sh51 words)
abbrev e52tabW : PO := .sh (sh52 words)
abbrev e53tabW : PO := .sh (sh53 words)
abbrev e54tabW : PO := .sh (sh54 words)
abbrev e55tabW : PO := .sh (sh55 words)
abbrev e56tabW : PO := .sh (sh56 words)
abbrev e57tabW : PO := .sh (sh57 words)
abbrev e58tabW : PO := .sh (sh58 words)
abbrev e59tabW : PO := .sh (sh59 words)
abbrev e60tabW : PO := .sh (sh60 words)
abbrev e61tabW : PO := .sh (sh61 words)
abbrev e62tabW : PO := .sh (sh62 words)
abbrev e63tabW : PO := .sh (sh63 words)
abbrev e71tabW : PO := .sh (sh71 words)
abbrev e72tabW : PO := .sh (sh72 words)
abbrev e73tabW : PO := .sh (sh73 words)
abbrev e74tabW : PO := .sh (sh74 words)
abbrev e75tabW : PO := .sh (sh75 words)
abbrev e76tabW : PO := .sh (sh76 words)
abbrev e77tabW : PO := .sh (sh77 words)
abbrev e78tabW : PO := .sh (sh78 words)
abbrev e79tabW : PO := .sh (sh79 words)
abbrev e80tabW : PO := .sh (sh80 words)
abbrev e81tabW : PO := .sh (sh81 words)
abbrev e82tabW : PO := .sh (sh82 words)
abbrev e83tabW : PO := .sh (sh83 words)
abbrev e84tabW : PO := .sh (sh84 words)
abbrev e85tabW : PO := .sh (sh85 words)
abbrev e86tabW : PO := .sh (sh86 words)
abbrev e87tabW : PO := .sh (sh87 words)
abbrev e88tabW : PO := .sh (sh88 words)
abbrev e89tabW : PO := .sh (sh89 words)
abbrev e90tabW : PO := .sh (sh90 words)
abbrev e91tabW : PO := .sh (sh91 words)
abbrev e92tabW : PO := .sh (sh92 words)
abbrev e101tabW : PO := .sh (sh101 words)
abbrev e102tabW : PO := .sh (sh102 words)
abbrev e103tabW : PO := .sh (sh103 words)
abbrev e104tabW : PO := .sh (sh104 words)
abbrev e105tabW : PO := .sh (sh105 words)
abbrev e106tabW : PO := .sh (sh106 words)
abbrev e107tabW : PO := .sh (sh107 words)
abbrev e108tabW : PO := .sh (sh108 words)
abbrev e109tabW : PO := .sh (sh109 words)
abbrev e110tabW : PO := .sh (sh110 words)
abbrev e111tabW : PO := .sh (sh111 words)
abbrev e112tabW : PO := .sh (sh112 words)
abbrev e113tabW : PO := .sh (sh113 words)
abbrev e114tabW : PO := .sh (sh114 words)
abbrev e115tabW : PO := .sh (sh115 words)
abbrev e136tabW : PO := .sh (sh136 words)
abbrev e138tabW : PO := .sh (sh138 words)
def tabWz1 : Go.Ev.N PO := ⟨.no, .no, .no, .no, .no, .no, .no, .no, .no, .no, .no, .no, .no, .no, .no, .no⟩
def tabWz2 : Go.Ev.N (Go.Ev.N PO) := ⟨tabWz1, tabWz1, tabWz1, tabWz1, tabWz1, tabWz1, tabWz1, tabWz1, tabWz1, tabWz1, tabWz1, tabWz1, tabWz1, tabWz1, tabWz1, tabWz1⟩
def tabWz3 : Go.Ev.N (Go.Ev.N (Go.Ev.N PO)) := ⟨tabWz2, tabWz2, tabWz2, tabWz2, tabWz2, tabWz2, tabWz2, tabWz2, tabWz2, tabWz2, tabWz2, tabWz2, tabWz2, tabWz2, tabWz2, tabWz2⟩
def tabW1_000 : Go.Ev.N PO := ⟨.no, .no, .no, e3tabW, e4tabW, e5tabW, e6tabW, .no, e8tabW, e9tabW, e10tabW, e11tabW, e12tabW, e13tabW, e14tabW, e15tabW⟩
def tabW1_001 : Go.Ev.N PO := ⟨e16tabW, e17tabW, e18tabW, e19tabW, e20tabW, e21tabW, e22tabW, e23tabW, e24tabW, e25tabW, e26tabW, e27tabW, e28tabW, e29tabW, .no, .no⟩
def tabW1_002 : Go.Ev.N PO := ⟨.no, .no, .no, .no, e36tabW, e37tabW, e38tabW, e39tabW, e40tabW, e41tabW, e42tabW, e43tabW, e44tabW, e45tabW, e46tabW, e47tabW⟩
def tabW1_003 : Go.Ev.N PO := ⟨e48tabW, e49tabW, e50tabW, e51tabW, e52tabW, e53tabW, e54tabW, e55tabW, e56tabW, e57tabW, e58tabW, e59tabW, e60tabW, e61tabW, e62tabW, e63tabW⟩
def tabW1_004 : Go.Ev.N PO := ⟨.no, .no, .no, .no, .no, .no, .no, e71tabW, e72tabW, e73tabW, e74tabW, e75tabW, e76tabW, e77tabW, e78tabW, e79tabW⟩
def tabW1_005 : Go.Ev.N PO := ⟨e80tabW, e81tabW, e82tabW, e83tabW, e84tabW, e85tabW, e86tabW, e87tabW, e88tabW, e89tabW, e90tabW, e91tabW, e92tabW, .no, .no, .no⟩
def tabW1_006 : Go.Ev.N PO := ⟨.no, .no, .no, .no, .no, e101tabW, e102tabW, e103tabW, e104tabW, e105tabW, e106tabW, e107tabW, e108tabW, e109tabW, e110tabW, e111tabW⟩
def tabW1_007 : Go.Ev.N PO := ⟨e112tabW, e113tabW, e114tabW, e115tabW, .no, .no, .no, .no, .no, .no, .no, .no, .no, .no, .no, .no⟩
def tabW1_008 : Go.Ev.N PO := ⟨.no, .no, .no, .no, .no, .no, .no, .no, e136tabW, .no, e138tabW, .no, .no, .no, .no, .no⟩
def tabW2_00 : Go.Ev.N (Go.Ev.N PO) := ⟨tabW1_000, tabW1_001, tabW1_002, tabW1_003, tabW1_004, tabW1_005, tabW1_006, tabW1_007, tabW1_008, tabWz1, tabWz1, tabWz1, tabWz1, tabWz1, tabWz1, tabWz1⟩
def tabW3_0 : Go.Ev.N (Go.Ev.N (Go.Ev.N PO)) := ⟨tabW2_00, tabWz2, tabWz2, tabWz2, tabWz2, tabWz2, tabWz2, tabWz2, tabWz2, tabWz2, tabWz2, tabWz2, tabWz2, tabWz2, tabWz2, tabWz2⟩
def tabW : FT := ⟨tabW3_0, tabWz3, tabWz3, tabWz3, tabWz3, tabWz3, tabWz3, tabWz3, tabWz3, tabWz3, tabWz3, tabWz3, tabWz3, tabWz3, tabWz3, tabWz3⟩
theorem tabWOk : TabOk Try.prog 0 tabW := TabOk.of2 (l := [(f3, e3tabW), (f4, e4tabW), (f5, e5tabW), (f6, e6tabW), (f8, e8tabW), (f9, e9tabW), (f10, e10tabW), (f11, e11tabW), (f12, e12tabW), (f13, e13tabW), (f14, e14tabW), (f15, e15tabW), (f16, e16tabW), (f17, e17tabW), (f18, e18tabW), (f19, e19tabW), (f20, e20tabW), (f21, e21tabW), (f22, e22tabW), (f23, e23tabW), (f24, e24tabW), (f25, e25tabW), (f26, e26tabW), (f27, e27tabW), (f28, e28tabW), (f29, e29tabW), (f36, e36tabW), (f37, e37tabW), (f38, e38tabW), (f39, e39tabW), (f40, e40tabW), (f41, e41tabW), (f42, e42tabW), (f43, e43tabW), (f44, e44tabW), (f45, e45tabW), (f46, e46tabW), (f47, e47tabW), (f48, e48tabW), (f49, e49tabW), (f50, e50tabW), (f51, e51tabW), (f52, e52tabW), (f53, e53tabW), (f54, e54tabW), (f55, e55tabW), (f56, e56tabW), (f57, e57tabW), (f58, e58tabW), (f59, e59tabW), (f60, e60tabW), (f61, e61tabW), (f62, e62tabW), (f63, e63tabW), (f71, e71tabW), (f72, e72tabW), (f73, e73tabW), (f74, e74tabW), (f75, e75tabW), (f76, e76tabW), (f77, e77tabW), (f78, e78tabW), (f79, e79tabW), (f80, e80tabW), (f81, e81tabW), (f82, e82tabW), (f83, e83tabW), (f84, e84tabW), (f85, e85tabW), (f86, e86tabW), (f87, e87tabW), (f88, e88tabW), (f89, e89tabW), (f90, e90tabW), (f91, e91tabW), (f92, e92tabW), (f101, e101tabW), (f102, e102tabW), (f103, e103tabW), (f104, e104tabW), (f105, e105tabW), (f106, e106tabW), (f107, e107tabW), (f108, e108tabW), (f109, e109tabW), (f110, e110tabW), (f111, e111tabW), (f112, e112tabW), (f113, e113tabW), (f114, e114tabW), (f115, e115tabW), (f136, e136tabW), (f138, e138tabW)]) (by kernel_rfl) (OkL.cons (po3) (OkL.cons (po4) (OkL.cons (po5) (OkL.cons (po6) (OkL.cons (po8) (OkL.cons (fnok_Y enters9 worksY) (OkL.cons (po10) (OkL.cons (po11) (OkL.cons (po12) (OkL.cons (po13) (OkL.cons (po14) (OkL.cons (po15) (OkL.cons (po16) (OkL.cons (po17) (OkL.cons (po18) (OkL.cons (po19) (OkL.cons (po20) (OkL.cons (po21) (OkL.cons (po22) (OkL.cons (po23) (OkL.cons (po24) (OkL.cons (po25) (OkL.cons (po26) (OkL.cons (po27) (OkL.cons (po28) (OkL.cons (po29) (OkL.cons (po36) (OkL.cons (po37) (OkL.cons (po38) (OkL.cons (po39) (OkL.cons (po40) (OkL.cons (po41) (OkL.cons (po42) (OkL.cons (po43) (OkL.cons (po44) (OkL.cons (po45) (OkL.cons (po46) (OkL.cons (po47) (OkL.cons (po48) (OkL.cons (po49) (OkL.cons (po50) (OkL.cons (po51) (OkL.cons (po52) (OkL.cons (po53) (OkL.cons (po54) (OkL.cons (po55) (OkL.cons (po56) (OkL.cons (po57) (OkL.cons (po58) (OkL.cons (po59) (OkL.cons (po60) (OkL.cons (po61) (OkL.cons (po62) (OkL.cons (po63) (OkL.cons (po71) (OkL.cons (po72) (OkL.cons (po73) (OkL.cons (po74) (OkL.cons (po75) (OkL.cons (po76) (OkL.cons (po77) (OkL.cons (po78) (OkL.cons (po79) (OkL.cons (po80) (OkL.cons (po81) (OkL.cons (po82) (OkL.cons (po83) (OkL.cons (po84) (OkL.cons (po85) (OkL.cons (po86) (OkL.cons (po87) (OkL.cons (po88) (OkL.cons (po89) (OkL.cons (po90) (OkL.cons (po91) (OkL.cons (po92) (OkL.cons (po101) (OkL.cons (po102) (OkL.cons (po103) (OkL.cons (po104) (OkL.cons (po105) (OkL.cons (po106) (OkL.cons (po107) (OkL.cons (po108) (OkL.cons (po109) (OkL.cons (po110) (OkL.cons (po111) (OkL.cons (po112) (OkL.cons (po113) (OkL.cons (po114) (OkL.cons (po115) (OkL.cons (po136) (OkL.cons (po138) (.nil))))))))))))))))))))))))))))))))))))))))))))))))))))))))))))))))))))))))))))))))))))))))))))))
theorem tabWc9 (m d : Nat) (l : List V) (h : Heap) : call tabW m (d + 1) ⟨.d0, .d0, .d0, .d9⟩ l h = orcY l h := by kernel_rfl
end
end Go.Ev.W05
