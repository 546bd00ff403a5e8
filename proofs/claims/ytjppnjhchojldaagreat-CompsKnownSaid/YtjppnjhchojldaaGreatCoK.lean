/- COMPS: the closed law CompsKnown, run. -/
import Derived.Test.YtjppnjhchojldaaGreatCoM
namespace Go.Ev.W17
open Go.Proofs
set_option maxRecDepth 1000000
/-- 'made', the answer known for the law's own texts -/
noncomputable def shMade (m : Nat) (cf : CF) (l : List V) (h : Heap) : Res := patsk madeL l h (sh4 words m cf l h)
noncomputable def tabMz1 : Go.Ev.N PO := ⟨.no, .no, .no, .no, .no, .no, .no, .no, .no, .no, .no, .no, .no, .no, .no, .no⟩
noncomputable def tabMz2 : Go.Ev.N (Go.Ev.N PO) := ⟨tabMz1, tabMz1, tabMz1, tabMz1, tabMz1, tabMz1, tabMz1, tabMz1, tabMz1, tabMz1, tabMz1, tabMz1, tabMz1, tabMz1, tabMz1, tabMz1⟩
noncomputable def tabMz3 : Go.Ev.N (Go.Ev.N (Go.Ev.N PO)) := ⟨tabMz2, tabMz2, tabMz2, tabMz2, tabMz2, tabMz2, tabMz2, tabMz2, tabMz2, tabMz2, tabMz2, tabMz2, tabMz2, tabMz2, tabMz2, tabMz2⟩
noncomputable def tabM1_000 : Go.Ev.N PO := ⟨.no, .no, .no, .sh (sh3 words), .sh shMade, .sh (sh5 words), .sh (sh6 words), .sh (sh7 words), .sh (sh8 words), .orc orcY, .sh (sh10 words), .sh (sh11 words), .sh (sh12 words), .sh (sh13 words), .no, .sh (sh15 words)⟩
noncomputable def tabM1_001 : Go.Ev.N PO := ⟨.sh (sh16 words), .sh (sh17 words), .sh (sh18 words), .sh (sh19 words), .sh (sh20 words), .sh (sh21 words), .sh (sh22 words), .sh (sh23 words), .sh (sh24 words), .sh (sh25 words), .sh (sh26 words), .sh (sh27 words), .sh (sh28 words), .sh (sh29 words), .sh (sh30 words), .sh (sh31 words)⟩
noncomputable def tabM1_002 : Go.Ev.N PO := ⟨.sh (sh32 words), .sh (sh33 words), .sh (sh34 words), .sh (sh35 words), .sh (sh36 words), .sh (sh37 words), .sh (sh38 words), .sh (sh39 words), .sh (sh40 words), .sh (sh41 words), .sh (sh42 words), .sh (sh43 words), .sh (sh44 words), .sh (sh45 words), .sh (sh46 words), .sh (sh47 words)⟩
noncomputable def tabM1_003 : Go.Ev.N PO := ⟨.sh (sh48 words), .sh (sh49 words), .sh (sh50 words), .sh (sh51 words), .sh (sh52 words), .sh (sh53 words), .sh (sh54 words), .sh (sh55 words), .sh (sh56 words), .sh (sh57 words), .sh (sh58 words), .sh (sh59 words), .sh (sh60 words), .sh (sh61 words), .sh (sh62 words), .sh (sh63 words)⟩
noncomputable def tabM1_004 : Go.Ev.N PO := ⟨.sh (sh64 words), .sh (sh65 words), .sh (sh66 words), .sh (sh67 words), .sh (sh68 words), .sh (sh69 words), .sh (sh70 words), .sh (sh71 words), .sh (sh72 words), .sh (sh73 words), .sh (sh74 words), .sh (sh75 words), .sh (sh76 words), .sh (sh77 words), .sh (sh78 words), .sh (sh79 words)⟩
noncomputable def tabM1_005 : Go.Ev.N PO := ⟨.sh (sh80 words), .sh (sh81 words), .sh (sh82 words), .sh (sh83 words), .sh (sh84 words), .sh (sh85 words), .sh (sh86 words), .sh (sh87 words), .sh (sh88 words), .sh (sh89 words), .sh (sh90 words), .sh (sh91 words), .sh (sh92 words), .sh (sh93 words), .sh (sh94 words), .sh (sh95 words)⟩
noncomputable def tabM1_006 : Go.Ev.N PO := ⟨.sh (sh96 words), .sh (sh97 words), .sh (sh98 words), .sh (sh99 words), .sh (sh100 words), .sh (sh101 words), .sh (sh102 words), .sh (sh103 words), .sh (sh104 words), .sh (sh105 words), .sh (sh106 words), .sh (sh107 words), .sh (sh108 words), .sh (sh109 words), .sh (sh110 words), .sh (sh111 words)⟩
noncomputable def tabM1_007 : Go.Ev.N PO := ⟨.sh (sh112 words), .sh (sh113 words), .sh (sh114 words), .sh (sh115 words), .sh (sh116 words), .sh (sh117 words), .sh (sh118 words), .sh (sh119 words), .sh (sh120 words), .sh (sh121 words), .sh (sh122 words), .sh (sh123 words), .sh (sh124 words), .no, .sh (sh126 words), .sh (sh127 words)⟩
noncomputable def tabM1_008 : Go.Ev.N PO := ⟨.sh (sh128 words), .sh (sh129 words), .no, .sh (sh131 words), .sh (sh132 words), .no, .no, .no, .no, .no, .no, .no, .no, .no, .no, .no⟩
noncomputable def tabM2_00 : Go.Ev.N (Go.Ev.N PO) := ⟨tabM1_000, tabM1_001, tabM1_002, tabM1_003, tabM1_004, tabM1_005, tabM1_006, tabM1_007, tabM1_008, tabMz1, tabMz1, tabMz1, tabMz1, tabMz1, tabMz1, tabMz1⟩
noncomputable def tabM3_0 : Go.Ev.N (Go.Ev.N (Go.Ev.N PO)) := ⟨tabM2_00, tabMz2, tabMz2, tabMz2, tabMz2, tabMz2, tabMz2, tabMz2, tabMz2, tabMz2, tabMz2, tabMz2, tabMz2, tabMz2, tabMz2, tabMz2⟩
noncomputable def tabM : FT := ⟨tabM3_0, tabMz3, tabMz3, tabMz3, tabMz3, tabMz3, tabMz3, tabMz3, tabMz3, tabMz3, tabMz3, tabMz3, tabMz3, tabMz3, tabMz3, tabMz3⟩
noncomputable def tabML : List (Fid × PO) := [(⟨.d0, .d0, .d0, .d3⟩, .sh (sh3 words)), (⟨.d0, .d0, .d0, .d4⟩, .sh shMade), (⟨.d0, .d0, .d0, .d5⟩, .sh (sh5 words)), (⟨.d0, .d0, .d0, .d6⟩, .sh (sh6 words)), (⟨.d0, .d0, .d0, .d7⟩, .sh (sh7 words)), (⟨.d0, .d0, .d0, .d8⟩, .sh (sh8 words)), (⟨.d0, .d0, .d0, .d9⟩, .orc orcY), (⟨.d0, .d0, .d0, .da⟩, .sh (sh10 words)), (⟨.d0, .d0, .d0, .db⟩, .sh (sh11 words)), (⟨.d0, .d0, .d0, .dc⟩, .sh (sh12 words)), (⟨.d0, .d0, .d0, .dd⟩, .sh (sh13 words)), (⟨.d0, .d0, .d0, .df⟩, .sh (sh15 words)), (⟨.d0, .d0, .d1, .d0⟩, .sh (sh16 words)), (⟨.d0, .d0, .d1, .d1⟩, .sh (sh17 words)), (⟨.d0, .d0, .d1, .d2⟩, .sh (sh18 words)), (⟨.d0, .d0, .d1, .d3⟩, .sh (sh19 words)), (⟨.d0, .d0, .d1, .d4⟩, .sh (sh20 words)), (⟨.d0, .d0, .d1, .d5⟩, .sh (sh21 words)), (⟨.d0, .d0, .d1, .d6⟩, .sh (sh22 words)), (⟨.d0, .d0, .d1, .d7⟩, .sh (sh23 words)), (⟨.d0, .d0, .d1, .d8⟩, .sh (sh24 words)), (⟨.d0, .d0, .d1, .d9⟩, .sh (sh25 words)), (⟨.d0, .d0, .d1, .da⟩, .sh (sh26 words)), (⟨.d0, .d0, .d1, .db⟩, .sh (sh27 words)), (⟨.d0, .d0, .d1, .dc⟩, .sh (sh28 words)), (⟨.d0, .d0, .d1, .dd⟩, .sh (sh29 words)), (⟨.d0, .d0, .d1, .de⟩, .sh (sh30 words)), (⟨.d0, .d0, .d1, .df⟩, .sh (sh31 words)), (⟨.d0, .d0, .d2, .d0⟩, .sh (sh32 words)), (⟨.d0, .d0, .d2, .d1⟩, .sh (sh33 words)), (⟨.d0, .d0, .d2, .d2⟩, .sh (sh34 words)), (⟨.d0, .d0, .d2, .d3⟩, .sh (sh35 words)), (⟨.d0, .d0, .d2, .d4⟩, .sh (sh36 words)), (⟨.d0, .d0, .d2, .d5⟩, .sh (sh37 words)), (⟨.d0, .d0, .d2, .d6⟩, .sh (sh38 words)), (⟨.d0, .d0, .d2, .d7⟩, .sh (sh39 words)), (⟨.d0, .d0, .d2, .d8⟩, .sh (sh40 words)), (⟨.d0, .d0, .d2, .d9⟩, .sh (sh41 words)), (⟨.d0, .d0, .d2, .da⟩, .sh (sh42 words)), (⟨.d0, .d0, .d2, .db⟩, .sh (sh43 words)), (⟨.d0, .d0, .d2, .dc⟩, .sh (sh44 words)), (⟨.d0, .d0, .d2, .dd⟩, .sh (sh45 words)), (⟨.d0, .d0, .d2, .de⟩, .sh (sh46 words)), (⟨.d0, .d0, .d2, .df⟩, .sh (sh47 words)), (⟨.d0, .d0, .d3, .d0⟩, .sh (sh48 words)), (⟨.d0, .d0, .d3, .d1⟩, .sh (sh49 words)), (⟨.d0, .d0, .d3, .d2⟩, .sh (sh50 words)), (⟨.d0, .d0, .d3, .d3⟩, .sh (sh51 words)), (⟨.d0, .d0, .d3, .d4⟩, .sh (sh52 words)), (⟨.d0, .d0, .d3, .d5⟩, .sh (sh53 words)), (⟨.d0, .d0, .d3, .d6⟩, .sh (sh54 words)), (⟨.d0, .d0, .d3, .d7⟩, .sh (sh55 words)), (⟨.d0, .d0, .d3, .d8⟩, .sh (sh56 words)), (⟨.d0, .d0, .d3, .d9⟩, .sh (sh57 words)), (⟨.d0, .d0, .d3, .da⟩, .sh (sh58 words)), (⟨.d0, .d0, .d3, .db⟩, .sh (sh59 words)), (⟨.d0, .d0, .d3, .dc⟩, .sh (sh60 words)), (⟨.d0, .d0, .d3, .dd⟩, .sh (sh61 words)), (⟨.d0, .d0, .d3, .de⟩, .sh (sh62 words)), (⟨.d0, .d0, .d3, .df⟩, .sh (sh63 words)), (⟨.d0, .d0, .d4, .d0⟩, .sh (sh64 words)), (⟨.d0, .d0, .d4, .d1⟩, .sh (sh65 words)), (⟨.d0, .d0, .d4, .d2⟩, .sh (sh66 words)), (⟨.d0, .d0, .d4, .d3⟩, .sh (sh67 words)), (⟨.d0, .d0, .d4, .d4⟩, .sh (sh68 words)), (⟨.d0, .d0, .d4, .d5⟩, .sh (sh69 words)), (⟨.d0, .d0, .d4, .d6⟩, .sh (sh70 words)), (⟨.d0, .d0, .d4, .d7⟩, .sh (sh71 words)), (⟨.d0, .d0, .d4, .d8⟩, .sh (sh72 words)), (⟨.d0, .d0, .d4, .d9⟩, .sh (sh73 words)), (⟨.d0, .d0, .d4, .da⟩, .sh (sh74 words)), (⟨.d0, .d0, .d4, .db⟩, .sh (sh75 words)), (⟨.d0, .d0, .d4, .dc⟩, .sh (sh76 words)), (⟨.d0, .d0, .d4, .dd⟩, .sh (sh77 words)), (⟨.d0, .d0, .d4, .de⟩, .sh (sh78 words)), (⟨.d0, .d0, .d4, .df⟩, .sh (sh79 words)), (⟨.d0, .d0, .d5, .d0⟩, .sh (sh80 words)), (⟨.d0, .d0, .d5, .d1⟩, .sh (sh81 words)), (⟨.d0, .d0, .d5, .d2⟩, .sh (sh82 words)), (⟨.d0, .d0, .d5, .d3⟩, .sh (sh83 words)), (⟨.d0, .d0, .d5, .d4⟩, .sh (sh84 words)), (⟨.d0, .d0, .d5, .d5⟩, .sh (sh85 words)), (⟨.d0, .d0, .d5, .d6⟩, .sh (sh86 words)), (⟨.d0, .d0, .d5, .d7⟩, .sh (sh87 words)), (⟨.d0, .d0, .d5, .d8⟩, .sh (sh88 words)), (⟨.d0, .d0, .d5, .d9⟩, .sh (sh89 words)), (⟨.d0, .d0, .d5, .da⟩, .sh (sh90 words)), (⟨.d0, .d0, .d5, .db⟩, .sh (sh91 words)), (⟨.d0, .d0, .d5, .dc⟩, .sh (sh92 words)), (⟨.d0, .d0, .d5, .dd⟩, .sh (sh93 words)), (⟨.d0, .d0, .d5, .de⟩, .sh (sh94 words)), (⟨.d0, .d0, .d5, .df⟩, .sh (sh95 words)), (⟨.d0, .d0, .d6, .d0⟩, .sh (sh96 words)), (⟨.d0, .d0, .d6, .d1⟩, .sh (sh97 words)), (⟨.d0, .d0, .d6, .d2⟩, .sh (sh98 words)), (⟨.d0, .d0, .d6, .d3⟩, .sh (sh99 words)), (⟨.d0, .d0, .d6, .d4⟩, .sh (sh100 words)), (⟨.d0, .d0, .d6, .d5⟩, .sh (sh101 words)), (⟨.d0, .d0, .d6, .d6⟩, .sh (sh102 words)), (⟨.d0, .d0, .d6, .d7⟩, .sh (sh103 words)), (⟨.d0, .d0, .d6, .d8⟩, .sh (sh104 words)), (⟨.d0, .d0, .d6, .d9⟩, .sh (sh105 words)), (⟨.d0, .d0, .d6, .da⟩, .sh (sh106 words)), (⟨.d0, .d0, .d6, .db⟩, .sh (sh107 words)), (⟨.d0, .d0, .d6, .dc⟩, .sh (sh108 words)), (⟨.d0, .d0, .d6, .dd⟩, .sh (sh109 words)), (⟨.d0, .d0, .d6, .de⟩, .sh (sh110 words)), (⟨.d0, .d0, .d6, .df⟩, .sh (sh111 words)), (⟨.d0, .d0, .d7, .d0⟩, .sh (sh112 words)), (⟨.d0, .d0, .d7, .d1⟩, .sh (sh113 words)), (⟨.d0, .d0, .d7, .d2⟩, .sh (sh114 words)), (⟨.d0, .d0, .d7, .d3⟩, .sh (sh115 words)), (⟨.d0, .d0, .d7, .d4⟩, .sh (sh116 words)), (⟨.d0, .d0, .d7, .d5⟩, .sh (sh117 words)), (⟨.d0, .d0, .d7, .d6⟩, .sh (sh118 words)), (⟨.d0, .d0, .d7, .d7⟩, .sh (sh119 words)), (⟨.d0, .d0, .d7, .d8⟩, .sh (sh120 words)), (⟨.d0, .d0, .d7, .d9⟩, .sh (sh121 words)), (⟨.d0, .d0, .d7, .da⟩, .sh (sh122 words)), (⟨.d0, .d0, .d7, .db⟩, .sh (sh123 words)), (⟨.d0, .d0, .d7, .dc⟩, .sh (sh124 words)), (⟨.d0, .d0, .d7, .de⟩, .sh (sh126 words)), (⟨.d0, .d0, .d7, .df⟩, .sh (sh127 words)), (⟨.d0, .d0, .d8, .d0⟩, .sh (sh128 words)), (⟨.d0, .d0, .d8, .d1⟩, .sh (sh129 words)), (⟨.d0, .d0, .d8, .d3⟩, .sh (sh131 words)), (⟨.d0, .d0, .d8, .d4⟩, .sh (sh132 words))]
theorem tabM_eq : tabM = FT.of tabML := by kernel_rfl
theorem tabMo3 : POok Tryz.prog 1 3 (.sh (sh3 words)) := po3
theorem tabMo4 : POok Tryz.prog 1 4 (.sh shMade) := pook_P po4 enters4 madeY
theorem tabMo5 : POok Tryz.prog 1 5 (.sh (sh5 words)) := po5
theorem tabMo6 : POok Tryz.prog 1 6 (.sh (sh6 words)) := po6
theorem tabMo7 : POok Tryz.prog 1 7 (.sh (sh7 words)) := po7
theorem tabMo8 : POok Tryz.prog 1 8 (.sh (sh8 words)) := po8
theorem tabMo9 : POok Tryz.prog 1 9 (.orc orcY) := fnok_Y enters9 worksY
theorem tabMo10 : POok Tryz.prog 1 10 (.sh (sh10 words)) := po10
theorem tabMo11 : POok Tryz.prog 1 11 (.sh (sh11 words)) := po11
theorem tabMo12 : POok Tryz.prog 1 12 (.sh (sh12 words)) := po12
theorem tabMo13 : POok Tryz.prog 1 13 (.sh (sh13 words)) := po13
theorem tabMo15 : POok Tryz.prog 1 15 (.sh (sh15 words)) := po15
theorem tabMo16 : POok Tryz.prog 1 16 (.sh (sh16 words)) := po16
theorem tabMo17 : POok Tryz.prog 1 17 (.sh (sh17 words)) := po17
theorem tabMo18 : POok Tryz.prog 1 18 (.sh (sh18 words)) := po18
theorem tabMo19 : POok Tryz.prog 1 19 (.sh (sh19 words)) := po19
theorem tabMo20 : POok Tryz.prog 1 20 (.sh (sh20 words)) := po20
theorem tabMo21 : POok Tryz.prog 1 21 (.sh (sh21 words)) := po21
theorem tabMo22 : POok Tryz.prog 1 22 (.sh (sh22 words)) := po22
theorem tabMo23 : POok Tryz.prog 1 23 (.sh (sh23 words)) := po23
theorem tabMo24 : POok Tryz.prog 1 24 (.sh (sh24 words)) := po24
theorem tabMo25 : POok Tryz.prog 1 25 (.sh (sh25 words)) := po25
theorem tabMo26 : POok Tryz.prog 1 26 (.sh (sh26 words)) := po26
theorem tabMo27 : POok Tryz.prog 1 27 (.sh (sh27 words)) := po27
theorem tabMo28 : POok Tryz.prog 1 28 (.sh (sh28 words)) := po28
theorem tabMo29 : POok Tryz.prog 1 29 (.sh (sh29 words)) := po29
theorem tabMo30 : POok Tryz.prog 1 30 (.sh (sh30 words)) := po30
theorem tabMo31 : POok Tryz.prog 1 31 (.sh (sh31 words)) := po31
theorem tabMo32 : POok Tryz.prog 1 32 (.sh (sh32 words)) := po32
theorem tabMo33 : POok Tryz.prog 1 33 (.sh (sh33 words)) := po33
theorem tabMo34 : POok Tryz.prog 1 34 (.sh (sh34 words)) := po34
theorem tabMo35 : POok Tryz.prog 1 35 (.sh (sh35 words)) := po35
theorem tabMo36 : POok Tryz.prog 1 36 (.sh (sh36 words)) := po36
theorem tabMo37 : POok Tryz.prog 1 37 (.sh (sh37 words)) := po37
theorem tabMo38 : POok Tryz.prog 1 38 (.sh (sh38 words)) := po38
theorem tabMo39 : POok Tryz.prog 1 39 (.sh (sh39 words)) := po39
theorem tabMo40 : POok Tryz.prog 1 40 (.sh (sh40 words)) := po40
theorem tabMo41 : POok Tryz.prog 1 41 (.sh (sh41 words)) := po41
theorem tabMo42 : POok Tryz.prog 1 42 (.sh (sh42 words)) := po42
theorem tabMo43 : POok Tryz.prog 1 43 (.sh (sh43 words)) := po43
theorem tabMo44 : POok Tryz.prog 1 44 (.sh (sh44 words)) := po44
theorem tabMo45 : POok Tryz.prog 1 45 (.sh (sh45 words)) := po45
theorem tabMo46 : POok Tryz.prog 1 46 (.sh (sh46 words)) := po46
theorem tabMo47 : POok Tryz.prog 1 47 (.sh (sh47 words)) := po47
theorem tabMo48 : POok Tryz.prog 1 48 (.sh (sh48 words)) := po48
theorem tabMo49 : POok Tryz.prog 1 49 (.sh (sh49 words)) := po49
theorem tabMo50 : POok Tryz.prog 1 50 (.sh (sh50 words)) := po50
theorem tabMo51 : POok Tryz.prog 1 51 (.sh (sh51 words)) := po51
theorem tabMo52 : POok Tryz.prog 1 52 (.sh (sh52 words)) := po52
theorem tabMo53 : POok Tryz.prog 1 53 (.sh (sh53 words)) := po53
theorem tabMo54 : POok Tryz.prog 1 54 (.sh (sh54 words)) := po54
theorem tabMo55 : POok Tryz.prog 1 55 (.sh (sh55 words)) := po55
theorem tabMo56 : POok Tryz.prog 1 56 (.sh (sh56 words)) := po56
theorem tabMo57 : POok Tryz.prog 1 57 (.sh (sh57 words)) := po57
theorem tabMo58 : POok Tryz.prog 1 58 (.sh (sh58 words)) := po58
theorem tabMo59 : POok Tryz.prog 1 59 (.sh (sh59 words)) := po59
theorem tabMo60 : POok Tryz.prog 1 60 (.sh (sh60 words)) := po60
theorem tabMo61 : POok Tryz.prog 1 61 (.sh (sh61 words)) := po61
theorem tabMo62 : POok Tryz.prog 1 62 (.sh (sh62 words)) := po62
theorem tabMo63 : POok Tryz.prog 1 63 (.sh (sh63 words)) := po63
theorem tabMo64 : POok Tryz.prog 1 64 (.sh (sh64 words)) := po64
theorem tabMo65 : POok Tryz.prog 1 65 (.sh (sh65 words)) := po65
theorem tabMo66 : POok Tryz.prog 1 66 (.sh (sh66 words)) := po66
theorem tabMo67 : POok Tryz.prog 1 67 (.sh (sh67 words)) := po67
theorem tabMo68 : POok Tryz.prog 1 68 (.sh (sh68 words)) := po68
theorem tabMo69 : POok Tryz.prog 1 69 (.sh (sh69 words)) := po69
theorem tabMo70 : POok Tryz.prog 1 70 (.sh (sh70 words)) := po70
theorem tabMo71 : POok Tryz.prog 1 71 (.sh (sh71 words)) := po71
theorem tabMo72 : POok Tryz.prog 1 72 (.sh (sh72 words)) := po72
theorem tabMo73 : POok Tryz.prog 1 73 (.sh (sh73 words)) := po73
theorem tabMo74 : POok Tryz.prog 1 74 (.sh (sh74 words)) := po74
theorem tabMo75 : POok Tryz.prog 1 75 (.sh (sh75 words)) := po75
theorem tabMo76 : POok Tryz.prog 1 76 (.sh (sh76 words)) := po76
theorem tabMo77 : POok Tryz.prog 1 77 (.sh (sh77 words)) := po77
theorem tabMo78 : POok Tryz.prog 1 78 (.sh (sh78 words)) := po78
theorem tabMo79 : POok Tryz.prog 1 79 (.sh (sh79 words)) := po79
theorem tabMo80 : POok Tryz.prog 1 80 (.sh (sh80 words)) := po80
theorem tabMo81 : POok Tryz.prog 1 81 (.sh (sh81 words)) := po81
theorem tabMo82 : POok Tryz.prog 1 82 (.sh (sh82 words)) := po82
theorem tabMo83 : POok Tryz.prog 1 83 (.sh (sh83 words)) := po83
theorem tabMo84 : POok Tryz.prog 1 84 (.sh (sh84 words)) := po84
theorem tabMo85 : POok Tryz.prog 1 85 (.sh (sh85 words)) := po85
theorem tabMo86 : POok Tryz.prog 1 86 (.sh (sh86 words)) := po86
theorem tabMo87 : POok Tryz.prog 1 87 (.sh (sh87 words)) := po87
theorem tabMo88 : POok Tryz.prog 1 88 (.sh (sh88 words)) := po88
theorem tabMo89 : POok Tryz.prog 1 89 (.sh (sh89 words)) := po89
theorem tabMo90 : POok Tryz.prog 1 90 (.sh (sh90 words)) := po90
theorem tabMo91 : POok Tryz.prog 1 91 (.sh (sh91 words)) := po91
theorem tabMo92 : POok Tryz.prog 1 92 (.sh (sh92 words)) := po92
theorem tabMo93 : POok Tryz.prog 1 93 (.sh (sh93 words)) := po93
theorem tabMo94 : POok Tryz.prog 1 94 (.sh (sh94 words)) := po94
theorem tabMo95 : POok Tryz.prog 1 95 (.sh (sh95 words)) := po95
theorem tabMo96 : POok Tryz.prog 1 96 (.sh (sh96 words)) := po96
theorem tabMo97 : POok Tryz.prog 1 97 (.sh (sh97 words)) := po97
theorem tabMo98 : POok Tryz.prog 1 98 (.sh (sh98 words)) := po98
theorem tabMo99 : POok Tryz.prog 1 99 (.sh (sh99 words)) := po99
theorem tabMo100 : POok Tryz.prog 1 100 (.sh (sh100 words)) := po100
theorem tabMo101 : POok Tryz.prog 1 101 (.sh (sh101 words)) := po101
theorem tabMo102 : POok Tryz.prog 1 102 (.sh (sh102 words)) := po102
theorem tabMo103 : POok Tryz.prog 1 103 (.sh (sh103 words)) := po103
theorem tabMo104 : POok Tryz.prog 1 104 (.sh (sh104 words)) := po104
theorem tabMo105 : POok Tryz.prog 1 105 (.sh (sh105 words)) := po105
theorem tabMo106 : POok Tryz.prog 1 106 (.sh (sh106 words)) := po106
theorem tabMo107 : POok Tryz.prog 1 107 (.sh (sh107 words)) := po107
theorem tabMo108 : POok Tryz.prog 1 108 (.sh (sh108 words)) := po108
theorem tabMo109 : POok Tryz.prog 1 109 (.sh (sh109 words)) := po109
theorem tabMo110 : POok Tryz.prog 1 110 (.sh (sh110 words)) := po110
theorem tabMo111 : POok Tryz.prog 1 111 (.sh (sh111 words)) := po111
theorem tabMo112 : POok Tryz.prog 1 112 (.sh (sh112 words)) := po112
theorem tabMo113 : POok Tryz.prog 1 113 (.sh (sh113 words)) := po113
theorem tabMo114 : POok Tryz.prog 1 114 (.sh (sh114 words)) := po114
theorem tabMo115 : POok Tryz.prog 1 115 (.sh (sh115 words)) := po115
theorem tabMo116 : POok Tryz.prog 1 116 (.sh (sh116 words)) := po116
theorem tabMo117 : POok Tryz.prog 1 117 (.sh (sh117 words)) := po117
theorem tabMo118 : POok Tryz.prog 1 118 (.sh (sh118 words)) := po118
theorem tabMo119 : POok Tryz.prog 1 119 (.sh (sh119 words)) := po119
theorem tabMo120 : POok Tryz.prog 1 120 (.sh (sh120 words)) := po120
theorem tabMo121 : POok Tryz.prog 1 121 (.sh (sh121 words)) := po121
theorem tabMo122 : POok Tryz.prog 1 122 (.sh (sh122 words)) := po122
theorem tabMo123 : POok Tryz.prog 1 123 (.sh (sh123 words)) := po123
theorem tabMo124 : POok Tryz.prog 1 124 (.sh (sh124 words)) := po124
theorem tabMo126 : POok Tryz.prog 1 126 (.sh (sh126 words)) := po126
theorem tabMo127 : POok Tryz.prog 1 127 (.sh (sh127 words)) := po127
theorem tabMo128 : POok Tryz.prog 1 128 (.sh (sh128 words)) := po128
theorem tabMo129 : POok Tryz.prog 1 129 (.sh (sh129 words)) := po129
theorem tabMo131 : POok Tryz.prog 1 131 (.sh (sh131 words)) := po131
theorem tabMo132 : POok Tryz.prog 1 132 (.sh (sh132 words)) := po132
theorem tabMOk : TabOk Tryz.prog 1 tabM := by
  refine TabOk.of tabM_eq fun x hx => ?_
  simp only [tabML, List.mem_cons, List.not_mem_nil, or_false] at hx
  rcases hx with rfl | rfl | rfl | rfl | rfl | rfl | rfl | rfl | rfl | rfl | rfl | rfl | rfl | rfl | rfl | rfl | rfl | rfl | rfl | rfl | rfl | rfl | rfl | rfl | rfl | rfl | rfl | rfl | rfl | rfl | rfl | rfl | rfl | rfl | rfl | rfl | rfl | rfl | rfl | rfl | rfl | rfl | rfl | rfl | rfl | rfl | rfl | rfl | rfl | rfl | rfl | rfl | rfl | rfl | rfl | rfl | rfl | rfl | rfl | rfl | rfl | rfl | rfl | rfl | rfl | rfl | rfl | rfl | rfl | rfl | rfl | rfl | rfl | rfl | rfl | rfl | rfl | rfl | rfl | rfl | rfl | rfl | rfl | rfl | rfl | rfl | rfl | rfl | rfl | rfl | rfl | rfl | rfl | rfl | rfl | rfl | rfl | rfl | rfl | rfl | rfl | rfl | rfl | rfl | rfl | rfl | rfl | rfl | rfl | rfl | rfl | rfl | rfl | rfl | rfl | rfl | rfl | rfl | rfl | rfl | rfl | rfl | rfl | rfl | rfl | rfl | rfl
  · exact tabMo3
  · exact tabMo4
  · exact tabMo5
  · exact tabMo6
  · exact tabMo7
  · exact tabMo8
  · exact tabMo9
  · exact tabMo10
  · exact tabMo11
  · exact tabMo12
  · exact tabMo13
  · exact tabMo15
  · exact tabMo16
  · exact tabMo17
  · exact tabMo18
  · exact tabMo19
  · exact tabMo20
  · exact tabMo21
  · exact tabMo22
  · exact tabMo23
  · exact tabMo24
  · exact tabMo25
  · exact tabMo26
  · exact tabMo27
  · exact tabMo28
  · exact tabMo29
  · exact tabMo30
  · exact tabMo31
  · exact tabMo32
  · exact tabMo33
  · exact tabMo34
  · exact tabMo35
  · exact tabMo36
  · exact tabMo37
  · exact tabMo38
  · exact tabMo39
  · exact tabMo40
  · exact tabMo41
  · exact tabMo42
  · exact tabMo43
  · exact tabMo44
  · exact tabMo45
  · exact tabMo46
  · exact tabMo47
  · exact tabMo48
  · exact tabMo49
  · exact tabMo50
  · exact tabMo51
  · exact tabMo52
  · exact tabMo53
  · exact tabMo54
  · exact tabMo55
  · exact tabMo56
  · exact tabMo57
  · exact tabMo58
  · exact tabMo59
  · exact tabMo60
  · exact tabMo61
  · exact tabMo62
  · exact tabMo63
  · exact tabMo64
  · exact tabMo65
  · exact tabMo66
  · exact tabMo67
  · exact tabMo68
  · exact tabMo69
  · exact tabMo70
  · exact tabMo71
  · exact tabMo72
  · exact tabMo73
  · exact tabMo74
  · exact tabMo75
  · exact tabMo76
  · exact tabMo77
  · exact tabMo78
  · exact tabMo79
  · exact tabMo80
  · exact tabMo81
  · exact tabMo82
  · exact tabMo83
  · exact tabMo84
  · exact tabMo85
  · exact tabMo86
  · exact tabMo87
  · exact tabMo88
  · exact tabMo89
  · exact tabMo90
  · exact tabMo91
  · exact tabMo92
  · exact tabMo93
  · exact tabMo94
  · exact tabMo95
  · exact tabMo96
  · exact tabMo97
  · exact tabMo98
  · exact tabMo99
  · exact tabMo100
  · exact tabMo101
  · exact tabMo102
  · exact tabMo103
  · exact tabMo104
  · exact tabMo105
  · exact tabMo106
  · exact tabMo107
  · exact tabMo108
  · exact tabMo109
  · exact tabMo110
  · exact tabMo111
  · exact tabMo112
  · exact tabMo113
  · exact tabMo114
  · exact tabMo115
  · exact tabMo116
  · exact tabMo117
  · exact tabMo118
  · exact tabMo119
  · exact tabMo120
  · exact tabMo121
  · exact tabMo122
  · exact tabMo123
  · exact tabMo124
  · exact tabMo126
  · exact tabMo127
  · exact tabMo128
  · exact tabMo129
  · exact tabMo131
  · exact tabMo132
theorem tabMc9 (m d : Nat) (l : List V) (h : Heap) : call tabM m (d + 1) ⟨.d0, .d0, .d0, .d9⟩ l h = orcY l h := by kernel_rfl

theorem knownR : yes (call tabM 1000000 300 ⟨.d0, .d0, .d0, .d3⟩ [] ⟨[], nx1⟩) = true := by kernel_rfl
theorem knownY : Yes0 Tryz.prog 1 3 [] := yes0 tabMOk knownR nx1g fun _ => .nil
end Go.Ev.W17
