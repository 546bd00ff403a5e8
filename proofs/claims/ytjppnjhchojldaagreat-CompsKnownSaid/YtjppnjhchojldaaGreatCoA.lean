import Derived.Test.YtjppnjhchojldaaGreatEvW17Sh1
import Derived.Test.YtjppnjhchojldaaGreatEvW17Sh2
import Derived.Test.YtjppnjhchojldaaGreatEvW17Sh3
import Derived.Test.YtjppnjhchojldaaGreatEvTop
namespace Go.Ev.W17
open Go.Proofs
set_option maxRecDepth 100000
noncomputable def tabCz1 : Go.Ev.N PO := ⟨.no, .no, .no, .no, .no, .no, .no, .no, .no, .no, .no, .no, .no, .no, .no, .no⟩
noncomputable def tabCz2 : Go.Ev.N (Go.Ev.N PO) := ⟨tabCz1, tabCz1, tabCz1, tabCz1, tabCz1, tabCz1, tabCz1, tabCz1, tabCz1, tabCz1, tabCz1, tabCz1, tabCz1, tabCz1, tabCz1, tabCz1⟩
noncomputable def tabCz3 : Go.Ev.N (Go.Ev.N (Go.Ev.N PO)) := ⟨tabCz2, tabCz2, tabCz2, tabCz2, tabCz2, tabCz2, tabCz2, tabCz2, tabCz2, tabCz2, tabCz2, tabCz2, tabCz2, tabCz2, tabCz2, tabCz2⟩
noncomputable def tabC1_000 : Go.Ev.N PO := ⟨.no, .no, .no, .sh (sh3 words), .sh (sh4 words), .sh (sh5 words), .sh (sh6 words), .sh (sh7 words), .sh (sh8 words), .sh (sh9 words), .sh (sh10 words), .sh (sh11 words), .sh (sh12 words), .sh (sh13 words), .no, .sh (sh15 words)⟩
noncomputable def tabC1_001 : Go.Ev.N PO := ⟨.sh (sh16 words), .sh (sh17 words), .sh (sh18 words), .sh (sh19 words), .sh (sh20 words), .sh (sh21 words), .sh (sh22 words), .sh (sh23 words), .sh (sh24 words), .sh (sh25 words), .sh (sh26 words), .sh (sh27 words), .sh (sh28 words), .sh (sh29 words), .sh (sh30 words), .sh (sh31 words)⟩
noncomputable def tabC1_002 : Go.Ev.N PO := ⟨.sh (sh32 words), .sh (sh33 words), .sh (sh34 words), .sh (sh35 words), .sh (sh36 words), .sh (sh37 words), .sh (sh38 words), .sh (sh39 words), .sh (sh40 words), .sh (sh41 words), .sh (sh42 words), .sh (sh43 words), .sh (sh44 words), .sh (sh45 words), .sh (sh46 words), .sh (sh47 words)⟩
noncomputable def tabC1_003 : Go.Ev.N PO := ⟨.sh (sh48 words), .sh (sh49 words), .sh (sh50 words), .sh (sh51 words), .sh (sh52 words), .sh (sh53 words), .sh (sh54 words), .sh (sh55 words), .sh (sh56 words), .sh (sh57 words), .sh (sh58 words), .sh (sh59 words), .sh (sh60 words), .sh (sh61 words), .sh (sh62 words), .sh (sh63 words)⟩
noncomputable def tabC1_004 : Go.Ev.N PO := ⟨.sh (sh64 words), .sh (sh65 words), .sh (sh66 words), .sh (sh67 words), .sh (sh68 words), .sh (sh69 words), .sh (sh70 words), .sh (sh71 words), .sh (sh72 words), .sh (sh73 words), .sh (sh74 words), .sh (sh75 words), .sh (sh76 words), .sh (sh77 words), .sh (sh78 words), .sh (sh79 words)⟩
noncomputable def tabC1_005 : Go.Ev.N PO := ⟨.sh (sh80 words), .sh (sh81 words), .sh (sh82 words), .sh (sh83 words), .sh (sh84 words), .sh (sh85 words), .sh (sh86 words), .sh (sh87 words), .sh (sh88 words), .sh (sh89 words), .sh (sh90 words), .sh (sh91 words), .sh (sh92 words), .sh (sh93 words), .sh (sh94 words), .sh (sh95 words)⟩
noncomputable def tabC1_006 : Go.Ev.N PO := ⟨.sh (sh96 words), .sh (sh97 words), .sh (sh98 words), .sh (sh99 words), .sh (sh100 words), .sh (sh101 words), .sh (sh102 words), .sh (sh103 words), .sh (sh104 words), .sh (sh105 words), .sh (sh106 words), .sh (sh107 words), .sh (sh108 words), .sh (sh109 words), .sh (sh110 words), .sh (sh111 words)⟩
noncomputable def tabC1_007 : Go.Ev.N PO := ⟨.sh (sh112 words), .sh (sh113 words), .sh (sh114 words), .sh (sh115 words), .sh (sh116 words), .sh (sh117 words), .sh (sh118 words), .sh (sh119 words), .sh (sh120 words), .sh (sh121 words), .sh (sh122 words), .sh (sh123 words), .sh (sh124 words), .no, .sh (sh126 words), .sh (sh127 words)⟩
noncomputable def tabC1_008 : Go.Ev.N PO := ⟨.sh (sh128 words), .sh (sh129 words), .no, .sh (sh131 words), .sh (sh132 words), .no, .no, .no, .no, .no, .no, .no, .no, .no, .no, .no⟩
noncomputable def tabC2_00 : Go.Ev.N (Go.Ev.N PO) := ⟨tabC1_000, tabC1_001, tabC1_002, tabC1_003, tabC1_004, tabC1_005, tabC1_006, tabC1_007, tabC1_008, tabCz1, tabCz1, tabCz1, tabCz1, tabCz1, tabCz1, tabCz1⟩
noncomputable def tabC3_0 : Go.Ev.N (Go.Ev.N (Go.Ev.N PO)) := ⟨tabC2_00, tabCz2, tabCz2, tabCz2, tabCz2, tabCz2, tabCz2, tabCz2, tabCz2, tabCz2, tabCz2, tabCz2, tabCz2, tabCz2, tabCz2, tabCz2⟩
noncomputable def tabC : FT := ⟨tabC3_0, tabCz3, tabCz3, tabCz3, tabCz3, tabCz3, tabCz3, tabCz3, tabCz3, tabCz3, tabCz3, tabCz3, tabCz3, tabCz3, tabCz3, tabCz3⟩
noncomputable def tabCL : List (Fid × PO) := [(⟨.d0, .d0, .d0, .d3⟩, .sh (sh3 words)), (⟨.d0, .d0, .d0, .d4⟩, .sh (sh4 words)), (⟨.d0, .d0, .d0, .d5⟩, .sh (sh5 words)), (⟨.d0, .d0, .d0, .d6⟩, .sh (sh6 words)), (⟨.d0, .d0, .d0, .d7⟩, .sh (sh7 words)), (⟨.d0, .d0, .d0, .d8⟩, .sh (sh8 words)), (⟨.d0, .d0, .d0, .d9⟩, .sh (sh9 words)), (⟨.d0, .d0, .d0, .da⟩, .sh (sh10 words)), (⟨.d0, .d0, .d0, .db⟩, .sh (sh11 words)), (⟨.d0, .d0, .d0, .dc⟩, .sh (sh12 words)), (⟨.d0, .d0, .d0, .dd⟩, .sh (sh13 words)), (⟨.d0, .d0, .d0, .df⟩, .sh (sh15 words)), (⟨.d0, .d0, .d1, .d0⟩, .sh (sh16 words)), (⟨.d0, .d0, .d1, .d1⟩, .sh (sh17 words)), (⟨.d0, .d0, .d1, .d2⟩, .sh (sh18 words)), (⟨.d0, .d0, .d1, .d3⟩, .sh (sh19 words)), (⟨.d0, .d0, .d1, .d4⟩, .sh (sh20 words)), (⟨.d0, .d0, .d1, .d5⟩, .sh (sh21 words)), (⟨.d0, .d0, .d1, .d6⟩, .sh (sh22 words)), (⟨.d0, .d0, .d1, .d7⟩, .sh (sh23 words)), (⟨.d0, .d0, .d1, .d8⟩, .sh (sh24 words)), (⟨.d0, .d0, .d1, .d9⟩, .sh (sh25 words)), (⟨.d0, .d0, .d1, .da⟩, .sh (sh26 words)), (⟨.d0, .d0, .d1, .db⟩, .sh (sh27 words)), (⟨.d0, .d0, .d1, .dc⟩, .sh (sh28 words)), (⟨.d0, .d0, .d1, .dd⟩, .sh (sh29 words)), (⟨.d0, .d0, .d1, .de⟩, .sh (sh30 words)), (⟨.d0, .d0, .d1, .df⟩, .sh (sh31 words)), (⟨.d0, .d0, .d2, .d0⟩, .sh (sh32 words)), (⟨.d0, .d0, .d2, .d1⟩, .sh (sh33 words)), (⟨.d0, .d0, .d2, .d2⟩, .sh (sh34 words)), (⟨.d0, .d0, .d2, .d3⟩, .sh (sh35 words)), (⟨.d0, .d0, .d2, .d4⟩, .sh (sh36 words)), (⟨.d0, .d0, .d2, .d5⟩, .sh (sh37 words)), (⟨.d0, .d0, .d2, .d6⟩, .sh (sh38 words)), (⟨.d0, .d0, .d2, .d7⟩, .sh (sh39 words)), (⟨.d0, .d0, .d2, .d8⟩, .sh (sh40 words)), (⟨.d0, .d0, .d2, .d9⟩, .sh (sh41 words)), (⟨.d0, .d0, .d2, .da⟩, .sh (sh42 words)), (⟨.d0, .d0, .d2, .db⟩, .sh (sh43 words)), (⟨.d0, .d0, .d2, .dc⟩, .sh (sh44 words)), (⟨.d0, .d0, .d2, .dd⟩, .sh (sh45 words)), (⟨.d0, .d0, .d2, .de⟩, .sh (sh46 words)), (⟨.d0, .d0, .d2, .df⟩, .sh (sh47 words)), (⟨.d0, .d0, .d3, .d0⟩, .sh (sh48 words)), (⟨.d0, .d0, .d3, .d1⟩, .sh (sh49 words)), (⟨.d0, .d0, .d3, .d2⟩, .sh (sh50 words)), (⟨.d0, .d0, .d3, .d3⟩, .sh (sh51 words)), (⟨.d0, .d0, .d3, .d4⟩, .sh (sh52 words)), (⟨.d0, .d0, .d3, .d5⟩, .sh (sh53 words)), (⟨.d0, .d0, .d3, .d6⟩, .sh (sh54 words)), (⟨.d0, .d0, .d3, .d7⟩, .sh (sh55 words)), (⟨.d0, .d0, .d3, .d8⟩, .sh (sh56 words)), (⟨.d0, .d0, .d3, .d9⟩, .sh (sh57 words)), (⟨.d0, .d0, .d3, .da⟩, .sh (sh58 words)), (⟨.d0, .d0, .d3, .db⟩, .sh (sh59 words)), (⟨.d0, .d0, .d3, .dc⟩, .sh (sh60 words)), (⟨.d0, .d0, .d3, .dd⟩, .sh (sh61 words)), (⟨.d0, .d0, .d3, .de⟩, .sh (sh62 words)), (⟨.d0, .d0, .d3, .df⟩, .sh (sh63 words)), (⟨.d0, .d0, .d4, .d0⟩, .sh (sh64 words)), (⟨.d0, .d0, .d4, .d1⟩, .sh (sh65 words)), (⟨.d0, .d0, .d4, .d2⟩, .sh (sh66 words)), (⟨.d0, .d0, .d4, .d3⟩, .sh (sh67 words)), (⟨.d0, .d0, .d4, .d4⟩, .sh (sh68 words)), (⟨.d0, .d0, .d4, .d5⟩, .sh (sh69 words)), (⟨.d0, .d0, .d4, .d6⟩, .sh (sh70 words)), (⟨.d0, .d0, .d4, .d7⟩, .sh (sh71 words)), (⟨.d0, .d0, .d4, .d8⟩, .sh (sh72 words)), (⟨.d0, .d0, .d4, .d9⟩, .sh (sh73 words)), (⟨.d0, .d0, .d4, .da⟩, .sh (sh74 words)), (⟨.d0, .d0, .d4, .db⟩, .sh (sh75 words)), (⟨.d0, .d0, .d4, .dc⟩, .sh (sh76 words)), (⟨.d0, .d0, .d4, .dd⟩, .sh (sh77 words)), (⟨.d0, .d0, .d4, .de⟩, .sh (sh78 words)), (⟨.d0, .d0, .d4, .df⟩, .sh (sh79 words)), (⟨.d0, .d0, .d5, .d0⟩, .sh (sh80 words)), (⟨.d0, .d0, .d5, .d1⟩, .sh (sh81 words)), (⟨.d0, .d0, .d5, .d2⟩, .sh (sh82 words)), (⟨.d0, .d0, .d5, .d3⟩, .sh (sh83 words)), (⟨.d0, .d0, .d5, .d4⟩, .sh (sh84 words)), (⟨.d0, .d0, .d5, .d5⟩, .sh (sh85 words)), (⟨.d0, .d0, .d5, .d6⟩, .sh (sh86 words)), (⟨.d0, .d0, .d5, .d7⟩, .sh (sh87 words)), (⟨.d0, .d0, .d5, .d8⟩, .sh (sh88 words)), (⟨.d0, .d0, .d5, .d9⟩, .sh (sh89 words)), (⟨.d0, .d0, .d5, .da⟩, .sh (sh90 words)), (⟨.d0, .d0, .d5, .db⟩, .sh (sh91 words)), (⟨.d0, .d0, .d5, .dc⟩, .sh (sh92 words)), (⟨.d0, .d0, .d5, .dd⟩, .sh (sh93 words)), (⟨.d0, .d0, .d5, .de⟩, .sh (sh94 words)), (⟨.d0, .d0, .d5, .df⟩, .sh (sh95 words)), (⟨.d0, .d0, .d6, .d0⟩, .sh (sh96 words)), (⟨.d0, .d0, .d6, .d1⟩, .sh (sh97 words)), (⟨.d0, .d0, .d6, .d2⟩, .sh (sh98 words)), (⟨.d0, .d0, .d6, .d3⟩, .sh (sh99 words)), (⟨.d0, .d0, .d6, .d4⟩, .sh (sh100 words)), (⟨.d0, .d0, .d6, .d5⟩, .sh (sh101 words)), (⟨.d0, .d0, .d6, .d6⟩, .sh (sh102 words)), (⟨.d0, .d0, .d6, .d7⟩, .sh (sh103 words)), (⟨.d0, .d0, .d6, .d8⟩, .sh (sh104 words)), (⟨.d0, .d0, .d6, .d9⟩, .sh (sh105 words)), (⟨.d0, .d0, .d6, .da⟩, .sh (sh106 words)), (⟨.d0, .d0, .d6, .db⟩, .sh (sh107 words)), (⟨.d0, .d0, .d6, .dc⟩, .sh (sh108 words)), (⟨.d0, .d0, .d6, .dd⟩, .sh (sh109 words)), (⟨.d0, .d0, .d6, .de⟩, .sh (sh110 words)), (⟨.d0, .d0, .d6, .df⟩, .sh (sh111 words)), (⟨.d0, .d0, .d7, .d0⟩, .sh (sh112 words)), (⟨.d0, .d0, .d7, .d1⟩, .sh (sh113 words)), (⟨.d0, .d0, .d7, .d2⟩, .sh (sh114 words)), (⟨.d0, .d0, .d7, .d3⟩, .sh (sh115 words)), (⟨.d0, .d0, .d7, .d4⟩, .sh (sh116 words)), (⟨.d0, .d0, .d7, .d5⟩, .sh (sh117 words)), (⟨.d0, .d0, .d7, .d6⟩, .sh (sh118 words)), (⟨.d0, .d0, .d7, .d7⟩, .sh (sh119 words)), (⟨.d0, .d0, .d7, .d8⟩, .sh (sh120 words)), (⟨.d0, .d0, .d7, .d9⟩, .sh (sh121 words)), (⟨.d0, .d0, .d7, .da⟩, .sh (sh122 words)), (⟨.d0, .d0, .d7, .db⟩, .sh (sh123 words)), (⟨.d0, .d0, .d7, .dc⟩, .sh (sh124 words)), (⟨.d0, .d0, .d7, .de⟩, .sh (sh126 words)), (⟨.d0, .d0, .d7, .df⟩, .sh (sh127 words)), (⟨.d0, .d0, .d8, .d0⟩, .sh (sh128 words)), (⟨.d0, .d0, .d8, .d1⟩, .sh (sh129 words)), (⟨.d0, .d0, .d8, .d3⟩, .sh (sh131 words)), (⟨.d0, .d0, .d8, .d4⟩, .sh (sh132 words))]
theorem tabC_eq : tabC = FT.of tabCL := by kernel_rfl
theorem tabCo3 : POok Tryz.prog 1 3 (.sh (sh3 words)) := po3
theorem tabCo4 : POok Tryz.prog 1 4 (.sh (sh4 words)) := po4
theorem tabCo5 : POok Tryz.prog 1 5 (.sh (sh5 words)) := po5
theorem tabCo6 : POok Tryz.prog 1 6 (.sh (sh6 words)) := po6
theorem tabCo7 : POok Tryz.prog 1 7 (.sh (sh7 words)) := po7
theorem tabCo8 : POok Tryz.prog 1 8 (.sh (sh8 words)) := po8
theorem tabCo9 : POok Tryz.prog 1 9 (.sh (sh9 words)) := po9
theorem tabCo10 : POok Tryz.prog 1 10 (.sh (sh10 words)) := po10
theorem tabCo11 : POok Tryz.prog 1 11 (.sh (sh11 words)) := po11
theorem tabCo12 : POok Tryz.prog 1 12 (.sh (sh12 words)) := po12
theorem tabCo13 : POok Tryz.prog 1 13 (.sh (sh13 words)) := po13
theorem tabCo15 : POok Tryz.prog 1 15 (.sh (sh15 words)) := po15
theorem tabCo16 : POok Tryz.prog 1 16 (.sh (sh16 words)) := po16
theorem tabCo17 : POok Tryz.prog 1 17 (.sh (sh17 words)) := po17
theorem tabCo18 : POok Tryz.prog 1 18 (.sh (sh18 words)) := po18
theorem tabCo19 : POok Tryz.prog 1 19 (.sh (sh19 words)) := po19
theorem tabCo20 : POok Tryz.prog 1 20 (.sh (sh20 words)) := po20
theorem tabCo21 : POok Tryz.prog 1 21 (.sh (sh21 words)) := po21
theorem tabCo22 : POok Tryz.prog 1 22 (.sh (sh22 words)) := po22
theorem tabCo23 : POok Tryz.prog 1 23 (.sh (sh23 words)) := po23
theorem tabCo24 : POok Tryz.prog 1 24 (.sh (sh24 words)) := po24
theorem tabCo25 : POok Tryz.prog 1 25 (.sh (sh25 words)) := po25
theorem tabCo26 : POok Tryz.prog 1 26 (.sh (sh26 words)) := po26
theorem tabCo27 : POok Tryz.prog 1 27 (.sh (sh27 words)) := po27
theorem tabCo28 : POok Tryz.prog 1 28 (.sh (sh28 words)) := po28
theorem tabCo29 : POok Tryz.prog 1 29 (.sh (sh29 words)) := po29
theorem tabCo30 : POok Tryz.prog 1 30 (.sh (sh30 words)) := po30
theorem tabCo31 : POok Tryz.prog 1 31 (.sh (sh31 words)) := po31
theorem tabCo32 : POok Tryz.prog 1 32 (.sh (sh32 words)) := po32
theorem tabCo33 : POok Tryz.prog 1 33 (.sh (sh33 words)) := po33
theorem tabCo34 : POok Tryz.prog 1 34 (.sh (sh34 words)) := po34
theorem tabCo35 : POok Tryz.prog 1 35 (.sh (sh35 words)) := po35
theorem tabCo36 : POok Tryz.prog 1 36 (.sh (sh36 words)) := po36
theorem tabCo37 : POok Tryz.prog 1 37 (.sh (sh37 words)) := po37
theorem tabCo38 : POok Tryz.prog 1 38 (.sh (sh38 words)) := po38
theorem tabCo39 : POok Tryz.prog 1 39 (.sh (sh39 words)) := po39
theorem tabCo40 : POok Tryz.prog 1 40 (.sh (sh40 words)) := po40
theorem tabCo41 : POok Tryz.prog 1 41 (.sh (sh41 words)) := po41
theorem tabCo42 : POok Tryz.prog 1 42 (.sh (sh42 words)) := po42
theorem tabCo43 : POok Tryz.prog 1 43 (.sh (sh43 words)) := po43
theorem tabCo44 : POok Tryz.prog 1 44 (.sh (sh44 words)) := po44
theorem tabCo45 : POok Tryz.prog 1 45 (.sh (sh45 words)) := po45
theorem tabCo46 : POok Tryz.prog 1 46 (.sh (sh46 words)) := po46
theorem tabCo47 : POok Tryz.prog 1 47 (.sh (sh47 words)) := po47
theorem tabCo48 : POok Tryz.prog 1 48 (.sh (sh48 words)) := po48
theorem tabCo49 : POok Tryz.prog 1 49 (.sh (sh49 words)) := po49
theorem tabCo50 : POok Tryz.prog 1 50 (.sh (sh50 words)) := po50
theorem tabCo51 : POok Tryz.prog 1 51 (.sh (sh51 words)) := po51
theorem tabCo52 : POok Tryz.prog 1 52 (.sh (sh52 words)) := po52
theorem tabCo53 : POok Tryz.prog 1 53 (.sh (sh53 words)) := po53
theorem tabCo54 : POok Tryz.prog 1 54 (.sh (sh54 words)) := po54
theorem tabCo55 : POok Tryz.prog 1 55 (.sh (sh55 words)) := po55
theorem tabCo56 : POok Tryz.prog 1 56 (.sh (sh56 words)) := po56
theorem tabCo57 : POok Tryz.prog 1 57 (.sh (sh57 words)) := po57
theorem tabCo58 : POok Tryz.prog 1 58 (.sh (sh58 words)) := po58
theorem tabCo59 : POok Tryz.prog 1 59 (.sh (sh59 words)) := po59
theorem tabCo60 : POok Tryz.prog 1 60 (.sh (sh60 words)) := po60
theorem tabCo61 : POok Tryz.prog 1 61 (.sh (sh61 words)) := po61
theorem tabCo62 : POok Tryz.prog 1 62 (.sh (sh62 words)) := po62
theorem tabCo63 : POok Tryz.prog 1 63 (.sh (sh63 words)) := po63
theorem tabCo64 : POok Tryz.prog 1 64 (.sh (sh64 words)) := po64
theorem tabCo65 : POok Tryz.prog 1 65 (.sh (sh65 words)) := po65
theorem tabCo66 : POok Tryz.prog 1 66 (.sh (sh66 words)) := po66
theorem tabCo67 : POok Tryz.prog 1 67 (.sh (sh67 words)) := po67
theorem tabCo68 : POok Tryz.prog 1 68 (.sh (sh68 words)) := po68
theorem tabCo69 : POok Tryz.prog 1 69 (.sh (sh69 words)) := po69
theorem tabCo70 : POok Tryz.prog 1 70 (.sh (sh70 words)) := po70
theorem tabCo71 : POok Tryz.prog 1 71 (.sh (sh71 words)) := po71
theorem tabCo72 : POok Tryz.prog 1 72 (.sh (sh72 words)) := po72
theorem tabCo73 : POok Tryz.prog 1 73 (.sh (sh73 words)) := po73
theorem tabCo74 : POok Tryz.prog 1 74 (.sh (sh74 words)) := po74
theorem tabCo75 : POok Tryz.prog 1 75 (.sh (sh75 words)) := po75
theorem tabCo76 : POok Tryz.prog 1 76 (.sh (sh76 words)) := po76
theorem tabCo77 : POok Tryz.prog 1 77 (.sh (sh77 words)) := po77
theorem tabCo78 : POok Tryz.prog 1 78 (.sh (sh78 words)) := po78
theorem tabCo79 : POok Tryz.prog 1 79 (.sh (sh79 words)) := po79
theorem tabCo80 : POok Tryz.prog 1 80 (.sh (sh80 words)) := po80
theorem tabCo81 : POok Tryz.prog 1 81 (.sh (sh81 words)) := po81
theorem tabCo82 : POok Tryz.prog 1 82 (.sh (sh82 words)) := po82
theorem tabCo83 : POok Tryz.prog 1 83 (.sh (sh83 words)) := po83
theorem tabCo84 : POok Tryz.prog 1 84 (.sh (sh84 words)) := po84
theorem tabCo85 : POok Tryz.prog 1 85 (.sh (sh85 words)) := po85
theorem tabCo86 : POok Tryz.prog 1 86 (.sh (sh86 words)) := po86
theorem tabCo87 : POok Tryz.prog 1 87 (.sh (sh87 words)) := po87
theorem tabCo88 : POok Tryz.prog 1 88 (.sh (sh88 words)) := po88
theorem tabCo89 : POok Tryz.prog 1 89 (.sh (sh89 words)) := po89
theorem tabCo90 : POok Tryz.prog 1 90 (.sh (sh90 words)) := po90
theorem tabCo91 : POok Tryz.prog 1 91 (.sh (sh91 words)) := po91
theorem tabCo92 : POok Tryz.prog 1 92 (.sh (sh92 words)) := po92
theorem tabCo93 : POok Tryz.prog 1 93 (.sh (sh93 words)) := po93
theorem tabCo94 : POok Tryz.prog 1 94 (.sh (sh94 words)) := po94
theorem tabCo95 : POok Tryz.prog 1 95 (.sh (sh95 words)) := po95
theorem tabCo96 : POok Tryz.prog 1 96 (.sh (sh96 words)) := po96
theorem tabCo97 : POok Tryz.prog 1 97 (.sh (sh97 words)) := po97
theorem tabCo98 : POok Tryz.prog 1 98 (.sh (sh98 words)) := po98
theorem tabCo99 : POok Tryz.prog 1 99 (.sh (sh99 words)) := po99
theorem tabCo100 : POok Tryz.prog 1 100 (.sh (sh100 words)) := po100
theorem tabCo101 : POok Tryz.prog 1 101 (.sh (sh101 words)) := po101
theorem tabCo102 : POok Tryz.prog 1 102 (.sh (sh102 words)) := po102
theorem tabCo103 : POok Tryz.prog 1 103 (.sh (sh103 words)) := po103
theorem tabCo104 : POok Tryz.prog 1 104 (.sh (sh104 words)) := po104
theorem tabCo105 : POok Tryz.prog 1 105 (.sh (sh105 words)) := po105
theorem tabCo106 : POok Tryz.prog 1 106 (.sh (sh106 words)) := po106
theorem tabCo107 : POok Tryz.prog 1 107 (.sh (sh107 words)) := po107
theorem tabCo108 : POok Tryz.prog 1 108 (.sh (sh108 words)) := po108
theorem tabCo109 : POok Tryz.prog 1 109 (.sh (sh109 words)) := po109
theorem tabCo110 : POok Tryz.prog 1 110 (.sh (sh110 words)) := po110
theorem tabCo111 : POok Tryz.prog 1 111 (.sh (sh111 words)) := po111
theorem tabCo112 : POok Tryz.prog 1 112 (.sh (sh112 words)) := po112
theorem tabCo113 : POok Tryz.prog 1 113 (.sh (sh113 words)) := po113
theorem tabCo114 : POok Tryz.prog 1 114 (.sh (sh114 words)) := po114
theorem tabCo115 : POok Tryz.prog 1 115 (.sh (sh115 words)) := po115
theorem tabCo116 : POok Tryz.prog 1 116 (.sh (sh116 words)) := po116
theorem tabCo117 : POok Tryz.prog 1 117 (.sh (sh117 words)) := po117
theorem tabCo118 : POok Tryz.prog 1 118 (.sh (sh118 words)) := po118
theorem tabCo119 : POok Tryz.prog 1 119 (.sh (sh119 words)) := po119
theorem tabCo120 : POok Tryz.prog 1 120 (.sh (sh120 words)) := po120
theorem tabCo121 : POok Tryz.prog 1 121 (.sh (sh121 words)) := po121
theorem tabCo122 : POok Tryz.prog 1 122 (.sh (sh122 words)) := po122
theorem tabCo123 : POok Tryz.prog 1 123 (.sh (sh123 words)) := po123
theorem tabCo124 : POok Tryz.prog 1 124 (.sh (sh124 words)) := po124
theorem tabCo126 : POok Tryz.prog 1 126 (.sh (sh126 words)) := po126
theorem tabCo127 : POok Tryz.prog 1 127 (.sh (sh127 words)) := po127
theorem tabCo128 : POok Tryz.prog 1 128 (.sh (sh128 words)) := po128
theorem tabCo129 : POok Tryz.prog 1 129 (.sh (sh129 words)) := po129
theorem tabCo131 : POok Tryz.prog 1 131 (.sh (sh131 words)) := po131
theorem tabCo132 : POok Tryz.prog 1 132 (.sh (sh132 words)) := po132
theorem tabCOk : TabOk Tryz.prog 1 tabC := by
  refine TabOk.of tabC_eq fun x hx => ?_
  simp only [tabCL, List.mem_cons, List.not_mem_nil, or_false] at hx
  rcases hx with rfl | rfl | rfl | rfl | rfl | rfl | rfl | rfl | rfl | rfl | rfl | rfl | rfl | rfl | rfl | rfl | rfl | rfl | rfl | rfl | rfl | rfl | rfl | rfl | rfl | rfl | rfl | rfl | rfl | rfl | rfl | rfl | rfl | rfl | rfl | rfl | rfl | rfl | rfl | rfl | rfl | rfl | rfl | rfl | rfl | rfl | rfl | rfl | rfl | rfl | rfl | rfl | rfl | rfl | rfl | rfl | rfl | rfl | rfl | rfl | rfl | rfl | rfl | rfl | rfl | rfl | rfl | rfl | rfl | rfl | rfl | rfl | rfl | rfl | rfl | rfl | rfl | rfl | rfl | rfl | rfl | rfl | rfl | rfl | rfl | rfl | rfl | rfl | rfl | rfl | rfl | rfl | rfl | rfl | rfl | rfl | rfl | rfl | rfl | rfl | rfl | rfl | rfl | rfl | rfl | rfl | rfl | rfl | rfl | rfl | rfl | rfl | rfl | rfl | rfl | rfl | rfl | rfl | rfl | rfl | rfl | rfl | rfl | rfl | rfl | rfl | rfl
  · exact tabCo3
  · exact tabCo4
  · exact tabCo5
  · exact tabCo6
  · exact tabCo7
  · exact tabCo8
  · exact tabCo9
  · exact tabCo10
  · exact tabCo11
  · exact tabCo12
  · exact tabCo13
  · exact tabCo15
  · exact tabCo16
  · exact tabCo17
  · exact tabCo18
  · exact tabCo19
  · exact tabCo20
  · exact tabCo21
  · exact tabCo22
  · exact tabCo23
  · exact tabCo24
  · exact tabCo25
  · exact tabCo26
  · exact tabCo27
  · exact tabCo28
  · exact tabCo29
  · exact tabCo30
  · exact tabCo31
  · exact tabCo32
  · exact tabCo33
  · exact tabCo34
  · exact tabCo35
  · exact tabCo36
  · exact tabCo37
  · exact tabCo38
  · exact tabCo39
  · exact tabCo40
  · exact tabCo41
  · exact tabCo42
  · exact tabCo43
  · exact tabCo44
  · exact tabCo45
  · exact tabCo46
  · exact tabCo47
  · exact tabCo48
  · exact tabCo49
  · exact tabCo50
  · exact tabCo51
  · exact tabCo52
  · exact tabCo53
  · exact tabCo54
  · exact tabCo55
  · exact tabCo56
  · exact tabCo57
  · exact tabCo58
  · exact tabCo59
  · exact tabCo60
  · exact tabCo61
  · exact tabCo62
  · exact tabCo63
  · exact tabCo64
  · exact tabCo65
  · exact tabCo66
  · exact tabCo67
  · exact tabCo68
  · exact tabCo69
  · exact tabCo70
  · exact tabCo71
  · exact tabCo72
  · exact tabCo73
  · exact tabCo74
  · exact tabCo75
  · exact tabCo76
  · exact tabCo77
  · exact tabCo78
  · exact tabCo79
  · exact tabCo80
  · exact tabCo81
  · exact tabCo82
  · exact tabCo83
  · exact tabCo84
  · exact tabCo85
  · exact tabCo86
  · exact tabCo87
  · exact tabCo88
  · exact tabCo89
  · exact tabCo90
  · exact tabCo91
  · exact tabCo92
  · exact tabCo93
  · exact tabCo94
  · exact tabCo95
  · exact tabCo96
  · exact tabCo97
  · exact tabCo98
  · exact tabCo99
  · exact tabCo100
  · exact tabCo101
  · exact tabCo102
  · exact tabCo103
  · exact tabCo104
  · exact tabCo105
  · exact tabCo106
  · exact tabCo107
  · exact tabCo108
  · exact tabCo109
  · exact tabCo110
  · exact tabCo111
  · exact tabCo112
  · exact tabCo113
  · exact tabCo114
  · exact tabCo115
  · exact tabCo116
  · exact tabCo117
  · exact tabCo118
  · exact tabCo119
  · exact tabCo120
  · exact tabCo121
  · exact tabCo122
  · exact tabCo123
  · exact tabCo124
  · exact tabCo126
  · exact tabCo127
  · exact tabCo128
  · exact tabCo129
  · exact tabCo131
  · exact tabCo132
end Go.Ev.W17
