import Derived.Test.YtbdohcmaighhkaaDoorEvTop
import Derived.Test.YtbdohcmaighhkaaDoorProg
import Derived.KernelRfl
namespace Go.Ev.W02
open Go.Proofs
set_option maxRecDepth 100000
def pf7 : PF := ⟨(.seq (.reg [⟨(.op (.mv (.k (.bool .false)))), (.env ⟨.d0, .d0⟩)⟩])
  (.seq (.seq (.reg [⟨(.cast (.one (.int .u32)) (.call ⟨.d0, .d0, .d0, .dd⟩ [(.k .nils)])), .push⟩,
    ⟨(.op (.binI .neq (.s (nat_lit 0)) (.k (.int .u32 (.ofNat (nat_lit 0)))))), .push⟩,
    ⟨(.guard (.s (nat_lit 0)) .false (.op (.buildS (nat_lit 1) (nat_lit 9) [(.int .u8 (.ofNat (nat_lit 0))), (.int .u8 (.ofNat (nat_lit 0))), (.int .u8 (.ofNat (nat_lit 0))), (.int .u8 (.ofNat (nat_lit 0))), (.int .u8 (.ofNat (nat_lit 0))), (.int .u8 (.ofNat (nat_lit 0))), (.int .u8 (.ofNat (nat_lit 0))), (.int .u8 (.ofNat (nat_lit 0))), (.int .u8 (.ofNat (nat_lit 0)))] [((nat_lit 0), (nat_lit 1), (.k (.int .u8 (.ofNat (nat_lit 49))))), ((nat_lit 1), (nat_lit 1), (.k (.int .u8 (.ofNat (nat_lit 50))))), ((nat_lit 2), (nat_lit 1), (.k (.int .u8 (.ofNat (nat_lit 51))))), ((nat_lit 3), (nat_lit 1), (.k (.int .u8 (.ofNat (nat_lit 52))))), ((nat_lit 4), (nat_lit 1), (.k (.int .u8 (.ofNat (nat_lit 53))))), ((nat_lit 5), (nat_lit 1), (.k (.int .u8 (.ofNat (nat_lit 54))))), ((nat_lit 6), (nat_lit 1), (.k (.int .u8 (.ofNat (nat_lit 55))))), ((nat_lit 7), (nat_lit 1), (.k (.int .u8 (.ofNat (nat_lit 56))))), ((nat_lit 8), (nat_lit 1), (.k (.int .u8 (.ofNat (nat_lit 57)))))]))), .push⟩,
    ⟨(.guard (.s (nat_lit 1)) .false (.op (.mark (.s (nat_lit 0))))), .push⟩,
    ⟨(.guard (.s (nat_lit 2)) .false (.cast (.one (.int .u32)) (.call ⟨.d0, .d0, .d0, .dd⟩ [(.s (nat_lit 0))]))), .push⟩,
    ⟨(.guard (.s (nat_lit 3)) .false (.op (.binI .neq (.s (nat_lit 0)) (.k (.int .u32 (.ofNat (nat_lit 3421780262))))))), .push⟩,
    ⟨(.cast (.one .bool) (.op (.pick (.s (nat_lit 4)) (.k (.bool .true)) (.s (nat_lit 0))))), (.env ⟨.d1, .d4⟩)⟩])
  (.cond (.e ⟨.d1, .d4⟩) (.seq (.reg [⟨(.op (.mv (.k (.bool .false)))), (.env ⟨.d0, .d0⟩)⟩])
  .ret)
  .skip))
  (.jn .true [(⟨.d0, .d0⟩, .any)] (.seq (.reg [⟨(.op (.buildS (nat_lit 1) (nat_lit 12) [(.int .i64 (.ofNat (nat_lit 0))), (.int .i64 (.ofNat (nat_lit 0))), (.int .i64 (.ofNat (nat_lit 0))), (.int .i64 (.ofNat (nat_lit 0))), (.int .i64 (.ofNat (nat_lit 0))), (.int .i64 (.ofNat (nat_lit 0))), (.int .i64 (.ofNat (nat_lit 0))), (.int .i64 (.ofNat (nat_lit 0))), (.int .i64 (.ofNat (nat_lit 0))), (.int .i64 (.ofNat (nat_lit 0))), (.int .i64 (.ofNat (nat_lit 0))), (.int .i64 (.ofNat (nat_lit 0)))] [((nat_lit 0), (nat_lit 1), (.k (.int .i64 (.ofNat (nat_lit 0))))), ((nat_lit 1), (nat_lit 1), (.k (.int .i64 (.ofNat (nat_lit 1))))), ((nat_lit 2), (nat_lit 1), (.k (.int .i64 (.ofNat (nat_lit 2))))), ((nat_lit 3), (nat_lit 1), (.k (.int .i64 (.ofNat (nat_lit 255))))), ((nat_lit 4), (nat_lit 1), (.k (.int .i64 (.ofNat (nat_lit 256))))), ((nat_lit 5), (nat_lit 1), (.k (.int .i64 (.ofNat (nat_lit 257))))), ((nat_lit 6), (nat_lit 1), (.k (.int .i64 (.ofNat (nat_lit 503))))), ((nat_lit 7), (nat_lit 1), (.k (.int .i64 (.ofNat (nat_lit 504))))), ((nat_lit 8), (nat_lit 1), (.k (.int .i64 (.ofNat (nat_lit 505))))), ((nat_lit 9), (nat_lit 1), (.k (.int .i64 (.ofNat (nat_lit 511))))), ((nat_lit 10), (nat_lit 1), (.k (.int .i64 (.ofNat (nat_lit 512))))), ((nat_lit 11), (nat_lit 1), (.k (.int .i64 (.ofNat (nat_lit 513)))))])), (.env ⟨.d1, .d5⟩)⟩,
    ⟨(.cast (.one (.int .i64)) (.op (.len (.e ⟨.d1, .d5⟩)))), (.env ⟨.d1, .d6⟩)⟩,
    ⟨(.op (.mv (.k (.int .i64 (.ofNat (nat_lit 0)))))), (.env ⟨.d1, .d7⟩)⟩])
  (.block (nat_lit 0) (.lpv [(⟨.d1, .d5⟩, .any), (⟨.d1, .d6⟩, (.intF .i64)), (⟨.d1, .d7⟩, (.intF .i64))] (.seq (.reg [⟨(.op (.binI .lss (.e ⟨.d1, .d7⟩) (.e ⟨.d1, .d6⟩))), (.env ⟨.d1, .d8⟩)⟩])
  (.seq (.cond (.e ⟨.d1, .d8⟩) .skip
  (.exit (nat_lit 0)))
  (.seq (.block (nat_lit 1) (.seq (.reg [⟨(.op (.iaddr (nat_lit 1) (.e ⟨.d1, .d5⟩) (.e ⟨.d1, .d7⟩))), .push⟩,
    ⟨(.cast (.one (.int .i64)) (.op (.load1 (.s (nat_lit 0))))), .push⟩,
    ⟨(.op (.mv (.s (nat_lit 0)))), (.env ⟨.d0, .d2⟩)⟩])
  (.seq (.reg [⟨(.op (.mkS (nat_lit 1) [(.int .u8 (.ofNat (nat_lit 0)))] (.e ⟨.d0, .d2⟩) (.e ⟨.d0, .d2⟩))), .push⟩,
    ⟨(.op (.mv (.s (nat_lit 0)))), (.env ⟨.d0, .d3⟩)⟩])
  (.jn .false [(⟨.d0, .d2⟩, (.int .i64)), (⟨.d0, .d3⟩, .any), (⟨.d1, .d5⟩, .any), (⟨.d1, .d6⟩, (.int .i64)), (⟨.d1, .d7⟩, (.int .i64))] (.seq (.reg [⟨(.op (.mv (.k (.int .i64 (.ofNat (nat_lit 0)))))), (.env ⟨.d0, .d4⟩)⟩])
  (.block (nat_lit 2) (.lpv [(⟨.d0, .d2⟩, (.intF .i64)), (⟨.d0, .d3⟩, .any), (⟨.d0, .d4⟩, (.intF .i64)), (⟨.d1, .d5⟩, .any), (⟨.d1, .d6⟩, (.intF .i64)), (⟨.d1, .d7⟩, (.intF .i64))] (.seq (.seq (.reg [⟨(.op (.binI .lss (.e ⟨.d0, .d4⟩) (.e ⟨.d0, .d2⟩))), (.env ⟨.d1, .df⟩)⟩])
  (.cond (.e ⟨.d1, .df⟩) .skip
  (.exit (nat_lit 2))))
  (.seq (.block (nat_lit 3) (.reg [⟨(.cast (.one (.int .u8)) (.op (.convI .u8 (.e ⟨.d0, .d4⟩)))), .push⟩,
    ⟨(.op (.iaddr (nat_lit 1) (.e ⟨.d0, .d3⟩) (.e ⟨.d0, .d4⟩))), .push⟩,
    ⟨(.op (.store1 (.s (nat_lit 0)) (.s (nat_lit 1)))), .no⟩]))
  (.reg [⟨(.op (.mv (.e ⟨.d0, .d4⟩))), .push⟩,
    ⟨(.op (.binI .add (.s (nat_lit 0)) (.k (.int .i64 (.ofNat (nat_lit 1)))))), .push⟩,
    ⟨(.op (.mv (.s (nat_lit 0)))), (.env ⟨.d0, .d4⟩)⟩]))))))
  (.seq (.reg [⟨(.cast (.one (.int .u8)) (.op (.convI .u8 (.e ⟨.d0, .d2⟩)))), .push⟩,
    ⟨(.cast (.one .bool) (.call ⟨.d0, .d0, .d0, .d3⟩ [(.s (nat_lit 0)), (.e ⟨.d0, .d3⟩)])), .push⟩,
    ⟨(.op (.not (.s (nat_lit 0)))), .push⟩,
    ⟨(.guard (.s (nat_lit 0)) .false (.op (.mv (.e ⟨.d0, .d3⟩)))), .push⟩,
    ⟨(.guard (.s (nat_lit 1)) .false (.cast (.one .bool) (.call ⟨.d0, .d0, .d0, .d4⟩ [(.s (nat_lit 0))]))), .push⟩,
    ⟨(.guard (.s (nat_lit 2)) .false (.op (.not (.s (nat_lit 0))))), .push⟩,
    ⟨(.cast (.one .bool) (.op (.pick (.s (nat_lit 3)) (.k (.bool .true)) (.s (nat_lit 0))))), .push⟩,
    ⟨(.guard (.s (nat_lit 0)) .false (.op (.mv (.e ⟨.d0, .d3⟩)))), .push⟩,
    ⟨(.guard (.s (nat_lit 1)) .false (.cast (.one .bool) (.call ⟨.d0, .d0, .d0, .d5⟩ [(.k (.int .u8 (.ofNat (nat_lit 7)))), (.s (nat_lit 0))]))), .push⟩,
    ⟨(.guard (.s (nat_lit 2)) .false (.op (.not (.s (nat_lit 0))))), .push⟩,
    ⟨(.cast (.one .bool) (.op (.pick (.s (nat_lit 3)) (.k (.bool .true)) (.s (nat_lit 0))))), .push⟩,
    ⟨(.guard (.s (nat_lit 0)) .false (.op (.mv (.e ⟨.d0, .d2⟩)))), .push⟩,
    ⟨(.guard (.s (nat_lit 1)) .false (.op (.mkS (nat_lit 1) [(.int .u8 (.ofNat (nat_lit 0)))] (.s (nat_lit 0)) (.s (nat_lit 0))))), .push⟩,
    ⟨(.guard (.s (nat_lit 2)) .false (.cast (.one .bool) (.call ⟨.d0, .d0, .d0, .d4⟩ [(.s (nat_lit 0))]))), .push⟩,
    ⟨(.guard (.s (nat_lit 3)) .false (.op (.not (.s (nat_lit 0))))), .push⟩,
    ⟨(.cast (.one .bool) (.op (.pick (.s (nat_lit 4)) (.k (.bool .true)) (.s (nat_lit 0))))), .push⟩,
    ⟨(.guard (.s (nat_lit 0)) .false (.op (.mv (.e ⟨.d0, .d3⟩)))), .push⟩,
    ⟨(.guard (.s (nat_lit 1)) .false (.op (.mv (.e ⟨.d0, .d2⟩)))), .push⟩,
    ⟨(.guard (.s (nat_lit 2)) .false (.cast (.one .bool) (.call ⟨.d0, .d0, .d0, .d6⟩ [(.k (.int .u8 (.ofNat (nat_lit 1)))), (.s (nat_lit 1)), (.s (nat_lit 0)), (.k (.int .u32 (.ofNat (nat_lit 1))))]))), .push⟩,
    ⟨(.guard (.s (nat_lit 3)) .false (.op (.not (.s (nat_lit 0))))), .push⟩,
    ⟨(.cast (.one .bool) (.op (.pick (.s (nat_lit 4)) (.k (.bool .true)) (.s (nat_lit 0))))), .push⟩,
    ⟨(.guard (.s (nat_lit 0)) .false (.op (.mv (.e ⟨.d0, .d3⟩)))), .push⟩,
    ⟨(.guard (.s (nat_lit 1)) .false (.cast (.one .bool) (.call ⟨.d0, .d0, .d0, .d6⟩ [(.k (.int .u8 (.ofNat (nat_lit 1)))), (.s (nat_lit 0)), (.k (.int .i64 (.ofNat (nat_lit 0)))), (.k (.int .u32 (.ofNat (nat_lit 2147483648))))]))), .push⟩,
    ⟨(.guard (.s (nat_lit 2)) .false (.op (.not (.s (nat_lit 0))))), .push⟩,
    ⟨(.cast (.one .bool) (.op (.pick (.s (nat_lit 3)) (.k (.bool .true)) (.s (nat_lit 0))))), (.env ⟨.d4, .d6⟩)⟩])
  (.cond (.e ⟨.d4, .d6⟩) (.seq (.reg [⟨(.op (.mv (.k (.bool .false)))), (.env ⟨.d0, .d0⟩)⟩])
  .ret)
  .skip))))))
  (.reg [⟨(.op (.binI .add (.e ⟨.d1, .d7⟩) (.k (.int .i64 (.ofNat (nat_lit 1)))))), .push⟩,
    ⟨(.op (.mv (.s (nat_lit 0)))), (.env ⟨.d1, .d7⟩)⟩])))))))
  (.seq (.seq (.reg [⟨(.op (.buildS (nat_lit 1) (nat_lit 8) [(.int .i64 (.ofNat (nat_lit 0))), (.int .i64 (.ofNat (nat_lit 0))), (.int .i64 (.ofNat (nat_lit 0))), (.int .i64 (.ofNat (nat_lit 0))), (.int .i64 (.ofNat (nat_lit 0))), (.int .i64 (.ofNat (nat_lit 0))), (.int .i64 (.ofNat (nat_lit 0))), (.int .i64 (.ofNat (nat_lit 0)))] [((nat_lit 0), (nat_lit 1), (.k (.int .i64 (.ofNat (nat_lit 4))))), ((nat_lit 1), (nat_lit 1), (.k (.int .i64 (.ofNat (nat_lit 5))))), ((nat_lit 2), (nat_lit 1), (.k (.int .i64 (.ofNat (nat_lit 6))))), ((nat_lit 3), (nat_lit 1), (.k (.int .i64 (.ofNat (nat_lit 7))))), ((nat_lit 4), (nat_lit 1), (.k (.int .i64 (.ofNat (nat_lit 8))))), ((nat_lit 5), (nat_lit 1), (.k (.int .i64 (.ofNat (nat_lit 9))))), ((nat_lit 6), (nat_lit 1), (.k (.int .i64 (.ofNat (nat_lit 300))))), ((nat_lit 7), (nat_lit 1), (.k (.int .i64 (.ofNat (nat_lit 511)))))])), (.env ⟨.d4, .d8⟩)⟩,
    ⟨(.cast (.one (.int .i64)) (.op (.len (.e ⟨.d4, .d8⟩)))), (.env ⟨.d4, .d9⟩)⟩,
    ⟨(.op (.mv (.k (.int .i64 (.ofNat (nat_lit 0)))))), (.env ⟨.d4, .da⟩)⟩])
  (.block (nat_lit 4) (.lpv [(⟨.d4, .d8⟩, .any), (⟨.d4, .d9⟩, (.intF .i64)), (⟨.d4, .da⟩, (.intF .i64))] (.seq (.reg [⟨(.op (.binI .lss (.e ⟨.d4, .da⟩) (.e ⟨.d4, .d9⟩))), (.env ⟨.d4, .db⟩)⟩])
  (.seq (.cond (.e ⟨.d4, .db⟩) .skip
  (.exit (nat_lit 4)))
  (.seq (.block (nat_lit 5) (.seq (.reg [⟨(.op (.iaddr (nat_lit 1) (.e ⟨.d4, .d8⟩) (.e ⟨.d4, .da⟩))), .push⟩,
    ⟨(.cast (.one (.int .i64)) (.op (.load1 (.s (nat_lit 0))))), .push⟩,
    ⟨(.op (.mv (.s (nat_lit 0)))), (.env ⟨.d0, .d6⟩)⟩])
  (.seq (.reg [⟨(.op (.buildS (nat_lit 1) (nat_lit 5) [(.int .u8 (.ofNat (nat_lit 0))), (.int .u8 (.ofNat (nat_lit 0))), (.int .u8 (.ofNat (nat_lit 0))), (.int .u8 (.ofNat (nat_lit 0))), (.int .u8 (.ofNat (nat_lit 0)))] [((nat_lit 0), (nat_lit 1), (.k (.int .u8 (.ofNat (nat_lit 0))))), ((nat_lit 1), (nat_lit 1), (.k (.int .u8 (.ofNat (nat_lit 1))))), ((nat_lit 2), (nat_lit 1), (.k (.int .u8 (.ofNat (nat_lit 2))))), ((nat_lit 3), (nat_lit 1), (.k (.int .u8 (.ofNat (nat_lit 156))))), ((nat_lit 4), (nat_lit 1), (.k (.int .u8 (.ofNat (nat_lit 255)))))])), (.env ⟨.d4, .de⟩)⟩,
    ⟨(.cast (.one (.int .i64)) (.op (.len (.e ⟨.d4, .de⟩)))), (.env ⟨.d4, .df⟩)⟩,
    ⟨(.op (.mv (.k (.int .i64 (.ofNat (nat_lit 0)))))), (.env ⟨.d5, .d0⟩)⟩])
  (.block (nat_lit 6) (.lpv [(⟨.d0, .d6⟩, (.intF .i64)), (⟨.d4, .d8⟩, .any), (⟨.d4, .d9⟩, (.intF .i64)), (⟨.d4, .da⟩, (.intF .i64)), (⟨.d4, .de⟩, .any), (⟨.d4, .df⟩, (.intF .i64)), (⟨.d5, .d0⟩, (.intF .i64))] (.seq (.reg [⟨(.op (.binI .lss (.e ⟨.d5, .d0⟩) (.e ⟨.d4, .df⟩))), (.env ⟨.d5, .d1⟩)⟩])
  (.seq (.cond (.e ⟨.d5, .d1⟩) .skip
  (.exit (nat_lit 6)))
  (.seq (.block (nat_lit 7) (.seq (.reg [⟨(.op (.iaddr (nat_lit 1) (.e ⟨.d4, .de⟩) (.e ⟨.d5, .d0⟩))), .push⟩,
    ⟨(.cast (.one (.int .u8)) (.op (.load1 (.s (nat_lit 0))))), .push⟩,
    ⟨(.op (.mv (.s (nat_lit 0)))), (.env ⟨.d0, .d8⟩)⟩])
  (.seq (.reg [⟨(.op (.buildS (nat_lit 1) (nat_lit 3) [(.int .u8 (.ofNat (nat_lit 0))), (.int .u8 (.ofNat (nat_lit 0))), (.int .u8 (.ofNat (nat_lit 0)))] [((nat_lit 0), (nat_lit 1), (.k (.int .u8 (.ofNat (nat_lit 1))))), ((nat_lit 1), (nat_lit 1), (.k (.int .u8 (.ofNat (nat_lit 2))))), ((nat_lit 2), (nat_lit 1), (.k (.int .u8 (.ofNat (nat_lit 3)))))])), .push⟩,
    ⟨(.cast (.tup [.any, (.int .i64)]) (.call ⟨.d0, .d0, .d0, .d9⟩ [(.k (.int .u8 (.ofNat (nat_lit 3)))), (.s (nat_lit 0))])), .push⟩,
    ⟨(.op (.extract (nat_lit 0) (.s (nat_lit 0)))), .push⟩,
    ⟨(.cast (.one (.int .i64)) (.op (.extract (nat_lit 1) (.s (nat_lit 1))))), .push⟩,
    ⟨(.op (.mv (.s (nat_lit 1)))), (.env ⟨.d0, .d9⟩)⟩])
  (.seq (.reg [⟨(.op (.iaddr (nat_lit 1) (.e ⟨.d0, .d9⟩) (.e ⟨.d0, .d6⟩))), .push⟩,
    ⟨(.op (.store1 (.s (nat_lit 0)) (.e ⟨.d0, .d8⟩))), .no⟩])
  (.seq (.reg [⟨(.op (.sli (nat_lit 1) (.e ⟨.d0, .d9⟩) (.some (.k (.int .i64 (.ofNat (nat_lit 4))))) .none .none)), .push⟩,
    ⟨(.cast (.one (.int .u32)) (.call ⟨.d0, .d0, .d0, .de⟩ [(.s (nat_lit 0))])), .push⟩,
    ⟨(.op (.mv (.s (nat_lit 0)))), (.env ⟨.d0, .db⟩)⟩])
  (.jn .false [(⟨.d0, .d6⟩, (.int .i64)), (⟨.d0, .d9⟩, .any), (⟨.d4, .d8⟩, .any), (⟨.d4, .d9⟩, (.int .i64)), (⟨.d4, .da⟩, (.int .i64)), (⟨.d4, .de⟩, .any), (⟨.d4, .df⟩, (.int .i64)), (⟨.d5, .d0⟩, (.int .i64))] (.seq (.reg [⟨(.op (.mv (.k (.int .i64 (.ofNat (nat_lit 0)))))), (.env ⟨.d0, .dc⟩)⟩])
  (.block (nat_lit 8) (.lpv [(⟨.d0, .d6⟩, (.intF .i64)), (⟨.d0, .d9⟩, .any), (⟨.d0, .db⟩, (.intF .u32)), (⟨.d0, .dc⟩, (.intF .i64)), (⟨.d4, .d8⟩, .any), (⟨.d4, .d9⟩, (.intF .i64)), (⟨.d4, .da⟩, (.intF .i64)), (⟨.d4, .de⟩, .any), (⟨.d4, .df⟩, (.intF .i64)), (⟨.d5, .d0⟩, (.intF .i64))] (.seq (.seq (.reg [⟨(.op (.binI .lss (.e ⟨.d0, .dc⟩) (.k (.int .i64 (.ofNat (nat_lit 4)))))), (.env ⟨.d6, .d1⟩)⟩])
  (.cond (.e ⟨.d6, .d1⟩) .skip
  (.exit (nat_lit 8))))
  (.seq (.block (nat_lit 9) (.reg [⟨(.op (.binI .mul (.k (.int .i64 (.ofNat (nat_lit 8)))) (.e ⟨.d0, .dc⟩))), .push⟩,
    ⟨(.op (.binI .shr (.e ⟨.d0, .db⟩) (.s (nat_lit 0)))), .push⟩,
    ⟨(.cast (.one (.int .u8)) (.op (.convI .u8 (.s (nat_lit 0))))), .push⟩,
    ⟨(.op (.iaddr (nat_lit 1) (.e ⟨.d0, .d9⟩) (.e ⟨.d0, .dc⟩))), .push⟩,
    ⟨(.op (.store1 (.s (nat_lit 0)) (.s (nat_lit 1)))), .no⟩]))
  (.reg [⟨(.op (.mv (.e ⟨.d0, .dc⟩))), .push⟩,
    ⟨(.op (.binI .add (.s (nat_lit 0)) (.k (.int .i64 (.ofNat (nat_lit 1)))))), .push⟩,
    ⟨(.op (.mv (.s (nat_lit 0)))), (.env ⟨.d0, .dc⟩)⟩]))))))
  (.seq (.reg [⟨(.cast (.one .bool) (.call ⟨.d0, .d0, .d0, .d4⟩ [(.e ⟨.d0, .d9⟩)])), .push⟩,
    ⟨(.op (.not (.s (nat_lit 0)))), (.env ⟨.d6, .de⟩)⟩])
  (.cond (.e ⟨.d6, .de⟩) (.seq (.reg [⟨(.op (.mv (.k (.bool .false)))), (.env ⟨.d0, .d0⟩)⟩])
  .ret)
  .skip))))))))
  (.reg [⟨(.op (.binI .add (.e ⟨.d5, .d0⟩) (.k (.int .i64 (.ofNat (nat_lit 1)))))), .push⟩,
    ⟨(.op (.mv (.s (nat_lit 0)))), (.env ⟨.d5, .d0⟩)⟩])))))))))
  (.reg [⟨(.op (.binI .add (.e ⟨.d4, .da⟩) (.k (.int .i64 (.ofNat (nat_lit 1)))))), .push⟩,
    ⟨(.op (.mv (.s (nat_lit 0)))), (.env ⟨.d4, .da⟩)⟩])))))))
  (.seq (.reg [⟨(.cast (.one .bool) (.call ⟨.d0, .d0, .d0, .da⟩ [])), .push⟩,
    ⟨(.op (.mv (.s (nat_lit 0)))), (.env ⟨.d0, .d0⟩)⟩])
  .ret))))),
  [], [.tmp ⟨.d0, .d0⟩]⟩
theorem pf7_ok : prep Tryd.prog 1 ⟨19470954758575087165895550472020992, 114⟩ 7 = some pf7.strip := by kernel_rfl
def pf10 : PF := ⟨(.seq (.reg [⟨(.op (.mv (.k (.bool .false)))), (.env ⟨.d0, .d0⟩)⟩])
  (.seq (.reg [⟨(.op (.buildS (nat_lit 1) (nat_lit 1) [(.int .u8 (.ofNat (nat_lit 0)))] [((nat_lit 0), (nat_lit 1), (.k (.int .u8 (.ofNat (nat_lit 9)))))])), .push⟩,
    ⟨(.cast (.tup [.any, (.int .i64)]) (.call ⟨.d0, .d0, .d0, .d8⟩ [(.k (.int .u8 (.ofNat (nat_lit 7)))), (.s (nat_lit 0))])), .push⟩,
    ⟨(.op (.extract (nat_lit 0) (.s (nat_lit 0)))), .push⟩,
    ⟨(.cast (.one (.int .i64)) (.op (.extract (nat_lit 1) (.s (nat_lit 1))))), .push⟩,
    ⟨(.op (.mv (.s (nat_lit 1)))), (.env ⟨.d0, .d1⟩)⟩,
    ⟨(.op (.mv (.s (nat_lit 0)))), (.env ⟨.d0, .d2⟩)⟩])
  (.seq (.reg [⟨(.cast (.tup [(.int .u8), .any, (.int .i64)]) (.call ⟨.d0, .d0, .d0, .db⟩ [(.e ⟨.d0, .d1⟩)])), .push⟩,
    ⟨(.cast (.one (.int .u8)) (.op (.extract (nat_lit 0) (.s (nat_lit 0))))), .push⟩,
    ⟨(.op (.extract (nat_lit 1) (.s (nat_lit 1)))), .push⟩,
    ⟨(.cast (.one (.int .i64)) (.op (.extract (nat_lit 2) (.s (nat_lit 2))))), .push⟩,
    ⟨(.op (.mv (.s (nat_lit 2)))), (.env ⟨.d0, .d3⟩)⟩,
    ⟨(.op (.mv (.s (nat_lit 1)))), (.env ⟨.d0, .d4⟩)⟩,
    ⟨(.op (.mv (.s (nat_lit 0)))), (.env ⟨.d0, .d5⟩)⟩])
  (.seq (.reg [⟨(.op (.mkS (nat_lit 1) [(.int .u8 (.ofNat (nat_lit 0)))] (.k (.int .i64 (.ofNat (nat_lit 512)))) (.k (.int .i64 (.ofNat (nat_lit 512)))))), .push⟩,
    ⟨(.cast (.tup [(.int .u8), .any, (.int .i64)]) (.call ⟨.d0, .d0, .d0, .db⟩ [(.s (nat_lit 0))])), .push⟩,
    ⟨(.cast (.one (.int .u8)) (.op (.extract (nat_lit 0) (.s (nat_lit 0))))), .push⟩,
    ⟨(.op (.extract (nat_lit 1) (.s (nat_lit 1)))), .push⟩,
    ⟨(.cast (.one (.int .i64)) (.op (.extract (nat_lit 2) (.s (nat_lit 2))))), .push⟩,
    ⟨(.op (.mv (.s (nat_lit 0)))), (.env ⟨.d0, .d8⟩)⟩])
  (.seq (.reg [⟨(.op (.binI .eql (.e ⟨.d0, .d2⟩) (.k (.int .i64 (.ofNat (nat_lit 0)))))), .push⟩,
    ⟨(.guard (.s (nat_lit 0)) .true (.op (.mv (.e ⟨.d0, .d5⟩)))), .push⟩,
    ⟨(.guard (.s (nat_lit 1)) .true (.op (.binI .eql (.s (nat_lit 0)) (.k (.int .i64 (.ofNat (nat_lit 0))))))), .push⟩,
    ⟨(.cast (.one .bool) (.op (.pick (.s (nat_lit 2)) (.s (nat_lit 0)) (.k (.bool .false))))), .push⟩,
    ⟨(.guard (.s (nat_lit 0)) .true (.op (.mv (.e ⟨.d0, .d8⟩)))), .push⟩,
    ⟨(.guard (.s (nat_lit 1)) .true (.op (.binI .eql (.s (nat_lit 0)) (.k (.int .i64 (.ofNat (nat_lit 20))))))), .push⟩,
    ⟨(.cast (.one .bool) (.op (.pick (.s (nat_lit 2)) (.s (nat_lit 0)) (.k (.bool .false))))), .push⟩,
    ⟨(.guard (.s (nat_lit 0)) .true (.op (.mv (.e ⟨.d0, .d3⟩)))), .push⟩,
    ⟨(.guard (.s (nat_lit 1)) .true (.op (.binI .eql (.s (nat_lit 0)) (.k (.int .u8 (.ofNat (nat_lit 7))))))), .push⟩,
    ⟨(.cast (.one .bool) (.op (.pick (.s (nat_lit 2)) (.s (nat_lit 0)) (.k (.bool .false))))), .push⟩,
    ⟨(.guard (.s (nat_lit 0)) .true (.op (.mv (.e ⟨.d0, .d4⟩)))), .push⟩,
    ⟨(.guard (.s (nat_lit 1)) .true (.cast (.one (.int .i64)) (.op (.len (.s (nat_lit 0)))))), .push⟩,
    ⟨(.guard (.s (nat_lit 2)) .true (.op (.binI .eql (.s (nat_lit 0)) (.k (.int .i64 (.ofNat (nat_lit 1))))))), .push⟩,
    ⟨(.cast (.one .bool) (.op (.pick (.s (nat_lit 3)) (.s (nat_lit 0)) (.k (.bool .false))))), .push⟩,
    ⟨(.guard (.s (nat_lit 0)) .true (.op (.mv (.e ⟨.d0, .d4⟩)))), .push⟩,
    ⟨(.guard (.s (nat_lit 1)) .true (.op (.iaddr (nat_lit 1) (.s (nat_lit 0)) (.k (.int .i64 (.ofNat (nat_lit 0))))))), .push⟩,
    ⟨(.guard (.s (nat_lit 2)) .true (.cast (.one (.int .u8)) (.op (.load1 (.s (nat_lit 0)))))), .push⟩,
    ⟨(.guard (.s (nat_lit 3)) .true (.op (.binI .eql (.s (nat_lit 0)) (.k (.int .u8 (.ofNat (nat_lit 9))))))), .push⟩,
    ⟨(.cast (.one .bool) (.op (.pick (.s (nat_lit 4)) (.s (nat_lit 0)) (.k (.bool .false))))), .push⟩,
    ⟨(.guard (.s (nat_lit 0)) .true (.op (.buildS (nat_lit 1) (nat_lit 1) [(.int .u8 (.ofNat (nat_lit 0)))] [((nat_lit 0), (nat_lit 1), (.k (.int .u8 (.ofNat (nat_lit 1)))))]))), .push⟩,
    ⟨(.guard (.s (nat_lit 1)) .true (.cast (.one (.int .u32)) (.call ⟨.d0, .d0, .d0, .dd⟩ [(.s (nat_lit 0))]))), .push⟩,
    ⟨(.guard (.s (nat_lit 2)) .true (.op (.binI .eql (.s (nat_lit 0)) (.k (.int .u32 (.ofNat (nat_lit 2768625435))))))), .push⟩,
    ⟨(.cast (.one .bool) (.op (.pick (.s (nat_lit 3)) (.s (nat_lit 0)) (.k (.bool .false))))), .push⟩,
    ⟨(.op (.mv (.s (nat_lit 0)))), (.env ⟨.d0, .d0⟩)⟩])
  .ret))))),
  [], [.tmp ⟨.d0, .d0⟩]⟩
theorem pf10_ok : prep Tryd.prog 1 ⟨72057594037927616, 56⟩ 10 = some pf10.strip := by kernel_rfl
def pf13 : PF := ⟨(.seq (.reg [⟨(.op (.mv (.k (.int .u32 (.ofNat (nat_lit 0)))))), (.env ⟨.d0, .d2⟩)⟩])
  (.seq (.reg [⟨(.op (.mv (.k (.int .u32 (.ofNat (nat_lit 4294967295)))))), (.env ⟨.d0, .d3⟩)⟩])
  (.seq (.seq (.reg [⟨(.op (.mv (.e ⟨.d0, .d0⟩))), (.env ⟨.d0, .d6⟩)⟩,
    ⟨(.cast (.one (.int .i64)) (.op (.len (.e ⟨.d0, .d6⟩)))), (.env ⟨.d0, .d7⟩)⟩,
    ⟨(.op (.mv (.k (.int .i64 (.ofNat (nat_lit 0)))))), (.env ⟨.d0, .d8⟩)⟩])
  (.block (nat_lit 0) (.lpv [(⟨.d0, .d3⟩, (.intF .u32)), (⟨.d0, .d6⟩, .any), (⟨.d0, .d7⟩, (.intF .i64)), (⟨.d0, .d8⟩, (.intF .i64))] (.seq (.reg [⟨(.op (.binI .lss (.e ⟨.d0, .d8⟩) (.e ⟨.d0, .d7⟩))), (.env ⟨.d0, .d9⟩)⟩])
  (.seq (.cond (.e ⟨.d0, .d9⟩) .skip
  (.exit (nat_lit 0)))
  (.seq (.block (nat_lit 1) (.seq (.reg [⟨(.op (.iaddr (nat_lit 1) (.e ⟨.d0, .d6⟩) (.e ⟨.d0, .d8⟩))), .push⟩,
    ⟨(.cast (.one (.int .u8)) (.op (.load1 (.s (nat_lit 0))))), .push⟩,
    ⟨(.op (.mv (.s (nat_lit 0)))), (.env ⟨.d0, .d5⟩)⟩])
  (.seq (.reg [⟨(.op (.mv (.e ⟨.d0, .d3⟩))), .push⟩,
    ⟨(.cast (.one (.int .u32)) (.op (.convI .u32 (.e ⟨.d0, .d5⟩)))), .push⟩,
    ⟨(.op (.binI .xor (.s (nat_lit 1)) (.s (nat_lit 0)))), .push⟩,
    ⟨(.op (.mv (.s (nat_lit 0)))), (.env ⟨.d0, .d3⟩)⟩])
  (.seq (.reg [⟨(.op (.mv (.e ⟨.d0, .d3⟩))), .push⟩,
    ⟨(.op (.binI .shr (.s (nat_lit 0)) (.k (.int .u64 (.ofNat (nat_lit 4)))))), .push⟩,
    ⟨(.op (.mv (.e ⟨.d0, .d3⟩))), .push⟩,
    ⟨(.op (.binI .and (.s (nat_lit 0)) (.k (.int .u32 (.ofNat (nat_lit 15)))))), .push⟩,
    ⟨(.op (.iaddrA (nat_lit 16) (nat_lit 1) (.k (.ptr ⟨(nat_lit 0), .d0, .d0, .d0, .d0⟩ (nat_lit 0))) (.s (nat_lit 0)))), .push⟩,
    ⟨(.cast (.one (.int .u32)) (.op (.load1 (.s (nat_lit 0))))), .push⟩,
    ⟨(.op (.binI .xor (.s (nat_lit 4)) (.s (nat_lit 0)))), .push⟩,
    ⟨(.op (.mv (.s (nat_lit 0)))), (.env ⟨.d0, .d3⟩)⟩])
  (.reg [⟨(.op (.mv (.e ⟨.d0, .d3⟩))), .push⟩,
    ⟨(.op (.binI .shr (.s (nat_lit 0)) (.k (.int .u64 (.ofNat (nat_lit 4)))))), .push⟩,
    ⟨(.op (.mv (.e ⟨.d0, .d3⟩))), .push⟩,
    ⟨(.op (.binI .and (.s (nat_lit 0)) (.k (.int .u32 (.ofNat (nat_lit 15)))))), .push⟩,
    ⟨(.op (.iaddrA (nat_lit 16) (nat_lit 1) (.k (.ptr ⟨(nat_lit 0), .d0, .d0, .d0, .d0⟩ (nat_lit 0))) (.s (nat_lit 0)))), .push⟩,
    ⟨(.cast (.one (.int .u32)) (.op (.load1 (.s (nat_lit 0))))), .push⟩,
    ⟨(.op (.binI .xor (.s (nat_lit 4)) (.s (nat_lit 0)))), .push⟩,
    ⟨(.op (.mv (.s (nat_lit 0)))), (.env ⟨.d0, .d3⟩)⟩])))))
  (.reg [⟨(.op (.binI .add (.e ⟨.d0, .d8⟩) (.k (.int .i64 (.ofNat (nat_lit 1)))))), .push⟩,
    ⟨(.op (.mv (.s (nat_lit 0)))), (.env ⟨.d0, .d8⟩)⟩])))))))
  (.seq (.reg [⟨(.op (.com (.e ⟨.d0, .d3⟩))), .push⟩,
    ⟨(.op (.mv (.s (nat_lit 0)))), (.env ⟨.d0, .d2⟩)⟩])
  .ret)))),
  [(⟨.d0, .d0⟩, .any)], [.tmp ⟨.d0, .d2⟩]⟩
theorem pf13_ok : prep Tryd.prog 1 ⟨8589933568, 33⟩ 13 = some pf13.strip := by kernel_rfl
def pf11 : PF := ⟨(.seq (.reg [⟨(.op (.mv (.k (.int .u8 (.ofNat (nat_lit 0)))))), (.env ⟨.d0, .d2⟩)⟩,
    ⟨(.op (.mv (.k .nils))), (.env ⟨.d0, .d3⟩)⟩,
    ⟨(.op (.mv (.k (.int .i64 (.ofNat (nat_lit 0)))))), (.env ⟨.d0, .d4⟩)⟩])
  (.seq (.seq (.reg [⟨(.cast (.one (.int .i64)) (.op (.len (.e ⟨.d0, .d0⟩)))), .push⟩,
    ⟨(.op (.binI .neq (.s (nat_lit 0)) (.k (.int .i64 (.ofNat (nat_lit 512)))))), (.env ⟨.d0, .da⟩)⟩])
  (.cond (.e ⟨.d0, .da⟩) (.seq (.reg [⟨(.op (.mv (.k (.int .u8 (.ofNat (nat_lit 0)))))), (.env ⟨.d0, .d2⟩)⟩,
    ⟨(.op (.mv (.k .nils))), (.env ⟨.d0, .d3⟩)⟩,
    ⟨(.op (.mv (.k (.int .i64 (.ofNat (nat_lit 2)))))), (.env ⟨.d0, .d4⟩)⟩])
  .ret)
  .skip))
  (.seq (.reg [⟨(.op (.sli (nat_lit 1) (.e ⟨.d0, .d0⟩) (.some (.k (.int .i64 (.ofNat (nat_lit 4))))) .none .none)), .push⟩,
    ⟨(.cast (.one (.int .u32)) (.call ⟨.d0, .d0, .d0, .dd⟩ [(.s (nat_lit 0))])), .push⟩,
    ⟨(.op (.mv (.s (nat_lit 0)))), (.env ⟨.d0, .d5⟩)⟩])
  (.jn .true [(⟨.d0, .d0⟩, .any), (⟨.d0, .d2⟩, .any), (⟨.d0, .d3⟩, .any), (⟨.d0, .d4⟩, .any)] (.seq (.reg [⟨(.op (.mv (.k (.int .i64 (.ofNat (nat_lit 0)))))), (.env ⟨.d0, .de⟩)⟩])
  (.block (nat_lit 0) (.lpv [(⟨.d0, .d0⟩, .any), (⟨.d0, .d5⟩, (.intF .u32)), (⟨.d0, .de⟩, (.intF .i64))] (.seq (.reg [⟨(.op (.binI .lss (.e ⟨.d0, .de⟩) (.k (.int .i64 (.ofNat (nat_lit 4)))))), (.env ⟨.d0, .df⟩)⟩])
  (.seq (.cond (.e ⟨.d0, .df⟩) .skip
  (.exit (nat_lit 0)))
  (.seq (.block (nat_lit 1) (.seq (.reg [⟨(.op (.mv (.e ⟨.d0, .de⟩))), (.env ⟨.d0, .d6⟩)⟩])
  (.seq (.draw [(.light (.op (.mv (.e ⟨.d0, .d0⟩)))),
    (.light (.op (.mv (.e ⟨.d0, .d6⟩)))),
    (.light (.op (.iaddr (nat_lit 1) (.s (nat_lit 0)) (.s (nat_lit 1))))),
    (.light (.cast (.one (.int .u8)) (.op (.load1 (.s (nat_lit 2)))))),
    (.light (.op (.mv (.e ⟨.d0, .d5⟩)))),
    (.light (.op (.mv (.e ⟨.d0, .d6⟩)))),
    (.light (.op (.binI .mul (.k (.int .i64 (.ofNat (nat_lit 8)))) (.s (nat_lit 5))))),
    (.light (.op (.binI .shr (.s (nat_lit 4)) (.s (nat_lit 6))))),
    (.light (.cast (.one (.int .u8)) (.op (.convI .u8 (.s (nat_lit 7)))))),
    (.light (.op (.binI .neq (.s (nat_lit 3)) (.s (nat_lit 8)))))] [(⟨.d1, .da⟩, (nat_lit 9))])
  (.cond (.e ⟨.d1, .da⟩) (.seq (.reg [⟨(.op (.mv (.k (.int .u8 (.ofNat (nat_lit 0)))))), (.env ⟨.d0, .d2⟩)⟩,
    ⟨(.op (.mv (.k .nils))), (.env ⟨.d0, .d3⟩)⟩,
    ⟨(.op (.mv (.k (.int .i64 (.ofNat (nat_lit 20)))))), (.env ⟨.d0, .d4⟩)⟩])
  .ret)
  .skip))))
  (.reg [⟨(.op (.binI .add (.e ⟨.d0, .de⟩) (.k (.int .i64 (.ofNat (nat_lit 1)))))), .push⟩,
    ⟨(.op (.mv (.s (nat_lit 0)))), (.env ⟨.d0, .de⟩)⟩])))))))
  (.seq (.draw [(.light (.op (.mv (.e ⟨.d0, .d0⟩)))),
    (.light (.op (.iaddr (nat_lit 1) (.s (nat_lit 0)) (.k (.int .i64 (.ofNat (nat_lit 4))))))),
    (.light (.cast (.one (.int .u8)) (.op (.load1 (.s (nat_lit 1)))))),
    (.light (.cast (.one (.int .i64)) (.op (.convI .i64 (.s (nat_lit 2)))))),
    (.light (.op (.mv (.e ⟨.d0, .d0⟩)))),
    (.light (.op (.iaddr (nat_lit 1) (.s (nat_lit 4)) (.k (.int .i64 (.ofNat (nat_lit 5))))))),
    (.light (.cast (.one (.int .u8)) (.op (.load1 (.s (nat_lit 5)))))),
    (.light (.cast (.one (.int .i64)) (.op (.convI .i64 (.s (nat_lit 6)))))),
    (.light (.op (.binI .shl (.s (nat_lit 7)) (.k (.int .u64 (.ofNat (nat_lit 8))))))),
    (.light (.op (.binI .or (.s (nat_lit 3)) (.s (nat_lit 8))))),
    (.light (.op (.mv (.s (nat_lit 9)))))] [(⟨.d0, .d7⟩, (nat_lit 10))])
  (.seq (.seq (.reg [⟨(.op (.binI .gtr (.e ⟨.d0, .d7⟩) (.k (.int .i64 (.ofNat (nat_lit 504)))))), .push⟩,
    ⟨(.guard (.s (nat_lit 0)) .false (.op (.mv (.e ⟨.d0, .d0⟩)))), .push⟩,
    ⟨(.guard (.s (nat_lit 1)) .false (.op (.iaddr (nat_lit 1) (.s (nat_lit 0)) (.k (.int .i64 (.ofNat (nat_lit 7))))))), .push⟩,
    ⟨(.guard (.s (nat_lit 2)) .false (.cast (.one (.int .u8)) (.op (.load1 (.s (nat_lit 0)))))), .push⟩,
    ⟨(.guard (.s (nat_lit 3)) .false (.op (.binI .neq (.s (nat_lit 0)) (.k (.int .u8 (.ofNat (nat_lit 157))))))), .push⟩,
    ⟨(.cast (.one .bool) (.op (.pick (.s (nat_lit 4)) (.k (.bool .true)) (.s (nat_lit 0))))), .push⟩,
    ⟨(.guard (.s (nat_lit 0)) .false (.op (.mv (.e ⟨.d0, .d0⟩)))), .push⟩,
    ⟨(.guard (.s (nat_lit 1)) .false (.op (.mv (.e ⟨.d0, .d7⟩)))), .push⟩,
    ⟨(.guard (.s (nat_lit 2)) .false (.op (.binI .add (.k (.int .i64 (.ofNat (nat_lit 8)))) (.s (nat_lit 0))))), .push⟩,
    ⟨(.guard (.s (nat_lit 3)) .false (.op (.sli (nat_lit 1) (.s (nat_lit 2)) (.some (.s (nat_lit 0))) .none .none))), .push⟩,
    ⟨(.guard (.s (nat_lit 4)) .false (.cast (.one .bool) (.call ⟨.d0, .d0, .d1, .d1⟩ [(.s (nat_lit 0)), (.k (.func (nat_lit 18) []))]))), .push⟩,
    ⟨(.cast (.one .bool) (.op (.pick (.s (nat_lit 5)) (.k (.bool .true)) (.s (nat_lit 0))))), (.env ⟨.d3, .d4⟩)⟩])
  (.cond (.e ⟨.d3, .d4⟩) (.seq (.reg [⟨(.op (.mv (.k (.int .u8 (.ofNat (nat_lit 0)))))), (.env ⟨.d0, .d2⟩)⟩,
    ⟨(.op (.mv (.k .nils))), (.env ⟨.d0, .d3⟩)⟩,
    ⟨(.op (.mv (.k (.int .i64 (.ofNat (nat_lit 20)))))), (.env ⟨.d0, .d4⟩)⟩])
  .ret)
  .skip))
  (.seq (.draw [(.light (.op (.mv (.e ⟨.d0, .d0⟩)))),
    (.light (.op (.iaddr (nat_lit 1) (.s (nat_lit 0)) (.k (.int .i64 (.ofNat (nat_lit 6))))))),
    (.light (.cast (.one (.int .u8)) (.op (.load1 (.s (nat_lit 1)))))),
    (.light (.op (.mv (.e ⟨.d0, .d0⟩)))),
    (.light (.op (.mv (.e ⟨.d0, .d7⟩)))),
    (.light (.op (.binI .add (.k (.int .i64 (.ofNat (nat_lit 8)))) (.s (nat_lit 4))))),
    (.light (.op (.sli (nat_lit 1) (.s (nat_lit 3)) (.some (.k (.int .i64 (.ofNat (nat_lit 8))))) (.some (.s (nat_lit 5))) .none))),
    (.heavy (.call ⟨.d0, .d0, .d1, .d0⟩ [(.s (nat_lit 6))])),
    (.again (nat_lit 0) (.op (.mv (.e ⟨.d0, .d0⟩)))),
    (.again (nat_lit 1) (.op (.iaddr (nat_lit 1) (.s (nat_lit 0)) (.k (.int .i64 (.ofNat (nat_lit 6))))))),
    (.again (nat_lit 2) (.cast (.one (.int .u8)) (.op (.load1 (.s (nat_lit 1)))))),
    (.light (.op (.mv (.s (nat_lit 2))))),
    (.light (.op (.mv (.s (nat_lit 7))))),
    (.light (.op (.mv (.k (.int .i64 (.ofNat (nat_lit 0)))))))] [(⟨.d0, .d2⟩, (nat_lit 8)), (⟨.d0, .d3⟩, (nat_lit 9)), (⟨.d0, .d4⟩, (nat_lit 10))])
  .ret))))))),
  [(⟨.d0, .d0⟩, .any)], [.tmp ⟨.d0, .d2⟩, .tmp ⟨.d0, .d3⟩, .tmp ⟨.d0, .d4⟩]⟩
theorem pf11_ok : prep Tryd.prog 1 ⟨2301339409519164160, 61⟩ 11 = some pf11.strip := by kernel_rfl
def pf16 : PF := ⟨(.seq (.reg [⟨(.op (.mv (.k .nils))), (.env ⟨.d0, .d2⟩)⟩])
  (.seq (.seq (.reg [⟨(.op (.binL .eql (.e ⟨.d0, .d0⟩) (.k .nils))), (.env ⟨.d0, .d4⟩)⟩])
  (.cond (.e ⟨.d0, .d4⟩) (.seq (.reg [⟨(.op (.mv (.k .nils))), (.env ⟨.d0, .d2⟩)⟩])
  .ret)
  .skip))
  (.seq (.reg [⟨(.op (.buildS (nat_lit 1) (nat_lit 0) [] [])), .push⟩,
    ⟨(.op (.app (nat_lit 1) (.s (nat_lit 0)) (.e ⟨.d0, .d0⟩))), .push⟩,
    ⟨(.op (.mv (.s (nat_lit 0)))), (.env ⟨.d0, .d2⟩)⟩])
  .ret))),
  [(⟨.d0, .d0⟩, .any)], [.tmp ⟨.d0, .d2⟩]⟩
theorem pf16_ok : prep Tryd.prog 1 ⟨232, 8⟩ 16 = some pf16.strip := by kernel_rfl
def pf18 : PF := ⟨(.seq (.reg [⟨(.op (.mv (.k (.bool .false)))), (.env ⟨.d0, .d2⟩)⟩])
  (.seq (.reg [⟨(.op (.binI .neq (.e ⟨.d0, .d0⟩) (.k (.int .u8 (.ofNat (nat_lit 0)))))), .push⟩,
    ⟨(.op (.mv (.s (nat_lit 0)))), (.env ⟨.d0, .d2⟩)⟩])
  .ret)),
  [(⟨.d0, .d0⟩, (.int .u8))], [.tmp ⟨.d0, .d2⟩]⟩
theorem pf18_ok : prep Tryd.prog 1 ⟨24, 5⟩ 18 = some pf18.strip := by kernel_rfl
def pf17 : PF := ⟨(.seq (.reg [⟨(.op (.mv (.k (.bool .false)))), (.env ⟨.d0, .d4⟩)⟩])
  (.seq (.reg [⟨(.cast (.one (.int .i64)) (.call ⟨.d0, .d0, .d1, .d3⟩ [(.e ⟨.d0, .d0⟩), (.e ⟨.d0, .d1⟩)])), .push⟩,
    ⟨(.op (.binI .geq (.s (nat_lit 0)) (.k (.int .i64 (.ofNat (nat_lit 0)))))), .push⟩,
    ⟨(.op (.mv (.s (nat_lit 0)))), (.env ⟨.d0, .d4⟩)⟩])
  .ret)),
  [(⟨.d0, .d0⟩, .any), (⟨.d0, .d1⟩, .any)], [.tmp ⟨.d0, .d4⟩]⟩
theorem pf17_ok : prep Tryd.prog 1 ⟨480, 9⟩ 17 = some pf17.strip := by kernel_rfl
def pf19 : PF := ⟨(.seq (.reg [⟨(.op (.mv (.k (.int .i64 (.ofNat (nat_lit 0)))))), (.env ⟨.d0, .d4⟩)⟩])
  (.seq (.seq (.reg [⟨(.cast (.one (.int .i64)) (.op (.len (.e ⟨.d0, .d0⟩)))), (.env ⟨.d0, .d7⟩)⟩,
    ⟨(.op (.mv (.k (.int .i64 (.ofNat (nat_lit 0)))))), (.env ⟨.d0, .d8⟩)⟩])
  (.block (nat_lit 0) (.lpv [(⟨.d0, .d0⟩, .any), (⟨.d0, .d1⟩, .any), (⟨.d0, .d7⟩, (.intF .i64)), (⟨.d0, .d8⟩, (.intF .i64))] (.seq (.reg [⟨(.op (.binI .lss (.e ⟨.d0, .d8⟩) (.e ⟨.d0, .d7⟩))), (.env ⟨.d0, .d9⟩)⟩])
  (.seq (.cond (.e ⟨.d0, .d9⟩) .skip
  (.exit (nat_lit 0)))
  (.seq (.block (nat_lit 1) (.seq (.reg [⟨(.op (.mv (.e ⟨.d0, .d8⟩))), (.env ⟨.d0, .d5⟩)⟩])
  (.seq (.reg [⟨(.op (.iaddr (nat_lit 1) (.e ⟨.d0, .d0⟩) (.e ⟨.d0, .d5⟩))), .push⟩,
    ⟨(.cast (.one (.int .u8)) (.op (.load1 (.s (nat_lit 0))))), .push⟩,
    ⟨(.cast (.one .bool) (.callv (.e ⟨.d0, .d1⟩) [(.s (nat_lit 0))])), (.env ⟨.d1, .d0⟩)⟩])
  (.cond (.e ⟨.d1, .d0⟩) (.seq (.reg [⟨(.op (.mv (.e ⟨.d0, .d5⟩))), (.env ⟨.d0, .d4⟩)⟩])
  .ret)
  .skip))))
  (.reg [⟨(.op (.binI .add (.e ⟨.d0, .d8⟩) (.k (.int .i64 (.ofNat (nat_lit 1)))))), .push⟩,
    ⟨(.op (.mv (.s (nat_lit 0)))), (.env ⟨.d0, .d8⟩)⟩])))))))
  (.seq (.reg [⟨(.op (.mv (.k (.int .i64 (.negSucc (nat_lit 0)))))), (.env ⟨.d0, .d4⟩)⟩])
  .ret))),
  [(⟨.d0, .d0⟩, .any), (⟨.d0, .d1⟩, .any)], [.tmp ⟨.d0, .d4⟩]⟩
theorem pf19_ok : prep Tryd.prog 1 ⟨457792, 19⟩ 19 = some pf19.strip := by kernel_rfl
def pf8 : PF := ⟨(.seq (.reg [⟨(.op (.mv (.k .nils))), (.env ⟨.d0, .d4⟩)⟩,
    ⟨(.op (.mv (.k (.int .i64 (.ofNat (nat_lit 0)))))), (.env ⟨.d0, .d5⟩)⟩])
  (.seq (.seq (.reg [⟨(.cast (.one (.int .i64)) (.op (.len (.e ⟨.d0, .d1⟩)))), .push⟩,
    ⟨(.op (.binI .gtr (.s (nat_lit 0)) (.k (.int .i64 (.ofNat (nat_lit 504)))))), (.env ⟨.d0, .db⟩)⟩])
  (.cond (.e ⟨.d0, .db⟩) (.seq (.reg [⟨(.op (.mv (.k .nils))), (.env ⟨.d0, .d4⟩)⟩,
    ⟨(.op (.mv (.k (.int .i64 (.ofNat (nat_lit 2)))))), (.env ⟨.d0, .d5⟩)⟩])
  .ret)
  .skip))
  (.seq (.reg [⟨(.op (.alloc (nat_lit 1) (nat_lit 512) [(.int .u8 (.ofNat (nat_lit 0)))])), (.env ⟨.d0, .d6⟩)⟩])
  (.seq (.reg [⟨(.cast (.one (.int .i64)) (.op (.len (.e ⟨.d0, .d1⟩)))), .push⟩,
    ⟨(.cast (.one (.int .u8)) (.op (.convI .u8 (.s (nat_lit 0))))), .push⟩,
    ⟨(.cast (.one (.int .i64)) (.op (.len (.e ⟨.d0, .d1⟩)))), .push⟩,
    ⟨(.op (.binI .shr (.s (nat_lit 0)) (.k (.int .u64 (.ofNat (nat_lit 8)))))), .push⟩,
    ⟨(.cast (.one (.int .u8)) (.op (.convI .u8 (.s (nat_lit 0))))), .push⟩,
    ⟨(.op (.iaddrA (nat_lit 512) (nat_lit 1) (.e ⟨.d0, .d6⟩) (.k (.int .i64 (.ofNat (nat_lit 4)))))), .push⟩,
    ⟨(.op (.store1 (.s (nat_lit 0)) (.s (nat_lit 4)))), .no⟩,
    ⟨(.op (.iaddrA (nat_lit 512) (nat_lit 1) (.e ⟨.d0, .d6⟩) (.k (.int .i64 (.ofNat (nat_lit 5)))))), .push⟩,
    ⟨(.op (.store1 (.s (nat_lit 0)) (.s (nat_lit 2)))), .no⟩])
  (.seq (.reg [⟨(.op (.iaddrA (nat_lit 512) (nat_lit 1) (.e ⟨.d0, .d6⟩) (.k (.int .i64 (.ofNat (nat_lit 6)))))), .push⟩,
    ⟨(.op (.store1 (.s (nat_lit 0)) (.e ⟨.d0, .d0⟩))), .no⟩,
    ⟨(.op (.iaddrA (nat_lit 512) (nat_lit 1) (.e ⟨.d0, .d6⟩) (.k (.int .i64 (.ofNat (nat_lit 7)))))), .push⟩,
    ⟨(.op (.store1 (.s (nat_lit 0)) (.k (.int .u8 (.ofNat (nat_lit 157)))))), .no⟩])
  (.seq (.reg [⟨(.op (.sliA (nat_lit 512) (nat_lit 1) (.e ⟨.d0, .d6⟩) (.some (.k (.int .i64 (.ofNat (nat_lit 8))))) .none)), .push⟩,
    ⟨(.cast (.one (.int .i64)) (.op (.copy (nat_lit 1) (.s (nat_lit 0)) (.e ⟨.d0, .d1⟩)))), .push⟩])
  (.seq (.reg [⟨(.op (.sliA (nat_lit 512) (nat_lit 1) (.e ⟨.d0, .d6⟩) (.some (.k (.int .i64 (.ofNat (nat_lit 4))))) .none)), .push⟩,
    ⟨(.cast (.one (.int .u32)) (.call ⟨.d0, .d0, .d0, .dd⟩ [(.s (nat_lit 0))])), .push⟩,
    ⟨(.op (.mv (.s (nat_lit 0)))), (.env ⟨.d0, .d7⟩)⟩])
  (.jn .false [(⟨.d0, .d6⟩, .any)] (.seq (.reg [⟨(.op (.mv (.k (.int .i64 (.ofNat (nat_lit 0)))))), (.env ⟨.d1, .dd⟩)⟩])
  (.block (nat_lit 0) (.lpv [(⟨.d0, .d6⟩, .any), (⟨.d0, .d7⟩, (.intF .u32)), (⟨.d1, .dd⟩, (.intF .i64))] (.seq (.reg [⟨(.op (.binI .lss (.e ⟨.d1, .dd⟩) (.k (.int .i64 (.ofNat (nat_lit 4)))))), (.env ⟨.d1, .de⟩)⟩])
  (.seq (.cond (.e ⟨.d1, .de⟩) .skip
  (.exit (nat_lit 0)))
  (.seq (.block (nat_lit 1) (.seq (.reg [⟨(.op (.mv (.e ⟨.d1, .dd⟩))), (.env ⟨.d0, .d8⟩)⟩])
  (.reg [⟨(.op (.binI .mul (.k (.int .i64 (.ofNat (nat_lit 8)))) (.e ⟨.d0, .d8⟩))), .push⟩,
    ⟨(.op (.binI .shr (.e ⟨.d0, .d7⟩) (.s (nat_lit 0)))), .push⟩,
    ⟨(.cast (.one (.int .u8)) (.op (.convI .u8 (.s (nat_lit 0))))), .push⟩,
    ⟨(.op (.iaddrA (nat_lit 512) (nat_lit 1) (.e ⟨.d0, .d6⟩) (.e ⟨.d0, .d8⟩))), .push⟩,
    ⟨(.op (.store1 (.s (nat_lit 0)) (.s (nat_lit 1)))), .no⟩])))
  (.reg [⟨(.op (.binI .add (.e ⟨.d1, .dd⟩) (.k (.int .i64 (.ofNat (nat_lit 1)))))), .push⟩,
    ⟨(.op (.mv (.s (nat_lit 0)))), (.env ⟨.d1, .dd⟩)⟩])))))))
  (.seq (.reg [⟨(.op (.sliA (nat_lit 512) (nat_lit 1) (.e ⟨.d0, .d6⟩) .none .none)), .push⟩,
    ⟨(.call ⟨.d0, .d0, .d1, .d0⟩ [(.s (nat_lit 0))]), .push⟩,
    ⟨(.op (.mv (.s (nat_lit 0)))), (.env ⟨.d0, .d4⟩)⟩,
    ⟨(.op (.mv (.k (.int .i64 (.ofNat (nat_lit 0)))))), (.env ⟨.d0, .d5⟩)⟩])
  .ret))))))))),
  [(⟨.d0, .d0⟩, (.int .u8)), (⟨.d0, .d1⟩, .any)], [.tmp ⟨.d0, .d4⟩, .tmp ⟨.d0, .d5⟩]⟩
theorem pf8_ok : prep Tryd.prog 1 ⟨4396435895808, 42⟩ 8 = some pf8.strip := by kernel_rfl
def pf4 : PF := ⟨(.seq (.reg [⟨(.op (.mv (.k (.bool .false)))), (.env ⟨.d0, .d2⟩)⟩])
  (.seq (.seq (.reg [⟨(.cast (.one (.int .i64)) (.op (.len (.e ⟨.d0, .d0⟩)))), .push⟩,
    ⟨(.op (.binI .gtr (.s (nat_lit 0)) (.k (.int .i64 (.ofNat (nat_lit 2000)))))), (.env ⟨.d0, .dd⟩)⟩])
  (.cond (.e ⟨.d0, .dd⟩) (.seq (.reg [⟨(.op (.mv (.k (.bool .true)))), (.env ⟨.d0, .d2⟩)⟩])
  .ret)
  .skip))
  (.seq (.reg [⟨(.op (.mv (.k .nils))), (.env ⟨.d0, .d3⟩)⟩])
  (.seq (.reg [⟨(.op (.mv (.e ⟨.d0, .d3⟩))), .push⟩,
    ⟨(.op (.app (nat_lit 1) (.s (nat_lit 0)) (.e ⟨.d0, .d0⟩))), .push⟩,
    ⟨(.op (.mv (.s (nat_lit 0)))), (.env ⟨.d0, .d3⟩)⟩])
  (.seq (.reg [⟨(.cast (.tup [(.int .u8), .any, (.int .i64)]) (.call ⟨.d0, .d0, .d0, .db⟩ [(.e ⟨.d0, .d3⟩)])), .push⟩,
    ⟨(.cast (.one (.int .u8)) (.op (.extract (nat_lit 0) (.s (nat_lit 0))))), .push⟩,
    ⟨(.op (.extract (nat_lit 1) (.s (nat_lit 1)))), .push⟩,
    ⟨(.cast (.one (.int .i64)) (.op (.extract (nat_lit 2) (.s (nat_lit 2))))), .push⟩,
    ⟨(.op (.mv (.s (nat_lit 2)))), (.env ⟨.d0, .d4⟩)⟩,
    ⟨(.op (.mv (.s (nat_lit 1)))), (.env ⟨.d0, .d5⟩)⟩,
    ⟨(.op (.mv (.s (nat_lit 0)))), (.env ⟨.d0, .d6⟩)⟩])
  (.seq (.reg [⟨(.cast (.tup [(.int .u8), .any, (.int .i64)]) (.call ⟨.d0, .d0, .d0, .dc⟩ [(.e ⟨.d0, .d0⟩)])), .push⟩,
    ⟨(.cast (.one (.int .u8)) (.op (.extract (nat_lit 0) (.s (nat_lit 0))))), .push⟩,
    ⟨(.op (.extract (nat_lit 1) (.s (nat_lit 1)))), .push⟩,
    ⟨(.cast (.one (.int .i64)) (.op (.extract (nat_lit 2) (.s (nat_lit 2))))), .push⟩,
    ⟨(.op (.mv (.s (nat_lit 2)))), (.env ⟨.d0, .d7⟩)⟩,
    ⟨(.op (.mv (.s (nat_lit 1)))), (.env ⟨.d0, .d8⟩)⟩,
    ⟨(.op (.mv (.s (nat_lit 0)))), (.env ⟨.d0, .d9⟩)⟩])
  (.seq (.seq (.reg [⟨(.op (.binI .neq (.e ⟨.d0, .d4⟩) (.e ⟨.d0, .d7⟩))), .push⟩,
    ⟨(.guard (.s (nat_lit 0)) .false (.op (.mv (.e ⟨.d0, .d6⟩)))), .push⟩,
    ⟨(.guard (.s (nat_lit 1)) .false (.op (.mv (.e ⟨.d0, .d9⟩)))), .push⟩,
    ⟨(.guard (.s (nat_lit 2)) .false (.op (.binI .neq (.s (nat_lit 1)) (.s (nat_lit 0))))), .push⟩,
    ⟨(.cast (.one .bool) (.op (.pick (.s (nat_lit 3)) (.k (.bool .true)) (.s (nat_lit 0))))), .push⟩,
    ⟨(.guard (.s (nat_lit 0)) .false (.op (.mv (.e ⟨.d0, .d5⟩)))), .push⟩,
    ⟨(.guard (.s (nat_lit 1)) .false (.cast (.one .str) (.op (.bytesS (.s (nat_lit 0)))))), .push⟩,
    ⟨(.guard (.s (nat_lit 2)) .false (.op (.mv (.e ⟨.d0, .d8⟩)))), .push⟩,
    ⟨(.guard (.s (nat_lit 3)) .false (.cast (.one .str) (.op (.bytesS (.s (nat_lit 0)))))), .push⟩,
    ⟨(.guard (.s (nat_lit 4)) .false (.op (.binS .neq (.s (nat_lit 2)) (.s (nat_lit 0))))), .push⟩,
    ⟨(.cast (.one .bool) (.op (.pick (.s (nat_lit 5)) (.k (.bool .true)) (.s (nat_lit 0))))), .push⟩,
    ⟨(.guard (.s (nat_lit 0)) .false (.op (.mv (.e ⟨.d0, .d3⟩)))), .push⟩,
    ⟨(.guard (.s (nat_lit 1)) .false (.cast (.one (.int .u32)) (.call ⟨.d0, .d0, .d0, .dd⟩ [(.s (nat_lit 0))]))), .push⟩,
    ⟨(.guard (.s (nat_lit 2)) .false (.op (.mv (.e ⟨.d0, .d0⟩)))), .push⟩,
    ⟨(.guard (.s (nat_lit 3)) .false (.cast (.one (.int .u32)) (.call ⟨.d0, .d0, .d0, .de⟩ [(.s (nat_lit 0))]))), .push⟩,
    ⟨(.guard (.s (nat_lit 4)) .false (.op (.binI .neq (.s (nat_lit 2)) (.s (nat_lit 0))))), .push⟩,
    ⟨(.cast (.one .bool) (.op (.pick (.s (nat_lit 5)) (.k (.bool .true)) (.s (nat_lit 0))))), (.env ⟨.d3, .d2⟩)⟩])
  (.cond (.e ⟨.d3, .d2⟩) (.seq (.reg [⟨(.op (.mv (.k (.bool .false)))), (.env ⟨.d0, .d2⟩)⟩])
  .ret)
  .skip))
  (.jn .false [(⟨.d0, .d0⟩, .any), (⟨.d0, .d3⟩, .any)] (.seq (.reg [⟨(.op (.mv (.k (.int .i64 (.ofNat (nat_lit 0)))))), (.env ⟨.d0, .da⟩)⟩])
  (.block (nat_lit 0) (.lpv [(⟨.d0, .d0⟩, .any), (⟨.d0, .d3⟩, .any), (⟨.d0, .d5⟩, .any), (⟨.d0, .da⟩, (.intF .i64))] (.seq (.seq (.reg [⟨(.cast (.one (.int .i64)) (.op (.len (.e ⟨.d0, .d5⟩)))), .push⟩,
    ⟨(.op (.binI .lss (.e ⟨.d0, .da⟩) (.s (nat_lit 0)))), (.env ⟨.d3, .d6⟩)⟩])
  (.cond (.e ⟨.d3, .d6⟩) .skip
  (.exit (nat_lit 0))))
  (.seq (.block (nat_lit 1) (.reg [⟨(.op (.iaddr (nat_lit 1) (.e ⟨.d0, .d5⟩) (.e ⟨.d0, .da⟩))), .push⟩,
    ⟨(.op (.store1 (.s (nat_lit 0)) (.k (.int .u8 (.ofNat (nat_lit 238)))))), .no⟩]))
  (.reg [⟨(.op (.mv (.e ⟨.d0, .da⟩))), .push⟩,
    ⟨(.op (.binI .add (.s (nat_lit 0)) (.k (.int .i64 (.ofNat (nat_lit 1)))))), .push⟩,
    ⟨(.op (.mv (.s (nat_lit 0)))), (.env ⟨.d0, .da⟩)⟩]))))))
  (.seq (.reg [⟨(.cast (.one .str) (.op (.bytesS (.e ⟨.d0, .d3⟩)))), .push⟩,
    ⟨(.cast (.one .str) (.op (.bytesS (.e ⟨.d0, .d0⟩)))), .push⟩,
    ⟨(.op (.binS .eql (.s (nat_lit 1)) (.s (nat_lit 0)))), .push⟩,
    ⟨(.guard (.s (nat_lit 0)) .true (.cast (.one .bool) (.call ⟨.d0, .d0, .d0, .da⟩ []))), .push⟩,
    ⟨(.cast (.one .bool) (.op (.pick (.s (nat_lit 1)) (.s (nat_lit 0)) (.k (.bool .false))))), .push⟩,
    ⟨(.op (.mv (.s (nat_lit 0)))), (.env ⟨.d0, .d2⟩)⟩])
  .ret))))))))),
  [(⟨.d0, .d0⟩, .any)], [.tmp ⟨.d0, .d2⟩]⟩
theorem pf4_ok : prep Tryd.prog 1 ⟨295128764880936491008, 68⟩ 4 = some pf4.strip := by kernel_rfl
def pf14 : PF := ⟨(.seq (.reg [⟨(.op (.mv (.k (.int .u32 (.ofNat (nat_lit 0)))))), (.env ⟨.d0, .d2⟩)⟩])
  (.seq (.reg [⟨(.op (.mv (.k (.int .u32 (.ofNat (nat_lit 4294967295)))))), (.env ⟨.d0, .d3⟩)⟩])
  (.seq (.seq (.reg [⟨(.op (.mv (.k (.int .i64 (.ofNat (nat_lit 0)))))), (.env ⟨.d0, .d4⟩)⟩])
  (.block (nat_lit 0) (.lpv [(⟨.d0, .d0⟩, .any), (⟨.d0, .d3⟩, (.intF .u32)), (⟨.d0, .d4⟩, (.intF .i64))] (.seq (.seq (.reg [⟨(.cast (.one (.int .i64)) (.op (.len (.e ⟨.d0, .d0⟩)))), .push⟩,
    ⟨(.op (.binI .lss (.e ⟨.d0, .d4⟩) (.s (nat_lit 0)))), (.env ⟨.d0, .da⟩)⟩])
  (.cond (.e ⟨.d0, .da⟩) .skip
  (.exit (nat_lit 0))))
  (.jn .false [(⟨.d0, .d0⟩, .any), (⟨.d0, .d3⟩, (.int .u32)), (⟨.d0, .d4⟩, (.int .i64))] (.block (nat_lit 1) (.seq (.reg [⟨(.op (.mv (.e ⟨.d0, .d3⟩))), .push⟩,
    ⟨(.op (.iaddr (nat_lit 1) (.e ⟨.d0, .d0⟩) (.e ⟨.d0, .d4⟩))), .push⟩,
    ⟨(.cast (.one (.int .u8)) (.op (.load1 (.s (nat_lit 0))))), .push⟩,
    ⟨(.cast (.one (.int .u32)) (.op (.convI .u32 (.s (nat_lit 0))))), .push⟩,
    ⟨(.op (.binI .xor (.s (nat_lit 3)) (.s (nat_lit 0)))), .push⟩,
    ⟨(.op (.mv (.s (nat_lit 0)))), (.env ⟨.d0, .d3⟩)⟩])
  (.seq (.reg [⟨(.op (.mv (.k (.int .i64 (.ofNat (nat_lit 0)))))), (.env ⟨.d0, .d5⟩)⟩])
  (.block (nat_lit 2) (.lpv [(⟨.d0, .d0⟩, .any), (⟨.d0, .d3⟩, (.intF .u32)), (⟨.d0, .d4⟩, (.intF .i64)), (⟨.d0, .d5⟩, (.intF .i64))] (.seq (.seq (.reg [⟨(.op (.binI .lss (.e ⟨.d0, .d5⟩) (.k (.int .i64 (.ofNat (nat_lit 8)))))), (.env ⟨.d1, .d5⟩)⟩])
  (.cond (.e ⟨.d1, .d5⟩) .skip
  (.exit (nat_lit 2))))
  (.jn .false [(⟨.d0, .d0⟩, .any), (⟨.d0, .d3⟩, (.int .u32)), (⟨.d0, .d4⟩, (.int .i64)), (⟨.d0, .d5⟩, (.int .i64))] (.block (nat_lit 3) (.seq (.reg [⟨(.op (.binI .and (.e ⟨.d0, .d3⟩) (.k (.int .u32 (.ofNat (nat_lit 1)))))), .push⟩,
    ⟨(.op (.mv (.s (nat_lit 0)))), (.env ⟨.d0, .d6⟩)⟩])
  (.seq (.reg [⟨(.op (.mv (.e ⟨.d0, .d3⟩))), .push⟩,
    ⟨(.op (.binI .shr (.s (nat_lit 0)) (.k (.int .u64 (.ofNat (nat_lit 1)))))), .push⟩,
    ⟨(.op (.mv (.s (nat_lit 0)))), (.env ⟨.d0, .d3⟩)⟩])
  (.seq (.reg [⟨(.op (.binI .eql (.e ⟨.d0, .d6⟩) (.k (.int .u32 (.ofNat (nat_lit 1)))))), (.env ⟨.d1, .dd⟩)⟩])
  (.cond (.e ⟨.d1, .dd⟩) (.reg [⟨(.op (.mv (.e ⟨.d0, .d3⟩))), .push⟩,
    ⟨(.op (.binI .xor (.s (nat_lit 0)) (.k (.int .u32 (.ofNat (nat_lit 3988292384)))))), .push⟩,
    ⟨(.op (.mv (.s (nat_lit 0)))), (.env ⟨.d0, .d3⟩)⟩])
  .skip)))))
  (.reg [⟨(.op (.mv (.e ⟨.d0, .d5⟩))), .push⟩,
    ⟨(.op (.binI .add (.s (nat_lit 0)) (.k (.int .i64 (.ofNat (nat_lit 1)))))), .push⟩,
    ⟨(.op (.mv (.s (nat_lit 0)))), (.env ⟨.d0, .d5⟩)⟩]))))))))
  (.reg [⟨(.op (.mv (.e ⟨.d0, .d4⟩))), .push⟩,
    ⟨(.op (.binI .add (.s (nat_lit 0)) (.k (.int .i64 (.ofNat (nat_lit 1)))))), .push⟩,
    ⟨(.op (.mv (.s (nat_lit 0)))), (.env ⟨.d0, .d4⟩)⟩]))))))
  (.seq (.reg [⟨(.op (.binI .xor (.e ⟨.d0, .d3⟩) (.k (.int .u32 (.ofNat (nat_lit 4294967295)))))), .push⟩,
    ⟨(.op (.mv (.s (nat_lit 0)))), (.env ⟨.d0, .d2⟩)⟩])
  .ret)))),
  [(⟨.d0, .d0⟩, .any)], [.tmp ⟨.d0, .d2⟩]⟩
theorem pf14_ok : prep Tryd.prog 1 ⟨16640899968, 34⟩ 14 = some pf14.strip := by kernel_rfl
def pf12 : PF := ⟨(.seq (.reg [⟨(.op (.mv (.k (.int .u8 (.ofNat (nat_lit 0)))))), (.env ⟨.d0, .d2⟩)⟩,
    ⟨(.op (.mv (.k .nils))), (.env ⟨.d0, .d3⟩)⟩,
    ⟨(.op (.mv (.k (.int .i64 (.ofNat (nat_lit 0)))))), (.env ⟨.d0, .d4⟩)⟩])
  (.seq (.seq (.reg [⟨(.cast (.one (.int .i64)) (.op (.len (.e ⟨.d0, .d0⟩)))), .push⟩,
    ⟨(.op (.binI .neq (.s (nat_lit 0)) (.k (.int .i64 (.ofNat (nat_lit 512)))))), (.env ⟨.d0, .db⟩)⟩])
  (.cond (.e ⟨.d0, .db⟩) (.seq (.reg [⟨(.op (.mv (.k (.int .u8 (.ofNat (nat_lit 0)))))), (.env ⟨.d0, .d2⟩)⟩,
    ⟨(.op (.mv (.k .nils))), (.env ⟨.d0, .d3⟩)⟩,
    ⟨(.op (.mv (.k (.int .i64 (.ofNat (nat_lit 2)))))), (.env ⟨.d0, .d4⟩)⟩])
  .ret)
  .skip))
  (.seq (.draw [(.light (.op (.mv (.e ⟨.d0, .d0⟩)))),
    (.light (.op (.iaddr (nat_lit 1) (.s (nat_lit 0)) (.k (.int .i64 (.ofNat (nat_lit 4))))))),
    (.light (.cast (.one (.int .u8)) (.op (.load1 (.s (nat_lit 1)))))),
    (.light (.cast (.one (.int .i64)) (.op (.convI .i64 (.s (nat_lit 2)))))),
    (.light (.op (.mv (.e ⟨.d0, .d0⟩)))),
    (.light (.op (.iaddr (nat_lit 1) (.s (nat_lit 4)) (.k (.int .i64 (.ofNat (nat_lit 5))))))),
    (.light (.cast (.one (.int .u8)) (.op (.load1 (.s (nat_lit 5)))))),
    (.light (.cast (.one (.int .i64)) (.op (.convI .i64 (.s (nat_lit 6)))))),
    (.light (.op (.binI .mul (.k (.int .i64 (.ofNat (nat_lit 256)))) (.s (nat_lit 7))))),
    (.light (.op (.binI .add (.s (nat_lit 3)) (.s (nat_lit 8))))),
    (.light (.op (.mv (.s (nat_lit 9)))))] [(⟨.d0, .d5⟩, (nat_lit 10))])
  (.seq (.seq (.reg [⟨(.op (.binI .gtr (.e ⟨.d0, .d5⟩) (.k (.int .i64 (.ofNat (nat_lit 504)))))), (.env ⟨.d1, .d7⟩)⟩])
  (.cond (.e ⟨.d1, .d7⟩) (.seq (.reg [⟨(.op (.mv (.k (.int .u8 (.ofNat (nat_lit 0)))))), (.env ⟨.d0, .d2⟩)⟩,
    ⟨(.op (.mv (.k .nils))), (.env ⟨.d0, .d3⟩)⟩,
    ⟨(.op (.mv (.k (.int .i64 (.ofNat (nat_lit 20)))))), (.env ⟨.d0, .d4⟩)⟩])
  .ret)
  .skip))
  (.seq (.reg [⟨(.op (.mv (.k .nils))), (.env ⟨.d0, .d6⟩)⟩])
  (.seq (.reg [⟨(.op (.mv (.e ⟨.d0, .d6⟩))), .push⟩,
    ⟨(.op (.binI .add (.k (.int .i64 (.ofNat (nat_lit 8)))) (.e ⟨.d0, .d5⟩))), .push⟩,
    ⟨(.op (.sli (nat_lit 1) (.e ⟨.d0, .d0⟩) (.some (.k (.int .i64 (.ofNat (nat_lit 8))))) (.some (.s (nat_lit 0))) .none)), .push⟩,
    ⟨(.op (.app (nat_lit 1) (.s (nat_lit 2)) (.s (nat_lit 0)))), .push⟩,
    ⟨(.op (.mv (.s (nat_lit 0)))), (.env ⟨.d0, .d6⟩)⟩])
  (.seq (.reg [⟨(.op (.iaddr (nat_lit 1) (.e ⟨.d0, .d0⟩) (.k (.int .i64 (.ofNat (nat_lit 6)))))), .push⟩,
    ⟨(.cast (.one (.int .u8)) (.op (.load1 (.s (nat_lit 0))))), .push⟩,
    ⟨(.cast (.tup [.any, (.int .i64)]) (.call ⟨.d0, .d0, .d0, .d9⟩ [(.s (nat_lit 0)), (.e ⟨.d0, .d6⟩)])), .push⟩,
    ⟨(.op (.extract (nat_lit 0) (.s (nat_lit 0)))), .push⟩,
    ⟨(.cast (.one (.int .i64)) (.op (.extract (nat_lit 1) (.s (nat_lit 1))))), .push⟩,
    ⟨(.op (.mv (.s (nat_lit 1)))), (.env ⟨.d0, .d7⟩)⟩])
  (.seq (.seq (.reg [⟨(.cast (.one .str) (.op (.bytesS (.e ⟨.d0, .d7⟩)))), .push⟩,
    ⟨(.cast (.one .str) (.op (.bytesS (.e ⟨.d0, .d0⟩)))), .push⟩,
    ⟨(.op (.binS .neq (.s (nat_lit 1)) (.s (nat_lit 0)))), (.env ⟨.d2, .da⟩)⟩])
  (.cond (.e ⟨.d2, .da⟩) (.seq (.reg [⟨(.op (.mv (.k (.int .u8 (.ofNat (nat_lit 0)))))), (.env ⟨.d0, .d2⟩)⟩,
    ⟨(.op (.mv (.k .nils))), (.env ⟨.d0, .d3⟩)⟩,
    ⟨(.op (.mv (.k (.int .i64 (.ofNat (nat_lit 20)))))), (.env ⟨.d0, .d4⟩)⟩])
  .ret)
  .skip))
  (.seq (.reg [⟨(.op (.iaddr (nat_lit 1) (.e ⟨.d0, .d0⟩) (.k (.int .i64 (.ofNat (nat_lit 6)))))), .push⟩,
    ⟨(.cast (.one (.int .u8)) (.op (.load1 (.s (nat_lit 0))))), .push⟩,
    ⟨(.op (.mv (.s (nat_lit 0)))), (.env ⟨.d0, .d2⟩)⟩,
    ⟨(.op (.mv (.e ⟨.d0, .d6⟩))), (.env ⟨.d0, .d3⟩)⟩,
    ⟨(.op (.mv (.k (.int .i64 (.ofNat (nat_lit 0)))))), (.env ⟨.d0, .d4⟩)⟩])
  .ret))))))))),
  [(⟨.d0, .d0⟩, .any)], [.tmp ⟨.d0, .d2⟩, .tmp ⟨.d0, .d3⟩, .tmp ⟨.d0, .d4⟩]⟩
theorem pf12_ok : prep Tryd.prog 1 ⟨136339433453312, 47⟩ 12 = some pf12.strip := by kernel_rfl
def pf9 : PF := ⟨(.seq (.reg [⟨(.op (.mv (.k .nils))), (.env ⟨.d0, .d4⟩)⟩,
    ⟨(.op (.mv (.k (.int .i64 (.ofNat (nat_lit 0)))))), (.env ⟨.d0, .d5⟩)⟩])
  (.seq (.seq (.reg [⟨(.cast (.one (.int .i64)) (.op (.len (.e ⟨.d0, .d1⟩)))), .push⟩,
    ⟨(.op (.binI .gtr (.s (nat_lit 0)) (.k (.int .i64 (.ofNat (nat_lit 504)))))), (.env ⟨.d0, .dc⟩)⟩])
  (.cond (.e ⟨.d0, .dc⟩) (.seq (.reg [⟨(.op (.mv (.k .nils))), (.env ⟨.d0, .d4⟩)⟩,
    ⟨(.op (.mv (.k (.int .i64 (.ofNat (nat_lit 2)))))), (.env ⟨.d0, .d5⟩)⟩])
  .ret)
  .skip))
  (.seq (.reg [⟨(.cast (.one (.int .i64)) (.op (.len (.e ⟨.d0, .d1⟩)))), .push⟩,
    ⟨(.op (.binI .rem (.s (nat_lit 0)) (.k (.int .i64 (.ofNat (nat_lit 256)))))), .push⟩,
    ⟨(.cast (.one (.int .u8)) (.op (.convI .u8 (.s (nat_lit 0))))), .push⟩,
    ⟨(.cast (.one (.int .i64)) (.op (.len (.e ⟨.d0, .d1⟩)))), .push⟩,
    ⟨(.op (.binI .quo (.s (nat_lit 0)) (.k (.int .i64 (.ofNat (nat_lit 256)))))), .push⟩,
    ⟨(.cast (.one (.int .u8)) (.op (.convI .u8 (.s (nat_lit 0))))), .push⟩,
    ⟨(.op (.buildS (nat_lit 1) (nat_lit 4) [(.int .u8 (.ofNat (nat_lit 0))), (.int .u8 (.ofNat (nat_lit 0))), (.int .u8 (.ofNat (nat_lit 0))), (.int .u8 (.ofNat (nat_lit 0)))] [((nat_lit 0), (nat_lit 1), (.s (nat_lit 3))), ((nat_lit 1), (nat_lit 1), (.s (nat_lit 0))), ((nat_lit 2), (nat_lit 1), (.e ⟨.d0, .d0⟩)), ((nat_lit 3), (nat_lit 1), (.k (.int .u8 (.ofNat (nat_lit 157)))))])), .push⟩,
    ⟨(.op (.mv (.s (nat_lit 0)))), (.env ⟨.d0, .d6⟩)⟩])
  (.seq (.reg [⟨(.op (.mv (.e ⟨.d0, .d6⟩))), .push⟩,
    ⟨(.op (.app (nat_lit 1) (.s (nat_lit 0)) (.e ⟨.d0, .d1⟩))), .push⟩,
    ⟨(.op (.mv (.s (nat_lit 0)))), (.env ⟨.d0, .d6⟩)⟩])
  (.seq (.reg [⟨(.op (.mv (.e ⟨.d0, .d6⟩))), .push⟩,
    ⟨(.op (.mv (.e ⟨.d0, .d6⟩))), .push⟩,
    ⟨(.cast (.one (.int .i64)) (.op (.len (.s (nat_lit 0))))), .push⟩,
    ⟨(.op (.binI .sub (.k (.int .i64 (.ofNat (nat_lit 508)))) (.s (nat_lit 0)))), .push⟩,
    ⟨(.op (.appZ (nat_lit 1) [(.int .u8 (.ofNat (nat_lit 0)))] (.s (nat_lit 3)) (.s (nat_lit 0)))), .push⟩,
    ⟨(.op (.mv (.s (nat_lit 0)))), (.env ⟨.d0, .d6⟩)⟩])
  (.seq (.reg [⟨(.cast (.one (.int .u32)) (.call ⟨.d0, .d0, .d0, .de⟩ [(.e ⟨.d0, .d6⟩)])), .push⟩,
    ⟨(.op (.mv (.s (nat_lit 0)))), (.env ⟨.d0, .d7⟩)⟩])
  (.seq (.reg [⟨(.op (.mv (.k .nils))), (.env ⟨.d0, .d8⟩)⟩])
  (.jn .false [(⟨.d0, .d6⟩, .any), (⟨.d0, .d8⟩, .any)] (.seq (.reg [⟨(.op (.mv (.k (.int .i64 (.ofNat (nat_lit 0)))))), (.env ⟨.d0, .d9⟩)⟩])
  (.block (nat_lit 0) (.lpv [(⟨.d0, .d6⟩, .any), (⟨.d0, .d7⟩, (.intF .u32)), (⟨.d0, .d8⟩, .any), (⟨.d0, .d9⟩, (.intF .i64))] (.seq (.seq (.reg [⟨(.op (.binI .lss (.e ⟨.d0, .d9⟩) (.k (.int .i64 (.ofNat (nat_lit 4)))))), (.env ⟨.d2, .d2⟩)⟩])
  (.cond (.e ⟨.d2, .d2⟩) .skip
  (.exit (nat_lit 0))))
  (.seq (.block (nat_lit 1) (.reg [⟨(.op (.mv (.e ⟨.d0, .d8⟩))), .push⟩,
    ⟨(.op (.binI .mul (.k (.int .i64 (.ofNat (nat_lit 8)))) (.e ⟨.d0, .d9⟩))), .push⟩,
    ⟨(.op (.binI .shr (.e ⟨.d0, .d7⟩) (.s (nat_lit 0)))), .push⟩,
    ⟨(.cast (.one (.int .u8)) (.op (.convI .u8 (.s (nat_lit 0))))), .push⟩,
    ⟨(.op (.buildS (nat_lit 1) (nat_lit 1) [(.int .u8 (.ofNat (nat_lit 0)))] [((nat_lit 0), (nat_lit 1), (.s (nat_lit 0)))])), .push⟩,
    ⟨(.op (.app (nat_lit 1) (.s (nat_lit 4)) (.s (nat_lit 0)))), .push⟩,
    ⟨(.op (.mv (.s (nat_lit 0)))), (.env ⟨.d0, .d8⟩)⟩]))
  (.reg [⟨(.op (.mv (.e ⟨.d0, .d9⟩))), .push⟩,
    ⟨(.op (.binI .add (.s (nat_lit 0)) (.k (.int .i64 (.ofNat (nat_lit 1)))))), .push⟩,
    ⟨(.op (.mv (.s (nat_lit 0)))), (.env ⟨.d0, .d9⟩)⟩]))))))
  (.seq (.reg [⟨(.op (.mv (.e ⟨.d0, .d8⟩))), .push⟩,
    ⟨(.op (.app (nat_lit 1) (.s (nat_lit 0)) (.e ⟨.d0, .d6⟩))), .push⟩,
    ⟨(.op (.mv (.s (nat_lit 0)))), (.env ⟨.d0, .d8⟩)⟩])
  (.seq (.reg [⟨(.op (.mv (.e ⟨.d0, .d8⟩))), (.env ⟨.d0, .d4⟩)⟩,
    ⟨(.op (.mv (.k (.int .i64 (.ofNat (nat_lit 0)))))), (.env ⟨.d0, .d5⟩)⟩])
  .ret)))))))))),
  [(⟨.d0, .d0⟩, (.int .u8)), (⟨.d0, .d1⟩, .any)], [.tmp ⟨.d0, .d4⟩, .tmp ⟨.d0, .d5⟩]⟩
theorem pf9_ok : prep Tryd.prog 1 ⟨562932773547008, 49⟩ 9 = some pf9.strip := by kernel_rfl
def pf6 : PF := ⟨(.seq (.reg [⟨(.op (.mv (.k (.bool .false)))), (.env ⟨.d0, .d8⟩)⟩])
  (.seq (.reg [⟨(.cast (.tup [.any, (.int .i64)]) (.call ⟨.d0, .d0, .d0, .d8⟩ [(.e ⟨.d0, .d0⟩), (.e ⟨.d0, .d1⟩)])), .push⟩,
    ⟨(.op (.extract (nat_lit 0) (.s (nat_lit 0)))), .push⟩,
    ⟨(.cast (.one (.int .i64)) (.op (.extract (nat_lit 1) (.s (nat_lit 1))))), .push⟩,
    ⟨(.op (.mv (.s (nat_lit 1)))), (.env ⟨.d0, .d9⟩)⟩,
    ⟨(.op (.mv (.s (nat_lit 0)))), (.env ⟨.d0, .da⟩)⟩])
  (.seq (.seq (.reg [⟨(.op (.binI .neq (.e ⟨.d0, .da⟩) (.k (.int .i64 (.ofNat (nat_lit 0)))))), .push⟩,
    ⟨(.guard (.s (nat_lit 0)) .false (.op (.mv (.e ⟨.d0, .d3⟩)))), .push⟩,
    ⟨(.guard (.s (nat_lit 1)) .false (.op (.binI .eql (.s (nat_lit 0)) (.k (.int .u32 (.ofNat (nat_lit 0))))))), .push⟩,
    ⟨(.cast (.one .bool) (.op (.pick (.s (nat_lit 2)) (.k (.bool .true)) (.s (nat_lit 0))))), (.env ⟨.d1, .da⟩)⟩])
  (.cond (.e ⟨.d1, .da⟩) (.seq (.reg [⟨(.cast (.one .bool) (.call ⟨.d0, .d0, .d0, .da⟩ [])), .push⟩,
    ⟨(.op (.mv (.s (nat_lit 0)))), (.env ⟨.d0, .d8⟩)⟩])
  .ret)
  .skip))
  (.seq (.seq (.reg [⟨(.cast (.one (.int .i64)) (.op (.len (.e ⟨.d0, .d9⟩)))), .push⟩,
    ⟨(.op (.binI .neq (.s (nat_lit 0)) (.k (.int .i64 (.ofNat (nat_lit 512)))))), (.env ⟨.d1, .de⟩)⟩])
  (.cond (.e ⟨.d1, .de⟩) (.seq (.reg [⟨(.op (.mv (.k (.bool .false)))), (.env ⟨.d0, .d8⟩)⟩])
  .ret)
  .skip))
  (.seq (.reg [⟨(.op (.mv (.e ⟨.d0, .d2⟩))), .push⟩,
    ⟨(.cast (.one (.int .i64)) (.call ⟨.d0, .d0, .d0, .df⟩ [(.s (nat_lit 0)), (.k (.int .i64 (.ofNat (nat_lit 509))))])), .push⟩,
    ⟨(.op (.mv (.s (nat_lit 0)))), (.env ⟨.d0, .d2⟩)⟩])
  (.jn .false [(⟨.d0, .d2⟩, (.int .i64)), (⟨.d0, .d3⟩, (.int .u32)), (⟨.d0, .d9⟩, .any)] (.seq (.reg [⟨(.op (.binI .lss (.e ⟨.d0, .d2⟩) (.k (.int .i64 (.ofNat (nat_lit 4)))))), (.env ⟨.d2, .d2⟩)⟩])
  (.cond (.e ⟨.d2, .d2⟩) (.reg [⟨(.op (.mv (.k (.int .i64 (.ofNat (nat_lit 0)))))), (.env ⟨.d0, .d2⟩)⟩])
  .skip))
  (.jn .false [(⟨.d0, .d9⟩, .any)] (.seq (.reg [⟨(.op (.mv (.k (.int .i64 (.ofNat (nat_lit 0)))))), (.env ⟨.d0, .db⟩)⟩])
  (.block (nat_lit 0) (.lpv [(⟨.d0, .d2⟩, (.intF .i64)), (⟨.d0, .d3⟩, (.intF .u32)), (⟨.d0, .d9⟩, .any), (⟨.d0, .db⟩, (.intF .i64))] (.seq (.seq (.reg [⟨(.op (.binI .lss (.e ⟨.d0, .db⟩) (.k (.int .i64 (.ofNat (nat_lit 4)))))), (.env ⟨.d2, .d4⟩)⟩])
  (.cond (.e ⟨.d2, .d4⟩) .skip
  (.exit (nat_lit 0))))
  (.seq (.block (nat_lit 1) (.draw [(.light (.op (.mv (.e ⟨.d0, .d9⟩)))),
    (.light (.op (.mv (.e ⟨.d0, .d2⟩)))),
    (.light (.op (.mv (.e ⟨.d0, .db⟩)))),
    (.light (.op (.binI .add (.s (nat_lit 1)) (.s (nat_lit 2))))),
    (.light (.op (.mv (.e ⟨.d0, .d9⟩)))),
    (.light (.op (.mv (.e ⟨.d0, .d2⟩)))),
    (.light (.op (.mv (.e ⟨.d0, .db⟩)))),
    (.light (.op (.binI .add (.s (nat_lit 5)) (.s (nat_lit 6))))),
    (.light (.op (.iaddr (nat_lit 1) (.s (nat_lit 4)) (.s (nat_lit 7))))),
    (.light (.cast (.one (.int .u8)) (.op (.load1 (.s (nat_lit 8)))))),
    (.light (.op (.mv (.e ⟨.d0, .d3⟩)))),
    (.light (.op (.mv (.e ⟨.d0, .db⟩)))),
    (.light (.op (.binI .mul (.k (.int .i64 (.ofNat (nat_lit 8)))) (.s (nat_lit 11))))),
    (.light (.op (.binI .shr (.s (nat_lit 10)) (.s (nat_lit 12))))),
    (.light (.cast (.one (.int .u8)) (.op (.convI .u8 (.s (nat_lit 13)))))),
    (.light (.op (.binI .xor (.s (nat_lit 9)) (.s (nat_lit 14))))),
    (.light (.op (.iaddr (nat_lit 1) (.s (nat_lit 0)) (.s (nat_lit 3))))),
    (.heavy (.op (.store1 (.s (nat_lit 16)) (.s (nat_lit 15)))))] []))
  (.reg [⟨(.op (.mv (.e ⟨.d0, .db⟩))), .push⟩,
    ⟨(.op (.binI .add (.s (nat_lit 0)) (.k (.int .i64 (.ofNat (nat_lit 1)))))), .push⟩,
    ⟨(.op (.mv (.s (nat_lit 0)))), (.env ⟨.d0, .db⟩)⟩]))))))
  (.seq (.reg [⟨(.cast (.tup [(.int .u8), .any, (.int .i64)]) (.call ⟨.d0, .d0, .d0, .db⟩ [(.e ⟨.d0, .d9⟩)])), .push⟩,
    ⟨(.cast (.one (.int .u8)) (.op (.extract (nat_lit 0) (.s (nat_lit 0))))), .push⟩,
    ⟨(.op (.extract (nat_lit 1) (.s (nat_lit 1)))), .push⟩,
    ⟨(.cast (.one (.int .i64)) (.op (.extract (nat_lit 2) (.s (nat_lit 2))))), .push⟩,
    ⟨(.op (.mv (.s (nat_lit 2)))), (.env ⟨.d0, .dc⟩)⟩,
    ⟨(.op (.mv (.s (nat_lit 1)))), (.env ⟨.d0, .dd⟩)⟩,
    ⟨(.op (.mv (.s (nat_lit 0)))), (.env ⟨.d0, .de⟩)⟩])
  (.seq (.reg [⟨(.op (.binI .eql (.e ⟨.d0, .de⟩) (.k (.int .i64 (.ofNat (nat_lit 20)))))), .push⟩,
    ⟨(.guard (.s (nat_lit 0)) .true (.op (.mv (.e ⟨.d0, .dc⟩)))), .push⟩,
    ⟨(.guard (.s (nat_lit 1)) .true (.op (.binI .eql (.s (nat_lit 0)) (.k (.int .u8 (.ofNat (nat_lit 0))))))), .push⟩,
    ⟨(.cast (.one .bool) (.op (.pick (.s (nat_lit 2)) (.s (nat_lit 0)) (.k (.bool .false))))), .push⟩,
    ⟨(.guard (.s (nat_lit 0)) .true (.op (.mv (.e ⟨.d0, .dd⟩)))), .push⟩,
    ⟨(.guard (.s (nat_lit 1)) .true (.cast (.one (.int .i64)) (.op (.len (.s (nat_lit 0)))))), .push⟩,
    ⟨(.guard (.s (nat_lit 2)) .true (.op (.binI .eql (.s (nat_lit 0)) (.k (.int .i64 (.ofNat (nat_lit 0))))))), .push⟩,
    ⟨(.cast (.one .bool) (.op (.pick (.s (nat_lit 3)) (.s (nat_lit 0)) (.k (.bool .false))))), .push⟩,
    ⟨(.guard (.s (nat_lit 0)) .true (.cast (.one .bool) (.call ⟨.d0, .d0, .d0, .da⟩ []))), .push⟩,
    ⟨(.cast (.one .bool) (.op (.pick (.s (nat_lit 1)) (.s (nat_lit 0)) (.k (.bool .false))))), .push⟩,
    ⟨(.op (.mv (.s (nat_lit 0)))), (.env ⟨.d0, .d8⟩)⟩])
  .ret))))))))),
  [(⟨.d0, .d0⟩, (.int .u8)), (⟨.d0, .d1⟩, .any), (⟨.d0, .d2⟩, (.int .i64)), (⟨.d0, .d3⟩, (.int .u32))], [.tmp ⟨.d0, .d8⟩]⟩
theorem pf6_ok : prep Tryd.prog 1 ⟨75557863725827283189760, 76⟩ 6 = some pf6.strip := by kernel_rfl
def pf15 : PF := ⟨(.seq (.reg [⟨(.op (.mv (.k (.int .i64 (.ofNat (nat_lit 0)))))), (.env ⟨.d0, .d4⟩)⟩])
  (.seq (.seq (.reg [⟨(.op (.binI .lss (.e ⟨.d0, .d1⟩) (.k (.int .i64 (.ofNat (nat_lit 1)))))), (.env ⟨.d0, .d7⟩)⟩])
  (.cond (.e ⟨.d0, .d7⟩) (.seq (.reg [⟨(.op (.mv (.k (.int .i64 (.ofNat (nat_lit 0)))))), (.env ⟨.d0, .d4⟩)⟩])
  .ret)
  .skip))
  (.seq (.reg [⟨(.op (.binI .rem (.e ⟨.d0, .d0⟩) (.e ⟨.d0, .d1⟩))), .push⟩,
    ⟨(.op (.mv (.s (nat_lit 0)))), (.env ⟨.d0, .d5⟩)⟩])
  (.seq (.seq (.reg [⟨(.op (.binI .lss (.e ⟨.d0, .d5⟩) (.k (.int .i64 (.ofNat (nat_lit 0)))))), (.env ⟨.d0, .dc⟩)⟩])
  (.cond (.e ⟨.d0, .dc⟩) (.reg [⟨(.op (.mv (.e ⟨.d0, .d5⟩))), .push⟩,
    ⟨(.op (.binI .add (.s (nat_lit 0)) (.e ⟨.d0, .d1⟩))), .push⟩,
    ⟨(.op (.mv (.s (nat_lit 0)))), (.env ⟨.d0, .d5⟩)⟩])
  .skip))
  (.seq (.reg [⟨(.op (.mv (.e ⟨.d0, .d5⟩))), (.env ⟨.d0, .d4⟩)⟩])
  .ret))))),
  [(⟨.d0, .d0⟩, (.int .i64)), (⟨.d0, .d1⟩, (.int .i64))], [.tmp ⟨.d0, .d4⟩]⟩
theorem pf15_ok : prep Tryd.prog 1 ⟨126784, 17⟩ 15 = some pf15.strip := by kernel_rfl
def pf5 : PF := ⟨(.seq (.reg [⟨(.op (.mv (.k (.bool .false)))), (.env ⟨.d0, .d4⟩)⟩])
  (.seq (.reg [⟨(.cast (.tup [.any, (.int .i64)]) (.call ⟨.d0, .d0, .d0, .d8⟩ [(.e ⟨.d0, .d0⟩), (.e ⟨.d0, .d1⟩)])), .push⟩,
    ⟨(.op (.extract (nat_lit 0) (.s (nat_lit 0)))), .push⟩,
    ⟨(.cast (.one (.int .i64)) (.op (.extract (nat_lit 1) (.s (nat_lit 1))))), .push⟩,
    ⟨(.op (.mv (.s (nat_lit 1)))), (.env ⟨.d0, .d5⟩)⟩,
    ⟨(.op (.mv (.s (nat_lit 0)))), (.env ⟨.d0, .d6⟩)⟩])
  (.seq (.seq (.reg [⟨(.cast (.one (.int .i64)) (.op (.len (.e ⟨.d0, .d1⟩)))), .push⟩,
    ⟨(.op (.binI .gtr (.s (nat_lit 0)) (.k (.int .i64 (.ofNat (nat_lit 504)))))), (.env ⟨.d1, .d2⟩)⟩])
  (.cond (.e ⟨.d1, .d2⟩) (.seq (.reg [⟨(.op (.binI .eql (.e ⟨.d0, .d6⟩) (.k (.int .i64 (.ofNat (nat_lit 2)))))), .push⟩,
    ⟨(.guard (.s (nat_lit 0)) .true (.op (.mv (.e ⟨.d0, .d5⟩)))), .push⟩,
    ⟨(.guard (.s (nat_lit 1)) .true (.cast (.one (.int .i64)) (.op (.len (.s (nat_lit 0)))))), .push⟩,
    ⟨(.guard (.s (nat_lit 2)) .true (.op (.binI .eql (.s (nat_lit 0)) (.k (.int .i64 (.ofNat (nat_lit 0))))))), .push⟩,
    ⟨(.cast (.one .bool) (.op (.pick (.s (nat_lit 3)) (.s (nat_lit 0)) (.k (.bool .false))))), .push⟩,
    ⟨(.guard (.s (nat_lit 0)) .true (.cast (.one .bool) (.call ⟨.d0, .d0, .d0, .da⟩ []))), .push⟩,
    ⟨(.cast (.one .bool) (.op (.pick (.s (nat_lit 1)) (.s (nat_lit 0)) (.k (.bool .false))))), .push⟩,
    ⟨(.op (.mv (.s (nat_lit 0)))), (.env ⟨.d0, .d4⟩)⟩])
  .ret)
  .skip))
  (.seq (.reg [⟨(.cast (.tup [(.int .u8), .any, (.int .i64)]) (.call ⟨.d0, .d0, .d0, .db⟩ [(.e ⟨.d0, .d5⟩)])), .push⟩,
    ⟨(.cast (.one (.int .u8)) (.op (.extract (nat_lit 0) (.s (nat_lit 0))))), .push⟩,
    ⟨(.op (.extract (nat_lit 1) (.s (nat_lit 1)))), .push⟩,
    ⟨(.cast (.one (.int .i64)) (.op (.extract (nat_lit 2) (.s (nat_lit 2))))), .push⟩,
    ⟨(.op (.mv (.s (nat_lit 2)))), (.env ⟨.d0, .d7⟩)⟩,
    ⟨(.op (.mv (.s (nat_lit 1)))), (.env ⟨.d0, .d8⟩)⟩,
    ⟨(.op (.mv (.s (nat_lit 0)))), (.env ⟨.d0, .d9⟩)⟩])
  (.seq (.reg [⟨(.op (.binI .eql (.e ⟨.d0, .d6⟩) (.k (.int .i64 (.ofNat (nat_lit 0)))))), .push⟩,
    ⟨(.guard (.s (nat_lit 0)) .true (.op (.mv (.e ⟨.d0, .d9⟩)))), .push⟩,
    ⟨(.guard (.s (nat_lit 1)) .true (.op (.binI .eql (.s (nat_lit 0)) (.k (.int .i64 (.ofNat (nat_lit 0))))))), .push⟩,
    ⟨(.cast (.one .bool) (.op (.pick (.s (nat_lit 2)) (.s (nat_lit 0)) (.k (.bool .false))))), .push⟩,
    ⟨(.guard (.s (nat_lit 0)) .true (.op (.mv (.e ⟨.d0, .d5⟩)))), .push⟩,
    ⟨(.guard (.s (nat_lit 1)) .true (.cast (.one (.int .i64)) (.op (.len (.s (nat_lit 0)))))), .push⟩,
    ⟨(.guard (.s (nat_lit 2)) .true (.op (.binI .eql (.s (nat_lit 0)) (.k (.int .i64 (.ofNat (nat_lit 512))))))), .push⟩,
    ⟨(.cast (.one .bool) (.op (.pick (.s (nat_lit 3)) (.s (nat_lit 0)) (.k (.bool .false))))), .push⟩,
    ⟨(.guard (.s (nat_lit 0)) .true (.op (.mv (.e ⟨.d0, .d7⟩)))), .push⟩,
    ⟨(.guard (.s (nat_lit 1)) .true (.op (.mv (.e ⟨.d0, .d0⟩)))), .push⟩,
    ⟨(.guard (.s (nat_lit 2)) .true (.op (.binI .eql (.s (nat_lit 1)) (.s (nat_lit 0))))), .push⟩,
    ⟨(.cast (.one .bool) (.op (.pick (.s (nat_lit 3)) (.s (nat_lit 0)) (.k (.bool .false))))), .push⟩,
    ⟨(.guard (.s (nat_lit 0)) .true (.op (.mv (.e ⟨.d0, .d8⟩)))), .push⟩,
    ⟨(.guard (.s (nat_lit 1)) .true (.cast (.one .str) (.op (.bytesS (.s (nat_lit 0)))))), .push⟩,
    ⟨(.guard (.s (nat_lit 2)) .true (.op (.mv (.e ⟨.d0, .d1⟩)))), .push⟩,
    ⟨(.guard (.s (nat_lit 3)) .true (.cast (.one .str) (.op (.bytesS (.s (nat_lit 0)))))), .push⟩,
    ⟨(.guard (.s (nat_lit 4)) .true (.op (.binS .eql (.s (nat_lit 2)) (.s (nat_lit 0))))), .push⟩,
    ⟨(.cast (.one .bool) (.op (.pick (.s (nat_lit 5)) (.s (nat_lit 0)) (.k (.bool .false))))), .push⟩,
    ⟨(.guard (.s (nat_lit 0)) .true (.cast (.one .bool) (.call ⟨.d0, .d0, .d0, .da⟩ []))), .push⟩,
    ⟨(.cast (.one .bool) (.op (.pick (.s (nat_lit 1)) (.s (nat_lit 0)) (.k (.bool .false))))), .push⟩,
    ⟨(.op (.mv (.s (nat_lit 0)))), (.env ⟨.d0, .d4⟩)⟩])
  .ret))))),
  [(⟨.d0, .d0⟩, (.int .u8)), (⟨.d0, .d1⟩, .any)], [.tmp ⟨.d0, .d4⟩]⟩
theorem pf5_ok : prep Tryd.prog 1 ⟨2305843009213430784, 61⟩ 5 = some pf5.strip := by kernel_rfl
def pf3 : PF := ⟨(.seq (.reg [⟨(.op (.mv (.k (.bool .false)))), (.env ⟨.d0, .d4⟩)⟩])
  (.seq (.seq (.reg [⟨(.cast (.one (.int .i64)) (.op (.len (.e ⟨.d0, .d1⟩)))), .push⟩,
    ⟨(.op (.binI .gtr (.s (nat_lit 0)) (.k (.int .i64 (.ofNat (nat_lit 2000)))))), (.env ⟨.d0, .df⟩)⟩])
  (.cond (.e ⟨.d0, .df⟩) (.seq (.reg [⟨(.op (.mv (.k (.bool .true)))), (.env ⟨.d0, .d4⟩)⟩])
  .ret)
  .skip))
  (.seq (.reg [⟨(.op (.mv (.k .nils))), (.env ⟨.d0, .d5⟩)⟩])
  (.seq (.reg [⟨(.op (.mv (.e ⟨.d0, .d5⟩))), .push⟩,
    ⟨(.op (.app (nat_lit 1) (.s (nat_lit 0)) (.e ⟨.d0, .d1⟩))), .push⟩,
    ⟨(.op (.mv (.s (nat_lit 0)))), (.env ⟨.d0, .d5⟩)⟩])
  (.seq (.reg [⟨(.cast (.tup [.any, (.int .i64)]) (.call ⟨.d0, .d0, .d0, .d8⟩ [(.e ⟨.d0, .d0⟩), (.e ⟨.d0, .d5⟩)])), .push⟩,
    ⟨(.op (.extract (nat_lit 0) (.s (nat_lit 0)))), .push⟩,
    ⟨(.cast (.one (.int .i64)) (.op (.extract (nat_lit 1) (.s (nat_lit 1))))), .push⟩,
    ⟨(.op (.mv (.s (nat_lit 1)))), (.env ⟨.d0, .d6⟩)⟩,
    ⟨(.op (.mv (.s (nat_lit 0)))), (.env ⟨.d0, .d7⟩)⟩])
  (.seq (.reg [⟨(.cast (.tup [.any, (.int .i64)]) (.call ⟨.d0, .d0, .d0, .d8⟩ [(.e ⟨.d0, .d0⟩), (.e ⟨.d0, .d5⟩)])), .push⟩,
    ⟨(.op (.extract (nat_lit 0) (.s (nat_lit 0)))), .push⟩,
    ⟨(.cast (.one (.int .i64)) (.op (.extract (nat_lit 1) (.s (nat_lit 1))))), .push⟩,
    ⟨(.op (.mv (.s (nat_lit 1)))), (.env ⟨.d0, .d8⟩)⟩,
    ⟨(.op (.mv (.s (nat_lit 0)))), (.env ⟨.d0, .d9⟩)⟩])
  (.seq (.reg [⟨(.cast (.tup [.any, (.int .i64)]) (.call ⟨.d0, .d0, .d0, .d9⟩ [(.e ⟨.d0, .d0⟩), (.e ⟨.d0, .d1⟩)])), .push⟩,
    ⟨(.op (.extract (nat_lit 0) (.s (nat_lit 0)))), .push⟩,
    ⟨(.cast (.one (.int .i64)) (.op (.extract (nat_lit 1) (.s (nat_lit 1))))), .push⟩,
    ⟨(.op (.mv (.s (nat_lit 1)))), (.env ⟨.d0, .da⟩)⟩,
    ⟨(.op (.mv (.s (nat_lit 0)))), (.env ⟨.d0, .db⟩)⟩])
  (.seq (.seq (.reg [⟨(.op (.binI .neq (.e ⟨.d0, .d7⟩) (.e ⟨.d0, .db⟩))), .push⟩,
    ⟨(.guard (.s (nat_lit 0)) .false (.op (.mv (.e ⟨.d0, .d9⟩)))), .push⟩,
    ⟨(.guard (.s (nat_lit 1)) .false (.op (.mv (.e ⟨.d0, .db⟩)))), .push⟩,
    ⟨(.guard (.s (nat_lit 2)) .false (.op (.binI .neq (.s (nat_lit 1)) (.s (nat_lit 0))))), .push⟩,
    ⟨(.cast (.one .bool) (.op (.pick (.s (nat_lit 3)) (.k (.bool .true)) (.s (nat_lit 0))))), .push⟩,
    ⟨(.guard (.s (nat_lit 0)) .false (.op (.mv (.e ⟨.d0, .d6⟩)))), .push⟩,
    ⟨(.guard (.s (nat_lit 1)) .false (.cast (.one .str) (.op (.bytesS (.s (nat_lit 0)))))), .push⟩,
    ⟨(.guard (.s (nat_lit 2)) .false (.op (.mv (.e ⟨.d0, .da⟩)))), .push⟩,
    ⟨(.guard (.s (nat_lit 3)) .false (.cast (.one .str) (.op (.bytesS (.s (nat_lit 0)))))), .push⟩,
    ⟨(.guard (.s (nat_lit 4)) .false (.op (.binS .neq (.s (nat_lit 2)) (.s (nat_lit 0))))), .push⟩,
    ⟨(.cast (.one .bool) (.op (.pick (.s (nat_lit 5)) (.k (.bool .true)) (.s (nat_lit 0))))), .push⟩,
    ⟨(.guard (.s (nat_lit 0)) .false (.op (.mv (.e ⟨.d0, .d8⟩)))), .push⟩,
    ⟨(.guard (.s (nat_lit 1)) .false (.cast (.one .str) (.op (.bytesS (.s (nat_lit 0)))))), .push⟩,
    ⟨(.guard (.s (nat_lit 2)) .false (.op (.mv (.e ⟨.d0, .da⟩)))), .push⟩,
    ⟨(.guard (.s (nat_lit 3)) .false (.cast (.one .str) (.op (.bytesS (.s (nat_lit 0)))))), .push⟩,
    ⟨(.guard (.s (nat_lit 4)) .false (.op (.binS .neq (.s (nat_lit 2)) (.s (nat_lit 0))))), .push⟩,
    ⟨(.cast (.one .bool) (.op (.pick (.s (nat_lit 5)) (.k (.bool .true)) (.s (nat_lit 0))))), .push⟩,
    ⟨(.guard (.s (nat_lit 0)) .false (.op (.mv (.e ⟨.d0, .d5⟩)))), .push⟩,
    ⟨(.guard (.s (nat_lit 1)) .false (.cast (.one .str) (.op (.bytesS (.s (nat_lit 0)))))), .push⟩,
    ⟨(.guard (.s (nat_lit 2)) .false (.op (.mv (.e ⟨.d0, .d1⟩)))), .push⟩,
    ⟨(.guard (.s (nat_lit 3)) .false (.cast (.one .str) (.op (.bytesS (.s (nat_lit 0)))))), .push⟩,
    ⟨(.guard (.s (nat_lit 4)) .false (.op (.binS .neq (.s (nat_lit 2)) (.s (nat_lit 0))))), .push⟩,
    ⟨(.cast (.one .bool) (.op (.pick (.s (nat_lit 5)) (.k (.bool .true)) (.s (nat_lit 0))))), (.env ⟨.d4, .d1⟩)⟩])
  (.cond (.e ⟨.d4, .d1⟩) (.seq (.reg [⟨(.op (.mv (.k (.bool .false)))), (.env ⟨.d0, .d4⟩)⟩])
  .ret)
  .skip))
  (.jn .false [(⟨.d0, .d8⟩, .any), (⟨.d0, .da⟩, .any)] (.seq (.reg [⟨(.op (.mv (.k (.int .i64 (.ofNat (nat_lit 0)))))), (.env ⟨.d0, .dc⟩)⟩])
  (.block (nat_lit 0) (.lpv [(⟨.d0, .d6⟩, .any), (⟨.d0, .d8⟩, .any), (⟨.d0, .da⟩, .any), (⟨.d0, .dc⟩, (.intF .i64))] (.seq (.seq (.reg [⟨(.cast (.one (.int .i64)) (.op (.len (.e ⟨.d0, .d6⟩)))), .push⟩,
    ⟨(.op (.binI .lss (.e ⟨.d0, .dc⟩) (.s (nat_lit 0)))), (.env ⟨.d4, .d5⟩)⟩])
  (.cond (.e ⟨.d4, .d5⟩) .skip
  (.exit (nat_lit 0))))
  (.seq (.block (nat_lit 1) (.reg [⟨(.op (.iaddr (nat_lit 1) (.e ⟨.d0, .d6⟩) (.e ⟨.d0, .dc⟩))), .push⟩,
    ⟨(.op (.store1 (.s (nat_lit 0)) (.k (.int .u8 (.ofNat (nat_lit 238)))))), .no⟩]))
  (.reg [⟨(.op (.mv (.e ⟨.d0, .dc⟩))), .push⟩,
    ⟨(.op (.binI .add (.s (nat_lit 0)) (.k (.int .i64 (.ofNat (nat_lit 1)))))), .push⟩,
    ⟨(.op (.mv (.s (nat_lit 0)))), (.env ⟨.d0, .dc⟩)⟩]))))))
  (.seq (.reg [⟨(.cast (.one .str) (.op (.bytesS (.e ⟨.d0, .d8⟩)))), .push⟩,
    ⟨(.cast (.one .str) (.op (.bytesS (.e ⟨.d0, .da⟩)))), .push⟩,
    ⟨(.op (.binS .eql (.s (nat_lit 1)) (.s (nat_lit 0)))), .push⟩,
    ⟨(.guard (.s (nat_lit 0)) .true (.cast (.one .bool) (.call ⟨.d0, .d0, .d0, .da⟩ []))), .push⟩,
    ⟨(.cast (.one .bool) (.op (.pick (.s (nat_lit 1)) (.s (nat_lit 0)) (.k (.bool .false))))), .push⟩,
    ⟨(.op (.mv (.s (nat_lit 0)))), (.env ⟨.d0, .d4⟩)⟩])
  .ret)))))))))),
  [(⟨.d0, .d0⟩, (.int .u8)), (⟨.d0, .d1⟩, .any)], [.tmp ⟨.d0, .d4⟩]⟩
theorem pf3_ok : prep Tryd.prog 1 ⟨9670779367618527272853504, 83⟩ 3 = some pf3.strip := by kernel_rfl
end Go.Ev.W02
