import Derived.Test.YtnkaolpkdeffiaaDoorEvTop
import Derived.Test.YtnkaolpkdeffiaaDoorProg
import Derived.KernelRfl
namespace Go.Ev.W04
open Go.Proofs
set_option maxRecDepth 100000
def pf9 : PF := ⟨(.seq (.reg [⟨(.op (.mv (.k (.bool .false)))), (.env ⟨.d0, .d0⟩)⟩])
  (.seq (.reg [⟨(.op (.mv (.k (.int .i64 (.ofNat (nat_lit 9223372036854775807)))))), (.env ⟨.d0, .d1⟩)⟩])
  (.seq (.reg [⟨(.op (.binI .sub (.e ⟨.d0, .d1⟩) (.k (.int .i64 (.ofNat (nat_lit 1)))))), .push⟩,
    ⟨(.op (.neg (.e ⟨.d0, .d1⟩))), .push⟩,
    ⟨(.op (.neg (.e ⟨.d0, .d1⟩))), .push⟩,
    ⟨(.op (.binI .sub (.s (nat_lit 0)) (.k (.int .i64 (.ofNat (nat_lit 1)))))), .push⟩,
    ⟨(.op (.buildS (nat_lit 1) (nat_lit 19) [(.int .i64 (.ofNat (nat_lit 0))), (.int .i64 (.ofNat (nat_lit 0))), (.int .i64 (.ofNat (nat_lit 0))), (.int .i64 (.ofNat (nat_lit 0))), (.int .i64 (.ofNat (nat_lit 0))), (.int .i64 (.ofNat (nat_lit 0))), (.int .i64 (.ofNat (nat_lit 0))), (.int .i64 (.ofNat (nat_lit 0))), (.int .i64 (.ofNat (nat_lit 0))), (.int .i64 (.ofNat (nat_lit 0))), (.int .i64 (.ofNat (nat_lit 0))), (.int .i64 (.ofNat (nat_lit 0))), (.int .i64 (.ofNat (nat_lit 0))), (.int .i64 (.ofNat (nat_lit 0))), (.int .i64 (.ofNat (nat_lit 0))), (.int .i64 (.ofNat (nat_lit 0))), (.int .i64 (.ofNat (nat_lit 0))), (.int .i64 (.ofNat (nat_lit 0))), (.int .i64 (.ofNat (nat_lit 0)))] [((nat_lit 0), (nat_lit 1), (.k (.int .i64 (.ofNat (nat_lit 0))))), ((nat_lit 1), (nat_lit 1), (.k (.int .i64 (.ofNat (nat_lit 1))))), ((nat_lit 2), (nat_lit 1), (.k (.int .i64 (.negSucc (nat_lit 0))))), ((nat_lit 3), (nat_lit 1), (.k (.int .i64 (.ofNat (nat_lit 2))))), ((nat_lit 4), (nat_lit 1), (.k (.int .i64 (.negSucc (nat_lit 1))))), ((nat_lit 5), (nat_lit 1), (.k (.int .i64 (.ofNat (nat_lit 7))))), ((nat_lit 6), (nat_lit 1), (.k (.int .i64 (.negSucc (nat_lit 6))))), ((nat_lit 7), (nat_lit 1), (.k (.int .i64 (.ofNat (nat_lit 63))))), ((nat_lit 8), (nat_lit 1), (.k (.int .i64 (.ofNat (nat_lit 64))))), ((nat_lit 9), (nat_lit 1), (.k (.int .i64 (.ofNat (nat_lit 65))))), ((nat_lit 10), (nat_lit 1), (.k (.int .i64 (.negSucc (nat_lit 63))))), ((nat_lit 11), (nat_lit 1), (.k (.int .i64 (.ofNat (nat_lit 255))))), ((nat_lit 12), (nat_lit 1), (.k (.int .i64 (.ofNat (nat_lit 2147483648))))), ((nat_lit 13), (nat_lit 1), (.k (.int .i64 (.ofNat (nat_lit 4294967296))))), ((nat_lit 14), (nat_lit 1), (.k (.int .i64 (.ofNat (nat_lit 4611686018427387904))))), ((nat_lit 15), (nat_lit 1), (.e ⟨.d0, .d1⟩)), ((nat_lit 16), (nat_lit 1), (.s (nat_lit 3))), ((nat_lit 17), (nat_lit 1), (.s (nat_lit 2))), ((nat_lit 18), (nat_lit 1), (.s (nat_lit 0)))])), .push⟩,
    ⟨(.op (.mv (.s (nat_lit 0)))), (.env ⟨.d0, .d2⟩)⟩])
  (.jn .true [(⟨.d0, .d0⟩, .any), (⟨.d0, .d1⟩, (.int .i64)), (⟨.d0, .d2⟩, .any)] (.seq (.reg [⟨(.op (.mv (.k (.int .i64 (.ofNat (nat_lit 0)))))), (.env ⟨.d0, .d3⟩)⟩])
  (.block (nat_lit 0) (.lpv [(⟨.d0, .d1⟩, (.intF .i64)), (⟨.d0, .d2⟩, .any), (⟨.d0, .d3⟩, (.intF .i64))] (.seq (.seq (.reg [⟨(.op (.binI .lss (.e ⟨.d0, .d3⟩) (.k (.int .i64 (.ofNat (nat_lit 30)))))), (.env ⟨.d1, .d6⟩)⟩])
  (.cond (.e ⟨.d1, .d6⟩) .skip
  (.exit (nat_lit 0))))
  (.jn .true [(⟨.d0, .d0⟩, .any), (⟨.d0, .d1⟩, (.int .i64)), (⟨.d0, .d2⟩, .any), (⟨.d0, .d3⟩, (.int .i64))] (.block (nat_lit 1) (.seq (.reg [⟨(.op (.mv (.k (.int .i64 (.ofNat (nat_lit 0)))))), (.env ⟨.d0, .d4⟩)⟩])
  (.block (nat_lit 2) (.lpv [(⟨.d0, .d1⟩, (.intF .i64)), (⟨.d0, .d2⟩, .any), (⟨.d0, .d3⟩, (.intF .i64)), (⟨.d0, .d4⟩, (.intF .i64))] (.seq (.seq (.reg [⟨(.cast (.one (.int .i64)) (.op (.len (.e ⟨.d0, .d2⟩)))), .push⟩,
    ⟨(.op (.binI .lss (.e ⟨.d0, .d4⟩) (.s (nat_lit 0)))), (.env ⟨.d1, .dc⟩)⟩])
  (.cond (.e ⟨.d1, .dc⟩) .skip
  (.exit (nat_lit 2))))
  (.jn .true [(⟨.d0, .d0⟩, .any), (⟨.d0, .d1⟩, (.int .i64)), (⟨.d0, .d2⟩, .any), (⟨.d0, .d3⟩, (.int .i64)), (⟨.d0, .d4⟩, (.int .i64))] (.block (nat_lit 3) (.seq (.reg [⟨(.op (.mv (.k (.int .i64 (.ofNat (nat_lit 0)))))), (.env ⟨.d0, .d5⟩)⟩])
  (.block (nat_lit 4) (.lpv [(⟨.d0, .d1⟩, (.intF .i64)), (⟨.d0, .d2⟩, .any), (⟨.d0, .d3⟩, (.intF .i64)), (⟨.d0, .d4⟩, (.intF .i64)), (⟨.d0, .d5⟩, (.intF .i64))] (.seq (.seq (.reg [⟨(.cast (.one (.int .i64)) (.op (.len (.e ⟨.d0, .d2⟩)))), .push⟩,
    ⟨(.op (.binI .lss (.e ⟨.d0, .d5⟩) (.s (nat_lit 0)))), (.env ⟨.d2, .d2⟩)⟩])
  (.cond (.e ⟨.d2, .d2⟩) .skip
  (.exit (nat_lit 4))))
  (.seq (.block (nat_lit 5) (.seq (.draw [(.light (.op (.mv (.e ⟨.d0, .d3⟩)))),
    (.light (.cast (.one (.int .u8)) (.op (.convI .u8 (.s (nat_lit 0)))))),
    (.light (.op (.mv (.e ⟨.d0, .d2⟩)))),
    (.light (.op (.mv (.e ⟨.d0, .d4⟩)))),
    (.light (.op (.iaddr (nat_lit 1) (.s (nat_lit 2)) (.s (nat_lit 3))))),
    (.light (.cast (.one (.int .i64)) (.op (.load1 (.s (nat_lit 4)))))),
    (.light (.op (.mv (.e ⟨.d0, .d2⟩)))),
    (.light (.op (.mv (.e ⟨.d0, .d5⟩)))),
    (.light (.op (.iaddr (nat_lit 1) (.s (nat_lit 6)) (.s (nat_lit 7))))),
    (.light (.cast (.one (.int .i64)) (.op (.load1 (.s (nat_lit 8)))))),
    (.heavy (.cast (.one .bool) (.call ⟨.d0, .d0, .d0, .d3⟩ [(.s (nat_lit 1)), (.s (nat_lit 5)), (.s (nat_lit 9))]))),
    (.light (.op (.not (.s (nat_lit 10)))))] [(⟨.d3, .d0⟩, (nat_lit 11))])
  (.cond (.e ⟨.d3, .d0⟩) (.seq (.reg [⟨(.op (.mv (.k (.bool .false)))), (.env ⟨.d0, .d0⟩)⟩])
  .ret)
  .skip)))
  (.reg [⟨(.op (.mv (.e ⟨.d0, .d5⟩))), .push⟩,
    ⟨(.op (.binI .add (.s (nat_lit 0)) (.k (.int .i64 (.ofNat (nat_lit 1)))))), .push⟩,
    ⟨(.op (.mv (.s (nat_lit 0)))), (.env ⟨.d0, .d5⟩)⟩])))))))
  (.reg [⟨(.op (.mv (.e ⟨.d0, .d4⟩))), .push⟩,
    ⟨(.op (.binI .add (.s (nat_lit 0)) (.k (.int .i64 (.ofNat (nat_lit 1)))))), .push⟩,
    ⟨(.op (.mv (.s (nat_lit 0)))), (.env ⟨.d0, .d4⟩)⟩])))))))
  (.reg [⟨(.op (.mv (.e ⟨.d0, .d3⟩))), .push⟩,
    ⟨(.op (.binI .add (.s (nat_lit 0)) (.k (.int .i64 (.ofNat (nat_lit 1)))))), .push⟩,
    ⟨(.op (.mv (.s (nat_lit 0)))), (.env ⟨.d0, .d3⟩)⟩]))))))
  (.jn .true [(⟨.d0, .d0⟩, .any), (⟨.d0, .d1⟩, (.int .i64))] (.seq (.reg [⟨(.op (.mv (.k (.int .i64 (.ofNat (nat_lit 0)))))), (.env ⟨.d0, .d6⟩)⟩])
  (.block (nat_lit 6) (.lpv [(⟨.d0, .d1⟩, (.intF .i64)), (⟨.d0, .d2⟩, .any), (⟨.d0, .d6⟩, (.intF .i64))] (.seq (.seq (.reg [⟨(.cast (.one (.int .i64)) (.op (.len (.e ⟨.d0, .d2⟩)))), .push⟩,
    ⟨(.op (.binI .lss (.e ⟨.d0, .d6⟩) (.s (nat_lit 0)))), (.env ⟨.d3, .d4⟩)⟩])
  (.cond (.e ⟨.d3, .d4⟩) .skip
  (.exit (nat_lit 6))))
  (.jn .true [(⟨.d0, .d0⟩, .any), (⟨.d0, .d1⟩, (.int .i64)), (⟨.d0, .d2⟩, .any), (⟨.d0, .d6⟩, (.int .i64))] (.block (nat_lit 7) (.jn .true [(⟨.d0, .d0⟩, .any), (⟨.d0, .d1⟩, (.int .i64)), (⟨.d0, .d2⟩, .any), (⟨.d0, .d6⟩, (.int .i64))] (.seq (.reg [⟨(.op (.mv (.k (.int .i64 (.ofNat (nat_lit 0)))))), (.env ⟨.d0, .d7⟩)⟩])
  (.block (nat_lit 8) (.lpv [(⟨.d0, .d1⟩, (.intF .i64)), (⟨.d0, .d2⟩, .any), (⟨.d0, .d6⟩, (.intF .i64)), (⟨.d0, .d7⟩, (.intF .i64))] (.seq (.seq (.reg [⟨(.cast (.one (.int .i64)) (.op (.len (.e ⟨.d0, .d2⟩)))), .push⟩,
    ⟨(.op (.binI .lss (.e ⟨.d0, .d7⟩) (.s (nat_lit 0)))), (.env ⟨.d3, .da⟩)⟩])
  (.cond (.e ⟨.d3, .da⟩) .skip
  (.exit (nat_lit 8))))
  (.seq (.block (nat_lit 9) (.seq (.draw [(.light (.op (.mv (.e ⟨.d0, .d2⟩)))),
    (.light (.op (.mv (.e ⟨.d0, .d6⟩)))),
    (.light (.op (.iaddr (nat_lit 1) (.s (nat_lit 0)) (.s (nat_lit 1))))),
    (.light (.cast (.one (.int .i64)) (.op (.load1 (.s (nat_lit 2)))))),
    (.light (.op (.mv (.e ⟨.d0, .d2⟩)))),
    (.light (.op (.mv (.e ⟨.d0, .d7⟩)))),
    (.light (.op (.iaddr (nat_lit 1) (.s (nat_lit 4)) (.s (nat_lit 5))))),
    (.light (.cast (.one (.int .i64)) (.op (.load1 (.s (nat_lit 6)))))),
    (.heavy (.cast (.one .bool) (.call ⟨.d0, .d0, .d0, .d4⟩ [(.s (nat_lit 3)), (.s (nat_lit 7))]))),
    (.light (.op (.not (.s (nat_lit 8))))),
    (.light (.op (.mv (.s (nat_lit 9))))),
    (.light (.guard (.s (nat_lit 10)) .false (.op (.mv (.e ⟨.d0, .d2⟩))))),
    (.light (.guard (.s (nat_lit 10)) .false (.op (.mv (.e ⟨.d0, .d6⟩))))),
    (.light (.guard (.s (nat_lit 10)) .false (.op (.iaddr (nat_lit 1) (.s (nat_lit 11)) (.s (nat_lit 12)))))),
    (.light (.guard (.s (nat_lit 10)) .false (.cast (.one (.int .i64)) (.op (.load1 (.s (nat_lit 13))))))),
    (.light (.guard (.s (nat_lit 10)) .false (.op (.mv (.e ⟨.d0, .d2⟩))))),
    (.light (.guard (.s (nat_lit 10)) .false (.op (.mv (.e ⟨.d0, .d7⟩))))),
    (.light (.guard (.s (nat_lit 10)) .false (.op (.iaddr (nat_lit 1) (.s (nat_lit 15)) (.s (nat_lit 16)))))),
    (.light (.guard (.s (nat_lit 10)) .false (.cast (.one (.int .i64)) (.op (.load1 (.s (nat_lit 17))))))),
    (.light (.guard (.s (nat_lit 10)) .false (.op (.mv (.e ⟨.d0, .d2⟩))))),
    (.light (.guard (.s (nat_lit 10)) .false (.op (.mv (.e ⟨.d0, .d6⟩))))),
    (.light (.guard (.s (nat_lit 10)) .false (.op (.mv (.e ⟨.d0, .d7⟩))))),
    (.light (.guard (.s (nat_lit 10)) .false (.op (.binI .add (.s (nat_lit 20)) (.s (nat_lit 21)))))),
    (.light (.guard (.s (nat_lit 10)) .false (.op (.mv (.e ⟨.d0, .d2⟩))))),
    (.light (.guard (.s (nat_lit 10)) .false (.cast (.one (.int .i64)) (.op (.len (.s (nat_lit 23))))))),
    (.light (.guard (.s (nat_lit 10)) .false (.op (.binI .rem (.s (nat_lit 22)) (.s (nat_lit 24)))))),
    (.light (.guard (.s (nat_lit 10)) .false (.op (.iaddr (nat_lit 1) (.s (nat_lit 19)) (.s (nat_lit 25)))))),
    (.light (.guard (.s (nat_lit 10)) .false (.cast (.one (.int .i64)) (.op (.load1 (.s (nat_lit 26))))))),
    (.heavy (.guard (.s (nat_lit 10)) .false (.cast (.one .bool) (.call ⟨.d0, .d0, .d0, .d5⟩ [(.s (nat_lit 14)), (.s (nat_lit 18)), (.s (nat_lit 27))])))),
    (.light (.guard (.s (nat_lit 10)) .false (.op (.not (.s (nat_lit 28)))))),
    (.light (.cast (.one .bool) (.op (.pick (.s (nat_lit 10)) (.k (.bool .true)) (.s (nat_lit 29))))))] [(⟨.d5, .db⟩, (nat_lit 30))])
  (.cond (.e ⟨.d5, .db⟩) (.seq (.reg [⟨(.op (.mv (.k (.bool .false)))), (.env ⟨.d0, .d0⟩)⟩])
  .ret)
  .skip)))
  (.reg [⟨(.op (.mv (.e ⟨.d0, .d7⟩))), .push⟩,
    ⟨(.op (.binI .add (.s (nat_lit 0)) (.k (.int .i64 (.ofNat (nat_lit 1)))))), .push⟩,
    ⟨(.op (.mv (.s (nat_lit 0)))), (.env ⟨.d0, .d7⟩)⟩]))))))
  (.seq (.reg [⟨(.op (.iaddr (nat_lit 1) (.e ⟨.d0, .d2⟩) (.e ⟨.d0, .d6⟩))), .push⟩,
    ⟨(.cast (.one (.int .i64)) (.op (.load1 (.s (nat_lit 0))))), .push⟩,
    ⟨(.cast (.one .bool) (.call ⟨.d0, .d0, .d0, .d6⟩ [(.s (nat_lit 0)), (.k (.str (nat_lit 0) (nat_lit 0)))])), .push⟩,
    ⟨(.op (.not (.s (nat_lit 0)))), (.env ⟨.d6, .d1⟩)⟩])
  (.cond (.e ⟨.d6, .d1⟩) (.seq (.reg [⟨(.op (.mv (.k (.bool .false)))), (.env ⟨.d0, .d0⟩)⟩])
  .ret)
  .skip))))
  (.reg [⟨(.op (.mv (.e ⟨.d0, .d6⟩))), .push⟩,
    ⟨(.op (.binI .add (.s (nat_lit 0)) (.k (.int .i64 (.ofNat (nat_lit 1)))))), .push⟩,
    ⟨(.op (.mv (.s (nat_lit 0)))), (.env ⟨.d0, .d6⟩)⟩]))))))
  (.seq (.seq (.reg [⟨(.op (.buildS (nat_lit 1) (nat_lit 29) [(.str (nat_lit 0) (nat_lit 0)), (.str (nat_lit 0) (nat_lit 0)), (.str (nat_lit 0) (nat_lit 0)), (.str (nat_lit 0) (nat_lit 0)), (.str (nat_lit 0) (nat_lit 0)), (.str (nat_lit 0) (nat_lit 0)), (.str (nat_lit 0) (nat_lit 0)), (.str (nat_lit 0) (nat_lit 0)), (.str (nat_lit 0) (nat_lit 0)), (.str (nat_lit 0) (nat_lit 0)), (.str (nat_lit 0) (nat_lit 0)), (.str (nat_lit 0) (nat_lit 0)), (.str (nat_lit 0) (nat_lit 0)), (.str (nat_lit 0) (nat_lit 0)), (.str (nat_lit 0) (nat_lit 0)), (.str (nat_lit 0) (nat_lit 0)), (.str (nat_lit 0) (nat_lit 0)), (.str (nat_lit 0) (nat_lit 0)), (.str (nat_lit 0) (nat_lit 0)), (.str (nat_lit 0) (nat_lit 0)), (.str (nat_lit 0) (nat_lit 0)), (.str (nat_lit 0) (nat_lit 0)), (.str (nat_lit 0) (nat_lit 0)), (.str (nat_lit 0) (nat_lit 0)), (.str (nat_lit 0) (nat_lit 0)), (.str (nat_lit 0) (nat_lit 0)), (.str (nat_lit 0) (nat_lit 0)), (.str (nat_lit 0) (nat_lit 0)), (.str (nat_lit 0) (nat_lit 0))] [((nat_lit 0), (nat_lit 1), (.k (.str (nat_lit 0) (nat_lit 0)))), ((nat_lit 1), (nat_lit 1), (.k (.str (nat_lit 1) (nat_lit 97)))), ((nat_lit 2), (nat_lit 1), (.k (.str (nat_lit 4) (nat_lit 1654965089)))), ((nat_lit 3), (nat_lit 1), (.k (.str (nat_lit 3) (nat_lit 16722115)))), ((nat_lit 4), (nat_lit 1), (.k (.str (nat_lit 2) (nat_lit 33506)))), ((nat_lit 5), (nat_lit 1), (.k (.str (nat_lit 3) (nat_lit 11305698)))), ((nat_lit 6), (nat_lit 1), (.k (.str (nat_lit 5) (nat_lit 143891406832)))), ((nat_lit 7), (nat_lit 1), (.k (.str (nat_lit 3) (nat_lit 8429805)))), ((nat_lit 8), (nat_lit 1), (.k (.str (nat_lit 2) (nat_lit 32960)))), ((nat_lit 9), (nat_lit 1), (.k (.str (nat_lit 4) (nat_lit 2155909364)))), ((nat_lit 10), (nat_lit 1), (.k (.str (nat_lit 3) (nat_lit 12435439)))), ((nat_lit 11), (nat_lit 1), (.k (.str (nat_lit 3) (nat_lit 3616816)))), ((nat_lit 12), (nat_lit 1), (.k (.str (nat_lit 4) (nat_lit 925904941)))), ((nat_lit 13), (nat_lit 1), (.k (.str (nat_lit 1) (nat_lit 45)))), ((nat_lit 14), (nat_lit 1), (.k (.str (nat_lit 3) (nat_lit 3222829)))), ((nat_lit 15), (nat_lit 1), (.k (.str (nat_lit 2) (nat_lit 12587)))), ((nat_lit 16), (nat_lit 1), (.k (.str (nat_lit 2) (nat_lit 8241)))), ((nat_lit 17), (nat_lit 1), (.k (.str (nat_lit 2) (nat_lit 12576)))), ((nat_lit 18), (nat_lit 1), (.k (.str (nat_lit 1) (nat_lit 48)))), ((nat_lit 19), (nat_lit 1), (.k (.str (nat_lit 2) (nat_lit 12333)))), ((nat_lit 20), (nat_lit 1), (.k (.str (nat_lit 19) (nat_lit 1230741502192236109860726086716250637626126905)))), ((nat_lit 21), (nat_lit 1), (.k (.str (nat_lit 19) (nat_lit 1253042247390766733002261804988898999132107321)))), ((nat_lit 22), (nat_lit 1), (.k (.str (nat_lit 20) (nat_lit 320778815332036283648579022077158143777819474221)))), ((nat_lit 23), (nat_lit 1), (.k (.str (nat_lit 20) (nat_lit 326487806102860123172812165954956124323350460717)))), ((nat_lit 24), (nat_lit 1), (.k (.str (nat_lit 29) (nat_lit 1326112200180668529194150471515636186429140009772260394629343464140848)))), ((nat_lit 25), (nat_lit 1), (.k (.str (nat_lit 2) (nat_lit 24881)))), ((nat_lit 26), (nat_lit 1), (.k (.str (nat_lit 2) (nat_lit 41433)))), ((nat_lit 27), (nat_lit 1), (.k (.str (nat_lit 1) (nat_lit 47)))), ((nat_lit 28), (nat_lit 1), (.k (.str (nat_lit 1) (nat_lit 58))))])), (.env ⟨.d6, .d2⟩)⟩,
    ⟨(.cast (.one (.int .i64)) (.op (.len (.e ⟨.d6, .d2⟩)))), (.env ⟨.d6, .d3⟩)⟩,
    ⟨(.op (.mv (.k (.int .i64 (.ofNat (nat_lit 0)))))), (.env ⟨.d6, .d4⟩)⟩])
  (.block (nat_lit 10) (.lpv [(⟨.d0, .d1⟩, (.intF .i64)), (⟨.d6, .d2⟩, .any), (⟨.d6, .d3⟩, (.intF .i64)), (⟨.d6, .d4⟩, (.intF .i64))] (.seq (.reg [⟨(.op (.binI .lss (.e ⟨.d6, .d4⟩) (.e ⟨.d6, .d3⟩))), (.env ⟨.d6, .d5⟩)⟩])
  (.seq (.cond (.e ⟨.d6, .d5⟩) .skip
  (.exit (nat_lit 10)))
  (.seq (.block (nat_lit 11) (.seq (.reg [⟨(.op (.iaddr (nat_lit 1) (.e ⟨.d6, .d2⟩) (.e ⟨.d6, .d4⟩))), .push⟩,
    ⟨(.cast (.one .str) (.op (.load1 (.s (nat_lit 0))))), .push⟩,
    ⟨(.op (.mv (.s (nat_lit 0)))), (.env ⟨.d0, .d9⟩)⟩])
  (.jn .true [(⟨.d0, .d0⟩, .any), (⟨.d0, .d1⟩, (.int .i64)), (⟨.d0, .d9⟩, .str), (⟨.d6, .d2⟩, .any), (⟨.d6, .d3⟩, (.int .i64)), (⟨.d6, .d4⟩, (.int .i64))] (.seq (.reg [⟨(.op (.mv (.k (.int .i64 (.negSucc (nat_lit 0)))))), (.env ⟨.d0, .da⟩)⟩])
  (.block (nat_lit 12) (.lpv [(⟨.d0, .d1⟩, (.intF .i64)), (⟨.d0, .d9⟩, .str), (⟨.d0, .da⟩, (.intF .i64)), (⟨.d6, .d2⟩, .any), (⟨.d6, .d3⟩, (.intF .i64)), (⟨.d6, .d4⟩, (.intF .i64))] (.seq (.seq (.reg [⟨(.op (.binI .lss (.e ⟨.d0, .da⟩) (.k (.int .i64 (.ofNat (nat_lit 5)))))), (.env ⟨.d6, .d9⟩)⟩])
  (.cond (.e ⟨.d6, .d9⟩) .skip
  (.exit (nat_lit 12))))
  (.jn .true [(⟨.d0, .d0⟩, .any), (⟨.d0, .d1⟩, (.int .i64)), (⟨.d0, .d9⟩, .str), (⟨.d0, .da⟩, (.int .i64)), (⟨.d6, .d2⟩, .any), (⟨.d6, .d3⟩, (.int .i64)), (⟨.d6, .d4⟩, (.int .i64))] (.block (nat_lit 13) (.seq (.reg [⟨(.op (.mv (.k (.int .i64 (.negSucc (nat_lit 0)))))), (.env ⟨.d0, .db⟩)⟩])
  (.block (nat_lit 14) (.lpv [(⟨.d0, .d1⟩, (.intF .i64)), (⟨.d0, .d9⟩, .str), (⟨.d0, .da⟩, (.intF .i64)), (⟨.d0, .db⟩, (.intF .i64)), (⟨.d6, .d2⟩, .any), (⟨.d6, .d3⟩, (.intF .i64)), (⟨.d6, .d4⟩, (.intF .i64))] (.seq (.seq (.reg [⟨(.op (.binI .lss (.e ⟨.d0, .db⟩) (.k (.int .i64 (.ofNat (nat_lit 5)))))), (.env ⟨.d6, .dd⟩)⟩])
  (.cond (.e ⟨.d6, .dd⟩) .skip
  (.exit (nat_lit 14))))
  (.seq (.block (nat_lit 15) (.seq (.reg [⟨(.cast (.one .bool) (.call ⟨.d0, .d0, .d0, .d7⟩ [(.e ⟨.d0, .d9⟩), (.k (.str (nat_lit 1) (nat_lit 120))), (.e ⟨.d0, .da⟩), (.e ⟨.d0, .db⟩)])), .push⟩,
    ⟨(.op (.not (.s (nat_lit 0)))), (.env ⟨.d7, .d4⟩)⟩])
  (.cond (.e ⟨.d7, .d4⟩) (.seq (.reg [⟨(.op (.mv (.k (.bool .false)))), (.env ⟨.d0, .d0⟩)⟩])
  .ret)
  .skip)))
  (.reg [⟨(.op (.mv (.e ⟨.d0, .db⟩))), .push⟩,
    ⟨(.op (.binI .add (.s (nat_lit 0)) (.k (.int .i64 (.ofNat (nat_lit 1)))))), .push⟩,
    ⟨(.op (.mv (.s (nat_lit 0)))), (.env ⟨.d0, .db⟩)⟩])))))))
  (.reg [⟨(.op (.mv (.e ⟨.d0, .da⟩))), .push⟩,
    ⟨(.op (.binI .add (.s (nat_lit 0)) (.k (.int .i64 (.ofNat (nat_lit 1)))))), .push⟩,
    ⟨(.op (.mv (.s (nat_lit 0)))), (.env ⟨.d0, .da⟩)⟩]))))))
  (.seq (.reg [⟨(.cast (.one .bool) (.call ⟨.d0, .d0, .d0, .d7⟩ [(.e ⟨.d0, .d9⟩), (.e ⟨.d0, .d9⟩), (.e ⟨.d0, .d1⟩), (.k (.int .i64 (.ofNat (nat_lit 1))))])), .push⟩,
    ⟨(.op (.not (.s (nat_lit 0)))), .push⟩,
    ⟨(.guard (.s (nat_lit 0)) .false (.op (.mv (.e ⟨.d0, .d9⟩)))), .push⟩,
    ⟨(.guard (.s (nat_lit 1)) .false (.op (.mv (.e ⟨.d0, .d9⟩)))), .push⟩,
    ⟨(.guard (.s (nat_lit 2)) .false (.op (.mv (.e ⟨.d0, .d1⟩)))), .push⟩,
    ⟨(.guard (.s (nat_lit 3)) .false (.cast (.one .bool) (.call ⟨.d0, .d0, .d0, .d7⟩ [(.s (nat_lit 2)), (.s (nat_lit 1)), (.k (.int .i64 (.ofNat (nat_lit 1)))), (.s (nat_lit 0))]))), .push⟩,
    ⟨(.guard (.s (nat_lit 4)) .false (.op (.not (.s (nat_lit 0))))), .push⟩,
    ⟨(.cast (.one .bool) (.op (.pick (.s (nat_lit 5)) (.k (.bool .true)) (.s (nat_lit 0))))), .push⟩,
    ⟨(.guard (.s (nat_lit 0)) .false (.op (.mv (.e ⟨.d0, .d9⟩)))), .push⟩,
    ⟨(.guard (.s (nat_lit 1)) .false (.op (.mv (.e ⟨.d0, .d9⟩)))), .push⟩,
    ⟨(.guard (.s (nat_lit 2)) .false (.op (.mv (.e ⟨.d0, .d1⟩)))), .push⟩,
    ⟨(.guard (.s (nat_lit 3)) .false (.op (.neg (.s (nat_lit 0))))), .push⟩,
    ⟨(.guard (.s (nat_lit 4)) .false (.op (.binI .sub (.s (nat_lit 0)) (.k (.int .i64 (.ofNat (nat_lit 1))))))), .push⟩,
    ⟨(.guard (.s (nat_lit 5)) .false (.op (.mv (.e ⟨.d0, .d1⟩)))), .push⟩,
    ⟨(.guard (.s (nat_lit 6)) .false (.op (.neg (.s (nat_lit 0))))), .push⟩,
    ⟨(.guard (.s (nat_lit 7)) .false (.op (.binI .sub (.s (nat_lit 0)) (.k (.int .i64 (.ofNat (nat_lit 1))))))), .push⟩,
    ⟨(.guard (.s (nat_lit 8)) .false (.cast (.one .bool) (.call ⟨.d0, .d0, .d0, .d7⟩ [(.s (nat_lit 7)), (.s (nat_lit 6)), (.s (nat_lit 3)), (.s (nat_lit 0))]))), .push⟩,
    ⟨(.guard (.s (nat_lit 9)) .false (.op (.not (.s (nat_lit 0))))), .push⟩,
    ⟨(.cast (.one .bool) (.op (.pick (.s (nat_lit 10)) (.k (.bool .true)) (.s (nat_lit 0))))), .push⟩,
    ⟨(.guard (.s (nat_lit 0)) .false (.op (.mv (.e ⟨.d0, .d9⟩)))), .push⟩,
    ⟨(.guard (.s (nat_lit 1)) .false (.cast (.one .bool) (.call ⟨.d0, .d0, .d0, .d8⟩ [(.s (nat_lit 0)), (.k (.int .i64 (.ofNat (nat_lit 1))))]))), .push⟩,
    ⟨(.guard (.s (nat_lit 2)) .false (.op (.not (.s (nat_lit 0))))), .push⟩,
    ⟨(.cast (.one .bool) (.op (.pick (.s (nat_lit 3)) (.k (.bool .true)) (.s (nat_lit 0))))), .push⟩,
    ⟨(.guard (.s (nat_lit 0)) .false (.op (.mv (.e ⟨.d0, .d9⟩)))), .push⟩,
    ⟨(.guard (.s (nat_lit 1)) .false (.cast (.one .bool) (.call ⟨.d0, .d0, .d0, .d8⟩ [(.s (nat_lit 0)), (.k (.int .i64 (.negSucc (nat_lit 1))))]))), .push⟩,
    ⟨(.guard (.s (nat_lit 2)) .false (.op (.not (.s (nat_lit 0))))), .push⟩,
    ⟨(.cast (.one .bool) (.op (.pick (.s (nat_lit 3)) (.k (.bool .true)) (.s (nat_lit 0))))), .push⟩,
    ⟨(.guard (.s (nat_lit 0)) .false (.op (.mv (.e ⟨.d0, .d9⟩)))), .push⟩,
    ⟨(.guard (.s (nat_lit 1)) .false (.cast (.one .bool) (.call ⟨.d0, .d0, .d0, .d6⟩ [(.k (.int .i64 (.ofNat (nat_lit 1)))), (.s (nat_lit 0))]))), .push⟩,
    ⟨(.guard (.s (nat_lit 2)) .false (.op (.not (.s (nat_lit 0))))), .push⟩,
    ⟨(.cast (.one .bool) (.op (.pick (.s (nat_lit 3)) (.k (.bool .true)) (.s (nat_lit 0))))), (.env ⟨.d9, .db⟩)⟩])
  (.cond (.e ⟨.d9, .db⟩) (.seq (.reg [⟨(.op (.mv (.k (.bool .false)))), (.env ⟨.d0, .d0⟩)⟩])
  .ret)
  .skip)))))
  (.reg [⟨(.op (.binI .add (.e ⟨.d6, .d4⟩) (.k (.int .i64 (.ofNat (nat_lit 1)))))), .push⟩,
    ⟨(.op (.mv (.s (nat_lit 0)))), (.env ⟨.d6, .d4⟩)⟩])))))))
  (.seq (.reg [⟨(.cast (.one .bool) (.call ⟨.d0, .d0, .d0, .de⟩ [])), .push⟩,
    ⟨(.op (.mv (.s (nat_lit 0)))), (.env ⟨.d0, .d0⟩)⟩])
  .ret))))))),
  [], [.tmp ⟨.d0, .d0⟩]⟩
theorem pf9_ok : prep Tryd.prog 2 ⟨319703483166051242090771019794583301584192532480, 158⟩ 9 = some pf9.strip := by kernel_rfl
def pf14 : PF := ⟨(.seq (.reg [⟨(.op (.mv (.k (.bool .false)))), (.env ⟨.d0, .d0⟩)⟩])
  (.seq (.reg [⟨(.cast (.tup [(.int .i64), .bool]) (.call ⟨.d0, .d0, .d0, .da⟩ [(.k (.int .u8 (.ofNat (nat_lit 10)))), (.k (.int .i64 (.ofNat (nat_lit 9223372036854775807)))), (.k (.int .i64 (.ofNat (nat_lit 1))))])), .push⟩,
    ⟨(.cast (.one (.int .i64)) (.op (.extract (nat_lit 0) (.s (nat_lit 0))))), .push⟩,
    ⟨(.cast (.one .bool) (.op (.extract (nat_lit 1) (.s (nat_lit 1))))), .push⟩,
    ⟨(.op (.mv (.s (nat_lit 1)))), (.env ⟨.d0, .d1⟩)⟩,
    ⟨(.op (.mv (.s (nat_lit 0)))), (.env ⟨.d0, .d2⟩)⟩])
  (.seq (.reg [⟨(.cast (.tup [.str, .bool]) (.call ⟨.d0, .d0, .d1, .d3⟩ [(.k (.str (nat_lit 4) (nat_lit 1654965089))), (.k (.int .i64 (.ofNat (nat_lit 1)))), (.k (.int .i64 (.ofNat (nat_lit 1))))])), .push⟩,
    ⟨(.cast (.one .str) (.op (.extract (nat_lit 0) (.s (nat_lit 0))))), .push⟩,
    ⟨(.cast (.one .bool) (.op (.extract (nat_lit 1) (.s (nat_lit 1))))), .push⟩,
    ⟨(.op (.mv (.s (nat_lit 1)))), (.env ⟨.d0, .d3⟩)⟩,
    ⟨(.op (.mv (.s (nat_lit 0)))), (.env ⟨.d0, .d4⟩)⟩])
  (.seq (.reg [⟨(.cast (.tup [(.int .i64), .bool]) (.call ⟨.d0, .d0, .d1, .d1⟩ [(.k (.str (nat_lit 4) (nat_lit 925904941)))])), .push⟩,
    ⟨(.cast (.one (.int .i64)) (.op (.extract (nat_lit 0) (.s (nat_lit 0))))), .push⟩,
    ⟨(.cast (.one .bool) (.op (.extract (nat_lit 1) (.s (nat_lit 1))))), .push⟩,
    ⟨(.op (.mv (.s (nat_lit 1)))), (.env ⟨.d0, .d5⟩)⟩,
    ⟨(.op (.mv (.s (nat_lit 0)))), (.env ⟨.d0, .d6⟩)⟩])
  (.seq (.reg [⟨(.op (.binI .eql (.e ⟨.d0, .d1⟩) (.k (.int .i64 (.negSucc (nat_lit 9223372036854775807)))))), .push⟩,
    ⟨(.guard (.s (nat_lit 0)) .true (.op (.mv (.e ⟨.d0, .d2⟩)))), .push⟩,
    ⟨(.cast (.one .bool) (.op (.pick (.s (nat_lit 1)) (.s (nat_lit 0)) (.k (.bool .false))))), .push⟩,
    ⟨(.guard (.s (nat_lit 0)) .true (.op (.mv (.e ⟨.d0, .d3⟩)))), .push⟩,
    ⟨(.guard (.s (nat_lit 1)) .true (.op (.binS .eql (.s (nat_lit 0)) (.k (.str (nat_lit 2) (nat_lit 42179)))))), .push⟩,
    ⟨(.cast (.one .bool) (.op (.pick (.s (nat_lit 2)) (.s (nat_lit 0)) (.k (.bool .false))))), .push⟩,
    ⟨(.guard (.s (nat_lit 0)) .true (.op (.mv (.e ⟨.d0, .d4⟩)))), .push⟩,
    ⟨(.cast (.one .bool) (.op (.pick (.s (nat_lit 1)) (.s (nat_lit 0)) (.k (.bool .false))))), .push⟩,
    ⟨(.guard (.s (nat_lit 0)) .true (.op (.mv (.e ⟨.d0, .d5⟩)))), .push⟩,
    ⟨(.guard (.s (nat_lit 1)) .true (.op (.binI .eql (.s (nat_lit 0)) (.k (.int .i64 (.negSucc (nat_lit 6))))))), .push⟩,
    ⟨(.cast (.one .bool) (.op (.pick (.s (nat_lit 2)) (.s (nat_lit 0)) (.k (.bool .false))))), .push⟩,
    ⟨(.guard (.s (nat_lit 0)) .true (.op (.mv (.e ⟨.d0, .d6⟩)))), .push⟩,
    ⟨(.cast (.one .bool) (.op (.pick (.s (nat_lit 1)) (.s (nat_lit 0)) (.k (.bool .false))))), .push⟩,
    ⟨(.guard (.s (nat_lit 0)) .true (.cast (.one .str) (.call ⟨.d0, .d0, .d1, .d2⟩ [(.k (.int .i64 (.negSucc (nat_lit 11))))]))), .push⟩,
    ⟨(.guard (.s (nat_lit 1)) .true (.op (.binS .eql (.s (nat_lit 0)) (.k (.str (nat_lit 3) (nat_lit 3289389)))))), .push⟩,
    ⟨(.cast (.one .bool) (.op (.pick (.s (nat_lit 2)) (.s (nat_lit 0)) (.k (.bool .false))))), .push⟩,
    ⟨(.guard (.s (nat_lit 0)) .true (.cast (.one (.int .i64)) (.call ⟨.d0, .d0, .d0, .dc⟩ [(.k (.int .u8 (.ofNat (nat_lit 9)))), (.k (.int .i64 (.ofNat (nat_lit 0))))]))), .push⟩,
    ⟨(.guard (.s (nat_lit 1)) .true (.op (.binI .eql (.s (nat_lit 0)) (.k (.int .i64 (.negSucc (nat_lit 0))))))), .push⟩,
    ⟨(.cast (.one .bool) (.op (.pick (.s (nat_lit 2)) (.s (nat_lit 0)) (.k (.bool .false))))), .push⟩,
    ⟨(.op (.mv (.s (nat_lit 0)))), (.env ⟨.d0, .d0⟩)⟩])
  .ret))))),
  [], [.tmp ⟨.d0, .d0⟩]⟩
theorem pf14_ok : prep Tryd.prog 2 ⟨70368744177536, 46⟩ 14 = some pf14.strip := by kernel_rfl
def pf12 : PF := ⟨(.seq (.reg [⟨(.op (.mv (.k (.int .i64 (.ofNat (nat_lit 0)))))), (.env ⟨.d0, .d4⟩)⟩])
  (.seq (.seq (.reg [⟨(.op (.mv (.e ⟨.d0, .d0⟩))), (.env ⟨.d0, .d5⟩)⟩])
  (.block (nat_lit 0) (.seq (.block (nat_lit 2) (.seq (.block (nat_lit 1) (.seq (.seq (.seq (.reg [⟨(.op (.binI .eql (.e ⟨.d0, .d5⟩) (.k (.int .u8 (.ofNat (nat_lit 9)))))), .push⟩,
    ⟨(.op (.mv (.s (nat_lit 0)))), (.env ⟨.d0, .d6⟩)⟩])
  (.cond (.e ⟨.d0, .d6⟩) (.exit (nat_lit 1))
  .skip))
  (.seq (.reg [⟨(.op (.binI .eql (.e ⟨.d0, .d5⟩) (.k (.int .u8 (.ofNat (nat_lit 8)))))), .push⟩,
    ⟨(.op (.mv (.s (nat_lit 0)))), (.env ⟨.d0, .d8⟩)⟩])
  (.cond (.e ⟨.d0, .d8⟩) (.exit (nat_lit 2))
  .skip)))
  (.exit (nat_lit 0))))
  (.reg [⟨(.op (.mv (.e ⟨.d0, .d1⟩))), .push⟩,
    ⟨(.op (.binI .add (.s (nat_lit 0)) (.k (.int .i64 (.ofNat (nat_lit 1)))))), .push⟩,
    ⟨(.op (.mv (.s (nat_lit 0)))), (.env ⟨.d0, .d1⟩)⟩])))
  (.seq (.seq (.reg [⟨(.op (.neg (.e ⟨.d0, .d1⟩))), .push⟩,
    ⟨(.op (.mv (.s (nat_lit 0)))), (.env ⟨.d0, .d4⟩)⟩])
  .ret)
  (.exit (nat_lit 0))))))
  (.seq (.reg [⟨(.op (.mv (.k (.int .i64 (.ofNat (nat_lit 0)))))), (.env ⟨.d0, .d4⟩)⟩])
  .ret))),
  [(⟨.d0, .d0⟩, (.int .u8)), (⟨.d0, .d1⟩, (.int .i64))], [.tmp ⟨.d0, .d4⟩]⟩
theorem pf12_ok : prep Tryd.prog 2 ⟨16000, 14⟩ 12 = some pf12.strip := by kernel_rfl
def pf18 : PF := ⟨(.seq (.reg [⟨(.op (.mv (.k (.str (nat_lit 0) (nat_lit 0))))), (.env ⟨.d0, .d2⟩)⟩])
  (.seq (.reg [⟨(.cast (.one (.int .u64)) (.op (.convI .u64 (.e ⟨.d0, .d0⟩)))), .push⟩,
    ⟨(.op (.mv (.s (nat_lit 0)))), (.env ⟨.d0, .d3⟩)⟩,
    ⟨(.op (.mv (.k (.str (nat_lit 0) (nat_lit 0))))), (.env ⟨.d0, .d4⟩)⟩])
  (.jn .false [(⟨.d0, .d3⟩, (.int .u64)), (⟨.d0, .d4⟩, .str)] (.seq (.reg [⟨(.op (.binI .lss (.e ⟨.d0, .d0⟩) (.k (.int .i64 (.ofNat (nat_lit 0)))))), (.env ⟨.d0, .da⟩)⟩])
  (.cond (.e ⟨.d0, .da⟩) (.reg [⟨(.op (.mv (.e ⟨.d0, .d3⟩))), .push⟩,
    ⟨(.op (.neg (.s (nat_lit 0)))), .push⟩,
    ⟨(.op (.mv (.s (nat_lit 0)))), (.env ⟨.d0, .d3⟩)⟩,
    ⟨(.op (.mv (.k (.str (nat_lit 1) (nat_lit 45))))), (.env ⟨.d0, .d4⟩)⟩])
  .skip))
  (.seq (.reg [⟨(.op (.build (nat_lit 20) [(.int .u8 (.ofNat (nat_lit 0))), (.int .u8 (.ofNat (nat_lit 0))), (.int .u8 (.ofNat (nat_lit 0))), (.int .u8 (.ofNat (nat_lit 0))), (.int .u8 (.ofNat (nat_lit 0))), (.int .u8 (.ofNat (nat_lit 0))), (.int .u8 (.ofNat (nat_lit 0))), (.int .u8 (.ofNat (nat_lit 0))), (.int .u8 (.ofNat (nat_lit 0))), (.int .u8 (.ofNat (nat_lit 0))), (.int .u8 (.ofNat (nat_lit 0))), (.int .u8 (.ofNat (nat_lit 0))), (.int .u8 (.ofNat (nat_lit 0))), (.int .u8 (.ofNat (nat_lit 0))), (.int .u8 (.ofNat (nat_lit 0))), (.int .u8 (.ofNat (nat_lit 0))), (.int .u8 (.ofNat (nat_lit 0))), (.int .u8 (.ofNat (nat_lit 0))), (.int .u8 (.ofNat (nat_lit 0))), (.int .u8 (.ofNat (nat_lit 0)))] [])), .push⟩,
    ⟨(.cast (.tup [.any, (.int .i64)]) (.call ⟨.d0, .d0, .d2, .d1⟩ [(.s (nat_lit 0)), (.e ⟨.d0, .d3⟩)])), .push⟩,
    ⟨(.op (.extract (nat_lit 0) (.s (nat_lit 0)))), .push⟩,
    ⟨(.cast (.one (.int .i64)) (.op (.extract (nat_lit 1) (.s (nat_lit 1))))), .push⟩,
    ⟨(.op (.alloc (nat_lit 1) (nat_lit 20) [(.int .u8 (.ofNat (nat_lit 0)))])), (.env ⟨.d0, .d5⟩)⟩,
    ⟨(.op (.storeN (nat_lit 20) (.e ⟨.d0, .d5⟩) (.s (nat_lit 1)))), .no⟩,
    ⟨(.op (.mv (.s (nat_lit 0)))), (.env ⟨.d0, .d6⟩)⟩])
  (.seq (.reg [⟨(.op (.binI .sub (.k (.int .i64 (.ofNat (nat_lit 20)))) (.e ⟨.d0, .d6⟩))), .push⟩,
    ⟨(.op (.sliA (nat_lit 20) (nat_lit 1) (.e ⟨.d0, .d5⟩) (.some (.s (nat_lit 0))) .none)), .push⟩,
    ⟨(.cast (.one .str) (.op (.bytesS (.s (nat_lit 0))))), .push⟩,
    ⟨(.op (.binS .add (.e ⟨.d0, .d4⟩) (.s (nat_lit 0)))), .push⟩,
    ⟨(.op (.mv (.s (nat_lit 0)))), (.env ⟨.d0, .d2⟩)⟩])
  .ret))))),
  [(⟨.d0, .d0⟩, (.int .i64))], [.tmp ⟨.d0, .d2⟩]⟩
theorem pf18_ok : prep Tryd.prog 2 ⟨33553280, 25⟩ 18 = some pf18.strip := by kernel_rfl
def pf33 : PF := ⟨(.seq (.reg [⟨(.op (.box (.e ⟨.d0, .d0⟩))), (.env ⟨.d0, .d2⟩)⟩,
    ⟨(.op (.alloc (nat_lit 1) (nat_lit 20) [(.int .u8 (.ofNat (nat_lit 0)))])), (.env ⟨.d0, .d4⟩)⟩,
    ⟨(.op (.mv (.k (.int .i64 (.ofNat (nat_lit 0)))))), (.env ⟨.d0, .d5⟩)⟩])
  (.seq (.reg [⟨(.op (.mv (.k (.int .i64 (.ofNat (nat_lit 20)))))), (.env ⟨.d0, .d6⟩)⟩])
  (.jn .false [(⟨.d0, .d2⟩, .any), (⟨.d0, .d4⟩, .any), (⟨.d0, .d6⟩, (.int .i64))] (.seq (.reg [⟨(.op (.mv (.k (.bool .true)))), (.env ⟨.d0, .d7⟩)⟩])
  (.block (nat_lit 0) (.lpv [(⟨.d0, .d1⟩, (.intF .u64)), (⟨.d0, .d2⟩, .any), (⟨.d0, .d4⟩, .any), (⟨.d0, .d6⟩, (.intF .i64)), (⟨.d0, .d7⟩, .bool)] (.seq (.seq (.reg [⟨(.op (.mv (.e ⟨.d0, .d7⟩))), (.env ⟨.d0, .d8⟩)⟩])
  (.cond (.e ⟨.d0, .d8⟩) .skip
  (.exit (nat_lit 0))))
  (.seq (.block (nat_lit 1) (.seq (.reg [⟨(.op (.mv (.e ⟨.d0, .d6⟩))), .push⟩,
    ⟨(.op (.binI .sub (.s (nat_lit 0)) (.k (.int .i64 (.ofNat (nat_lit 1)))))), .push⟩,
    ⟨(.op (.mv (.s (nat_lit 0)))), (.env ⟨.d0, .d6⟩)⟩])
  (.seq (.reg [⟨(.op (.binI .rem (.e ⟨.d0, .d1⟩) (.k (.int .u64 (.ofNat (nat_lit 10)))))), .push⟩,
    ⟨(.op (.binI .add (.k (.int .u64 (.ofNat (nat_lit 48)))) (.s (nat_lit 0)))), .push⟩,
    ⟨(.cast (.one (.int .u8)) (.op (.convI .u8 (.s (nat_lit 0))))), .push⟩,
    ⟨(.op (.iaddrA (nat_lit 20) (nat_lit 1) (.e ⟨.d0, .d2⟩) (.e ⟨.d0, .d6⟩))), .push⟩,
    ⟨(.op (.store1 (.s (nat_lit 0)) (.s (nat_lit 1)))), .no⟩])
  (.reg [⟨(.op (.mv (.e ⟨.d0, .d1⟩))), .push⟩,
    ⟨(.op (.binI .quo (.s (nat_lit 0)) (.k (.int .u64 (.ofNat (nat_lit 10)))))), .push⟩,
    ⟨(.op (.mv (.s (nat_lit 0)))), (.env ⟨.d0, .d1⟩)⟩]))))
  (.reg [⟨(.op (.binI .gtr (.e ⟨.d0, .d1⟩) (.k (.int .u64 (.ofNat (nat_lit 0)))))), .push⟩,
    ⟨(.op (.mv (.s (nat_lit 0)))), (.env ⟨.d0, .d7⟩)⟩]))))))
  (.seq (.reg [⟨(.op (.loadN (nat_lit 20) (.e ⟨.d0, .d2⟩))), .push⟩,
    ⟨(.op (.binI .sub (.k (.int .i64 (.ofNat (nat_lit 20)))) (.e ⟨.d0, .d6⟩))), .push⟩,
    ⟨(.op (.storeN (nat_lit 20) (.e ⟨.d0, .d4⟩) (.s (nat_lit 1)))), .no⟩,
    ⟨(.op (.mv (.s (nat_lit 0)))), (.env ⟨.d0, .d5⟩)⟩])
  .ret)))),
  [(⟨.d0, .d0⟩, .any), (⟨.d0, .d1⟩, (.int .u64))], [.cells (nat_lit 20) ⟨.d0, .d4⟩, .tmp ⟨.d0, .d5⟩]⟩
theorem pf33_ok : prep Tryd.prog 2 ⟨16776704, 24⟩ 33 = some pf33.strip := by kernel_rfl
def pf17 : PF := ⟨(.seq (.reg [⟨(.op (.mv (.k (.int .i64 (.ofNat (nat_lit 0)))))), (.env ⟨.d0, .d2⟩)⟩,
    ⟨(.op (.mv (.k (.bool .false)))), (.env ⟨.d0, .d3⟩)⟩])
  (.seq (.reg [⟨(.op (.binS .neq (.e ⟨.d0, .d0⟩) (.k (.str (nat_lit 0) (nat_lit 0))))), .push⟩,
    ⟨(.guard (.s (nat_lit 0)) .true (.op (.mv (.e ⟨.d0, .d0⟩)))), .push⟩,
    ⟨(.guard (.s (nat_lit 1)) .true (.cast (.one (.int .u8)) (.op (.idxS (.s (nat_lit 0)) (.k (.int .i64 (.ofNat (nat_lit 0)))))))), .push⟩,
    ⟨(.guard (.s (nat_lit 2)) .true (.op (.binI .eql (.s (nat_lit 0)) (.k (.int .u8 (.ofNat (nat_lit 45))))))), .push⟩,
    ⟨(.cast (.one .bool) (.op (.pick (.s (nat_lit 3)) (.s (nat_lit 0)) (.k (.bool .false))))), .push⟩,
    ⟨(.op (.mv (.s (nat_lit 0)))), (.env ⟨.d0, .d4⟩)⟩])
  (.jn .false [(⟨.d0, .d0⟩, .str), (⟨.d0, .d4⟩, .bool)] (.seq (.reg [⟨(.op (.mv (.e ⟨.d0, .d4⟩))), (.env ⟨.d0, .df⟩)⟩])
  (.cond (.e ⟨.d0, .df⟩) (.reg [⟨(.op (.mv (.e ⟨.d0, .d0⟩))), .push⟩,
    ⟨(.cast (.one .str) (.op (.sliS (.s (nat_lit 0)) (.some (.k (.int .i64 (.ofNat (nat_lit 1))))) .none))), .push⟩,
    ⟨(.op (.mv (.s (nat_lit 0)))), (.env ⟨.d0, .d0⟩)⟩])
  .skip))
  (.seq (.reg [⟨(.op (.mv (.k (.int .u64 (.ofNat (nat_lit 0)))))), (.env ⟨.d0, .d5⟩)⟩])
  (.jn .true [(⟨.d0, .d0⟩, .str), (⟨.d0, .d2⟩, .any), (⟨.d0, .d3⟩, .any), (⟨.d0, .d4⟩, .bool), (⟨.d0, .d5⟩, (.int .u64))] (.seq (.reg [⟨(.cast (.one (.int .i64)) (.op (.lenS (.e ⟨.d0, .d0⟩)))), (.env ⟨.d1, .d3⟩)⟩,
    ⟨(.op (.mv (.k (.int .i64 (.ofNat (nat_lit 0)))))), (.env ⟨.d1, .d4⟩)⟩])
  (.block (nat_lit 0) (.lpv [(⟨.d0, .d0⟩, .str), (⟨.d0, .d4⟩, .bool), (⟨.d0, .d5⟩, (.intF .u64)), (⟨.d1, .d3⟩, (.intF .i64)), (⟨.d1, .d4⟩, (.intF .i64))] (.seq (.reg [⟨(.op (.binI .lss (.e ⟨.d1, .d4⟩) (.e ⟨.d1, .d3⟩))), (.env ⟨.d1, .d5⟩)⟩])
  (.seq (.cond (.e ⟨.d1, .d5⟩) .skip
  (.exit (nat_lit 0)))
  (.seq (.block (nat_lit 1) (.seq (.reg [⟨(.op (.mv (.e ⟨.d1, .d4⟩))), (.env ⟨.d0, .d6⟩)⟩])
  (.seq (.reg [⟨(.cast (.one (.int .u8)) (.op (.idxS (.e ⟨.d0, .d0⟩) (.e ⟨.d0, .d6⟩)))), .push⟩,
    ⟨(.op (.binI .sub (.s (nat_lit 0)) (.k (.int .u8 (.ofNat (nat_lit 48)))))), .push⟩,
    ⟨(.cast (.one (.int .u64)) (.op (.convI .u64 (.s (nat_lit 0))))), .push⟩,
    ⟨(.op (.mv (.s (nat_lit 0)))), (.env ⟨.d0, .d7⟩)⟩])
  (.seq (.seq (.reg [⟨(.op (.binI .gtr (.e ⟨.d0, .d7⟩) (.k (.int .u64 (.ofNat (nat_lit 9)))))), .push⟩,
    ⟨(.guard (.s (nat_lit 0)) .false (.op (.mv (.e ⟨.d0, .d5⟩)))), .push⟩,
    ⟨(.guard (.s (nat_lit 1)) .false (.op (.mv (.e ⟨.d0, .d7⟩)))), .push⟩,
    ⟨(.guard (.s (nat_lit 2)) .false (.op (.binI .sub (.k (.int .u64 (.ofNat (nat_lit 9223372036854775808)))) (.s (nat_lit 0))))), .push⟩,
    ⟨(.guard (.s (nat_lit 3)) .false (.op (.binI .quo (.s (nat_lit 0)) (.k (.int .u64 (.ofNat (nat_lit 10))))))), .push⟩,
    ⟨(.guard (.s (nat_lit 4)) .false (.op (.binI .gtr (.s (nat_lit 3)) (.s (nat_lit 0))))), .push⟩,
    ⟨(.cast (.one .bool) (.op (.pick (.s (nat_lit 5)) (.k (.bool .true)) (.s (nat_lit 0))))), (.env ⟨.d2, .d4⟩)⟩])
  (.cond (.e ⟨.d2, .d4⟩) (.seq (.reg [⟨(.op (.mv (.k (.int .i64 (.ofNat (nat_lit 0)))))), (.env ⟨.d0, .d2⟩)⟩,
    ⟨(.op (.mv (.k (.bool .false)))), (.env ⟨.d0, .d3⟩)⟩])
  .ret)
  .skip))
  (.reg [⟨(.op (.mv (.e ⟨.d0, .d5⟩))), .push⟩,
    ⟨(.op (.binI .mul (.k (.int .u64 (.ofNat (nat_lit 10)))) (.s (nat_lit 0)))), .push⟩,
    ⟨(.op (.binI .add (.s (nat_lit 0)) (.e ⟨.d0, .d7⟩))), .push⟩,
    ⟨(.op (.mv (.s (nat_lit 0)))), (.env ⟨.d0, .d5⟩)⟩])))))
  (.reg [⟨(.op (.binI .add (.e ⟨.d1, .d4⟩) (.k (.int .i64 (.ofNat (nat_lit 1)))))), .push⟩,
    ⟨(.op (.mv (.s (nat_lit 0)))), (.env ⟨.d1, .d4⟩)⟩])))))))
  (.seq (.block (nat_lit 2) (.jn .false [(⟨.d0, .d4⟩, .bool), (⟨.d0, .d5⟩, (.int .u64)), (⟨.d2, .da⟩, .bool)] (.seq (.reg [⟨(.op (.binS .eql (.e ⟨.d0, .d0⟩) (.k (.str (nat_lit 0) (nat_lit 0))))), .push⟩,
    ⟨(.op (.mv (.s (nat_lit 0)))), (.env ⟨.d2, .da⟩)⟩])
  (.cond (.e ⟨.d2, .da⟩) .skip
  (.reg [⟨(.op (.binI .eql (.e ⟨.d0, .d5⟩) (.k (.int .u64 (.ofNat (nat_lit 9223372036854775808)))))), .push⟩,
    ⟨(.guard (.s (nat_lit 0)) .true (.op (.mv (.e ⟨.d0, .d4⟩)))), .push⟩,
    ⟨(.guard (.s (nat_lit 1)) .true (.op (.not (.s (nat_lit 0))))), .push⟩,
    ⟨(.cast (.one .bool) (.op (.pick (.s (nat_lit 2)) (.s (nat_lit 0)) (.k (.bool .false))))), .push⟩,
    ⟨(.op (.mv (.s (nat_lit 0)))), (.env ⟨.d2, .da⟩)⟩])))
  (.cond (.e ⟨.d2, .da⟩) (.seq (.reg [⟨(.op (.mv (.k (.int .i64 (.ofNat (nat_lit 0)))))), (.env ⟨.d0, .d2⟩)⟩,
    ⟨(.op (.mv (.k (.bool .false)))), (.env ⟨.d0, .d3⟩)⟩])
  .ret)
  (.seq (.reg [⟨(.op (.mv (.e ⟨.d0, .d4⟩))), (.env ⟨.d3, .d3⟩)⟩])
  (.cond (.e ⟨.d3, .d3⟩) (.seq (.reg [⟨(.cast (.one (.int .i64)) (.op (.convI .i64 (.e ⟨.d0, .d5⟩)))), .push⟩,
    ⟨(.op (.neg (.s (nat_lit 0)))), .push⟩,
    ⟨(.op (.mv (.s (nat_lit 0)))), (.env ⟨.d0, .d2⟩)⟩,
    ⟨(.op (.mv (.k (.bool .true)))), (.env ⟨.d0, .d3⟩)⟩])
  .ret)
  .skip)))))
  (.seq (.reg [⟨(.cast (.one (.int .i64)) (.op (.convI .i64 (.e ⟨.d0, .d5⟩)))), .push⟩,
    ⟨(.op (.mv (.s (nat_lit 0)))), (.env ⟨.d0, .d2⟩)⟩,
    ⟨(.op (.mv (.k (.bool .true)))), (.env ⟨.d0, .d3⟩)⟩])
  .ret))))))),
  [(⟨.d0, .d0⟩, .str)], [.tmp ⟨.d0, .d2⟩, .tmp ⟨.d0, .d3⟩]⟩
theorem pf17_ok : prep Tryd.prog 2 ⟨285974109568335616, 58⟩ 17 = some pf17.strip := by kernel_rfl
def pf19 : PF := ⟨(.seq (.reg [⟨(.op (.mv (.k (.str (nat_lit 0) (nat_lit 0))))), (.env ⟨.d0, .d6⟩)⟩,
    ⟨(.op (.mv (.k (.bool .false)))), (.env ⟨.d0, .d7⟩)⟩])
  (.seq (.reg [⟨(.cast (.tup [(.int .i64), .bool]) (.call ⟨.d0, .d0, .d2, .d2⟩ [(.e ⟨.d0, .d0⟩), (.e ⟨.d0, .d1⟩)])), .push⟩,
    ⟨(.cast (.one (.int .i64)) (.op (.extract (nat_lit 0) (.s (nat_lit 0))))), .push⟩,
    ⟨(.cast (.one .bool) (.op (.extract (nat_lit 1) (.s (nat_lit 1))))), .push⟩,
    ⟨(.op (.mv (.s (nat_lit 1)))), (.env ⟨.d0, .d8⟩)⟩,
    ⟨(.op (.mv (.s (nat_lit 0)))), (.env ⟨.d0, .d9⟩)⟩])
  (.seq (.seq (.reg [⟨(.op (.not (.e ⟨.d0, .d9⟩))), (.env ⟨.d1, .d2⟩)⟩])
  (.cond (.e ⟨.d1, .d2⟩) (.seq (.reg [⟨(.op (.mv (.k (.str (nat_lit 0) (nat_lit 0))))), (.env ⟨.d0, .d6⟩)⟩,
    ⟨(.op (.mv (.k (.bool .false)))), (.env ⟨.d0, .d7⟩)⟩])
  .ret)
  .skip))
  (.seq (.reg [⟨(.cast (.one .str) (.op (.sliS (.e ⟨.d0, .d0⟩) (.some (.e ⟨.d0, .d8⟩)) .none))), .push⟩,
    ⟨(.cast (.tup [(.int .i64), .bool]) (.call ⟨.d0, .d0, .d2, .d2⟩ [(.s (nat_lit 0)), (.e ⟨.d0, .d2⟩)])), .push⟩,
    ⟨(.cast (.one (.int .i64)) (.op (.extract (nat_lit 0) (.s (nat_lit 0))))), .push⟩,
    ⟨(.cast (.one .bool) (.op (.extract (nat_lit 1) (.s (nat_lit 1))))), .push⟩,
    ⟨(.op (.mv (.s (nat_lit 1)))), (.env ⟨.d0, .da⟩)⟩,
    ⟨(.op (.mv (.s (nat_lit 0)))), (.env ⟨.d0, .d9⟩)⟩])
  (.seq (.seq (.reg [⟨(.op (.not (.e ⟨.d0, .d9⟩))), (.env ⟨.d1, .dc⟩)⟩])
  (.cond (.e ⟨.d1, .dc⟩) (.seq (.reg [⟨(.op (.mv (.k (.str (nat_lit 0) (nat_lit 0))))), (.env ⟨.d0, .d6⟩)⟩,
    ⟨(.op (.mv (.k (.bool .false)))), (.env ⟨.d0, .d7⟩)⟩])
  .ret)
  .skip))
  (.seq (.reg [⟨(.op (.binI .add (.e ⟨.d0, .d8⟩) (.e ⟨.d0, .da⟩))), .push⟩,
    ⟨(.cast (.one .str) (.op (.sliS (.e ⟨.d0, .d0⟩) (.some (.e ⟨.d0, .d8⟩)) (.some (.s (nat_lit 0)))))), .push⟩,
    ⟨(.op (.mv (.s (nat_lit 0)))), (.env ⟨.d0, .d6⟩)⟩,
    ⟨(.op (.mv (.k (.bool .true)))), (.env ⟨.d0, .d7⟩)⟩])
  .ret)))))),
  [(⟨.d0, .d0⟩, .str), (⟨.d0, .d1⟩, (.int .i64)), (⟨.d0, .d2⟩, (.int .i64))], [.tmp ⟨.d0, .d6⟩, .tmp ⟨.d0, .d7⟩]⟩
theorem pf19_ok : prep Tryd.prog 2 ⟨34091038720, 35⟩ 19 = some pf19.strip := by kernel_rfl
def pf34 : PF := ⟨(.seq (.reg [⟨(.op (.mv (.k (.int .i64 (.ofNat (nat_lit 0)))))), (.env ⟨.d0, .d4⟩)⟩,
    ⟨(.op (.mv (.k (.bool .false)))), (.env ⟨.d0, .d5⟩)⟩])
  (.seq (.reg [⟨(.op (.mv (.k (.int .i64 (.ofNat (nat_lit 0)))))), (.env ⟨.d0, .d6⟩)⟩])
  (.jn .true [(⟨.d0, .d1⟩, (.int .i64)), (⟨.d0, .d4⟩, .any), (⟨.d0, .d5⟩, .any), (⟨.d0, .d6⟩, (.int .i64))] (.block (nat_lit 0) (.lpv [(⟨.d0, .d0⟩, .str), (⟨.d0, .d1⟩, (.intF .i64)), (⟨.d0, .d6⟩, (.intF .i64))] (.seq (.seq (.reg [⟨(.op (.binI .gtr (.e ⟨.d0, .d1⟩) (.k (.int .i64 (.ofNat (nat_lit 0)))))), (.env ⟨.d0, .da⟩)⟩])
  (.cond (.e ⟨.d0, .da⟩) .skip
  (.exit (nat_lit 0))))
  (.seq (.block (nat_lit 1) (.seq (.seq (.reg [⟨(.cast (.one (.int .i64)) (.op (.lenS (.e ⟨.d0, .d0⟩)))), .push⟩,
    ⟨(.op (.binI .eql (.e ⟨.d0, .d6⟩) (.s (nat_lit 0)))), (.env ⟨.d1, .d0⟩)⟩])
  (.cond (.e ⟨.d1, .d0⟩) (.seq (.reg [⟨(.op (.mv (.k (.int .i64 (.ofNat (nat_lit 0)))))), (.env ⟨.d0, .d4⟩)⟩,
    ⟨(.op (.mv (.k (.bool .false)))), (.env ⟨.d0, .d5⟩)⟩])
  .ret)
  .skip))
  (.seq (.reg [⟨(.cast (.one .str) (.op (.sliS (.e ⟨.d0, .d0⟩) (.some (.e ⟨.d0, .d6⟩)) .none))), .push⟩,
    ⟨(.cast (.tup [(.int .i32), (.int .i64)]) (.call ⟨.d0, .d0, .d2, .d4⟩ [(.s (nat_lit 0))])), .push⟩,
    ⟨(.cast (.one (.int .i32)) (.op (.extract (nat_lit 0) (.s (nat_lit 0))))), .push⟩,
    ⟨(.cast (.one (.int .i64)) (.op (.extract (nat_lit 1) (.s (nat_lit 1))))), .push⟩,
    ⟨(.op (.mv (.s (nat_lit 0)))), (.env ⟨.d0, .d8⟩)⟩])
  (.reg [⟨(.op (.mv (.e ⟨.d0, .d6⟩))), .push⟩,
    ⟨(.op (.binI .add (.s (nat_lit 0)) (.e ⟨.d0, .d8⟩))), .push⟩,
    ⟨(.op (.mv (.s (nat_lit 0)))), (.env ⟨.d0, .d6⟩)⟩]))))
  (.reg [⟨(.op (.mv (.e ⟨.d0, .d1⟩))), .push⟩,
    ⟨(.op (.binI .sub (.s (nat_lit 0)) (.k (.int .i64 (.ofNat (nat_lit 1)))))), .push⟩,
    ⟨(.op (.mv (.s (nat_lit 0)))), (.env ⟨.d0, .d1⟩)⟩])))))
  (.seq (.reg [⟨(.op (.binI .eql (.e ⟨.d0, .d1⟩) (.k (.int .i64 (.ofNat (nat_lit 0)))))), .push⟩,
    ⟨(.op (.mv (.e ⟨.d0, .d6⟩))), (.env ⟨.d0, .d4⟩)⟩,
    ⟨(.op (.mv (.s (nat_lit 0)))), (.env ⟨.d0, .d5⟩)⟩])
  .ret)))),
  [(⟨.d0, .d0⟩, .str), (⟨.d0, .d1⟩, (.int .i64))], [.tmp ⟨.d0, .d4⟩, .tmp ⟨.d0, .d5⟩]⟩
theorem pf34_ok : prep Tryd.prog 2 ⟨1073674880, 30⟩ 34 = some pf34.strip := by kernel_rfl
def pf36 : PF := ⟨(.seq (.reg [⟨(.op (.mv (.k (.int .i32 (.ofNat (nat_lit 0)))))), (.env ⟨.d0, .d2⟩)⟩,
    ⟨(.op (.mv (.k (.int .i64 (.ofNat (nat_lit 0)))))), (.env ⟨.d0, .d3⟩)⟩])
  (.seq (.seq (.reg [⟨(.op (.binS .neq (.e ⟨.d0, .d0⟩) (.k (.str (nat_lit 0) (nat_lit 0))))), .push⟩,
    ⟨(.guard (.s (nat_lit 0)) .true (.op (.mv (.e ⟨.d0, .d0⟩)))), .push⟩,
    ⟨(.guard (.s (nat_lit 1)) .true (.cast (.one (.int .u8)) (.op (.idxS (.s (nat_lit 0)) (.k (.int .i64 (.ofNat (nat_lit 0)))))))), .push⟩,
    ⟨(.guard (.s (nat_lit 2)) .true (.op (.binI .lss (.s (nat_lit 0)) (.k (.int .u8 (.ofNat (nat_lit 128))))))), .push⟩,
    ⟨(.cast (.one .bool) (.op (.pick (.s (nat_lit 3)) (.s (nat_lit 0)) (.k (.bool .false))))), (.env ⟨.d0, .da⟩)⟩])
  (.cond (.e ⟨.d0, .da⟩) (.seq (.reg [⟨(.cast (.one (.int .u8)) (.op (.idxS (.e ⟨.d0, .d0⟩) (.k (.int .i64 (.ofNat (nat_lit 0))))))), .push⟩,
    ⟨(.cast (.one (.int .i32)) (.op (.convI .i32 (.s (nat_lit 0))))), .push⟩,
    ⟨(.op (.mv (.s (nat_lit 0)))), (.env ⟨.d0, .d2⟩)⟩,
    ⟨(.op (.mv (.k (.int .i64 (.ofNat (nat_lit 1)))))), (.env ⟨.d0, .d3⟩)⟩])
  .ret)
  (.reg [⟨(.cast (.tup [(.int .i32), (.int .i64)]) (.call ⟨.d0, .d0, .d2, .d7⟩ [(.e ⟨.d0, .d0⟩)])), .push⟩,
    ⟨(.cast (.one (.int .i32)) (.op (.extract (nat_lit 0) (.s (nat_lit 0))))), .push⟩,
    ⟨(.cast (.one (.int .i64)) (.op (.extract (nat_lit 1) (.s (nat_lit 1))))), .push⟩,
    ⟨(.op (.mv (.s (nat_lit 1)))), (.env ⟨.d0, .d2⟩)⟩,
    ⟨(.op (.mv (.s (nat_lit 0)))), (.env ⟨.d0, .d3⟩)⟩])))
  .ret)),
  [(⟨.d0, .d0⟩, .str)], [.tmp ⟨.d0, .d2⟩, .tmp ⟨.d0, .d3⟩]⟩
theorem pf36_ok : prep Tryd.prog 2 ⟨523248, 19⟩ 36 = some pf36.strip := by kernel_rfl
def pf39 : PF := ⟨(.seq (.reg [⟨(.op (.mv (.k (.int .i32 (.ofNat (nat_lit 0)))))), (.env ⟨.d0, .d2⟩)⟩,
    ⟨(.op (.mv (.k (.int .i64 (.ofNat (nat_lit 0)))))), (.env ⟨.d0, .d3⟩)⟩])
  (.seq (.reg [⟨(.cast (.one (.int .i64)) (.op (.lenS (.e ⟨.d0, .d0⟩)))), .push⟩,
    ⟨(.op (.mv (.s (nat_lit 0)))), (.env ⟨.d0, .d4⟩)⟩])
  (.seq (.seq (.reg [⟨(.op (.binI .lss (.e ⟨.d0, .d4⟩) (.k (.int .i64 (.ofNat (nat_lit 1)))))), (.env ⟨.d1, .d0⟩)⟩])
  (.cond (.e ⟨.d1, .d0⟩) (.seq (.reg [⟨(.op (.mv (.k (.int .i32 (.ofNat (nat_lit 65533)))))), (.env ⟨.d0, .d2⟩)⟩,
    ⟨(.op (.mv (.k (.int .i64 (.ofNat (nat_lit 0)))))), (.env ⟨.d0, .d3⟩)⟩])
  .ret)
  .skip))
  (.seq (.reg [⟨(.cast (.one (.int .u8)) (.op (.idxS (.e ⟨.d0, .d0⟩) (.k (.int .i64 (.ofNat (nat_lit 0))))))), .push⟩,
    ⟨(.op (.mv (.s (nat_lit 0)))), (.env ⟨.d0, .d5⟩)⟩])
  (.seq (.reg [⟨(.op (.iaddrA (nat_lit 256) (nat_lit 1) (.k (.ptr ⟨(nat_lit 0), .d0, .d0, .d0, .d0⟩ (nat_lit 0))) (.e ⟨.d0, .d5⟩))), .push⟩,
    ⟨(.cast (.one (.int .u8)) (.op (.load1 (.s (nat_lit 0))))), .push⟩,
    ⟨(.op (.mv (.s (nat_lit 0)))), (.env ⟨.d0, .d6⟩)⟩])
  (.seq (.seq (.reg [⟨(.op (.binI .geq (.e ⟨.d0, .d6⟩) (.k (.int .u8 (.ofNat (nat_lit 240)))))), (.env ⟨.d1, .d7⟩)⟩])
  (.cond (.e ⟨.d1, .d7⟩) (.seq (.reg [⟨(.cast (.one (.int .i32)) (.op (.convI .i32 (.e ⟨.d0, .d6⟩)))), .push⟩,
    ⟨(.op (.binI .shl (.s (nat_lit 0)) (.k (.int .u64 (.ofNat (nat_lit 31)))))), .push⟩,
    ⟨(.op (.binI .shr (.s (nat_lit 0)) (.k (.int .u64 (.ofNat (nat_lit 31)))))), .push⟩,
    ⟨(.op (.mv (.s (nat_lit 0)))), (.env ⟨.d0, .d7⟩)⟩])
  (.seq (.reg [⟨(.cast (.one (.int .u8)) (.op (.idxS (.e ⟨.d0, .d0⟩) (.k (.int .i64 (.ofNat (nat_lit 0))))))), .push⟩,
    ⟨(.cast (.one (.int .i32)) (.op (.convI .i32 (.s (nat_lit 0))))), .push⟩,
    ⟨(.op (.binI .andNot (.s (nat_lit 0)) (.e ⟨.d0, .d7⟩))), .push⟩,
    ⟨(.op (.binI .and (.k (.int .i32 (.ofNat (nat_lit 65533)))) (.e ⟨.d0, .d7⟩))), .push⟩,
    ⟨(.op (.binI .or (.s (nat_lit 1)) (.s (nat_lit 0)))), .push⟩,
    ⟨(.op (.mv (.s (nat_lit 0)))), (.env ⟨.d0, .d2⟩)⟩,
    ⟨(.op (.mv (.k (.int .i64 (.ofNat (nat_lit 1)))))), (.env ⟨.d0, .d3⟩)⟩])
  .ret))
  .skip))
  (.seq (.reg [⟨(.op (.binI .and (.e ⟨.d0, .d6⟩) (.k (.int .u8 (.ofNat (nat_lit 7)))))), .push⟩,
    ⟨(.cast (.one (.int .i64)) (.op (.convI .i64 (.s (nat_lit 0))))), .push⟩,
    ⟨(.op (.mv (.s (nat_lit 0)))), (.env ⟨.d0, .d8⟩)⟩])
  (.seq (.reg [⟨(.op (.binI .shr (.e ⟨.d0, .d6⟩) (.k (.int .u64 (.ofNat (nat_lit 4)))))), .push⟩,
    ⟨(.op (.iaddrA (nat_lit 16) (nat_lit 2) (.k (.ptr ⟨(nat_lit 0), .d0, .d0, .d0, .d1⟩ (nat_lit 0))) (.s (nat_lit 0)))), .push⟩,
    ⟨(.cast (.agg (nat_lit 2) [(.int .u8), (.int .u8)]) (.op (.loadN (nat_lit 2) (.s (nat_lit 0))))), .push⟩,
    ⟨(.op (.alloc (nat_lit 2) (nat_lit 1) [(.int .u8 (.ofNat (nat_lit 0))), (.int .u8 (.ofNat (nat_lit 0)))])), (.env ⟨.d0, .d9⟩)⟩,
    ⟨(.op (.storeN (nat_lit 2) (.e ⟨.d0, .d9⟩) (.s (nat_lit 0)))), .no⟩])
  (.seq (.seq (.reg [⟨(.op (.binI .lss (.e ⟨.d0, .d4⟩) (.e ⟨.d0, .d8⟩))), (.env ⟨.d2, .dd⟩)⟩])
  (.cond (.e ⟨.d2, .dd⟩) (.seq (.reg [⟨(.op (.mv (.k (.int .i32 (.ofNat (nat_lit 65533)))))), (.env ⟨.d0, .d2⟩)⟩,
    ⟨(.op (.mv (.k (.int .i64 (.ofNat (nat_lit 1)))))), (.env ⟨.d0, .d3⟩)⟩])
  .ret)
  .skip))
  (.seq (.reg [⟨(.cast (.one (.int .u8)) (.op (.idxS (.e ⟨.d0, .d0⟩) (.k (.int .i64 (.ofNat (nat_lit 1))))))), .push⟩,
    ⟨(.op (.mv (.s (nat_lit 0)))), (.env ⟨.d0, .da⟩)⟩])
  (.seq (.seq (.reg [⟨(.op (.faddr (nat_lit 0) (.e ⟨.d0, .d9⟩))), .push⟩,
    ⟨(.cast (.one (.int .u8)) (.op (.load1 (.s (nat_lit 0))))), .push⟩,
    ⟨(.op (.binI .lss (.e ⟨.d0, .da⟩) (.s (nat_lit 0)))), .push⟩,
    ⟨(.guard (.s (nat_lit 0)) .false (.op (.faddr (nat_lit 1) (.e ⟨.d0, .d9⟩)))), .push⟩,
    ⟨(.guard (.s (nat_lit 1)) .false (.cast (.one (.int .u8)) (.op (.load1 (.s (nat_lit 0)))))), .push⟩,
    ⟨(.guard (.s (nat_lit 2)) .false (.op (.mv (.e ⟨.d0, .da⟩)))), .push⟩,
    ⟨(.guard (.s (nat_lit 3)) .false (.op (.binI .lss (.s (nat_lit 1)) (.s (nat_lit 0))))), .push⟩,
    ⟨(.cast (.one .bool) (.op (.pick (.s (nat_lit 4)) (.k (.bool .true)) (.s (nat_lit 0))))), (.env ⟨.d3, .d9⟩)⟩])
  (.cond (.e ⟨.d3, .d9⟩) (.seq (.reg [⟨(.op (.mv (.k (.int .i32 (.ofNat (nat_lit 65533)))))), (.env ⟨.d0, .d2⟩)⟩,
    ⟨(.op (.mv (.k (.int .i64 (.ofNat (nat_lit 1)))))), (.env ⟨.d0, .d3⟩)⟩])
  .ret)
  .skip))
  (.seq (.seq (.reg [⟨(.op (.binI .leq (.e ⟨.d0, .d8⟩) (.k (.int .i64 (.ofNat (nat_lit 2)))))), (.env ⟨.d3, .db⟩)⟩])
  (.cond (.e ⟨.d3, .db⟩) (.seq (.reg [⟨(.op (.binI .and (.e ⟨.d0, .d5⟩) (.k (.int .u8 (.ofNat (nat_lit 31)))))), .push⟩,
    ⟨(.cast (.one (.int .i32)) (.op (.convI .i32 (.s (nat_lit 0))))), .push⟩,
    ⟨(.op (.binI .shl (.s (nat_lit 0)) (.k (.int .u64 (.ofNat (nat_lit 6)))))), .push⟩,
    ⟨(.op (.binI .and (.e ⟨.d0, .da⟩) (.k (.int .u8 (.ofNat (nat_lit 63)))))), .push⟩,
    ⟨(.cast (.one (.int .i32)) (.op (.convI .i32 (.s (nat_lit 0))))), .push⟩,
    ⟨(.op (.binI .or (.s (nat_lit 2)) (.s (nat_lit 0)))), .push⟩,
    ⟨(.op (.mv (.s (nat_lit 0)))), (.env ⟨.d0, .d2⟩)⟩,
    ⟨(.op (.mv (.k (.int .i64 (.ofNat (nat_lit 2)))))), (.env ⟨.d0, .d3⟩)⟩])
  .ret)
  .skip))
  (.seq (.reg [⟨(.cast (.one (.int .u8)) (.op (.idxS (.e ⟨.d0, .d0⟩) (.k (.int .i64 (.ofNat (nat_lit 2))))))), .push⟩,
    ⟨(.op (.mv (.s (nat_lit 0)))), (.env ⟨.d0, .db⟩)⟩])
  (.seq (.seq (.reg [⟨(.op (.binI .lss (.e ⟨.d0, .db⟩) (.k (.int .u8 (.ofNat (nat_lit 128)))))), .push⟩,
    ⟨(.guard (.s (nat_lit 0)) .false (.op (.mv (.e ⟨.d0, .db⟩)))), .push⟩,
    ⟨(.guard (.s (nat_lit 1)) .false (.op (.binI .lss (.k (.int .u8 (.ofNat (nat_lit 191)))) (.s (nat_lit 0))))), .push⟩,
    ⟨(.cast (.one .bool) (.op (.pick (.s (nat_lit 2)) (.k (.bool .true)) (.s (nat_lit 0))))), (.env ⟨.d4, .db⟩)⟩])
  (.cond (.e ⟨.d4, .db⟩) (.seq (.reg [⟨(.op (.mv (.k (.int .i32 (.ofNat (nat_lit 65533)))))), (.env ⟨.d0, .d2⟩)⟩,
    ⟨(.op (.mv (.k (.int .i64 (.ofNat (nat_lit 1)))))), (.env ⟨.d0, .d3⟩)⟩])
  .ret)
  .skip))
  (.seq (.seq (.reg [⟨(.op (.binI .leq (.e ⟨.d0, .d8⟩) (.k (.int .i64 (.ofNat (nat_lit 3)))))), (.env ⟨.d4, .dd⟩)⟩])
  (.cond (.e ⟨.d4, .dd⟩) (.seq (.reg [⟨(.op (.binI .and (.e ⟨.d0, .d5⟩) (.k (.int .u8 (.ofNat (nat_lit 15)))))), .push⟩,
    ⟨(.cast (.one (.int .i32)) (.op (.convI .i32 (.s (nat_lit 0))))), .push⟩,
    ⟨(.op (.binI .shl (.s (nat_lit 0)) (.k (.int .u64 (.ofNat (nat_lit 12)))))), .push⟩,
    ⟨(.op (.binI .and (.e ⟨.d0, .da⟩) (.k (.int .u8 (.ofNat (nat_lit 63)))))), .push⟩,
    ⟨(.cast (.one (.int .i32)) (.op (.convI .i32 (.s (nat_lit 0))))), .push⟩,
    ⟨(.op (.binI .shl (.s (nat_lit 0)) (.k (.int .u64 (.ofNat (nat_lit 6)))))), .push⟩,
    ⟨(.op (.binI .or (.s (nat_lit 3)) (.s (nat_lit 0)))), .push⟩,
    ⟨(.op (.binI .and (.e ⟨.d0, .db⟩) (.k (.int .u8 (.ofNat (nat_lit 63)))))), .push⟩,
    ⟨(.cast (.one (.int .i32)) (.op (.convI .i32 (.s (nat_lit 0))))), .push⟩,
    ⟨(.op (.binI .or (.s (nat_lit 2)) (.s (nat_lit 0)))), .push⟩,
    ⟨(.op (.mv (.s (nat_lit 0)))), (.env ⟨.d0, .d2⟩)⟩,
    ⟨(.op (.mv (.k (.int .i64 (.ofNat (nat_lit 3)))))), (.env ⟨.d0, .d3⟩)⟩])
  .ret)
  .skip))
  (.seq (.reg [⟨(.cast (.one (.int .u8)) (.op (.idxS (.e ⟨.d0, .d0⟩) (.k (.int .i64 (.ofNat (nat_lit 3))))))), .push⟩,
    ⟨(.op (.mv (.s (nat_lit 0)))), (.env ⟨.d0, .dc⟩)⟩])
  (.seq (.seq (.reg [⟨(.op (.binI .lss (.e ⟨.d0, .dc⟩) (.k (.int .u8 (.ofNat (nat_lit 128)))))), .push⟩,
    ⟨(.guard (.s (nat_lit 0)) .false (.op (.mv (.e ⟨.d0, .dc⟩)))), .push⟩,
    ⟨(.guard (.s (nat_lit 1)) .false (.op (.binI .lss (.k (.int .u8 (.ofNat (nat_lit 191)))) (.s (nat_lit 0))))), .push⟩,
    ⟨(.cast (.one .bool) (.op (.pick (.s (nat_lit 2)) (.k (.bool .true)) (.s (nat_lit 0))))), (.env ⟨.d6, .d2⟩)⟩])
  (.cond (.e ⟨.d6, .d2⟩) (.seq (.reg [⟨(.op (.mv (.k (.int .i32 (.ofNat (nat_lit 65533)))))), (.env ⟨.d0, .d2⟩)⟩,
    ⟨(.op (.mv (.k (.int .i64 (.ofNat (nat_lit 1)))))), (.env ⟨.d0, .d3⟩)⟩])
  .ret)
  .skip))
  (.seq (.reg [⟨(.op (.binI .and (.e ⟨.d0, .d5⟩) (.k (.int .u8 (.ofNat (nat_lit 7)))))), .push⟩,
    ⟨(.cast (.one (.int .i32)) (.op (.convI .i32 (.s (nat_lit 0))))), .push⟩,
    ⟨(.op (.binI .shl (.s (nat_lit 0)) (.k (.int .u64 (.ofNat (nat_lit 18)))))), .push⟩,
    ⟨(.op (.binI .and (.e ⟨.d0, .da⟩) (.k (.int .u8 (.ofNat (nat_lit 63)))))), .push⟩,
    ⟨(.cast (.one (.int .i32)) (.op (.convI .i32 (.s (nat_lit 0))))), .push⟩,
    ⟨(.op (.binI .shl (.s (nat_lit 0)) (.k (.int .u64 (.ofNat (nat_lit 12)))))), .push⟩,
    ⟨(.op (.binI .or (.s (nat_lit 3)) (.s (nat_lit 0)))), .push⟩,
    ⟨(.op (.binI .and (.e ⟨.d0, .db⟩) (.k (.int .u8 (.ofNat (nat_lit 63)))))), .push⟩,
    ⟨(.cast (.one (.int .i32)) (.op (.convI .i32 (.s (nat_lit 0))))), .push⟩,
    ⟨(.op (.binI .shl (.s (nat_lit 0)) (.k (.int .u64 (.ofNat (nat_lit 6)))))), .push⟩,
    ⟨(.op (.binI .or (.s (nat_lit 3)) (.s (nat_lit 0)))), .push⟩,
    ⟨(.op (.binI .and (.e ⟨.d0, .dc⟩) (.k (.int .u8 (.ofNat (nat_lit 63)))))), .push⟩,
    ⟨(.cast (.one (.int .i32)) (.op (.convI .i32 (.s (nat_lit 0))))), .push⟩,
    ⟨(.op (.binI .or (.s (nat_lit 2)) (.s (nat_lit 0)))), .push⟩,
    ⟨(.op (.mv (.s (nat_lit 0)))), (.env ⟨.d0, .d2⟩)⟩,
    ⟨(.op (.mv (.k (.int .i64 (.ofNat (nat_lit 4)))))), (.env ⟨.d0, .d3⟩)⟩])
  .ret)))))))))))))))))),
  [(⟨.d0, .d0⟩, .str)], [.tmp ⟨.d0, .d2⟩, .tmp ⟨.d0, .d3⟩]⟩
theorem pf39_ok : prep Tryd.prog 2 ⟨166153182560275531675699597790863360, 117⟩ 39 = some pf39.strip := by kernel_rfl
def pf10 : PF := ⟨(.seq (.reg [⟨(.op (.mv (.k (.int .i64 (.ofNat (nat_lit 0)))))), (.env ⟨.d0, .d6⟩)⟩,
    ⟨(.op (.mv (.k (.bool .false)))), (.env ⟨.d0, .d7⟩)⟩])
  (.seq (.seq (.reg [⟨(.op (.mv (.e ⟨.d0, .d0⟩))), (.env ⟨.d0, .d8⟩)⟩])
  (.block (nat_lit 0) (.seq (.block (nat_lit 9) (.seq (.block (nat_lit 8) (.seq (.block (nat_lit 7) (.seq (.block (nat_lit 6) (.seq (.block (nat_lit 5) (.seq (.block (nat_lit 4) (.seq (.block (nat_lit 3) (.jn .true [(⟨.d0, .d0⟩, .any), (⟨.d0, .d1⟩, (.int .i64)), (⟨.d0, .d2⟩, (.int .i64))] (.block (nat_lit 2) (.seq (.block (nat_lit 1) (.seq (.seq (.seq (.reg [⟨(.op (.binI .eql (.e ⟨.d0, .d8⟩) (.k (.int .u8 (.ofNat (nat_lit 11)))))), .push⟩,
    ⟨(.op (.mv (.s (nat_lit 0)))), (.env ⟨.d0, .d9⟩)⟩])
  (.cond (.e ⟨.d0, .d9⟩) (.exit (nat_lit 1))
  .skip))
  (.seq (.seq (.reg [⟨(.op (.binI .eql (.e ⟨.d0, .d8⟩) (.k (.int .u8 (.ofNat (nat_lit 10)))))), .push⟩,
    ⟨(.op (.mv (.s (nat_lit 0)))), (.env ⟨.d0, .db⟩)⟩])
  (.cond (.e ⟨.d0, .db⟩) (.exit (nat_lit 2))
  .skip))
  (.seq (.seq (.reg [⟨(.op (.binI .eql (.e ⟨.d0, .d8⟩) (.k (.int .u8 (.ofNat (nat_lit 12)))))), .push⟩,
    ⟨(.op (.mv (.s (nat_lit 0)))), (.env ⟨.d0, .dd⟩)⟩])
  (.cond (.e ⟨.d0, .dd⟩) (.exit (nat_lit 3))
  .skip))
  (.jn .true [(⟨.d0, .d0⟩, .any), (⟨.d0, .d1⟩, (.int .i64)), (⟨.d0, .d2⟩, (.int .i64)), (⟨.d0, .d8⟩, (.int .u8))] (.seq (.seq (.reg [⟨(.op (.binI .eql (.e ⟨.d0, .d8⟩) (.k (.int .u8 (.ofNat (nat_lit 13)))))), .push⟩,
    ⟨(.op (.mv (.s (nat_lit 0)))), (.env ⟨.d0, .df⟩)⟩])
  (.cond (.e ⟨.d0, .df⟩) .skip
  (.reg [⟨(.op (.binI .eql (.e ⟨.d0, .d8⟩) (.k (.int .u8 (.ofNat (nat_lit 14)))))), .push⟩,
    ⟨(.op (.mv (.s (nat_lit 0)))), (.env ⟨.d0, .df⟩)⟩])))
  (.cond (.e ⟨.d0, .df⟩) (.exit (nat_lit 4))
  .skip))
  (.seq (.seq (.reg [⟨(.op (.binI .eql (.e ⟨.d0, .d8⟩) (.k (.int .u8 (.ofNat (nat_lit 15)))))), .push⟩,
    ⟨(.op (.mv (.s (nat_lit 0)))), (.env ⟨.d1, .d2⟩)⟩])
  (.cond (.e ⟨.d1, .d2⟩) (.exit (nat_lit 5))
  .skip))
  (.seq (.seq (.reg [⟨(.op (.binI .eql (.e ⟨.d0, .d8⟩) (.k (.int .u8 (.ofNat (nat_lit 16)))))), .push⟩,
    ⟨(.op (.mv (.s (nat_lit 0)))), (.env ⟨.d1, .d4⟩)⟩])
  (.cond (.e ⟨.d1, .d4⟩) (.exit (nat_lit 6))
  .skip))
  (.seq (.seq (.reg [⟨(.op (.binI .eql (.e ⟨.d0, .d8⟩) (.k (.int .u8 (.ofNat (nat_lit 17)))))), .push⟩,
    ⟨(.op (.mv (.s (nat_lit 0)))), (.env ⟨.d1, .d6⟩)⟩])
  (.cond (.e ⟨.d1, .d6⟩) (.exit (nat_lit 7))
  .skip))
  (.seq (.seq (.reg [⟨(.op (.binI .eql (.e ⟨.d0, .d8⟩) (.k (.int .u8 (.ofNat (nat_lit 18)))))), .push⟩,
    ⟨(.op (.mv (.s (nat_lit 0)))), (.env ⟨.d1, .d8⟩)⟩])
  (.cond (.e ⟨.d1, .d8⟩) (.exit (nat_lit 8))
  .skip))
  (.seq (.reg [⟨(.op (.binI .eql (.e ⟨.d0, .d8⟩) (.k (.int .u8 (.ofNat (nat_lit 19)))))), .push⟩,
    ⟨(.op (.mv (.s (nat_lit 0)))), (.env ⟨.d1, .da⟩)⟩])
  (.cond (.e ⟨.d1, .da⟩) (.exit (nat_lit 9))
  .skip))))))))))
  (.exit (nat_lit 0))))
  (.reg [⟨(.op (.mv (.e ⟨.d0, .d2⟩))), .push⟩,
    ⟨(.op (.neg (.s (nat_lit 0)))), .push⟩,
    ⟨(.op (.mv (.s (nat_lit 0)))), (.env ⟨.d0, .d2⟩)⟩])))
  (.seq (.seq (.reg [⟨(.op (.binI .add (.e ⟨.d0, .d1⟩) (.e ⟨.d0, .d2⟩))), .push⟩,
    ⟨(.op (.mv (.s (nat_lit 0)))), (.env ⟨.d0, .d6⟩)⟩,
    ⟨(.op (.mv (.k (.bool .true)))), (.env ⟨.d0, .d7⟩)⟩])
  .ret)
  (.exit (nat_lit 0)))))
  (.seq (.seq (.reg [⟨(.op (.binI .mul (.e ⟨.d0, .d1⟩) (.e ⟨.d0, .d2⟩))), .push⟩,
    ⟨(.op (.mv (.s (nat_lit 0)))), (.env ⟨.d0, .d6⟩)⟩,
    ⟨(.op (.mv (.k (.bool .true)))), (.env ⟨.d0, .d7⟩)⟩])
  .ret)
  (.exit (nat_lit 0)))))
  (.seq (.seq (.reg [⟨(.cast (.tup [(.int .i64), .bool]) (.call ⟨.d0, .d0, .d1, .dd⟩ [(.e ⟨.d0, .d0⟩), (.e ⟨.d0, .d1⟩), (.e ⟨.d0, .d2⟩)])), .push⟩,
    ⟨(.cast (.one (.int .i64)) (.op (.extract (nat_lit 0) (.s (nat_lit 0))))), .push⟩,
    ⟨(.cast (.one .bool) (.op (.extract (nat_lit 1) (.s (nat_lit 1))))), .push⟩,
    ⟨(.op (.mv (.s (nat_lit 1)))), (.env ⟨.d0, .d6⟩)⟩,
    ⟨(.op (.mv (.s (nat_lit 0)))), (.env ⟨.d0, .d7⟩)⟩])
  .ret)
  (.exit (nat_lit 0)))))
  (.seq (.seq (.reg [⟨(.op (.binI .and (.e ⟨.d0, .d1⟩) (.e ⟨.d0, .d2⟩))), .push⟩,
    ⟨(.op (.mv (.s (nat_lit 0)))), (.env ⟨.d0, .d6⟩)⟩,
    ⟨(.op (.mv (.k (.bool .true)))), (.env ⟨.d0, .d7⟩)⟩])
  .ret)
  (.exit (nat_lit 0)))))
  (.seq (.seq (.reg [⟨(.op (.binI .or (.e ⟨.d0, .d1⟩) (.e ⟨.d0, .d2⟩))), .push⟩,
    ⟨(.op (.mv (.s (nat_lit 0)))), (.env ⟨.d0, .d6⟩)⟩,
    ⟨(.op (.mv (.k (.bool .true)))), (.env ⟨.d0, .d7⟩)⟩])
  .ret)
  (.exit (nat_lit 0)))))
  (.seq (.seq (.reg [⟨(.op (.binI .xor (.e ⟨.d0, .d1⟩) (.e ⟨.d0, .d2⟩))), .push⟩,
    ⟨(.op (.mv (.s (nat_lit 0)))), (.env ⟨.d0, .d6⟩)⟩,
    ⟨(.op (.mv (.k (.bool .true)))), (.env ⟨.d0, .d7⟩)⟩])
  .ret)
  (.exit (nat_lit 0)))))
  (.seq (.seq (.reg [⟨(.cast (.one (.int .u64)) (.op (.convI .u64 (.e ⟨.d0, .d2⟩)))), .push⟩,
    ⟨(.op (.binI .rem (.s (nat_lit 0)) (.k (.int .u64 (.ofNat (nat_lit 64)))))), .push⟩,
    ⟨(.op (.binI .shl (.e ⟨.d0, .d1⟩) (.s (nat_lit 0)))), .push⟩,
    ⟨(.op (.mv (.s (nat_lit 0)))), (.env ⟨.d0, .d6⟩)⟩,
    ⟨(.op (.mv (.k (.bool .true)))), (.env ⟨.d0, .d7⟩)⟩])
  .ret)
  (.exit (nat_lit 0)))))
  (.seq (.seq (.reg [⟨(.cast (.one (.int .u64)) (.op (.convI .u64 (.e ⟨.d0, .d2⟩)))), .push⟩,
    ⟨(.op (.binI .rem (.s (nat_lit 0)) (.k (.int .u64 (.ofNat (nat_lit 64)))))), .push⟩,
    ⟨(.op (.binI .shr (.e ⟨.d0, .d1⟩) (.s (nat_lit 0)))), .push⟩,
    ⟨(.op (.mv (.s (nat_lit 0)))), (.env ⟨.d0, .d6⟩)⟩,
    ⟨(.op (.mv (.k (.bool .true)))), (.env ⟨.d0, .d7⟩)⟩])
  .ret)
  (.exit (nat_lit 0))))))
  (.seq (.reg [⟨(.op (.mv (.k (.int .i64 (.ofNat (nat_lit 0)))))), (.env ⟨.d0, .d6⟩)⟩,
    ⟨(.op (.mv (.k (.bool .false)))), (.env ⟨.d0, .d7⟩)⟩])
  .ret))),
  [(⟨.d0, .d0⟩, (.int .u8)), (⟨.d0, .d1⟩, (.int .i64)), (⟨.d0, .d2⟩, (.int .i64))], [.tmp ⟨.d0, .d6⟩, .tmp ⟨.d0, .d7⟩]⟩
theorem pf10_ok : prep Tryd.prog 2 ⟨2305843009124258816, 61⟩ 10 = some pf10.strip := by kernel_rfl
def pf29 : PF := ⟨(.seq (.reg [⟨(.op (.mv (.k (.int .i64 (.ofNat (nat_lit 0)))))), (.env ⟨.d0, .d6⟩)⟩,
    ⟨(.op (.mv (.k (.bool .false)))), (.env ⟨.d0, .d7⟩)⟩])
  (.seq (.block (nat_lit 0) (.seq (.reg [⟨(.op (.binI .eql (.e ⟨.d0, .d2⟩) (.k (.int .i64 (.ofNat (nat_lit 0)))))), .push⟩,
    ⟨(.op (.mv (.s (nat_lit 0)))), (.env ⟨.d0, .d8⟩)⟩])
  (.cond (.e ⟨.d0, .d8⟩) (.seq (.reg [⟨(.op (.mv (.k (.int .i64 (.ofNat (nat_lit 0)))))), (.env ⟨.d0, .d6⟩)⟩,
    ⟨(.op (.mv (.k (.bool .false)))), (.env ⟨.d0, .d7⟩)⟩])
  .ret)
  (.seq (.reg [⟨(.op (.binI .eql (.e ⟨.d0, .d0⟩) (.k (.int .u8 (.ofNat (nat_lit 13)))))), .push⟩,
    ⟨(.op (.mv (.s (nat_lit 0)))), (.env ⟨.d0, .db⟩)⟩])
  (.cond (.e ⟨.d0, .db⟩) (.seq (.reg [⟨(.op (.binI .quo (.e ⟨.d0, .d1⟩) (.e ⟨.d0, .d2⟩))), .push⟩,
    ⟨(.op (.mv (.s (nat_lit 0)))), (.env ⟨.d0, .d6⟩)⟩,
    ⟨(.op (.mv (.k (.bool .true)))), (.env ⟨.d0, .d7⟩)⟩])
  .ret)
  .skip)))))
  (.seq (.reg [⟨(.op (.binI .rem (.e ⟨.d0, .d1⟩) (.e ⟨.d0, .d2⟩))), .push⟩,
    ⟨(.op (.mv (.s (nat_lit 0)))), (.env ⟨.d0, .d6⟩)⟩,
    ⟨(.op (.mv (.k (.bool .true)))), (.env ⟨.d0, .d7⟩)⟩])
  .ret))),
  [(⟨.d0, .d0⟩, (.int .u8)), (⟨.d0, .d1⟩, (.int .i64)), (⟨.d0, .d2⟩, (.int .i64))], [.tmp ⟨.d0, .d6⟩, .tmp ⟨.d0, .d7⟩]⟩
theorem pf29_ok : prep Tryd.prog 2 ⟨1046016, 20⟩ 29 = some pf29.strip := by kernel_rfl
def pf6 : PF := ⟨(.seq (.reg [⟨(.op (.mv (.k (.bool .false)))), (.env ⟨.d0, .d4⟩)⟩])
  (.seq (.seq (.reg [⟨(.cast (.one (.int .i64)) (.op (.lenS (.e ⟨.d0, .d1⟩)))), .push⟩,
    ⟨(.op (.binI .gtr (.s (nat_lit 0)) (.k (.int .i64 (.ofNat (nat_lit 4096)))))), (.env ⟨.d0, .dd⟩)⟩])
  (.cond (.e ⟨.d0, .dd⟩) (.seq (.reg [⟨(.op (.mv (.k (.bool .true)))), (.env ⟨.d0, .d4⟩)⟩])
  .ret)
  .skip))
  (.seq (.reg [⟨(.cast (.one .str) (.call ⟨.d0, .d0, .d1, .d2⟩ [(.e ⟨.d0, .d0⟩)])), .push⟩,
    ⟨(.cast (.tup [(.int .i64), .bool]) (.call ⟨.d0, .d0, .d1, .d1⟩ [(.s (nat_lit 0))])), .push⟩,
    ⟨(.cast (.one (.int .i64)) (.op (.extract (nat_lit 0) (.s (nat_lit 0))))), .push⟩,
    ⟨(.cast (.one .bool) (.op (.extract (nat_lit 1) (.s (nat_lit 1))))), .push⟩,
    ⟨(.op (.mv (.s (nat_lit 1)))), (.env ⟨.d0, .d5⟩)⟩,
    ⟨(.op (.mv (.s (nat_lit 0)))), (.env ⟨.d0, .d6⟩)⟩])
  (.seq (.seq (.reg [⟨(.op (.not (.e ⟨.d0, .d6⟩))), .push⟩,
    ⟨(.guard (.s (nat_lit 0)) .false (.op (.mv (.e ⟨.d0, .d5⟩)))), .push⟩,
    ⟨(.guard (.s (nat_lit 1)) .false (.op (.mv (.e ⟨.d0, .d0⟩)))), .push⟩,
    ⟨(.guard (.s (nat_lit 2)) .false (.op (.binI .neq (.s (nat_lit 1)) (.s (nat_lit 0))))), .push⟩,
    ⟨(.cast (.one .bool) (.op (.pick (.s (nat_lit 3)) (.k (.bool .true)) (.s (nat_lit 0))))), (.env ⟨.d1, .da⟩)⟩])
  (.cond (.e ⟨.d1, .da⟩) (.seq (.reg [⟨(.op (.mv (.k (.bool .false)))), (.env ⟨.d0, .d4⟩)⟩])
  .ret)
  .skip))
  (.seq (.reg [⟨(.cast (.tup [(.int .i64), .bool]) (.call ⟨.d0, .d0, .d1, .d1⟩ [(.e ⟨.d0, .d1⟩)])), .push⟩,
    ⟨(.cast (.one (.int .i64)) (.op (.extract (nat_lit 0) (.s (nat_lit 0))))), .push⟩,
    ⟨(.cast (.one .bool) (.op (.extract (nat_lit 1) (.s (nat_lit 1))))), .push⟩,
    ⟨(.op (.mv (.s (nat_lit 1)))), (.env ⟨.d0, .d7⟩)⟩,
    ⟨(.op (.mv (.s (nat_lit 0)))), (.env ⟨.d0, .d8⟩)⟩])
  (.seq (.seq (.reg [⟨(.op (.not (.e ⟨.d0, .d8⟩))), (.env ⟨.d2, .d1⟩)⟩])
  (.cond (.e ⟨.d2, .d1⟩) (.seq (.reg [⟨(.op (.binI .eql (.e ⟨.d0, .d7⟩) (.k (.int .i64 (.ofNat (nat_lit 0)))))), .push⟩,
    ⟨(.guard (.s (nat_lit 0)) .true (.cast (.one .bool) (.call ⟨.d0, .d0, .d0, .de⟩ []))), .push⟩,
    ⟨(.cast (.one .bool) (.op (.pick (.s (nat_lit 1)) (.s (nat_lit 0)) (.k (.bool .false))))), .push⟩,
    ⟨(.op (.mv (.s (nat_lit 0)))), (.env ⟨.d0, .d4⟩)⟩])
  .ret)
  .skip))
  (.seq (.reg [⟨(.op (.mv (.e ⟨.d0, .d1⟩))), (.env ⟨.d0, .d9⟩)⟩])
  (.seq (.reg [⟨(.cast (.one (.int .u8)) (.op (.idxS (.e ⟨.d0, .d9⟩) (.k (.int .i64 (.ofNat (nat_lit 0))))))), .push⟩,
    ⟨(.op (.binI .eql (.s (nat_lit 0)) (.k (.int .u8 (.ofNat (nat_lit 45)))))), .push⟩,
    ⟨(.op (.mv (.s (nat_lit 0)))), (.env ⟨.d0, .da⟩)⟩])
  (.jn .false [(⟨.d0, .d7⟩, (.int .i64)), (⟨.d0, .d9⟩, .str), (⟨.d0, .da⟩, .bool)] (.seq (.reg [⟨(.op (.mv (.e ⟨.d0, .da⟩))), (.env ⟨.d2, .db⟩)⟩])
  (.cond (.e ⟨.d2, .db⟩) (.reg [⟨(.op (.mv (.e ⟨.d0, .d9⟩))), .push⟩,
    ⟨(.cast (.one .str) (.op (.sliS (.s (nat_lit 0)) (.some (.k (.int .i64 (.ofNat (nat_lit 1))))) .none))), .push⟩,
    ⟨(.op (.mv (.s (nat_lit 0)))), (.env ⟨.d0, .d9⟩)⟩])
  .skip))
  (.jn .false [(⟨.d0, .d7⟩, (.int .i64)), (⟨.d0, .d9⟩, .str), (⟨.d0, .da⟩, .bool)] (.block (nat_lit 0) (.lpv [(⟨.d0, .d7⟩, (.intF .i64)), (⟨.d0, .d9⟩, .str), (⟨.d0, .da⟩, .bool)] (.seq (.seq (.reg [⟨(.cast (.one (.int .i64)) (.op (.lenS (.e ⟨.d0, .d9⟩)))), .push⟩,
    ⟨(.op (.binI .gtr (.s (nat_lit 0)) (.k (.int .i64 (.ofNat (nat_lit 1)))))), .push⟩,
    ⟨(.guard (.s (nat_lit 0)) .true (.op (.mv (.e ⟨.d0, .d9⟩)))), .push⟩,
    ⟨(.guard (.s (nat_lit 1)) .true (.cast (.one (.int .u8)) (.op (.idxS (.s (nat_lit 0)) (.k (.int .i64 (.ofNat (nat_lit 0)))))))), .push⟩,
    ⟨(.guard (.s (nat_lit 2)) .true (.op (.binI .eql (.s (nat_lit 0)) (.k (.int .u8 (.ofNat (nat_lit 48))))))), .push⟩,
    ⟨(.cast (.one .bool) (.op (.pick (.s (nat_lit 3)) (.s (nat_lit 0)) (.k (.bool .false))))), (.env ⟨.d3, .d5⟩)⟩])
  (.cond (.e ⟨.d3, .d5⟩) .skip
  (.exit (nat_lit 0))))
  (.block (nat_lit 1) (.reg [⟨(.op (.mv (.e ⟨.d0, .d9⟩))), .push⟩,
    ⟨(.cast (.one .str) (.op (.sliS (.s (nat_lit 0)) (.some (.k (.int .i64 (.ofNat (nat_lit 1))))) .none))), .push⟩,
    ⟨(.op (.mv (.s (nat_lit 0)))), (.env ⟨.d0, .d9⟩)⟩])))))
  (.jn .false [(⟨.d0, .d7⟩, (.int .i64)), (⟨.d0, .d9⟩, .str)] (.seq (.reg [⟨(.guard (.e ⟨.d0, .da⟩) .true (.op (.mv (.e ⟨.d0, .d9⟩)))), .push⟩,
    ⟨(.guard (.e ⟨.d0, .da⟩) .true (.op (.binS .neq (.s (nat_lit 0)) (.k (.str (nat_lit 1) (nat_lit 48)))))), .push⟩,
    ⟨(.cast (.one .bool) (.op (.pick (.e ⟨.d0, .da⟩) (.s (nat_lit 0)) (.k (.bool .false))))), (.env ⟨.d3, .dc⟩)⟩])
  (.cond (.e ⟨.d3, .dc⟩) (.reg [⟨(.op (.mv (.e ⟨.d0, .d9⟩))), .push⟩,
    ⟨(.op (.binS .add (.k (.str (nat_lit 1) (nat_lit 45))) (.s (nat_lit 0)))), .push⟩,
    ⟨(.op (.mv (.s (nat_lit 0)))), (.env ⟨.d0, .d9⟩)⟩])
  .skip))
  (.seq (.reg [⟨(.cast (.one .str) (.call ⟨.d0, .d0, .d1, .d2⟩ [(.e ⟨.d0, .d7⟩)])), .push⟩,
    ⟨(.op (.binS .eql (.s (nat_lit 0)) (.e ⟨.d0, .d9⟩))), .push⟩,
    ⟨(.guard (.s (nat_lit 0)) .true (.cast (.one .bool) (.call ⟨.d0, .d0, .d0, .de⟩ []))), .push⟩,
    ⟨(.cast (.one .bool) (.op (.pick (.s (nat_lit 1)) (.s (nat_lit 0)) (.k (.bool .false))))), .push⟩,
    ⟨(.op (.mv (.s (nat_lit 0)))), (.env ⟨.d0, .d4⟩)⟩])
  .ret)))))))))))),
  [(⟨.d0, .d0⟩, (.int .i64)), (⟨.d0, .d1⟩, .str)], [.tmp ⟨.d0, .d4⟩]⟩
theorem pf6_ok : prep Tryd.prog 2 ⟨1179429683208799639552, 70⟩ 6 = some pf6.strip := by kernel_rfl
def pf8 : PF := ⟨(.seq (.reg [⟨(.op (.mv (.k (.bool .false)))), (.env ⟨.d0, .d4⟩)⟩])
  (.seq (.seq (.reg [⟨(.cast (.one (.int .i64)) (.op (.lenS (.e ⟨.d0, .d0⟩)))), .push⟩,
    ⟨(.op (.binI .gtr (.s (nat_lit 0)) (.k (.int .i64 (.ofNat (nat_lit 4096)))))), (.env ⟨.d1, .d7⟩)⟩])
  (.cond (.e ⟨.d1, .d7⟩) (.seq (.reg [⟨(.op (.mv (.k (.bool .true)))), (.env ⟨.d0, .d4⟩)⟩])
  .ret)
  .skip))
  (.seq (.reg [⟨(.cast (.one (.int .i64)) (.call ⟨.d0, .d0, .d1, .da⟩ [(.e ⟨.d0, .d0⟩)])), .push⟩,
    ⟨(.op (.mv (.s (nat_lit 0)))), (.env ⟨.d0, .d5⟩)⟩])
  (.seq (.reg [⟨(.op (.binI .add (.e ⟨.d0, .d5⟩) (.k (.int .i64 (.ofNat (nat_lit 1)))))), .push⟩,
    ⟨(.cast (.tup [.str, .bool]) (.call ⟨.d0, .d0, .d1, .d3⟩ [(.e ⟨.d0, .d0⟩), (.k (.int .i64 (.ofNat (nat_lit 0)))), (.s (nat_lit 0))])), .push⟩,
    ⟨(.cast (.one .str) (.op (.extract (nat_lit 0) (.s (nat_lit 0))))), .push⟩,
    ⟨(.cast (.one .bool) (.op (.extract (nat_lit 1) (.s (nat_lit 1))))), .push⟩,
    ⟨(.op (.mv (.s (nat_lit 0)))), (.env ⟨.d0, .d7⟩)⟩])
  (.seq (.reg [⟨(.cast (.tup [.str, .bool]) (.call ⟨.d0, .d0, .d1, .d3⟩ [(.e ⟨.d0, .d0⟩), (.k (.int .i64 (.ofNat (nat_lit 0)))), (.e ⟨.d0, .d5⟩)])), .push⟩,
    ⟨(.cast (.one .str) (.op (.extract (nat_lit 0) (.s (nat_lit 0))))), .push⟩,
    ⟨(.cast (.one .bool) (.op (.extract (nat_lit 1) (.s (nat_lit 1))))), .push⟩,
    ⟨(.op (.mv (.s (nat_lit 1)))), (.env ⟨.d0, .d8⟩)⟩,
    ⟨(.op (.mv (.s (nat_lit 0)))), (.env ⟨.d0, .d9⟩)⟩])
  (.seq (.seq (.reg [⟨(.guard (.e ⟨.d0, .d7⟩) .false (.op (.mv (.e ⟨.d0, .d9⟩)))), .push⟩,
    ⟨(.guard (.e ⟨.d0, .d7⟩) .false (.op (.not (.s (nat_lit 0))))), .push⟩,
    ⟨(.cast (.one .bool) (.op (.pick (.e ⟨.d0, .d7⟩) (.k (.bool .true)) (.s (nat_lit 0))))), .push⟩,
    ⟨(.guard (.s (nat_lit 0)) .false (.op (.mv (.e ⟨.d0, .d8⟩)))), .push⟩,
    ⟨(.guard (.s (nat_lit 1)) .false (.op (.mv (.e ⟨.d0, .d0⟩)))), .push⟩,
    ⟨(.guard (.s (nat_lit 2)) .false (.op (.binS .neq (.s (nat_lit 1)) (.s (nat_lit 0))))), .push⟩,
    ⟨(.cast (.one .bool) (.op (.pick (.s (nat_lit 3)) (.k (.bool .true)) (.s (nat_lit 0))))), .push⟩,
    ⟨(.guard (.s (nat_lit 0)) .false (.op (.mv (.e ⟨.d0, .d5⟩)))), .push⟩,
    ⟨(.guard (.s (nat_lit 1)) .false (.op (.binI .lss (.s (nat_lit 0)) (.k (.int .i64 (.ofNat (nat_lit 0))))))), .push⟩,
    ⟨(.cast (.one .bool) (.op (.pick (.s (nat_lit 2)) (.k (.bool .true)) (.s (nat_lit 0))))), .push⟩,
    ⟨(.guard (.s (nat_lit 0)) .false (.op (.mv (.e ⟨.d0, .d5⟩)))), .push⟩,
    ⟨(.guard (.s (nat_lit 1)) .false (.op (.mv (.e ⟨.d0, .d0⟩)))), .push⟩,
    ⟨(.guard (.s (nat_lit 2)) .false (.cast (.one (.int .i64)) (.op (.lenS (.s (nat_lit 0)))))), .push⟩,
    ⟨(.guard (.s (nat_lit 3)) .false (.op (.binI .gtr (.s (nat_lit 2)) (.s (nat_lit 0))))), .push⟩,
    ⟨(.cast (.one .bool) (.op (.pick (.s (nat_lit 4)) (.k (.bool .true)) (.s (nat_lit 0))))), (.env ⟨.d3, .da⟩)⟩])
  (.cond (.e ⟨.d3, .da⟩) (.seq (.reg [⟨(.op (.mv (.k (.bool .false)))), (.env ⟨.d0, .d4⟩)⟩])
  .ret)
  .skip))
  (.seq (.reg [⟨(.op (.binI .add (.e ⟨.d0, .d5⟩) (.k (.int .i64 (.ofNat (nat_lit 1)))))), .push⟩,
    ⟨(.op (.binI .rem (.e ⟨.d0, .d1⟩) (.s (nat_lit 0)))), .push⟩,
    ⟨(.op (.mv (.s (nat_lit 0)))), (.env ⟨.d0, .da⟩)⟩])
  (.jn .false [(⟨.d0, .d0⟩, .str), (⟨.d0, .d5⟩, (.int .i64)), (⟨.d0, .da⟩, (.int .i64))] (.seq (.reg [⟨(.op (.binI .lss (.e ⟨.d0, .da⟩) (.k (.int .i64 (.ofNat (nat_lit 0)))))), (.env ⟨.d4, .d0⟩)⟩])
  (.cond (.e ⟨.d4, .d0⟩) (.reg [⟨(.op (.mv (.e ⟨.d0, .da⟩))), .push⟩,
    ⟨(.op (.neg (.s (nat_lit 0)))), .push⟩,
    ⟨(.op (.mv (.s (nat_lit 0)))), (.env ⟨.d0, .da⟩)⟩])
  .skip))
  (.seq (.reg [⟨(.cast (.tup [.str, .bool]) (.call ⟨.d0, .d0, .d1, .d3⟩ [(.e ⟨.d0, .d0⟩), (.k (.int .i64 (.ofNat (nat_lit 0)))), (.e ⟨.d0, .da⟩)])), .push⟩,
    ⟨(.cast (.one .str) (.op (.extract (nat_lit 0) (.s (nat_lit 0))))), .push⟩,
    ⟨(.cast (.one .bool) (.op (.extract (nat_lit 1) (.s (nat_lit 1))))), .push⟩,
    ⟨(.op (.mv (.s (nat_lit 1)))), (.env ⟨.d0, .db⟩)⟩,
    ⟨(.op (.mv (.s (nat_lit 0)))), (.env ⟨.d0, .dc⟩)⟩])
  (.seq (.reg [⟨(.op (.binI .sub (.e ⟨.d0, .d5⟩) (.e ⟨.d0, .da⟩))), .push⟩,
    ⟨(.cast (.tup [.str, .bool]) (.call ⟨.d0, .d0, .d1, .d3⟩ [(.e ⟨.d0, .d0⟩), (.e ⟨.d0, .da⟩), (.s (nat_lit 0))])), .push⟩,
    ⟨(.cast (.one .str) (.op (.extract (nat_lit 0) (.s (nat_lit 0))))), .push⟩,
    ⟨(.cast (.one .bool) (.op (.extract (nat_lit 1) (.s (nat_lit 1))))), .push⟩,
    ⟨(.op (.mv (.s (nat_lit 1)))), (.env ⟨.d0, .dd⟩)⟩,
    ⟨(.op (.mv (.s (nat_lit 0)))), (.env ⟨.d0, .de⟩)⟩])
  (.seq (.reg [⟨(.cast (.tup [(.int .i64), .bool]) (.call ⟨.d0, .d0, .d1, .d5⟩ [(.e ⟨.d0, .dd⟩)])), .push⟩,
    ⟨(.cast (.one (.int .i64)) (.op (.extract (nat_lit 0) (.s (nat_lit 0))))), .push⟩,
    ⟨(.cast (.one .bool) (.op (.extract (nat_lit 1) (.s (nat_lit 1))))), .push⟩,
    ⟨(.op (.mv (.s (nat_lit 1)))), (.env ⟨.d0, .df⟩)⟩,
    ⟨(.op (.mv (.s (nat_lit 0)))), (.env ⟨.d1, .d0⟩)⟩])
  (.seq (.reg [⟨(.op (.binI .sub (.e ⟨.d0, .d5⟩) (.e ⟨.d0, .da⟩))), .push⟩,
    ⟨(.cast (.one (.int .i64)) (.op (.mm .false (.k (.int .i64 (.ofNat (nat_lit 1)))) (.s (nat_lit 0))))), .push⟩,
    ⟨(.cast (.tup [.str, .bool]) (.call ⟨.d0, .d0, .d1, .d3⟩ [(.e ⟨.d0, .d0⟩), (.e ⟨.d0, .da⟩), (.s (nat_lit 0))])), .push⟩,
    ⟨(.cast (.one .str) (.op (.extract (nat_lit 0) (.s (nat_lit 0))))), .push⟩,
    ⟨(.cast (.one .bool) (.op (.extract (nat_lit 1) (.s (nat_lit 1))))), .push⟩,
    ⟨(.op (.mv (.s (nat_lit 1)))), (.env ⟨.d1, .d1⟩)⟩])
  (.seq (.reg [⟨(.cast (.tup [(.int .i64), .bool]) (.call ⟨.d0, .d0, .d1, .d5⟩ [(.e ⟨.d1, .d1⟩)])), .push⟩,
    ⟨(.cast (.one (.int .i64)) (.op (.extract (nat_lit 0) (.s (nat_lit 0))))), .push⟩,
    ⟨(.cast (.one .bool) (.op (.extract (nat_lit 1) (.s (nat_lit 1))))), .push⟩,
    ⟨(.op (.mv (.s (nat_lit 1)))), (.env ⟨.d1, .d3⟩)⟩,
    ⟨(.op (.mv (.s (nat_lit 0)))), (.env ⟨.d1, .d4⟩)⟩])
  (.seq (.reg [⟨(.guard (.e ⟨.d0, .dc⟩) .true (.op (.mv (.e ⟨.d0, .de⟩)))), .push⟩,
    ⟨(.cast (.one .bool) (.op (.pick (.e ⟨.d0, .dc⟩) (.s (nat_lit 0)) (.k (.bool .false))))), .push⟩,
    ⟨(.guard (.s (nat_lit 0)) .true (.op (.mv (.e ⟨.d0, .db⟩)))), .push⟩,
    ⟨(.guard (.s (nat_lit 1)) .true (.op (.mv (.e ⟨.d0, .dd⟩)))), .push⟩,
    ⟨(.guard (.s (nat_lit 2)) .true (.cast (.one .str) (.call ⟨.d0, .d0, .d1, .d8⟩ [(.s (nat_lit 1)), (.s (nat_lit 0))]))), .push⟩,
    ⟨(.guard (.s (nat_lit 3)) .true (.op (.mv (.e ⟨.d0, .d0⟩)))), .push⟩,
    ⟨(.guard (.s (nat_lit 4)) .true (.op (.binS .eql (.s (nat_lit 1)) (.s (nat_lit 0))))), .push⟩,
    ⟨(.cast (.one .bool) (.op (.pick (.s (nat_lit 5)) (.s (nat_lit 0)) (.k (.bool .false))))), .push⟩,
    ⟨(.guard (.s (nat_lit 0)) .true (.op (.mv (.e ⟨.d0, .db⟩)))), .push⟩,
    ⟨(.guard (.s (nat_lit 1)) .true (.cast (.one (.int .i64)) (.call ⟨.d0, .d0, .d1, .da⟩ [(.s (nat_lit 0))]))), .push⟩,
    ⟨(.guard (.s (nat_lit 2)) .true (.op (.mv (.e ⟨.d0, .da⟩)))), .push⟩,
    ⟨(.guard (.s (nat_lit 3)) .true (.op (.binI .eql (.s (nat_lit 1)) (.s (nat_lit 0))))), .push⟩,
    ⟨(.cast (.one .bool) (.op (.pick (.s (nat_lit 4)) (.s (nat_lit 0)) (.k (.bool .false))))), .push⟩,
    ⟨(.guard (.s (nat_lit 0)) .true (.op (.mv (.e ⟨.d0, .dd⟩)))), .push⟩,
    ⟨(.guard (.s (nat_lit 1)) .true (.cast (.one (.int .i64)) (.call ⟨.d0, .d0, .d1, .da⟩ [(.s (nat_lit 0))]))), .push⟩,
    ⟨(.guard (.s (nat_lit 2)) .true (.op (.mv (.e ⟨.d0, .d5⟩)))), .push⟩,
    ⟨(.guard (.s (nat_lit 3)) .true (.op (.mv (.e ⟨.d0, .da⟩)))), .push⟩,
    ⟨(.guard (.s (nat_lit 4)) .true (.op (.binI .sub (.s (nat_lit 1)) (.s (nat_lit 0))))), .push⟩,
    ⟨(.guard (.s (nat_lit 5)) .true (.op (.binI .eql (.s (nat_lit 3)) (.s (nat_lit 0))))), .push⟩,
    ⟨(.cast (.one .bool) (.op (.pick (.s (nat_lit 6)) (.s (nat_lit 0)) (.k (.bool .false))))), .push⟩,
    ⟨(.guard (.s (nat_lit 0)) .true (.op (.mv (.e ⟨.d0, .df⟩)))), .push⟩,
    ⟨(.guard (.s (nat_lit 1)) .true (.op (.mv (.e ⟨.d1, .d3⟩)))), .push⟩,
    ⟨(.guard (.s (nat_lit 2)) .true (.op (.binI .eql (.s (nat_lit 1)) (.s (nat_lit 0))))), .push⟩,
    ⟨(.cast (.one .bool) (.op (.pick (.s (nat_lit 3)) (.s (nat_lit 0)) (.k (.bool .false))))), .push⟩,
    ⟨(.guard (.s (nat_lit 0)) .true (.op (.mv (.e ⟨.d1, .d0⟩)))), .push⟩,
    ⟨(.guard (.s (nat_lit 1)) .true (.op (.mv (.e ⟨.d1, .d4⟩)))), .push⟩,
    ⟨(.guard (.s (nat_lit 2)) .true (.op (.binB .eql (.s (nat_lit 1)) (.s (nat_lit 0))))), .push⟩,
    ⟨(.cast (.one .bool) (.op (.pick (.s (nat_lit 3)) (.s (nat_lit 0)) (.k (.bool .false))))), .push⟩,
    ⟨(.guard (.s (nat_lit 0)) .true (.op (.mv (.e ⟨.d1, .d0⟩)))), .push⟩,
    ⟨(.guard (.s (nat_lit 1)) .true (.op (.mv (.e ⟨.d0, .da⟩)))), .push⟩,
    ⟨(.guard (.s (nat_lit 2)) .true (.op (.mv (.e ⟨.d0, .d5⟩)))), .push⟩,
    ⟨(.guard (.s (nat_lit 3)) .true (.op (.binI .lss (.s (nat_lit 1)) (.s (nat_lit 0))))), .push⟩,
    ⟨(.guard (.s (nat_lit 4)) .true (.op (.binB .eql (.s (nat_lit 3)) (.s (nat_lit 0))))), .push⟩,
    ⟨(.cast (.one .bool) (.op (.pick (.s (nat_lit 5)) (.s (nat_lit 0)) (.k (.bool .false))))), .push⟩,
    ⟨(.guard (.s (nat_lit 0)) .true (.cast (.one .bool) (.call ⟨.d0, .d0, .d0, .de⟩ []))), .push⟩,
    ⟨(.cast (.one .bool) (.op (.pick (.s (nat_lit 1)) (.s (nat_lit 0)) (.k (.bool .false))))), .push⟩,
    ⟨(.op (.mv (.s (nat_lit 0)))), (.env ⟨.d0, .d4⟩)⟩])
  .ret)))))))))))))),
  [(⟨.d0, .d0⟩, .str), (⟨.d0, .d1⟩, (.int .i64))], [.tmp ⟨.d0, .d4⟩]⟩
theorem pf8_ok : prep Tryd.prog 2 ⟨178405961588244985132285727446212442176356416, 147⟩ 8 = some pf8.strip := by kernel_rfl
def pf26 : PF := ⟨(.seq (.reg [⟨(.op (.mv (.k (.int .i64 (.ofNat (nat_lit 0)))))), (.env ⟨.d0, .d2⟩)⟩])
  (.seq (.reg [⟨(.cast (.one (.int .i64)) (.call ⟨.d0, .d0, .d2, .d5⟩ [(.e ⟨.d0, .d0⟩)])), .push⟩,
    ⟨(.op (.mv (.s (nat_lit 0)))), (.env ⟨.d0, .d2⟩)⟩])
  .ret)),
  [(⟨.d0, .d0⟩, .str)], [.tmp ⟨.d0, .d2⟩]⟩
theorem pf26_ok : prep Tryd.prog 2 ⟨24, 5⟩ 26 = some pf26.strip := by kernel_rfl
def pf37 : PF := ⟨(.seq (.reg [⟨(.op (.mv (.k (.int .i64 (.ofNat (nat_lit 0)))))), (.env ⟨.d0, .d2⟩)⟩])
  (.seq (.seq (.reg [⟨(.op (.ex .rngS [(.e ⟨.d0, .d0⟩)])), (.env ⟨.d0, .d4⟩)⟩])
  (.block (nat_lit 0) (.lpv [(⟨.d0, .d2⟩, (.intF .i64)), (⟨.d0, .d4⟩, .any)] (.seq (.reg [⟨(.op (.ex .nxtS [(.e ⟨.d0, .d4⟩)])), .push⟩,
    ⟨(.cast (.one .bool) (.op (.extract (nat_lit 0) (.s (nat_lit 0))))), (.env ⟨.d0, .d6⟩)⟩])
  (.seq (.cond (.e ⟨.d0, .d6⟩) .skip
  (.exit (nat_lit 0)))
  (.block (nat_lit 1) (.reg [⟨(.op (.mv (.e ⟨.d0, .d2⟩))), .push⟩,
    ⟨(.op (.binI .add (.s (nat_lit 0)) (.k (.int .i64 (.ofNat (nat_lit 1)))))), .push⟩,
    ⟨(.op (.mv (.s (nat_lit 0)))), (.env ⟨.d0, .d2⟩)⟩])))))))
  (.seq (.reg [⟨(.op (.mv (.e ⟨.d0, .d2⟩))), .push⟩,
    ⟨(.op (.mv (.s (nat_lit 0)))), (.env ⟨.d0, .d2⟩)⟩])
  .ret))),
  [(⟨.d0, .d0⟩, .str)], [.tmp ⟨.d0, .d2⟩]⟩
theorem pf37_ok : prep Tryd.prog 2 ⟨936, 10⟩ 37 = some pf37.strip := by kernel_rfl
def pf24 : PF := ⟨(.seq (.reg [⟨(.op (.mv (.k (.str (nat_lit 0) (nat_lit 0))))), (.env ⟨.d0, .d4⟩)⟩])
  (.seq (.reg [⟨(.op (.binS .add (.e ⟨.d0, .d0⟩) (.e ⟨.d0, .d1⟩))), .push⟩,
    ⟨(.op (.mv (.s (nat_lit 0)))), (.env ⟨.d0, .d4⟩)⟩])
  .ret)),
  [(⟨.d0, .d0⟩, .str), (⟨.d0, .d1⟩, .str)], [.tmp ⟨.d0, .d4⟩]⟩
theorem pf24_ok : prep Tryd.prog 2 ⟨224, 8⟩ 24 = some pf24.strip := by kernel_rfl
def pf21 : PF := ⟨(.seq (.reg [⟨(.op (.mv (.k (.int .i64 (.ofNat (nat_lit 0)))))), (.env ⟨.d0, .d2⟩)⟩,
    ⟨(.op (.mv (.k (.bool .false)))), (.env ⟨.d0, .d3⟩)⟩])
  (.seq (.seq (.reg [⟨(.op (.binS .eql (.e ⟨.d0, .d0⟩) (.k (.str (nat_lit 0) (nat_lit 0))))), (.env ⟨.d0, .d7⟩)⟩])
  (.cond (.e ⟨.d0, .d7⟩) (.seq (.reg [⟨(.op (.mv (.k (.int .i64 (.ofNat (nat_lit 0)))))), (.env ⟨.d0, .d2⟩)⟩,
    ⟨(.op (.mv (.k (.bool .false)))), (.env ⟨.d0, .d3⟩)⟩])
  .ret)
  .skip))
  (.seq (.reg [⟨(.cast (.tup [(.int .i32), (.int .i64)]) (.call ⟨.d0, .d0, .d2, .d4⟩ [(.e ⟨.d0, .d0⟩)])), .push⟩,
    ⟨(.cast (.one (.int .i32)) (.op (.extract (nat_lit 0) (.s (nat_lit 0))))), .push⟩,
    ⟨(.cast (.one (.int .i64)) (.op (.extract (nat_lit 1) (.s (nat_lit 1))))), .push⟩,
    ⟨(.op (.mv (.s (nat_lit 1)))), (.env ⟨.d0, .d4⟩)⟩])
  (.seq (.reg [⟨(.cast (.one (.int .i64)) (.op (.convI .i64 (.e ⟨.d0, .d4⟩)))), .push⟩,
    ⟨(.op (.mv (.s (nat_lit 0)))), (.env ⟨.d0, .d2⟩)⟩,
    ⟨(.op (.mv (.k (.bool .true)))), (.env ⟨.d0, .d3⟩)⟩])
  .ret)))),
  [(⟨.d0, .d0⟩, .str)], [.tmp ⟨.d0, .d2⟩, .tmp ⟨.d0, .d3⟩]⟩
theorem pf21_ok : prep Tryd.prog 2 ⟨32608, 15⟩ 21 = some pf21.strip := by kernel_rfl
def pf7 : PF := ⟨(.seq (.reg [⟨(.op (.mv (.k (.bool .false)))), (.env ⟨.d0, .d8⟩)⟩])
  (.seq (.seq (.reg [⟨(.cast (.one (.int .i64)) (.op (.lenS (.e ⟨.d0, .d0⟩)))), .push⟩,
    ⟨(.op (.binI .gtr (.s (nat_lit 0)) (.k (.int .i64 (.ofNat (nat_lit 16384)))))), .push⟩,
    ⟨(.guard (.s (nat_lit 0)) .false (.op (.mv (.e ⟨.d0, .d1⟩)))), .push⟩,
    ⟨(.guard (.s (nat_lit 1)) .false (.cast (.one (.int .i64)) (.op (.lenS (.s (nat_lit 0)))))), .push⟩,
    ⟨(.guard (.s (nat_lit 2)) .false (.op (.binI .gtr (.s (nat_lit 0)) (.k (.int .i64 (.ofNat (nat_lit 16384))))))), .push⟩,
    ⟨(.cast (.one .bool) (.op (.pick (.s (nat_lit 3)) (.k (.bool .true)) (.s (nat_lit 0))))), (.env ⟨.d1, .dc⟩)⟩])
  (.cond (.e ⟨.d1, .dc⟩) (.seq (.reg [⟨(.op (.mv (.k (.bool .true)))), (.env ⟨.d0, .d8⟩)⟩])
  .ret)
  .skip))
  (.seq (.reg [⟨(.cast (.tup [.str, .bool]) (.call ⟨.d0, .d0, .d1, .d3⟩ [(.e ⟨.d0, .d0⟩), (.e ⟨.d0, .d2⟩), (.e ⟨.d0, .d3⟩)])), .push⟩,
    ⟨(.cast (.one .str) (.op (.extract (nat_lit 0) (.s (nat_lit 0))))), .push⟩,
    ⟨(.cast (.one .bool) (.op (.extract (nat_lit 1) (.s (nat_lit 1))))), .push⟩,
    ⟨(.op (.mv (.s (nat_lit 1)))), (.env ⟨.d0, .d9⟩)⟩,
    ⟨(.op (.mv (.s (nat_lit 0)))), (.env ⟨.d0, .da⟩)⟩])
  (.seq (.reg [⟨(.cast (.tup [.str, .bool]) (.call ⟨.d0, .d0, .d1, .d4⟩ [(.e ⟨.d0, .d0⟩), (.e ⟨.d0, .d2⟩), (.e ⟨.d0, .d3⟩)])), .push⟩,
    ⟨(.cast (.one .str) (.op (.extract (nat_lit 0) (.s (nat_lit 0))))), .push⟩,
    ⟨(.cast (.one .bool) (.op (.extract (nat_lit 1) (.s (nat_lit 1))))), .push⟩,
    ⟨(.op (.mv (.s (nat_lit 1)))), (.env ⟨.d0, .db⟩)⟩,
    ⟨(.op (.mv (.s (nat_lit 0)))), (.env ⟨.d0, .dc⟩)⟩])
  (.seq (.reg [⟨(.cast (.tup [(.int .i64), .bool]) (.call ⟨.d0, .d0, .d1, .d5⟩ [(.e ⟨.d0, .d0⟩)])), .push⟩,
    ⟨(.cast (.one (.int .i64)) (.op (.extract (nat_lit 0) (.s (nat_lit 0))))), .push⟩,
    ⟨(.cast (.one .bool) (.op (.extract (nat_lit 1) (.s (nat_lit 1))))), .push⟩,
    ⟨(.op (.mv (.s (nat_lit 1)))), (.env ⟨.d0, .dd⟩)⟩,
    ⟨(.op (.mv (.s (nat_lit 0)))), (.env ⟨.d0, .de⟩)⟩])
  (.seq (.reg [⟨(.cast (.tup [(.int .i64), .bool]) (.call ⟨.d0, .d0, .d1, .d6⟩ [(.e ⟨.d0, .d0⟩)])), .push⟩,
    ⟨(.cast (.one (.int .i64)) (.op (.extract (nat_lit 0) (.s (nat_lit 0))))), .push⟩,
    ⟨(.cast (.one .bool) (.op (.extract (nat_lit 1) (.s (nat_lit 1))))), .push⟩,
    ⟨(.op (.mv (.s (nat_lit 1)))), (.env ⟨.d0, .df⟩)⟩,
    ⟨(.op (.mv (.s (nat_lit 0)))), (.env ⟨.d1, .d0⟩)⟩])
  (.seq (.reg [⟨(.cast (.tup [(.int .i64), .bool]) (.call ⟨.d0, .d0, .d1, .d1⟩ [(.e ⟨.d0, .d0⟩)])), .push⟩,
    ⟨(.cast (.one (.int .i64)) (.op (.extract (nat_lit 0) (.s (nat_lit 0))))), .push⟩,
    ⟨(.cast (.one .bool) (.op (.extract (nat_lit 1) (.s (nat_lit 1))))), .push⟩,
    ⟨(.op (.mv (.s (nat_lit 1)))), (.env ⟨.d1, .d1⟩)⟩,
    ⟨(.op (.mv (.s (nat_lit 0)))), (.env ⟨.d1, .d2⟩)⟩])
  (.seq (.reg [⟨(.cast (.tup [(.int .i64), .bool]) (.call ⟨.d0, .d0, .d1, .d7⟩ [(.e ⟨.d0, .d0⟩)])), .push⟩,
    ⟨(.cast (.one (.int .i64)) (.op (.extract (nat_lit 0) (.s (nat_lit 0))))), .push⟩,
    ⟨(.cast (.one .bool) (.op (.extract (nat_lit 1) (.s (nat_lit 1))))), .push⟩,
    ⟨(.op (.mv (.s (nat_lit 1)))), (.env ⟨.d1, .d3⟩)⟩,
    ⟨(.op (.mv (.s (nat_lit 0)))), (.env ⟨.d1, .d4⟩)⟩])
  (.seq (.reg [⟨(.op (.binS .eql (.e ⟨.d0, .d9⟩) (.e ⟨.d0, .db⟩))), .push⟩,
    ⟨(.guard (.s (nat_lit 0)) .true (.op (.mv (.e ⟨.d0, .da⟩)))), .push⟩,
    ⟨(.guard (.s (nat_lit 1)) .true (.op (.mv (.e ⟨.d0, .dc⟩)))), .push⟩,
    ⟨(.guard (.s (nat_lit 2)) .true (.op (.binB .eql (.s (nat_lit 1)) (.s (nat_lit 0))))), .push⟩,
    ⟨(.cast (.one .bool) (.op (.pick (.s (nat_lit 3)) (.s (nat_lit 0)) (.k (.bool .false))))), .push⟩,
    ⟨(.guard (.s (nat_lit 0)) .true (.op (.mv (.e ⟨.d0, .dd⟩)))), .push⟩,
    ⟨(.guard (.s (nat_lit 1)) .true (.op (.mv (.e ⟨.d0, .df⟩)))), .push⟩,
    ⟨(.guard (.s (nat_lit 2)) .true (.op (.binI .eql (.s (nat_lit 1)) (.s (nat_lit 0))))), .push⟩,
    ⟨(.cast (.one .bool) (.op (.pick (.s (nat_lit 3)) (.s (nat_lit 0)) (.k (.bool .false))))), .push⟩,
    ⟨(.guard (.s (nat_lit 0)) .true (.op (.mv (.e ⟨.d0, .de⟩)))), .push⟩,
    ⟨(.guard (.s (nat_lit 1)) .true (.op (.mv (.e ⟨.d1, .d0⟩)))), .push⟩,
    ⟨(.guard (.s (nat_lit 2)) .true (.op (.binB .eql (.s (nat_lit 1)) (.s (nat_lit 0))))), .push⟩,
    ⟨(.cast (.one .bool) (.op (.pick (.s (nat_lit 3)) (.s (nat_lit 0)) (.k (.bool .false))))), .push⟩,
    ⟨(.guard (.s (nat_lit 0)) .true (.op (.mv (.e ⟨.d1, .d1⟩)))), .push⟩,
    ⟨(.guard (.s (nat_lit 1)) .true (.op (.mv (.e ⟨.d1, .d3⟩)))), .push⟩,
    ⟨(.guard (.s (nat_lit 2)) .true (.op (.binI .eql (.s (nat_lit 1)) (.s (nat_lit 0))))), .push⟩,
    ⟨(.cast (.one .bool) (.op (.pick (.s (nat_lit 3)) (.s (nat_lit 0)) (.k (.bool .false))))), .push⟩,
    ⟨(.guard (.s (nat_lit 0)) .true (.op (.mv (.e ⟨.d1, .d2⟩)))), .push⟩,
    ⟨(.guard (.s (nat_lit 1)) .true (.op (.mv (.e ⟨.d1, .d4⟩)))), .push⟩,
    ⟨(.guard (.s (nat_lit 2)) .true (.op (.binB .eql (.s (nat_lit 1)) (.s (nat_lit 0))))), .push⟩,
    ⟨(.cast (.one .bool) (.op (.pick (.s (nat_lit 3)) (.s (nat_lit 0)) (.k (.bool .false))))), .push⟩,
    ⟨(.guard (.s (nat_lit 0)) .true (.op (.mv (.e ⟨.d0, .d0⟩)))), .push⟩,
    ⟨(.guard (.s (nat_lit 1)) .true (.op (.mv (.e ⟨.d0, .d1⟩)))), .push⟩,
    ⟨(.guard (.s (nat_lit 2)) .true (.cast (.one .str) (.call ⟨.d0, .d0, .d1, .d8⟩ [(.s (nat_lit 1)), (.s (nat_lit 0))]))), .push⟩,
    ⟨(.guard (.s (nat_lit 3)) .true (.op (.mv (.e ⟨.d0, .d0⟩)))), .push⟩,
    ⟨(.guard (.s (nat_lit 4)) .true (.op (.mv (.e ⟨.d0, .d1⟩)))), .push⟩,
    ⟨(.guard (.s (nat_lit 5)) .true (.cast (.one .str) (.call ⟨.d0, .d0, .d1, .d9⟩ [(.s (nat_lit 1)), (.s (nat_lit 0))]))), .push⟩,
    ⟨(.guard (.s (nat_lit 6)) .true (.op (.binS .eql (.s (nat_lit 3)) (.s (nat_lit 0))))), .push⟩,
    ⟨(.cast (.one .bool) (.op (.pick (.s (nat_lit 7)) (.s (nat_lit 0)) (.k (.bool .false))))), .push⟩,
    ⟨(.guard (.s (nat_lit 0)) .true (.op (.mv (.e ⟨.d0, .d0⟩)))), .push⟩,
    ⟨(.guard (.s (nat_lit 1)) .true (.cast (.one (.int .i64)) (.call ⟨.d0, .d0, .d1, .da⟩ [(.s (nat_lit 0))]))), .push⟩,
    ⟨(.guard (.s (nat_lit 2)) .true (.op (.mv (.e ⟨.d0, .d0⟩)))), .push⟩,
    ⟨(.guard (.s (nat_lit 3)) .true (.cast (.one (.int .i64)) (.call ⟨.d0, .d0, .d1, .db⟩ [(.s (nat_lit 0))]))), .push⟩,
    ⟨(.guard (.s (nat_lit 4)) .true (.op (.binI .eql (.s (nat_lit 2)) (.s (nat_lit 0))))), .push⟩,
    ⟨(.cast (.one .bool) (.op (.pick (.s (nat_lit 5)) (.s (nat_lit 0)) (.k (.bool .false))))), .push⟩,
    ⟨(.guard (.s (nat_lit 0)) .true (.op (.mv (.e ⟨.d0, .d3⟩)))), .push⟩,
    ⟨(.guard (.s (nat_lit 1)) .true (.cast (.one .str) (.call ⟨.d0, .d0, .d1, .d2⟩ [(.s (nat_lit 0))]))), .push⟩,
    ⟨(.guard (.s (nat_lit 2)) .true (.op (.mv (.e ⟨.d0, .d3⟩)))), .push⟩,
    ⟨(.guard (.s (nat_lit 3)) .true (.cast (.one .str) (.call ⟨.d0, .d0, .d1, .dc⟩ [(.s (nat_lit 0))]))), .push⟩,
    ⟨(.guard (.s (nat_lit 4)) .true (.op (.binS .eql (.s (nat_lit 2)) (.s (nat_lit 0))))), .push⟩,
    ⟨(.cast (.one .bool) (.op (.pick (.s (nat_lit 5)) (.s (nat_lit 0)) (.k (.bool .false))))), .push⟩,
    ⟨(.guard (.s (nat_lit 0)) .true (.cast (.one .bool) (.call ⟨.d0, .d0, .d0, .de⟩ []))), .push⟩,
    ⟨(.cast (.one .bool) (.op (.pick (.s (nat_lit 1)) (.s (nat_lit 0)) (.k (.bool .false))))), .push⟩,
    ⟨(.op (.mv (.s (nat_lit 0)))), (.env ⟨.d0, .d8⟩)⟩])
  .ret))))))))),
  [(⟨.d0, .d0⟩, .str), (⟨.d0, .d1⟩, .str), (⟨.d0, .d2⟩, (.int .i64)), (⟨.d0, .d3⟩, (.int .i64))], [.tmp ⟨.d0, .d8⟩]⟩
theorem pf7_ok : prep Tryd.prog 2 ⟨166153499473114484112975882264510464, 117⟩ 7 = some pf7.strip := by kernel_rfl
def pf28 : PF := ⟨(.seq (.reg [⟨(.op (.mv (.k (.str (nat_lit 0) (nat_lit 0))))), (.env ⟨.d0, .d2⟩)⟩])
  (.seq (.seq (.reg [⟨(.op (.binI .lss (.e ⟨.d0, .d0⟩) (.k (.int .i64 (.ofNat (nat_lit 0)))))), (.env ⟨.d0, .d4⟩)⟩])
  (.cond (.e ⟨.d0, .d4⟩) (.seq (.reg [⟨(.cast (.one (.int .u64)) (.op (.convI .u64 (.e ⟨.d0, .d0⟩)))), .push⟩,
    ⟨(.op (.neg (.s (nat_lit 0)))), .push⟩,
    ⟨(.cast (.one .str) (.call ⟨.d0, .d0, .d2, .d6⟩ [(.s (nat_lit 0))])), .push⟩,
    ⟨(.op (.binS .add (.k (.str (nat_lit 1) (nat_lit 45))) (.s (nat_lit 0)))), .push⟩,
    ⟨(.op (.mv (.s (nat_lit 0)))), (.env ⟨.d0, .d2⟩)⟩])
  .ret)
  .skip))
  (.seq (.reg [⟨(.cast (.one (.int .u64)) (.op (.convI .u64 (.e ⟨.d0, .d0⟩)))), .push⟩,
    ⟨(.cast (.one .str) (.call ⟨.d0, .d0, .d2, .d6⟩ [(.s (nat_lit 0))])), .push⟩,
    ⟨(.op (.mv (.s (nat_lit 0)))), (.env ⟨.d0, .d2⟩)⟩])
  .ret))),
  [(⟨.d0, .d0⟩, (.int .i64))], [.tmp ⟨.d0, .d2⟩]⟩
theorem pf28_ok : prep Tryd.prog 2 ⟨8168, 13⟩ 28 = some pf28.strip := by kernel_rfl
def pf38 : PF := ⟨(.seq (.reg [⟨(.op (.mv (.k (.str (nat_lit 0) (nat_lit 0))))), (.env ⟨.d0, .d2⟩)⟩])
  (.seq (.reg [⟨(.op (.binI .rem (.e ⟨.d0, .d0⟩) (.k (.int .u64 (.ofNat (nat_lit 10)))))), .push⟩,
    ⟨(.op (.binI .add (.k (.int .u64 (.ofNat (nat_lit 48)))) (.s (nat_lit 0)))), .push⟩,
    ⟨(.cast (.one (.int .u8)) (.op (.convI .u8 (.s (nat_lit 0))))), .push⟩,
    ⟨(.op (.buildS (nat_lit 1) (nat_lit 1) [(.int .u8 (.ofNat (nat_lit 0)))] [((nat_lit 0), (nat_lit 1), (.s (nat_lit 0)))])), .push⟩,
    ⟨(.cast (.one .str) (.op (.bytesS (.s (nat_lit 0))))), .push⟩,
    ⟨(.op (.mv (.s (nat_lit 0)))), (.env ⟨.d0, .d3⟩)⟩])
  (.seq (.seq (.reg [⟨(.op (.binI .gtr (.e ⟨.d0, .d0⟩) (.k (.int .u64 (.ofNat (nat_lit 9)))))), (.env ⟨.d0, .db⟩)⟩])
  (.cond (.e ⟨.d0, .db⟩) (.seq (.reg [⟨(.op (.binI .quo (.e ⟨.d0, .d0⟩) (.k (.int .u64 (.ofNat (nat_lit 10)))))), .push⟩,
    ⟨(.cast (.one .str) (.call ⟨.d0, .d0, .d2, .d6⟩ [(.s (nat_lit 0))])), .push⟩,
    ⟨(.op (.binS .add (.s (nat_lit 0)) (.e ⟨.d0, .d3⟩))), .push⟩,
    ⟨(.op (.mv (.s (nat_lit 0)))), (.env ⟨.d0, .d2⟩)⟩])
  .ret)
  .skip))
  (.seq (.reg [⟨(.op (.mv (.e ⟨.d0, .d3⟩))), (.env ⟨.d0, .d2⟩)⟩])
  .ret)))),
  [(⟨.d0, .d0⟩, (.int .u64))], [.tmp ⟨.d0, .d2⟩]⟩
theorem pf38_ok : prep Tryd.prog 2 ⟨260080, 18⟩ 38 = some pf38.strip := by kernel_rfl
def pf27 : PF := ⟨(.seq (.reg [⟨(.op (.mv (.k (.int .i64 (.ofNat (nat_lit 0)))))), (.env ⟨.d0, .d2⟩)⟩])
  (.seq (.reg [⟨(.call ⟨.d0, .d0, .d2, .d3⟩ [(.e ⟨.d0, .d0⟩)]), .push⟩,
    ⟨(.cast (.one (.int .i64)) (.op (.len (.s (nat_lit 0))))), .push⟩,
    ⟨(.op (.binI .sub (.s (nat_lit 0)) (.k (.int .i64 (.ofNat (nat_lit 1)))))), .push⟩,
    ⟨(.op (.mv (.s (nat_lit 0)))), (.env ⟨.d0, .d2⟩)⟩])
  .ret)),
  [(⟨.d0, .d0⟩, .str)], [.tmp ⟨.d0, .d2⟩]⟩
theorem pf27_ok : prep Tryd.prog 2 ⟨120, 7⟩ 27 = some pf27.strip := by kernel_rfl
def pf35 : PF := ⟨(.seq (.reg [⟨(.op (.mv (.k .nils))), (.env ⟨.d0, .d2⟩)⟩])
  (.seq (.reg [⟨(.op (.mv (.k .nils))), (.env ⟨.d0, .d3⟩)⟩])
  (.jn .false [(⟨.d0, .d0⟩, .str), (⟨.d0, .d3⟩, .any)] (.seq (.reg [⟨(.op (.ex .rngS [(.e ⟨.d0, .d0⟩)])), (.env ⟨.d0, .d6⟩)⟩])
  (.block (nat_lit 0) (.lpv [(⟨.d0, .d0⟩, .str), (⟨.d0, .d3⟩, .any), (⟨.d0, .d6⟩, .any)] (.seq (.reg [⟨(.op (.ex .nxtS [(.e ⟨.d0, .d6⟩)])), (.env ⟨.d0, .d7⟩)⟩,
    ⟨(.cast (.one .bool) (.op (.extract (nat_lit 0) (.e ⟨.d0, .d7⟩)))), (.env ⟨.d0, .d8⟩)⟩])
  (.seq (.cond (.e ⟨.d0, .d8⟩) .skip
  (.exit (nat_lit 0)))
  (.block (nat_lit 1) (.seq (.reg [⟨(.cast (.one (.int .i64)) (.op (.extract (nat_lit 1) (.e ⟨.d0, .d7⟩)))), .push⟩,
    ⟨(.op (.mv (.s (nat_lit 0)))), (.env ⟨.d0, .d4⟩)⟩])
  (.reg [⟨(.op (.mv (.e ⟨.d0, .d3⟩))), .push⟩,
    ⟨(.op (.buildS (nat_lit 1) (nat_lit 1) [(.int .i64 (.ofNat (nat_lit 0)))] [((nat_lit 0), (nat_lit 1), (.e ⟨.d0, .d4⟩))])), .push⟩,
    ⟨(.op (.app (nat_lit 1) (.s (nat_lit 1)) (.s (nat_lit 0)))), .push⟩,
    ⟨(.op (.mv (.s (nat_lit 0)))), (.env ⟨.d0, .d3⟩)⟩]))))))))
  (.seq (.reg [⟨(.op (.mv (.e ⟨.d0, .d3⟩))), .push⟩,
    ⟨(.cast (.one (.int .i64)) (.op (.lenS (.e ⟨.d0, .d0⟩)))), .push⟩,
    ⟨(.op (.buildS (nat_lit 1) (nat_lit 1) [(.int .i64 (.ofNat (nat_lit 0)))] [((nat_lit 0), (nat_lit 1), (.s (nat_lit 0)))])), .push⟩,
    ⟨(.op (.app (nat_lit 1) (.s (nat_lit 2)) (.s (nat_lit 0)))), .push⟩,
    ⟨(.op (.mv (.s (nat_lit 0)))), (.env ⟨.d0, .d3⟩)⟩])
  (.seq (.reg [⟨(.op (.mv (.e ⟨.d0, .d3⟩))), (.env ⟨.d0, .d2⟩)⟩])
  .ret))))),
  [(⟨.d0, .d0⟩, .str)], [.tmp ⟨.d0, .d2⟩]⟩
theorem pf35_ok : prep Tryd.prog 2 ⟨1048096, 20⟩ 35 = some pf35.strip := by kernel_rfl
def pf25 : PF := ⟨(.seq (.reg [⟨(.op (.mv (.k (.str (nat_lit 0) (nat_lit 0))))), (.env ⟨.d0, .d4⟩)⟩])
  (.seq (.reg [⟨(.op (.binS .add (.e ⟨.d0, .d0⟩) (.e ⟨.d0, .d1⟩))), .push⟩,
    ⟨(.op (.mv (.s (nat_lit 0)))), (.env ⟨.d0, .d4⟩)⟩])
  .ret)),
  [(⟨.d0, .d0⟩, .str), (⟨.d0, .d1⟩, .str)], [.tmp ⟨.d0, .d4⟩]⟩
theorem pf25_ok : prep Tryd.prog 2 ⟨224, 8⟩ 25 = some pf25.strip := by kernel_rfl
def pf23 : PF := ⟨(.seq (.reg [⟨(.op (.mv (.k (.int .i64 (.ofNat (nat_lit 0)))))), (.env ⟨.d0, .d2⟩)⟩,
    ⟨(.op (.mv (.k (.bool .false)))), (.env ⟨.d0, .d3⟩)⟩])
  (.seq (.reg [⟨(.cast (.one (.int .i64)) (.op (.lenS (.e ⟨.d0, .d0⟩)))), .push⟩,
    ⟨(.op (.binI .gtr (.s (nat_lit 0)) (.k (.int .i64 (.ofNat (nat_lit 0)))))), .push⟩,
    ⟨(.guard (.s (nat_lit 0)) .true (.op (.mv (.e ⟨.d0, .d0⟩)))), .push⟩,
    ⟨(.guard (.s (nat_lit 1)) .true (.cast (.one (.int .u8)) (.op (.idxS (.s (nat_lit 0)) (.k (.int .i64 (.ofNat (nat_lit 0)))))))), .push⟩,
    ⟨(.guard (.s (nat_lit 2)) .true (.op (.binI .eql (.s (nat_lit 0)) (.k (.int .u8 (.ofNat (nat_lit 45))))))), .push⟩,
    ⟨(.cast (.one .bool) (.op (.pick (.s (nat_lit 3)) (.s (nat_lit 0)) (.k (.bool .false))))), .push⟩,
    ⟨(.op (.mv (.s (nat_lit 0)))), (.env ⟨.d0, .d4⟩)⟩])
  (.jn .false [(⟨.d0, .d0⟩, .str), (⟨.d0, .d4⟩, .bool)] (.seq (.reg [⟨(.op (.mv (.e ⟨.d0, .d4⟩))), (.env ⟨.d1, .d1⟩)⟩])
  (.cond (.e ⟨.d1, .d1⟩) (.reg [⟨(.op (.mv (.e ⟨.d0, .d0⟩))), .push⟩,
    ⟨(.cast (.one .str) (.op (.sliS (.s (nat_lit 0)) (.some (.k (.int .i64 (.ofNat (nat_lit 1))))) .none))), .push⟩,
    ⟨(.op (.mv (.s (nat_lit 0)))), (.env ⟨.d0, .d0⟩)⟩])
  .skip))
  (.seq (.seq (.reg [⟨(.op (.binS .eql (.e ⟨.d0, .d0⟩) (.k (.str (nat_lit 0) (nat_lit 0))))), (.env ⟨.d1, .d5⟩)⟩])
  (.cond (.e ⟨.d1, .d5⟩) (.seq (.reg [⟨(.op (.mv (.k (.int .i64 (.ofNat (nat_lit 0)))))), (.env ⟨.d0, .d2⟩)⟩,
    ⟨(.op (.mv (.k (.bool .false)))), (.env ⟨.d0, .d3⟩)⟩])
  .ret)
  .skip))
  (.seq (.reg [⟨(.op (.mv (.k (.int .u64 (.ofNat (nat_lit 9223372036854775807)))))), (.env ⟨.d0, .d5⟩)⟩])
  (.jn .false [(⟨.d0, .d0⟩, .str), (⟨.d0, .d4⟩, .bool), (⟨.d0, .d5⟩, (.int .u64))] (.seq (.reg [⟨(.op (.mv (.e ⟨.d0, .d4⟩))), (.env ⟨.d1, .d6⟩)⟩])
  (.cond (.e ⟨.d1, .d6⟩) (.reg [⟨(.op (.mv (.k (.int .u64 (.ofNat (nat_lit 9223372036854775808)))))), (.env ⟨.d0, .d5⟩)⟩])
  .skip))
  (.seq (.reg [⟨(.op (.mv (.k (.int .u64 (.ofNat (nat_lit 0)))))), (.env ⟨.d0, .d6⟩)⟩])
  (.jn .true [(⟨.d0, .d2⟩, .any), (⟨.d0, .d3⟩, .any), (⟨.d0, .d4⟩, .bool), (⟨.d0, .d6⟩, (.int .u64))] (.seq (.reg [⟨(.op (.mv (.k (.int .i64 (.ofNat (nat_lit 0)))))), (.env ⟨.d0, .d7⟩)⟩])
  (.block (nat_lit 0) (.lpv [(⟨.d0, .d0⟩, .str), (⟨.d0, .d4⟩, .bool), (⟨.d0, .d5⟩, (.intF .u64)), (⟨.d0, .d6⟩, (.intF .u64)), (⟨.d0, .d7⟩, (.intF .i64))] (.seq (.seq (.reg [⟨(.cast (.one (.int .i64)) (.op (.lenS (.e ⟨.d0, .d0⟩)))), .push⟩,
    ⟨(.op (.binI .lss (.e ⟨.d0, .d7⟩) (.s (nat_lit 0)))), (.env ⟨.d1, .da⟩)⟩])
  (.cond (.e ⟨.d1, .da⟩) .skip
  (.exit (nat_lit 0))))
  (.seq (.block (nat_lit 1) (.seq (.seq (.reg [⟨(.cast (.one (.int .u8)) (.op (.idxS (.e ⟨.d0, .d0⟩) (.e ⟨.d0, .d7⟩)))), .push⟩,
    ⟨(.op (.binI .lss (.s (nat_lit 0)) (.k (.int .u8 (.ofNat (nat_lit 48)))))), .push⟩,
    ⟨(.guard (.s (nat_lit 0)) .false (.op (.mv (.e ⟨.d0, .d0⟩)))), .push⟩,
    ⟨(.guard (.s (nat_lit 1)) .false (.op (.mv (.e ⟨.d0, .d7⟩)))), .push⟩,
    ⟨(.guard (.s (nat_lit 2)) .false (.cast (.one (.int .u8)) (.op (.idxS (.s (nat_lit 1)) (.s (nat_lit 0)))))), .push⟩,
    ⟨(.guard (.s (nat_lit 3)) .false (.op (.binI .gtr (.s (nat_lit 0)) (.k (.int .u8 (.ofNat (nat_lit 57))))))), .push⟩,
    ⟨(.cast (.one .bool) (.op (.pick (.s (nat_lit 4)) (.k (.bool .true)) (.s (nat_lit 0))))), (.env ⟨.d2, .d6⟩)⟩])
  (.cond (.e ⟨.d2, .d6⟩) (.seq (.reg [⟨(.op (.mv (.k (.int .i64 (.ofNat (nat_lit 0)))))), (.env ⟨.d0, .d2⟩)⟩,
    ⟨(.op (.mv (.k (.bool .false)))), (.env ⟨.d0, .d3⟩)⟩])
  .ret)
  .skip))
  (.seq (.reg [⟨(.cast (.one (.int .u8)) (.op (.idxS (.e ⟨.d0, .d0⟩) (.e ⟨.d0, .d7⟩)))), .push⟩,
    ⟨(.op (.binI .sub (.s (nat_lit 0)) (.k (.int .u8 (.ofNat (nat_lit 48)))))), .push⟩,
    ⟨(.cast (.one (.int .u64)) (.op (.convI .u64 (.s (nat_lit 0))))), .push⟩,
    ⟨(.op (.mv (.s (nat_lit 0)))), (.env ⟨.d0, .d8⟩)⟩])
  (.seq (.seq (.reg [⟨(.op (.binI .sub (.e ⟨.d0, .d5⟩) (.e ⟨.d0, .d8⟩))), .push⟩,
    ⟨(.op (.binI .quo (.s (nat_lit 0)) (.k (.int .u64 (.ofNat (nat_lit 10)))))), .push⟩,
    ⟨(.op (.binI .gtr (.e ⟨.d0, .d6⟩) (.s (nat_lit 0)))), (.env ⟨.d3, .d1⟩)⟩])
  (.cond (.e ⟨.d3, .d1⟩) (.seq (.reg [⟨(.op (.mv (.k (.int .i64 (.ofNat (nat_lit 0)))))), (.env ⟨.d0, .d2⟩)⟩,
    ⟨(.op (.mv (.k (.bool .false)))), (.env ⟨.d0, .d3⟩)⟩])
  .ret)
  .skip))
  (.reg [⟨(.op (.mv (.e ⟨.d0, .d6⟩))), .push⟩,
    ⟨(.op (.binI .mul (.s (nat_lit 0)) (.k (.int .u64 (.ofNat (nat_lit 10)))))), .push⟩,
    ⟨(.op (.binI .add (.s (nat_lit 0)) (.e ⟨.d0, .d8⟩))), .push⟩,
    ⟨(.op (.mv (.s (nat_lit 0)))), (.env ⟨.d0, .d6⟩)⟩])))))
  (.reg [⟨(.op (.mv (.e ⟨.d0, .d7⟩))), .push⟩,
    ⟨(.op (.binI .add (.s (nat_lit 0)) (.k (.int .i64 (.ofNat (nat_lit 1)))))), .push⟩,
    ⟨(.op (.mv (.s (nat_lit 0)))), (.env ⟨.d0, .d7⟩)⟩]))))))
  (.seq (.seq (.reg [⟨(.op (.mv (.e ⟨.d0, .d4⟩))), (.env ⟨.d3, .d6⟩)⟩])
  (.cond (.e ⟨.d3, .d6⟩) (.seq (.reg [⟨(.op (.neg (.e ⟨.d0, .d6⟩))), .push⟩,
    ⟨(.cast (.one (.int .i64)) (.op (.convI .i64 (.s (nat_lit 0))))), .push⟩,
    ⟨(.op (.mv (.s (nat_lit 0)))), (.env ⟨.d0, .d2⟩)⟩,
    ⟨(.op (.mv (.k (.bool .true)))), (.env ⟨.d0, .d3⟩)⟩])
  .ret)
  .skip))
  (.seq (.reg [⟨(.cast (.one (.int .i64)) (.op (.convI .i64 (.e ⟨.d0, .d6⟩)))), .push⟩,
    ⟨(.op (.mv (.s (nat_lit 0)))), (.env ⟨.d0, .d2⟩)⟩,
    ⟨(.op (.mv (.k (.bool .true)))), (.env ⟨.d0, .d3⟩)⟩])
  .ret)))))))))),
  [(⟨.d0, .d0⟩, .str)], [.tmp ⟨.d0, .d2⟩, .tmp ⟨.d0, .d3⟩]⟩
theorem pf23_ok : prep Tryd.prog 2 ⟨1134343881192504832, 60⟩ 23 = some pf23.strip := by kernel_rfl
def pf22 : PF := ⟨(.seq (.reg [⟨(.op (.mv (.k (.int .i64 (.ofNat (nat_lit 0)))))), (.env ⟨.d0, .d2⟩)⟩,
    ⟨(.op (.mv (.k (.bool .false)))), (.env ⟨.d0, .d3⟩)⟩])
  (.seq (.seq (.reg [⟨(.op (.ex .rngS [(.e ⟨.d0, .d0⟩)])), (.env ⟨.d0, .d7⟩)⟩])
  (.block (nat_lit 0) (.lpv [(⟨.d0, .d7⟩, .any)] (.seq (.reg [⟨(.op (.ex .nxtS [(.e ⟨.d0, .d7⟩)])), (.env ⟨.d0, .d8⟩)⟩,
    ⟨(.cast (.one .bool) (.op (.extract (nat_lit 0) (.e ⟨.d0, .d8⟩)))), (.env ⟨.d0, .d9⟩)⟩])
  (.seq (.cond (.e ⟨.d0, .d9⟩) .skip
  (.exit (nat_lit 0)))
  (.block (nat_lit 1) (.seq (.reg [⟨(.cast (.one (.int .i32)) (.op (.extract (nat_lit 2) (.e ⟨.d0, .d8⟩)))), .push⟩,
    ⟨(.op (.mv (.s (nat_lit 0)))), (.env ⟨.d0, .d5⟩)⟩])
  (.seq (.reg [⟨(.cast (.one (.int .i64)) (.op (.convI .i64 (.e ⟨.d0, .d5⟩)))), .push⟩,
    ⟨(.op (.mv (.s (nat_lit 0)))), (.env ⟨.d0, .d2⟩)⟩,
    ⟨(.op (.mv (.k (.bool .true)))), (.env ⟨.d0, .d3⟩)⟩])
  .ret))))))))
  (.seq (.reg [⟨(.op (.mv (.k (.int .i64 (.ofNat (nat_lit 0)))))), (.env ⟨.d0, .d2⟩)⟩,
    ⟨(.op (.mv (.k (.bool .false)))), (.env ⟨.d0, .d3⟩)⟩])
  .ret))),
  [(⟨.d0, .d0⟩, .str)], [.tmp ⟨.d0, .d2⟩, .tmp ⟨.d0, .d3⟩]⟩
theorem pf22_ok : prep Tryd.prog 2 ⟨7232, 13⟩ 22 = some pf22.strip := by kernel_rfl
def pf20 : PF := ⟨(.seq (.reg [⟨(.op (.mv (.k (.str (nat_lit 0) (nat_lit 0))))), (.env ⟨.d0, .d6⟩)⟩,
    ⟨(.op (.mv (.k (.bool .false)))), (.env ⟨.d0, .d7⟩)⟩])
  (.seq (.reg [⟨(.call ⟨.d0, .d0, .d2, .d3⟩ [(.e ⟨.d0, .d0⟩)]), .push⟩,
    ⟨(.op (.mv (.s (nat_lit 0)))), (.env ⟨.d0, .d8⟩)⟩])
  (.seq (.reg [⟨(.cast (.one (.int .i64)) (.op (.len (.e ⟨.d0, .d8⟩)))), .push⟩,
    ⟨(.op (.binI .sub (.s (nat_lit 0)) (.k (.int .i64 (.ofNat (nat_lit 1)))))), .push⟩,
    ⟨(.op (.mv (.s (nat_lit 0)))), (.env ⟨.d0, .d9⟩)⟩])
  (.seq (.seq (.reg [⟨(.op (.binI .lss (.e ⟨.d0, .d1⟩) (.k (.int .i64 (.ofNat (nat_lit 0)))))), .push⟩,
    ⟨(.guard (.s (nat_lit 0)) .false (.op (.mv (.e ⟨.d0, .d2⟩)))), .push⟩,
    ⟨(.guard (.s (nat_lit 1)) .false (.op (.binI .lss (.s (nat_lit 0)) (.k (.int .i64 (.ofNat (nat_lit 0))))))), .push⟩,
    ⟨(.cast (.one .bool) (.op (.pick (.s (nat_lit 2)) (.k (.bool .true)) (.s (nat_lit 0))))), .push⟩,
    ⟨(.guard (.s (nat_lit 0)) .false (.op (.mv (.e ⟨.d0, .d1⟩)))), .push⟩,
    ⟨(.guard (.s (nat_lit 1)) .false (.op (.mv (.e ⟨.d0, .d9⟩)))), .push⟩,
    ⟨(.guard (.s (nat_lit 2)) .false (.op (.binI .gtr (.s (nat_lit 1)) (.s (nat_lit 0))))), .push⟩,
    ⟨(.cast (.one .bool) (.op (.pick (.s (nat_lit 3)) (.k (.bool .true)) (.s (nat_lit 0))))), .push⟩,
    ⟨(.guard (.s (nat_lit 0)) .false (.op (.mv (.e ⟨.d0, .d2⟩)))), .push⟩,
    ⟨(.guard (.s (nat_lit 1)) .false (.op (.mv (.e ⟨.d0, .d9⟩)))), .push⟩,
    ⟨(.guard (.s (nat_lit 2)) .false (.op (.mv (.e ⟨.d0, .d1⟩)))), .push⟩,
    ⟨(.guard (.s (nat_lit 3)) .false (.op (.binI .sub (.s (nat_lit 1)) (.s (nat_lit 0))))), .push⟩,
    ⟨(.guard (.s (nat_lit 4)) .false (.op (.binI .gtr (.s (nat_lit 3)) (.s (nat_lit 0))))), .push⟩,
    ⟨(.cast (.one .bool) (.op (.pick (.s (nat_lit 5)) (.k (.bool .true)) (.s (nat_lit 0))))), (.env ⟨.d2, .d0⟩)⟩])
  (.cond (.e ⟨.d2, .d0⟩) (.seq (.reg [⟨(.op (.mv (.k (.str (nat_lit 0) (nat_lit 0))))), (.env ⟨.d0, .d6⟩)⟩,
    ⟨(.op (.mv (.k (.bool .false)))), (.env ⟨.d0, .d7⟩)⟩])
  .ret)
  .skip))
  (.seq (.draw [(.light (.op (.mv (.e ⟨.d0, .d0⟩)))),
    (.light (.op (.mv (.e ⟨.d0, .d8⟩)))),
    (.light (.op (.mv (.e ⟨.d0, .d1⟩)))),
    (.light (.op (.iaddr (nat_lit 1) (.s (nat_lit 1)) (.s (nat_lit 2))))),
    (.light (.cast (.one (.int .i64)) (.op (.load1 (.s (nat_lit 3)))))),
    (.light (.op (.mv (.e ⟨.d0, .d8⟩)))),
    (.light (.op (.mv (.e ⟨.d0, .d1⟩)))),
    (.light (.op (.mv (.e ⟨.d0, .d2⟩)))),
    (.light (.op (.binI .add (.s (nat_lit 6)) (.s (nat_lit 7))))),
    (.light (.op (.iaddr (nat_lit 1) (.s (nat_lit 5)) (.s (nat_lit 8))))),
    (.light (.cast (.one (.int .i64)) (.op (.load1 (.s (nat_lit 9)))))),
    (.light (.cast (.one .str) (.op (.sliS (.s (nat_lit 0)) (.some (.s (nat_lit 4))) (.some (.s (nat_lit 10))))))),
    (.light (.op (.mv (.s (nat_lit 11))))),
    (.light (.op (.mv (.k (.bool .true)))))] [(⟨.d0, .d6⟩, (nat_lit 12)), (⟨.d0, .d7⟩, (nat_lit 13))])
  .ret))))),
  [(⟨.d0, .d0⟩, .str), (⟨.d0, .d1⟩, (.int .i64)), (⟨.d0, .d2⟩, (.int .i64))], [.tmp ⟨.d0, .d6⟩, .tmp ⟨.d0, .d7⟩]⟩
theorem pf20_ok : prep Tryd.prog 2 ⟨35180077120512, 45⟩ 20 = some pf20.strip := by kernel_rfl
def pf5 : PF := ⟨(.seq (.reg [⟨(.op (.mv (.k (.bool .false)))), (.env ⟨.d0, .d6⟩)⟩])
  (.seq (.reg [⟨(.op (.mv (.k (.int .u8 (.ofNat (nat_lit 10)))))), (.env ⟨.d0, .d7⟩)⟩,
    ⟨(.op (.mv (.k (.int .u8 (.ofNat (nat_lit 12)))))), (.env ⟨.d0, .d8⟩)⟩])
  (.seq (.reg [⟨(.cast (.tup [(.int .i64), .bool]) (.call ⟨.d0, .d0, .d0, .da⟩ [(.k (.int .u8 (.ofNat (nat_lit 11)))), (.e ⟨.d0, .d0⟩), (.e ⟨.d0, .d1⟩)])), .push⟩,
    ⟨(.cast (.one (.int .i64)) (.op (.extract (nat_lit 0) (.s (nat_lit 0))))), .push⟩,
    ⟨(.cast (.one .bool) (.op (.extract (nat_lit 1) (.s (nat_lit 1))))), .push⟩,
    ⟨(.op (.mv (.s (nat_lit 1)))), (.env ⟨.d0, .d9⟩)⟩])
  (.seq (.reg [⟨(.op (.binI .rem (.e ⟨.d0, .d2⟩) (.k (.int .i64 (.ofNat (nat_lit 64)))))), .push⟩,
    ⟨(.op (.mv (.s (nat_lit 0)))), (.env ⟨.d0, .db⟩)⟩])
  (.jn .false [(⟨.d0, .d0⟩, (.int .i64)), (⟨.d0, .d1⟩, (.int .i64)), (⟨.d0, .d2⟩, (.int .i64)), (⟨.d0, .d7⟩, (.int .u8)), (⟨.d0, .d8⟩, (.int .u8)), (⟨.d0, .d9⟩, (.int .i64)), (⟨.d0, .db⟩, (.int .i64))] (.seq (.reg [⟨(.op (.binI .lss (.e ⟨.d0, .db⟩) (.k (.int .i64 (.ofNat (nat_lit 0)))))), (.env ⟨.d2, .d2⟩)⟩])
  (.cond (.e ⟨.d2, .d2⟩) (.reg [⟨(.op (.mv (.e ⟨.d0, .db⟩))), .push⟩,
    ⟨(.op (.neg (.s (nat_lit 0)))), .push⟩,
    ⟨(.op (.mv (.s (nat_lit 0)))), (.env ⟨.d0, .db⟩)⟩])
  .skip))
  (.seq (.reg [⟨(.op (.mv (.e ⟨.d0, .d0⟩))), (.env ⟨.d0, .dc⟩)⟩,
    ⟨(.op (.mv (.e ⟨.d0, .d0⟩))), (.env ⟨.d0, .dd⟩)⟩])
  (.jn .false [(⟨.d0, .d0⟩, (.int .i64)), (⟨.d0, .d1⟩, (.int .i64)), (⟨.d0, .d2⟩, (.int .i64)), (⟨.d0, .d7⟩, (.int .u8)), (⟨.d0, .d8⟩, (.int .u8)), (⟨.d0, .d9⟩, (.int .i64)), (⟨.d0, .db⟩, (.int .i64)), (⟨.d0, .dc⟩, (.int .i64)), (⟨.d0, .dd⟩, (.int .i64))] (.seq (.reg [⟨(.op (.mv (.k (.int .i64 (.ofNat (nat_lit 0)))))), (.env ⟨.d0, .de⟩)⟩])
  (.block (nat_lit 0) (.lpv [(⟨.d0, .d0⟩, (.intF .i64)), (⟨.d0, .d1⟩, (.intF .i64)), (⟨.d0, .d2⟩, (.intF .i64)), (⟨.d0, .d7⟩, (.intF .u8)), (⟨.d0, .d8⟩, (.intF .u8)), (⟨.d0, .d9⟩, (.intF .i64)), (⟨.d0, .db⟩, (.intF .i64)), (⟨.d0, .dc⟩, (.intF .i64)), (⟨.d0, .dd⟩, (.intF .i64)), (⟨.d0, .de⟩, (.intF .i64))] (.seq (.seq (.reg [⟨(.op (.binI .lss (.e ⟨.d0, .de⟩) (.e ⟨.d0, .db⟩))), (.env ⟨.d2, .d9⟩)⟩])
  (.cond (.e ⟨.d2, .d9⟩) .skip
  (.exit (nat_lit 0))))
  (.seq (.block (nat_lit 1) (.seq (.reg [⟨(.op (.mv (.e ⟨.d0, .dc⟩))), .push⟩,
    ⟨(.cast (.tup [(.int .i64), .bool]) (.call ⟨.d0, .d0, .d0, .da⟩ [(.k (.int .u8 (.ofNat (nat_lit 18)))), (.s (nat_lit 0)), (.k (.int .i64 (.ofNat (nat_lit 1))))])), .push⟩,
    ⟨(.cast (.one (.int .i64)) (.op (.extract (nat_lit 0) (.s (nat_lit 0))))), .push⟩,
    ⟨(.cast (.one .bool) (.op (.extract (nat_lit 1) (.s (nat_lit 1))))), .push⟩,
    ⟨(.op (.mv (.s (nat_lit 1)))), (.env ⟨.d0, .dc⟩)⟩])
  (.reg [⟨(.op (.mv (.e ⟨.d0, .dd⟩))), .push⟩,
    ⟨(.cast (.tup [(.int .i64), .bool]) (.call ⟨.d0, .d0, .d0, .da⟩ [(.k (.int .u8 (.ofNat (nat_lit 19)))), (.s (nat_lit 0)), (.k (.int .i64 (.ofNat (nat_lit 1))))])), .push⟩,
    ⟨(.cast (.one (.int .i64)) (.op (.extract (nat_lit 0) (.s (nat_lit 0))))), .push⟩,
    ⟨(.cast (.one .bool) (.op (.extract (nat_lit 1) (.s (nat_lit 1))))), .push⟩,
    ⟨(.op (.mv (.s (nat_lit 1)))), (.env ⟨.d0, .dd⟩)⟩])))
  (.reg [⟨(.op (.mv (.e ⟨.d0, .de⟩))), .push⟩,
    ⟨(.op (.binI .add (.s (nat_lit 0)) (.k (.int .i64 (.ofNat (nat_lit 1)))))), .push⟩,
    ⟨(.op (.mv (.s (nat_lit 0)))), (.env ⟨.d0, .de⟩)⟩]))))))
  (.seq (.reg [⟨(.cast (.tup [(.int .i64), .bool]) (.call ⟨.d0, .d0, .d0, .da⟩ [(.k (.int .u8 (.ofNat (nat_lit 18)))), (.e ⟨.d0, .d0⟩), (.e ⟨.d0, .db⟩)])), .push⟩,
    ⟨(.cast (.one (.int .i64)) (.op (.extract (nat_lit 0) (.s (nat_lit 0))))), .push⟩,
    ⟨(.cast (.one .bool) (.op (.extract (nat_lit 1) (.s (nat_lit 1))))), .push⟩,
    ⟨(.op (.mv (.s (nat_lit 1)))), (.env ⟨.d0, .df⟩)⟩])
  (.seq (.reg [⟨(.cast (.tup [(.int .i64), .bool]) (.call ⟨.d0, .d0, .d0, .da⟩ [(.k (.int .u8 (.ofNat (nat_lit 19)))), (.e ⟨.d0, .d0⟩), (.e ⟨.d0, .db⟩)])), .push⟩,
    ⟨(.cast (.one (.int .i64)) (.op (.extract (nat_lit 0) (.s (nat_lit 0))))), .push⟩,
    ⟨(.cast (.one .bool) (.op (.extract (nat_lit 1) (.s (nat_lit 1))))), .push⟩,
    ⟨(.op (.mv (.s (nat_lit 1)))), (.env ⟨.d1, .d1⟩)⟩])
  (.seq (.reg [⟨(.cast (.tup [(.int .i64), .bool]) (.call ⟨.d0, .d0, .d0, .da⟩ [(.k (.int .u8 (.ofNat (nat_lit 15)))), (.e ⟨.d0, .d0⟩), (.e ⟨.d0, .d1⟩)])), .push⟩,
    ⟨(.cast (.one (.int .i64)) (.op (.extract (nat_lit 0) (.s (nat_lit 0))))), .push⟩,
    ⟨(.cast (.one .bool) (.op (.extract (nat_lit 1) (.s (nat_lit 1))))), .push⟩,
    ⟨(.op (.mv (.s (nat_lit 1)))), (.env ⟨.d1, .d3⟩)⟩])
  (.seq (.reg [⟨(.cast (.tup [(.int .i64), .bool]) (.call ⟨.d0, .d0, .d0, .da⟩ [(.k (.int .u8 (.ofNat (nat_lit 16)))), (.e ⟨.d0, .d0⟩), (.e ⟨.d0, .d1⟩)])), .push⟩,
    ⟨(.cast (.one (.int .i64)) (.op (.extract (nat_lit 0) (.s (nat_lit 0))))), .push⟩,
    ⟨(.cast (.one .bool) (.op (.extract (nat_lit 1) (.s (nat_lit 1))))), .push⟩,
    ⟨(.op (.mv (.s (nat_lit 1)))), (.env ⟨.d1, .d5⟩)⟩])
  (.seq (.reg [⟨(.cast (.tup [(.int .i64), .bool]) (.call ⟨.d0, .d0, .d0, .da⟩ [(.k (.int .u8 (.ofNat (nat_lit 17)))), (.e ⟨.d0, .d0⟩), (.e ⟨.d0, .d1⟩)])), .push⟩,
    ⟨(.cast (.one (.int .i64)) (.op (.extract (nat_lit 0) (.s (nat_lit 0))))), .push⟩,
    ⟨(.cast (.one .bool) (.op (.extract (nat_lit 1) (.s (nat_lit 1))))), .push⟩,
    ⟨(.op (.mv (.s (nat_lit 1)))), (.env ⟨.d1, .d7⟩)⟩])
  (.seq (.reg [⟨(.cast (.one (.int .i64)) (.call ⟨.d0, .d0, .d1, .d0⟩ [(.e ⟨.d0, .d7⟩), (.e ⟨.d0, .d0⟩), (.e ⟨.d0, .d1⟩)])), .push⟩,
    ⟨(.cast (.one (.int .i64)) (.call ⟨.d0, .d0, .d1, .d0⟩ [(.e ⟨.d0, .d7⟩), (.e ⟨.d0, .d1⟩), (.e ⟨.d0, .d0⟩)])), .push⟩,
    ⟨(.op (.binI .eql (.s (nat_lit 1)) (.s (nat_lit 0)))), .push⟩,
    ⟨(.guard (.s (nat_lit 0)) .true (.op (.mv (.e ⟨.d0, .d7⟩)))), .push⟩,
    ⟨(.guard (.s (nat_lit 1)) .true (.op (.mv (.e ⟨.d0, .d7⟩)))), .push⟩,
    ⟨(.guard (.s (nat_lit 2)) .true (.op (.mv (.e ⟨.d0, .d0⟩)))), .push⟩,
    ⟨(.guard (.s (nat_lit 3)) .true (.op (.mv (.e ⟨.d0, .d1⟩)))), .push⟩,
    ⟨(.guard (.s (nat_lit 4)) .true (.cast (.one (.int .i64)) (.call ⟨.d0, .d0, .d1, .d0⟩ [(.s (nat_lit 2)), (.s (nat_lit 1)), (.s (nat_lit 0))]))), .push⟩,
    ⟨(.guard (.s (nat_lit 5)) .true (.op (.mv (.e ⟨.d0, .d2⟩)))), .push⟩,
    ⟨(.guard (.s (nat_lit 6)) .true (.cast (.one (.int .i64)) (.call ⟨.d0, .d0, .d1, .d0⟩ [(.s (nat_lit 5)), (.s (nat_lit 1)), (.s (nat_lit 0))]))), .push⟩,
    ⟨(.guard (.s (nat_lit 7)) .true (.op (.mv (.e ⟨.d0, .d7⟩)))), .push⟩,
    ⟨(.guard (.s (nat_lit 8)) .true (.op (.mv (.e ⟨.d0, .d0⟩)))), .push⟩,
    ⟨(.guard (.s (nat_lit 9)) .true (.op (.mv (.e ⟨.d0, .d7⟩)))), .push⟩,
    ⟨(.guard (.s (nat_lit 10)) .true (.op (.mv (.e ⟨.d0, .d1⟩)))), .push⟩,
    ⟨(.guard (.s (nat_lit 11)) .true (.op (.mv (.e ⟨.d0, .d2⟩)))), .push⟩,
    ⟨(.guard (.s (nat_lit 12)) .true (.cast (.one (.int .i64)) (.call ⟨.d0, .d0, .d1, .d0⟩ [(.s (nat_lit 2)), (.s (nat_lit 1)), (.s (nat_lit 0))]))), .push⟩,
    ⟨(.guard (.s (nat_lit 13)) .true (.cast (.one (.int .i64)) (.call ⟨.d0, .d0, .d1, .d0⟩ [(.s (nat_lit 5)), (.s (nat_lit 4)), (.s (nat_lit 0))]))), .push⟩,
    ⟨(.guard (.s (nat_lit 14)) .true (.op (.binI .eql (.s (nat_lit 7)) (.s (nat_lit 0))))), .push⟩,
    ⟨(.cast (.one .bool) (.op (.pick (.s (nat_lit 15)) (.s (nat_lit 0)) (.k (.bool .false))))), .push⟩,
    ⟨(.guard (.s (nat_lit 0)) .true (.op (.mv (.e ⟨.d0, .d8⟩)))), .push⟩,
    ⟨(.guard (.s (nat_lit 1)) .true (.op (.mv (.e ⟨.d0, .d0⟩)))), .push⟩,
    ⟨(.guard (.s (nat_lit 2)) .true (.op (.mv (.e ⟨.d0, .d1⟩)))), .push⟩,
    ⟨(.guard (.s (nat_lit 3)) .true (.cast (.one (.int .i64)) (.call ⟨.d0, .d0, .d1, .d0⟩ [(.s (nat_lit 2)), (.s (nat_lit 1)), (.s (nat_lit 0))]))), .push⟩,
    ⟨(.guard (.s (nat_lit 4)) .true (.op (.mv (.e ⟨.d0, .d8⟩)))), .push⟩,
    ⟨(.guard (.s (nat_lit 5)) .true (.op (.mv (.e ⟨.d0, .d1⟩)))), .push⟩,
    ⟨(.guard (.s (nat_lit 6)) .true (.op (.mv (.e ⟨.d0, .d0⟩)))), .push⟩,
    ⟨(.guard (.s (nat_lit 7)) .true (.cast (.one (.int .i64)) (.call ⟨.d0, .d0, .d1, .d0⟩ [(.s (nat_lit 2)), (.s (nat_lit 1)), (.s (nat_lit 0))]))), .push⟩,
    ⟨(.guard (.s (nat_lit 8)) .true (.op (.binI .eql (.s (nat_lit 4)) (.s (nat_lit 0))))), .push⟩,
    ⟨(.cast (.one .bool) (.op (.pick (.s (nat_lit 9)) (.s (nat_lit 0)) (.k (.bool .false))))), .push⟩,
    ⟨(.guard (.s (nat_lit 0)) .true (.op (.mv (.e ⟨.d0, .d8⟩)))), .push⟩,
    ⟨(.guard (.s (nat_lit 1)) .true (.op (.mv (.e ⟨.d0, .d0⟩)))), .push⟩,
    ⟨(.guard (.s (nat_lit 2)) .true (.op (.mv (.e ⟨.d0, .d7⟩)))), .push⟩,
    ⟨(.guard (.s (nat_lit 3)) .true (.op (.mv (.e ⟨.d0, .d1⟩)))), .push⟩,
    ⟨(.guard (.s (nat_lit 4)) .true (.op (.mv (.e ⟨.d0, .d2⟩)))), .push⟩,
    ⟨(.guard (.s (nat_lit 5)) .true (.cast (.one (.int .i64)) (.call ⟨.d0, .d0, .d1, .d0⟩ [(.s (nat_lit 2)), (.s (nat_lit 1)), (.s (nat_lit 0))]))), .push⟩,
    ⟨(.guard (.s (nat_lit 6)) .true (.cast (.one (.int .i64)) (.call ⟨.d0, .d0, .d1, .d0⟩ [(.s (nat_lit 5)), (.s (nat_lit 4)), (.s (nat_lit 0))]))), .push⟩,
    ⟨(.guard (.s (nat_lit 7)) .true (.op (.mv (.e ⟨.d0, .d7⟩)))), .push⟩,
    ⟨(.guard (.s (nat_lit 8)) .true (.op (.mv (.e ⟨.d0, .d8⟩)))), .push⟩,
    ⟨(.guard (.s (nat_lit 9)) .true (.op (.mv (.e ⟨.d0, .d0⟩)))), .push⟩,
    ⟨(.guard (.s (nat_lit 10)) .true (.op (.mv (.e ⟨.d0, .d1⟩)))), .push⟩,
    ⟨(.guard (.s (nat_lit 11)) .true (.cast (.one (.int .i64)) (.call ⟨.d0, .d0, .d1, .d0⟩ [(.s (nat_lit 2)), (.s (nat_lit 1)), (.s (nat_lit 0))]))), .push⟩,
    ⟨(.guard (.s (nat_lit 12)) .true (.op (.mv (.e ⟨.d0, .d8⟩)))), .push⟩,
    ⟨(.guard (.s (nat_lit 13)) .true (.op (.mv (.e ⟨.d0, .d0⟩)))), .push⟩,
    ⟨(.guard (.s (nat_lit 14)) .true (.op (.mv (.e ⟨.d0, .d2⟩)))), .push⟩,
    ⟨(.guard (.s (nat_lit 15)) .true (.cast (.one (.int .i64)) (.call ⟨.d0, .d0, .d1, .d0⟩ [(.s (nat_lit 2)), (.s (nat_lit 1)), (.s (nat_lit 0))]))), .push⟩,
    ⟨(.guard (.s (nat_lit 16)) .true (.cast (.one (.int .i64)) (.call ⟨.d0, .d0, .d1, .d0⟩ [(.s (nat_lit 8)), (.s (nat_lit 4)), (.s (nat_lit 0))]))), .push⟩,
    ⟨(.guard (.s (nat_lit 17)) .true (.op (.binI .eql (.s (nat_lit 10)) (.s (nat_lit 0))))), .push⟩,
    ⟨(.cast (.one .bool) (.op (.pick (.s (nat_lit 18)) (.s (nat_lit 0)) (.k (.bool .false))))), .push⟩,
    ⟨(.guard (.s (nat_lit 0)) .true (.op (.mv (.e ⟨.d0, .d7⟩)))), .push⟩,
    ⟨(.guard (.s (nat_lit 1)) .true (.op (.mv (.e ⟨.d0, .d9⟩)))), .push⟩,
    ⟨(.guard (.s (nat_lit 2)) .true (.op (.mv (.e ⟨.d0, .d1⟩)))), .push⟩,
    ⟨(.guard (.s (nat_lit 3)) .true (.cast (.one (.int .i64)) (.call ⟨.d0, .d0, .d1, .d0⟩ [(.s (nat_lit 2)), (.s (nat_lit 1)), (.s (nat_lit 0))]))), .push⟩,
    ⟨(.guard (.s (nat_lit 4)) .true (.op (.mv (.e ⟨.d0, .d0⟩)))), .push⟩,
    ⟨(.guard (.s (nat_lit 5)) .true (.op (.binI .eql (.s (nat_lit 1)) (.s (nat_lit 0))))), .push⟩,
    ⟨(.cast (.one .bool) (.op (.pick (.s (nat_lit 6)) (.s (nat_lit 0)) (.k (.bool .false))))), .push⟩,
    ⟨(.guard (.s (nat_lit 0)) .true (.op (.mv (.e ⟨.d0, .d9⟩)))), .push⟩,
    ⟨(.guard (.s (nat_lit 1)) .true (.op (.mv (.e ⟨.d0, .d7⟩)))), .push⟩,
    ⟨(.guard (.s (nat_lit 2)) .true (.op (.mv (.e ⟨.d0, .d0⟩)))), .push⟩,
    ⟨(.guard (.s (nat_lit 3)) .true (.op (.mv (.e ⟨.d0, .d1⟩)))), .push⟩,
    ⟨(.guard (.s (nat_lit 4)) .true (.cast (.one (.int .i64)) (.call ⟨.d0, .d0, .d0, .dc⟩ [(.k (.int .u8 (.ofNat (nat_lit 8)))), (.s (nat_lit 0))]))), .push⟩,
    ⟨(.guard (.s (nat_lit 5)) .true (.cast (.one (.int .i64)) (.call ⟨.d0, .d0, .d1, .d0⟩ [(.s (nat_lit 3)), (.s (nat_lit 2)), (.s (nat_lit 0))]))), .push⟩,
    ⟨(.guard (.s (nat_lit 6)) .true (.op (.binI .eql (.s (nat_lit 5)) (.s (nat_lit 0))))), .push⟩,
    ⟨(.cast (.one .bool) (.op (.pick (.s (nat_lit 7)) (.s (nat_lit 0)) (.k (.bool .false))))), .push⟩,
    ⟨(.guard (.s (nat_lit 0)) .true (.op (.mv (.e ⟨.d0, .df⟩)))), .push⟩,
    ⟨(.guard (.s (nat_lit 1)) .true (.op (.mv (.e ⟨.d0, .dc⟩)))), .push⟩,
    ⟨(.guard (.s (nat_lit 2)) .true (.op (.binI .eql (.s (nat_lit 1)) (.s (nat_lit 0))))), .push⟩,
    ⟨(.cast (.one .bool) (.op (.pick (.s (nat_lit 3)) (.s (nat_lit 0)) (.k (.bool .false))))), .push⟩,
    ⟨(.guard (.s (nat_lit 0)) .true (.op (.mv (.e ⟨.d1, .d1⟩)))), .push⟩,
    ⟨(.guard (.s (nat_lit 1)) .true (.op (.mv (.e ⟨.d0, .dd⟩)))), .push⟩,
    ⟨(.guard (.s (nat_lit 2)) .true (.op (.binI .eql (.s (nat_lit 1)) (.s (nat_lit 0))))), .push⟩,
    ⟨(.cast (.one .bool) (.op (.pick (.s (nat_lit 3)) (.s (nat_lit 0)) (.k (.bool .false))))), .push⟩,
    ⟨(.guard (.s (nat_lit 0)) .true (.op (.mv (.e ⟨.d0, .d7⟩)))), .push⟩,
    ⟨(.guard (.s (nat_lit 1)) .true (.op (.mv (.e ⟨.d1, .d3⟩)))), .push⟩,
    ⟨(.guard (.s (nat_lit 2)) .true (.op (.mv (.e ⟨.d1, .d5⟩)))), .push⟩,
    ⟨(.guard (.s (nat_lit 3)) .true (.cast (.one (.int .i64)) (.call ⟨.d0, .d0, .d1, .d0⟩ [(.s (nat_lit 2)), (.s (nat_lit 1)), (.s (nat_lit 0))]))), .push⟩,
    ⟨(.guard (.s (nat_lit 4)) .true (.op (.mv (.e ⟨.d0, .d7⟩)))), .push⟩,
    ⟨(.guard (.s (nat_lit 5)) .true (.op (.mv (.e ⟨.d0, .d0⟩)))), .push⟩,
    ⟨(.guard (.s (nat_lit 6)) .true (.op (.mv (.e ⟨.d0, .d1⟩)))), .push⟩,
    ⟨(.guard (.s (nat_lit 7)) .true (.cast (.one (.int .i64)) (.call ⟨.d0, .d0, .d1, .d0⟩ [(.s (nat_lit 2)), (.s (nat_lit 1)), (.s (nat_lit 0))]))), .push⟩,
    ⟨(.guard (.s (nat_lit 8)) .true (.op (.binI .eql (.s (nat_lit 4)) (.s (nat_lit 0))))), .push⟩,
    ⟨(.cast (.one .bool) (.op (.pick (.s (nat_lit 9)) (.s (nat_lit 0)) (.k (.bool .false))))), .push⟩,
    ⟨(.guard (.s (nat_lit 0)) .true (.op (.mv (.e ⟨.d0, .d7⟩)))), .push⟩,
    ⟨(.guard (.s (nat_lit 1)) .true (.op (.mv (.e ⟨.d1, .d3⟩)))), .push⟩,
    ⟨(.guard (.s (nat_lit 2)) .true (.op (.mv (.e ⟨.d1, .d7⟩)))), .push⟩,
    ⟨(.guard (.s (nat_lit 3)) .true (.cast (.one (.int .i64)) (.call ⟨.d0, .d0, .d1, .d0⟩ [(.s (nat_lit 2)), (.s (nat_lit 1)), (.s (nat_lit 0))]))), .push⟩,
    ⟨(.guard (.s (nat_lit 4)) .true (.op (.mv (.e ⟨.d1, .d5⟩)))), .push⟩,
    ⟨(.guard (.s (nat_lit 5)) .true (.op (.binI .eql (.s (nat_lit 1)) (.s (nat_lit 0))))), .push⟩,
    ⟨(.cast (.one .bool) (.op (.pick (.s (nat_lit 6)) (.s (nat_lit 0)) (.k (.bool .false))))), .push⟩,
    ⟨(.guard (.s (nat_lit 0)) .true (.op (.mv (.e ⟨.d0, .d0⟩)))), .push⟩,
    ⟨(.guard (.s (nat_lit 1)) .true (.cast (.one (.int .i64)) (.call ⟨.d0, .d0, .d0, .dc⟩ [(.k (.int .u8 (.ofNat (nat_lit 9)))), (.s (nat_lit 0))]))), .push⟩,
    ⟨(.guard (.s (nat_lit 2)) .true (.cast (.one (.int .i64)) (.call ⟨.d0, .d0, .d0, .dc⟩ [(.k (.int .u8 (.ofNat (nat_lit 9)))), (.s (nat_lit 0))]))), .push⟩,
    ⟨(.guard (.s (nat_lit 3)) .true (.op (.mv (.e ⟨.d0, .d0⟩)))), .push⟩,
    ⟨(.guard (.s (nat_lit 4)) .true (.op (.binI .eql (.s (nat_lit 1)) (.s (nat_lit 0))))), .push⟩,
    ⟨(.cast (.one .bool) (.op (.pick (.s (nat_lit 5)) (.s (nat_lit 0)) (.k (.bool .false))))), .push⟩,
    ⟨(.guard (.s (nat_lit 0)) .true (.cast (.one .bool) (.call ⟨.d0, .d0, .d0, .de⟩ []))), .push⟩,
    ⟨(.cast (.one .bool) (.op (.pick (.s (nat_lit 1)) (.s (nat_lit 0)) (.k (.bool .false))))), .push⟩,
    ⟨(.op (.mv (.s (nat_lit 0)))), (.env ⟨.d0, .d6⟩)⟩])
  .ret))))))))))))),
  [(⟨.d0, .d0⟩, (.int .i64)), (⟨.d0, .d1⟩, (.int .i64)), (⟨.d0, .d2⟩, (.int .i64))], [.tmp ⟨.d0, .d6⟩]⟩
theorem pf5_ok : prep Tryd.prog 2 ⟨200867255532373784442745261542645325315275374220632890082304, 197⟩ 5 = some pf5.strip := by kernel_rfl
def pf16 : PF := ⟨(.seq (.reg [⟨(.op (.mv (.k (.int .i64 (.ofNat (nat_lit 0)))))), (.env ⟨.d0, .d6⟩)⟩])
  (.seq (.reg [⟨(.cast (.tup [(.int .i64), .bool]) (.call ⟨.d0, .d0, .d0, .da⟩ [(.e ⟨.d0, .d0⟩), (.e ⟨.d0, .d1⟩), (.e ⟨.d0, .d2⟩)])), .push⟩,
    ⟨(.cast (.one (.int .i64)) (.op (.extract (nat_lit 0) (.s (nat_lit 0))))), .push⟩,
    ⟨(.cast (.one .bool) (.op (.extract (nat_lit 1) (.s (nat_lit 1))))), .push⟩,
    ⟨(.op (.mv (.s (nat_lit 1)))), (.env ⟨.d0, .d7⟩)⟩])
  (.seq (.reg [⟨(.op (.mv (.e ⟨.d0, .d7⟩))), (.env ⟨.d0, .d6⟩)⟩])
  .ret))),
  [(⟨.d0, .d0⟩, (.int .u8)), (⟨.d0, .d1⟩, (.int .i64)), (⟨.d0, .d2⟩, (.int .i64))], [.tmp ⟨.d0, .d6⟩]⟩
theorem pf16_ok : prep Tryd.prog 2 ⟨130816, 17⟩ 16 = some pf16.strip := by kernel_rfl
def pf4 : PF := ⟨(.seq (.reg [⟨(.op (.mv (.k (.bool .false)))), (.env ⟨.d0, .d4⟩)⟩])
  (.seq (.reg [⟨(.cast (.tup [(.int .i64), .bool]) (.call ⟨.d0, .d0, .d0, .da⟩ [(.k (.int .u8 (.ofNat (nat_lit 13)))), (.e ⟨.d0, .d0⟩), (.e ⟨.d0, .d1⟩)])), .push⟩,
    ⟨(.cast (.one (.int .i64)) (.op (.extract (nat_lit 0) (.s (nat_lit 0))))), .push⟩,
    ⟨(.cast (.one .bool) (.op (.extract (nat_lit 1) (.s (nat_lit 1))))), .push⟩,
    ⟨(.op (.mv (.s (nat_lit 1)))), (.env ⟨.d0, .d5⟩)⟩,
    ⟨(.op (.mv (.s (nat_lit 0)))), (.env ⟨.d0, .d6⟩)⟩])
  (.seq (.reg [⟨(.cast (.tup [(.int .i64), .bool]) (.call ⟨.d0, .d0, .d0, .da⟩ [(.k (.int .u8 (.ofNat (nat_lit 14)))), (.e ⟨.d0, .d0⟩), (.e ⟨.d0, .d1⟩)])), .push⟩,
    ⟨(.cast (.one (.int .i64)) (.op (.extract (nat_lit 0) (.s (nat_lit 0))))), .push⟩,
    ⟨(.cast (.one .bool) (.op (.extract (nat_lit 1) (.s (nat_lit 1))))), .push⟩,
    ⟨(.op (.mv (.s (nat_lit 1)))), (.env ⟨.d0, .d7⟩)⟩,
    ⟨(.op (.mv (.s (nat_lit 0)))), (.env ⟨.d0, .d8⟩)⟩])
  (.seq (.seq (.reg [⟨(.op (.binI .eql (.e ⟨.d0, .d1⟩) (.k (.int .i64 (.ofNat (nat_lit 0)))))), (.env ⟨.d1, .db⟩)⟩])
  (.cond (.e ⟨.d1, .db⟩) (.seq (.reg [⟨(.op (.not (.e ⟨.d0, .d6⟩))), .push⟩,
    ⟨(.guard (.s (nat_lit 0)) .true (.op (.mv (.e ⟨.d0, .d8⟩)))), .push⟩,
    ⟨(.guard (.s (nat_lit 1)) .true (.op (.not (.s (nat_lit 0))))), .push⟩,
    ⟨(.cast (.one .bool) (.op (.pick (.s (nat_lit 2)) (.s (nat_lit 0)) (.k (.bool .false))))), .push⟩,
    ⟨(.guard (.s (nat_lit 0)) .true (.op (.mv (.e ⟨.d0, .d5⟩)))), .push⟩,
    ⟨(.guard (.s (nat_lit 1)) .true (.op (.binI .eql (.s (nat_lit 0)) (.k (.int .i64 (.ofNat (nat_lit 0))))))), .push⟩,
    ⟨(.cast (.one .bool) (.op (.pick (.s (nat_lit 2)) (.s (nat_lit 0)) (.k (.bool .false))))), .push⟩,
    ⟨(.guard (.s (nat_lit 0)) .true (.op (.mv (.e ⟨.d0, .d7⟩)))), .push⟩,
    ⟨(.guard (.s (nat_lit 1)) .true (.op (.binI .eql (.s (nat_lit 0)) (.k (.int .i64 (.ofNat (nat_lit 0))))))), .push⟩,
    ⟨(.cast (.one .bool) (.op (.pick (.s (nat_lit 2)) (.s (nat_lit 0)) (.k (.bool .false))))), .push⟩,
    ⟨(.guard (.s (nat_lit 0)) .true (.cast (.one .bool) (.call ⟨.d0, .d0, .d0, .de⟩ []))), .push⟩,
    ⟨(.cast (.one .bool) (.op (.pick (.s (nat_lit 1)) (.s (nat_lit 0)) (.k (.bool .false))))), .push⟩,
    ⟨(.op (.mv (.s (nat_lit 0)))), (.env ⟨.d0, .d4⟩)⟩])
  .ret)
  .skip))
  (.seq (.reg [⟨(.cast (.tup [(.int .i64), .bool]) (.call ⟨.d0, .d0, .d0, .da⟩ [(.k (.int .u8 (.ofNat (nat_lit 12)))), (.e ⟨.d0, .d5⟩), (.e ⟨.d0, .d1⟩)])), .push⟩,
    ⟨(.cast (.one (.int .i64)) (.op (.extract (nat_lit 0) (.s (nat_lit 0))))), .push⟩,
    ⟨(.cast (.one .bool) (.op (.extract (nat_lit 1) (.s (nat_lit 1))))), .push⟩,
    ⟨(.op (.mv (.s (nat_lit 1)))), (.env ⟨.d0, .d9⟩)⟩])
  (.seq (.reg [⟨(.cast (.tup [(.int .i64), .bool]) (.call ⟨.d0, .d0, .d0, .da⟩ [(.k (.int .u8 (.ofNat (nat_lit 10)))), (.e ⟨.d0, .d9⟩), (.e ⟨.d0, .d7⟩)])), .push⟩,
    ⟨(.cast (.one (.int .i64)) (.op (.extract (nat_lit 0) (.s (nat_lit 0))))), .push⟩,
    ⟨(.cast (.one .bool) (.op (.extract (nat_lit 1) (.s (nat_lit 1))))), .push⟩,
    ⟨(.op (.mv (.s (nat_lit 1)))), (.env ⟨.d0, .db⟩)⟩])
  (.seq (.reg [⟨(.op (.binI .eql (.e ⟨.d0, .d7⟩) (.k (.int .i64 (.ofNat (nat_lit 0)))))), .push⟩,
    ⟨(.guard (.s (nat_lit 0)) .false (.op (.mv (.e ⟨.d0, .d7⟩)))), .push⟩,
    ⟨(.guard (.s (nat_lit 1)) .false (.op (.binI .lss (.s (nat_lit 0)) (.k (.int .i64 (.ofNat (nat_lit 0))))))), .push⟩,
    ⟨(.guard (.s (nat_lit 2)) .false (.op (.mv (.e ⟨.d0, .d0⟩)))), .push⟩,
    ⟨(.guard (.s (nat_lit 3)) .false (.op (.binI .lss (.s (nat_lit 0)) (.k (.int .i64 (.ofNat (nat_lit 0))))))), .push⟩,
    ⟨(.guard (.s (nat_lit 4)) .false (.op (.binB .eql (.s (nat_lit 2)) (.s (nat_lit 0))))), .push⟩,
    ⟨(.guard (.s (nat_lit 5)) .false (.op (.mv (.s (nat_lit 0))))), .push⟩,
    ⟨(.guard (.s (nat_lit 0)) .true (.op (.mv (.e ⟨.d0, .d7⟩)))), .push⟩,
    ⟨(.guard (.s (nat_lit 1)) .true (.cast (.one (.int .u64)) (.call ⟨.d0, .d0, .d0, .df⟩ [(.s (nat_lit 0))]))), .push⟩,
    ⟨(.guard (.s (nat_lit 2)) .true (.op (.mv (.e ⟨.d0, .d1⟩)))), .push⟩,
    ⟨(.guard (.s (nat_lit 3)) .true (.cast (.one (.int .u64)) (.call ⟨.d0, .d0, .d0, .df⟩ [(.s (nat_lit 0))]))), .push⟩,
    ⟨(.guard (.s (nat_lit 4)) .true (.op (.binI .lss (.s (nat_lit 2)) (.s (nat_lit 0))))), .push⟩,
    ⟨(.guard (.s (nat_lit 11)) .false (.cast (.one .bool) (.op (.pick (.s (nat_lit 5)) (.s (nat_lit 0)) (.k (.bool .false)))))), .push⟩,
    ⟨(.cast (.one .bool) (.op (.pick (.s (nat_lit 12)) (.k (.bool .true)) (.s (nat_lit 0))))), .push⟩,
    ⟨(.op (.mv (.s (nat_lit 0)))), (.env ⟨.d0, .dd⟩)⟩])
  (.seq (.reg [⟨(.guard (.e ⟨.d0, .d6⟩) .true (.op (.mv (.e ⟨.d0, .d8⟩)))), .push⟩,
    ⟨(.cast (.one .bool) (.op (.pick (.e ⟨.d0, .d6⟩) (.s (nat_lit 0)) (.k (.bool .false))))), .push⟩,
    ⟨(.guard (.s (nat_lit 0)) .true (.op (.mv (.e ⟨.d0, .db⟩)))), .push⟩,
    ⟨(.guard (.s (nat_lit 1)) .true (.op (.mv (.e ⟨.d0, .d0⟩)))), .push⟩,
    ⟨(.guard (.s (nat_lit 2)) .true (.op (.binI .eql (.s (nat_lit 1)) (.s (nat_lit 0))))), .push⟩,
    ⟨(.cast (.one .bool) (.op (.pick (.s (nat_lit 3)) (.s (nat_lit 0)) (.k (.bool .false))))), .push⟩,
    ⟨(.guard (.s (nat_lit 0)) .true (.op (.mv (.e ⟨.d0, .dd⟩)))), .push⟩,
    ⟨(.cast (.one .bool) (.op (.pick (.s (nat_lit 1)) (.s (nat_lit 0)) (.k (.bool .false))))), .push⟩,
    ⟨(.guard (.s (nat_lit 0)) .true (.cast (.one .bool) (.call ⟨.d0, .d0, .d0, .de⟩ []))), .push⟩,
    ⟨(.cast (.one .bool) (.op (.pick (.s (nat_lit 1)) (.s (nat_lit 0)) (.k (.bool .false))))), .push⟩,
    ⟨(.op (.mv (.s (nat_lit 0)))), (.env ⟨.d0, .d4⟩)⟩])
  .ret)))))))),
  [(⟨.d0, .d0⟩, (.int .i64)), (⟨.d0, .d1⟩, (.int .i64))], [.tmp ⟨.d0, .d4⟩]⟩
theorem pf4_ok : prep Tryd.prog 2 ⟨309485009821345068590552064, 88⟩ 4 = some pf4.strip := by kernel_rfl
def pf15 : PF := ⟨(.seq (.reg [⟨(.op (.mv (.k (.int .u64 (.ofNat (nat_lit 0)))))), (.env ⟨.d0, .d2⟩)⟩])
  (.seq (.seq (.reg [⟨(.op (.binI .lss (.e ⟨.d0, .d0⟩) (.k (.int .i64 (.ofNat (nat_lit 0)))))), (.env ⟨.d0, .d4⟩)⟩])
  (.cond (.e ⟨.d0, .d4⟩) (.seq (.reg [⟨(.cast (.one (.int .u64)) (.op (.convI .u64 (.e ⟨.d0, .d0⟩)))), .push⟩,
    ⟨(.op (.neg (.s (nat_lit 0)))), .push⟩,
    ⟨(.op (.mv (.s (nat_lit 0)))), (.env ⟨.d0, .d2⟩)⟩])
  .ret)
  .skip))
  (.seq (.reg [⟨(.cast (.one (.int .u64)) (.op (.convI .u64 (.e ⟨.d0, .d0⟩)))), .push⟩,
    ⟨(.op (.mv (.s (nat_lit 0)))), (.env ⟨.d0, .d2⟩)⟩])
  .ret))),
  [(⟨.d0, .d0⟩, (.int .i64))], [.tmp ⟨.d0, .d2⟩]⟩
theorem pf15_ok : prep Tryd.prog 2 ⟨1000, 10⟩ 15 = some pf15.strip := by kernel_rfl
def pf3 : PF := ⟨(.seq (.reg [⟨(.op (.mv (.k (.bool .false)))), (.env ⟨.d0, .d6⟩)⟩])
  (.seq (.reg [⟨(.cast (.tup [(.int .i64), .bool]) (.call ⟨.d0, .d0, .d0, .da⟩ [(.e ⟨.d0, .d0⟩), (.e ⟨.d0, .d1⟩), (.e ⟨.d0, .d2⟩)])), .push⟩,
    ⟨(.cast (.one (.int .i64)) (.op (.extract (nat_lit 0) (.s (nat_lit 0))))), .push⟩,
    ⟨(.cast (.one .bool) (.op (.extract (nat_lit 1) (.s (nat_lit 1))))), .push⟩,
    ⟨(.op (.mv (.s (nat_lit 1)))), (.env ⟨.d0, .d7⟩)⟩,
    ⟨(.op (.mv (.s (nat_lit 0)))), (.env ⟨.d0, .d8⟩)⟩])
  (.seq (.reg [⟨(.cast (.tup [(.int .i64), .bool]) (.call ⟨.d0, .d0, .d0, .db⟩ [(.e ⟨.d0, .d0⟩), (.e ⟨.d0, .d1⟩), (.e ⟨.d0, .d2⟩)])), .push⟩,
    ⟨(.cast (.one (.int .i64)) (.op (.extract (nat_lit 0) (.s (nat_lit 0))))), .push⟩,
    ⟨(.cast (.one .bool) (.op (.extract (nat_lit 1) (.s (nat_lit 1))))), .push⟩,
    ⟨(.op (.mv (.s (nat_lit 1)))), (.env ⟨.d0, .d9⟩)⟩,
    ⟨(.op (.mv (.s (nat_lit 0)))), (.env ⟨.d0, .da⟩)⟩])
  (.seq (.reg [⟨(.op (.binI .eql (.e ⟨.d0, .d7⟩) (.e ⟨.d0, .d9⟩))), .push⟩,
    ⟨(.guard (.s (nat_lit 0)) .true (.op (.mv (.e ⟨.d0, .d8⟩)))), .push⟩,
    ⟨(.guard (.s (nat_lit 1)) .true (.op (.mv (.e ⟨.d0, .da⟩)))), .push⟩,
    ⟨(.guard (.s (nat_lit 2)) .true (.op (.binB .eql (.s (nat_lit 1)) (.s (nat_lit 0))))), .push⟩,
    ⟨(.cast (.one .bool) (.op (.pick (.s (nat_lit 3)) (.s (nat_lit 0)) (.k (.bool .false))))), .push⟩,
    ⟨(.guard (.s (nat_lit 0)) .true (.op (.mv (.e ⟨.d0, .d0⟩)))), .push⟩,
    ⟨(.guard (.s (nat_lit 1)) .true (.op (.mv (.e ⟨.d0, .d1⟩)))), .push⟩,
    ⟨(.guard (.s (nat_lit 2)) .true (.cast (.one (.int .i64)) (.call ⟨.d0, .d0, .d0, .dc⟩ [(.s (nat_lit 1)), (.s (nat_lit 0))]))), .push⟩,
    ⟨(.guard (.s (nat_lit 3)) .true (.op (.mv (.e ⟨.d0, .d0⟩)))), .push⟩,
    ⟨(.guard (.s (nat_lit 4)) .true (.op (.mv (.e ⟨.d0, .d1⟩)))), .push⟩,
    ⟨(.guard (.s (nat_lit 5)) .true (.cast (.one (.int .i64)) (.call ⟨.d0, .d0, .d0, .dd⟩ [(.s (nat_lit 1)), (.s (nat_lit 0))]))), .push⟩,
    ⟨(.guard (.s (nat_lit 6)) .true (.op (.binI .eql (.s (nat_lit 3)) (.s (nat_lit 0))))), .push⟩,
    ⟨(.cast (.one .bool) (.op (.pick (.s (nat_lit 7)) (.s (nat_lit 0)) (.k (.bool .false))))), .push⟩,
    ⟨(.guard (.s (nat_lit 0)) .true (.cast (.one .bool) (.call ⟨.d0, .d0, .d0, .de⟩ []))), .push⟩,
    ⟨(.cast (.one .bool) (.op (.pick (.s (nat_lit 1)) (.s (nat_lit 0)) (.k (.bool .false))))), .push⟩,
    ⟨(.op (.mv (.s (nat_lit 0)))), (.env ⟨.d0, .d6⟩)⟩])
  .ret)))),
  [(⟨.d0, .d0⟩, (.int .u8)), (⟨.d0, .d1⟩, (.int .i64)), (⟨.d0, .d2⟩, (.int .i64))], [.tmp ⟨.d0, .d6⟩]⟩
theorem pf3_ok : prep Tryd.prog 2 ⟨35184372086784, 45⟩ 3 = some pf3.strip := by kernel_rfl
def pf13 : PF := ⟨(.seq (.reg [⟨(.op (.mv (.k (.int .i64 (.ofNat (nat_lit 0)))))), (.env ⟨.d0, .d4⟩)⟩])
  (.seq (.seq (.reg [⟨(.op (.mv (.e ⟨.d0, .d0⟩))), (.env ⟨.d0, .d5⟩)⟩])
  (.block (nat_lit 0) (.seq (.reg [⟨(.op (.binI .eql (.e ⟨.d0, .d5⟩) (.k (.int .u8 (.ofNat (nat_lit 8)))))), .push⟩,
    ⟨(.op (.mv (.s (nat_lit 0)))), (.env ⟨.d0, .d6⟩)⟩])
  (.cond (.e ⟨.d0, .d6⟩) (.seq (.reg [⟨(.cast (.one (.int .u64)) (.op (.convI .u64 (.e ⟨.d0, .d1⟩)))), .push⟩,
    ⟨(.op (.neg (.s (nat_lit 0)))), .push⟩,
    ⟨(.cast (.one (.int .i64)) (.op (.convI .i64 (.s (nat_lit 0))))), .push⟩,
    ⟨(.op (.mv (.s (nat_lit 0)))), (.env ⟨.d0, .d4⟩)⟩])
  .ret)
  (.seq (.reg [⟨(.op (.binI .eql (.e ⟨.d0, .d5⟩) (.k (.int .u8 (.ofNat (nat_lit 9)))))), .push⟩,
    ⟨(.op (.mv (.s (nat_lit 0)))), (.env ⟨.d0, .dc⟩)⟩])
  (.cond (.e ⟨.d0, .dc⟩) (.seq (.reg [⟨(.op (.binI .sub (.k (.int .i64 (.negSucc (nat_lit 0)))) (.e ⟨.d0, .d1⟩))), .push⟩,
    ⟨(.op (.mv (.s (nat_lit 0)))), (.env ⟨.d0, .d4⟩)⟩])
  .ret)
  .skip))))))
  (.seq (.reg [⟨(.op (.mv (.k (.int .i64 (.ofNat (nat_lit 0)))))), (.env ⟨.d0, .d4⟩)⟩])
  .ret))),
  [(⟨.d0, .d0⟩, (.int .u8)), (⟨.d0, .d1⟩, (.int .i64))], [.tmp ⟨.d0, .d4⟩]⟩
theorem pf13_ok : prep Tryd.prog 2 ⟨61312, 16⟩ 13 = some pf13.strip := by kernel_rfl
def pf11 : PF := ⟨(.seq (.reg [⟨(.op (.mv (.k (.int .i64 (.ofNat (nat_lit 0)))))), (.env ⟨.d0, .d6⟩)⟩,
    ⟨(.op (.mv (.k (.bool .false)))), (.env ⟨.d0, .d7⟩)⟩])
  (.seq (.seq (.reg [⟨(.op (.mv (.e ⟨.d0, .d0⟩))), (.env ⟨.d0, .dc⟩)⟩])
  (.block (nat_lit 0) (.seq (.reg [⟨(.op (.binI .eql (.e ⟨.d0, .dc⟩) (.k (.int .u8 (.ofNat (nat_lit 10)))))), .push⟩,
    ⟨(.op (.mv (.s (nat_lit 0)))), (.env ⟨.d0, .dd⟩)⟩])
  (.cond (.e ⟨.d0, .dd⟩) (.seq (.reg [⟨(.cast (.one (.int .u64)) (.op (.convI .u64 (.e ⟨.d0, .d1⟩)))), .push⟩,
    ⟨(.cast (.one (.int .u64)) (.op (.convI .u64 (.e ⟨.d0, .d2⟩)))), .push⟩,
    ⟨(.op (.binI .add (.s (nat_lit 1)) (.s (nat_lit 0)))), .push⟩,
    ⟨(.cast (.one (.int .i64)) (.op (.convI .i64 (.s (nat_lit 0))))), .push⟩,
    ⟨(.op (.mv (.s (nat_lit 0)))), (.env ⟨.d0, .d6⟩)⟩,
    ⟨(.op (.mv (.k (.bool .true)))), (.env ⟨.d0, .d7⟩)⟩])
  .ret)
  (.seq (.reg [⟨(.op (.binI .eql (.e ⟨.d0, .dc⟩) (.k (.int .u8 (.ofNat (nat_lit 11)))))), .push⟩,
    ⟨(.op (.mv (.s (nat_lit 0)))), (.env ⟨.d1, .d5⟩)⟩])
  (.cond (.e ⟨.d1, .d5⟩) (.seq (.reg [⟨(.cast (.one (.int .u64)) (.op (.convI .u64 (.e ⟨.d0, .d1⟩)))), .push⟩,
    ⟨(.cast (.one (.int .u64)) (.op (.convI .u64 (.e ⟨.d0, .d2⟩)))), .push⟩,
    ⟨(.op (.binI .sub (.s (nat_lit 1)) (.s (nat_lit 0)))), .push⟩,
    ⟨(.cast (.one (.int .i64)) (.op (.convI .i64 (.s (nat_lit 0))))), .push⟩,
    ⟨(.op (.mv (.s (nat_lit 0)))), (.env ⟨.d0, .d6⟩)⟩,
    ⟨(.op (.mv (.k (.bool .true)))), (.env ⟨.d0, .d7⟩)⟩])
  .ret)
  (.seq (.reg [⟨(.op (.binI .eql (.e ⟨.d0, .dc⟩) (.k (.int .u8 (.ofNat (nat_lit 12)))))), .push⟩,
    ⟨(.op (.mv (.s (nat_lit 0)))), (.env ⟨.d1, .dd⟩)⟩])
  (.cond (.e ⟨.d1, .dd⟩) (.seq (.reg [⟨(.cast (.one (.int .u64)) (.op (.convI .u64 (.e ⟨.d0, .d1⟩)))), .push⟩,
    ⟨(.cast (.one (.int .u64)) (.op (.convI .u64 (.e ⟨.d0, .d2⟩)))), .push⟩,
    ⟨(.op (.binI .mul (.s (nat_lit 1)) (.s (nat_lit 0)))), .push⟩,
    ⟨(.cast (.one (.int .i64)) (.op (.convI .i64 (.s (nat_lit 0))))), .push⟩,
    ⟨(.op (.mv (.s (nat_lit 0)))), (.env ⟨.d0, .d6⟩)⟩,
    ⟨(.op (.mv (.k (.bool .true)))), (.env ⟨.d0, .d7⟩)⟩])
  .ret)
  (.jn .false [(⟨.d0, .d0⟩, (.int .u8)), (⟨.d0, .d1⟩, (.int .i64)), (⟨.d0, .d2⟩, (.int .i64)), (⟨.d0, .dc⟩, (.int .u8)), (⟨.d2, .d5⟩, .bool)] (.seq (.reg [⟨(.op (.binI .eql (.e ⟨.d0, .dc⟩) (.k (.int .u8 (.ofNat (nat_lit 13)))))), .push⟩,
    ⟨(.op (.mv (.s (nat_lit 0)))), (.env ⟨.d2, .d5⟩)⟩])
  (.cond (.e ⟨.d2, .d5⟩) .skip
  (.reg [⟨(.op (.binI .eql (.e ⟨.d0, .dc⟩) (.k (.int .u8 (.ofNat (nat_lit 14)))))), .push⟩,
    ⟨(.op (.mv (.s (nat_lit 0)))), (.env ⟨.d2, .d5⟩)⟩])))
  (.cond (.e ⟨.d2, .d5⟩) (.seq (.seq (.reg [⟨(.op (.binI .eql (.e ⟨.d0, .d2⟩) (.k (.int .i64 (.ofNat (nat_lit 0)))))), (.env ⟨.d2, .d9⟩)⟩])
  (.cond (.e ⟨.d2, .d9⟩) (.seq (.reg [⟨(.op (.mv (.k (.int .i64 (.ofNat (nat_lit 0)))))), (.env ⟨.d0, .d6⟩)⟩,
    ⟨(.op (.mv (.k (.bool .false)))), (.env ⟨.d0, .d7⟩)⟩])
  .ret)
  .skip))
  (.seq (.reg [⟨(.cast (.tup [(.int .i64), (.int .i64)]) (.call ⟨.d0, .d0, .d1, .de⟩ [(.e ⟨.d0, .d1⟩), (.e ⟨.d0, .d2⟩)])), .push⟩,
    ⟨(.cast (.one (.int .i64)) (.op (.extract (nat_lit 0) (.s (nat_lit 0))))), .push⟩,
    ⟨(.cast (.one (.int .i64)) (.op (.extract (nat_lit 1) (.s (nat_lit 1))))), .push⟩,
    ⟨(.op (.mv (.s (nat_lit 1)))), (.env ⟨.d0, .d8⟩)⟩,
    ⟨(.op (.mv (.s (nat_lit 0)))), (.env ⟨.d0, .d9⟩)⟩])
  (.seq (.seq (.reg [⟨(.op (.binI .eql (.e ⟨.d0, .d0⟩) (.k (.int .u8 (.ofNat (nat_lit 14)))))), (.env ⟨.d3, .d1⟩)⟩])
  (.cond (.e ⟨.d3, .d1⟩) (.seq (.reg [⟨(.op (.mv (.e ⟨.d0, .d9⟩))), (.env ⟨.d0, .d6⟩)⟩,
    ⟨(.op (.mv (.k (.bool .true)))), (.env ⟨.d0, .d7⟩)⟩])
  .ret)
  .skip))
  (.seq (.reg [⟨(.op (.mv (.e ⟨.d0, .d8⟩))), (.env ⟨.d0, .d6⟩)⟩,
    ⟨(.op (.mv (.k (.bool .true)))), (.env ⟨.d0, .d7⟩)⟩])
  .ret))))
  (.seq (.reg [⟨(.op (.binI .eql (.e ⟨.d0, .dc⟩) (.k (.int .u8 (.ofNat (nat_lit 15)))))), .push⟩,
    ⟨(.op (.mv (.s (nat_lit 0)))), (.env ⟨.d3, .d4⟩)⟩])
  (.cond (.e ⟨.d3, .d4⟩) (.seq (.reg [⟨(.cast (.one (.int .i64)) (.call ⟨.d0, .d0, .d1, .df⟩ [(.e ⟨.d0, .d1⟩), (.e ⟨.d0, .d2⟩), (.k (.bool .true)), (.k (.bool .false))])), .push⟩,
    ⟨(.op (.mv (.s (nat_lit 0)))), (.env ⟨.d0, .d6⟩)⟩,
    ⟨(.op (.mv (.k (.bool .true)))), (.env ⟨.d0, .d7⟩)⟩])
  .ret)
  (.seq (.reg [⟨(.op (.binI .eql (.e ⟨.d0, .dc⟩) (.k (.int .u8 (.ofNat (nat_lit 16)))))), .push⟩,
    ⟨(.op (.mv (.s (nat_lit 0)))), (.env ⟨.d3, .d9⟩)⟩])
  (.cond (.e ⟨.d3, .d9⟩) (.seq (.reg [⟨(.cast (.one (.int .i64)) (.call ⟨.d0, .d0, .d1, .df⟩ [(.e ⟨.d0, .d1⟩), (.e ⟨.d0, .d2⟩), (.k (.bool .true)), (.k (.bool .true))])), .push⟩,
    ⟨(.op (.mv (.s (nat_lit 0)))), (.env ⟨.d0, .d6⟩)⟩,
    ⟨(.op (.mv (.k (.bool .true)))), (.env ⟨.d0, .d7⟩)⟩])
  .ret)
  (.seq (.reg [⟨(.op (.binI .eql (.e ⟨.d0, .dc⟩) (.k (.int .u8 (.ofNat (nat_lit 17)))))), .push⟩,
    ⟨(.op (.mv (.s (nat_lit 0)))), (.env ⟨.d3, .de⟩)⟩])
  (.cond (.e ⟨.d3, .de⟩) (.seq (.reg [⟨(.cast (.one (.int .i64)) (.call ⟨.d0, .d0, .d1, .df⟩ [(.e ⟨.d0, .d1⟩), (.e ⟨.d0, .d2⟩), (.k (.bool .false)), (.k (.bool .true))])), .push⟩,
    ⟨(.op (.mv (.s (nat_lit 0)))), (.env ⟨.d0, .d6⟩)⟩,
    ⟨(.op (.mv (.k (.bool .true)))), (.env ⟨.d0, .d7⟩)⟩])
  .ret)
  .skip))))))))))))))))
  (.seq (.reg [⟨(.cast (.one (.int .u64)) (.op (.convI .u64 (.e ⟨.d0, .d2⟩)))), .push⟩,
    ⟨(.op (.binI .rem (.s (nat_lit 0)) (.k (.int .u64 (.ofNat (nat_lit 64)))))), .push⟩,
    ⟨(.cast (.one (.int .i64)) (.op (.convI .i64 (.s (nat_lit 0))))), .push⟩,
    ⟨(.op (.mv (.s (nat_lit 0)))), (.env ⟨.d0, .da⟩)⟩])
  (.seq (.seq (.reg [⟨(.op (.mv (.e ⟨.d0, .d0⟩))), (.env ⟨.d4, .d7⟩)⟩])
  (.block (nat_lit 1) (.seq (.reg [⟨(.op (.binI .eql (.e ⟨.d4, .d7⟩) (.k (.int .u8 (.ofNat (nat_lit 18)))))), .push⟩,
    ⟨(.op (.mv (.s (nat_lit 0)))), (.env ⟨.d4, .d8⟩)⟩])
  (.cond (.e ⟨.d4, .d8⟩) (.seq (.seq (.reg [⟨(.op (.mv (.k (.int .i64 (.ofNat (nat_lit 0)))))), (.env ⟨.d0, .db⟩)⟩])
  (.block (nat_lit 2) (.lpv [(⟨.d0, .d1⟩, (.intF .i64)), (⟨.d0, .da⟩, (.intF .i64)), (⟨.d0, .db⟩, (.intF .i64))] (.seq (.seq (.reg [⟨(.op (.binI .lss (.e ⟨.d0, .db⟩) (.e ⟨.d0, .da⟩))), (.env ⟨.d4, .dc⟩)⟩])
  (.cond (.e ⟨.d4, .dc⟩) .skip
  (.exit (nat_lit 2))))
  (.seq (.block (nat_lit 3) (.reg [⟨(.op (.mv (.e ⟨.d0, .d1⟩))), .push⟩,
    ⟨(.cast (.one (.int .u64)) (.op (.convI .u64 (.s (nat_lit 0))))), .push⟩,
    ⟨(.op (.mv (.e ⟨.d0, .d1⟩))), .push⟩,
    ⟨(.cast (.one (.int .u64)) (.op (.convI .u64 (.s (nat_lit 0))))), .push⟩,
    ⟨(.op (.binI .add (.s (nat_lit 2)) (.s (nat_lit 0)))), .push⟩,
    ⟨(.cast (.one (.int .i64)) (.op (.convI .i64 (.s (nat_lit 0))))), .push⟩,
    ⟨(.op (.mv (.s (nat_lit 0)))), (.env ⟨.d0, .d1⟩)⟩]))
  (.reg [⟨(.op (.mv (.e ⟨.d0, .db⟩))), .push⟩,
    ⟨(.op (.binI .add (.s (nat_lit 0)) (.k (.int .i64 (.ofNat (nat_lit 1)))))), .push⟩,
    ⟨(.op (.mv (.s (nat_lit 0)))), (.env ⟨.d0, .db⟩)⟩]))))))
  (.seq (.reg [⟨(.op (.mv (.e ⟨.d0, .d1⟩))), (.env ⟨.d0, .d6⟩)⟩,
    ⟨(.op (.mv (.k (.bool .true)))), (.env ⟨.d0, .d7⟩)⟩])
  .ret))
  (.seq (.reg [⟨(.op (.binI .eql (.e ⟨.d4, .d7⟩) (.k (.int .u8 (.ofNat (nat_lit 19)))))), .push⟩,
    ⟨(.op (.mv (.s (nat_lit 0)))), (.env ⟨.d5, .d6⟩)⟩])
  (.cond (.e ⟨.d5, .d6⟩) (.seq (.reg [⟨(.cast (.one (.int .i64)) (.call ⟨.d0, .d0, .d2, .d0⟩ [(.e ⟨.d0, .d1⟩), (.e ⟨.d0, .da⟩)])), .push⟩,
    ⟨(.op (.mv (.s (nat_lit 0)))), (.env ⟨.d0, .d6⟩)⟩,
    ⟨(.op (.mv (.k (.bool .true)))), (.env ⟨.d0, .d7⟩)⟩])
  .ret)
  .skip))))))
  (.seq (.reg [⟨(.op (.mv (.k (.int .i64 (.ofNat (nat_lit 0)))))), (.env ⟨.d0, .d6⟩)⟩,
    ⟨(.op (.mv (.k (.bool .false)))), (.env ⟨.d0, .d7⟩)⟩])
  .ret))))),
  [(⟨.d0, .d0⟩, (.int .u8)), (⟨.d0, .d1⟩, (.int .i64)), (⟨.d0, .d2⟩, (.int .i64))], [.tmp ⟨.d0, .d6⟩, .tmp ⟨.d0, .d7⟩]⟩
theorem pf11_ok : prep Tryd.prog 2 ⟨2398426179941103970740584448, 91⟩ 11 = some pf11.strip := by kernel_rfl
def pf32 : PF := ⟨(.seq (.reg [⟨(.op (.mv (.k (.int .i64 (.ofNat (nat_lit 0)))))), (.env ⟨.d0, .d4⟩)⟩])
  (.seq (.seq (.reg [⟨(.op (.mv (.k (.int .i64 (.ofNat (nat_lit 0)))))), (.env ⟨.d0, .d5⟩)⟩])
  (.block (nat_lit 0) (.lpv [(⟨.d0, .d0⟩, (.intF .i64)), (⟨.d0, .d1⟩, (.intF .i64)), (⟨.d0, .d5⟩, (.intF .i64))] (.seq (.seq (.reg [⟨(.op (.binI .lss (.e ⟨.d0, .d5⟩) (.e ⟨.d0, .d1⟩))), (.env ⟨.d0, .d9⟩)⟩])
  (.cond (.e ⟨.d0, .d9⟩) .skip
  (.exit (nat_lit 0))))
  (.jn .false [(⟨.d0, .d0⟩, (.int .i64)), (⟨.d0, .d1⟩, (.int .i64)), (⟨.d0, .d5⟩, (.int .i64))] (.block (nat_lit 1) (.seq (.reg [⟨(.op (.binI .quo (.e ⟨.d0, .d0⟩) (.k (.int .i64 (.ofNat (nat_lit 2)))))), .push⟩,
    ⟨(.op (.mv (.s (nat_lit 0)))), (.env ⟨.d0, .d6⟩)⟩])
  (.seq (.seq (.reg [⟨(.op (.binI .lss (.e ⟨.d0, .d0⟩) (.k (.int .i64 (.ofNat (nat_lit 0)))))), .push⟩,
    ⟨(.guard (.s (nat_lit 0)) .true (.op (.mv (.e ⟨.d0, .d6⟩)))), .push⟩,
    ⟨(.guard (.s (nat_lit 1)) .true (.op (.binI .mul (.s (nat_lit 0)) (.k (.int .i64 (.ofNat (nat_lit 2))))))), .push⟩,
    ⟨(.guard (.s (nat_lit 2)) .true (.op (.mv (.e ⟨.d0, .d0⟩)))), .push⟩,
    ⟨(.guard (.s (nat_lit 3)) .true (.op (.binI .neq (.s (nat_lit 1)) (.s (nat_lit 0))))), .push⟩,
    ⟨(.cast (.one .bool) (.op (.pick (.s (nat_lit 4)) (.s (nat_lit 0)) (.k (.bool .false))))), (.env ⟨.d1, .d5⟩)⟩])
  (.cond (.e ⟨.d1, .d5⟩) (.reg [⟨(.op (.mv (.e ⟨.d0, .d6⟩))), .push⟩,
    ⟨(.op (.binI .sub (.s (nat_lit 0)) (.k (.int .i64 (.ofNat (nat_lit 1)))))), .push⟩,
    ⟨(.op (.mv (.s (nat_lit 0)))), (.env ⟨.d0, .d6⟩)⟩])
  .skip))
  (.reg [⟨(.op (.mv (.e ⟨.d0, .d6⟩))), (.env ⟨.d0, .d0⟩)⟩]))))
  (.reg [⟨(.op (.mv (.e ⟨.d0, .d5⟩))), .push⟩,
    ⟨(.op (.binI .add (.s (nat_lit 0)) (.k (.int .i64 (.ofNat (nat_lit 1)))))), .push⟩,
    ⟨(.op (.mv (.s (nat_lit 0)))), (.env ⟨.d0, .d5⟩)⟩]))))))
  (.seq (.reg [⟨(.op (.mv (.e ⟨.d0, .d0⟩))), (.env ⟨.d0, .d4⟩)⟩])
  .ret))),
  [(⟨.d0, .d0⟩, (.int .i64)), (⟨.d0, .d1⟩, (.int .i64))], [.tmp ⟨.d0, .d4⟩]⟩
theorem pf32_ok : prep Tryd.prog 2 ⟨65011072, 26⟩ 32 = some pf32.strip := by kernel_rfl
def pf31 : PF := ⟨(.seq (.reg [⟨(.op (.mv (.k (.int .i64 (.ofNat (nat_lit 0)))))), (.env ⟨.d0, .d8⟩)⟩])
  (.seq (.reg [⟨(.op (.mv (.k (.int .u64 (.ofNat (nat_lit 0)))))), (.env ⟨.d0, .d9⟩)⟩])
  (.seq (.seq (.reg [⟨(.op (.mv (.k (.int .i64 (.ofNat (nat_lit 0)))))), (.env ⟨.d0, .da⟩)⟩])
  (.block (nat_lit 0) (.lpv [(⟨.d0, .d0⟩, (.intF .i64)), (⟨.d0, .d1⟩, (.intF .i64)), (⟨.d0, .d2⟩, .bool), (⟨.d0, .d3⟩, .bool), (⟨.d0, .d9⟩, (.intF .u64)), (⟨.d0, .da⟩, (.intF .i64))] (.seq (.seq (.reg [⟨(.op (.binI .lss (.e ⟨.d0, .da⟩) (.k (.int .i64 (.ofNat (nat_lit 64)))))), (.env ⟨.d0, .de⟩)⟩])
  (.cond (.e ⟨.d0, .de⟩) .skip
  (.exit (nat_lit 0))))
  (.jn .false [(⟨.d0, .d0⟩, (.int .i64)), (⟨.d0, .d1⟩, (.int .i64)), (⟨.d0, .d2⟩, .bool), (⟨.d0, .d3⟩, .bool), (⟨.d0, .d9⟩, (.int .u64)), (⟨.d0, .da⟩, (.int .i64))] (.block (nat_lit 1) (.seq (.draw [(.light (.op (.mv (.e ⟨.d0, .d0⟩)))),
    (.light (.cast (.one (.int .u64)) (.op (.convI .u64 (.s (nat_lit 0)))))),
    (.light (.op (.mv (.e ⟨.d0, .da⟩)))),
    (.light (.op (.binI .shr (.s (nat_lit 1)) (.s (nat_lit 2))))),
    (.light (.op (.binI .and (.s (nat_lit 3)) (.k (.int .u64 (.ofNat (nat_lit 1))))))),
    (.light (.op (.binI .eql (.s (nat_lit 4)) (.k (.int .u64 (.ofNat (nat_lit 1))))))),
    (.light (.op (.mv (.e ⟨.d0, .d1⟩)))),
    (.light (.cast (.one (.int .u64)) (.op (.convI .u64 (.s (nat_lit 6)))))),
    (.light (.op (.mv (.e ⟨.d0, .da⟩)))),
    (.light (.op (.binI .shr (.s (nat_lit 7)) (.s (nat_lit 8))))),
    (.light (.op (.binI .and (.s (nat_lit 9)) (.k (.int .u64 (.ofNat (nat_lit 1))))))),
    (.light (.op (.binI .eql (.s (nat_lit 10)) (.k (.int .u64 (.ofNat (nat_lit 1))))))),
    (.light (.op (.mv (.s (nat_lit 5))))),
    (.light (.op (.mv (.s (nat_lit 11)))))] [(⟨.d0, .db⟩, (nat_lit 12)), (⟨.d0, .dc⟩, (nat_lit 13))])
  (.seq (.reg [⟨(.guard (.e ⟨.d0, .db⟩) .true (.op (.mv (.e ⟨.d0, .dc⟩)))), .push⟩,
    ⟨(.cast (.one .bool) (.op (.pick (.e ⟨.d0, .db⟩) (.s (nat_lit 0)) (.k (.bool .false))))), .push⟩,
    ⟨(.guard (.s (nat_lit 0)) .true (.op (.mv (.e ⟨.d0, .d2⟩)))), .push⟩,
    ⟨(.cast (.one .bool) (.op (.pick (.s (nat_lit 1)) (.s (nat_lit 0)) (.k (.bool .false))))), .push⟩,
    ⟨(.guard (.s (nat_lit 0)) .false (.op (.mv (.e ⟨.d0, .db⟩)))), .push⟩,
    ⟨(.guard (.s (nat_lit 1)) .false (.op (.mv (.e ⟨.d0, .dc⟩)))), .push⟩,
    ⟨(.guard (.s (nat_lit 2)) .false (.op (.binB .neq (.s (nat_lit 1)) (.s (nat_lit 0))))), .push⟩,
    ⟨(.guard (.s (nat_lit 3)) .false (.op (.mv (.s (nat_lit 0))))), .push⟩,
    ⟨(.guard (.s (nat_lit 0)) .true (.op (.mv (.e ⟨.d0, .d3⟩)))), .push⟩,
    ⟨(.guard (.s (nat_lit 5)) .false (.cast (.one .bool) (.op (.pick (.s (nat_lit 1)) (.s (nat_lit 0)) (.k (.bool .false)))))), .push⟩,
    ⟨(.cast (.one .bool) (.op (.pick (.s (nat_lit 6)) (.k (.bool .true)) (.s (nat_lit 0))))), (.env ⟨.d2, .db⟩)⟩])
  (.cond (.e ⟨.d2, .db⟩) (.reg [⟨(.op (.mv (.e ⟨.d0, .d9⟩))), .push⟩,
    ⟨(.op (.binI .shl (.k (.int .u64 (.ofNat (nat_lit 1)))) (.e ⟨.d0, .da⟩))), .push⟩,
    ⟨(.op (.binI .add (.s (nat_lit 1)) (.s (nat_lit 0)))), .push⟩,
    ⟨(.op (.mv (.s (nat_lit 0)))), (.env ⟨.d0, .d9⟩)⟩])
  .skip))))
  (.reg [⟨(.op (.mv (.e ⟨.d0, .da⟩))), .push⟩,
    ⟨(.op (.binI .add (.s (nat_lit 0)) (.k (.int .i64 (.ofNat (nat_lit 1)))))), .push⟩,
    ⟨(.op (.mv (.s (nat_lit 0)))), (.env ⟨.d0, .da⟩)⟩]))))))
  (.seq (.reg [⟨(.cast (.one (.int .i64)) (.op (.convI .i64 (.e ⟨.d0, .d9⟩)))), .push⟩,
    ⟨(.op (.mv (.s (nat_lit 0)))), (.env ⟨.d0, .d8⟩)⟩])
  .ret)))),
  [(⟨.d0, .d0⟩, (.int .i64)), (⟨.d0, .d1⟩, (.int .i64)), (⟨.d0, .d2⟩, .bool), (⟨.d0, .d3⟩, .bool)], [.tmp ⟨.d0, .d8⟩]⟩
theorem pf31_ok : prep Tryd.prog 2 ⟨1117103813795840, 50⟩ 31 = some pf31.strip := by kernel_rfl
def pf30 : PF := ⟨(.seq (.reg [⟨(.op (.mv (.k (.int .i64 (.ofNat (nat_lit 0)))))), (.env ⟨.d0, .d4⟩)⟩,
    ⟨(.op (.mv (.k (.int .i64 (.ofNat (nat_lit 0)))))), (.env ⟨.d0, .d5⟩)⟩])
  (.seq (.seq (.reg [⟨(.op (.binI .eql (.e ⟨.d0, .d0⟩) (.k (.int .i64 (.negSucc (nat_lit 9223372036854775807)))))), .push⟩,
    ⟨(.guard (.s (nat_lit 0)) .true (.op (.mv (.e ⟨.d0, .d1⟩)))), .push⟩,
    ⟨(.guard (.s (nat_lit 1)) .true (.op (.binI .eql (.s (nat_lit 0)) (.k (.int .i64 (.negSucc (nat_lit 0))))))), .push⟩,
    ⟨(.cast (.one .bool) (.op (.pick (.s (nat_lit 2)) (.s (nat_lit 0)) (.k (.bool .false))))), (.env ⟨.d0, .dc⟩)⟩])
  (.cond (.e ⟨.d0, .dc⟩) (.seq (.reg [⟨(.op (.mv (.k (.int .i64 (.negSucc (nat_lit 9223372036854775807)))))), (.env ⟨.d0, .d4⟩)⟩,
    ⟨(.op (.mv (.k (.int .i64 (.ofNat (nat_lit 0)))))), (.env ⟨.d0, .d5⟩)⟩])
  .ret)
  .skip))
  (.seq (.reg [⟨(.op (.binI .quo (.e ⟨.d0, .d0⟩) (.e ⟨.d0, .d1⟩))), .push⟩,
    ⟨(.op (.mv (.s (nat_lit 0)))), (.env ⟨.d0, .d6⟩)⟩])
  (.seq (.reg [⟨(.op (.binI .mul (.e ⟨.d0, .d6⟩) (.e ⟨.d0, .d1⟩))), .push⟩,
    ⟨(.op (.binI .sub (.e ⟨.d0, .d0⟩) (.s (nat_lit 0)))), .push⟩,
    ⟨(.op (.mv (.e ⟨.d0, .d6⟩))), (.env ⟨.d0, .d4⟩)⟩,
    ⟨(.op (.mv (.s (nat_lit 0)))), (.env ⟨.d0, .d5⟩)⟩])
  .ret)))),
  [(⟨.d0, .d0⟩, (.int .i64)), (⟨.d0, .d1⟩, (.int .i64))], [.tmp ⟨.d0, .d4⟩, .tmp ⟨.d0, .d5⟩]⟩
theorem pf30_ok : prep Tryd.prog 2 ⟨4190080, 22⟩ 30 = some pf30.strip := by kernel_rfl
end Go.Ev.W04
