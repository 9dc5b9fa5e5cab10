/- The functions of this seat told by trees. Printed by a program of this repository (mkir.py). Conditions: none. -/
import Derived.Test.YtnbodfakblbmbaaXSymQ
import Derived.Test.YtnbodfakblbmbaaProg
import Derived.KernelRfl
set_option maxRecDepth 100000
set_option linter.unusedVariables false
namespace Go.Proofs.Ytnbodfakblbmbaa.I
open Go.Sym
def spec_l1Right : IFn := ⟨56, (.seq (.reg false [⟨some 2, .box (.t 0), none⟩,
    ⟨some 4, .mv (.c (.bool false)), none⟩] [] [1, 2])
  (.seq (.seq (.reg false [⟨some 5, .fad 0 (.t 2), none⟩,
    ⟨some 6, .ld none (.t 5), none⟩,
    ⟨some 7, .call 130 [.t 6], none⟩] [] [1, 2, 7])
  (.block 0 (.seq (.reg false [⟨some 9, .bin .eql (.t 7) (.c (.int .i64 0)), none⟩,
    ⟨some 8, .mv (.t 9), none⟩] [] [1, 2, 7, 8])
  (.cond (.t 8)
  (.seq (.reg false [⟨some 10, .fad 1 (.t 2), none⟩,
    ⟨some 11, .ld none (.t 10), none⟩,
    ⟨some 12, .call 108 [.t 11, .c (.int .i64 0), .c (.int .i64 199)], none⟩,
    ⟨some 13, .mv (.t 12), none⟩,
    ⟨some 14, .fad 2 (.t 2), some (13, true)⟩,
    ⟨some 15, .ld none (.t 14), some (13, true)⟩,
    ⟨some 16, .bin .eql (.t 15) (.c (.int .i64 0)), some (13, true)⟩,
    ⟨some 17, .pick (.t 13) (.t 16) (.c (.bool false)), none⟩,
    ⟨some 4, .mv (.t 17), none⟩] [] [4])
  .ret)
  (.seq (.reg false [⟨some 19, .bin .eql (.t 7) (.c (.int .i64 1)), none⟩,
    ⟨some 18, .mv (.t 19), none⟩] [] [1, 2, 7, 18])
  (.cond (.t 18)
  (.seq (.reg false [⟨some 20, .fad 1 (.t 2), none⟩,
    ⟨some 21, .ld none (.t 20), none⟩,
    ⟨some 22, .mv (.t 1), none⟩,
    ⟨some 23, .bin .sub (.t 22) (.c (.int .i64 1)), none⟩,
    ⟨some 24, .call 108 [.t 21, .c (.int .i64 0), .t 23], none⟩,
    ⟨some 25, .mv (.t 24), none⟩,
    ⟨some 26, .fad 2 (.t 2), some (25, true)⟩,
    ⟨some 27, .ld none (.t 26), some (25, true)⟩,
    ⟨some 28, .bin .eql (.t 27) (.c (.int .i64 0)), some (25, true)⟩,
    ⟨some 29, .pick (.t 25) (.t 28) (.c (.bool false)), none⟩,
    ⟨some 4, .mv (.t 29), none⟩] [] [4])
  .ret)
  (.seq (.reg false [⟨some 31, .bin .eql (.t 7) (.c (.int .i64 2)), none⟩,
    ⟨some 30, .mv (.t 31), none⟩] [] [1, 2, 30])
  (.cond (.t 30)
  (.seq (.reg false [⟨some 32, .fad 1 (.t 2), none⟩,
    ⟨some 33, .ld none (.t 32), none⟩,
    ⟨some 34, .mv (.t 1), none⟩,
    ⟨some 35, .bin .sub (.t 34) (.c (.int .i64 1)), none⟩,
    ⟨some 36, .call 108 [.t 33, .c (.int .i64 0), .t 35], none⟩,
    ⟨some 37, .mv (.t 36), none⟩,
    ⟨some 38, .fad 2 (.t 2), some (37, true)⟩,
    ⟨some 39, .ld none (.t 38), some (37, true)⟩,
    ⟨some 40, .mv (.t 1), some (37, true)⟩,
    ⟨some 41, .bin .sub (.t 40) (.c (.int .i64 1)), some (37, true)⟩,
    ⟨some 42, .call 108 [.t 39, .c (.int .i64 0), .t 41], some (37, true)⟩,
    ⟨some 43, .pick (.t 37) (.t 42) (.c (.bool false)), none⟩,
    ⟨some 44, .mv (.t 43), none⟩,
    ⟨some 45, .fad 0 (.t 2), some (44, true)⟩,
    ⟨some 46, .ld none (.t 45), some (44, true)⟩,
    ⟨some 47, .bin .neq (.t 46) (.c (.int .i64 8)), some (44, true)⟩,
    ⟨some 48, .mv (.t 47), some (44, true)⟩,
    ⟨some 49, .fad 1 (.t 2), some (48, false)⟩,
    ⟨some 50, .ld none (.t 49), some (48, false)⟩,
    ⟨some 51, .fad 2 (.t 2), some (48, false)⟩,
    ⟨some 52, .ld none (.t 51), some (48, false)⟩,
    ⟨some 53, .bin .leq (.t 50) (.t 52), some (48, false)⟩,
    ⟨some 54, .pick (.t 48) (.c (.bool true)) (.t 53), some (44, true)⟩,
    ⟨some 55, .pick (.t 44) (.t 54) (.c (.bool false)), none⟩,
    ⟨some 4, .mv (.t 55), none⟩] [] [4])
  .ret)
  .skip))))))))
  (.seq (.reg false [⟨some 4, .mv (.c (.bool false)), none⟩] [] [4])
  .ret))), [(4, none)]⟩
theorem spec_l1Right_ok : okFn Try.prog 112 spec_l1Right = true := by kernel_rfl
def spec_l1Find : IFn := ⟨21, (.seq (.reg false [⟨some 2, .box (.t 0), none⟩,
    ⟨some 3, .box (.t 1), none⟩,
    ⟨some 4, .mv (.c (.int .i64 0)), none⟩] [] [2, 3])
  (.seq (.seq (.reg false [⟨some 5, .mv (.c (.int .i64 0)), none⟩] [] [2, 3, 5])
  (.block 0 (.loop (.seq (.seq (.reg false [⟨some 6, .mv (.t 5), none⟩,
    ⟨some 7, .fad 0 (.t 2), none⟩,
    ⟨some 8, .ld none (.t 7), none⟩,
    ⟨some 9, .len false (.t 8), none⟩,
    ⟨some 10, .bin .lss (.t 6) (.t 9), none⟩] [] [2, 3, 5, 10])
  (.cond (.t 10)
  .skip
  (.exit 0)))
  (.seq (.block 1 (.seq (.reg true [⟨some 13, .fad 0 (.t 2), none⟩,
    ⟨some 14, .ld none (.t 13), none⟩,
    ⟨some 15, .mv (.t 5), none⟩,
    ⟨some 16, .iad 3 (.t 14) (.t 15), none⟩,
    ⟨some 17, .ld (some 3) (.t 16), none⟩,
    ⟨some 18, .ld (some 3) (.t 3), none⟩,
    ⟨some 19, .eqs false [1, 1, 1] (.t 17) (.t 18), none⟩] [0, 1, 0, 7, 15, 0, 63] [2, 3, 5, 19])
  (.cond (.t 19)
  (.seq (.reg false [⟨some 20, .mv (.t 5), none⟩,
    ⟨some 4, .mv (.t 20), none⟩] [] [4])
  .ret)
  .skip)))
  (.reg false [⟨some 11, .mv (.t 5), none⟩,
    ⟨some 12, .bin .add (.t 11) (.c (.int .i64 1)), none⟩,
    ⟨some 5, .mv (.t 12), none⟩] [] [2, 3, 5]))))))
  (.seq (.reg false [⟨some 4, .mv (.c (.int .i64 (-1))), none⟩] [] [4])
  .ret))), [(4, none)]⟩
theorem spec_l1Find_ok : okFn Try.prog 113 spec_l1Find = true := by kernel_rfl
def slices_Clone_Node : IFn := ⟨8, (.seq (.reg false [⟨some 2, .mv (.c (.nil)), none⟩] [] [0])
  (.seq (.seq (.reg false [⟨some 3, .mv (.t 0), none⟩,
    ⟨some 4, .isn false (.t 3), none⟩] [] [0, 4])
  (.cond (.t 4)
  (.seq (.reg false [⟨some 2, .mv (.c (.nil)), none⟩] [] [2])
  .ret)
  .skip))
  (.seq (.reg false [⟨some 5, .bsl 3 0 [.int .i64 0, .int .i64 0, .int .i64 0] [], none⟩,
    ⟨some 6, .mv (.t 0), none⟩,
    ⟨some 7, .app 3 24 (.t 5) (.t 6), none⟩,
    ⟨some 2, .mv (.t 7), none⟩] [] [2])
  .ret))), [(2, none)]⟩
theorem slices_Clone_Node_ok : okFn Try.prog 114 slices_Clone_Node = true := by kernel_rfl
def impl_nodeOk : IFn := ⟨56, (.seq (.reg false [⟨some 2, .box (.t 0), none⟩,
    ⟨some 4, .mv (.c (.bool false)), none⟩] [] [1, 2])
  (.seq (.seq (.reg false [⟨some 5, .fad 0 (.t 2), none⟩,
    ⟨some 6, .ld none (.t 5), none⟩,
    ⟨some 7, .call 124 [.t 6], none⟩] [] [1, 2, 7])
  (.block 0 (.seq (.reg false [⟨some 9, .bin .eql (.t 7) (.c (.int .i64 0)), none⟩,
    ⟨some 8, .mv (.t 9), none⟩] [] [1, 2, 7, 8])
  (.cond (.t 8)
  (.seq (.reg false [⟨some 10, .fad 1 (.t 2), none⟩,
    ⟨some 11, .ld none (.t 10), none⟩,
    ⟨some 12, .call 83 [.t 11, .c (.int .i64 0), .c (.int .i64 199)], none⟩,
    ⟨some 13, .mv (.t 12), none⟩,
    ⟨some 14, .fad 2 (.t 2), some (13, true)⟩,
    ⟨some 15, .ld none (.t 14), some (13, true)⟩,
    ⟨some 16, .bin .eql (.t 15) (.c (.int .i64 0)), some (13, true)⟩,
    ⟨some 17, .pick (.t 13) (.t 16) (.c (.bool false)), none⟩,
    ⟨some 4, .mv (.t 17), none⟩] [] [4])
  .ret)
  (.seq (.reg false [⟨some 19, .bin .eql (.t 7) (.c (.int .i64 1)), none⟩,
    ⟨some 18, .mv (.t 19), none⟩] [] [1, 2, 7, 18])
  (.cond (.t 18)
  (.seq (.reg false [⟨some 20, .fad 1 (.t 2), none⟩,
    ⟨some 21, .ld none (.t 20), none⟩,
    ⟨some 22, .mv (.t 1), none⟩,
    ⟨some 23, .bin .sub (.t 22) (.c (.int .i64 1)), none⟩,
    ⟨some 24, .call 83 [.t 21, .c (.int .i64 0), .t 23], none⟩,
    ⟨some 25, .mv (.t 24), none⟩,
    ⟨some 26, .fad 2 (.t 2), some (25, true)⟩,
    ⟨some 27, .ld none (.t 26), some (25, true)⟩,
    ⟨some 28, .bin .eql (.t 27) (.c (.int .i64 0)), some (25, true)⟩,
    ⟨some 29, .pick (.t 25) (.t 28) (.c (.bool false)), none⟩,
    ⟨some 4, .mv (.t 29), none⟩] [] [4])
  .ret)
  (.seq (.reg false [⟨some 31, .bin .eql (.t 7) (.c (.int .i64 2)), none⟩,
    ⟨some 30, .mv (.t 31), none⟩] [] [1, 2, 30])
  (.cond (.t 30)
  (.seq (.reg false [⟨some 32, .fad 1 (.t 2), none⟩,
    ⟨some 33, .ld none (.t 32), none⟩,
    ⟨some 34, .mv (.t 1), none⟩,
    ⟨some 35, .bin .sub (.t 34) (.c (.int .i64 1)), none⟩,
    ⟨some 36, .call 83 [.t 33, .c (.int .i64 0), .t 35], none⟩,
    ⟨some 37, .mv (.t 36), none⟩,
    ⟨some 38, .fad 2 (.t 2), some (37, true)⟩,
    ⟨some 39, .ld none (.t 38), some (37, true)⟩,
    ⟨some 40, .mv (.t 1), some (37, true)⟩,
    ⟨some 41, .bin .sub (.t 40) (.c (.int .i64 1)), some (37, true)⟩,
    ⟨some 42, .call 83 [.t 39, .c (.int .i64 0), .t 41], some (37, true)⟩,
    ⟨some 43, .pick (.t 37) (.t 42) (.c (.bool false)), none⟩,
    ⟨some 44, .mv (.t 43), none⟩,
    ⟨some 45, .fad 0 (.t 2), some (44, true)⟩,
    ⟨some 46, .ld none (.t 45), some (44, true)⟩,
    ⟨some 47, .bin .neq (.t 46) (.c (.int .i64 8)), some (44, true)⟩,
    ⟨some 48, .mv (.t 47), some (44, true)⟩,
    ⟨some 49, .fad 1 (.t 2), some (48, false)⟩,
    ⟨some 50, .ld none (.t 49), some (48, false)⟩,
    ⟨some 51, .fad 2 (.t 2), some (48, false)⟩,
    ⟨some 52, .ld none (.t 51), some (48, false)⟩,
    ⟨some 53, .bin .leq (.t 50) (.t 52), some (48, false)⟩,
    ⟨some 54, .pick (.t 48) (.c (.bool true)) (.t 53), some (44, true)⟩,
    ⟨some 55, .pick (.t 44) (.t 54) (.c (.bool false)), none⟩,
    ⟨some 4, .mv (.t 55), none⟩] [] [4])
  .ret)
  .skip))))))))
  (.seq (.reg false [⟨some 4, .mv (.c (.bool false)), none⟩] [] [4])
  .ret))), [(4, none)]⟩
theorem impl_nodeOk_ok : okFn Try.prog 115 impl_nodeOk = true := by kernel_rfl
def impl_Pool_find : IFn := ⟨11, (.seq (.reg false [⟨some 3, .box (.t 1), none⟩,
    ⟨some 4, .mv (.c (.int .i64 0)), none⟩] [] [0, 3])
  (.seq (.reg true [⟨some 5, .mv (.t 0), none⟩,
    ⟨some 6, .nck (.t 5), none⟩,
    ⟨some 7, .fad 0 (.t 6), none⟩,
    ⟨some 8, .ld none (.t 7), none⟩,
    ⟨some 9, .ld (some 3) (.t 3), none⟩,
    ⟨some 10, .call 131 [.t 8, .t 9], none⟩,
    ⟨some 4, .mv (.t 10), none⟩] [0, 1, 3, 7, 0, 31, 63] [4])
  .ret)), [(4, none)]⟩
theorem impl_Pool_find_ok : okFn Try.prog 116 impl_Pool_find = true := by kernel_rfl
def spec_l18Word : IFn := ⟨48, (.seq (.reg false [⟨some 3, .box (.t 0), none⟩,
    ⟨some 4, .box (.t 1), none⟩,
    ⟨some 6, .new [.nil], none⟩,
    ⟨some 7, .mv (.c (.int .i64 0)), none⟩] [] [2, 3, 4, 6])
  (.seq (.reg false [⟨some 13, .ld (some 1) (.t 3), none⟩,
    ⟨some 14, .fad 2 (.t 4), none⟩,
    ⟨some 15, .ld none (.t 14), none⟩,
    ⟨some 16, .bin .add (.c (.int .i64 20)) (.t 15), none⟩,
    ⟨some 17, .call 97 [.t 13, .t 16], none⟩,
    ⟨some 12, .mv (.t 17), none⟩,
    ⟨some 18, .ext (.t 12) 0, none⟩,
    ⟨some 19, .ext (.t 12) 1, none⟩,
    ⟨some 8, .new [.nil], none⟩,
    ⟨none, .st 1 (.t 8) (.t 18), none⟩,
    ⟨some 9, .mv (.t 19), none⟩] [] [2, 3, 4, 6, 8, 9])
  (.seq (.seq (.reg false [⟨some 20, .mv (.t 9), none⟩,
    ⟨some 21, .bin .lss (.t 20) (.c (.int .i64 0)), none⟩] [] [2, 3, 4, 6, 8, 9, 21])
  (.cond (.t 21)
  (.seq (.reg false [⟨some 22, .ld (some 1) (.t 3), none⟩,
    ⟨none, .st 1 (.t 6) (.t 22), none⟩,
    ⟨some 7, .mv (.c (.int .i64 (-1))), none⟩] [] [6, 7])
  .ret)
  .skip))
  (.seq (.reg false [⟨some 24, .ld (some 1) (.t 8), none⟩,
    ⟨some 25, .mv (.t 9), none⟩,
    ⟨some 26, .mv (.t 2), none⟩,
    ⟨some 27, .build [.int .i64 0, .int .i64 0, .int .i64 0] [(0, 1, .c (.int .i64 2)), (1, 1, .t 25), (2, 1, .t 26)], none⟩,
    ⟨some 28, .call 99 [.t 24, .t 27], none⟩,
    ⟨some 23, .mv (.t 28), none⟩,
    ⟨some 29, .ext (.t 23) 0, none⟩,
    ⟨some 30, .ext (.t 23) 1, none⟩,
    ⟨none, .st 1 (.t 8) (.t 29), none⟩,
    ⟨some 10, .mv (.t 30), none⟩] [] [3, 4, 6, 8, 10])
  (.seq (.seq (.reg false [⟨some 31, .mv (.t 10), none⟩,
    ⟨some 32, .bin .lss (.t 31) (.c (.int .i64 0)), none⟩] [] [3, 4, 6, 8, 10, 32])
  (.cond (.t 32)
  (.seq (.reg false [⟨some 33, .ld (some 1) (.t 3), none⟩,
    ⟨none, .st 1 (.t 6) (.t 33), none⟩,
    ⟨some 7, .mv (.c (.int .i64 (-1))), none⟩] [] [6, 7])
  .ret)
  .skip))
  (.seq (.reg false [⟨some 35, .ld (some 1) (.t 8), none⟩,
    ⟨some 36, .mv (.t 10), none⟩,
    ⟨some 37, .fad 0 (.t 4), none⟩,
    ⟨some 38, .ld none (.t 37), none⟩,
    ⟨some 39, .build [.int .i64 0, .int .i64 0, .int .i64 0] [(0, 1, .c (.int .i64 3)), (1, 1, .t 36), (2, 1, .t 38)], none⟩,
    ⟨some 40, .call 99 [.t 35, .t 39], none⟩,
    ⟨some 34, .mv (.t 40), none⟩,
    ⟨some 41, .ext (.t 34) 0, none⟩,
    ⟨some 42, .ext (.t 34) 1, none⟩,
    ⟨none, .st 1 (.t 8) (.t 41), none⟩,
    ⟨some 11, .mv (.t 42), none⟩] [] [3, 6, 8, 11])
  (.seq (.seq (.reg false [⟨some 43, .mv (.t 11), none⟩,
    ⟨some 44, .bin .lss (.t 43) (.c (.int .i64 0)), none⟩] [] [3, 6, 8, 11, 44])
  (.cond (.t 44)
  (.seq (.reg false [⟨some 45, .ld (some 1) (.t 3), none⟩,
    ⟨none, .st 1 (.t 6) (.t 45), none⟩,
    ⟨some 7, .mv (.c (.int .i64 (-1))), none⟩] [] [6, 7])
  .ret)
  .skip))
  (.seq (.reg false [⟨some 46, .ld (some 1) (.t 8), none⟩,
    ⟨some 47, .mv (.t 11), none⟩,
    ⟨none, .st 1 (.t 6) (.t 46), none⟩,
    ⟨some 7, .mv (.t 47), none⟩] [] [6, 7])
  .ret)))))))), [(6, some (some 1)), (7, none)]⟩
theorem spec_l18Word_ok : okFn Try.prog 117 spec_l18Word = true := by kernel_rfl
def spec_l1DrawAny : IFn := ⟨63, (.seq (.reg false [⟨some 2, .new [.nil], none⟩] [] [0, 2])
  (.seq (.reg false [⟨some 4, .mv (.t 0), none⟩,
    ⟨some 5, .call 132 [.t 4, .c (.int .i64 24)], none⟩,
    ⟨some 3, .new [.nil], none⟩,
    ⟨none, .st 1 (.t 3) (.t 5), none⟩] [] [0, 2, 3])
  (.seq (.seq (.reg false [⟨some 6, .mv (.t 0), none⟩,
    ⟨some 7, .call 94 [.t 6, .c (.int .i64 25)], none⟩] [] [0, 2, 3, 7])
  (.block 0 (.seq (.reg false [⟨some 9, .bin .eql (.t 7) (.c (.int .i64 0)), none⟩,
    ⟨some 8, .mv (.t 9), none⟩] [] [0, 2, 3, 7, 8])
  (.cond (.t 8)
  (.reg false [⟨some 10, .ld (some 1) (.t 3), none⟩,
    ⟨some 11, .call 72 [.t 10], none⟩,
    ⟨some 12, .fld 0 none (.t 11), none⟩,
    ⟨some 13, .mv (.t 0), none⟩,
    ⟨some 14, .call 133 [.t 13, .c (.int .i64 3)], none⟩,
    ⟨some 15, .bsl 3 1 [.int .i64 0, .int .i64 0, .int .i64 0] [(0, 3, .t 14)], none⟩,
    ⟨some 16, .app 3 24 (.t 12) (.t 15), none⟩,
    ⟨some 17, .fad 0 (.t 3), none⟩,
    ⟨none, .st 1 (.t 17) (.t 16), none⟩] [] [0, 2, 3])
  (.seq (.reg false [⟨some 19, .bin .eql (.t 7) (.c (.int .i64 1)), none⟩,
    ⟨some 18, .mv (.t 19), none⟩] [] [0, 2, 3, 18])
  (.cond (.t 18)
  (.reg false [⟨some 20, .ld (some 1) (.t 3), none⟩,
    ⟨some 21, .call 72 [.t 20], none⟩,
    ⟨some 22, .fld 0 none (.t 21), none⟩,
    ⟨some 23, .mv (.t 0), none⟩,
    ⟨some 24, .call 94 [.t 23, .c (.int .i64 10)], none⟩,
    ⟨some 25, .mv (.t 0), none⟩,
    ⟨some 26, .call 94 [.t 25, .c (.int .i64 30)], none⟩,
    ⟨some 27, .bin .sub (.t 26) (.c (.int .i64 1)), none⟩,
    ⟨some 28, .mv (.t 0), none⟩,
    ⟨some 29, .call 94 [.t 28, .c (.int .i64 30)], none⟩,
    ⟨some 30, .bin .sub (.t 29) (.c (.int .i64 1)), none⟩,
    ⟨some 31, .build [.int .i64 0, .int .i64 0, .int .i64 0] [(0, 1, .t 24), (1, 1, .t 27), (2, 1, .t 30)], none⟩,
    ⟨some 32, .bsl 3 1 [.int .i64 0, .int .i64 0, .int .i64 0] [(0, 3, .t 31)], none⟩,
    ⟨some 33, .app 3 24 (.t 22) (.t 32), none⟩,
    ⟨some 34, .fad 0 (.t 3), none⟩,
    ⟨none, .st 1 (.t 34) (.t 33), none⟩] [] [0, 2, 3])
  .skip))))))
  (.seq (.seq (.reg false [⟨some 35, .mv (.t 0), none⟩,
    ⟨some 36, .call 91 [.t 35, .c (.int .i64 80)], none⟩] [] [2, 3, 36])
  (.cond (.t 36)
  (.seq (.reg false [⟨some 37, .build [.nil] [], none⟩,
    ⟨none, .st 1 (.t 3) (.t 37), none⟩] [] [2, 3])
  (.block 1 (.loop (.seq (.seq (.reg false [⟨some 38, .fad 0 (.t 3), none⟩,
    ⟨some 39, .ld none (.t 38), none⟩,
    ⟨some 40, .len false (.t 39), none⟩,
    ⟨some 41, .bin .lss (.t 40) (.c (.int .i64 500)), none⟩] [] [2, 3, 41])
  (.cond (.t 41)
  .skip
  (.exit 1)))
  (.block 2 (.seq (.reg false [⟨some 43, .ld (some 1) (.t 3), none⟩,
    ⟨some 44, .fad 0 (.t 3), none⟩,
    ⟨some 45, .ld none (.t 44), none⟩,
    ⟨some 46, .len false (.t 45), none⟩,
    ⟨some 47, .bin .rem (.t 46) (.c (.int .i64 200)), none⟩,
    ⟨some 48, .build [.int .i64 0, .int .i64 0, .int .i64 0] [(0, 1, .c (.int .i64 1)), (1, 1, .t 47)], none⟩,
    ⟨some 49, .call 99 [.t 43, .t 48], none⟩,
    ⟨some 42, .mv (.t 49), none⟩,
    ⟨some 50, .ext (.t 42) 0, none⟩,
    ⟨some 51, .ext (.t 42) 1, none⟩,
    ⟨none, .st 1 (.t 3) (.t 50), none⟩] [] [2, 3])
  (.reg false [⟨some 53, .ld (some 1) (.t 3), none⟩,
    ⟨some 54, .fad 0 (.t 3), none⟩,
    ⟨some 55, .ld none (.t 54), none⟩,
    ⟨some 56, .len false (.t 55), none⟩,
    ⟨some 57, .bin .sub (.t 56) (.c (.int .i64 1)), none⟩,
    ⟨some 58, .build [.int .i64 0, .int .i64 0, .int .i64 0] [(0, 1, .c (.int .i64 5)), (1, 1, .t 57)], none⟩,
    ⟨some 59, .call 99 [.t 53, .t 58], none⟩,
    ⟨some 52, .mv (.t 59), none⟩,
    ⟨some 60, .ext (.t 52) 0, none⟩,
    ⟨some 61, .ext (.t 52) 1, none⟩,
    ⟨none, .st 1 (.t 3) (.t 60), none⟩] [] [2, 3])))))))
  .skip))
  (.seq (.reg false [⟨some 62, .ld (some 1) (.t 3), none⟩,
    ⟨none, .st 1 (.t 2) (.t 62), none⟩] [] [2])
  .ret))))), [(2, some (some 1))]⟩
theorem spec_l1DrawAny_ok : okFn Try.prog 118 spec_l1DrawAny = true := by kernel_rfl
def spec_l1DrawTerm : IFn := ⟨19, (.seq (.reg false [⟨some 3, .box (.t 1), none⟩,
    ⟨some 4, .mv (.c (.int .i64 0)), none⟩] [] [0, 3])
  (.seq (.seq (.reg false [⟨some 5, .mv (.t 0), none⟩,
    ⟨some 6, .call 91 [.t 5, .c (.int .i64 25)], none⟩] [] [0, 3, 6])
  (.cond (.t 6)
  (.seq (.reg false [⟨some 7, .mv (.t 0), none⟩,
    ⟨some 8, .fad 0 (.t 3), none⟩,
    ⟨some 9, .ld none (.t 8), none⟩,
    ⟨some 10, .len false (.t 9), none⟩,
    ⟨some 11, .bsl 1 2 [.int .i64 0] [(0, 1, .c (.int .i64 (-1))), (1, 1, .t 10)], none⟩,
    ⟨some 12, .call 120 [.t 7, .t 11], none⟩,
    ⟨some 4, .mv (.t 12), none⟩] [] [4])
  .ret)
  .skip))
  (.seq (.reg false [⟨some 13, .mv (.t 0), none⟩,
    ⟨some 14, .fad 0 (.t 3), none⟩,
    ⟨some 15, .ld none (.t 14), none⟩,
    ⟨some 16, .len false (.t 15), none⟩,
    ⟨some 17, .call 93 [.t 16, .c (.int .i64 1)], none⟩,
    ⟨some 18, .call 134 [.t 13, .t 17], none⟩,
    ⟨some 4, .mv (.t 18), none⟩] [] [4])
  .ret))), [(4, none)]⟩
theorem spec_l1DrawTerm_ok : okFn Try.prog 119 spec_l1DrawTerm = true := by kernel_rfl
def spec_l1PickInt : IFn := ⟨12, (.seq (.reg false [⟨some 4, .mv (.c (.int .i64 0)), none⟩] [] [0, 1])
  (.seq (.reg false [⟨some 5, .mv (.t 1), none⟩,
    ⟨some 6, .mv (.t 0), none⟩,
    ⟨some 7, .mv (.t 1), none⟩,
    ⟨some 8, .len false (.t 7), none⟩,
    ⟨some 9, .call 94 [.t 6, .t 8], none⟩,
    ⟨some 10, .iad 1 (.t 5) (.t 9), none⟩,
    ⟨some 11, .ld none (.t 10), none⟩,
    ⟨some 4, .mv (.t 11), none⟩] [] [4])
  .ret)), [(4, none)]⟩
theorem spec_l1PickInt_ok : okFn Try.prog 120 spec_l1PickInt = true := by kernel_rfl
def spec_l6DrawAny : IFn := ⟨38, (.seq (.reg false [⟨some 3, .box (.t 1), none⟩,
    ⟨some 4, .mv (.c (.nil)), none⟩] [] [0, 3])
  (.seq (.reg false [⟨some 7, .mv (.t 0), none⟩,
    ⟨some 8, .ld (some 1) (.t 3), none⟩,
    ⟨some 9, .call 135 [.t 7, .t 8], none⟩,
    ⟨some 5, .mv (.t 9), none⟩] [] [0, 3, 5])
  (.seq (.seq (.reg false [⟨some 10, .mv (.t 0), none⟩,
    ⟨some 11, .call 94 [.t 10, .c (.int .i64 30)], none⟩] [] [0, 3, 5, 11])
  (.block 0 (.seq (.reg false [⟨some 13, .bin .eql (.t 11) (.c (.int .i64 0)), none⟩,
    ⟨some 12, .mv (.t 13), none⟩] [] [0, 3, 5, 11, 12])
  (.cond (.t 12)
  (.reg false [⟨some 14, .mv (.t 5), none⟩,
    ⟨some 15, .fad 0 (.t 3), none⟩,
    ⟨some 16, .ld none (.t 15), none⟩,
    ⟨some 17, .len false (.t 16), none⟩,
    ⟨some 18, .bsl 1 1 [.int .i64 0] [(0, 1, .t 17)], none⟩,
    ⟨some 19, .app 1 8 (.t 14) (.t 18), none⟩,
    ⟨some 5, .mv (.t 19), none⟩] [] [5])
  (.seq (.reg false [⟨some 21, .bin .eql (.t 11) (.c (.int .i64 1)), none⟩,
    ⟨some 20, .mv (.t 21), none⟩] [] [0, 5, 11, 20])
  (.cond (.t 20)
  (.reg false [⟨some 22, .mv (.t 5), none⟩,
    ⟨some 23, .mv (.t 5), none⟩,
    ⟨some 24, .app 1 8 (.t 22) (.t 23), none⟩,
    ⟨some 5, .mv (.t 24), none⟩] [] [5])
  (.seq (.reg false [⟨some 26, .bin .eql (.t 11) (.c (.int .i64 2)), none⟩,
    ⟨some 25, .mv (.t 26), none⟩] [] [0, 5, 25])
  (.cond (.t 25)
  (.seq (.reg false [⟨some 6, .mv (.c (.int .i64 0)), none⟩] [] [0, 5, 6])
  (.block 1 (.loop (.seq (.seq (.reg false [⟨some 27, .mv (.t 6), none⟩,
    ⟨some 28, .mv (.t 0), none⟩,
    ⟨some 29, .call 94 [.t 28, .c (.int .i64 2)], none⟩,
    ⟨some 30, .bin .add (.c (.int .i64 200)) (.t 29), none⟩,
    ⟨some 31, .bin .lss (.t 27) (.t 30), none⟩] [] [0, 5, 6, 31])
  (.cond (.t 31)
  .skip
  (.exit 1)))
  (.seq (.block 2 (.reg false [⟨some 34, .mv (.t 5), none⟩,
    ⟨some 35, .mv (.t 6), none⟩,
    ⟨some 36, .call 100 [.t 34, .t 35], none⟩,
    ⟨some 5, .mv (.t 36), none⟩] [] [0, 5, 6]))
  (.reg false [⟨some 32, .mv (.t 6), none⟩,
    ⟨some 33, .bin .add (.t 32) (.c (.int .i64 1)), none⟩,
    ⟨some 6, .mv (.t 33), none⟩] [] [0, 5, 6]))))))
  .skip))))))))
  (.seq (.reg false [⟨some 37, .mv (.t 5), none⟩,
    ⟨some 4, .mv (.t 37), none⟩] [] [4])
  .ret)))), [(4, none)]⟩
theorem spec_l6DrawAny_ok : okFn Try.prog 121 spec_l6DrawAny = true := by kernel_rfl
def slices_Clone_int : IFn := ⟨8, (.seq (.reg false [⟨some 2, .mv (.c (.nil)), none⟩] [] [0])
  (.seq (.seq (.reg false [⟨some 3, .mv (.t 0), none⟩,
    ⟨some 4, .isn false (.t 3), none⟩] [] [0, 4])
  (.cond (.t 4)
  (.seq (.reg false [⟨some 2, .mv (.c (.nil)), none⟩] [] [2])
  .ret)
  .skip))
  (.seq (.reg false [⟨some 5, .bsl 1 0 [.int .i64 0] [], none⟩,
    ⟨some 6, .mv (.t 0), none⟩,
    ⟨some 7, .app 1 8 (.t 5) (.t 6), none⟩,
    ⟨some 2, .mv (.t 7), none⟩] [] [2])
  .ret))), [(2, none)]⟩
theorem slices_Clone_int_ok : okFn Try.prog 122 slices_Clone_int = true := by kernel_rfl
def spec_l1Byte : IFn := ⟨58, (.seq (.reg false [⟨some 2, .mv (.c (.int .i64 0)), none⟩] [] [0])
  (.seq (.reg false [⟨some 4, .mv (.t 0), none⟩,
    ⟨some 5, .mv (.t 0), none⟩,
    ⟨some 6, .nck (.t 5), none⟩,
    ⟨some 7, .fad 2 (.t 6), none⟩,
    ⟨some 8, .ld none (.t 7), none⟩,
    ⟨some 9, .bin .mul (.t 8) (.c (.int .i64 6364136223846793005)), none⟩,
    ⟨some 10, .bin .add (.t 9) (.c (.int .i64 1442695040888963407)), none⟩,
    ⟨some 11, .nck (.t 4), none⟩,
    ⟨some 12, .fad 2 (.t 11), none⟩,
    ⟨none, .st 1 (.t 12) (.t 10), none⟩] [] [0])
  (.seq (.reg true [⟨some 13, .mv (.t 0), none⟩,
    ⟨some 14, .nck (.t 13), none⟩,
    ⟨some 15, .fad 2 (.t 14), none⟩,
    ⟨some 16, .ld none (.t 15), none⟩,
    ⟨some 17, .bin .shr (.t 16) (.c (.int .u64 33)), none⟩,
    ⟨some 18, .mv (.t 0), none⟩,
    ⟨some 19, .nck (.t 18), none⟩,
    ⟨some 20, .fad 2 (.t 19), none⟩,
    ⟨some 21, .ld none (.t 20), none⟩,
    ⟨some 22, .bin .shr (.t 21) (.c (.int .u64 45)), none⟩,
    ⟨some 23, .bin .xor (.t 17) (.t 22), none⟩,
    ⟨some 24, .bin .and (.t 23) (.c (.int .i64 255)), none⟩,
    ⟨some 3, .mv (.t 24), none⟩] [0, 1, 3, 7, 15, 0, 32, 96, 224, 480, 1023, 2047, 4095] [0, 3])
  (.seq (.seq (.reg true [⟨some 25, .mv (.t 0), none⟩,
    ⟨some 26, .nck (.t 25), none⟩,
    ⟨some 27, .fad 1 (.t 26), none⟩,
    ⟨some 28, .ld none (.t 27), none⟩,
    ⟨some 29, .mv (.t 0), none⟩,
    ⟨some 30, .nck (.t 29), none⟩,
    ⟨some 31, .fad 0 (.t 30), none⟩,
    ⟨some 32, .ld none (.t 31), none⟩,
    ⟨some 33, .len false (.t 32), none⟩,
    ⟨some 34, .bin .lss (.t 28) (.t 33), none⟩] [0, 1, 3, 7, 0, 16, 48, 112, 240, 511] [0, 3, 34])
  (.cond (.t 34)
  (.seq (.reg true [⟨some 35, .mv (.t 3), none⟩,
    ⟨some 36, .mv (.t 0), none⟩,
    ⟨some 37, .nck (.t 36), none⟩,
    ⟨some 38, .fad 0 (.t 37), none⟩,
    ⟨some 39, .ld none (.t 38), none⟩,
    ⟨some 40, .mv (.t 0), none⟩,
    ⟨some 41, .nck (.t 40), none⟩,
    ⟨some 42, .fad 1 (.t 41), none⟩,
    ⟨some 43, .ld none (.t 42), none⟩,
    ⟨some 44, .iad 1 (.t 39) (.t 43), none⟩,
    ⟨some 45, .ld none (.t 44), none⟩,
    ⟨some 46, .conv .i64 (.t 45), none⟩,
    ⟨some 47, .bin .add (.t 35) (.t 46), none⟩,
    ⟨some 48, .bin .and (.t 47) (.c (.int .i64 255)), none⟩,
    ⟨some 3, .mv (.t 48), none⟩] [0, 0, 2, 6, 14, 0, 32, 96, 224, 510, 1022, 2046, 4095, 8191, 16383] [0, 3])
  (.reg false [⟨some 49, .mv (.t 0), none⟩,
    ⟨some 50, .mv (.t 0), none⟩,
    ⟨some 51, .nck (.t 50), none⟩,
    ⟨some 52, .fad 1 (.t 51), none⟩,
    ⟨some 53, .ld none (.t 52), none⟩,
    ⟨some 54, .bin .add (.t 53) (.c (.int .i64 1)), none⟩,
    ⟨some 55, .nck (.t 49), none⟩,
    ⟨some 56, .fad 1 (.t 55), none⟩,
    ⟨none, .st 1 (.t 56) (.t 54), none⟩] [] [3]))
  .skip))
  (.seq (.reg false [⟨some 57, .mv (.t 3), none⟩,
    ⟨some 2, .mv (.t 57), none⟩] [] [2])
  .ret))))), [(2, none)]⟩
theorem spec_l1Byte_ok : okFn Try.prog 123 spec_l1Byte = true := by kernel_rfl
def impl_count : IFn := ⟨15, (.seq (.reg false [⟨some 2, .mv (.c (.int .i64 0)), none⟩] [] [0])
  (.seq (.seq (.reg false [⟨some 3, .mv (.t 0), none⟩] [] [3])
  (.block 0 (.seq (.reg false [⟨some 5, .bin .eql (.t 3) (.c (.int .i64 1)), none⟩,
    ⟨some 4, .mv (.t 5), none⟩] [] [3, 4])
  (.cond (.t 4)
  (.seq (.reg false [⟨some 2, .mv (.c (.int .i64 0)), none⟩] [] [2])
  .ret)
  (.seq (.seq (.reg false [⟨some 7, .bin .eql (.t 3) (.c (.int .i64 5)), none⟩,
    ⟨some 6, .mv (.t 7), none⟩] [] [3, 6])
  (.cond (.t 6)
  .skip
  (.reg false [⟨some 8, .bin .eql (.t 3) (.c (.int .i64 7)), none⟩,
    ⟨some 6, .mv (.t 8), none⟩] [] [3, 6])))
  (.cond (.t 6)
  (.seq (.reg false [⟨some 2, .mv (.c (.int .i64 1)), none⟩] [] [2])
  .ret)
  (.seq (.seq (.reg false [⟨some 10, .bin .eql (.t 3) (.c (.int .i64 2)), none⟩,
    ⟨some 9, .mv (.t 10), none⟩] [] [3, 9])
  (.cond (.t 9)
  .skip
  (.seq (.reg false [⟨some 11, .bin .eql (.t 3) (.c (.int .i64 3)), none⟩,
    ⟨some 9, .mv (.t 11), none⟩] [] [3, 9])
  (.cond (.t 9)
  .skip
  (.seq (.reg false [⟨some 12, .bin .eql (.t 3) (.c (.int .i64 4)), none⟩,
    ⟨some 9, .mv (.t 12), none⟩] [] [3, 9])
  (.cond (.t 9)
  .skip
  (.seq (.reg false [⟨some 13, .bin .eql (.t 3) (.c (.int .i64 6)), none⟩,
    ⟨some 9, .mv (.t 13), none⟩] [] [3, 9])
  (.cond (.t 9)
  .skip
  (.reg false [⟨some 14, .bin .eql (.t 3) (.c (.int .i64 8)), none⟩,
    ⟨some 9, .mv (.t 14), none⟩] [] [9])))))))))
  (.cond (.t 9)
  (.seq (.reg false [⟨some 2, .mv (.c (.int .i64 2)), none⟩] [] [2])
  .ret)
  .skip))))))))
  (.seq (.reg false [⟨some 2, .mv (.c (.int .i64 (-1))), none⟩] [] [2])
  .ret))), [(2, none)]⟩
theorem impl_count_ok : okFn Try.prog 124 impl_count = true := by kernel_rfl
def spec_l2Agent : IFn := ⟨5, (.seq (.reg false [⟨some 2, .mv (.c (.bool false)), none⟩] [] [0])
  (.seq (.reg false [⟨some 3, .mv (.t 0), none⟩,
    ⟨some 4, .call 108 [.t 3, .c (.int .i64 0), .c (.int .i64 4)], none⟩,
    ⟨some 2, .mv (.t 4), none⟩] [] [2])
  .ret)), [(2, none)]⟩
theorem spec_l2Agent_ok : okFn Try.prog 125 spec_l2Agent = true := by kernel_rfl
def spec_KnowHas : IFn := ⟨18, (.seq (.reg false [⟨some 4, .mv (.c (.bool false)), none⟩] [] [0, 1])
  (.seq (.seq (.reg false [⟨some 5, .mv (.c (.int .i64 0)), none⟩] [] [0, 1, 5])
  (.block 0 (.loop (.seq (.seq (.reg false [⟨some 6, .mv (.t 5), none⟩,
    ⟨some 7, .mv (.t 0), none⟩,
    ⟨some 8, .len false (.t 7), none⟩,
    ⟨some 9, .bin .lss (.t 6) (.t 8), none⟩] [] [0, 1, 5, 9])
  (.cond (.t 9)
  .skip
  (.exit 0)))
  (.seq (.block 1 (.seq (.reg false [⟨some 12, .mv (.t 0), none⟩,
    ⟨some 13, .mv (.t 5), none⟩,
    ⟨some 14, .iad 1 (.t 12) (.t 13), none⟩,
    ⟨some 15, .ld none (.t 14), none⟩,
    ⟨some 16, .mv (.t 1), none⟩,
    ⟨some 17, .bin .eql (.t 15) (.t 16), none⟩] [] [0, 1, 5, 17])
  (.cond (.t 17)
  (.seq (.reg false [⟨some 4, .mv (.c (.bool true)), none⟩] [] [4])
  .ret)
  .skip)))
  (.reg false [⟨some 10, .mv (.t 5), none⟩,
    ⟨some 11, .bin .add (.t 10) (.c (.int .i64 1)), none⟩,
    ⟨some 5, .mv (.t 11), none⟩] [] [0, 1, 5]))))))
  (.seq (.reg false [⟨some 4, .mv (.c (.bool false)), none⟩] [] [4])
  .ret))), [(4, none)]⟩
theorem spec_KnowHas_ok : okFn Try.prog 126 spec_KnowHas = true := by kernel_rfl
def impl_StaticKey : IFn := ⟨8, (.seq (.reg false [⟨some 2, .mv (.c (.int .i64 0)), none⟩] [] [0])
  (.seq (.seq (.reg false [⟨some 3, .mv (.t 0), none⟩,
    ⟨some 4, .call 136 [.t 3], none⟩,
    ⟨some 5, .not (.t 4), none⟩] [] [0, 5])
  (.cond (.t 5)
  (.seq (.reg false [⟨some 2, .mv (.c (.int .i64 (-1))), none⟩] [] [2])
  .ret)
  .skip))
  (.seq (.reg false [⟨some 6, .mv (.t 0), none⟩,
    ⟨some 7, .bin .add (.c (.int .i64 90)) (.t 6), none⟩,
    ⟨some 2, .mv (.t 7), none⟩] [] [2])
  .ret))), [(2, none)]⟩
theorem impl_StaticKey_ok : okFn Try.prog 127 impl_StaticKey = true := by kernel_rfl
def laws_eqInst : IFn := ⟨51, (.seq (.reg false [⟨some 2, .box (.t 0), none⟩,
    ⟨some 3, .box (.t 1), none⟩,
    ⟨some 4, .mv (.c (.bool false)), none⟩] [] [2, 3])
  (.seq (.seq (.reg false [⟨some 5, .fad 0 (.t 2), none⟩,
    ⟨some 6, .ld none (.t 5), none⟩,
    ⟨some 7, .fad 0 (.t 3), none⟩,
    ⟨some 8, .ld none (.t 7), none⟩,
    ⟨some 9, .bin .neq (.t 6) (.t 8), none⟩] [] [2, 3, 9])
  (.cond (.t 9)
  (.seq (.reg false [⟨some 4, .mv (.c (.bool false)), none⟩] [] [4])
  .ret)
  .skip))
  (.seq (.seq (.reg false [⟨some 10, .fad 1 (.t 2), none⟩,
    ⟨some 11, .ld none (.t 10), none⟩,
    ⟨some 12, .fad 1 (.t 3), none⟩,
    ⟨some 13, .ld none (.t 12), none⟩,
    ⟨some 14, .bin .neq (.t 11) (.t 13), none⟩] [] [2, 3, 14])
  (.cond (.t 14)
  (.seq (.reg false [⟨some 4, .mv (.c (.bool false)), none⟩] [] [4])
  .ret)
  .skip))
  (.seq (.seq (.reg false [⟨some 15, .fad 2 (.t 2), none⟩,
    ⟨some 16, .ld none (.t 15), none⟩,
    ⟨some 17, .fad 2 (.t 3), none⟩,
    ⟨some 18, .ld none (.t 17), none⟩,
    ⟨some 19, .bin .neq (.t 16) (.t 18), none⟩] [] [2, 3, 19])
  (.cond (.t 19)
  (.seq (.reg false [⟨some 4, .mv (.c (.bool false)), none⟩] [] [4])
  .ret)
  .skip))
  (.seq (.seq (.reg false [⟨some 20, .fad 3 (.t 2), none⟩,
    ⟨some 21, .ld none (.t 20), none⟩,
    ⟨some 22, .fad 3 (.t 3), none⟩,
    ⟨some 23, .ld none (.t 22), none⟩,
    ⟨some 24, .bin .neq (.t 21) (.t 23), none⟩] [] [2, 3, 24])
  (.cond (.t 24)
  (.seq (.reg false [⟨some 4, .mv (.c (.bool false)), none⟩] [] [4])
  .ret)
  .skip))
  (.seq (.seq (.reg false [⟨some 25, .fad 4 (.t 2), none⟩,
    ⟨some 26, .ld none (.t 25), none⟩,
    ⟨some 27, .fad 4 (.t 3), none⟩,
    ⟨some 28, .ld none (.t 27), none⟩,
    ⟨some 29, .bin .neq (.t 26) (.t 28), none⟩] [] [2, 3, 29])
  (.cond (.t 29)
  (.seq (.reg false [⟨some 4, .mv (.c (.bool false)), none⟩] [] [4])
  .ret)
  .skip))
  (.seq (.seq (.reg false [⟨some 30, .fad 5 (.t 2), none⟩,
    ⟨some 31, .ld none (.t 30), none⟩,
    ⟨some 32, .fad 5 (.t 3), none⟩,
    ⟨some 33, .ld none (.t 32), none⟩,
    ⟨some 34, .call 47 [.t 31, .t 33], none⟩,
    ⟨some 35, .not (.t 34), none⟩] [] [2, 3, 35])
  (.cond (.t 35)
  (.seq (.reg false [⟨some 4, .mv (.c (.bool false)), none⟩] [] [4])
  .ret)
  .skip))
  (.seq (.seq (.reg false [⟨some 36, .fad 6 (.t 2), none⟩,
    ⟨some 37, .ld none (.t 36), none⟩,
    ⟨some 38, .fad 6 (.t 3), none⟩,
    ⟨some 39, .ld none (.t 38), none⟩,
    ⟨some 40, .eqb true (.t 37) (.t 39), none⟩] [] [2, 3, 40])
  (.cond (.t 40)
  (.seq (.reg false [⟨some 4, .mv (.c (.bool false)), none⟩] [] [4])
  .ret)
  .skip))
  (.seq (.seq (.reg false [⟨some 41, .fad 7 (.t 2), none⟩,
    ⟨some 42, .ld none (.t 41), none⟩,
    ⟨some 43, .fad 7 (.t 3), none⟩,
    ⟨some 44, .ld none (.t 43), none⟩,
    ⟨some 45, .eqb true (.t 42) (.t 44), none⟩] [] [2, 3, 45])
  (.cond (.t 45)
  (.seq (.reg false [⟨some 4, .mv (.c (.bool false)), none⟩] [] [4])
  .ret)
  .skip))
  (.seq (.seq (.reg false [⟨some 46, .fad 8 (.t 2), none⟩,
    ⟨some 47, .ld none (.t 46), none⟩,
    ⟨some 48, .fad 8 (.t 3), none⟩,
    ⟨some 49, .ld none (.t 48), none⟩,
    ⟨some 50, .bin .neq (.t 47) (.t 49), none⟩] [] [50])
  (.cond (.t 50)
  (.seq (.reg false [⟨some 4, .mv (.c (.bool false)), none⟩] [] [4])
  .ret)
  .skip))
  (.seq (.reg false [⟨some 4, .mv (.c (.bool true)), none⟩] [] [4])
  .ret))))))))))), [(4, none)]⟩
theorem laws_eqInst_ok : okFn Try.prog 128 laws_eqInst = true := by kernel_rfl
def laws_eqClaim : IFn := ⟨20, (.seq (.reg false [⟨some 2, .box (.t 0), none⟩,
    ⟨some 3, .box (.t 1), none⟩,
    ⟨some 4, .mv (.c (.bool false)), none⟩] [] [2, 3])
  (.seq (.seq (.reg false [⟨some 5, .fad 0 (.t 2), none⟩,
    ⟨some 6, .ld none (.t 5), none⟩,
    ⟨some 7, .fad 0 (.t 3), none⟩,
    ⟨some 8, .ld none (.t 7), none⟩,
    ⟨some 9, .bin .neq (.t 6) (.t 8), none⟩] [] [2, 3, 9])
  (.cond (.t 9)
  (.seq (.reg false [⟨some 4, .mv (.c (.bool false)), none⟩] [] [4])
  .ret)
  .skip))
  (.seq (.seq (.reg false [⟨some 10, .fad 1 (.t 2), none⟩,
    ⟨some 11, .ld none (.t 10), none⟩,
    ⟨some 12, .fad 1 (.t 3), none⟩,
    ⟨some 13, .ld none (.t 12), none⟩,
    ⟨some 14, .eqb true (.t 11) (.t 13), none⟩] [] [2, 3, 14])
  (.cond (.t 14)
  (.seq (.reg false [⟨some 4, .mv (.c (.bool false)), none⟩] [] [4])
  .ret)
  .skip))
  (.seq (.seq (.reg false [⟨some 15, .fad 2 (.t 2), none⟩,
    ⟨some 16, .ld none (.t 15), none⟩,
    ⟨some 17, .fad 2 (.t 3), none⟩,
    ⟨some 18, .ld none (.t 17), none⟩,
    ⟨some 19, .eqb true (.t 16) (.t 18), none⟩] [] [19])
  (.cond (.t 19)
  (.seq (.reg false [⟨some 4, .mv (.c (.bool false)), none⟩] [] [4])
  .ret)
  .skip))
  (.seq (.reg false [⟨some 4, .mv (.c (.bool true)), none⟩] [] [4])
  .ret))))), [(4, none)]⟩
theorem laws_eqClaim_ok : okFn Try.prog 129 laws_eqClaim = true := by kernel_rfl
def spec_l1Parts : IFn := ⟨15, (.seq (.reg false [⟨some 2, .mv (.c (.int .i64 0)), none⟩] [] [0])
  (.seq (.seq (.reg false [⟨some 3, .mv (.t 0), none⟩] [] [3])
  (.block 0 (.seq (.reg false [⟨some 5, .bin .eql (.t 3) (.c (.int .i64 1)), none⟩,
    ⟨some 4, .mv (.t 5), none⟩] [] [3, 4])
  (.cond (.t 4)
  (.seq (.reg false [⟨some 2, .mv (.c (.int .i64 0)), none⟩] [] [2])
  .ret)
  (.seq (.seq (.reg false [⟨some 7, .bin .eql (.t 3) (.c (.int .i64 5)), none⟩,
    ⟨some 6, .mv (.t 7), none⟩] [] [3, 6])
  (.cond (.t 6)
  .skip
  (.reg false [⟨some 8, .bin .eql (.t 3) (.c (.int .i64 7)), none⟩,
    ⟨some 6, .mv (.t 8), none⟩] [] [3, 6])))
  (.cond (.t 6)
  (.seq (.reg false [⟨some 2, .mv (.c (.int .i64 1)), none⟩] [] [2])
  .ret)
  (.seq (.seq (.reg false [⟨some 10, .bin .eql (.t 3) (.c (.int .i64 2)), none⟩,
    ⟨some 9, .mv (.t 10), none⟩] [] [3, 9])
  (.cond (.t 9)
  .skip
  (.seq (.reg false [⟨some 11, .bin .eql (.t 3) (.c (.int .i64 3)), none⟩,
    ⟨some 9, .mv (.t 11), none⟩] [] [3, 9])
  (.cond (.t 9)
  .skip
  (.seq (.reg false [⟨some 12, .bin .eql (.t 3) (.c (.int .i64 4)), none⟩,
    ⟨some 9, .mv (.t 12), none⟩] [] [3, 9])
  (.cond (.t 9)
  .skip
  (.seq (.reg false [⟨some 13, .bin .eql (.t 3) (.c (.int .i64 6)), none⟩,
    ⟨some 9, .mv (.t 13), none⟩] [] [3, 9])
  (.cond (.t 9)
  .skip
  (.reg false [⟨some 14, .bin .eql (.t 3) (.c (.int .i64 8)), none⟩,
    ⟨some 9, .mv (.t 14), none⟩] [] [9])))))))))
  (.cond (.t 9)
  (.seq (.reg false [⟨some 2, .mv (.c (.int .i64 2)), none⟩] [] [2])
  .ret)
  .skip))))))))
  (.seq (.reg false [⟨some 2, .mv (.c (.int .i64 (-1))), none⟩] [] [2])
  .ret))), [(2, none)]⟩
theorem spec_l1Parts_ok : okFn Try.prog 130 spec_l1Parts = true := by kernel_rfl
def slices_Index_Node : IFn := ⟨19, (.seq (.reg false [⟨some 3, .box (.t 1), none⟩,
    ⟨some 4, .mv (.c (.int .i64 0)), none⟩] [] [0, 3])
  (.seq (.seq (.reg false [⟨some 6, .mv (.t 0), none⟩,
    ⟨some 7, .len false (.t 6), none⟩,
    ⟨some 8, .mv (.c (.int .i64 0)), none⟩] [] [0, 3, 7, 8])
  (.block 0 (.loop (.seq (.reg false [⟨some 9, .bin .lss (.t 8) (.t 7), none⟩] [] [0, 3, 7, 8, 9])
  (.seq (.cond (.t 9)
  .skip
  (.exit 0))
  (.seq (.block 1 (.seq (.reg false [⟨some 10, .mv (.t 8), none⟩,
    ⟨some 5, .mv (.t 10), none⟩] [] [0, 3, 5, 7, 8])
  (.seq (.reg true [⟨some 11, .ld (some 3) (.t 3), none⟩,
    ⟨some 12, .mv (.t 0), none⟩,
    ⟨some 13, .mv (.t 5), none⟩,
    ⟨some 14, .iad 3 (.t 12) (.t 13), none⟩,
    ⟨some 15, .ld (some 3) (.t 14), none⟩,
    ⟨some 16, .eqs false [1, 1, 1] (.t 11) (.t 15), none⟩] [0, 0, 0, 6, 14, 31] [0, 3, 5, 7, 8, 16])
  (.cond (.t 16)
  (.seq (.reg false [⟨some 17, .mv (.t 5), none⟩,
    ⟨some 4, .mv (.t 17), none⟩] [] [4])
  .ret)
  .skip))))
  (.reg false [⟨some 18, .bin .add (.t 8) (.c (.int .i64 1)), none⟩,
    ⟨some 8, .mv (.t 18), none⟩] [] [0, 3, 7, 8])))))))
  (.seq (.reg false [⟨some 4, .mv (.c (.int .i64 (-1))), none⟩] [] [4])
  .ret))), [(4, none)]⟩
theorem slices_Index_Node_ok : okFn Try.prog 131 slices_Index_Node = true := by kernel_rfl
def spec_l1DrawPool : IFn := ⟨29, (.seq (.reg false [⟨some 4, .new [.nil], none⟩] [] [0, 1, 4])
  (.seq (.reg false [⟨some 8, .build [.nil] [], none⟩,
    ⟨some 5, .new [.nil], none⟩,
    ⟨none, .st 1 (.t 5) (.t 8), none⟩] [] [0, 1, 4, 5])
  (.seq (.reg false [⟨some 9, .mv (.t 0), none⟩,
    ⟨some 10, .mv (.t 1), none⟩,
    ⟨some 11, .bin .add (.t 10) (.c (.int .i64 1)), none⟩,
    ⟨some 12, .call 94 [.t 9, .t 11], none⟩,
    ⟨some 6, .mv (.t 12), none⟩] [] [0, 4, 5, 6])
  (.seq (.seq (.reg false [⟨some 7, .mv (.c (.int .i64 0)), none⟩] [] [0, 4, 5, 6, 7])
  (.block 0 (.loop (.seq (.seq (.reg false [⟨some 13, .mv (.t 7), none⟩,
    ⟨some 14, .mv (.t 6), none⟩,
    ⟨some 15, .bin .lss (.t 13) (.t 14), none⟩] [] [0, 4, 5, 6, 7, 15])
  (.cond (.t 15)
  .skip
  (.exit 0)))
  (.seq (.block 1 (.reg true [⟨some 19, .ld (some 1) (.t 5), none⟩,
    ⟨some 20, .mv (.t 0), none⟩,
    ⟨some 21, .fad 0 (.t 5), none⟩,
    ⟨some 22, .ld none (.t 21), none⟩,
    ⟨some 23, .len false (.t 22), none⟩,
    ⟨some 24, .call 133 [.t 20, .t 23], none⟩,
    ⟨some 25, .call 99 [.t 19, .t 24], none⟩,
    ⟨some 18, .mv (.t 25), none⟩,
    ⟨some 26, .ext (.t 18) 0, none⟩,
    ⟨some 27, .ext (.t 18) 1, none⟩,
    ⟨none, .st 1 (.t 5) (.t 26), none⟩] [0, 0, 0, 4, 12, 30, 63, 127, 255, 255, 511] [0, 4, 5, 6, 7]))
  (.reg false [⟨some 16, .mv (.t 7), none⟩,
    ⟨some 17, .bin .add (.t 16) (.c (.int .i64 1)), none⟩,
    ⟨some 7, .mv (.t 17), none⟩] [] [0, 4, 5, 6, 7]))))))
  (.seq (.reg false [⟨some 28, .ld (some 1) (.t 5), none⟩,
    ⟨none, .st 1 (.t 4) (.t 28), none⟩] [] [4])
  .ret))))), [(4, some (some 1))]⟩
theorem spec_l1DrawPool_ok : okFn Try.prog 132 spec_l1DrawPool = true := by kernel_rfl
def spec_l1DrawNode : IFn := ⟨32, (.seq (.reg false [⟨some 4, .new [.int .i64 0, .int .i64 0, .int .i64 0], none⟩] [] [0, 1, 4])
  (.seq (.seq (.reg false [⟨some 6, .mv (.t 1), none⟩,
    ⟨some 7, .bin .eql (.t 6) (.c (.int .i64 0)), none⟩,
    ⟨some 8, .mv (.t 7), none⟩,
    ⟨some 9, .mv (.t 0), some (8, false)⟩,
    ⟨some 10, .call 91 [.t 9, .c (.int .i64 4)], some (8, false)⟩,
    ⟨some 11, .pick (.t 8) (.c (.bool true)) (.t 10), none⟩] [] [0, 1, 4, 11])
  (.cond (.t 11)
  (.seq (.reg false [⟨some 12, .mv (.t 0), none⟩,
    ⟨some 13, .bsl 1 13 [.int .i64 0] [(0, 1, .c (.int .i64 0)), (1, 1, .c (.int .i64 1)), (2, 1, .c (.int .i64 5)), (3, 1, .c (.int .i64 6)), (4, 1, .c (.int .i64 50)), (5, 1, .c (.int .i64 51)), (6, 1, .c (.int .i64 62)), (7, 1, .c (.int .i64 90)), (8, 1, .c (.int .i64 91)), (9, 1, .c (.int .i64 100)), (10, 1, .c (.int .i64 101)), (11, 1, .c (.int .i64 102)), (12, 1, .c (.int .i64 199))], none⟩,
    ⟨some 14, .call 120 [.t 12, .t 13], none⟩,
    ⟨some 15, .build [.int .i64 0, .int .i64 0, .int .i64 0] [(0, 1, .c (.int .i64 1)), (1, 1, .t 14)], none⟩,
    ⟨none, .st 3 (.t 4) (.t 15), none⟩] [] [4])
  .ret)
  .skip))
  (.seq (.reg false [⟨some 16, .mv (.t 0), none⟩,
    ⟨some 17, .call 134 [.t 16, .c (.int .i64 7)], none⟩,
    ⟨some 18, .bin .add (.c (.int .i64 2)) (.t 17), none⟩,
    ⟨some 19, .mv (.t 0), none⟩,
    ⟨some 20, .mv (.t 1), none⟩,
    ⟨some 21, .call 134 [.t 19, .t 20], none⟩,
    ⟨some 22, .build [.int .i64 0, .int .i64 0, .int .i64 0] [(0, 1, .t 18), (1, 1, .t 21)], none⟩,
    ⟨some 5, .new [.int .i64 0, .int .i64 0, .int .i64 0], none⟩,
    ⟨none, .st 3 (.t 5) (.t 22), none⟩] [] [0, 1, 4, 5])
  (.seq (.seq (.reg false [⟨some 23, .fad 0 (.t 5), none⟩,
    ⟨some 24, .ld none (.t 23), none⟩,
    ⟨some 25, .call 130 [.t 24], none⟩,
    ⟨some 26, .bin .eql (.t 25) (.c (.int .i64 2)), none⟩] [] [0, 1, 4, 5, 26])
  (.cond (.t 26)
  (.reg false [⟨some 27, .mv (.t 0), none⟩,
    ⟨some 28, .mv (.t 1), none⟩,
    ⟨some 29, .call 134 [.t 27, .t 28], none⟩,
    ⟨some 30, .fad 2 (.t 5), none⟩,
    ⟨none, .st 1 (.t 30) (.t 29), none⟩] [] [4, 5])
  .skip))
  (.seq (.reg false [⟨some 31, .ld (some 3) (.t 5), none⟩,
    ⟨none, .st 3 (.t 4) (.t 31), none⟩] [] [4])
  .ret))))), [(4, some (some 3))]⟩
theorem spec_l1DrawNode_ok : okFn Try.prog 133 spec_l1DrawNode = true := by kernel_rfl
def spec_l1Draw : IFn := ⟨19, (.seq (.reg false [⟨some 4, .mv (.c (.int .i64 0)), none⟩] [] [0, 1])
  (.seq (.seq (.reg false [⟨some 5, .mv (.t 1), none⟩,
    ⟨some 6, .bin .gtr (.t 5) (.c (.int .i64 6)), none⟩,
    ⟨some 7, .mv (.t 6), none⟩,
    ⟨some 8, .mv (.t 0), some (7, true)⟩,
    ⟨some 9, .call 91 [.t 8, .c (.int .i64 2)], some (7, true)⟩,
    ⟨some 10, .pick (.t 7) (.t 9) (.c (.bool false)), none⟩] [] [0, 1, 10])
  (.cond (.t 10)
  (.seq (.reg false [⟨some 11, .mv (.t 1), none⟩,
    ⟨some 12, .bin .sub (.t 11) (.c (.int .i64 1)), none⟩,
    ⟨some 13, .mv (.t 0), none⟩,
    ⟨some 14, .call 94 [.t 13, .c (.int .i64 6)], none⟩,
    ⟨some 15, .bin .sub (.t 12) (.t 14), none⟩,
    ⟨some 4, .mv (.t 15), none⟩] [] [4])
  .ret)
  .skip))
  (.seq (.reg false [⟨some 16, .mv (.t 0), none⟩,
    ⟨some 17, .mv (.t 1), none⟩,
    ⟨some 18, .call 94 [.t 16, .t 17], none⟩,
    ⟨some 4, .mv (.t 18), none⟩] [] [4])
  .ret))), [(4, none)]⟩
theorem spec_l1Draw_ok : okFn Try.prog 134 spec_l1Draw = true := by kernel_rfl
def spec_l6DrawKnow : IFn := ⟨30, (.seq (.reg false [⟨some 3, .box (.t 1), none⟩,
    ⟨some 4, .mv (.c (.nil)), none⟩] [] [0, 3])
  (.seq (.reg false [⟨some 8, .bsl 1 0 [.int .i64 0] [], none⟩,
    ⟨some 5, .mv (.t 8), none⟩] [] [0, 3, 5])
  (.seq (.reg false [⟨some 9, .mv (.t 0), none⟩,
    ⟨some 10, .call 94 [.t 9, .c (.int .i64 8)], none⟩,
    ⟨some 6, .mv (.t 10), none⟩] [] [0, 3, 5, 6])
  (.seq (.seq (.reg false [⟨some 7, .mv (.c (.int .i64 0)), none⟩] [] [0, 3, 5, 6, 7])
  (.block 0 (.loop (.seq (.seq (.reg false [⟨some 11, .mv (.t 7), none⟩,
    ⟨some 12, .mv (.t 6), none⟩,
    ⟨some 13, .bin .lss (.t 11) (.t 12), none⟩,
    ⟨some 14, .mv (.t 13), none⟩,
    ⟨some 15, .fad 0 (.t 3), some (14, true)⟩,
    ⟨some 16, .ld none (.t 15), some (14, true)⟩,
    ⟨some 17, .len false (.t 16), some (14, true)⟩,
    ⟨some 18, .bin .gtr (.t 17) (.c (.int .i64 0)), some (14, true)⟩,
    ⟨some 19, .pick (.t 14) (.t 18) (.c (.bool false)), none⟩] [] [0, 3, 5, 6, 7, 19])
  (.cond (.t 19)
  .skip
  (.exit 0)))
  (.seq (.block 1 (.reg false [⟨some 22, .mv (.t 5), none⟩,
    ⟨some 23, .mv (.t 0), none⟩,
    ⟨some 24, .fad 0 (.t 3), none⟩,
    ⟨some 25, .ld none (.t 24), none⟩,
    ⟨some 26, .len false (.t 25), none⟩,
    ⟨some 27, .call 134 [.t 23, .t 26], none⟩,
    ⟨some 28, .call 100 [.t 22, .t 27], none⟩,
    ⟨some 5, .mv (.t 28), none⟩] [] [0, 3, 5, 6, 7]))
  (.reg false [⟨some 20, .mv (.t 7), none⟩,
    ⟨some 21, .bin .add (.t 20) (.c (.int .i64 1)), none⟩,
    ⟨some 7, .mv (.t 21), none⟩] [] [0, 3, 5, 6, 7]))))))
  (.seq (.reg false [⟨some 29, .mv (.t 5), none⟩,
    ⟨some 4, .mv (.t 29), none⟩] [] [4])
  .ret))))), [(4, none)]⟩
theorem spec_l6DrawKnow_ok : okFn Try.prog 135 spec_l6DrawKnow = true := by kernel_rfl
def impl_isAgent : IFn := ⟨5, (.seq (.reg false [⟨some 2, .mv (.c (.bool false)), none⟩] [] [0])
  (.seq (.reg false [⟨some 3, .mv (.t 0), none⟩,
    ⟨some 4, .call 83 [.t 3, .c (.int .i64 0), .c (.int .i64 4)], none⟩,
    ⟨some 2, .mv (.t 4), none⟩] [] [2])
  .ret)), [(2, none)]⟩
theorem impl_isAgent_ok : okFn Try.prog 136 impl_isAgent = true := by kernel_rfl
end Go.Proofs.Ytnbodfakblbmbaa.I
