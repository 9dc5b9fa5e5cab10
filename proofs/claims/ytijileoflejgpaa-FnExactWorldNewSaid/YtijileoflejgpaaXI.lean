/- The functions of this seat told by trees. Printed by a program of this repository (mkir.py). Conditions: none. -/
import Derived.Test.YtijileoflejgpaaXSymQ
import Derived.Test.YtijileoflejgpaaProg
import Derived.KernelRfl
set_option maxRecDepth 100000
set_option linter.unusedVariables false
namespace Go.Proofs.Ytijileoflejgpaa.I
open Go.Sym
def laws_FnExactWorldNew : IFn := ⟨36, (.seq (.reg false [⟨some 0, .mv (.c (.bool false)), none⟩] [] [])
  (.seq (.reg false [⟨some 6, .call 4 [], none⟩,
    ⟨some 1, .new [.nil, .nil, .nil, .int .i64 0, .nil, .nil, .nil], none⟩,
    ⟨none, .st 7 (.t 1) (.t 6), none⟩] [] [1])
  (.seq (.reg false [⟨some 7, .call 5 [], none⟩,
    ⟨some 2, .new [.nil, .nil, .nil, .int .i64 0, .nil, .nil, .nil], none⟩,
    ⟨none, .st 7 (.t 2) (.t 7), none⟩] [] [1, 2])
  (.seq (.seq (.reg false [⟨some 8, .ld (some 7) (.t 2), none⟩,
    ⟨some 9, .ld (some 7) (.t 1), none⟩,
    ⟨some 10, .call 6 [.t 8, .t 9], none⟩,
    ⟨some 11, .not (.t 10), none⟩] [] [1, 2, 11])
  (.cond (.t 11)
  (.seq (.reg false [⟨some 0, .mv (.c (.bool false)), none⟩] [] [0])
  .ret)
  .skip))
  (.seq (.reg false [⟨some 3, .mv (.c (.int .i64 1)), none⟩] [] [1, 2, 3])
  (.seq (.reg false [⟨some 12, .ld (some 7) (.t 2), none⟩,
    ⟨some 13, .mv (.t 3), none⟩,
    ⟨some 14, .call 7 [.t 12, .t 13], none⟩,
    ⟨some 3, .mv (.t 14), none⟩] [] [1, 2, 3])
  (.seq (.reg false [⟨some 4, .mv (.c (.int .i64 1)), none⟩] [] [1, 2, 3, 4])
  (.seq (.reg false [⟨some 15, .ld (some 7) (.t 2), none⟩,
    ⟨some 16, .mv (.t 4), none⟩,
    ⟨some 17, .call 8 [.t 15, .t 16], none⟩,
    ⟨some 4, .mv (.t 17), none⟩] [] [1, 2, 3, 4])
  (.seq (.seq (.reg false [⟨some 18, .mv (.t 4), none⟩,
    ⟨some 19, .bin .lss (.t 18) (.c (.int .i64 0)), none⟩] [] [1, 2, 3, 4, 19])
  (.cond (.t 19)
  (.seq (.reg false [⟨some 0, .mv (.c (.bool false)), none⟩] [] [0])
  .ret)
  .skip))
  (.seq (.seq (.reg false [⟨some 20, .mv (.t 4), none⟩,
    ⟨some 21, .mv (.t 3), none⟩,
    ⟨some 22, .bin .neq (.t 20) (.t 21), none⟩] [] [1, 2, 3, 22])
  (.cond (.t 22)
  (.seq (.reg false [⟨some 0, .mv (.c (.bool false)), none⟩] [] [0])
  .ret)
  .skip))
  (.seq (.reg false [⟨some 23, .call 5 [], none⟩,
    ⟨some 5, .new [.nil, .nil, .nil, .int .i64 0, .nil, .nil, .nil], none⟩,
    ⟨none, .st 7 (.t 5) (.t 23), none⟩] [] [1, 2, 3, 5])
  (.seq (.seq (.reg false [⟨some 24, .ld (some 7) (.t 5), none⟩,
    ⟨some 25, .ld (some 7) (.t 1), none⟩,
    ⟨some 26, .call 6 [.t 24, .t 25], none⟩,
    ⟨some 27, .not (.t 26), none⟩] [] [2, 3, 27])
  (.cond (.t 27)
  (.seq (.reg false [⟨some 0, .mv (.c (.bool false)), none⟩] [] [0])
  .ret)
  .skip))
  (.seq (.reg false [⟨some 4, .mv (.c (.int .i64 1)), none⟩] [] [2, 3, 4])
  (.seq (.reg false [⟨some 28, .ld (some 7) (.t 2), none⟩,
    ⟨some 29, .mv (.t 4), none⟩,
    ⟨some 30, .call 8 [.t 28, .t 29], none⟩,
    ⟨some 4, .mv (.t 30), none⟩] [] [3, 4])
  (.seq (.seq (.reg false [⟨some 31, .mv (.t 4), none⟩,
    ⟨some 32, .bin .lss (.t 31) (.c (.int .i64 0)), none⟩] [] [3, 4, 32])
  (.cond (.t 32)
  (.seq (.reg false [⟨some 0, .mv (.c (.bool false)), none⟩] [] [0])
  .ret)
  .skip))
  (.seq (.seq (.reg false [⟨some 33, .mv (.t 4), none⟩,
    ⟨some 34, .mv (.t 3), none⟩,
    ⟨some 35, .bin .neq (.t 33) (.t 34), none⟩] [] [35])
  (.cond (.t 35)
  (.seq (.reg false [⟨some 0, .mv (.c (.bool false)), none⟩] [] [0])
  .ret)
  .skip))
  (.seq (.reg false [⟨some 0, .mv (.c (.bool true)), none⟩] [] [0])
  .ret))))))))))))))))), [(0, none)]⟩
theorem laws_FnExactWorldNew_ok : okFn Try.prog 3 laws_FnExactWorldNew = true := by kernel_rfl
def spec_WorldNew : IFn := ⟨42, (.seq (.reg false [⟨some 0, .new [.nil, .nil, .nil, .int .i64 0, .nil, .nil, .nil], none⟩] [] [0])
  (.seq (.reg false [⟨some 6, .build [.nil] [], none⟩,
    ⟨some 1, .new [.nil], none⟩,
    ⟨none, .st 1 (.t 1) (.t 6), none⟩] [] [0, 1])
  (.seq (.reg false [⟨some 7, .bsl 1 0 [.int .i64 0] [], none⟩,
    ⟨some 2, .mv (.t 7), none⟩] [] [0, 1, 2])
  (.seq (.seq (.reg false [⟨some 3, .mv (.c (.int .i64 0)), none⟩] [] [0, 1, 2, 3])
  (.block 0 (.loop (.seq (.seq (.reg false [⟨some 8, .mv (.t 3), none⟩,
    ⟨some 9, .bin .lss (.t 8) (.c (.int .i64 5)), none⟩] [] [0, 1, 2, 3, 9])
  (.cond (.t 9)
  .skip
  (.exit 0)))
  (.seq (.block 1 (.reg false [⟨some 13, .ld (some 1) (.t 1), none⟩,
    ⟨some 14, .mv (.t 3), none⟩,
    ⟨some 15, .call 9 [.t 13, .t 14], none⟩,
    ⟨some 12, .mv (.t 15), none⟩,
    ⟨some 16, .ext (.t 12) 0, none⟩,
    ⟨some 17, .ext (.t 12) 1, none⟩,
    ⟨none, .st 1 (.t 1) (.t 16), none⟩] [] [0, 1, 2, 3]))
  (.reg false [⟨some 10, .mv (.t 3), none⟩,
    ⟨some 11, .bin .add (.t 10) (.c (.int .i64 1)), none⟩,
    ⟨some 3, .mv (.t 11), none⟩] [] [0, 1, 2, 3]))))))
  (.seq (.seq (.reg false [⟨some 4, .mv (.c (.int .i64 0)), none⟩] [] [0, 1, 2, 4])
  (.block 2 (.loop (.seq (.seq (.reg false [⟨some 18, .mv (.t 4), none⟩,
    ⟨some 19, .bin .lss (.t 18) (.c (.int .i64 5)), none⟩] [] [0, 1, 2, 4, 19])
  (.cond (.t 19)
  .skip
  (.exit 2)))
  (.seq (.block 3 (.seq (.reg false [⟨some 5, .mv (.c (.int .i64 (-1))), none⟩] [] [0, 1, 2, 4])
  (.seq (.reg true [⟨some 23, .ld (some 1) (.t 1), none⟩,
    ⟨some 24, .mv (.t 4), none⟩,
    ⟨some 25, .call 10 [.t 24], none⟩,
    ⟨some 26, .call 9 [.t 23, .t 25], none⟩,
    ⟨some 22, .mv (.t 26), none⟩,
    ⟨some 27, .ext (.t 22) 0, none⟩,
    ⟨some 28, .ext (.t 22) 1, none⟩,
    ⟨none, .st 1 (.t 1) (.t 27), none⟩,
    ⟨some 5, .mv (.t 28), none⟩] [0, 0, 2, 7, 15, 31, 31, 63, 255] [0, 1, 2, 4, 5])
  (.seq (.reg false [⟨some 30, .ld (some 1) (.t 1), none⟩,
    ⟨some 31, .mv (.t 5), none⟩,
    ⟨some 32, .build [.int .i64 0, .int .i64 0, .int .i64 0] [(0, 1, .c (.int .i64 7)), (1, 1, .t 31)], none⟩,
    ⟨some 33, .call 11 [.t 30, .t 32], none⟩,
    ⟨some 29, .mv (.t 33), none⟩,
    ⟨some 34, .ext (.t 29) 0, none⟩,
    ⟨some 35, .ext (.t 29) 1, none⟩,
    ⟨none, .st 1 (.t 1) (.t 34), none⟩,
    ⟨some 5, .mv (.t 35), none⟩] [] [0, 1, 2, 4, 5])
  (.reg false [⟨some 36, .mv (.t 2), none⟩,
    ⟨some 37, .mv (.t 5), none⟩,
    ⟨some 38, .call 12 [.t 36, .t 37], none⟩,
    ⟨some 2, .mv (.t 38), none⟩] [] [0, 1, 2, 4])))))
  (.reg false [⟨some 20, .mv (.t 4), none⟩,
    ⟨some 21, .bin .add (.t 20) (.c (.int .i64 1)), none⟩,
    ⟨some 4, .mv (.t 21), none⟩] [] [0, 1, 2, 4]))))))
  (.seq (.reg false [⟨some 39, .ld (some 1) (.t 1), none⟩,
    ⟨some 40, .mv (.t 2), none⟩,
    ⟨some 41, .build [.nil, .nil, .nil, .int .i64 0, .nil, .nil, .nil] [(0, 1, .t 39), (1, 1, .t 40)], none⟩,
    ⟨none, .st 7 (.t 0) (.t 41), none⟩] [] [0])
  .ret)))))), [(0, some (some 7))]⟩
theorem spec_WorldNew_ok : okFn Try.prog 4 spec_WorldNew = true := by kernel_rfl
def impl_WorldNew : IFn := ⟨26, (.seq (.reg false [⟨some 0, .new [.nil, .nil, .nil, .int .i64 0, .nil, .nil, .nil], none⟩] [] [0])
  (.seq (.reg false [⟨some 1, .new [.nil, .nil, .nil, .int .i64 0, .nil, .nil, .nil], none⟩] [] [0, 1])
  (.seq (.seq (.reg false [⟨some 5, .mv (.c (.int .i64 0)), none⟩] [] [0, 1, 5])
  (.block 0 (.loop (.seq (.reg false [⟨some 6, .bin .lss (.t 5) (.c (.int .i64 5)), none⟩] [] [0, 1, 5, 6])
  (.seq (.cond (.t 6)
  .skip
  (.exit 0))
  (.seq (.block 1 (.seq (.reg false [⟨some 7, .mv (.t 5), none⟩,
    ⟨some 2, .mv (.t 7), none⟩] [] [0, 1, 2, 5])
  (.reg false [⟨some 8, .fad 0 (.t 1), none⟩,
    ⟨some 9, .mv (.t 2), none⟩,
    ⟨some 10, .call 13 [.t 8, .t 9], none⟩] [] [0, 1, 5])))
  (.reg false [⟨some 11, .bin .add (.t 5) (.c (.int .i64 1)), none⟩,
    ⟨some 5, .mv (.t 11), none⟩] [] [0, 1, 5])))))))
  (.seq (.seq (.reg false [⟨some 12, .mv (.c (.int .i64 0)), none⟩] [] [0, 1, 12])
  (.block 2 (.loop (.seq (.reg false [⟨some 13, .bin .lss (.t 12) (.c (.int .i64 5)), none⟩] [] [0, 1, 12, 13])
  (.seq (.cond (.t 13)
  .skip
  (.exit 2))
  (.seq (.block 3 (.seq (.reg false [⟨some 14, .mv (.t 12), none⟩,
    ⟨some 3, .mv (.t 14), none⟩] [] [0, 1, 3, 12])
  (.seq (.reg false [⟨some 15, .fad 0 (.t 1), none⟩,
    ⟨some 16, .mv (.t 3), none⟩,
    ⟨some 17, .call 14 [.t 15, .t 16], none⟩,
    ⟨some 4, .mv (.t 17), none⟩] [] [0, 1, 4, 12])
  (.reg false [⟨some 18, .fad 1 (.t 1), none⟩,
    ⟨some 19, .ld none (.t 18), none⟩,
    ⟨some 20, .mv (.t 4), none⟩,
    ⟨some 21, .bsl 1 1 [.int .i64 0] [(0, 1, .t 20)], none⟩,
    ⟨some 22, .app 1 8 (.t 19) (.t 21), none⟩,
    ⟨some 23, .fad 1 (.t 1), none⟩,
    ⟨none, .st 1 (.t 23) (.t 22), none⟩] [] [0, 1, 12]))))
  (.reg false [⟨some 24, .bin .add (.t 12) (.c (.int .i64 1)), none⟩,
    ⟨some 12, .mv (.t 24), none⟩] [] [0, 1, 12])))))))
  (.seq (.reg false [⟨some 25, .ld (some 7) (.t 1), none⟩,
    ⟨none, .st 7 (.t 0) (.t 25), none⟩] [] [0])
  .ret))))), [(0, some (some 7))]⟩
theorem impl_WorldNew_ok : okFn Try.prog 5 impl_WorldNew = true := by kernel_rfl
def laws_eqWorld : IFn := ⟨46, (.seq (.reg false [⟨some 2, .box (.t 0), none⟩,
    ⟨some 3, .box (.t 1), none⟩,
    ⟨some 4, .mv (.c (.bool false)), none⟩] [] [2, 3])
  (.seq (.seq (.reg false [⟨some 5, .fad 0 (.t 2), none⟩,
    ⟨some 6, .ld (some 1) (.t 5), none⟩,
    ⟨some 7, .fad 0 (.t 3), none⟩,
    ⟨some 8, .ld (some 1) (.t 7), none⟩,
    ⟨some 9, .call 15 [.t 6, .t 8], none⟩,
    ⟨some 10, .not (.t 9), none⟩] [] [2, 3, 10])
  (.cond (.t 10)
  (.seq (.reg false [⟨some 4, .mv (.c (.bool false)), none⟩] [] [4])
  .ret)
  .skip))
  (.seq (.seq (.reg false [⟨some 11, .fad 1 (.t 2), none⟩,
    ⟨some 12, .ld none (.t 11), none⟩,
    ⟨some 13, .fad 1 (.t 3), none⟩,
    ⟨some 14, .ld none (.t 13), none⟩,
    ⟨some 15, .call 16 [.t 12, .t 14], none⟩,
    ⟨some 16, .not (.t 15), none⟩] [] [2, 3, 16])
  (.cond (.t 16)
  (.seq (.reg false [⟨some 4, .mv (.c (.bool false)), none⟩] [] [4])
  .ret)
  .skip))
  (.seq (.seq (.reg false [⟨some 17, .fad 2 (.t 2), none⟩,
    ⟨some 18, .ld none (.t 17), none⟩,
    ⟨some 19, .fad 2 (.t 3), none⟩,
    ⟨some 20, .ld none (.t 19), none⟩,
    ⟨some 21, .call 17 [.t 18, .t 20], none⟩,
    ⟨some 22, .not (.t 21), none⟩] [] [2, 3, 22])
  (.cond (.t 22)
  (.seq (.reg false [⟨some 4, .mv (.c (.bool false)), none⟩] [] [4])
  .ret)
  .skip))
  (.seq (.seq (.reg false [⟨some 23, .fad 3 (.t 2), none⟩,
    ⟨some 24, .ld none (.t 23), none⟩,
    ⟨some 25, .fad 3 (.t 3), none⟩,
    ⟨some 26, .ld none (.t 25), none⟩,
    ⟨some 27, .bin .neq (.t 24) (.t 26), none⟩] [] [2, 3, 27])
  (.cond (.t 27)
  (.seq (.reg false [⟨some 4, .mv (.c (.bool false)), none⟩] [] [4])
  .ret)
  .skip))
  (.seq (.seq (.reg false [⟨some 28, .fad 4 (.t 2), none⟩,
    ⟨some 29, .ld none (.t 28), none⟩,
    ⟨some 30, .fad 4 (.t 3), none⟩,
    ⟨some 31, .ld none (.t 30), none⟩,
    ⟨some 32, .call 16 [.t 29, .t 31], none⟩,
    ⟨some 33, .not (.t 32), none⟩] [] [2, 3, 33])
  (.cond (.t 33)
  (.seq (.reg false [⟨some 4, .mv (.c (.bool false)), none⟩] [] [4])
  .ret)
  .skip))
  (.seq (.seq (.reg false [⟨some 34, .fad 5 (.t 2), none⟩,
    ⟨some 35, .ld none (.t 34), none⟩,
    ⟨some 36, .fad 5 (.t 3), none⟩,
    ⟨some 37, .ld none (.t 36), none⟩,
    ⟨some 38, .call 16 [.t 35, .t 37], none⟩,
    ⟨some 39, .not (.t 38), none⟩] [] [2, 3, 39])
  (.cond (.t 39)
  (.seq (.reg false [⟨some 4, .mv (.c (.bool false)), none⟩] [] [4])
  .ret)
  .skip))
  (.seq (.seq (.reg false [⟨some 40, .fad 6 (.t 2), none⟩,
    ⟨some 41, .ld none (.t 40), none⟩,
    ⟨some 42, .fad 6 (.t 3), none⟩,
    ⟨some 43, .ld none (.t 42), none⟩,
    ⟨some 44, .call 18 [.t 41, .t 43], none⟩,
    ⟨some 45, .not (.t 44), none⟩] [] [45])
  (.cond (.t 45)
  (.seq (.reg false [⟨some 4, .mv (.c (.bool false)), none⟩] [] [4])
  .ret)
  .skip))
  (.seq (.reg false [⟨some 4, .mv (.c (.bool true)), none⟩] [] [4])
  .ret))))))))), [(4, none)]⟩
theorem laws_eqWorld_ok : okFn Try.prog 6 laws_eqWorld = true := by kernel_rfl
def laws_markWorld : IFn := ⟨30, (.seq (.reg false [⟨some 2, .box (.t 0), none⟩,
    ⟨some 4, .mv (.c (.int .i64 0)), none⟩] [] [1, 2])
  (.seq (.reg false [⟨some 5, .fad 0 (.t 2), none⟩,
    ⟨some 6, .ld (some 1) (.t 5), none⟩,
    ⟨some 7, .mv (.t 1), none⟩,
    ⟨some 8, .call 19 [.t 6, .t 7], none⟩,
    ⟨some 1, .mv (.t 8), none⟩] [] [1, 2])
  (.seq (.reg false [⟨some 9, .fad 1 (.t 2), none⟩,
    ⟨some 10, .ld none (.t 9), none⟩,
    ⟨some 11, .mv (.t 1), none⟩,
    ⟨some 12, .call 20 [.t 10, .t 11], none⟩,
    ⟨some 1, .mv (.t 12), none⟩] [] [1, 2])
  (.seq (.reg false [⟨some 13, .fad 2 (.t 2), none⟩,
    ⟨some 14, .ld none (.t 13), none⟩,
    ⟨some 15, .mv (.t 1), none⟩,
    ⟨some 16, .call 21 [.t 14, .t 15], none⟩,
    ⟨some 1, .mv (.t 16), none⟩] [] [1, 2])
  (.seq (.reg false [⟨some 17, .fad 4 (.t 2), none⟩,
    ⟨some 18, .ld none (.t 17), none⟩,
    ⟨some 19, .mv (.t 1), none⟩,
    ⟨some 20, .call 20 [.t 18, .t 19], none⟩,
    ⟨some 1, .mv (.t 20), none⟩] [] [1, 2])
  (.seq (.reg false [⟨some 21, .fad 5 (.t 2), none⟩,
    ⟨some 22, .ld none (.t 21), none⟩,
    ⟨some 23, .mv (.t 1), none⟩,
    ⟨some 24, .call 20 [.t 22, .t 23], none⟩,
    ⟨some 1, .mv (.t 24), none⟩] [] [1, 2])
  (.seq (.reg false [⟨some 25, .fad 6 (.t 2), none⟩,
    ⟨some 26, .ld none (.t 25), none⟩,
    ⟨some 27, .mv (.t 1), none⟩,
    ⟨some 28, .call 22 [.t 26, .t 27], none⟩,
    ⟨some 1, .mv (.t 28), none⟩] [] [1])
  (.seq (.reg false [⟨some 29, .mv (.t 1), none⟩,
    ⟨some 4, .mv (.t 29), none⟩] [] [4])
  .ret)))))))), [(4, none)]⟩
theorem laws_markWorld_ok : okFn Try.prog 7 laws_markWorld = true := by kernel_rfl
def laws_heldWorld : IFn := ⟨42, (.seq (.reg false [⟨some 2, .box (.t 0), none⟩,
    ⟨some 4, .mv (.c (.int .i64 0)), none⟩] [] [1, 2])
  (.seq (.reg false [⟨some 5, .fad 0 (.t 2), none⟩,
    ⟨some 6, .ld (some 1) (.t 5), none⟩,
    ⟨some 7, .mv (.t 1), none⟩,
    ⟨some 8, .call 23 [.t 6, .t 7], none⟩,
    ⟨some 1, .mv (.t 8), none⟩] [] [1, 2])
  (.seq (.seq (.reg false [⟨some 9, .mv (.t 1), none⟩,
    ⟨some 10, .bin .lss (.t 9) (.c (.int .i64 0)), none⟩] [] [1, 2, 10])
  (.cond (.t 10)
  (.seq (.reg false [⟨some 4, .mv (.c (.int .i64 (-1))), none⟩] [] [4])
  .ret)
  .skip))
  (.seq (.reg false [⟨some 11, .fad 1 (.t 2), none⟩,
    ⟨some 12, .ld none (.t 11), none⟩,
    ⟨some 13, .mv (.t 1), none⟩,
    ⟨some 14, .call 24 [.t 12, .t 13], none⟩,
    ⟨some 1, .mv (.t 14), none⟩] [] [1, 2])
  (.seq (.seq (.reg false [⟨some 15, .mv (.t 1), none⟩,
    ⟨some 16, .bin .lss (.t 15) (.c (.int .i64 0)), none⟩] [] [1, 2, 16])
  (.cond (.t 16)
  (.seq (.reg false [⟨some 4, .mv (.c (.int .i64 (-1))), none⟩] [] [4])
  .ret)
  .skip))
  (.seq (.reg false [⟨some 17, .fad 2 (.t 2), none⟩,
    ⟨some 18, .ld none (.t 17), none⟩,
    ⟨some 19, .mv (.t 1), none⟩,
    ⟨some 20, .call 25 [.t 18, .t 19], none⟩,
    ⟨some 1, .mv (.t 20), none⟩] [] [1, 2])
  (.seq (.seq (.reg false [⟨some 21, .mv (.t 1), none⟩,
    ⟨some 22, .bin .lss (.t 21) (.c (.int .i64 0)), none⟩] [] [1, 2, 22])
  (.cond (.t 22)
  (.seq (.reg false [⟨some 4, .mv (.c (.int .i64 (-1))), none⟩] [] [4])
  .ret)
  .skip))
  (.seq (.reg false [⟨some 23, .fad 4 (.t 2), none⟩,
    ⟨some 24, .ld none (.t 23), none⟩,
    ⟨some 25, .mv (.t 1), none⟩,
    ⟨some 26, .call 24 [.t 24, .t 25], none⟩,
    ⟨some 1, .mv (.t 26), none⟩] [] [1, 2])
  (.seq (.seq (.reg false [⟨some 27, .mv (.t 1), none⟩,
    ⟨some 28, .bin .lss (.t 27) (.c (.int .i64 0)), none⟩] [] [1, 2, 28])
  (.cond (.t 28)
  (.seq (.reg false [⟨some 4, .mv (.c (.int .i64 (-1))), none⟩] [] [4])
  .ret)
  .skip))
  (.seq (.reg false [⟨some 29, .fad 5 (.t 2), none⟩,
    ⟨some 30, .ld none (.t 29), none⟩,
    ⟨some 31, .mv (.t 1), none⟩,
    ⟨some 32, .call 24 [.t 30, .t 31], none⟩,
    ⟨some 1, .mv (.t 32), none⟩] [] [1, 2])
  (.seq (.seq (.reg false [⟨some 33, .mv (.t 1), none⟩,
    ⟨some 34, .bin .lss (.t 33) (.c (.int .i64 0)), none⟩] [] [1, 2, 34])
  (.cond (.t 34)
  (.seq (.reg false [⟨some 4, .mv (.c (.int .i64 (-1))), none⟩] [] [4])
  .ret)
  .skip))
  (.seq (.reg false [⟨some 35, .fad 6 (.t 2), none⟩,
    ⟨some 36, .ld none (.t 35), none⟩,
    ⟨some 37, .mv (.t 1), none⟩,
    ⟨some 38, .call 26 [.t 36, .t 37], none⟩,
    ⟨some 1, .mv (.t 38), none⟩] [] [1])
  (.seq (.seq (.reg false [⟨some 39, .mv (.t 1), none⟩,
    ⟨some 40, .bin .lss (.t 39) (.c (.int .i64 0)), none⟩] [] [1, 40])
  (.cond (.t 40)
  (.seq (.reg false [⟨some 4, .mv (.c (.int .i64 (-1))), none⟩] [] [4])
  .ret)
  .skip))
  (.seq (.reg false [⟨some 41, .mv (.t 1), none⟩,
    ⟨some 4, .mv (.t 41), none⟩] [] [4])
  .ret)))))))))))))), [(4, none)]⟩
theorem laws_heldWorld_ok : okFn Try.prog 8 laws_heldWorld = true := by kernel_rfl
def spec_l2Name : IFn := ⟨12, (.seq (.reg false [⟨some 2, .box (.t 0), none⟩,
    ⟨some 4, .new [.nil], none⟩,
    ⟨some 5, .mv (.c (.int .i64 0)), none⟩] [] [1, 2, 4])
  (.seq (.reg false [⟨some 6, .ld (some 1) (.t 2), none⟩,
    ⟨some 7, .mv (.t 1), none⟩,
    ⟨some 8, .build [.int .i64 0, .int .i64 0, .int .i64 0] [(0, 1, .c (.int .i64 1)), (1, 1, .t 7)], none⟩,
    ⟨some 9, .call 11 [.t 6, .t 8], none⟩,
    ⟨some 10, .ext (.t 9) 0, none⟩,
    ⟨some 11, .ext (.t 9) 1, none⟩,
    ⟨none, .st 1 (.t 4) (.t 10), none⟩,
    ⟨some 5, .mv (.t 11), none⟩] [] [4, 5])
  .ret)), [(4, some (some 1)), (5, none)]⟩
theorem spec_l2Name_ok : okFn Try.prog 9 spec_l2Name = true := by kernel_rfl
def spec_StaticKey : IFn := ⟨8, (.seq (.reg false [⟨some 2, .mv (.c (.int .i64 0)), none⟩] [] [0])
  (.seq (.seq (.reg false [⟨some 3, .mv (.t 0), none⟩,
    ⟨some 4, .call 27 [.t 3], none⟩,
    ⟨some 5, .not (.t 4), none⟩] [] [0, 5])
  (.cond (.t 5)
  (.seq (.reg false [⟨some 2, .mv (.c (.int .i64 (-1))), none⟩] [] [2])
  .ret)
  .skip))
  (.seq (.reg false [⟨some 6, .mv (.t 0), none⟩,
    ⟨some 7, .bin .add (.c (.int .i64 90)) (.t 6), none⟩,
    ⟨some 2, .mv (.t 7), none⟩] [] [2])
  .ret))), [(2, none)]⟩
theorem spec_StaticKey_ok : okFn Try.prog 10 spec_StaticKey = true := by kernel_rfl
def spec_l1Add : IFn := ⟨57, (.seq (.reg false [⟨some 2, .box (.t 0), none⟩,
    ⟨some 3, .box (.t 1), none⟩,
    ⟨some 4, .new [.nil], none⟩,
    ⟨some 5, .mv (.c (.int .i64 0)), none⟩] [] [2, 3, 4])
  (.seq (.seq (.reg false [⟨some 8, .fad 0 (.t 3), none⟩,
    ⟨some 9, .ld none (.t 8), none⟩,
    ⟨some 10, .bin .eql (.t 9) (.c (.int .i64 8)), none⟩,
    ⟨some 11, .mv (.t 10), none⟩,
    ⟨some 12, .fad 1 (.t 3), some (11, true)⟩,
    ⟨some 13, .ld none (.t 12), some (11, true)⟩,
    ⟨some 14, .fad 2 (.t 3), some (11, true)⟩,
    ⟨some 15, .ld none (.t 14), some (11, true)⟩,
    ⟨some 16, .bin .gtr (.t 13) (.t 15), some (11, true)⟩,
    ⟨some 17, .pick (.t 11) (.t 16) (.c (.bool false)), none⟩] [] [2, 3, 4, 17])
  (.cond (.t 17)
  (.reg false [⟨some 18, .fad 0 (.t 3), none⟩,
    ⟨some 19, .ld none (.t 18), none⟩,
    ⟨some 20, .fad 2 (.t 3), none⟩,
    ⟨some 21, .ld none (.t 20), none⟩,
    ⟨some 22, .fad 1 (.t 3), none⟩,
    ⟨some 23, .ld none (.t 22), none⟩,
    ⟨some 24, .build [.int .i64 0, .int .i64 0, .int .i64 0] [(0, 1, .t 19), (1, 1, .t 21), (2, 1, .t 23)], none⟩,
    ⟨none, .st 3 (.t 3) (.t 24), none⟩] [] [2, 3, 4])
  .skip))
  (.seq (.reg false [⟨some 25, .ld (some 1) (.t 2), none⟩,
    ⟨some 26, .ld (some 3) (.t 3), none⟩,
    ⟨some 27, .call 28 [.t 25, .t 26], none⟩,
    ⟨some 6, .mv (.t 27), none⟩] [] [2, 3, 4, 6])
  (.seq (.seq (.reg false [⟨some 28, .mv (.t 6), none⟩,
    ⟨some 29, .bin .geq (.t 28) (.c (.int .i64 0)), none⟩] [] [2, 3, 4, 6, 29])
  (.cond (.t 29)
  (.seq (.reg false [⟨some 30, .ld (some 1) (.t 2), none⟩,
    ⟨some 31, .mv (.t 6), none⟩,
    ⟨none, .st 1 (.t 4) (.t 30), none⟩,
    ⟨some 5, .mv (.t 31), none⟩] [] [4, 5])
  .ret)
  .skip))
  (.seq (.seq (.reg false [⟨some 32, .ld (some 3) (.t 3), none⟩,
    ⟨some 33, .fad 0 (.t 2), none⟩,
    ⟨some 34, .ld none (.t 33), none⟩,
    ⟨some 35, .len false (.t 34), none⟩,
    ⟨some 36, .call 29 [.t 32, .t 35], none⟩,
    ⟨some 37, .not (.t 36), none⟩,
    ⟨some 38, .mv (.t 37), none⟩,
    ⟨some 39, .fad 0 (.t 2), some (38, false)⟩,
    ⟨some 40, .ld none (.t 39), some (38, false)⟩,
    ⟨some 41, .len false (.t 40), some (38, false)⟩,
    ⟨some 42, .bin .eql (.t 41) (.c (.int .i64 500)), some (38, false)⟩,
    ⟨some 43, .pick (.t 38) (.c (.bool true)) (.t 42), none⟩] [] [2, 3, 4, 43])
  (.cond (.t 43)
  (.seq (.reg false [⟨some 44, .ld (some 1) (.t 2), none⟩,
    ⟨none, .st 1 (.t 4) (.t 44), none⟩,
    ⟨some 5, .mv (.c (.int .i64 (-1))), none⟩] [] [4, 5])
  .ret)
  .skip))
  (.seq (.reg false [⟨some 45, .ld (some 1) (.t 2), none⟩,
    ⟨some 46, .call 30 [.t 45], none⟩,
    ⟨some 7, .new [.nil], none⟩,
    ⟨none, .st 1 (.t 7) (.t 46), none⟩] [] [2, 3, 4, 7])
  (.seq (.reg false [⟨some 47, .fad 0 (.t 7), none⟩,
    ⟨some 48, .ld none (.t 47), none⟩,
    ⟨some 49, .ld (some 3) (.t 3), none⟩,
    ⟨some 50, .bsl 3 1 [.int .i64 0, .int .i64 0, .int .i64 0] [(0, 3, .t 49)], none⟩,
    ⟨some 51, .app 3 24 (.t 48) (.t 50), none⟩,
    ⟨some 52, .fad 0 (.t 7), none⟩,
    ⟨none, .st 1 (.t 52) (.t 51), none⟩] [] [2, 4, 7])
  (.seq (.reg true [⟨some 53, .ld (some 1) (.t 7), none⟩,
    ⟨some 54, .fad 0 (.t 2), none⟩,
    ⟨some 55, .ld none (.t 54), none⟩,
    ⟨some 56, .len false (.t 55), none⟩,
    ⟨none, .st 1 (.t 4) (.t 53), none⟩,
    ⟨some 5, .mv (.t 56), none⟩] [0, 0, 2, 6, 1, 31] [4, 5])
  .ret)))))))), [(4, some (some 1)), (5, none)]⟩
theorem spec_l1Add_ok : okFn Try.prog 11 spec_l1Add = true := by kernel_rfl
def spec_l6Put : IFn := ⟨46, (.seq (.reg false [⟨some 4, .mv (.c (.nil)), none⟩] [] [0, 1])
  (.seq (.reg false [⟨some 8, .bsl 1 0 [.int .i64 0] [], none⟩,
    ⟨some 5, .mv (.t 8), none⟩] [] [0, 1, 5])
  (.seq (.reg false [⟨some 9, .mv (.t 0), none⟩,
    ⟨some 10, .mv (.t 1), none⟩,
    ⟨some 11, .call 31 [.t 9, .t 10], none⟩,
    ⟨some 6, .mv (.t 11), none⟩] [] [0, 1, 5, 6])
  (.seq (.seq (.reg false [⟨some 7, .mv (.c (.int .i64 0)), none⟩] [] [0, 1, 5, 6, 7])
  (.block 0 (.loop (.seq (.seq (.reg false [⟨some 12, .mv (.t 7), none⟩,
    ⟨some 13, .mv (.t 0), none⟩,
    ⟨some 14, .len false (.t 13), none⟩,
    ⟨some 15, .bin .lss (.t 12) (.t 14), none⟩] [] [0, 1, 5, 6, 7, 15])
  (.cond (.t 15)
  .skip
  (.exit 0)))
  (.seq (.block 1 (.seq (.seq (.reg false [⟨some 18, .mv (.t 6), none⟩,
    ⟨some 19, .not (.t 18), none⟩,
    ⟨some 20, .mv (.t 19), none⟩,
    ⟨some 21, .mv (.t 0), some (20, true)⟩,
    ⟨some 22, .mv (.t 7), some (20, true)⟩,
    ⟨some 23, .iad 1 (.t 21) (.t 22), some (20, true)⟩,
    ⟨some 24, .ld none (.t 23), some (20, true)⟩,
    ⟨some 25, .mv (.t 1), some (20, true)⟩,
    ⟨some 26, .bin .gtr (.t 24) (.t 25), some (20, true)⟩,
    ⟨some 27, .pick (.t 20) (.t 26) (.c (.bool false)), none⟩] [] [0, 1, 5, 6, 7, 27])
  (.cond (.t 27)
  (.seq (.reg false [⟨some 28, .mv (.t 5), none⟩,
    ⟨some 29, .mv (.t 1), none⟩,
    ⟨some 30, .bsl 1 1 [.int .i64 0] [(0, 1, .t 29)], none⟩,
    ⟨some 31, .app 1 8 (.t 28) (.t 30), none⟩,
    ⟨some 5, .mv (.t 31), none⟩] [] [0, 1, 5, 7])
  (.reg false [⟨some 6, .mv (.c (.bool true)), none⟩] [] [0, 1, 5, 6, 7]))
  .skip))
  (.reg false [⟨some 32, .mv (.t 5), none⟩,
    ⟨some 33, .mv (.t 0), none⟩,
    ⟨some 34, .mv (.t 7), none⟩,
    ⟨some 35, .iad 1 (.t 33) (.t 34), none⟩,
    ⟨some 36, .ld none (.t 35), none⟩,
    ⟨some 37, .bsl 1 1 [.int .i64 0] [(0, 1, .t 36)], none⟩,
    ⟨some 38, .app 1 8 (.t 32) (.t 37), none⟩,
    ⟨some 5, .mv (.t 38), none⟩] [] [0, 1, 5, 6, 7])))
  (.reg false [⟨some 16, .mv (.t 7), none⟩,
    ⟨some 17, .bin .add (.t 16) (.c (.int .i64 1)), none⟩,
    ⟨some 7, .mv (.t 17), none⟩] [] [0, 1, 5, 6, 7]))))))
  (.seq (.seq (.reg false [⟨some 39, .mv (.t 6), none⟩,
    ⟨some 40, .not (.t 39), none⟩] [] [1, 5, 40])
  (.cond (.t 40)
  (.reg false [⟨some 41, .mv (.t 5), none⟩,
    ⟨some 42, .mv (.t 1), none⟩,
    ⟨some 43, .bsl 1 1 [.int .i64 0] [(0, 1, .t 42)], none⟩,
    ⟨some 44, .app 1 8 (.t 41) (.t 43), none⟩,
    ⟨some 5, .mv (.t 44), none⟩] [] [5])
  .skip))
  (.seq (.reg false [⟨some 45, .mv (.t 5), none⟩,
    ⟨some 4, .mv (.t 45), none⟩] [] [4])
  .ret)))))), [(4, none)]⟩
theorem spec_l6Put_ok : okFn Try.prog 12 spec_l6Put = true := by kernel_rfl
def impl_Pool_name : IFn := ⟨8, (.seq (.reg false [⟨some 4, .mv (.c (.int .i64 0)), none⟩] [] [0, 1])
  (.seq (.reg false [⟨some 5, .mv (.t 0), none⟩,
    ⟨some 6, .mv (.t 1), none⟩,
    ⟨some 7, .call 32 [.t 5, .c (.int .i64 1), .t 6, .c (.int .i64 0)], none⟩,
    ⟨some 4, .mv (.t 7), none⟩] [] [4])
  .ret)), [(4, none)]⟩
theorem impl_Pool_name_ok : okFn Try.prog 13 impl_Pool_name = true := by kernel_rfl
def impl_Pool_powerOf : IFn := ⟨11, (.seq (.reg false [⟨some 4, .mv (.c (.int .i64 0)), none⟩] [] [0, 1])
  (.seq (.reg false [⟨some 5, .mv (.t 0), none⟩,
    ⟨some 6, .mv (.t 0), none⟩,
    ⟨some 7, .mv (.t 1), none⟩,
    ⟨some 8, .call 33 [.t 7], none⟩,
    ⟨some 9, .call 13 [.t 6, .t 8], none⟩,
    ⟨some 10, .call 32 [.t 5, .c (.int .i64 7), .t 9, .c (.int .i64 0)], none⟩,
    ⟨some 4, .mv (.t 10), none⟩] [] [4])
  .ret)), [(4, none)]⟩
theorem impl_Pool_powerOf_ok : okFn Try.prog 14 impl_Pool_powerOf = true := by kernel_rfl
def laws_eqPool : IFn := ⟨11, (.seq (.reg false [⟨some 2, .box (.t 0), none⟩,
    ⟨some 3, .box (.t 1), none⟩,
    ⟨some 4, .mv (.c (.bool false)), none⟩] [] [2, 3])
  (.seq (.seq (.reg false [⟨some 5, .fad 0 (.t 2), none⟩,
    ⟨some 6, .ld none (.t 5), none⟩,
    ⟨some 7, .fad 0 (.t 3), none⟩,
    ⟨some 8, .ld none (.t 7), none⟩,
    ⟨some 9, .call 34 [.t 6, .t 8], none⟩,
    ⟨some 10, .not (.t 9), none⟩] [] [10])
  (.cond (.t 10)
  (.seq (.reg false [⟨some 4, .mv (.c (.bool false)), none⟩] [] [4])
  .ret)
  .skip))
  (.seq (.reg false [⟨some 4, .mv (.c (.bool true)), none⟩] [] [4])
  .ret))), [(4, none)]⟩
theorem laws_eqPool_ok : okFn Try.prog 15 laws_eqPool = true := by kernel_rfl
def laws_eqIntS : IFn := ⟨26, (.seq (.reg false [⟨some 4, .mv (.c (.bool false)), none⟩] [] [0, 1])
  (.seq (.seq (.reg false [⟨some 6, .mv (.t 0), none⟩,
    ⟨some 7, .len false (.t 6), none⟩,
    ⟨some 8, .mv (.t 1), none⟩,
    ⟨some 9, .len false (.t 8), none⟩,
    ⟨some 10, .bin .neq (.t 7) (.t 9), none⟩] [] [0, 1, 10])
  (.cond (.t 10)
  (.seq (.reg false [⟨some 4, .mv (.c (.bool false)), none⟩] [] [4])
  .ret)
  .skip))
  (.seq (.seq (.reg false [⟨some 5, .mv (.c (.int .i64 0)), none⟩] [] [0, 1, 5])
  (.block 0 (.loop (.seq (.seq (.reg false [⟨some 11, .mv (.t 5), none⟩,
    ⟨some 12, .mv (.t 0), none⟩,
    ⟨some 13, .len false (.t 12), none⟩,
    ⟨some 14, .bin .lss (.t 11) (.t 13), none⟩] [] [0, 1, 5, 14])
  (.cond (.t 14)
  .skip
  (.exit 0)))
  (.seq (.block 1 (.seq (.reg true [⟨some 17, .mv (.t 0), none⟩,
    ⟨some 18, .mv (.t 5), none⟩,
    ⟨some 19, .iad 1 (.t 17) (.t 18), none⟩,
    ⟨some 20, .ld none (.t 19), none⟩,
    ⟨some 21, .mv (.t 1), none⟩,
    ⟨some 22, .mv (.t 5), none⟩,
    ⟨some 23, .iad 1 (.t 21) (.t 22), none⟩,
    ⟨some 24, .ld none (.t 23), none⟩,
    ⟨some 25, .bin .neq (.t 20) (.t 24), none⟩] [0, 0, 3, 7, 0, 0, 48, 112, 255] [0, 1, 5, 25])
  (.cond (.t 25)
  (.seq (.reg false [⟨some 4, .mv (.c (.bool false)), none⟩] [] [4])
  .ret)
  .skip)))
  (.reg false [⟨some 15, .mv (.t 5), none⟩,
    ⟨some 16, .bin .add (.t 15) (.c (.int .i64 1)), none⟩,
    ⟨some 5, .mv (.t 16), none⟩] [] [0, 1, 5]))))))
  (.seq (.reg false [⟨some 4, .mv (.c (.bool true)), none⟩] [] [4])
  .ret)))), [(4, none)]⟩
theorem laws_eqIntS_ok : okFn Try.prog 16 laws_eqIntS = true := by kernel_rfl
def laws_eqInstS : IFn := ⟨27, (.seq (.reg false [⟨some 4, .mv (.c (.bool false)), none⟩] [] [0, 1])
  (.seq (.seq (.reg false [⟨some 6, .mv (.t 0), none⟩,
    ⟨some 7, .len false (.t 6), none⟩,
    ⟨some 8, .mv (.t 1), none⟩,
    ⟨some 9, .len false (.t 8), none⟩,
    ⟨some 10, .bin .neq (.t 7) (.t 9), none⟩] [] [0, 1, 10])
  (.cond (.t 10)
  (.seq (.reg false [⟨some 4, .mv (.c (.bool false)), none⟩] [] [4])
  .ret)
  .skip))
  (.seq (.seq (.reg false [⟨some 5, .mv (.c (.int .i64 0)), none⟩] [] [0, 1, 5])
  (.block 0 (.loop (.seq (.seq (.reg false [⟨some 11, .mv (.t 5), none⟩,
    ⟨some 12, .mv (.t 0), none⟩,
    ⟨some 13, .len false (.t 12), none⟩,
    ⟨some 14, .bin .lss (.t 11) (.t 13), none⟩] [] [0, 1, 5, 14])
  (.cond (.t 14)
  .skip
  (.exit 0)))
  (.seq (.block 1 (.seq (.reg true [⟨some 17, .mv (.t 0), none⟩,
    ⟨some 18, .mv (.t 5), none⟩,
    ⟨some 19, .iad 9 (.t 17) (.t 18), none⟩,
    ⟨some 20, .ld (some 9) (.t 19), none⟩,
    ⟨some 21, .mv (.t 1), none⟩,
    ⟨some 22, .mv (.t 5), none⟩,
    ⟨some 23, .iad 9 (.t 21) (.t 22), none⟩,
    ⟨some 24, .ld (some 9) (.t 23), none⟩,
    ⟨some 25, .call 35 [.t 20, .t 24], none⟩,
    ⟨some 26, .not (.t 25), none⟩] [0, 0, 3, 7, 0, 0, 48, 112, 255, 511] [0, 1, 5, 26])
  (.cond (.t 26)
  (.seq (.reg false [⟨some 4, .mv (.c (.bool false)), none⟩] [] [4])
  .ret)
  .skip)))
  (.reg false [⟨some 15, .mv (.t 5), none⟩,
    ⟨some 16, .bin .add (.t 15) (.c (.int .i64 1)), none⟩,
    ⟨some 5, .mv (.t 16), none⟩] [] [0, 1, 5]))))))
  (.seq (.reg false [⟨some 4, .mv (.c (.bool true)), none⟩] [] [4])
  .ret)))), [(4, none)]⟩
theorem laws_eqInstS_ok : okFn Try.prog 17 laws_eqInstS = true := by kernel_rfl
def laws_eqClaimS : IFn := ⟨27, (.seq (.reg false [⟨some 4, .mv (.c (.bool false)), none⟩] [] [0, 1])
  (.seq (.seq (.reg false [⟨some 6, .mv (.t 0), none⟩,
    ⟨some 7, .len false (.t 6), none⟩,
    ⟨some 8, .mv (.t 1), none⟩,
    ⟨some 9, .len false (.t 8), none⟩,
    ⟨some 10, .bin .neq (.t 7) (.t 9), none⟩] [] [0, 1, 10])
  (.cond (.t 10)
  (.seq (.reg false [⟨some 4, .mv (.c (.bool false)), none⟩] [] [4])
  .ret)
  .skip))
  (.seq (.seq (.reg false [⟨some 5, .mv (.c (.int .i64 0)), none⟩] [] [0, 1, 5])
  (.block 0 (.loop (.seq (.seq (.reg false [⟨some 11, .mv (.t 5), none⟩,
    ⟨some 12, .mv (.t 0), none⟩,
    ⟨some 13, .len false (.t 12), none⟩,
    ⟨some 14, .bin .lss (.t 11) (.t 13), none⟩] [] [0, 1, 5, 14])
  (.cond (.t 14)
  .skip
  (.exit 0)))
  (.seq (.block 1 (.seq (.reg true [⟨some 17, .mv (.t 0), none⟩,
    ⟨some 18, .mv (.t 5), none⟩,
    ⟨some 19, .iad 3 (.t 17) (.t 18), none⟩,
    ⟨some 20, .ld (some 3) (.t 19), none⟩,
    ⟨some 21, .mv (.t 1), none⟩,
    ⟨some 22, .mv (.t 5), none⟩,
    ⟨some 23, .iad 3 (.t 21) (.t 22), none⟩,
    ⟨some 24, .ld (some 3) (.t 23), none⟩,
    ⟨some 25, .call 36 [.t 20, .t 24], none⟩,
    ⟨some 26, .not (.t 25), none⟩] [0, 0, 3, 7, 0, 0, 48, 112, 255, 511] [0, 1, 5, 26])
  (.cond (.t 26)
  (.seq (.reg false [⟨some 4, .mv (.c (.bool false)), none⟩] [] [4])
  .ret)
  .skip)))
  (.reg false [⟨some 15, .mv (.t 5), none⟩,
    ⟨some 16, .bin .add (.t 15) (.c (.int .i64 1)), none⟩,
    ⟨some 5, .mv (.t 16), none⟩] [] [0, 1, 5]))))))
  (.seq (.reg false [⟨some 4, .mv (.c (.bool true)), none⟩] [] [4])
  .ret)))), [(4, none)]⟩
theorem laws_eqClaimS_ok : okFn Try.prog 18 laws_eqClaimS = true := by kernel_rfl
def laws_markPool : IFn := ⟨10, (.seq (.reg false [⟨some 2, .box (.t 0), none⟩,
    ⟨some 4, .mv (.c (.int .i64 0)), none⟩] [] [1, 2])
  (.seq (.reg false [⟨some 5, .fad 0 (.t 2), none⟩,
    ⟨some 6, .ld none (.t 5), none⟩,
    ⟨some 7, .mv (.t 1), none⟩,
    ⟨some 8, .call 37 [.t 6, .t 7], none⟩,
    ⟨some 1, .mv (.t 8), none⟩] [] [1])
  (.seq (.reg false [⟨some 9, .mv (.t 1), none⟩,
    ⟨some 4, .mv (.t 9), none⟩] [] [4])
  .ret))), [(4, none)]⟩
theorem laws_markPool_ok : okFn Try.prog 19 laws_markPool = true := by kernel_rfl
def laws_markIntS : IFn := ⟨19, (.seq (.reg false [⟨some 4, .mv (.c (.int .i64 0)), none⟩] [] [0, 1])
  (.seq (.seq (.reg false [⟨some 5, .mv (.c (.int .i64 0)), none⟩] [] [0, 1, 5])
  (.block 0 (.loop (.seq (.seq (.reg false [⟨some 6, .mv (.t 5), none⟩,
    ⟨some 7, .mv (.t 0), none⟩,
    ⟨some 8, .len false (.t 7), none⟩,
    ⟨some 9, .bin .lss (.t 6) (.t 8), none⟩] [] [0, 1, 5, 9])
  (.cond (.t 9)
  .skip
  (.exit 0)))
  (.seq (.block 1 (.seq (.reg false [⟨some 12, .mv (.t 0), none⟩,
    ⟨some 13, .mv (.t 5), none⟩,
    ⟨some 14, .mv (.t 1), none⟩,
    ⟨some 15, .iad 1 (.t 12) (.t 13), none⟩,
    ⟨none, .st 1 (.t 15) (.t 14), none⟩] [] [0, 1, 5])
  (.reg false [⟨some 16, .mv (.t 1), none⟩,
    ⟨some 17, .bin .add (.t 16) (.c (.int .i64 1)), none⟩,
    ⟨some 1, .mv (.t 17), none⟩] [] [0, 1, 5])))
  (.reg false [⟨some 10, .mv (.t 5), none⟩,
    ⟨some 11, .bin .add (.t 10) (.c (.int .i64 1)), none⟩,
    ⟨some 5, .mv (.t 11), none⟩] [] [0, 1, 5]))))))
  (.seq (.reg false [⟨some 18, .mv (.t 1), none⟩,
    ⟨some 4, .mv (.t 18), none⟩] [] [4])
  .ret))), [(4, none)]⟩
theorem laws_markIntS_ok : okFn Try.prog 20 laws_markIntS = true := by kernel_rfl
def laws_markInstS : IFn := ⟨80, (.seq (.reg false [⟨some 4, .mv (.c (.int .i64 0)), none⟩] [] [0, 1])
  (.seq (.seq (.reg false [⟨some 5, .mv (.c (.int .i64 0)), none⟩] [] [0, 1, 5])
  (.block 0 (.loop (.seq (.seq (.reg false [⟨some 6, .mv (.t 5), none⟩,
    ⟨some 7, .mv (.t 0), none⟩,
    ⟨some 8, .len false (.t 7), none⟩,
    ⟨some 9, .bin .lss (.t 6) (.t 8), none⟩] [] [0, 1, 5, 9])
  (.cond (.t 9)
  .skip
  (.exit 0)))
  (.seq (.block 1 (.seq (.reg false [⟨some 12, .mv (.t 0), none⟩,
    ⟨some 13, .mv (.t 5), none⟩,
    ⟨some 14, .mv (.t 1), none⟩,
    ⟨some 15, .iad 9 (.t 12) (.t 13), none⟩,
    ⟨some 16, .fad 0 (.t 15), none⟩,
    ⟨none, .st 1 (.t 16) (.t 14), none⟩] [] [0, 1, 5])
  (.seq (.reg false [⟨some 17, .mv (.t 1), none⟩,
    ⟨some 18, .bin .add (.t 17) (.c (.int .i64 1)), none⟩,
    ⟨some 1, .mv (.t 18), none⟩] [] [0, 1, 5])
  (.seq (.reg false [⟨some 19, .mv (.t 0), none⟩,
    ⟨some 20, .mv (.t 5), none⟩,
    ⟨some 21, .mv (.t 1), none⟩,
    ⟨some 22, .iad 9 (.t 19) (.t 20), none⟩,
    ⟨some 23, .fad 1 (.t 22), none⟩,
    ⟨none, .st 1 (.t 23) (.t 21), none⟩] [] [0, 1, 5])
  (.seq (.reg false [⟨some 24, .mv (.t 1), none⟩,
    ⟨some 25, .bin .add (.t 24) (.c (.int .i64 1)), none⟩,
    ⟨some 1, .mv (.t 25), none⟩] [] [0, 1, 5])
  (.seq (.reg false [⟨some 26, .mv (.t 0), none⟩,
    ⟨some 27, .mv (.t 5), none⟩,
    ⟨some 28, .mv (.t 1), none⟩,
    ⟨some 29, .iad 9 (.t 26) (.t 27), none⟩,
    ⟨some 30, .fad 2 (.t 29), none⟩,
    ⟨none, .st 1 (.t 30) (.t 28), none⟩] [] [0, 1, 5])
  (.seq (.reg false [⟨some 31, .mv (.t 1), none⟩,
    ⟨some 32, .bin .add (.t 31) (.c (.int .i64 1)), none⟩,
    ⟨some 1, .mv (.t 32), none⟩] [] [0, 1, 5])
  (.seq (.reg false [⟨some 33, .mv (.t 0), none⟩,
    ⟨some 34, .mv (.t 5), none⟩,
    ⟨some 35, .mv (.t 1), none⟩,
    ⟨some 36, .iad 9 (.t 33) (.t 34), none⟩,
    ⟨some 37, .fad 3 (.t 36), none⟩,
    ⟨none, .st 1 (.t 37) (.t 35), none⟩] [] [0, 1, 5])
  (.seq (.reg false [⟨some 38, .mv (.t 1), none⟩,
    ⟨some 39, .bin .add (.t 38) (.c (.int .i64 1)), none⟩,
    ⟨some 1, .mv (.t 39), none⟩] [] [0, 1, 5])
  (.seq (.reg false [⟨some 40, .mv (.t 0), none⟩,
    ⟨some 41, .mv (.t 5), none⟩,
    ⟨some 42, .mv (.t 1), none⟩,
    ⟨some 43, .iad 9 (.t 40) (.t 41), none⟩,
    ⟨some 44, .fad 4 (.t 43), none⟩,
    ⟨none, .st 1 (.t 44) (.t 42), none⟩] [] [0, 1, 5])
  (.seq (.reg false [⟨some 45, .mv (.t 1), none⟩,
    ⟨some 46, .bin .add (.t 45) (.c (.int .i64 1)), none⟩,
    ⟨some 1, .mv (.t 46), none⟩] [] [0, 1, 5])
  (.seq (.reg false [⟨some 47, .mv (.t 0), none⟩,
    ⟨some 48, .mv (.t 5), none⟩,
    ⟨some 49, .iad 9 (.t 47) (.t 48), none⟩,
    ⟨some 50, .fad 5 (.t 49), none⟩,
    ⟨some 51, .ld none (.t 50), none⟩,
    ⟨some 52, .mv (.t 1), none⟩,
    ⟨some 53, .call 20 [.t 51, .t 52], none⟩,
    ⟨some 1, .mv (.t 53), none⟩] [] [0, 1, 5])
  (.seq (.reg false [⟨some 54, .mv (.t 0), none⟩,
    ⟨some 55, .mv (.t 5), none⟩,
    ⟨some 56, .mv (.t 1), none⟩,
    ⟨some 57, .bin .rem (.t 56) (.c (.int .i64 3)), none⟩,
    ⟨some 58, .bin .eql (.t 57) (.c (.int .i64 0)), none⟩,
    ⟨some 59, .iad 9 (.t 54) (.t 55), none⟩,
    ⟨some 60, .fad 6 (.t 59), none⟩,
    ⟨none, .st 1 (.t 60) (.t 58), none⟩] [] [0, 1, 5])
  (.seq (.reg false [⟨some 61, .mv (.t 1), none⟩,
    ⟨some 62, .bin .add (.t 61) (.c (.int .i64 1)), none⟩,
    ⟨some 1, .mv (.t 62), none⟩] [] [0, 1, 5])
  (.seq (.reg false [⟨some 63, .mv (.t 0), none⟩,
    ⟨some 64, .mv (.t 5), none⟩,
    ⟨some 65, .mv (.t 1), none⟩,
    ⟨some 66, .bin .rem (.t 65) (.c (.int .i64 3)), none⟩,
    ⟨some 67, .bin .eql (.t 66) (.c (.int .i64 0)), none⟩,
    ⟨some 68, .iad 9 (.t 63) (.t 64), none⟩,
    ⟨some 69, .fad 7 (.t 68), none⟩,
    ⟨none, .st 1 (.t 69) (.t 67), none⟩] [] [0, 1, 5])
  (.seq (.reg false [⟨some 70, .mv (.t 1), none⟩,
    ⟨some 71, .bin .add (.t 70) (.c (.int .i64 1)), none⟩,
    ⟨some 1, .mv (.t 71), none⟩] [] [0, 1, 5])
  (.seq (.reg false [⟨some 72, .mv (.t 0), none⟩,
    ⟨some 73, .mv (.t 5), none⟩,
    ⟨some 74, .mv (.t 1), none⟩,
    ⟨some 75, .iad 9 (.t 72) (.t 73), none⟩,
    ⟨some 76, .fad 8 (.t 75), none⟩,
    ⟨none, .st 1 (.t 76) (.t 74), none⟩] [] [0, 1, 5])
  (.reg false [⟨some 77, .mv (.t 1), none⟩,
    ⟨some 78, .bin .add (.t 77) (.c (.int .i64 1)), none⟩,
    ⟨some 1, .mv (.t 78), none⟩] [] [0, 1, 5]))))))))))))))))))
  (.reg false [⟨some 10, .mv (.t 5), none⟩,
    ⟨some 11, .bin .add (.t 10) (.c (.int .i64 1)), none⟩,
    ⟨some 5, .mv (.t 11), none⟩] [] [0, 1, 5]))))))
  (.seq (.reg false [⟨some 79, .mv (.t 1), none⟩,
    ⟨some 4, .mv (.t 79), none⟩] [] [4])
  .ret))), [(4, none)]⟩
theorem laws_markInstS_ok : okFn Try.prog 21 laws_markInstS = true := by kernel_rfl
def laws_markClaimS : IFn := ⟨38, (.seq (.reg false [⟨some 4, .mv (.c (.int .i64 0)), none⟩] [] [0, 1])
  (.seq (.seq (.reg false [⟨some 5, .mv (.c (.int .i64 0)), none⟩] [] [0, 1, 5])
  (.block 0 (.loop (.seq (.seq (.reg false [⟨some 6, .mv (.t 5), none⟩,
    ⟨some 7, .mv (.t 0), none⟩,
    ⟨some 8, .len false (.t 7), none⟩,
    ⟨some 9, .bin .lss (.t 6) (.t 8), none⟩] [] [0, 1, 5, 9])
  (.cond (.t 9)
  .skip
  (.exit 0)))
  (.seq (.block 1 (.seq (.reg false [⟨some 12, .mv (.t 0), none⟩,
    ⟨some 13, .mv (.t 5), none⟩,
    ⟨some 14, .mv (.t 1), none⟩,
    ⟨some 15, .iad 3 (.t 12) (.t 13), none⟩,
    ⟨some 16, .fad 0 (.t 15), none⟩,
    ⟨none, .st 1 (.t 16) (.t 14), none⟩] [] [0, 1, 5])
  (.seq (.reg false [⟨some 17, .mv (.t 1), none⟩,
    ⟨some 18, .bin .add (.t 17) (.c (.int .i64 1)), none⟩,
    ⟨some 1, .mv (.t 18), none⟩] [] [0, 1, 5])
  (.seq (.reg false [⟨some 19, .mv (.t 0), none⟩,
    ⟨some 20, .mv (.t 5), none⟩,
    ⟨some 21, .mv (.t 1), none⟩,
    ⟨some 22, .bin .rem (.t 21) (.c (.int .i64 3)), none⟩,
    ⟨some 23, .bin .eql (.t 22) (.c (.int .i64 0)), none⟩,
    ⟨some 24, .iad 3 (.t 19) (.t 20), none⟩,
    ⟨some 25, .fad 1 (.t 24), none⟩,
    ⟨none, .st 1 (.t 25) (.t 23), none⟩] [] [0, 1, 5])
  (.seq (.reg false [⟨some 26, .mv (.t 1), none⟩,
    ⟨some 27, .bin .add (.t 26) (.c (.int .i64 1)), none⟩,
    ⟨some 1, .mv (.t 27), none⟩] [] [0, 1, 5])
  (.seq (.reg false [⟨some 28, .mv (.t 0), none⟩,
    ⟨some 29, .mv (.t 5), none⟩,
    ⟨some 30, .mv (.t 1), none⟩,
    ⟨some 31, .bin .rem (.t 30) (.c (.int .i64 3)), none⟩,
    ⟨some 32, .bin .eql (.t 31) (.c (.int .i64 0)), none⟩,
    ⟨some 33, .iad 3 (.t 28) (.t 29), none⟩,
    ⟨some 34, .fad 2 (.t 33), none⟩,
    ⟨none, .st 1 (.t 34) (.t 32), none⟩] [] [0, 1, 5])
  (.reg false [⟨some 35, .mv (.t 1), none⟩,
    ⟨some 36, .bin .add (.t 35) (.c (.int .i64 1)), none⟩,
    ⟨some 1, .mv (.t 36), none⟩] [] [0, 1, 5])))))))
  (.reg false [⟨some 10, .mv (.t 5), none⟩,
    ⟨some 11, .bin .add (.t 10) (.c (.int .i64 1)), none⟩,
    ⟨some 5, .mv (.t 11), none⟩] [] [0, 1, 5]))))))
  (.seq (.reg false [⟨some 37, .mv (.t 1), none⟩,
    ⟨some 4, .mv (.t 37), none⟩] [] [4])
  .ret))), [(4, none)]⟩
theorem laws_markClaimS_ok : okFn Try.prog 22 laws_markClaimS = true := by kernel_rfl
def laws_heldPool : IFn := ⟨12, (.seq (.reg false [⟨some 2, .box (.t 0), none⟩,
    ⟨some 4, .mv (.c (.int .i64 0)), none⟩] [] [1, 2])
  (.seq (.reg false [⟨some 5, .fad 0 (.t 2), none⟩,
    ⟨some 6, .ld none (.t 5), none⟩,
    ⟨some 7, .mv (.t 1), none⟩,
    ⟨some 8, .call 38 [.t 6, .t 7], none⟩,
    ⟨some 1, .mv (.t 8), none⟩] [] [1])
  (.seq (.seq (.reg false [⟨some 9, .mv (.t 1), none⟩,
    ⟨some 10, .bin .lss (.t 9) (.c (.int .i64 0)), none⟩] [] [1, 10])
  (.cond (.t 10)
  (.seq (.reg false [⟨some 4, .mv (.c (.int .i64 (-1))), none⟩] [] [4])
  .ret)
  .skip))
  (.seq (.reg false [⟨some 11, .mv (.t 1), none⟩,
    ⟨some 4, .mv (.t 11), none⟩] [] [4])
  .ret)))), [(4, none)]⟩
theorem laws_heldPool_ok : okFn Try.prog 23 laws_heldPool = true := by kernel_rfl
def laws_heldIntS : IFn := ⟨21, (.seq (.reg false [⟨some 4, .mv (.c (.int .i64 0)), none⟩] [] [0, 1])
  (.seq (.seq (.reg false [⟨some 5, .mv (.c (.int .i64 0)), none⟩] [] [0, 1, 5])
  (.block 0 (.loop (.seq (.seq (.reg false [⟨some 6, .mv (.t 5), none⟩,
    ⟨some 7, .mv (.t 0), none⟩,
    ⟨some 8, .len false (.t 7), none⟩,
    ⟨some 9, .bin .lss (.t 6) (.t 8), none⟩] [] [0, 1, 5, 9])
  (.cond (.t 9)
  .skip
  (.exit 0)))
  (.seq (.block 1 (.seq (.seq (.reg false [⟨some 12, .mv (.t 0), none⟩,
    ⟨some 13, .mv (.t 5), none⟩,
    ⟨some 14, .iad 1 (.t 12) (.t 13), none⟩,
    ⟨some 15, .ld none (.t 14), none⟩,
    ⟨some 16, .mv (.t 1), none⟩,
    ⟨some 17, .bin .neq (.t 15) (.t 16), none⟩] [] [0, 1, 5, 17])
  (.cond (.t 17)
  (.seq (.reg false [⟨some 4, .mv (.c (.int .i64 (-1))), none⟩] [] [4])
  .ret)
  .skip))
  (.reg false [⟨some 18, .mv (.t 1), none⟩,
    ⟨some 19, .bin .add (.t 18) (.c (.int .i64 1)), none⟩,
    ⟨some 1, .mv (.t 19), none⟩] [] [0, 1, 5])))
  (.reg false [⟨some 10, .mv (.t 5), none⟩,
    ⟨some 11, .bin .add (.t 10) (.c (.int .i64 1)), none⟩,
    ⟨some 5, .mv (.t 11), none⟩] [] [0, 1, 5]))))))
  (.seq (.reg false [⟨some 20, .mv (.t 1), none⟩,
    ⟨some 4, .mv (.t 20), none⟩] [] [4])
  .ret))), [(4, none)]⟩
theorem laws_heldIntS_ok : okFn Try.prog 24 laws_heldIntS = true := by kernel_rfl
def laws_heldInstS : IFn := ⟨98, (.seq (.reg false [⟨some 4, .mv (.c (.int .i64 0)), none⟩] [] [0, 1])
  (.seq (.seq (.reg false [⟨some 5, .mv (.c (.int .i64 0)), none⟩] [] [0, 1, 5])
  (.block 0 (.loop (.seq (.seq (.reg false [⟨some 6, .mv (.t 5), none⟩,
    ⟨some 7, .mv (.t 0), none⟩,
    ⟨some 8, .len false (.t 7), none⟩,
    ⟨some 9, .bin .lss (.t 6) (.t 8), none⟩] [] [0, 1, 5, 9])
  (.cond (.t 9)
  .skip
  (.exit 0)))
  (.seq (.block 1 (.seq (.seq (.reg false [⟨some 12, .mv (.t 0), none⟩,
    ⟨some 13, .mv (.t 5), none⟩,
    ⟨some 14, .iad 9 (.t 12) (.t 13), none⟩,
    ⟨some 15, .fad 0 (.t 14), none⟩,
    ⟨some 16, .ld none (.t 15), none⟩,
    ⟨some 17, .mv (.t 1), none⟩,
    ⟨some 18, .bin .neq (.t 16) (.t 17), none⟩] [] [0, 1, 5, 18])
  (.cond (.t 18)
  (.seq (.reg false [⟨some 4, .mv (.c (.int .i64 (-1))), none⟩] [] [4])
  .ret)
  .skip))
  (.seq (.reg false [⟨some 19, .mv (.t 1), none⟩,
    ⟨some 20, .bin .add (.t 19) (.c (.int .i64 1)), none⟩,
    ⟨some 1, .mv (.t 20), none⟩] [] [0, 1, 5])
  (.seq (.seq (.reg false [⟨some 21, .mv (.t 0), none⟩,
    ⟨some 22, .mv (.t 5), none⟩,
    ⟨some 23, .iad 9 (.t 21) (.t 22), none⟩,
    ⟨some 24, .fad 1 (.t 23), none⟩,
    ⟨some 25, .ld none (.t 24), none⟩,
    ⟨some 26, .mv (.t 1), none⟩,
    ⟨some 27, .bin .neq (.t 25) (.t 26), none⟩] [] [0, 1, 5, 27])
  (.cond (.t 27)
  (.seq (.reg false [⟨some 4, .mv (.c (.int .i64 (-1))), none⟩] [] [4])
  .ret)
  .skip))
  (.seq (.reg false [⟨some 28, .mv (.t 1), none⟩,
    ⟨some 29, .bin .add (.t 28) (.c (.int .i64 1)), none⟩,
    ⟨some 1, .mv (.t 29), none⟩] [] [0, 1, 5])
  (.seq (.seq (.reg false [⟨some 30, .mv (.t 0), none⟩,
    ⟨some 31, .mv (.t 5), none⟩,
    ⟨some 32, .iad 9 (.t 30) (.t 31), none⟩,
    ⟨some 33, .fad 2 (.t 32), none⟩,
    ⟨some 34, .ld none (.t 33), none⟩,
    ⟨some 35, .mv (.t 1), none⟩,
    ⟨some 36, .bin .neq (.t 34) (.t 35), none⟩] [] [0, 1, 5, 36])
  (.cond (.t 36)
  (.seq (.reg false [⟨some 4, .mv (.c (.int .i64 (-1))), none⟩] [] [4])
  .ret)
  .skip))
  (.seq (.reg false [⟨some 37, .mv (.t 1), none⟩,
    ⟨some 38, .bin .add (.t 37) (.c (.int .i64 1)), none⟩,
    ⟨some 1, .mv (.t 38), none⟩] [] [0, 1, 5])
  (.seq (.seq (.reg false [⟨some 39, .mv (.t 0), none⟩,
    ⟨some 40, .mv (.t 5), none⟩,
    ⟨some 41, .iad 9 (.t 39) (.t 40), none⟩,
    ⟨some 42, .fad 3 (.t 41), none⟩,
    ⟨some 43, .ld none (.t 42), none⟩,
    ⟨some 44, .mv (.t 1), none⟩,
    ⟨some 45, .bin .neq (.t 43) (.t 44), none⟩] [] [0, 1, 5, 45])
  (.cond (.t 45)
  (.seq (.reg false [⟨some 4, .mv (.c (.int .i64 (-1))), none⟩] [] [4])
  .ret)
  .skip))
  (.seq (.reg false [⟨some 46, .mv (.t 1), none⟩,
    ⟨some 47, .bin .add (.t 46) (.c (.int .i64 1)), none⟩,
    ⟨some 1, .mv (.t 47), none⟩] [] [0, 1, 5])
  (.seq (.seq (.reg false [⟨some 48, .mv (.t 0), none⟩,
    ⟨some 49, .mv (.t 5), none⟩,
    ⟨some 50, .iad 9 (.t 48) (.t 49), none⟩,
    ⟨some 51, .fad 4 (.t 50), none⟩,
    ⟨some 52, .ld none (.t 51), none⟩,
    ⟨some 53, .mv (.t 1), none⟩,
    ⟨some 54, .bin .neq (.t 52) (.t 53), none⟩] [] [0, 1, 5, 54])
  (.cond (.t 54)
  (.seq (.reg false [⟨some 4, .mv (.c (.int .i64 (-1))), none⟩] [] [4])
  .ret)
  .skip))
  (.seq (.reg false [⟨some 55, .mv (.t 1), none⟩,
    ⟨some 56, .bin .add (.t 55) (.c (.int .i64 1)), none⟩,
    ⟨some 1, .mv (.t 56), none⟩] [] [0, 1, 5])
  (.seq (.reg false [⟨some 57, .mv (.t 0), none⟩,
    ⟨some 58, .mv (.t 5), none⟩,
    ⟨some 59, .iad 9 (.t 57) (.t 58), none⟩,
    ⟨some 60, .fad 5 (.t 59), none⟩,
    ⟨some 61, .ld none (.t 60), none⟩,
    ⟨some 62, .mv (.t 1), none⟩,
    ⟨some 63, .call 24 [.t 61, .t 62], none⟩,
    ⟨some 1, .mv (.t 63), none⟩] [] [0, 1, 5])
  (.seq (.seq (.reg false [⟨some 64, .mv (.t 1), none⟩,
    ⟨some 65, .bin .lss (.t 64) (.c (.int .i64 0)), none⟩] [] [0, 1, 5, 65])
  (.cond (.t 65)
  (.seq (.reg false [⟨some 4, .mv (.c (.int .i64 (-1))), none⟩] [] [4])
  .ret)
  .skip))
  (.seq (.seq (.reg false [⟨some 66, .mv (.t 0), none⟩,
    ⟨some 67, .mv (.t 5), none⟩,
    ⟨some 68, .iad 9 (.t 66) (.t 67), none⟩,
    ⟨some 69, .fad 6 (.t 68), none⟩,
    ⟨some 70, .ld none (.t 69), none⟩,
    ⟨some 71, .mv (.t 1), none⟩,
    ⟨some 72, .bin .rem (.t 71) (.c (.int .i64 3)), none⟩,
    ⟨some 73, .bin .eql (.t 72) (.c (.int .i64 0)), none⟩,
    ⟨some 74, .eqb true (.t 70) (.t 73), none⟩] [] [0, 1, 5, 74])
  (.cond (.t 74)
  (.seq (.reg false [⟨some 4, .mv (.c (.int .i64 (-1))), none⟩] [] [4])
  .ret)
  .skip))
  (.seq (.reg false [⟨some 75, .mv (.t 1), none⟩,
    ⟨some 76, .bin .add (.t 75) (.c (.int .i64 1)), none⟩,
    ⟨some 1, .mv (.t 76), none⟩] [] [0, 1, 5])
  (.seq (.seq (.reg false [⟨some 77, .mv (.t 0), none⟩,
    ⟨some 78, .mv (.t 5), none⟩,
    ⟨some 79, .iad 9 (.t 77) (.t 78), none⟩,
    ⟨some 80, .fad 7 (.t 79), none⟩,
    ⟨some 81, .ld none (.t 80), none⟩,
    ⟨some 82, .mv (.t 1), none⟩,
    ⟨some 83, .bin .rem (.t 82) (.c (.int .i64 3)), none⟩,
    ⟨some 84, .bin .eql (.t 83) (.c (.int .i64 0)), none⟩,
    ⟨some 85, .eqb true (.t 81) (.t 84), none⟩] [] [0, 1, 5, 85])
  (.cond (.t 85)
  (.seq (.reg false [⟨some 4, .mv (.c (.int .i64 (-1))), none⟩] [] [4])
  .ret)
  .skip))
  (.seq (.reg false [⟨some 86, .mv (.t 1), none⟩,
    ⟨some 87, .bin .add (.t 86) (.c (.int .i64 1)), none⟩,
    ⟨some 1, .mv (.t 87), none⟩] [] [0, 1, 5])
  (.seq (.seq (.reg false [⟨some 88, .mv (.t 0), none⟩,
    ⟨some 89, .mv (.t 5), none⟩,
    ⟨some 90, .iad 9 (.t 88) (.t 89), none⟩,
    ⟨some 91, .fad 8 (.t 90), none⟩,
    ⟨some 92, .ld none (.t 91), none⟩,
    ⟨some 93, .mv (.t 1), none⟩,
    ⟨some 94, .bin .neq (.t 92) (.t 93), none⟩] [] [0, 1, 5, 94])
  (.cond (.t 94)
  (.seq (.reg false [⟨some 4, .mv (.c (.int .i64 (-1))), none⟩] [] [4])
  .ret)
  .skip))
  (.reg false [⟨some 95, .mv (.t 1), none⟩,
    ⟨some 96, .bin .add (.t 95) (.c (.int .i64 1)), none⟩,
    ⟨some 1, .mv (.t 96), none⟩] [] [0, 1, 5])))))))))))))))))))
  (.reg false [⟨some 10, .mv (.t 5), none⟩,
    ⟨some 11, .bin .add (.t 10) (.c (.int .i64 1)), none⟩,
    ⟨some 5, .mv (.t 11), none⟩] [] [0, 1, 5]))))))
  (.seq (.reg false [⟨some 97, .mv (.t 1), none⟩,
    ⟨some 4, .mv (.t 97), none⟩] [] [4])
  .ret))), [(4, none)]⟩
theorem laws_heldInstS_ok : okFn Try.prog 25 laws_heldInstS = true := by kernel_rfl
def laws_heldClaimS : IFn := ⟨44, (.seq (.reg false [⟨some 4, .mv (.c (.int .i64 0)), none⟩] [] [0, 1])
  (.seq (.seq (.reg false [⟨some 5, .mv (.c (.int .i64 0)), none⟩] [] [0, 1, 5])
  (.block 0 (.loop (.seq (.seq (.reg false [⟨some 6, .mv (.t 5), none⟩,
    ⟨some 7, .mv (.t 0), none⟩,
    ⟨some 8, .len false (.t 7), none⟩,
    ⟨some 9, .bin .lss (.t 6) (.t 8), none⟩] [] [0, 1, 5, 9])
  (.cond (.t 9)
  .skip
  (.exit 0)))
  (.seq (.block 1 (.seq (.seq (.reg false [⟨some 12, .mv (.t 0), none⟩,
    ⟨some 13, .mv (.t 5), none⟩,
    ⟨some 14, .iad 3 (.t 12) (.t 13), none⟩,
    ⟨some 15, .fad 0 (.t 14), none⟩,
    ⟨some 16, .ld none (.t 15), none⟩,
    ⟨some 17, .mv (.t 1), none⟩,
    ⟨some 18, .bin .neq (.t 16) (.t 17), none⟩] [] [0, 1, 5, 18])
  (.cond (.t 18)
  (.seq (.reg false [⟨some 4, .mv (.c (.int .i64 (-1))), none⟩] [] [4])
  .ret)
  .skip))
  (.seq (.reg false [⟨some 19, .mv (.t 1), none⟩,
    ⟨some 20, .bin .add (.t 19) (.c (.int .i64 1)), none⟩,
    ⟨some 1, .mv (.t 20), none⟩] [] [0, 1, 5])
  (.seq (.seq (.reg false [⟨some 21, .mv (.t 0), none⟩,
    ⟨some 22, .mv (.t 5), none⟩,
    ⟨some 23, .iad 3 (.t 21) (.t 22), none⟩,
    ⟨some 24, .fad 1 (.t 23), none⟩,
    ⟨some 25, .ld none (.t 24), none⟩,
    ⟨some 26, .mv (.t 1), none⟩,
    ⟨some 27, .bin .rem (.t 26) (.c (.int .i64 3)), none⟩,
    ⟨some 28, .bin .eql (.t 27) (.c (.int .i64 0)), none⟩,
    ⟨some 29, .eqb true (.t 25) (.t 28), none⟩] [] [0, 1, 5, 29])
  (.cond (.t 29)
  (.seq (.reg false [⟨some 4, .mv (.c (.int .i64 (-1))), none⟩] [] [4])
  .ret)
  .skip))
  (.seq (.reg false [⟨some 30, .mv (.t 1), none⟩,
    ⟨some 31, .bin .add (.t 30) (.c (.int .i64 1)), none⟩,
    ⟨some 1, .mv (.t 31), none⟩] [] [0, 1, 5])
  (.seq (.seq (.reg false [⟨some 32, .mv (.t 0), none⟩,
    ⟨some 33, .mv (.t 5), none⟩,
    ⟨some 34, .iad 3 (.t 32) (.t 33), none⟩,
    ⟨some 35, .fad 2 (.t 34), none⟩,
    ⟨some 36, .ld none (.t 35), none⟩,
    ⟨some 37, .mv (.t 1), none⟩,
    ⟨some 38, .bin .rem (.t 37) (.c (.int .i64 3)), none⟩,
    ⟨some 39, .bin .eql (.t 38) (.c (.int .i64 0)), none⟩,
    ⟨some 40, .eqb true (.t 36) (.t 39), none⟩] [] [0, 1, 5, 40])
  (.cond (.t 40)
  (.seq (.reg false [⟨some 4, .mv (.c (.int .i64 (-1))), none⟩] [] [4])
  .ret)
  .skip))
  (.reg false [⟨some 41, .mv (.t 1), none⟩,
    ⟨some 42, .bin .add (.t 41) (.c (.int .i64 1)), none⟩,
    ⟨some 1, .mv (.t 42), none⟩] [] [0, 1, 5])))))))
  (.reg false [⟨some 10, .mv (.t 5), none⟩,
    ⟨some 11, .bin .add (.t 10) (.c (.int .i64 1)), none⟩,
    ⟨some 5, .mv (.t 11), none⟩] [] [0, 1, 5]))))))
  (.seq (.reg false [⟨some 43, .mv (.t 1), none⟩,
    ⟨some 4, .mv (.t 43), none⟩] [] [4])
  .ret))), [(4, none)]⟩
theorem laws_heldClaimS_ok : okFn Try.prog 26 laws_heldClaimS = true := by kernel_rfl
def spec_l2Agent : IFn := ⟨5, (.seq (.reg false [⟨some 2, .mv (.c (.bool false)), none⟩] [] [0])
  (.seq (.reg false [⟨some 3, .mv (.t 0), none⟩,
    ⟨some 4, .call 39 [.t 3, .c (.int .i64 0), .c (.int .i64 4)], none⟩,
    ⟨some 2, .mv (.t 4), none⟩] [] [2])
  .ret)), [(2, none)]⟩
theorem spec_l2Agent_ok : okFn Try.prog 27 spec_l2Agent = true := by kernel_rfl
def spec_l1Find : IFn := ⟨21, (.seq (.reg false [⟨some 2, .box (.t 0), none⟩,
    ⟨some 3, .box (.t 1), none⟩,
    ⟨some 4, .mv (.c (.int .i64 0)), none⟩] [] [2, 3])
  (.seq (.seq (.reg false [⟨some 5, .mv (.c (.int .i64 0)), none⟩] [] [2, 3, 5])
  (.block 0 (.loop (.seq (.seq (.reg false [⟨some 6, .mv (.t 5), none⟩,
    ⟨some 7, .fad 0 (.t 2), none⟩,
    ⟨some 8, .ld none (.t 7), none⟩,
    ⟨some 9, .len false (.t 8), none⟩,
    ⟨some 10, .bin .lss (.t 6) (.t 9), none⟩] [] [2, 3, 5, 10])
  (.cond (.t 10)
  .skip
  (.exit 0)))
  (.seq (.block 1 (.seq (.reg true [⟨some 13, .fad 0 (.t 2), none⟩,
    ⟨some 14, .ld none (.t 13), none⟩,
    ⟨some 15, .mv (.t 5), none⟩,
    ⟨some 16, .iad 3 (.t 14) (.t 15), none⟩,
    ⟨some 17, .ld (some 3) (.t 16), none⟩,
    ⟨some 18, .ld (some 3) (.t 3), none⟩,
    ⟨some 19, .eqs false [1, 1, 1] (.t 17) (.t 18), none⟩] [0, 1, 0, 7, 15, 0, 63] [2, 3, 5, 19])
  (.cond (.t 19)
  (.seq (.reg false [⟨some 20, .mv (.t 5), none⟩,
    ⟨some 4, .mv (.t 20), none⟩] [] [4])
  .ret)
  .skip)))
  (.reg false [⟨some 11, .mv (.t 5), none⟩,
    ⟨some 12, .bin .add (.t 11) (.c (.int .i64 1)), none⟩,
    ⟨some 5, .mv (.t 12), none⟩] [] [2, 3, 5]))))))
  (.seq (.reg false [⟨some 4, .mv (.c (.int .i64 (-1))), none⟩] [] [4])
  .ret))), [(4, none)]⟩
theorem spec_l1Find_ok : okFn Try.prog 28 spec_l1Find = true := by kernel_rfl
def spec_l1Right : IFn := ⟨56, (.seq (.reg false [⟨some 2, .box (.t 0), none⟩,
    ⟨some 4, .mv (.c (.bool false)), none⟩] [] [1, 2])
  (.seq (.seq (.reg false [⟨some 5, .fad 0 (.t 2), none⟩,
    ⟨some 6, .ld none (.t 5), none⟩,
    ⟨some 7, .call 40 [.t 6], none⟩] [] [1, 2, 7])
  (.block 0 (.seq (.reg false [⟨some 9, .bin .eql (.t 7) (.c (.int .i64 0)), none⟩,
    ⟨some 8, .mv (.t 9), none⟩] [] [1, 2, 7, 8])
  (.cond (.t 8)
  (.seq (.reg false [⟨some 10, .fad 1 (.t 2), none⟩,
    ⟨some 11, .ld none (.t 10), none⟩,
    ⟨some 12, .call 39 [.t 11, .c (.int .i64 0), .c (.int .i64 199)], none⟩,
    ⟨some 13, .mv (.t 12), none⟩,
    ⟨some 14, .fad 2 (.t 2), some (13, true)⟩,
    ⟨some 15, .ld none (.t 14), some (13, true)⟩,
    ⟨some 16, .bin .eql (.t 15) (.c (.int .i64 0)), some (13, true)⟩,
    ⟨some 17, .pick (.t 13) (.t 16) (.c (.bool false)), none⟩,
    ⟨some 4, .mv (.t 17), none⟩] [] [4])
  .ret)
  (.seq (.reg false [⟨some 19, .bin .eql (.t 7) (.c (.int .i64 1)), none⟩,
    ⟨some 18, .mv (.t 19), none⟩] [] [1, 2, 7, 18])
  (.cond (.t 18)
  (.seq (.reg false [⟨some 20, .fad 1 (.t 2), none⟩,
    ⟨some 21, .ld none (.t 20), none⟩,
    ⟨some 22, .mv (.t 1), none⟩,
    ⟨some 23, .bin .sub (.t 22) (.c (.int .i64 1)), none⟩,
    ⟨some 24, .call 39 [.t 21, .c (.int .i64 0), .t 23], none⟩,
    ⟨some 25, .mv (.t 24), none⟩,
    ⟨some 26, .fad 2 (.t 2), some (25, true)⟩,
    ⟨some 27, .ld none (.t 26), some (25, true)⟩,
    ⟨some 28, .bin .eql (.t 27) (.c (.int .i64 0)), some (25, true)⟩,
    ⟨some 29, .pick (.t 25) (.t 28) (.c (.bool false)), none⟩,
    ⟨some 4, .mv (.t 29), none⟩] [] [4])
  .ret)
  (.seq (.reg false [⟨some 31, .bin .eql (.t 7) (.c (.int .i64 2)), none⟩,
    ⟨some 30, .mv (.t 31), none⟩] [] [1, 2, 30])
  (.cond (.t 30)
  (.seq (.reg false [⟨some 32, .fad 1 (.t 2), none⟩,
    ⟨some 33, .ld none (.t 32), none⟩,
    ⟨some 34, .mv (.t 1), none⟩,
    ⟨some 35, .bin .sub (.t 34) (.c (.int .i64 1)), none⟩,
    ⟨some 36, .call 39 [.t 33, .c (.int .i64 0), .t 35], none⟩,
    ⟨some 37, .mv (.t 36), none⟩,
    ⟨some 38, .fad 2 (.t 2), some (37, true)⟩,
    ⟨some 39, .ld none (.t 38), some (37, true)⟩,
    ⟨some 40, .mv (.t 1), some (37, true)⟩,
    ⟨some 41, .bin .sub (.t 40) (.c (.int .i64 1)), some (37, true)⟩,
    ⟨some 42, .call 39 [.t 39, .c (.int .i64 0), .t 41], some (37, true)⟩,
    ⟨some 43, .pick (.t 37) (.t 42) (.c (.bool false)), none⟩,
    ⟨some 44, .mv (.t 43), none⟩,
    ⟨some 45, .fad 0 (.t 2), some (44, true)⟩,
    ⟨some 46, .ld none (.t 45), some (44, true)⟩,
    ⟨some 47, .bin .neq (.t 46) (.c (.int .i64 8)), some (44, true)⟩,
    ⟨some 48, .mv (.t 47), some (44, true)⟩,
    ⟨some 49, .fad 1 (.t 2), some (48, false)⟩,
    ⟨some 50, .ld none (.t 49), some (48, false)⟩,
    ⟨some 51, .fad 2 (.t 2), some (48, false)⟩,
    ⟨some 52, .ld none (.t 51), some (48, false)⟩,
    ⟨some 53, .bin .leq (.t 50) (.t 52), some (48, false)⟩,
    ⟨some 54, .pick (.t 48) (.c (.bool true)) (.t 53), some (44, true)⟩,
    ⟨some 55, .pick (.t 44) (.t 54) (.c (.bool false)), none⟩,
    ⟨some 4, .mv (.t 55), none⟩] [] [4])
  .ret)
  .skip))))))))
  (.seq (.reg false [⟨some 4, .mv (.c (.bool false)), none⟩] [] [4])
  .ret))), [(4, none)]⟩
theorem spec_l1Right_ok : okFn Try.prog 29 spec_l1Right = true := by kernel_rfl
def spec_l1Copy : IFn := ⟨8, (.seq (.reg false [⟨some 1, .box (.t 0), none⟩,
    ⟨some 2, .new [.nil], none⟩] [] [1, 2])
  (.seq (.reg false [⟨some 3, .bsl 3 0 [.int .i64 0, .int .i64 0, .int .i64 0] [], none⟩,
    ⟨some 4, .fad 0 (.t 1), none⟩,
    ⟨some 5, .ld none (.t 4), none⟩,
    ⟨some 6, .app 3 24 (.t 3) (.t 5), none⟩,
    ⟨some 7, .build [.nil] [(0, 1, .t 6)], none⟩,
    ⟨none, .st 1 (.t 2) (.t 7), none⟩] [] [2])
  .ret)), [(2, some (some 1))]⟩
theorem spec_l1Copy_ok : okFn Try.prog 30 spec_l1Copy = true := by kernel_rfl
def spec_KnowHas : IFn := ⟨18, (.seq (.reg false [⟨some 4, .mv (.c (.bool false)), none⟩] [] [0, 1])
  (.seq (.seq (.reg false [⟨some 5, .mv (.c (.int .i64 0)), none⟩] [] [0, 1, 5])
  (.block 0 (.loop (.seq (.seq (.reg false [⟨some 6, .mv (.t 5), none⟩,
    ⟨some 7, .mv (.t 0), none⟩,
    ⟨some 8, .len false (.t 7), none⟩,
    ⟨some 9, .bin .lss (.t 6) (.t 8), none⟩] [] [0, 1, 5, 9])
  (.cond (.t 9)
  .skip
  (.exit 0)))
  (.seq (.block 1 (.seq (.reg false [⟨some 12, .mv (.t 0), none⟩,
    ⟨some 13, .mv (.t 5), none⟩,
    ⟨some 14, .iad 1 (.t 12) (.t 13), none⟩,
    ⟨some 15, .ld none (.t 14), none⟩,
    ⟨some 16, .mv (.t 1), none⟩,
    ⟨some 17, .bin .eql (.t 15) (.t 16), none⟩] [] [0, 1, 5, 17])
  (.cond (.t 17)
  (.seq (.reg false [⟨some 4, .mv (.c (.bool true)), none⟩] [] [4])
  .ret)
  .skip)))
  (.reg false [⟨some 10, .mv (.t 5), none⟩,
    ⟨some 11, .bin .add (.t 10) (.c (.int .i64 1)), none⟩,
    ⟨some 5, .mv (.t 11), none⟩] [] [0, 1, 5]))))))
  (.seq (.reg false [⟨some 4, .mv (.c (.bool false)), none⟩] [] [4])
  .ret))), [(4, none)]⟩
theorem spec_KnowHas_ok : okFn Try.prog 31 spec_KnowHas = true := by kernel_rfl
def impl_Pool_add : IFn := ⟨61, (.seq (.reg false [⟨some 8, .mv (.c (.int .i64 0)), none⟩] [] [0, 1, 2, 3])
  (.seq (.reg false [⟨some 11, .mv (.t 1), none⟩,
    ⟨some 12, .mv (.t 2), none⟩,
    ⟨some 13, .mv (.t 3), none⟩,
    ⟨some 14, .build [.int .i64 0, .int .i64 0, .int .i64 0] [(0, 1, .t 11), (1, 1, .t 12), (2, 1, .t 13)], none⟩,
    ⟨some 9, .new [.int .i64 0, .int .i64 0, .int .i64 0], none⟩,
    ⟨none, .st 3 (.t 9) (.t 14), none⟩] [] [0, 1, 2, 3, 9])
  (.seq (.seq (.reg false [⟨some 15, .mv (.t 1), none⟩,
    ⟨some 16, .bin .eql (.t 15) (.c (.int .i64 8)), none⟩] [] [0, 2, 3, 9, 16])
  (.cond (.t 16)
  (.reg false [⟨some 17, .mv (.t 2), none⟩,
    ⟨some 18, .mv (.t 3), none⟩,
    ⟨some 19, .mm false (.t 17) [.t 18], none⟩,
    ⟨some 20, .mv (.t 2), none⟩,
    ⟨some 21, .mv (.t 3), none⟩,
    ⟨some 22, .mm true (.t 20) [.t 21], none⟩,
    ⟨some 23, .fad 1 (.t 9), none⟩,
    ⟨none, .st 1 (.t 23) (.t 19), none⟩,
    ⟨some 24, .fad 2 (.t 9), none⟩,
    ⟨none, .st 1 (.t 24) (.t 22), none⟩] [] [0, 9])
  .skip))
  (.seq (.seq (.reg true [⟨some 25, .ld (some 3) (.t 9), none⟩,
    ⟨some 26, .mv (.t 0), none⟩,
    ⟨some 27, .nck (.t 26), none⟩,
    ⟨some 28, .fad 0 (.t 27), none⟩,
    ⟨some 29, .ld none (.t 28), none⟩,
    ⟨some 30, .len false (.t 29), none⟩,
    ⟨some 31, .call 41 [.t 25, .t 30], none⟩,
    ⟨some 32, .not (.t 31), none⟩] [0, 0, 2, 6, 14, 30, 63, 127] [0, 9, 32])
  (.cond (.t 32)
  (.seq (.reg false [⟨some 8, .mv (.c (.int .i64 (-1))), none⟩] [] [8])
  .ret)
  .skip))
  (.seq (.seq (.reg false [⟨some 33, .mv (.t 0), none⟩,
    ⟨some 34, .ld (some 3) (.t 9), none⟩,
    ⟨some 35, .call 42 [.t 33, .t 34], none⟩,
    ⟨some 10, .mv (.t 35), none⟩] [] [0, 9, 10])
  (.seq (.reg false [⟨some 36, .mv (.t 10), none⟩,
    ⟨some 37, .bin .geq (.t 36) (.c (.int .i64 0)), none⟩] [] [0, 9, 10, 37])
  (.cond (.t 37)
  (.seq (.reg false [⟨some 38, .mv (.t 10), none⟩,
    ⟨some 8, .mv (.t 38), none⟩] [] [8])
  .ret)
  .skip)))
  (.seq (.seq (.reg false [⟨some 39, .mv (.t 0), none⟩,
    ⟨some 40, .nck (.t 39), none⟩,
    ⟨some 41, .fad 0 (.t 40), none⟩,
    ⟨some 42, .ld none (.t 41), none⟩,
    ⟨some 43, .len false (.t 42), none⟩,
    ⟨some 44, .bin .geq (.t 43) (.c (.int .i64 500)), none⟩] [] [0, 9, 44])
  (.cond (.t 44)
  (.seq (.reg false [⟨some 8, .mv (.c (.int .i64 (-1))), none⟩] [] [8])
  .ret)
  .skip))
  (.seq (.reg true [⟨some 45, .mv (.t 0), none⟩,
    ⟨some 46, .mv (.t 0), none⟩,
    ⟨some 47, .nck (.t 46), none⟩,
    ⟨some 48, .fad 0 (.t 47), none⟩,
    ⟨some 49, .ld none (.t 48), none⟩,
    ⟨some 50, .ld (some 3) (.t 9), none⟩,
    ⟨some 51, .bsl 3 1 [.int .i64 0, .int .i64 0, .int .i64 0] [(0, 3, .t 50)], none⟩,
    ⟨some 52, .app 3 24 (.t 49) (.t 51), none⟩,
    ⟨some 53, .nck (.t 45), none⟩,
    ⟨some 54, .fad 0 (.t 53), none⟩,
    ⟨none, .st 1 (.t 54) (.t 52), none⟩] [0, 0, 2, 6, 14, 0, 32, 126, 255, 511, 1023] [0])
  (.seq (.reg false [⟨some 55, .mv (.t 0), none⟩,
    ⟨some 56, .nck (.t 55), none⟩,
    ⟨some 57, .fad 0 (.t 56), none⟩,
    ⟨some 58, .ld none (.t 57), none⟩,
    ⟨some 59, .len false (.t 58), none⟩,
    ⟨some 60, .bin .sub (.t 59) (.c (.int .i64 1)), none⟩,
    ⟨some 8, .mv (.t 60), none⟩] [] [8])
  .ret)))))))), [(8, none)]⟩
theorem impl_Pool_add_ok : okFn Try.prog 32 impl_Pool_add = true := by kernel_rfl
def impl_StaticKey : IFn := ⟨8, (.seq (.reg false [⟨some 2, .mv (.c (.int .i64 0)), none⟩] [] [0])
  (.seq (.seq (.reg false [⟨some 3, .mv (.t 0), none⟩,
    ⟨some 4, .call 43 [.t 3], none⟩,
    ⟨some 5, .not (.t 4), none⟩] [] [0, 5])
  (.cond (.t 5)
  (.seq (.reg false [⟨some 2, .mv (.c (.int .i64 (-1))), none⟩] [] [2])
  .ret)
  .skip))
  (.seq (.reg false [⟨some 6, .mv (.t 0), none⟩,
    ⟨some 7, .bin .add (.c (.int .i64 90)) (.t 6), none⟩,
    ⟨some 2, .mv (.t 7), none⟩] [] [2])
  .ret))), [(2, none)]⟩
theorem impl_StaticKey_ok : okFn Try.prog 33 impl_StaticKey = true := by kernel_rfl
def laws_eqNodeS : IFn := ⟨27, (.seq (.reg false [⟨some 4, .mv (.c (.bool false)), none⟩] [] [0, 1])
  (.seq (.seq (.reg false [⟨some 6, .mv (.t 0), none⟩,
    ⟨some 7, .len false (.t 6), none⟩,
    ⟨some 8, .mv (.t 1), none⟩,
    ⟨some 9, .len false (.t 8), none⟩,
    ⟨some 10, .bin .neq (.t 7) (.t 9), none⟩] [] [0, 1, 10])
  (.cond (.t 10)
  (.seq (.reg false [⟨some 4, .mv (.c (.bool false)), none⟩] [] [4])
  .ret)
  .skip))
  (.seq (.seq (.reg false [⟨some 5, .mv (.c (.int .i64 0)), none⟩] [] [0, 1, 5])
  (.block 0 (.loop (.seq (.seq (.reg false [⟨some 11, .mv (.t 5), none⟩,
    ⟨some 12, .mv (.t 0), none⟩,
    ⟨some 13, .len false (.t 12), none⟩,
    ⟨some 14, .bin .lss (.t 11) (.t 13), none⟩] [] [0, 1, 5, 14])
  (.cond (.t 14)
  .skip
  (.exit 0)))
  (.seq (.block 1 (.seq (.reg true [⟨some 17, .mv (.t 0), none⟩,
    ⟨some 18, .mv (.t 5), none⟩,
    ⟨some 19, .iad 3 (.t 17) (.t 18), none⟩,
    ⟨some 20, .ld (some 3) (.t 19), none⟩,
    ⟨some 21, .mv (.t 1), none⟩,
    ⟨some 22, .mv (.t 5), none⟩,
    ⟨some 23, .iad 3 (.t 21) (.t 22), none⟩,
    ⟨some 24, .ld (some 3) (.t 23), none⟩,
    ⟨some 25, .call 44 [.t 20, .t 24], none⟩,
    ⟨some 26, .not (.t 25), none⟩] [0, 0, 3, 7, 0, 0, 48, 112, 255, 511] [0, 1, 5, 26])
  (.cond (.t 26)
  (.seq (.reg false [⟨some 4, .mv (.c (.bool false)), none⟩] [] [4])
  .ret)
  .skip)))
  (.reg false [⟨some 15, .mv (.t 5), none⟩,
    ⟨some 16, .bin .add (.t 15) (.c (.int .i64 1)), none⟩,
    ⟨some 5, .mv (.t 16), none⟩] [] [0, 1, 5]))))))
  (.seq (.reg false [⟨some 4, .mv (.c (.bool true)), none⟩] [] [4])
  .ret)))), [(4, none)]⟩
theorem laws_eqNodeS_ok : okFn Try.prog 34 laws_eqNodeS = true := by kernel_rfl
def laws_markNodeS : IFn := ⟨34, (.seq (.reg false [⟨some 4, .mv (.c (.int .i64 0)), none⟩] [] [0, 1])
  (.seq (.seq (.reg false [⟨some 5, .mv (.c (.int .i64 0)), none⟩] [] [0, 1, 5])
  (.block 0 (.loop (.seq (.seq (.reg false [⟨some 6, .mv (.t 5), none⟩,
    ⟨some 7, .mv (.t 0), none⟩,
    ⟨some 8, .len false (.t 7), none⟩,
    ⟨some 9, .bin .lss (.t 6) (.t 8), none⟩] [] [0, 1, 5, 9])
  (.cond (.t 9)
  .skip
  (.exit 0)))
  (.seq (.block 1 (.seq (.reg false [⟨some 12, .mv (.t 0), none⟩,
    ⟨some 13, .mv (.t 5), none⟩,
    ⟨some 14, .mv (.t 1), none⟩,
    ⟨some 15, .iad 3 (.t 12) (.t 13), none⟩,
    ⟨some 16, .fad 0 (.t 15), none⟩,
    ⟨none, .st 1 (.t 16) (.t 14), none⟩] [] [0, 1, 5])
  (.seq (.reg false [⟨some 17, .mv (.t 1), none⟩,
    ⟨some 18, .bin .add (.t 17) (.c (.int .i64 1)), none⟩,
    ⟨some 1, .mv (.t 18), none⟩] [] [0, 1, 5])
  (.seq (.reg false [⟨some 19, .mv (.t 0), none⟩,
    ⟨some 20, .mv (.t 5), none⟩,
    ⟨some 21, .mv (.t 1), none⟩,
    ⟨some 22, .iad 3 (.t 19) (.t 20), none⟩,
    ⟨some 23, .fad 1 (.t 22), none⟩,
    ⟨none, .st 1 (.t 23) (.t 21), none⟩] [] [0, 1, 5])
  (.seq (.reg false [⟨some 24, .mv (.t 1), none⟩,
    ⟨some 25, .bin .add (.t 24) (.c (.int .i64 1)), none⟩,
    ⟨some 1, .mv (.t 25), none⟩] [] [0, 1, 5])
  (.seq (.reg false [⟨some 26, .mv (.t 0), none⟩,
    ⟨some 27, .mv (.t 5), none⟩,
    ⟨some 28, .mv (.t 1), none⟩,
    ⟨some 29, .iad 3 (.t 26) (.t 27), none⟩,
    ⟨some 30, .fad 2 (.t 29), none⟩,
    ⟨none, .st 1 (.t 30) (.t 28), none⟩] [] [0, 1, 5])
  (.reg false [⟨some 31, .mv (.t 1), none⟩,
    ⟨some 32, .bin .add (.t 31) (.c (.int .i64 1)), none⟩,
    ⟨some 1, .mv (.t 32), none⟩] [] [0, 1, 5])))))))
  (.reg false [⟨some 10, .mv (.t 5), none⟩,
    ⟨some 11, .bin .add (.t 10) (.c (.int .i64 1)), none⟩,
    ⟨some 5, .mv (.t 11), none⟩] [] [0, 1, 5]))))))
  (.seq (.reg false [⟨some 33, .mv (.t 1), none⟩,
    ⟨some 4, .mv (.t 33), none⟩] [] [4])
  .ret))), [(4, none)]⟩
theorem laws_markNodeS_ok : okFn Try.prog 37 laws_markNodeS = true := by kernel_rfl
def laws_heldNodeS : IFn := ⟨40, (.seq (.reg false [⟨some 4, .mv (.c (.int .i64 0)), none⟩] [] [0, 1])
  (.seq (.seq (.reg false [⟨some 5, .mv (.c (.int .i64 0)), none⟩] [] [0, 1, 5])
  (.block 0 (.loop (.seq (.seq (.reg false [⟨some 6, .mv (.t 5), none⟩,
    ⟨some 7, .mv (.t 0), none⟩,
    ⟨some 8, .len false (.t 7), none⟩,
    ⟨some 9, .bin .lss (.t 6) (.t 8), none⟩] [] [0, 1, 5, 9])
  (.cond (.t 9)
  .skip
  (.exit 0)))
  (.seq (.block 1 (.seq (.seq (.reg false [⟨some 12, .mv (.t 0), none⟩,
    ⟨some 13, .mv (.t 5), none⟩,
    ⟨some 14, .iad 3 (.t 12) (.t 13), none⟩,
    ⟨some 15, .fad 0 (.t 14), none⟩,
    ⟨some 16, .ld none (.t 15), none⟩,
    ⟨some 17, .mv (.t 1), none⟩,
    ⟨some 18, .bin .neq (.t 16) (.t 17), none⟩] [] [0, 1, 5, 18])
  (.cond (.t 18)
  (.seq (.reg false [⟨some 4, .mv (.c (.int .i64 (-1))), none⟩] [] [4])
  .ret)
  .skip))
  (.seq (.reg false [⟨some 19, .mv (.t 1), none⟩,
    ⟨some 20, .bin .add (.t 19) (.c (.int .i64 1)), none⟩,
    ⟨some 1, .mv (.t 20), none⟩] [] [0, 1, 5])
  (.seq (.seq (.reg false [⟨some 21, .mv (.t 0), none⟩,
    ⟨some 22, .mv (.t 5), none⟩,
    ⟨some 23, .iad 3 (.t 21) (.t 22), none⟩,
    ⟨some 24, .fad 1 (.t 23), none⟩,
    ⟨some 25, .ld none (.t 24), none⟩,
    ⟨some 26, .mv (.t 1), none⟩,
    ⟨some 27, .bin .neq (.t 25) (.t 26), none⟩] [] [0, 1, 5, 27])
  (.cond (.t 27)
  (.seq (.reg false [⟨some 4, .mv (.c (.int .i64 (-1))), none⟩] [] [4])
  .ret)
  .skip))
  (.seq (.reg false [⟨some 28, .mv (.t 1), none⟩,
    ⟨some 29, .bin .add (.t 28) (.c (.int .i64 1)), none⟩,
    ⟨some 1, .mv (.t 29), none⟩] [] [0, 1, 5])
  (.seq (.seq (.reg false [⟨some 30, .mv (.t 0), none⟩,
    ⟨some 31, .mv (.t 5), none⟩,
    ⟨some 32, .iad 3 (.t 30) (.t 31), none⟩,
    ⟨some 33, .fad 2 (.t 32), none⟩,
    ⟨some 34, .ld none (.t 33), none⟩,
    ⟨some 35, .mv (.t 1), none⟩,
    ⟨some 36, .bin .neq (.t 34) (.t 35), none⟩] [] [0, 1, 5, 36])
  (.cond (.t 36)
  (.seq (.reg false [⟨some 4, .mv (.c (.int .i64 (-1))), none⟩] [] [4])
  .ret)
  .skip))
  (.reg false [⟨some 37, .mv (.t 1), none⟩,
    ⟨some 38, .bin .add (.t 37) (.c (.int .i64 1)), none⟩,
    ⟨some 1, .mv (.t 38), none⟩] [] [0, 1, 5])))))))
  (.reg false [⟨some 10, .mv (.t 5), none⟩,
    ⟨some 11, .bin .add (.t 10) (.c (.int .i64 1)), none⟩,
    ⟨some 5, .mv (.t 11), none⟩] [] [0, 1, 5]))))))
  (.seq (.reg false [⟨some 39, .mv (.t 1), none⟩,
    ⟨some 4, .mv (.t 39), none⟩] [] [4])
  .ret))), [(4, none)]⟩
theorem laws_heldNodeS_ok : okFn Try.prog 38 laws_heldNodeS = true := by kernel_rfl
def spec_l1In : IFn := ⟨15, (.seq (.reg false [⟨some 6, .mv (.c (.bool false)), none⟩] [] [0, 1, 2])
  (.seq (.reg false [⟨some 7, .mv (.t 0), none⟩,
    ⟨some 8, .mv (.t 1), none⟩,
    ⟨some 9, .bin .geq (.t 7) (.t 8), none⟩,
    ⟨some 10, .mv (.t 9), none⟩,
    ⟨some 11, .mv (.t 0), some (10, true)⟩,
    ⟨some 12, .mv (.t 2), some (10, true)⟩,
    ⟨some 13, .bin .leq (.t 11) (.t 12), some (10, true)⟩,
    ⟨some 14, .pick (.t 10) (.t 13) (.c (.bool false)), none⟩,
    ⟨some 6, .mv (.t 14), none⟩] [] [6])
  .ret)), [(6, none)]⟩
theorem spec_l1In_ok : okFn Try.prog 39 spec_l1In = true := by kernel_rfl
def spec_l1Parts : IFn := ⟨15, (.seq (.reg false [⟨some 2, .mv (.c (.int .i64 0)), none⟩] [] [0])
  (.seq (.seq (.reg false [⟨some 3, .mv (.t 0), none⟩] [] [3])
  (.block 0 (.seq (.reg false [⟨some 5, .bin .eql (.t 3) (.c (.int .i64 1)), none⟩,
    ⟨some 4, .mv (.t 5), none⟩] [] [3, 4])
  (.cond (.t 4)
  (.seq (.reg false [⟨some 2, .mv (.c (.int .i64 0)), none⟩] [] [2])
  .ret)
  (.seq (.seq (.reg false [⟨some 7, .bin .eql (.t 3) (.c (.int .i64 5)), none⟩,
    ⟨some 6, .mv (.t 7), none⟩] [] [3, 6])
  (.cond (.t 6)
  .skip
  (.reg false [⟨some 8, .bin .eql (.t 3) (.c (.int .i64 7)), none⟩,
    ⟨some 6, .mv (.t 8), none⟩] [] [3, 6])))
  (.cond (.t 6)
  (.seq (.reg false [⟨some 2, .mv (.c (.int .i64 1)), none⟩] [] [2])
  .ret)
  (.seq (.seq (.reg false [⟨some 10, .bin .eql (.t 3) (.c (.int .i64 2)), none⟩,
    ⟨some 9, .mv (.t 10), none⟩] [] [3, 9])
  (.cond (.t 9)
  .skip
  (.seq (.reg false [⟨some 11, .bin .eql (.t 3) (.c (.int .i64 3)), none⟩,
    ⟨some 9, .mv (.t 11), none⟩] [] [3, 9])
  (.cond (.t 9)
  .skip
  (.seq (.reg false [⟨some 12, .bin .eql (.t 3) (.c (.int .i64 4)), none⟩,
    ⟨some 9, .mv (.t 12), none⟩] [] [3, 9])
  (.cond (.t 9)
  .skip
  (.seq (.reg false [⟨some 13, .bin .eql (.t 3) (.c (.int .i64 6)), none⟩,
    ⟨some 9, .mv (.t 13), none⟩] [] [3, 9])
  (.cond (.t 9)
  .skip
  (.reg false [⟨some 14, .bin .eql (.t 3) (.c (.int .i64 8)), none⟩,
    ⟨some 9, .mv (.t 14), none⟩] [] [9])))))))))
  (.cond (.t 9)
  (.seq (.reg false [⟨some 2, .mv (.c (.int .i64 2)), none⟩] [] [2])
  .ret)
  .skip))))))))
  (.seq (.reg false [⟨some 2, .mv (.c (.int .i64 (-1))), none⟩] [] [2])
  .ret))), [(2, none)]⟩
theorem spec_l1Parts_ok : okFn Try.prog 40 spec_l1Parts = true := by kernel_rfl
def impl_nodeOk : IFn := ⟨56, (.seq (.reg false [⟨some 2, .box (.t 0), none⟩,
    ⟨some 4, .mv (.c (.bool false)), none⟩] [] [1, 2])
  (.seq (.seq (.reg false [⟨some 5, .fad 0 (.t 2), none⟩,
    ⟨some 6, .ld none (.t 5), none⟩,
    ⟨some 7, .call 45 [.t 6], none⟩] [] [1, 2, 7])
  (.block 0 (.seq (.reg false [⟨some 9, .bin .eql (.t 7) (.c (.int .i64 0)), none⟩,
    ⟨some 8, .mv (.t 9), none⟩] [] [1, 2, 7, 8])
  (.cond (.t 8)
  (.seq (.reg false [⟨some 10, .fad 1 (.t 2), none⟩,
    ⟨some 11, .ld none (.t 10), none⟩,
    ⟨some 12, .call 46 [.t 11, .c (.int .i64 0), .c (.int .i64 199)], none⟩,
    ⟨some 13, .mv (.t 12), none⟩,
    ⟨some 14, .fad 2 (.t 2), some (13, true)⟩,
    ⟨some 15, .ld none (.t 14), some (13, true)⟩,
    ⟨some 16, .bin .eql (.t 15) (.c (.int .i64 0)), some (13, true)⟩,
    ⟨some 17, .pick (.t 13) (.t 16) (.c (.bool false)), none⟩,
    ⟨some 4, .mv (.t 17), none⟩] [] [4])
  .ret)
  (.seq (.reg false [⟨some 19, .bin .eql (.t 7) (.c (.int .i64 1)), none⟩,
    ⟨some 18, .mv (.t 19), none⟩] [] [1, 2, 7, 18])
  (.cond (.t 18)
  (.seq (.reg false [⟨some 20, .fad 1 (.t 2), none⟩,
    ⟨some 21, .ld none (.t 20), none⟩,
    ⟨some 22, .mv (.t 1), none⟩,
    ⟨some 23, .bin .sub (.t 22) (.c (.int .i64 1)), none⟩,
    ⟨some 24, .call 46 [.t 21, .c (.int .i64 0), .t 23], none⟩,
    ⟨some 25, .mv (.t 24), none⟩,
    ⟨some 26, .fad 2 (.t 2), some (25, true)⟩,
    ⟨some 27, .ld none (.t 26), some (25, true)⟩,
    ⟨some 28, .bin .eql (.t 27) (.c (.int .i64 0)), some (25, true)⟩,
    ⟨some 29, .pick (.t 25) (.t 28) (.c (.bool false)), none⟩,
    ⟨some 4, .mv (.t 29), none⟩] [] [4])
  .ret)
  (.seq (.reg false [⟨some 31, .bin .eql (.t 7) (.c (.int .i64 2)), none⟩,
    ⟨some 30, .mv (.t 31), none⟩] [] [1, 2, 30])
  (.cond (.t 30)
  (.seq (.reg false [⟨some 32, .fad 1 (.t 2), none⟩,
    ⟨some 33, .ld none (.t 32), none⟩,
    ⟨some 34, .mv (.t 1), none⟩,
    ⟨some 35, .bin .sub (.t 34) (.c (.int .i64 1)), none⟩,
    ⟨some 36, .call 46 [.t 33, .c (.int .i64 0), .t 35], none⟩,
    ⟨some 37, .mv (.t 36), none⟩,
    ⟨some 38, .fad 2 (.t 2), some (37, true)⟩,
    ⟨some 39, .ld none (.t 38), some (37, true)⟩,
    ⟨some 40, .mv (.t 1), some (37, true)⟩,
    ⟨some 41, .bin .sub (.t 40) (.c (.int .i64 1)), some (37, true)⟩,
    ⟨some 42, .call 46 [.t 39, .c (.int .i64 0), .t 41], some (37, true)⟩,
    ⟨some 43, .pick (.t 37) (.t 42) (.c (.bool false)), none⟩,
    ⟨some 44, .mv (.t 43), none⟩,
    ⟨some 45, .fad 0 (.t 2), some (44, true)⟩,
    ⟨some 46, .ld none (.t 45), some (44, true)⟩,
    ⟨some 47, .bin .neq (.t 46) (.c (.int .i64 8)), some (44, true)⟩,
    ⟨some 48, .mv (.t 47), some (44, true)⟩,
    ⟨some 49, .fad 1 (.t 2), some (48, false)⟩,
    ⟨some 50, .ld none (.t 49), some (48, false)⟩,
    ⟨some 51, .fad 2 (.t 2), some (48, false)⟩,
    ⟨some 52, .ld none (.t 51), some (48, false)⟩,
    ⟨some 53, .bin .leq (.t 50) (.t 52), some (48, false)⟩,
    ⟨some 54, .pick (.t 48) (.c (.bool true)) (.t 53), some (44, true)⟩,
    ⟨some 55, .pick (.t 44) (.t 54) (.c (.bool false)), none⟩,
    ⟨some 4, .mv (.t 55), none⟩] [] [4])
  .ret)
  .skip))))))))
  (.seq (.reg false [⟨some 4, .mv (.c (.bool false)), none⟩] [] [4])
  .ret))), [(4, none)]⟩
theorem impl_nodeOk_ok : okFn Try.prog 41 impl_nodeOk = true := by kernel_rfl
def impl_Pool_find : IFn := ⟨11, (.seq (.reg false [⟨some 3, .box (.t 1), none⟩,
    ⟨some 4, .mv (.c (.int .i64 0)), none⟩] [] [0, 3])
  (.seq (.reg true [⟨some 5, .mv (.t 0), none⟩,
    ⟨some 6, .nck (.t 5), none⟩,
    ⟨some 7, .fad 0 (.t 6), none⟩,
    ⟨some 8, .ld none (.t 7), none⟩,
    ⟨some 9, .ld (some 3) (.t 3), none⟩,
    ⟨some 10, .call 47 [.t 8, .t 9], none⟩,
    ⟨some 4, .mv (.t 10), none⟩] [0, 1, 3, 7, 0, 31, 63] [4])
  .ret)), [(4, none)]⟩
theorem impl_Pool_find_ok : okFn Try.prog 42 impl_Pool_find = true := by kernel_rfl
def impl_isAgent : IFn := ⟨5, (.seq (.reg false [⟨some 2, .mv (.c (.bool false)), none⟩] [] [0])
  (.seq (.reg false [⟨some 3, .mv (.t 0), none⟩,
    ⟨some 4, .call 46 [.t 3, .c (.int .i64 0), .c (.int .i64 4)], none⟩,
    ⟨some 2, .mv (.t 4), none⟩] [] [2])
  .ret)), [(2, none)]⟩
theorem impl_isAgent_ok : okFn Try.prog 43 impl_isAgent = true := by kernel_rfl
def laws_eqNode : IFn := ⟨20, (.seq (.reg false [⟨some 2, .box (.t 0), none⟩,
    ⟨some 3, .box (.t 1), none⟩,
    ⟨some 4, .mv (.c (.bool false)), none⟩] [] [2, 3])
  (.seq (.seq (.reg false [⟨some 5, .fad 0 (.t 2), none⟩,
    ⟨some 6, .ld none (.t 5), none⟩,
    ⟨some 7, .fad 0 (.t 3), none⟩,
    ⟨some 8, .ld none (.t 7), none⟩,
    ⟨some 9, .bin .neq (.t 6) (.t 8), none⟩] [] [2, 3, 9])
  (.cond (.t 9)
  (.seq (.reg false [⟨some 4, .mv (.c (.bool false)), none⟩] [] [4])
  .ret)
  .skip))
  (.seq (.seq (.reg false [⟨some 10, .fad 1 (.t 2), none⟩,
    ⟨some 11, .ld none (.t 10), none⟩,
    ⟨some 12, .fad 1 (.t 3), none⟩,
    ⟨some 13, .ld none (.t 12), none⟩,
    ⟨some 14, .bin .neq (.t 11) (.t 13), none⟩] [] [2, 3, 14])
  (.cond (.t 14)
  (.seq (.reg false [⟨some 4, .mv (.c (.bool false)), none⟩] [] [4])
  .ret)
  .skip))
  (.seq (.seq (.reg false [⟨some 15, .fad 2 (.t 2), none⟩,
    ⟨some 16, .ld none (.t 15), none⟩,
    ⟨some 17, .fad 2 (.t 3), none⟩,
    ⟨some 18, .ld none (.t 17), none⟩,
    ⟨some 19, .bin .neq (.t 16) (.t 18), none⟩] [] [19])
  (.cond (.t 19)
  (.seq (.reg false [⟨some 4, .mv (.c (.bool false)), none⟩] [] [4])
  .ret)
  .skip))
  (.seq (.reg false [⟨some 4, .mv (.c (.bool true)), none⟩] [] [4])
  .ret))))), [(4, none)]⟩
theorem laws_eqNode_ok : okFn Try.prog 44 laws_eqNode = true := by kernel_rfl
def impl_count : IFn := ⟨15, (.seq (.reg false [⟨some 2, .mv (.c (.int .i64 0)), none⟩] [] [0])
  (.seq (.seq (.reg false [⟨some 3, .mv (.t 0), none⟩] [] [3])
  (.block 0 (.seq (.reg false [⟨some 5, .bin .eql (.t 3) (.c (.int .i64 1)), none⟩,
    ⟨some 4, .mv (.t 5), none⟩] [] [3, 4])
  (.cond (.t 4)
  (.seq (.reg false [⟨some 2, .mv (.c (.int .i64 0)), none⟩] [] [2])
  .ret)
  (.seq (.seq (.reg false [⟨some 7, .bin .eql (.t 3) (.c (.int .i64 5)), none⟩,
    ⟨some 6, .mv (.t 7), none⟩] [] [3, 6])
  (.cond (.t 6)
  .skip
  (.reg false [⟨some 8, .bin .eql (.t 3) (.c (.int .i64 7)), none⟩,
    ⟨some 6, .mv (.t 8), none⟩] [] [3, 6])))
  (.cond (.t 6)
  (.seq (.reg false [⟨some 2, .mv (.c (.int .i64 1)), none⟩] [] [2])
  .ret)
  (.seq (.seq (.reg false [⟨some 10, .bin .eql (.t 3) (.c (.int .i64 2)), none⟩,
    ⟨some 9, .mv (.t 10), none⟩] [] [3, 9])
  (.cond (.t 9)
  .skip
  (.seq (.reg false [⟨some 11, .bin .eql (.t 3) (.c (.int .i64 3)), none⟩,
    ⟨some 9, .mv (.t 11), none⟩] [] [3, 9])
  (.cond (.t 9)
  .skip
  (.seq (.reg false [⟨some 12, .bin .eql (.t 3) (.c (.int .i64 4)), none⟩,
    ⟨some 9, .mv (.t 12), none⟩] [] [3, 9])
  (.cond (.t 9)
  .skip
  (.seq (.reg false [⟨some 13, .bin .eql (.t 3) (.c (.int .i64 6)), none⟩,
    ⟨some 9, .mv (.t 13), none⟩] [] [3, 9])
  (.cond (.t 9)
  .skip
  (.reg false [⟨some 14, .bin .eql (.t 3) (.c (.int .i64 8)), none⟩,
    ⟨some 9, .mv (.t 14), none⟩] [] [9])))))))))
  (.cond (.t 9)
  (.seq (.reg false [⟨some 2, .mv (.c (.int .i64 2)), none⟩] [] [2])
  .ret)
  .skip))))))))
  (.seq (.reg false [⟨some 2, .mv (.c (.int .i64 (-1))), none⟩] [] [2])
  .ret))), [(2, none)]⟩
theorem impl_count_ok : okFn Try.prog 45 impl_count = true := by kernel_rfl
def impl_inRange : IFn := ⟨15, (.seq (.reg false [⟨some 6, .mv (.c (.bool false)), none⟩] [] [0, 1, 2])
  (.seq (.reg false [⟨some 7, .mv (.t 0), none⟩,
    ⟨some 8, .mv (.t 1), none⟩,
    ⟨some 9, .bin .geq (.t 7) (.t 8), none⟩,
    ⟨some 10, .mv (.t 9), none⟩,
    ⟨some 11, .mv (.t 0), some (10, true)⟩,
    ⟨some 12, .mv (.t 2), some (10, true)⟩,
    ⟨some 13, .bin .leq (.t 11) (.t 12), some (10, true)⟩,
    ⟨some 14, .pick (.t 10) (.t 13) (.c (.bool false)), none⟩,
    ⟨some 6, .mv (.t 14), none⟩] [] [6])
  .ret)), [(6, none)]⟩
theorem impl_inRange_ok : okFn Try.prog 46 impl_inRange = true := by kernel_rfl
def slices_Index_Node : IFn := ⟨19, (.seq (.reg false [⟨some 3, .box (.t 1), none⟩,
    ⟨some 4, .mv (.c (.int .i64 0)), none⟩] [] [0, 3])
  (.seq (.seq (.reg false [⟨some 6, .mv (.t 0), none⟩,
    ⟨some 7, .len false (.t 6), none⟩,
    ⟨some 8, .mv (.c (.int .i64 0)), none⟩] [] [0, 3, 7, 8])
  (.block 0 (.loop (.seq (.reg false [⟨some 9, .bin .lss (.t 8) (.t 7), none⟩] [] [0, 3, 7, 8, 9])
  (.seq (.cond (.t 9)
  .skip
  (.exit 0))
  (.seq (.block 1 (.seq (.reg false [⟨some 10, .mv (.t 8), none⟩,
    ⟨some 5, .mv (.t 10), none⟩] [] [0, 3, 5, 7, 8])
  (.seq (.reg true [⟨some 11, .ld (some 3) (.t 3), none⟩,
    ⟨some 12, .mv (.t 0), none⟩,
    ⟨some 13, .mv (.t 5), none⟩,
    ⟨some 14, .iad 3 (.t 12) (.t 13), none⟩,
    ⟨some 15, .ld (some 3) (.t 14), none⟩,
    ⟨some 16, .eqs false [1, 1, 1] (.t 11) (.t 15), none⟩] [0, 0, 0, 6, 14, 31] [0, 3, 5, 7, 8, 16])
  (.cond (.t 16)
  (.seq (.reg false [⟨some 17, .mv (.t 5), none⟩,
    ⟨some 4, .mv (.t 17), none⟩] [] [4])
  .ret)
  .skip))))
  (.reg false [⟨some 18, .bin .add (.t 8) (.c (.int .i64 1)), none⟩,
    ⟨some 8, .mv (.t 18), none⟩] [] [0, 3, 7, 8])))))))
  (.seq (.reg false [⟨some 4, .mv (.c (.int .i64 (-1))), none⟩] [] [4])
  .ret))), [(4, none)]⟩
theorem slices_Index_Node_ok : okFn Try.prog 47 slices_Index_Node = true := by kernel_rfl
end Go.Proofs.Ytijileoflejgpaa.I
