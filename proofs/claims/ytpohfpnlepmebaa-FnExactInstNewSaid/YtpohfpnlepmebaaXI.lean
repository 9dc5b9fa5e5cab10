/- The functions of this seat told by trees. Printed by a program of this repository (mkir.py). Conditions: none. -/
import Derived.Test.YtpohfpnlepmebaaXSymQ
import Derived.Test.YtpohfpnlepmebaaProg
import Derived.KernelRfl
set_option maxRecDepth 100000
set_option linter.unusedVariables false
namespace Go.Proofs.Ytpohfpnlepmebaa.I
open Go.Sym
def laws_FnExactInstNew : IFn := ⟨153, (.seq (.reg false [⟨some 5, .box (.t 0), none⟩,
    ⟨some 10, .mv (.c (.bool false)), none⟩] [] [1, 2, 3, 4, 5])
  (.seq (.reg false [⟨some 11, .mv (.c (.int .i64 1048576)), none⟩] [] [1, 2, 3, 4, 5, 11])
  (.seq (.reg false [⟨some 25, .ld (some 1) (.t 5), none⟩,
    ⟨some 26, .mv (.t 11), none⟩,
    ⟨some 27, .call 4 [.t 25, .t 26], none⟩,
    ⟨some 11, .mv (.t 27), none⟩] [] [1, 2, 3, 4, 5, 11])
  (.seq (.seq (.reg false [⟨some 28, .mv (.t 11), none⟩,
    ⟨some 29, .bin .lss (.t 28) (.c (.int .i64 0)), none⟩] [] [1, 2, 3, 4, 5, 29])
  (.cond (.t 29)
  (.seq (.reg false [⟨some 10, .mv (.c (.bool true)), none⟩] [] [10])
  .ret)
  .skip))
  (.seq (.reg false [⟨some 31, .ld (some 1) (.t 5), none⟩,
    ⟨some 32, .call 6 [.t 31], none⟩,
    ⟨some 33, .mv (.t 1), none⟩,
    ⟨some 34, .mv (.t 2), none⟩,
    ⟨some 35, .mv (.t 3), none⟩,
    ⟨some 36, .mv (.t 4), none⟩,
    ⟨some 37, .call 5 [.t 32, .t 33, .t 34, .t 35, .t 36], none⟩,
    ⟨some 30, .mv (.t 37), none⟩,
    ⟨some 38, .ext (.t 30) 0, none⟩,
    ⟨some 39, .ext (.t 30) 1, none⟩,
    ⟨some 40, .ext (.t 30) 2, none⟩,
    ⟨some 12, .new [.nil], none⟩,
    ⟨some 13, .new [.int .i64 0, .int .i64 0, .int .i64 0, .int .i64 0, .int .i64 0, .nil, .bool false, .bool false, .int .i64 0], none⟩,
    ⟨none, .st 1 (.t 12) (.t 38), none⟩,
    ⟨none, .st 9 (.t 13) (.t 39), none⟩,
    ⟨some 14, .mv (.t 40), none⟩] [] [1, 2, 3, 4, 5, 12, 13, 14])
  (.seq (.reg false [⟨some 41, .ld (some 1) (.t 5), none⟩,
    ⟨some 42, .call 6 [.t 41], none⟩,
    ⟨some 15, .new [.nil], none⟩,
    ⟨none, .st 1 (.t 15) (.t 42), none⟩] [] [1, 2, 3, 4, 5, 12, 13, 14, 15])
  (.seq (.reg false [⟨some 44, .ld (some 1) (.t 15), none⟩,
    ⟨some 45, .mv (.t 1), none⟩,
    ⟨some 46, .mv (.t 2), none⟩,
    ⟨some 47, .mv (.t 3), none⟩,
    ⟨some 48, .mv (.t 4), none⟩,
    ⟨some 49, .call 7 [.t 44, .t 45, .t 46, .t 47, .t 48], none⟩,
    ⟨some 43, .mv (.t 49), none⟩,
    ⟨some 50, .ext (.t 43) 0, none⟩,
    ⟨some 51, .ext (.t 43) 1, none⟩,
    ⟨some 52, .ext (.t 43) 2, none⟩,
    ⟨some 16, .new [.nil], none⟩,
    ⟨some 17, .new [.int .i64 0, .int .i64 0, .int .i64 0, .int .i64 0, .int .i64 0, .nil, .bool false, .bool false, .int .i64 0], none⟩,
    ⟨none, .st 1 (.t 16) (.t 50), none⟩,
    ⟨none, .st 9 (.t 17) (.t 51), none⟩,
    ⟨some 18, .mv (.t 52), none⟩] [] [1, 2, 3, 4, 5, 12, 13, 14, 15, 16, 17, 18])
  (.seq (.seq (.reg false [⟨some 53, .ld (some 1) (.t 16), none⟩,
    ⟨some 54, .ld (some 1) (.t 12), none⟩,
    ⟨some 55, .call 8 [.t 53, .t 54], none⟩,
    ⟨some 56, .not (.t 55), none⟩,
    ⟨some 57, .mv (.t 56), none⟩,
    ⟨some 58, .ld (some 9) (.t 17), some (57, false)⟩,
    ⟨some 59, .ld (some 9) (.t 13), some (57, false)⟩,
    ⟨some 60, .call 9 [.t 58, .t 59], some (57, false)⟩,
    ⟨some 61, .not (.t 60), some (57, false)⟩,
    ⟨some 62, .pick (.t 57) (.c (.bool true)) (.t 61), none⟩,
    ⟨some 63, .mv (.t 62), none⟩,
    ⟨some 64, .mv (.t 18), some (63, false)⟩,
    ⟨some 65, .mv (.t 14), some (63, false)⟩,
    ⟨some 66, .eqb true (.t 64) (.t 65), some (63, false)⟩,
    ⟨some 67, .pick (.t 63) (.c (.bool true)) (.t 66), none⟩] [] [1, 2, 3, 4, 5, 12, 13, 14, 15, 16, 17, 18, 67])
  (.cond (.t 67)
  (.seq (.reg false [⟨some 10, .mv (.c (.bool false)), none⟩] [] [10])
  .ret)
  .skip))
  (.seq (.seq (.reg true [⟨some 68, .ld (some 1) (.t 15), none⟩,
    ⟨some 69, .ld (some 1) (.t 5), none⟩,
    ⟨some 70, .call 6 [.t 69], none⟩,
    ⟨some 71, .call 8 [.t 68, .t 70], none⟩,
    ⟨some 72, .not (.t 71), none⟩] [0, 0, 2, 7, 15] [1, 2, 3, 4, 5, 12, 13, 14, 15, 16, 17, 18, 72])
  (.cond (.t 72)
  (.seq (.reg false [⟨some 10, .mv (.c (.bool false)), none⟩] [] [10])
  .ret)
  .skip))
  (.seq (.reg false [⟨some 19, .mv (.c (.int .i64 1)), none⟩] [] [1, 2, 3, 4, 5, 12, 13, 14, 15, 16, 17, 18, 19])
  (.seq (.reg false [⟨some 73, .ld (some 1) (.t 15), none⟩,
    ⟨some 74, .mv (.t 19), none⟩,
    ⟨some 75, .call 10 [.t 73, .t 74], none⟩,
    ⟨some 19, .mv (.t 75), none⟩] [] [1, 2, 3, 4, 5, 12, 13, 14, 16, 17, 18, 19])
  (.seq (.seq (.reg false [⟨some 76, .mv (.t 19), none⟩,
    ⟨some 77, .bin .lss (.t 76) (.c (.int .i64 0)), none⟩,
    ⟨some 78, .mv (.t 77), none⟩,
    ⟨some 79, .ld (some 1) (.t 16), some (78, false)⟩,
    ⟨some 80, .ld (some 1) (.t 12), some (78, false)⟩,
    ⟨some 81, .call 8 [.t 79, .t 80], some (78, false)⟩,
    ⟨some 82, .not (.t 81), some (78, false)⟩,
    ⟨some 83, .pick (.t 78) (.c (.bool true)) (.t 82), none⟩,
    ⟨some 84, .mv (.t 83), none⟩,
    ⟨some 85, .ld (some 9) (.t 17), some (84, false)⟩,
    ⟨some 86, .ld (some 9) (.t 13), some (84, false)⟩,
    ⟨some 87, .call 9 [.t 85, .t 86], some (84, false)⟩,
    ⟨some 88, .not (.t 87), some (84, false)⟩,
    ⟨some 89, .pick (.t 84) (.c (.bool true)) (.t 88), none⟩,
    ⟨some 90, .mv (.t 89), none⟩,
    ⟨some 91, .mv (.t 18), some (90, false)⟩,
    ⟨some 92, .mv (.t 14), some (90, false)⟩,
    ⟨some 93, .eqb true (.t 91) (.t 92), some (90, false)⟩,
    ⟨some 94, .pick (.t 90) (.c (.bool true)) (.t 93), none⟩] [] [1, 2, 3, 4, 5, 12, 13, 14, 16, 17, 94])
  (.cond (.t 94)
  (.seq (.reg false [⟨some 10, .mv (.c (.bool false)), none⟩] [] [10])
  .ret)
  .skip))
  (.seq (.reg false [⟨some 20, .mv (.c (.int .i64 1)), none⟩] [] [1, 2, 3, 4, 5, 12, 13, 14, 16, 17, 20])
  (.seq (.reg false [⟨some 95, .ld (some 1) (.t 16), none⟩,
    ⟨some 96, .mv (.t 20), none⟩,
    ⟨some 97, .call 10 [.t 95, .t 96], none⟩,
    ⟨some 20, .mv (.t 97), none⟩] [] [1, 2, 3, 4, 5, 12, 13, 14, 16, 17, 20])
  (.seq (.reg false [⟨some 98, .ld (some 9) (.t 17), none⟩,
    ⟨some 99, .mv (.t 20), none⟩,
    ⟨some 100, .call 11 [.t 98, .t 99], none⟩,
    ⟨some 20, .mv (.t 100), none⟩] [] [1, 2, 3, 4, 5, 12, 13, 14, 16, 17, 20])
  (.seq (.reg false [⟨some 21, .mv (.c (.int .i64 1)), none⟩] [] [1, 2, 3, 4, 5, 12, 13, 14, 16, 17, 20, 21])
  (.seq (.reg false [⟨some 101, .ld (some 1) (.t 16), none⟩,
    ⟨some 102, .mv (.t 21), none⟩,
    ⟨some 103, .call 12 [.t 101, .t 102], none⟩,
    ⟨some 21, .mv (.t 103), none⟩] [] [1, 2, 3, 4, 5, 12, 13, 14, 16, 17, 20, 21])
  (.seq (.seq (.reg false [⟨some 104, .mv (.t 21), none⟩,
    ⟨some 105, .bin .lss (.t 104) (.c (.int .i64 0)), none⟩] [] [1, 2, 3, 4, 5, 12, 13, 14, 16, 17, 20, 21, 105])
  (.cond (.t 105)
  (.seq (.reg false [⟨some 10, .mv (.c (.bool false)), none⟩] [] [10])
  .ret)
  .skip))
  (.seq (.reg false [⟨some 106, .ld (some 9) (.t 17), none⟩,
    ⟨some 107, .mv (.t 21), none⟩,
    ⟨some 108, .call 13 [.t 106, .t 107], none⟩,
    ⟨some 21, .mv (.t 108), none⟩] [] [1, 2, 3, 4, 5, 12, 13, 14, 16, 17, 20, 21])
  (.seq (.seq (.reg false [⟨some 109, .mv (.t 21), none⟩,
    ⟨some 110, .bin .lss (.t 109) (.c (.int .i64 0)), none⟩] [] [1, 2, 3, 4, 5, 12, 13, 14, 16, 17, 20, 21, 110])
  (.cond (.t 110)
  (.seq (.reg false [⟨some 10, .mv (.c (.bool false)), none⟩] [] [10])
  .ret)
  .skip))
  (.seq (.seq (.reg false [⟨some 111, .mv (.t 21), none⟩,
    ⟨some 112, .mv (.t 20), none⟩,
    ⟨some 113, .bin .neq (.t 111) (.t 112), none⟩] [] [1, 2, 3, 4, 5, 12, 13, 14, 16, 17, 20, 113])
  (.cond (.t 113)
  (.seq (.reg false [⟨some 10, .mv (.c (.bool false)), none⟩] [] [10])
  .ret)
  .skip))
  (.seq (.reg false [⟨some 115, .ld (some 1) (.t 5), none⟩,
    ⟨some 116, .call 6 [.t 115], none⟩,
    ⟨some 117, .mv (.t 1), none⟩,
    ⟨some 118, .mv (.t 2), none⟩,
    ⟨some 119, .mv (.t 3), none⟩,
    ⟨some 120, .mv (.t 4), none⟩,
    ⟨some 121, .call 7 [.t 116, .t 117, .t 118, .t 119, .t 120], none⟩,
    ⟨some 114, .mv (.t 121), none⟩,
    ⟨some 122, .ext (.t 114) 0, none⟩,
    ⟨some 123, .ext (.t 114) 1, none⟩,
    ⟨some 124, .ext (.t 114) 2, none⟩,
    ⟨some 22, .new [.nil], none⟩,
    ⟨some 23, .new [.int .i64 0, .int .i64 0, .int .i64 0, .int .i64 0, .int .i64 0, .nil, .bool false, .bool false, .int .i64 0], none⟩,
    ⟨none, .st 1 (.t 22) (.t 122), none⟩,
    ⟨none, .st 9 (.t 23) (.t 123), none⟩,
    ⟨some 24, .mv (.t 124), none⟩] [] [12, 13, 14, 16, 17, 20, 22, 23, 24])
  (.seq (.seq (.reg false [⟨some 125, .ld (some 1) (.t 22), none⟩,
    ⟨some 126, .ld (some 1) (.t 12), none⟩,
    ⟨some 127, .call 8 [.t 125, .t 126], none⟩,
    ⟨some 128, .not (.t 127), none⟩,
    ⟨some 129, .mv (.t 128), none⟩,
    ⟨some 130, .ld (some 9) (.t 23), some (129, false)⟩,
    ⟨some 131, .ld (some 9) (.t 13), some (129, false)⟩,
    ⟨some 132, .call 9 [.t 130, .t 131], some (129, false)⟩,
    ⟨some 133, .not (.t 132), some (129, false)⟩,
    ⟨some 134, .pick (.t 129) (.c (.bool true)) (.t 133), none⟩,
    ⟨some 135, .mv (.t 134), none⟩,
    ⟨some 136, .mv (.t 24), some (135, false)⟩,
    ⟨some 137, .mv (.t 14), some (135, false)⟩,
    ⟨some 138, .eqb true (.t 136) (.t 137), some (135, false)⟩,
    ⟨some 139, .pick (.t 135) (.c (.bool true)) (.t 138), none⟩] [] [16, 17, 20, 139])
  (.cond (.t 139)
  (.seq (.reg false [⟨some 10, .mv (.c (.bool false)), none⟩] [] [10])
  .ret)
  .skip))
  (.seq (.reg false [⟨some 21, .mv (.c (.int .i64 1)), none⟩] [] [16, 17, 20, 21])
  (.seq (.reg false [⟨some 140, .ld (some 1) (.t 16), none⟩,
    ⟨some 141, .mv (.t 21), none⟩,
    ⟨some 142, .call 12 [.t 140, .t 141], none⟩,
    ⟨some 21, .mv (.t 142), none⟩] [] [17, 20, 21])
  (.seq (.seq (.reg false [⟨some 143, .mv (.t 21), none⟩,
    ⟨some 144, .bin .lss (.t 143) (.c (.int .i64 0)), none⟩] [] [17, 20, 21, 144])
  (.cond (.t 144)
  (.seq (.reg false [⟨some 10, .mv (.c (.bool false)), none⟩] [] [10])
  .ret)
  .skip))
  (.seq (.reg false [⟨some 145, .ld (some 9) (.t 17), none⟩,
    ⟨some 146, .mv (.t 21), none⟩,
    ⟨some 147, .call 13 [.t 145, .t 146], none⟩,
    ⟨some 21, .mv (.t 147), none⟩] [] [20, 21])
  (.seq (.seq (.reg false [⟨some 148, .mv (.t 21), none⟩,
    ⟨some 149, .bin .lss (.t 148) (.c (.int .i64 0)), none⟩] [] [20, 21, 149])
  (.cond (.t 149)
  (.seq (.reg false [⟨some 10, .mv (.c (.bool false)), none⟩] [] [10])
  .ret)
  .skip))
  (.seq (.seq (.reg false [⟨some 150, .mv (.t 21), none⟩,
    ⟨some 151, .mv (.t 20), none⟩,
    ⟨some 152, .bin .neq (.t 150) (.t 151), none⟩] [] [152])
  (.cond (.t 152)
  (.seq (.reg false [⟨some 10, .mv (.c (.bool false)), none⟩] [] [10])
  .ret)
  .skip))
  (.seq (.reg false [⟨some 10, .mv (.c (.bool true)), none⟩] [] [10])
  .ret)))))))))))))))))))))))))))))), [(10, none)]⟩
theorem laws_FnExactInstNew_ok : okFn Try.prog 3 laws_FnExactInstNew = true := by kernel_rfl
def laws_szPool : IFn := ⟨12, (.seq (.reg false [⟨some 2, .box (.t 0), none⟩,
    ⟨some 4, .mv (.c (.int .i64 0)), none⟩] [] [1, 2])
  (.seq (.reg false [⟨some 5, .fad 0 (.t 2), none⟩,
    ⟨some 6, .ld none (.t 5), none⟩,
    ⟨some 7, .mv (.t 1), none⟩,
    ⟨some 8, .call 14 [.t 6, .t 7], none⟩,
    ⟨some 1, .mv (.t 8), none⟩] [] [1])
  (.seq (.seq (.reg false [⟨some 9, .mv (.t 1), none⟩,
    ⟨some 10, .bin .lss (.t 9) (.c (.int .i64 0)), none⟩] [] [1, 10])
  (.cond (.t 10)
  (.seq (.reg false [⟨some 4, .mv (.c (.int .i64 (-1))), none⟩] [] [4])
  .ret)
  .skip))
  (.seq (.reg false [⟨some 11, .mv (.t 1), none⟩,
    ⟨some 4, .mv (.t 11), none⟩] [] [4])
  .ret)))), [(4, none)]⟩
theorem laws_szPool_ok : okFn Try.prog 4 laws_szPool = true := by kernel_rfl
def spec_InstNew : IFn := ⟨119, (.seq (.reg false [⟨some 5, .box (.t 0), none⟩,
    ⟨some 10, .new [.nil], none⟩,
    ⟨some 11, .new [.int .i64 0, .int .i64 0, .int .i64 0, .int .i64 0, .int .i64 0, .nil, .bool false, .bool false, .int .i64 0], none⟩,
    ⟨some 12, .mv (.c (.bool false)), none⟩] [] [1, 2, 3, 4, 5, 10, 11])
  (.seq (.seq (.reg false [⟨some 20, .ld (some 1) (.t 5), none⟩,
    ⟨some 21, .call 15 [.t 20], none⟩,
    ⟨some 22, .not (.t 21), none⟩] [] [1, 2, 3, 4, 5, 10, 11, 22])
  (.cond (.t 22)
  (.seq (.reg false [⟨some 23, .build [.nil] [], none⟩,
    ⟨some 24, .build [.int .i64 0, .int .i64 0, .int .i64 0, .int .i64 0, .int .i64 0, .nil, .bool false, .bool false, .int .i64 0] [], none⟩,
    ⟨none, .st 1 (.t 10) (.t 23), none⟩,
    ⟨none, .st 9 (.t 11) (.t 24), none⟩,
    ⟨some 12, .mv (.c (.bool false)), none⟩] [] [10, 11, 12])
  .ret)
  .skip))
  (.seq (.seq (.reg false [⟨some 25, .mv (.t 1), none⟩,
    ⟨some 26, .mv (.t 2), none⟩,
    ⟨some 27, .call 16 [.t 25, .t 26], none⟩,
    ⟨some 28, .not (.t 27), none⟩,
    ⟨some 29, .mv (.t 28), none⟩,
    ⟨some 30, .mv (.t 3), some (29, false)⟩,
    ⟨some 31, .call 17 [.t 30], some (29, false)⟩,
    ⟨some 32, .not (.t 31), some (29, false)⟩,
    ⟨some 33, .pick (.t 29) (.c (.bool true)) (.t 32), none⟩,
    ⟨some 34, .mv (.t 33), none⟩,
    ⟨some 35, .mv (.t 4), some (34, false)⟩,
    ⟨some 36, .call 17 [.t 35], some (34, false)⟩,
    ⟨some 37, .not (.t 36), some (34, false)⟩,
    ⟨some 38, .pick (.t 34) (.c (.bool true)) (.t 37), none⟩,
    ⟨some 39, .mv (.t 38), none⟩,
    ⟨some 40, .mv (.t 3), some (39, false)⟩,
    ⟨some 41, .mv (.t 4), some (39, false)⟩,
    ⟨some 42, .bin .eql (.t 40) (.t 41), some (39, false)⟩,
    ⟨some 43, .pick (.t 39) (.c (.bool true)) (.t 42), none⟩] [] [1, 2, 3, 4, 5, 10, 11, 43])
  (.cond (.t 43)
  (.seq (.reg false [⟨some 44, .ld (some 1) (.t 5), none⟩,
    ⟨some 45, .call 18 [.t 44], none⟩,
    ⟨some 46, .build [.int .i64 0, .int .i64 0, .int .i64 0, .int .i64 0, .int .i64 0, .nil, .bool false, .bool false, .int .i64 0] [], none⟩,
    ⟨none, .st 1 (.t 10) (.t 45), none⟩,
    ⟨none, .st 9 (.t 11) (.t 46), none⟩,
    ⟨some 12, .mv (.c (.bool false)), none⟩] [] [10, 11, 12])
  .ret)
  .skip))
  (.seq (.reg false [⟨some 47, .mv (.t 1), none⟩,
    ⟨some 48, .mv (.t 2), none⟩,
    ⟨some 49, .mv (.t 3), none⟩,
    ⟨some 50, .mv (.t 4), none⟩,
    ⟨some 51, .call 19 [], none⟩,
    ⟨some 52, .build [.int .i64 0, .int .i64 0, .int .i64 0, .int .i64 0, .int .i64 0, .nil, .bool false, .bool false, .int .i64 0] [(0, 1, .t 47), (1, 1, .t 48), (2, 1, .t 49), (3, 1, .t 50), (5, 1, .t 51), (8, 1, .c (.int .i64 (-1)))], none⟩,
    ⟨some 13, .new [.int .i64 0, .int .i64 0, .int .i64 0, .int .i64 0, .int .i64 0, .nil, .bool false, .bool false, .int .i64 0], none⟩,
    ⟨none, .st 9 (.t 13) (.t 52), none⟩] [] [3, 4, 5, 10, 11, 13])
  (.seq (.reg false [⟨some 53, .mv (.t 3), none⟩,
    ⟨some 54, .mv (.t 4), none⟩,
    ⟨some 55, .mv (.t 3), none⟩,
    ⟨some 56, .call 20 [.t 55], none⟩,
    ⟨some 57, .mv (.t 4), none⟩,
    ⟨some 58, .call 20 [.t 57], none⟩,
    ⟨some 59, .mv (.t 3), none⟩,
    ⟨some 60, .mv (.t 4), none⟩,
    ⟨some 61, .call 21 [.t 59, .t 60], none⟩,
    ⟨some 62, .mv (.t 3), none⟩,
    ⟨some 63, .call 22 [.t 62], none⟩,
    ⟨some 64, .mv (.t 4), none⟩,
    ⟨some 65, .call 22 [.t 64], none⟩,
    ⟨some 66, .bsl 1 7 [.int .i64 0] [(0, 1, .t 53), (1, 1, .t 54), (2, 1, .t 56), (3, 1, .t 58), (4, 1, .t 61), (5, 1, .t 63), (6, 1, .t 65)], none⟩,
    ⟨some 14, .mv (.t 66), none⟩] [] [5, 10, 11, 13, 14])
  (.seq (.reg false [⟨some 67, .bsl 1 7 [.int .u8 0] [(0, 1, .c (.int .u8 109)), (1, 1, .c (.int .u8 112)), (2, 1, .c (.int .u8 115)), (3, 1, .c (.int .u8 113)), (4, 1, .c (.int .u8 107)), (5, 1, .c (.int .u8 116)), (6, 1, .c (.int .u8 117))], none⟩,
    ⟨some 15, .mv (.t 67), none⟩] [] [5, 10, 11, 13, 14, 15])
  (.seq (.reg false [⟨some 68, .ld (some 1) (.t 5), none⟩,
    ⟨some 16, .new [.nil], none⟩,
    ⟨none, .st 1 (.t 16) (.t 68), none⟩] [] [5, 10, 11, 13, 14, 15, 16])
  (.seq (.seq (.reg false [⟨some 17, .mv (.c (.int .i64 0)), none⟩] [] [5, 10, 11, 13, 14, 15, 16, 17])
  (.block 0 (.loop (.seq (.seq (.reg false [⟨some 69, .mv (.t 17), none⟩,
    ⟨some 70, .mv (.t 14), none⟩,
    ⟨some 71, .len false (.t 70), none⟩,
    ⟨some 72, .bin .lss (.t 69) (.t 71), none⟩] [] [5, 10, 11, 13, 14, 15, 16, 17, 72])
  (.cond (.t 72)
  .skip
  (.exit 0)))
  (.seq (.block 1 (.seq (.reg true [⟨some 76, .ld (some 1) (.t 16), none⟩,
    ⟨some 77, .mv (.t 14), none⟩,
    ⟨some 78, .mv (.t 17), none⟩,
    ⟨some 79, .iad 1 (.t 77) (.t 78), none⟩,
    ⟨some 80, .ld none (.t 79), none⟩,
    ⟨some 81, .call 23 [.t 76, .t 80], none⟩,
    ⟨some 75, .mv (.t 81), none⟩,
    ⟨some 82, .ext (.t 75) 0, none⟩,
    ⟨some 83, .ext (.t 75) 1, none⟩,
    ⟨some 18, .new [.nil], none⟩,
    ⟨none, .st 1 (.t 18) (.t 82), none⟩,
    ⟨some 19, .mv (.t 83), none⟩] [0, 0, 0, 6, 14, 31, 63, 127, 127, 0, 767, 2047] [5, 10, 11, 13, 14, 15, 16, 17, 18, 19])
  (.seq (.seq (.reg false [⟨some 84, .mv (.t 19), none⟩,
    ⟨some 85, .bin .geq (.t 84) (.c (.int .i64 0)), none⟩,
    ⟨some 86, .mv (.t 85), none⟩,
    ⟨some 87, .mv (.t 15), some (86, true)⟩,
    ⟨some 88, .mv (.t 17), some (86, true)⟩,
    ⟨some 89, .iad 1 (.t 87) (.t 88), some (86, true)⟩,
    ⟨some 90, .ld none (.t 89), some (86, true)⟩,
    ⟨some 91, .bin .eql (.t 90) (.c (.int .u8 117)), some (86, true)⟩,
    ⟨some 92, .pick (.t 86) (.t 91) (.c (.bool false)), none⟩] [] [5, 10, 11, 13, 14, 15, 16, 17, 18, 19, 92])
  (.cond (.t 92)
  (.reg false [⟨some 94, .ld (some 1) (.t 18), none⟩,
    ⟨some 95, .mv (.t 19), none⟩,
    ⟨some 96, .build [.int .i64 0, .int .i64 0, .int .i64 0] [(0, 1, .c (.int .i64 7)), (1, 1, .t 95)], none⟩,
    ⟨some 97, .call 24 [.t 94, .t 96], none⟩,
    ⟨some 93, .mv (.t 97), none⟩,
    ⟨some 98, .ext (.t 93) 0, none⟩,
    ⟨some 99, .ext (.t 93) 1, none⟩,
    ⟨none, .st 1 (.t 18) (.t 98), none⟩,
    ⟨some 19, .mv (.t 99), none⟩] [] [5, 10, 11, 13, 14, 15, 16, 17, 18, 19])
  .skip))
  (.seq (.seq (.reg false [⟨some 100, .mv (.t 19), none⟩,
    ⟨some 101, .bin .lss (.t 100) (.c (.int .i64 0)), none⟩] [] [5, 10, 11, 13, 14, 15, 16, 17, 18, 19, 101])
  (.cond (.t 101)
  (.seq (.reg false [⟨some 102, .ld (some 1) (.t 5), none⟩,
    ⟨some 103, .call 18 [.t 102], none⟩,
    ⟨some 104, .build [.int .i64 0, .int .i64 0, .int .i64 0, .int .i64 0, .int .i64 0, .nil, .bool false, .bool false, .int .i64 0] [], none⟩,
    ⟨none, .st 1 (.t 10) (.t 103), none⟩,
    ⟨none, .st 9 (.t 11) (.t 104), none⟩,
    ⟨some 12, .mv (.c (.bool false)), none⟩] [] [10, 11, 12])
  .ret)
  .skip))
  (.seq (.reg false [⟨some 105, .ld (some 1) (.t 18), none⟩,
    ⟨none, .st 1 (.t 16) (.t 105), none⟩] [] [5, 10, 11, 13, 14, 15, 16, 17, 19])
  (.reg true [⟨some 106, .fad 5 (.t 13), none⟩,
    ⟨some 107, .ld none (.t 106), none⟩,
    ⟨some 108, .mv (.t 15), none⟩,
    ⟨some 109, .mv (.t 17), none⟩,
    ⟨some 110, .iad 1 (.t 108) (.t 109), none⟩,
    ⟨some 111, .ld none (.t 110), none⟩,
    ⟨some 112, .conv .i64 (.t 111), none⟩,
    ⟨some 113, .bin .sub (.t 112) (.c (.int .i64 97)), none⟩,
    ⟨some 114, .mv (.t 19), none⟩,
    ⟨some 115, .iad 1 (.t 107) (.t 113), none⟩,
    ⟨none, .st 1 (.t 115) (.t 114), none⟩] [0, 1, 0, 0, 12, 28, 60, 124, 0, 511, 1023] [5, 10, 11, 13, 14, 15, 16, 17]))))))
  (.reg false [⟨some 73, .mv (.t 17), none⟩,
    ⟨some 74, .bin .add (.t 73) (.c (.int .i64 1)), none⟩,
    ⟨some 17, .mv (.t 74), none⟩] [] [5, 10, 11, 13, 14, 15, 16, 17]))))))
  (.seq (.reg true [⟨some 116, .ld (some 1) (.t 16), none⟩,
    ⟨some 117, .call 18 [.t 116], none⟩,
    ⟨some 118, .ld (some 9) (.t 13), none⟩,
    ⟨none, .st 1 (.t 10) (.t 117), none⟩,
    ⟨none, .st 9 (.t 11) (.t 118), none⟩,
    ⟨some 12, .mv (.c (.bool true)), none⟩] [0, 1, 0, 3, 15, 31] [10, 11, 12])
  .ret))))))))), [(10, some (some 1)), (11, some (some 9)), (12, none)]⟩
theorem spec_InstNew_ok : okFn Try.prog 5 spec_InstNew = true := by kernel_rfl
def laws_toPool : IFn := ⟨9, (.seq (.reg false [⟨some 1, .box (.t 0), none⟩,
    ⟨some 2, .new [.nil], none⟩] [] [1, 2])
  (.seq (.reg false [⟨some 3, .new [.nil], none⟩] [] [1, 2, 3])
  (.seq (.reg false [⟨some 4, .fad 0 (.t 1), none⟩,
    ⟨some 5, .ld none (.t 4), none⟩,
    ⟨some 6, .call 25 [.t 5], none⟩,
    ⟨some 7, .fad 0 (.t 3), none⟩,
    ⟨none, .st 1 (.t 7) (.t 6), none⟩] [] [2, 3])
  (.seq (.reg false [⟨some 8, .ld (some 1) (.t 3), none⟩,
    ⟨none, .st 1 (.t 2) (.t 8), none⟩] [] [2])
  .ret)))), [(2, some (some 1))]⟩
theorem laws_toPool_ok : okFn Try.prog 6 laws_toPool = true := by kernel_rfl
def impl_InstNew : IFn := ⟨104, (.seq (.reg false [⟨some 5, .box (.t 0), none⟩,
    ⟨some 10, .new [.nil], none⟩,
    ⟨some 11, .new [.int .i64 0, .int .i64 0, .int .i64 0, .int .i64 0, .int .i64 0, .nil, .bool false, .bool false, .int .i64 0], none⟩,
    ⟨some 12, .mv (.c (.bool false)), none⟩] [] [1, 2, 3, 4, 5, 10, 11])
  (.seq (.seq (.reg false [⟨some 20, .ld (some 1) (.t 5), none⟩,
    ⟨some 21, .call 26 [.t 20], none⟩,
    ⟨some 22, .not (.t 21), none⟩] [] [1, 2, 3, 4, 5, 10, 11, 22])
  (.cond (.t 22)
  (.seq (.reg false [⟨some 23, .build [.nil] [], none⟩,
    ⟨some 24, .build [.int .i64 0, .int .i64 0, .int .i64 0, .int .i64 0, .int .i64 0, .nil, .bool false, .bool false, .int .i64 0] [], none⟩,
    ⟨none, .st 1 (.t 10) (.t 23), none⟩,
    ⟨none, .st 9 (.t 11) (.t 24), none⟩,
    ⟨some 12, .mv (.c (.bool false)), none⟩] [] [10, 11, 12])
  .ret)
  .skip))
  (.seq (.seq (.reg false [⟨some 25, .mv (.t 1), none⟩,
    ⟨some 26, .mv (.t 2), none⟩,
    ⟨some 27, .call 27 [.t 25, .t 26], none⟩,
    ⟨some 28, .bin .eql (.t 27) (.c (.str ⟨#[]⟩)), none⟩,
    ⟨some 29, .mv (.t 28), none⟩,
    ⟨some 30, .mv (.t 3), some (29, false)⟩,
    ⟨some 31, .call 28 [.t 30], some (29, false)⟩,
    ⟨some 32, .not (.t 31), some (29, false)⟩,
    ⟨some 33, .pick (.t 29) (.c (.bool true)) (.t 32), none⟩,
    ⟨some 34, .mv (.t 33), none⟩,
    ⟨some 35, .mv (.t 4), some (34, false)⟩,
    ⟨some 36, .call 28 [.t 35], some (34, false)⟩,
    ⟨some 37, .not (.t 36), some (34, false)⟩,
    ⟨some 38, .pick (.t 34) (.c (.bool true)) (.t 37), none⟩,
    ⟨some 39, .mv (.t 38), none⟩,
    ⟨some 40, .mv (.t 3), some (39, false)⟩,
    ⟨some 41, .mv (.t 4), some (39, false)⟩,
    ⟨some 42, .bin .eql (.t 40) (.t 41), some (39, false)⟩,
    ⟨some 43, .pick (.t 39) (.c (.bool true)) (.t 42), none⟩] [] [1, 2, 3, 4, 5, 10, 11, 43])
  (.cond (.t 43)
  (.seq (.reg false [⟨some 44, .ld (some 1) (.t 5), none⟩,
    ⟨some 45, .call 29 [.t 44], none⟩,
    ⟨some 46, .build [.int .i64 0, .int .i64 0, .int .i64 0, .int .i64 0, .int .i64 0, .nil, .bool false, .bool false, .int .i64 0] [], none⟩,
    ⟨none, .st 1 (.t 10) (.t 45), none⟩,
    ⟨none, .st 9 (.t 11) (.t 46), none⟩,
    ⟨some 12, .mv (.c (.bool false)), none⟩] [] [10, 11, 12])
  .ret)
  .skip))
  (.seq (.reg false [⟨some 47, .ld (some 1) (.t 5), none⟩,
    ⟨some 48, .call 29 [.t 47], none⟩,
    ⟨some 13, .new [.nil], none⟩,
    ⟨none, .st 1 (.t 13) (.t 48), none⟩] [] [1, 2, 3, 4, 5, 10, 11, 13])
  (.seq (.reg false [⟨some 49, .mv (.t 1), none⟩,
    ⟨some 50, .mv (.t 2), none⟩,
    ⟨some 51, .mv (.t 3), none⟩,
    ⟨some 52, .mv (.t 4), none⟩,
    ⟨some 53, .call 30 [], none⟩,
    ⟨some 54, .build [.int .i64 0, .int .i64 0, .int .i64 0, .int .i64 0, .int .i64 0, .nil, .bool false, .bool false, .int .i64 0] [(0, 1, .t 49), (1, 1, .t 50), (2, 1, .t 51), (3, 1, .t 52), (5, 1, .t 53), (8, 1, .c (.int .i64 (-1)))], none⟩,
    ⟨some 14, .new [.int .i64 0, .int .i64 0, .int .i64 0, .int .i64 0, .int .i64 0, .nil, .bool false, .bool false, .int .i64 0], none⟩,
    ⟨none, .st 9 (.t 14) (.t 54), none⟩] [] [3, 4, 5, 10, 11, 13, 14])
  (.seq (.reg false [⟨some 55, .mv (.t 3), none⟩,
    ⟨some 56, .mv (.t 4), none⟩,
    ⟨some 57, .mv (.t 3), none⟩,
    ⟨some 58, .call 31 [.t 57], none⟩,
    ⟨some 59, .mv (.t 4), none⟩,
    ⟨some 60, .call 31 [.t 59], none⟩,
    ⟨some 61, .mv (.t 3), none⟩,
    ⟨some 62, .mv (.t 4), none⟩,
    ⟨some 63, .call 32 [.t 61, .t 62], none⟩,
    ⟨some 64, .mv (.t 3), none⟩,
    ⟨some 65, .call 33 [.t 64], none⟩,
    ⟨some 66, .build [.int .i64 0, .int .i64 0, .int .i64 0, .int .i64 0, .int .i64 0, .int .i64 0] [(0, 1, .t 55), (1, 1, .t 56), (2, 1, .t 58), (3, 1, .t 60), (4, 1, .t 63), (5, 1, .t 65)], none⟩,
    ⟨some 15, .new [.int .i64 0, .int .i64 0, .int .i64 0, .int .i64 0, .int .i64 0, .int .i64 0], none⟩,
    ⟨none, .st 6 (.t 15) (.t 66), none⟩] [] [4, 5, 10, 11, 13, 14, 15])
  (.seq (.seq (.reg false [⟨some 67, .bsl 1 6 [.int .u8 0] [(0, 1, .c (.int .u8 109)), (1, 1, .c (.int .u8 112)), (2, 1, .c (.int .u8 115)), (3, 1, .c (.int .u8 113)), (4, 1, .c (.int .u8 107)), (5, 1, .c (.int .u8 116))], none⟩,
    ⟨some 68, .frz (.t 67), none⟩,
    ⟨some 69, .len false (.t 68), none⟩,
    ⟨some 70, .mv (.c (.int .i64 0)), none⟩] [] [4, 5, 10, 11, 13, 14, 15, 68, 69, 70])
  (.block 0 (.loop (.seq (.reg false [⟨some 71, .bin .lss (.t 70) (.t 69), none⟩] [] [4, 5, 10, 11, 13, 14, 15, 68, 69, 70, 71])
  (.seq (.cond (.t 71)
  .skip
  (.exit 0))
  (.seq (.block 1 (.seq (.reg false [⟨some 72, .mv (.t 70), none⟩,
    ⟨some 73, .iad 1 (.t 68) (.t 70), none⟩,
    ⟨some 74, .ld none (.t 73), none⟩,
    ⟨some 16, .mv (.t 72), none⟩,
    ⟨some 17, .mv (.t 74), none⟩] [] [4, 5, 10, 11, 13, 14, 15, 16, 17, 68, 69, 70])
  (.seq (.reg false [⟨some 75, .mv (.t 16), none⟩,
    ⟨some 76, .iada 6 1 (.t 15) (.t 75), none⟩,
    ⟨some 77, .ld none (.t 76), none⟩,
    ⟨some 78, .call 34 [.t 13, .t 77], none⟩,
    ⟨some 18, .mv (.t 78), none⟩] [] [4, 5, 10, 11, 13, 14, 15, 17, 18, 68, 69, 70])
  (.seq (.seq (.reg false [⟨some 79, .mv (.t 18), none⟩,
    ⟨some 80, .bin .lss (.t 79) (.c (.int .i64 0)), none⟩] [] [4, 5, 10, 11, 13, 14, 15, 17, 18, 68, 69, 70, 80])
  (.cond (.t 80)
  (.seq (.reg false [⟨some 81, .ld (some 1) (.t 5), none⟩,
    ⟨some 82, .call 29 [.t 81], none⟩,
    ⟨some 83, .build [.int .i64 0, .int .i64 0, .int .i64 0, .int .i64 0, .int .i64 0, .nil, .bool false, .bool false, .int .i64 0] [], none⟩,
    ⟨none, .st 1 (.t 10) (.t 82), none⟩,
    ⟨none, .st 9 (.t 11) (.t 83), none⟩,
    ⟨some 12, .mv (.c (.bool false)), none⟩] [] [10, 11, 12])
  .ret)
  .skip))
  (.reg false [⟨some 84, .fad 5 (.t 14), none⟩,
    ⟨some 85, .ld none (.t 84), none⟩,
    ⟨some 86, .mv (.t 17), none⟩,
    ⟨some 87, .bin .sub (.t 86) (.c (.int .u8 97)), none⟩,
    ⟨some 88, .mv (.t 18), none⟩,
    ⟨some 89, .iad 1 (.t 85) (.t 87), none⟩,
    ⟨none, .st 1 (.t 89) (.t 88), none⟩] [] [4, 5, 10, 11, 13, 14, 15, 68, 69, 70])))))
  (.reg false [⟨some 90, .bin .add (.t 70) (.c (.int .i64 1)), none⟩,
    ⟨some 70, .mv (.t 90), none⟩] [] [4, 5, 10, 11, 13, 14, 15, 68, 69, 70])))))))
  (.seq (.reg false [⟨some 91, .mv (.t 4), none⟩,
    ⟨some 92, .call 35 [.t 13, .t 91], none⟩,
    ⟨some 19, .mv (.t 92), none⟩] [] [5, 10, 11, 13, 14, 19])
  (.seq (.seq (.reg false [⟨some 93, .mv (.t 19), none⟩,
    ⟨some 94, .bin .lss (.t 93) (.c (.int .i64 0)), none⟩] [] [5, 10, 11, 13, 14, 19, 94])
  (.cond (.t 94)
  (.seq (.reg false [⟨some 95, .ld (some 1) (.t 5), none⟩,
    ⟨some 96, .call 29 [.t 95], none⟩,
    ⟨some 97, .build [.int .i64 0, .int .i64 0, .int .i64 0, .int .i64 0, .int .i64 0, .nil, .bool false, .bool false, .int .i64 0] [], none⟩,
    ⟨none, .st 1 (.t 10) (.t 96), none⟩,
    ⟨none, .st 9 (.t 11) (.t 97), none⟩,
    ⟨some 12, .mv (.c (.bool false)), none⟩] [] [10, 11, 12])
  .ret)
  .skip))
  (.seq (.reg false [⟨some 98, .fad 5 (.t 14), none⟩,
    ⟨some 99, .ld none (.t 98), none⟩,
    ⟨some 100, .mv (.t 19), none⟩,
    ⟨some 101, .iad 1 (.t 99) (.c (.int .i64 20)), none⟩,
    ⟨none, .st 1 (.t 101) (.t 100), none⟩] [] [10, 11, 13, 14])
  (.seq (.reg true [⟨some 102, .ld (some 1) (.t 13), none⟩,
    ⟨some 103, .ld (some 9) (.t 14), none⟩,
    ⟨none, .st 1 (.t 10) (.t 102), none⟩,
    ⟨none, .st 9 (.t 11) (.t 103), none⟩,
    ⟨some 12, .mv (.c (.bool true)), none⟩] [0, 0, 1, 7, 15] [10, 11, 12])
  .ret))))))))))), [(10, some (some 1)), (11, some (some 9)), (12, none)]⟩
theorem impl_InstNew_ok : okFn Try.prog 7 impl_InstNew = true := by kernel_rfl
def laws_eqPool : IFn := ⟨11, (.seq (.reg false [⟨some 2, .box (.t 0), none⟩,
    ⟨some 3, .box (.t 1), none⟩,
    ⟨some 4, .mv (.c (.bool false)), none⟩] [] [2, 3])
  (.seq (.seq (.reg false [⟨some 5, .fad 0 (.t 2), none⟩,
    ⟨some 6, .ld none (.t 5), none⟩,
    ⟨some 7, .fad 0 (.t 3), none⟩,
    ⟨some 8, .ld none (.t 7), none⟩,
    ⟨some 9, .call 36 [.t 6, .t 8], none⟩,
    ⟨some 10, .not (.t 9), none⟩] [] [10])
  (.cond (.t 10)
  (.seq (.reg false [⟨some 4, .mv (.c (.bool false)), none⟩] [] [4])
  .ret)
  .skip))
  (.seq (.reg false [⟨some 4, .mv (.c (.bool true)), none⟩] [] [4])
  .ret))), [(4, none)]⟩
theorem laws_eqPool_ok : okFn Try.prog 8 laws_eqPool = true := by kernel_rfl
def laws_eqInst : IFn := ⟨51, (.seq (.reg false [⟨some 2, .box (.t 0), none⟩,
    ⟨some 3, .box (.t 1), none⟩,
    ⟨some 4, .mv (.c (.bool false)), none⟩] [] [2, 3])
  (.seq (.seq (.reg false [⟨some 5, .fad 0 (.t 2), none⟩,
    ⟨some 6, .ld none (.t 5), none⟩,
    ⟨some 7, .fad 0 (.t 3), none⟩,
    ⟨some 8, .ld none (.t 7), none⟩,
    ⟨some 9, .bin .neq (.t 6) (.t 8), none⟩] [] [2, 3, 9])
  (.cond (.t 9)
  (.seq (.reg false [⟨some 4, .mv (.c (.bool false)), none⟩] [] [4])
  .ret)
  .skip))
  (.seq (.seq (.reg false [⟨some 10, .fad 1 (.t 2), none⟩,
    ⟨some 11, .ld none (.t 10), none⟩,
    ⟨some 12, .fad 1 (.t 3), none⟩,
    ⟨some 13, .ld none (.t 12), none⟩,
    ⟨some 14, .bin .neq (.t 11) (.t 13), none⟩] [] [2, 3, 14])
  (.cond (.t 14)
  (.seq (.reg false [⟨some 4, .mv (.c (.bool false)), none⟩] [] [4])
  .ret)
  .skip))
  (.seq (.seq (.reg false [⟨some 15, .fad 2 (.t 2), none⟩,
    ⟨some 16, .ld none (.t 15), none⟩,
    ⟨some 17, .fad 2 (.t 3), none⟩,
    ⟨some 18, .ld none (.t 17), none⟩,
    ⟨some 19, .bin .neq (.t 16) (.t 18), none⟩] [] [2, 3, 19])
  (.cond (.t 19)
  (.seq (.reg false [⟨some 4, .mv (.c (.bool false)), none⟩] [] [4])
  .ret)
  .skip))
  (.seq (.seq (.reg false [⟨some 20, .fad 3 (.t 2), none⟩,
    ⟨some 21, .ld none (.t 20), none⟩,
    ⟨some 22, .fad 3 (.t 3), none⟩,
    ⟨some 23, .ld none (.t 22), none⟩,
    ⟨some 24, .bin .neq (.t 21) (.t 23), none⟩] [] [2, 3, 24])
  (.cond (.t 24)
  (.seq (.reg false [⟨some 4, .mv (.c (.bool false)), none⟩] [] [4])
  .ret)
  .skip))
  (.seq (.seq (.reg false [⟨some 25, .fad 4 (.t 2), none⟩,
    ⟨some 26, .ld none (.t 25), none⟩,
    ⟨some 27, .fad 4 (.t 3), none⟩,
    ⟨some 28, .ld none (.t 27), none⟩,
    ⟨some 29, .bin .neq (.t 26) (.t 28), none⟩] [] [2, 3, 29])
  (.cond (.t 29)
  (.seq (.reg false [⟨some 4, .mv (.c (.bool false)), none⟩] [] [4])
  .ret)
  .skip))
  (.seq (.seq (.reg false [⟨some 30, .fad 5 (.t 2), none⟩,
    ⟨some 31, .ld none (.t 30), none⟩,
    ⟨some 32, .fad 5 (.t 3), none⟩,
    ⟨some 33, .ld none (.t 32), none⟩,
    ⟨some 34, .call 37 [.t 31, .t 33], none⟩,
    ⟨some 35, .not (.t 34), none⟩] [] [2, 3, 35])
  (.cond (.t 35)
  (.seq (.reg false [⟨some 4, .mv (.c (.bool false)), none⟩] [] [4])
  .ret)
  .skip))
  (.seq (.seq (.reg false [⟨some 36, .fad 6 (.t 2), none⟩,
    ⟨some 37, .ld none (.t 36), none⟩,
    ⟨some 38, .fad 6 (.t 3), none⟩,
    ⟨some 39, .ld none (.t 38), none⟩,
    ⟨some 40, .eqb true (.t 37) (.t 39), none⟩] [] [2, 3, 40])
  (.cond (.t 40)
  (.seq (.reg false [⟨some 4, .mv (.c (.bool false)), none⟩] [] [4])
  .ret)
  .skip))
  (.seq (.seq (.reg false [⟨some 41, .fad 7 (.t 2), none⟩,
    ⟨some 42, .ld none (.t 41), none⟩,
    ⟨some 43, .fad 7 (.t 3), none⟩,
    ⟨some 44, .ld none (.t 43), none⟩,
    ⟨some 45, .eqb true (.t 42) (.t 44), none⟩] [] [2, 3, 45])
  (.cond (.t 45)
  (.seq (.reg false [⟨some 4, .mv (.c (.bool false)), none⟩] [] [4])
  .ret)
  .skip))
  (.seq (.seq (.reg false [⟨some 46, .fad 8 (.t 2), none⟩,
    ⟨some 47, .ld none (.t 46), none⟩,
    ⟨some 48, .fad 8 (.t 3), none⟩,
    ⟨some 49, .ld none (.t 48), none⟩,
    ⟨some 50, .bin .neq (.t 47) (.t 49), none⟩] [] [50])
  (.cond (.t 50)
  (.seq (.reg false [⟨some 4, .mv (.c (.bool false)), none⟩] [] [4])
  .ret)
  .skip))
  (.seq (.reg false [⟨some 4, .mv (.c (.bool true)), none⟩] [] [4])
  .ret))))))))))), [(4, none)]⟩
theorem laws_eqInst_ok : okFn Try.prog 9 laws_eqInst = true := by kernel_rfl
def laws_markPool : IFn := ⟨10, (.seq (.reg false [⟨some 2, .box (.t 0), none⟩,
    ⟨some 4, .mv (.c (.int .i64 0)), none⟩] [] [1, 2])
  (.seq (.reg false [⟨some 5, .fad 0 (.t 2), none⟩,
    ⟨some 6, .ld none (.t 5), none⟩,
    ⟨some 7, .mv (.t 1), none⟩,
    ⟨some 8, .call 38 [.t 6, .t 7], none⟩,
    ⟨some 1, .mv (.t 8), none⟩] [] [1])
  (.seq (.reg false [⟨some 9, .mv (.t 1), none⟩,
    ⟨some 4, .mv (.t 9), none⟩] [] [4])
  .ret))), [(4, none)]⟩
theorem laws_markPool_ok : okFn Try.prog 10 laws_markPool = true := by kernel_rfl
def laws_markInst : IFn := ⟨10, (.seq (.reg false [⟨some 2, .box (.t 0), none⟩,
    ⟨some 4, .mv (.c (.int .i64 0)), none⟩] [] [1, 2])
  (.seq (.reg false [⟨some 5, .fad 5 (.t 2), none⟩,
    ⟨some 6, .ld none (.t 5), none⟩,
    ⟨some 7, .mv (.t 1), none⟩,
    ⟨some 8, .call 39 [.t 6, .t 7], none⟩,
    ⟨some 1, .mv (.t 8), none⟩] [] [1])
  (.seq (.reg false [⟨some 9, .mv (.t 1), none⟩,
    ⟨some 4, .mv (.t 9), none⟩] [] [4])
  .ret))), [(4, none)]⟩
theorem laws_markInst_ok : okFn Try.prog 11 laws_markInst = true := by kernel_rfl
def laws_heldPool : IFn := ⟨12, (.seq (.reg false [⟨some 2, .box (.t 0), none⟩,
    ⟨some 4, .mv (.c (.int .i64 0)), none⟩] [] [1, 2])
  (.seq (.reg false [⟨some 5, .fad 0 (.t 2), none⟩,
    ⟨some 6, .ld none (.t 5), none⟩,
    ⟨some 7, .mv (.t 1), none⟩,
    ⟨some 8, .call 40 [.t 6, .t 7], none⟩,
    ⟨some 1, .mv (.t 8), none⟩] [] [1])
  (.seq (.seq (.reg false [⟨some 9, .mv (.t 1), none⟩,
    ⟨some 10, .bin .lss (.t 9) (.c (.int .i64 0)), none⟩] [] [1, 10])
  (.cond (.t 10)
  (.seq (.reg false [⟨some 4, .mv (.c (.int .i64 (-1))), none⟩] [] [4])
  .ret)
  .skip))
  (.seq (.reg false [⟨some 11, .mv (.t 1), none⟩,
    ⟨some 4, .mv (.t 11), none⟩] [] [4])
  .ret)))), [(4, none)]⟩
theorem laws_heldPool_ok : okFn Try.prog 12 laws_heldPool = true := by kernel_rfl
def laws_heldInst : IFn := ⟨12, (.seq (.reg false [⟨some 2, .box (.t 0), none⟩,
    ⟨some 4, .mv (.c (.int .i64 0)), none⟩] [] [1, 2])
  (.seq (.reg false [⟨some 5, .fad 5 (.t 2), none⟩,
    ⟨some 6, .ld none (.t 5), none⟩,
    ⟨some 7, .mv (.t 1), none⟩,
    ⟨some 8, .call 41 [.t 6, .t 7], none⟩,
    ⟨some 1, .mv (.t 8), none⟩] [] [1])
  (.seq (.seq (.reg false [⟨some 9, .mv (.t 1), none⟩,
    ⟨some 10, .bin .lss (.t 9) (.c (.int .i64 0)), none⟩] [] [1, 10])
  (.cond (.t 10)
  (.seq (.reg false [⟨some 4, .mv (.c (.int .i64 (-1))), none⟩] [] [4])
  .ret)
  .skip))
  (.seq (.reg false [⟨some 11, .mv (.t 1), none⟩,
    ⟨some 4, .mv (.t 11), none⟩] [] [4])
  .ret)))), [(4, none)]⟩
theorem laws_heldInst_ok : okFn Try.prog 13 laws_heldInst = true := by kernel_rfl
def laws_szNodeS : IFn := ⟨12, (.seq (.reg false [⟨some 4, .mv (.c (.int .i64 0)), none⟩] [] [0, 1])
  (.seq (.reg false [⟨some 5, .mv (.t 1), none⟩,
    ⟨some 6, .mv (.t 0), none⟩,
    ⟨some 7, .len false (.t 6), none⟩,
    ⟨some 8, .bin .sub (.t 5) (.t 7), none⟩,
    ⟨some 1, .mv (.t 8), none⟩] [] [1])
  (.seq (.seq (.reg false [⟨some 9, .mv (.t 1), none⟩,
    ⟨some 10, .bin .lss (.t 9) (.c (.int .i64 0)), none⟩] [] [1, 10])
  (.cond (.t 10)
  (.seq (.reg false [⟨some 4, .mv (.c (.int .i64 (-1))), none⟩] [] [4])
  .ret)
  .skip))
  (.seq (.reg false [⟨some 11, .mv (.t 1), none⟩,
    ⟨some 4, .mv (.t 11), none⟩] [] [4])
  .ret)))), [(4, none)]⟩
theorem laws_szNodeS_ok : okFn Try.prog 14 laws_szNodeS = true := by kernel_rfl
def spec_PoolOk : IFn := ⟨34, (.seq (.reg false [⟨some 1, .box (.t 0), none⟩,
    ⟨some 2, .mv (.c (.bool false)), none⟩] [] [1])
  (.seq (.seq (.reg false [⟨some 4, .fad 0 (.t 1), none⟩,
    ⟨some 5, .ld none (.t 4), none⟩,
    ⟨some 6, .len false (.t 5), none⟩,
    ⟨some 7, .bin .gtr (.t 6) (.c (.int .i64 500)), none⟩] [] [1, 7])
  (.cond (.t 7)
  (.seq (.reg false [⟨some 2, .mv (.c (.bool false)), none⟩] [] [2])
  .ret)
  .skip))
  (.seq (.seq (.reg false [⟨some 3, .mv (.c (.int .i64 0)), none⟩] [] [1, 3])
  (.block 0 (.loop (.seq (.seq (.reg false [⟨some 8, .mv (.t 3), none⟩,
    ⟨some 9, .fad 0 (.t 1), none⟩,
    ⟨some 10, .ld none (.t 9), none⟩,
    ⟨some 11, .len false (.t 10), none⟩,
    ⟨some 12, .bin .lss (.t 8) (.t 11), none⟩] [] [1, 3, 12])
  (.cond (.t 12)
  .skip
  (.exit 0)))
  (.seq (.block 1 (.seq (.reg true [⟨some 15, .fad 0 (.t 1), none⟩,
    ⟨some 16, .ld none (.t 15), none⟩,
    ⟨some 17, .mv (.t 3), none⟩,
    ⟨some 18, .iad 3 (.t 16) (.t 17), none⟩,
    ⟨some 19, .ld (some 3) (.t 18), none⟩,
    ⟨some 20, .mv (.t 3), none⟩,
    ⟨some 21, .call 42 [.t 19, .t 20], none⟩,
    ⟨some 22, .not (.t 21), none⟩,
    ⟨some 23, .mv (.t 22), none⟩,
    ⟨some 24, .ld (some 1) (.t 1), some (23, false)⟩,
    ⟨some 25, .fad 0 (.t 1), some (23, false)⟩,
    ⟨some 26, .ld none (.t 25), some (23, false)⟩,
    ⟨some 27, .mv (.t 3), some (23, false)⟩,
    ⟨some 28, .iad 3 (.t 26) (.t 27), some (23, false)⟩,
    ⟨some 29, .ld (some 3) (.t 28), some (23, false)⟩,
    ⟨some 30, .call 43 [.t 24, .t 29], some (23, false)⟩,
    ⟨some 31, .mv (.t 3), some (23, false)⟩,
    ⟨some 32, .bin .neq (.t 30) (.t 31), some (23, false)⟩,
    ⟨some 33, .pick (.t 23) (.c (.bool true)) (.t 32), none⟩] [0, 1, 0, 7, 15, 0, 63, 127, 255, 511, 511, 1535, 511, 7679, 15871, 32767, 511, 131071, 262143] [1, 3, 33])
  (.cond (.t 33)
  (.seq (.reg false [⟨some 2, .mv (.c (.bool false)), none⟩] [] [2])
  .ret)
  .skip)))
  (.reg false [⟨some 13, .mv (.t 3), none⟩,
    ⟨some 14, .bin .add (.t 13) (.c (.int .i64 1)), none⟩,
    ⟨some 3, .mv (.t 14), none⟩] [] [1, 3]))))))
  (.seq (.reg false [⟨some 2, .mv (.c (.bool true)), none⟩] [] [2])
  .ret)))), [(2, none)]⟩
theorem spec_PoolOk_ok : okFn Try.prog 15 spec_PoolOk = true := by kernel_rfl
def spec_l13Role : IFn := ⟨9, (.seq (.reg false [⟨some 4, .mv (.c (.bool false)), none⟩] [] [0, 1])
  (.seq (.reg false [⟨some 5, .mv (.t 0), none⟩,
    ⟨some 6, .mv (.t 1), none⟩,
    ⟨some 7, .call 44 [.t 5, .t 6], none⟩,
    ⟨some 8, .bin .neq (.t 7) (.c (.str ⟨#[]⟩)), none⟩,
    ⟨some 4, .mv (.t 8), none⟩] [] [4])
  .ret)), [(4, none)]⟩
theorem spec_l13Role_ok : okFn Try.prog 16 spec_l13Role = true := by kernel_rfl
def spec_l2Agent : IFn := ⟨5, (.seq (.reg false [⟨some 2, .mv (.c (.bool false)), none⟩] [] [0])
  (.seq (.reg false [⟨some 3, .mv (.t 0), none⟩,
    ⟨some 4, .call 45 [.t 3, .c (.int .i64 0), .c (.int .i64 4)], none⟩,
    ⟨some 2, .mv (.t 4), none⟩] [] [2])
  .ret)), [(2, none)]⟩
theorem spec_l2Agent_ok : okFn Try.prog 17 spec_l2Agent = true := by kernel_rfl
def spec_l1Copy : IFn := ⟨8, (.seq (.reg false [⟨some 1, .box (.t 0), none⟩,
    ⟨some 2, .new [.nil], none⟩] [] [1, 2])
  (.seq (.reg false [⟨some 3, .bsl 3 0 [.int .i64 0, .int .i64 0, .int .i64 0] [], none⟩,
    ⟨some 4, .fad 0 (.t 1), none⟩,
    ⟨some 5, .ld none (.t 4), none⟩,
    ⟨some 6, .app 3 24 (.t 3) (.t 5), none⟩,
    ⟨some 7, .build [.nil] [(0, 1, .t 6)], none⟩,
    ⟨none, .st 1 (.t 2) (.t 7), none⟩] [] [2])
  .ret)), [(2, some (some 1))]⟩
theorem spec_l1Copy_ok : okFn Try.prog 18 spec_l1Copy = true := by kernel_rfl
def spec_EnvNew : IFn := ⟨12, (.seq (.reg false [⟨some 0, .mv (.c (.nil)), none⟩] [] [])
  (.seq (.reg false [⟨some 3, .bsl 1 0 [.int .i64 0] [], none⟩,
    ⟨some 1, .mv (.t 3), none⟩] [] [1])
  (.seq (.seq (.reg false [⟨some 2, .mv (.c (.int .i64 0)), none⟩] [] [1, 2])
  (.block 0 (.loop (.seq (.seq (.reg false [⟨some 4, .mv (.t 2), none⟩,
    ⟨some 5, .bin .lss (.t 4) (.c (.int .i64 26)), none⟩] [] [1, 2, 5])
  (.cond (.t 5)
  .skip
  (.exit 0)))
  (.seq (.block 1 (.reg false [⟨some 8, .mv (.t 1), none⟩,
    ⟨some 9, .bsl 1 1 [.int .i64 0] [(0, 1, .c (.int .i64 (-1)))], none⟩,
    ⟨some 10, .app 1 8 (.t 8) (.t 9), none⟩,
    ⟨some 1, .mv (.t 10), none⟩] [] [1, 2]))
  (.reg false [⟨some 6, .mv (.t 2), none⟩,
    ⟨some 7, .bin .add (.t 6) (.c (.int .i64 1)), none⟩,
    ⟨some 2, .mv (.t 7), none⟩] [] [1, 2]))))))
  (.seq (.reg false [⟨some 11, .mv (.t 1), none⟩,
    ⟨some 0, .mv (.t 11), none⟩] [] [0])
  .ret)))), [(0, none)]⟩
theorem spec_EnvNew_ok : okFn Try.prog 19 spec_EnvNew = true := by kernel_rfl
def spec_LongKey : IFn := ⟨8, (.seq (.reg false [⟨some 2, .mv (.c (.int .i64 0)), none⟩] [] [0])
  (.seq (.seq (.reg false [⟨some 3, .mv (.t 0), none⟩,
    ⟨some 4, .call 17 [.t 3], none⟩,
    ⟨some 5, .not (.t 4), none⟩] [] [0, 5])
  (.cond (.t 5)
  (.seq (.reg false [⟨some 2, .mv (.c (.int .i64 (-1))), none⟩] [] [2])
  .ret)
  .skip))
  (.seq (.reg false [⟨some 6, .mv (.t 0), none⟩,
    ⟨some 7, .bin .add (.c (.int .i64 50)) (.t 6), none⟩,
    ⟨some 2, .mv (.t 7), none⟩] [] [2])
  .ret))), [(2, none)]⟩
theorem spec_LongKey_ok : okFn Try.prog 20 spec_LongKey = true := by kernel_rfl
def spec_SharedKey : IFn := ⟨27, (.seq (.reg false [⟨some 4, .mv (.c (.int .i64 0)), none⟩] [] [0, 1])
  (.seq (.seq (.reg false [⟨some 5, .mv (.t 0), none⟩,
    ⟨some 6, .call 17 [.t 5], none⟩,
    ⟨some 7, .not (.t 6), none⟩,
    ⟨some 8, .mv (.t 7), none⟩,
    ⟨some 9, .mv (.t 1), some (8, false)⟩,
    ⟨some 10, .call 17 [.t 9], some (8, false)⟩,
    ⟨some 11, .not (.t 10), some (8, false)⟩,
    ⟨some 12, .pick (.t 8) (.c (.bool true)) (.t 11), none⟩,
    ⟨some 13, .mv (.t 12), none⟩,
    ⟨some 14, .mv (.t 0), some (13, false)⟩,
    ⟨some 15, .mv (.t 1), some (13, false)⟩,
    ⟨some 16, .bin .eql (.t 14) (.t 15), some (13, false)⟩,
    ⟨some 17, .pick (.t 13) (.c (.bool true)) (.t 16), none⟩] [] [0, 1, 17])
  (.cond (.t 17)
  (.seq (.reg false [⟨some 4, .mv (.c (.int .i64 (-1))), none⟩] [] [4])
  .ret)
  .skip))
  (.seq (.reg false [⟨some 18, .mv (.t 0), none⟩,
    ⟨some 19, .mv (.t 1), none⟩,
    ⟨some 20, .call 46 [.t 18, .t 19], none⟩,
    ⟨some 21, .bin .mul (.c (.int .i64 5)) (.t 20), none⟩,
    ⟨some 22, .bin .add (.c (.int .i64 60)) (.t 21), none⟩,
    ⟨some 23, .mv (.t 0), none⟩,
    ⟨some 24, .mv (.t 1), none⟩,
    ⟨some 25, .call 47 [.t 23, .t 24], none⟩,
    ⟨some 26, .bin .add (.t 22) (.t 25), none⟩,
    ⟨some 4, .mv (.t 26), none⟩] [] [4])
  .ret))), [(4, none)]⟩
theorem spec_SharedKey_ok : okFn Try.prog 21 spec_SharedKey = true := by kernel_rfl
def spec_StaticKey : IFn := ⟨8, (.seq (.reg false [⟨some 2, .mv (.c (.int .i64 0)), none⟩] [] [0])
  (.seq (.seq (.reg false [⟨some 3, .mv (.t 0), none⟩,
    ⟨some 4, .call 17 [.t 3], none⟩,
    ⟨some 5, .not (.t 4), none⟩] [] [0, 5])
  (.cond (.t 5)
  (.seq (.reg false [⟨some 2, .mv (.c (.int .i64 (-1))), none⟩] [] [2])
  .ret)
  .skip))
  (.seq (.reg false [⟨some 6, .mv (.t 0), none⟩,
    ⟨some 7, .bin .add (.c (.int .i64 90)) (.t 6), none⟩,
    ⟨some 2, .mv (.t 7), none⟩] [] [2])
  .ret))), [(2, none)]⟩
theorem spec_StaticKey_ok : okFn Try.prog 22 spec_StaticKey = true := by kernel_rfl
def spec_l2Name : IFn := ⟨12, (.seq (.reg false [⟨some 2, .box (.t 0), none⟩,
    ⟨some 4, .new [.nil], none⟩,
    ⟨some 5, .mv (.c (.int .i64 0)), none⟩] [] [1, 2, 4])
  (.seq (.reg false [⟨some 6, .ld (some 1) (.t 2), none⟩,
    ⟨some 7, .mv (.t 1), none⟩,
    ⟨some 8, .build [.int .i64 0, .int .i64 0, .int .i64 0] [(0, 1, .c (.int .i64 1)), (1, 1, .t 7)], none⟩,
    ⟨some 9, .call 24 [.t 6, .t 8], none⟩,
    ⟨some 10, .ext (.t 9) 0, none⟩,
    ⟨some 11, .ext (.t 9) 1, none⟩,
    ⟨none, .st 1 (.t 4) (.t 10), none⟩,
    ⟨some 5, .mv (.t 11), none⟩] [] [4, 5])
  .ret)), [(4, some (some 1)), (5, none)]⟩
theorem spec_l2Name_ok : okFn Try.prog 23 spec_l2Name = true := by kernel_rfl
def spec_l1Add : IFn := ⟨57, (.seq (.reg false [⟨some 2, .box (.t 0), none⟩,
    ⟨some 3, .box (.t 1), none⟩,
    ⟨some 4, .new [.nil], none⟩,
    ⟨some 5, .mv (.c (.int .i64 0)), none⟩] [] [2, 3, 4])
  (.seq (.seq (.reg false [⟨some 8, .fad 0 (.t 3), none⟩,
    ⟨some 9, .ld none (.t 8), none⟩,
    ⟨some 10, .bin .eql (.t 9) (.c (.int .i64 8)), none⟩,
    ⟨some 11, .mv (.t 10), none⟩,
    ⟨some 12, .fad 1 (.t 3), some (11, true)⟩,
    ⟨some 13, .ld none (.t 12), some (11, true)⟩,
    ⟨some 14, .fad 2 (.t 3), some (11, true)⟩,
    ⟨some 15, .ld none (.t 14), some (11, true)⟩,
    ⟨some 16, .bin .gtr (.t 13) (.t 15), some (11, true)⟩,
    ⟨some 17, .pick (.t 11) (.t 16) (.c (.bool false)), none⟩] [] [2, 3, 4, 17])
  (.cond (.t 17)
  (.reg false [⟨some 18, .fad 0 (.t 3), none⟩,
    ⟨some 19, .ld none (.t 18), none⟩,
    ⟨some 20, .fad 2 (.t 3), none⟩,
    ⟨some 21, .ld none (.t 20), none⟩,
    ⟨some 22, .fad 1 (.t 3), none⟩,
    ⟨some 23, .ld none (.t 22), none⟩,
    ⟨some 24, .build [.int .i64 0, .int .i64 0, .int .i64 0] [(0, 1, .t 19), (1, 1, .t 21), (2, 1, .t 23)], none⟩,
    ⟨none, .st 3 (.t 3) (.t 24), none⟩] [] [2, 3, 4])
  .skip))
  (.seq (.reg false [⟨some 25, .ld (some 1) (.t 2), none⟩,
    ⟨some 26, .ld (some 3) (.t 3), none⟩,
    ⟨some 27, .call 43 [.t 25, .t 26], none⟩,
    ⟨some 6, .mv (.t 27), none⟩] [] [2, 3, 4, 6])
  (.seq (.seq (.reg false [⟨some 28, .mv (.t 6), none⟩,
    ⟨some 29, .bin .geq (.t 28) (.c (.int .i64 0)), none⟩] [] [2, 3, 4, 6, 29])
  (.cond (.t 29)
  (.seq (.reg false [⟨some 30, .ld (some 1) (.t 2), none⟩,
    ⟨some 31, .mv (.t 6), none⟩,
    ⟨none, .st 1 (.t 4) (.t 30), none⟩,
    ⟨some 5, .mv (.t 31), none⟩] [] [4, 5])
  .ret)
  .skip))
  (.seq (.seq (.reg false [⟨some 32, .ld (some 3) (.t 3), none⟩,
    ⟨some 33, .fad 0 (.t 2), none⟩,
    ⟨some 34, .ld none (.t 33), none⟩,
    ⟨some 35, .len false (.t 34), none⟩,
    ⟨some 36, .call 42 [.t 32, .t 35], none⟩,
    ⟨some 37, .not (.t 36), none⟩,
    ⟨some 38, .mv (.t 37), none⟩,
    ⟨some 39, .fad 0 (.t 2), some (38, false)⟩,
    ⟨some 40, .ld none (.t 39), some (38, false)⟩,
    ⟨some 41, .len false (.t 40), some (38, false)⟩,
    ⟨some 42, .bin .eql (.t 41) (.c (.int .i64 500)), some (38, false)⟩,
    ⟨some 43, .pick (.t 38) (.c (.bool true)) (.t 42), none⟩] [] [2, 3, 4, 43])
  (.cond (.t 43)
  (.seq (.reg false [⟨some 44, .ld (some 1) (.t 2), none⟩,
    ⟨none, .st 1 (.t 4) (.t 44), none⟩,
    ⟨some 5, .mv (.c (.int .i64 (-1))), none⟩] [] [4, 5])
  .ret)
  .skip))
  (.seq (.reg false [⟨some 45, .ld (some 1) (.t 2), none⟩,
    ⟨some 46, .call 18 [.t 45], none⟩,
    ⟨some 7, .new [.nil], none⟩,
    ⟨none, .st 1 (.t 7) (.t 46), none⟩] [] [2, 3, 4, 7])
  (.seq (.reg false [⟨some 47, .fad 0 (.t 7), none⟩,
    ⟨some 48, .ld none (.t 47), none⟩,
    ⟨some 49, .ld (some 3) (.t 3), none⟩,
    ⟨some 50, .bsl 3 1 [.int .i64 0, .int .i64 0, .int .i64 0] [(0, 3, .t 49)], none⟩,
    ⟨some 51, .app 3 24 (.t 48) (.t 50), none⟩,
    ⟨some 52, .fad 0 (.t 7), none⟩,
    ⟨none, .st 1 (.t 52) (.t 51), none⟩] [] [2, 4, 7])
  (.seq (.reg true [⟨some 53, .ld (some 1) (.t 7), none⟩,
    ⟨some 54, .fad 0 (.t 2), none⟩,
    ⟨some 55, .ld none (.t 54), none⟩,
    ⟨some 56, .len false (.t 55), none⟩,
    ⟨none, .st 1 (.t 4) (.t 53), none⟩,
    ⟨some 5, .mv (.t 56), none⟩] [0, 0, 2, 6, 1, 31] [4, 5])
  .ret)))))))), [(4, some (some 1)), (5, none)]⟩
theorem spec_l1Add_ok : okFn Try.prog 24 spec_l1Add = true := by kernel_rfl
def laws_toNodeS : IFn := ⟨23, (.seq (.reg false [⟨some 2, .mv (.c (.nil)), none⟩] [] [0])
  (.seq (.reg false [⟨some 5, .mv (.t 0), none⟩,
    ⟨some 6, .len false (.t 5), none⟩,
    ⟨some 7, .mk 3 24 [.int .i64 0, .int .i64 0, .int .i64 0] (.t 6) (.t 6), none⟩,
    ⟨some 3, .mv (.t 7), none⟩] [] [0, 3])
  (.seq (.seq (.reg false [⟨some 4, .mv (.c (.int .i64 0)), none⟩] [] [0, 3, 4])
  (.block 0 (.loop (.seq (.seq (.reg false [⟨some 8, .mv (.t 4), none⟩,
    ⟨some 9, .mv (.t 0), none⟩,
    ⟨some 10, .len false (.t 9), none⟩,
    ⟨some 11, .bin .lss (.t 8) (.t 10), none⟩] [] [0, 3, 4, 11])
  (.cond (.t 11)
  .skip
  (.exit 0)))
  (.seq (.block 1 (.reg false [⟨some 14, .mv (.t 3), none⟩,
    ⟨some 15, .mv (.t 4), none⟩,
    ⟨some 16, .mv (.t 0), none⟩,
    ⟨some 17, .mv (.t 4), none⟩,
    ⟨some 18, .iad 3 (.t 16) (.t 17), none⟩,
    ⟨some 19, .ld (some 3) (.t 18), none⟩,
    ⟨some 20, .call 48 [.t 19], none⟩,
    ⟨some 21, .iad 3 (.t 14) (.t 15), none⟩,
    ⟨none, .st 3 (.t 21) (.t 20), none⟩] [] [0, 3, 4]))
  (.reg false [⟨some 12, .mv (.t 4), none⟩,
    ⟨some 13, .bin .add (.t 12) (.c (.int .i64 1)), none⟩,
    ⟨some 4, .mv (.t 13), none⟩] [] [0, 3, 4]))))))
  (.seq (.reg false [⟨some 22, .mv (.t 3), none⟩,
    ⟨some 2, .mv (.t 22), none⟩] [] [2])
  .ret)))), [(2, none)]⟩
theorem laws_toNodeS_ok : okFn Try.prog 25 laws_toNodeS = true := by kernel_rfl
def impl_PoolOk : IFn := ⟨36, (.seq (.reg false [⟨some 1, .box (.t 0), none⟩,
    ⟨some 2, .mv (.c (.bool false)), none⟩] [] [1])
  (.seq (.seq (.reg false [⟨some 6, .fad 0 (.t 1), none⟩,
    ⟨some 7, .ld none (.t 6), none⟩,
    ⟨some 8, .len false (.t 7), none⟩,
    ⟨some 9, .bin .gtr (.t 8) (.c (.int .i64 500)), none⟩] [] [1, 9])
  (.cond (.t 9)
  (.seq (.reg false [⟨some 2, .mv (.c (.bool false)), none⟩] [] [2])
  .ret)
  .skip))
  (.seq (.reg false [⟨some 10, .mkm true, none⟩,
    ⟨some 3, .mv (.t 10), none⟩] [] [1, 3])
  (.seq (.seq (.reg false [⟨some 11, .fad 0 (.t 1), none⟩,
    ⟨some 12, .ld none (.t 11), none⟩,
    ⟨some 13, .len false (.t 12), none⟩,
    ⟨some 14, .mv (.c (.int .i64 0)), none⟩] [] [3, 12, 13, 14])
  (.block 0 (.loop (.seq (.reg false [⟨some 15, .bin .lss (.t 14) (.t 13), none⟩] [] [3, 12, 13, 14, 15])
  (.seq (.cond (.t 15)
  .skip
  (.exit 0))
  (.seq (.block 1 (.seq (.reg false [⟨some 16, .mv (.t 14), none⟩,
    ⟨some 17, .iad 3 (.t 12) (.t 14), none⟩,
    ⟨some 18, .ld (some 3) (.t 17), none⟩,
    ⟨some 5, .new [.int .i64 0, .int .i64 0, .int .i64 0], none⟩,
    ⟨some 4, .mv (.t 16), none⟩,
    ⟨none, .st 3 (.t 5) (.t 18), none⟩] [] [3, 4, 5, 12, 13, 14])
  (.seq (.reg true [⟨some 19, .mv (.t 3), none⟩,
    ⟨some 20, .ld (some 3) (.t 5), none⟩,
    ⟨some 21, .mlk true (.t 19) (.t 20), none⟩,
    ⟨some 22, .bin .add (.t 21) (.c (.int .i64 1)), none⟩,
    ⟨some 23, .men true (.t 19) (.t 20), none⟩,
    ⟨some 24, .ext (.t 23) 1, none⟩,
    ⟨none, .mst true (.t 19) (.t 24) (.t 22), none⟩] [0, 0, 3, 7, 3, 19, 63] [3, 4, 5, 12, 13, 14])
  (.seq (.reg false [⟨some 25, .mv (.t 3), none⟩,
    ⟨some 26, .ld (some 3) (.t 5), none⟩,
    ⟨some 27, .mlk true (.t 25) (.t 26), none⟩,
    ⟨some 28, .bin .gtr (.t 27) (.c (.int .i64 1)), none⟩,
    ⟨some 29, .mv (.t 28), none⟩,
    ⟨some 30, .ld (some 3) (.t 5), some (29, false)⟩,
    ⟨some 31, .mv (.t 4), some (29, false)⟩,
    ⟨some 32, .call 49 [.t 30, .t 31], some (29, false)⟩,
    ⟨some 33, .not (.t 32), some (29, false)⟩,
    ⟨some 34, .pick (.t 29) (.c (.bool true)) (.t 33), none⟩] [] [3, 12, 13, 14, 34])
  (.cond (.t 34)
  (.seq (.reg false [⟨some 2, .mv (.c (.bool false)), none⟩] [] [2])
  .ret)
  .skip)))))
  (.reg false [⟨some 35, .bin .add (.t 14) (.c (.int .i64 1)), none⟩,
    ⟨some 14, .mv (.t 35), none⟩] [] [3, 12, 13, 14])))))))
  (.seq (.reg false [⟨some 2, .mv (.c (.bool true)), none⟩] [] [2])
  .ret))))), [(2, none)]⟩
theorem impl_PoolOk_ok : okFn Try.prog 26 impl_PoolOk = true := by kernel_rfl
def impl_RoleText : IFn := ⟨22, (.seq (.reg false [⟨some 4, .mv (.c (.str ⟨#[]⟩)), none⟩] [] [0, 1])
  (.seq (.seq (.reg false [⟨some 5, .mv (.t 0), none⟩,
    ⟨some 6, .call 50 [.t 5, .c (.int .i64 1), .c (.int .i64 3)], none⟩,
    ⟨some 7, .not (.t 6), none⟩,
    ⟨some 8, .mv (.t 7), none⟩,
    ⟨some 9, .mv (.t 1), some (8, false)⟩,
    ⟨some 10, .call 50 [.t 9, .c (.int .i64 0), .c (.int .i64 1)], some (8, false)⟩,
    ⟨some 11, .not (.t 10), some (8, false)⟩,
    ⟨some 12, .pick (.t 8) (.c (.bool true)) (.t 11), none⟩] [] [0, 1, 12])
  (.cond (.t 12)
  (.seq (.reg false [⟨some 4, .mv (.c (.str ⟨#[]⟩)), none⟩] [] [4])
  .ret)
  .skip))
  (.seq (.reg false [⟨some 13, .build [.str ⟨#[]⟩, .str ⟨#[]⟩] [(0, 1, .c (.str ⟨#[102, 114, 101, 115, 104, 32, 120, 10, 115, 101, 110, 100, 32, 94, 36, 120, 10, 116, 97, 107, 101, 32, 40, 63, 121, 44, 91, 40, 110, 53, 44, 40, 40, 94, 36, 120, 44, 36, 121, 41, 44, 36, 109, 41, 41, 44, 36, 113, 93, 41, 10, 115, 101, 110, 100, 32, 91, 40, 110, 54, 44, 40, 40, 36, 121, 44, 94, 36, 120, 41, 44, 36, 112, 41, 41, 44, 36, 115, 93, 10, 99, 108, 97, 105, 109, 32, 107, 40, 120, 40, 36, 120, 44, 36, 121, 41, 44, 40, 94, 36, 120, 44, 36, 121, 41, 41, 10]⟩)), (1, 1, .c (.str ⟨#[102, 114, 101, 115, 104, 32, 121, 10, 116, 97, 107, 101, 32, 63, 120, 10, 115, 101, 110, 100, 32, 40, 94, 36, 121, 44, 91, 40, 110, 53, 44, 40, 40, 36, 120, 44, 94, 36, 121, 41, 44, 36, 112, 41, 41, 44, 36, 115, 93, 41, 10, 116, 97, 107, 101, 32, 91, 40, 110, 54, 44, 40, 40, 94, 36, 121, 44, 36, 120, 41, 44, 36, 109, 41, 41, 44, 36, 113, 93, 10, 99, 108, 97, 105, 109, 32, 107, 40, 120, 40, 36, 121, 44, 36, 120, 41, 44, 40, 36, 120, 44, 94, 36, 121, 41, 41, 10]⟩))], none⟩,
    ⟨some 14, .build [.str ⟨#[]⟩, .str ⟨#[]⟩] [(0, 1, .c (.str ⟨#[102, 114, 101, 115, 104, 32, 120, 10, 115, 101, 110, 100, 32, 36, 120, 10, 116, 97, 107, 101, 32, 123, 40, 110, 53, 44, 40, 40, 36, 120, 44, 63, 121, 41, 44, 36, 112, 41, 41, 44, 36, 107, 125, 10, 115, 101, 110, 100, 32, 123, 40, 110, 54, 44, 40, 40, 36, 121, 44, 36, 120, 41, 44, 36, 109, 41, 41, 44, 36, 107, 125, 10, 99, 108, 97, 105, 109, 32, 107, 40, 36, 107, 44, 40, 36, 120, 44, 36, 121, 41, 41, 10]⟩)), (1, 1, .c (.str ⟨#[102, 114, 101, 115, 104, 32, 121, 10, 116, 97, 107, 101, 32, 63, 120, 10, 115, 101, 110, 100, 32, 123, 40, 110, 53, 44, 40, 40, 36, 120, 44, 36, 121, 41, 44, 36, 109, 41, 41, 44, 36, 107, 125, 10, 116, 97, 107, 101, 32, 123, 40, 110, 54, 44, 40, 40, 36, 121, 44, 36, 120, 41, 44, 36, 112, 41, 41, 44, 36, 107, 125, 10, 99, 108, 97, 105, 109, 32, 107, 40, 36, 107, 44, 40, 36, 120, 44, 36, 121, 41, 41, 10]⟩))], none⟩,
    ⟨some 15, .build [.str ⟨#[]⟩, .str ⟨#[]⟩] [(0, 1, .c (.str ⟨#[102, 114, 101, 115, 104, 32, 120, 10, 115, 101, 110, 100, 32, 94, 36, 120, 10, 116, 97, 107, 101, 32, 40, 63, 121, 44, 35, 40, 110, 53, 44, 107, 40, 40, 120, 40, 36, 120, 44, 36, 117, 41, 44, 120, 40, 36, 116, 44, 36, 121, 41, 41, 44, 40, 120, 40, 36, 120, 44, 36, 121, 41, 44, 40, 40, 94, 36, 120, 44, 36, 121, 41, 44, 40, 36, 109, 44, 36, 112, 41, 41, 41, 41, 41, 41, 10, 115, 101, 110, 100, 32, 35, 40, 110, 54, 44, 107, 40, 40, 120, 40, 36, 120, 44, 36, 117, 41, 44, 120, 40, 36, 116, 44, 36, 121, 41, 41, 44, 40, 120, 40, 36, 120, 44, 36, 121, 41, 44, 40, 40, 94, 36, 120, 44, 36, 121, 41, 44, 40, 36, 109, 44, 36, 112, 41, 41, 41, 41, 41, 10, 99, 108, 97, 105, 109, 32, 107, 40, 40, 120, 40, 36, 120, 44, 36, 117, 41, 44, 120, 40, 36, 116, 44, 36, 121, 41, 41, 44, 40, 120, 40, 36, 120, 44, 36, 121, 41, 44, 40, 40, 94, 36, 120, 44, 36, 121, 41, 44, 40, 36, 109, 44, 36, 112, 41, 41, 41, 41, 10]⟩)), (1, 1, .c (.str ⟨#[102, 114, 101, 115, 104, 32, 121, 10, 116, 97, 107, 101, 32, 63, 120, 10, 115, 101, 110, 100, 32, 40, 94, 36, 121, 44, 35, 40, 110, 53, 44, 107, 40, 40, 120, 40, 36, 116, 44, 36, 120, 41, 44, 120, 40, 36, 121, 44, 36, 117, 41, 41, 44, 40, 120, 40, 36, 121, 44, 36, 120, 41, 44, 40, 40, 36, 120, 44, 94, 36, 121, 41, 44, 40, 36, 112, 44, 36, 109, 41, 41, 41, 41, 41, 41, 10, 116, 97, 107, 101, 32, 35, 40, 110, 54, 44, 107, 40, 40, 120, 40, 36, 116, 44, 36, 120, 41, 44, 120, 40, 36, 121, 44, 36, 117, 41, 41, 44, 40, 120, 40, 36, 121, 44, 36, 120, 41, 44, 40, 40, 36, 120, 44, 94, 36, 121, 41, 44, 40, 36, 112, 44, 36, 109, 41, 41, 41, 41, 41, 10, 99, 108, 97, 105, 109, 32, 107, 40, 40, 120, 40, 36, 116, 44, 36, 120, 41, 44, 120, 40, 36, 121, 44, 36, 117, 41, 41, 44, 40, 120, 40, 36, 121, 44, 36, 120, 41, 44, 40, 40, 36, 120, 44, 94, 36, 121, 41, 44, 40, 36, 112, 44, 36, 109, 41, 41, 41, 41, 10]⟩))], none⟩,
    ⟨some 16, .build [.str ⟨#[]⟩, .str ⟨#[]⟩, .str ⟨#[]⟩, .str ⟨#[]⟩, .str ⟨#[]⟩, .str ⟨#[]⟩] [(0, 2, .t 13), (2, 2, .t 14), (4, 2, .t 15)], none⟩,
    ⟨some 17, .mv (.t 0), none⟩,
    ⟨some 18, .bin .sub (.t 17) (.c (.int .i64 1)), none⟩,
    ⟨some 19, .idxa 3 2 (some 2) (.t 16) (.t 18), none⟩,
    ⟨some 20, .mv (.t 1), none⟩,
    ⟨some 21, .idxa 2 1 none (.t 19) (.t 20), none⟩,
    ⟨some 4, .mv (.t 21), none⟩] [] [4])
  .ret))), [(4, none)]⟩
theorem impl_RoleText_ok : okFn Try.prog 27 impl_RoleText = true := by kernel_rfl
def impl_isAgent : IFn := ⟨5, (.seq (.reg false [⟨some 2, .mv (.c (.bool false)), none⟩] [] [0])
  (.seq (.reg false [⟨some 3, .mv (.t 0), none⟩,
    ⟨some 4, .call 50 [.t 3, .c (.int .i64 0), .c (.int .i64 4)], none⟩,
    ⟨some 2, .mv (.t 4), none⟩] [] [2])
  .ret)), [(2, none)]⟩
theorem impl_isAgent_ok : okFn Try.prog 28 impl_isAgent = true := by kernel_rfl
def impl_copyPool : IFn := ⟨7, (.seq (.reg false [⟨some 1, .box (.t 0), none⟩,
    ⟨some 2, .new [.nil], none⟩] [] [1, 2])
  (.seq (.reg false [⟨some 3, .fad 0 (.t 1), none⟩,
    ⟨some 4, .ld none (.t 3), none⟩,
    ⟨some 5, .call 51 [.t 4], none⟩,
    ⟨some 6, .build [.nil] [(0, 1, .t 5)], none⟩,
    ⟨none, .st 1 (.t 2) (.t 6), none⟩] [] [2])
  .ret)), [(2, some (some 1))]⟩
theorem impl_copyPool_ok : okFn Try.prog 29 impl_copyPool = true := by kernel_rfl
def impl_EnvNew : IFn := ⟨3, (.seq (.reg false [⟨some 0, .mv (.c (.nil)), none⟩] [] [])
  (.seq (.reg false [⟨some 1, .bsl 1 1 [.int .i64 0] [(0, 1, .c (.int .i64 (-1)))], none⟩,
    ⟨some 2, .call 52 [.t 1, .c (.int .i64 26)], none⟩,
    ⟨some 0, .mv (.t 2), none⟩] [] [0])
  .ret)), [(0, none)]⟩
theorem impl_EnvNew_ok : okFn Try.prog 30 impl_EnvNew = true := by kernel_rfl
def impl_LongKey : IFn := ⟨8, (.seq (.reg false [⟨some 2, .mv (.c (.int .i64 0)), none⟩] [] [0])
  (.seq (.seq (.reg false [⟨some 3, .mv (.t 0), none⟩,
    ⟨some 4, .call 28 [.t 3], none⟩,
    ⟨some 5, .not (.t 4), none⟩] [] [0, 5])
  (.cond (.t 5)
  (.seq (.reg false [⟨some 2, .mv (.c (.int .i64 (-1))), none⟩] [] [2])
  .ret)
  .skip))
  (.seq (.reg false [⟨some 6, .mv (.t 0), none⟩,
    ⟨some 7, .bin .add (.c (.int .i64 50)) (.t 6), none⟩,
    ⟨some 2, .mv (.t 7), none⟩] [] [2])
  .ret))), [(2, none)]⟩
theorem impl_LongKey_ok : okFn Try.prog 31 impl_LongKey = true := by kernel_rfl
def impl_SharedKey : IFn := ⟨27, (.seq (.reg false [⟨some 4, .mv (.c (.int .i64 0)), none⟩] [] [0, 1])
  (.seq (.seq (.reg false [⟨some 5, .mv (.t 0), none⟩,
    ⟨some 6, .call 28 [.t 5], none⟩,
    ⟨some 7, .not (.t 6), none⟩,
    ⟨some 8, .mv (.t 7), none⟩,
    ⟨some 9, .mv (.t 1), some (8, false)⟩,
    ⟨some 10, .call 28 [.t 9], some (8, false)⟩,
    ⟨some 11, .not (.t 10), some (8, false)⟩,
    ⟨some 12, .pick (.t 8) (.c (.bool true)) (.t 11), none⟩,
    ⟨some 13, .mv (.t 12), none⟩,
    ⟨some 14, .mv (.t 0), some (13, false)⟩,
    ⟨some 15, .mv (.t 1), some (13, false)⟩,
    ⟨some 16, .bin .eql (.t 14) (.t 15), some (13, false)⟩,
    ⟨some 17, .pick (.t 13) (.c (.bool true)) (.t 16), none⟩] [] [0, 1, 17])
  (.cond (.t 17)
  (.seq (.reg false [⟨some 4, .mv (.c (.int .i64 (-1))), none⟩] [] [4])
  .ret)
  .skip))
  (.seq (.reg false [⟨some 18, .mv (.t 0), none⟩,
    ⟨some 19, .mv (.t 1), none⟩,
    ⟨some 20, .mm false (.t 18) [.t 19], none⟩,
    ⟨some 21, .bin .mul (.c (.int .i64 5)) (.t 20), none⟩,
    ⟨some 22, .bin .add (.c (.int .i64 60)) (.t 21), none⟩,
    ⟨some 23, .mv (.t 0), none⟩,
    ⟨some 24, .mv (.t 1), none⟩,
    ⟨some 25, .mm true (.t 23) [.t 24], none⟩,
    ⟨some 26, .bin .add (.t 22) (.t 25), none⟩,
    ⟨some 4, .mv (.t 26), none⟩] [] [4])
  .ret))), [(4, none)]⟩
theorem impl_SharedKey_ok : okFn Try.prog 32 impl_SharedKey = true := by kernel_rfl
def impl_StaticKey : IFn := ⟨8, (.seq (.reg false [⟨some 2, .mv (.c (.int .i64 0)), none⟩] [] [0])
  (.seq (.seq (.reg false [⟨some 3, .mv (.t 0), none⟩,
    ⟨some 4, .call 28 [.t 3], none⟩,
    ⟨some 5, .not (.t 4), none⟩] [] [0, 5])
  (.cond (.t 5)
  (.seq (.reg false [⟨some 2, .mv (.c (.int .i64 (-1))), none⟩] [] [2])
  .ret)
  .skip))
  (.seq (.reg false [⟨some 6, .mv (.t 0), none⟩,
    ⟨some 7, .bin .add (.c (.int .i64 90)) (.t 6), none⟩,
    ⟨some 2, .mv (.t 7), none⟩] [] [2])
  .ret))), [(2, none)]⟩
theorem impl_StaticKey_ok : okFn Try.prog 33 impl_StaticKey = true := by kernel_rfl
def impl_Pool_name : IFn := ⟨8, (.seq (.reg false [⟨some 4, .mv (.c (.int .i64 0)), none⟩] [] [0, 1])
  (.seq (.reg false [⟨some 5, .mv (.t 0), none⟩,
    ⟨some 6, .mv (.t 1), none⟩,
    ⟨some 7, .call 53 [.t 5, .c (.int .i64 1), .t 6, .c (.int .i64 0)], none⟩,
    ⟨some 4, .mv (.t 7), none⟩] [] [4])
  .ret)), [(4, none)]⟩
theorem impl_Pool_name_ok : okFn Try.prog 34 impl_Pool_name = true := by kernel_rfl
def impl_Pool_powerOf : IFn := ⟨11, (.seq (.reg false [⟨some 4, .mv (.c (.int .i64 0)), none⟩] [] [0, 1])
  (.seq (.reg false [⟨some 5, .mv (.t 0), none⟩,
    ⟨some 6, .mv (.t 0), none⟩,
    ⟨some 7, .mv (.t 1), none⟩,
    ⟨some 8, .call 33 [.t 7], none⟩,
    ⟨some 9, .call 34 [.t 6, .t 8], none⟩,
    ⟨some 10, .call 53 [.t 5, .c (.int .i64 7), .t 9, .c (.int .i64 0)], none⟩,
    ⟨some 4, .mv (.t 10), none⟩] [] [4])
  .ret)), [(4, none)]⟩
theorem impl_Pool_powerOf_ok : okFn Try.prog 35 impl_Pool_powerOf = true := by kernel_rfl
def laws_eqNodeS : IFn := ⟨27, (.seq (.reg false [⟨some 4, .mv (.c (.bool false)), none⟩] [] [0, 1])
  (.seq (.seq (.reg false [⟨some 6, .mv (.t 0), none⟩,
    ⟨some 7, .len false (.t 6), none⟩,
    ⟨some 8, .mv (.t 1), none⟩,
    ⟨some 9, .len false (.t 8), none⟩,
    ⟨some 10, .bin .neq (.t 7) (.t 9), none⟩] [] [0, 1, 10])
  (.cond (.t 10)
  (.seq (.reg false [⟨some 4, .mv (.c (.bool false)), none⟩] [] [4])
  .ret)
  .skip))
  (.seq (.seq (.reg false [⟨some 5, .mv (.c (.int .i64 0)), none⟩] [] [0, 1, 5])
  (.block 0 (.loop (.seq (.seq (.reg false [⟨some 11, .mv (.t 5), none⟩,
    ⟨some 12, .mv (.t 0), none⟩,
    ⟨some 13, .len false (.t 12), none⟩,
    ⟨some 14, .bin .lss (.t 11) (.t 13), none⟩] [] [0, 1, 5, 14])
  (.cond (.t 14)
  .skip
  (.exit 0)))
  (.seq (.block 1 (.seq (.reg true [⟨some 17, .mv (.t 0), none⟩,
    ⟨some 18, .mv (.t 5), none⟩,
    ⟨some 19, .iad 3 (.t 17) (.t 18), none⟩,
    ⟨some 20, .ld (some 3) (.t 19), none⟩,
    ⟨some 21, .mv (.t 1), none⟩,
    ⟨some 22, .mv (.t 5), none⟩,
    ⟨some 23, .iad 3 (.t 21) (.t 22), none⟩,
    ⟨some 24, .ld (some 3) (.t 23), none⟩,
    ⟨some 25, .call 54 [.t 20, .t 24], none⟩,
    ⟨some 26, .not (.t 25), none⟩] [0, 0, 3, 7, 0, 0, 48, 112, 255, 511] [0, 1, 5, 26])
  (.cond (.t 26)
  (.seq (.reg false [⟨some 4, .mv (.c (.bool false)), none⟩] [] [4])
  .ret)
  .skip)))
  (.reg false [⟨some 15, .mv (.t 5), none⟩,
    ⟨some 16, .bin .add (.t 15) (.c (.int .i64 1)), none⟩,
    ⟨some 5, .mv (.t 16), none⟩] [] [0, 1, 5]))))))
  (.seq (.reg false [⟨some 4, .mv (.c (.bool true)), none⟩] [] [4])
  .ret)))), [(4, none)]⟩
theorem laws_eqNodeS_ok : okFn Try.prog 36 laws_eqNodeS = true := by kernel_rfl
def laws_eqIntS : IFn := ⟨26, (.seq (.reg false [⟨some 4, .mv (.c (.bool false)), none⟩] [] [0, 1])
  (.seq (.seq (.reg false [⟨some 6, .mv (.t 0), none⟩,
    ⟨some 7, .len false (.t 6), none⟩,
    ⟨some 8, .mv (.t 1), none⟩,
    ⟨some 9, .len false (.t 8), none⟩,
    ⟨some 10, .bin .neq (.t 7) (.t 9), none⟩] [] [0, 1, 10])
  (.cond (.t 10)
  (.seq (.reg false [⟨some 4, .mv (.c (.bool false)), none⟩] [] [4])
  .ret)
  .skip))
  (.seq (.seq (.reg false [⟨some 5, .mv (.c (.int .i64 0)), none⟩] [] [0, 1, 5])
  (.block 0 (.loop (.seq (.seq (.reg false [⟨some 11, .mv (.t 5), none⟩,
    ⟨some 12, .mv (.t 0), none⟩,
    ⟨some 13, .len false (.t 12), none⟩,
    ⟨some 14, .bin .lss (.t 11) (.t 13), none⟩] [] [0, 1, 5, 14])
  (.cond (.t 14)
  .skip
  (.exit 0)))
  (.seq (.block 1 (.seq (.reg true [⟨some 17, .mv (.t 0), none⟩,
    ⟨some 18, .mv (.t 5), none⟩,
    ⟨some 19, .iad 1 (.t 17) (.t 18), none⟩,
    ⟨some 20, .ld none (.t 19), none⟩,
    ⟨some 21, .mv (.t 1), none⟩,
    ⟨some 22, .mv (.t 5), none⟩,
    ⟨some 23, .iad 1 (.t 21) (.t 22), none⟩,
    ⟨some 24, .ld none (.t 23), none⟩,
    ⟨some 25, .bin .neq (.t 20) (.t 24), none⟩] [0, 0, 3, 7, 0, 0, 48, 112, 255] [0, 1, 5, 25])
  (.cond (.t 25)
  (.seq (.reg false [⟨some 4, .mv (.c (.bool false)), none⟩] [] [4])
  .ret)
  .skip)))
  (.reg false [⟨some 15, .mv (.t 5), none⟩,
    ⟨some 16, .bin .add (.t 15) (.c (.int .i64 1)), none⟩,
    ⟨some 5, .mv (.t 16), none⟩] [] [0, 1, 5]))))))
  (.seq (.reg false [⟨some 4, .mv (.c (.bool true)), none⟩] [] [4])
  .ret)))), [(4, none)]⟩
theorem laws_eqIntS_ok : okFn Try.prog 37 laws_eqIntS = true := by kernel_rfl
def laws_markNodeS : IFn := ⟨34, (.seq (.reg false [⟨some 4, .mv (.c (.int .i64 0)), none⟩] [] [0, 1])
  (.seq (.seq (.reg false [⟨some 5, .mv (.c (.int .i64 0)), none⟩] [] [0, 1, 5])
  (.block 0 (.loop (.seq (.seq (.reg false [⟨some 6, .mv (.t 5), none⟩,
    ⟨some 7, .mv (.t 0), none⟩,
    ⟨some 8, .len false (.t 7), none⟩,
    ⟨some 9, .bin .lss (.t 6) (.t 8), none⟩] [] [0, 1, 5, 9])
  (.cond (.t 9)
  .skip
  (.exit 0)))
  (.seq (.block 1 (.seq (.reg false [⟨some 12, .mv (.t 0), none⟩,
    ⟨some 13, .mv (.t 5), none⟩,
    ⟨some 14, .mv (.t 1), none⟩,
    ⟨some 15, .iad 3 (.t 12) (.t 13), none⟩,
    ⟨some 16, .fad 0 (.t 15), none⟩,
    ⟨none, .st 1 (.t 16) (.t 14), none⟩] [] [0, 1, 5])
  (.seq (.reg false [⟨some 17, .mv (.t 1), none⟩,
    ⟨some 18, .bin .add (.t 17) (.c (.int .i64 1)), none⟩,
    ⟨some 1, .mv (.t 18), none⟩] [] [0, 1, 5])
  (.seq (.reg false [⟨some 19, .mv (.t 0), none⟩,
    ⟨some 20, .mv (.t 5), none⟩,
    ⟨some 21, .mv (.t 1), none⟩,
    ⟨some 22, .iad 3 (.t 19) (.t 20), none⟩,
    ⟨some 23, .fad 1 (.t 22), none⟩,
    ⟨none, .st 1 (.t 23) (.t 21), none⟩] [] [0, 1, 5])
  (.seq (.reg false [⟨some 24, .mv (.t 1), none⟩,
    ⟨some 25, .bin .add (.t 24) (.c (.int .i64 1)), none⟩,
    ⟨some 1, .mv (.t 25), none⟩] [] [0, 1, 5])
  (.seq (.reg false [⟨some 26, .mv (.t 0), none⟩,
    ⟨some 27, .mv (.t 5), none⟩,
    ⟨some 28, .mv (.t 1), none⟩,
    ⟨some 29, .iad 3 (.t 26) (.t 27), none⟩,
    ⟨some 30, .fad 2 (.t 29), none⟩,
    ⟨none, .st 1 (.t 30) (.t 28), none⟩] [] [0, 1, 5])
  (.reg false [⟨some 31, .mv (.t 1), none⟩,
    ⟨some 32, .bin .add (.t 31) (.c (.int .i64 1)), none⟩,
    ⟨some 1, .mv (.t 32), none⟩] [] [0, 1, 5])))))))
  (.reg false [⟨some 10, .mv (.t 5), none⟩,
    ⟨some 11, .bin .add (.t 10) (.c (.int .i64 1)), none⟩,
    ⟨some 5, .mv (.t 11), none⟩] [] [0, 1, 5]))))))
  (.seq (.reg false [⟨some 33, .mv (.t 1), none⟩,
    ⟨some 4, .mv (.t 33), none⟩] [] [4])
  .ret))), [(4, none)]⟩
theorem laws_markNodeS_ok : okFn Try.prog 38 laws_markNodeS = true := by kernel_rfl
def laws_markIntS : IFn := ⟨19, (.seq (.reg false [⟨some 4, .mv (.c (.int .i64 0)), none⟩] [] [0, 1])
  (.seq (.seq (.reg false [⟨some 5, .mv (.c (.int .i64 0)), none⟩] [] [0, 1, 5])
  (.block 0 (.loop (.seq (.seq (.reg false [⟨some 6, .mv (.t 5), none⟩,
    ⟨some 7, .mv (.t 0), none⟩,
    ⟨some 8, .len false (.t 7), none⟩,
    ⟨some 9, .bin .lss (.t 6) (.t 8), none⟩] [] [0, 1, 5, 9])
  (.cond (.t 9)
  .skip
  (.exit 0)))
  (.seq (.block 1 (.seq (.reg false [⟨some 12, .mv (.t 0), none⟩,
    ⟨some 13, .mv (.t 5), none⟩,
    ⟨some 14, .mv (.t 1), none⟩,
    ⟨some 15, .iad 1 (.t 12) (.t 13), none⟩,
    ⟨none, .st 1 (.t 15) (.t 14), none⟩] [] [0, 1, 5])
  (.reg false [⟨some 16, .mv (.t 1), none⟩,
    ⟨some 17, .bin .add (.t 16) (.c (.int .i64 1)), none⟩,
    ⟨some 1, .mv (.t 17), none⟩] [] [0, 1, 5])))
  (.reg false [⟨some 10, .mv (.t 5), none⟩,
    ⟨some 11, .bin .add (.t 10) (.c (.int .i64 1)), none⟩,
    ⟨some 5, .mv (.t 11), none⟩] [] [0, 1, 5]))))))
  (.seq (.reg false [⟨some 18, .mv (.t 1), none⟩,
    ⟨some 4, .mv (.t 18), none⟩] [] [4])
  .ret))), [(4, none)]⟩
theorem laws_markIntS_ok : okFn Try.prog 39 laws_markIntS = true := by kernel_rfl
def laws_heldNodeS : IFn := ⟨40, (.seq (.reg false [⟨some 4, .mv (.c (.int .i64 0)), none⟩] [] [0, 1])
  (.seq (.seq (.reg false [⟨some 5, .mv (.c (.int .i64 0)), none⟩] [] [0, 1, 5])
  (.block 0 (.loop (.seq (.seq (.reg false [⟨some 6, .mv (.t 5), none⟩,
    ⟨some 7, .mv (.t 0), none⟩,
    ⟨some 8, .len false (.t 7), none⟩,
    ⟨some 9, .bin .lss (.t 6) (.t 8), none⟩] [] [0, 1, 5, 9])
  (.cond (.t 9)
  .skip
  (.exit 0)))
  (.seq (.block 1 (.seq (.seq (.reg false [⟨some 12, .mv (.t 0), none⟩,
    ⟨some 13, .mv (.t 5), none⟩,
    ⟨some 14, .iad 3 (.t 12) (.t 13), none⟩,
    ⟨some 15, .fad 0 (.t 14), none⟩,
    ⟨some 16, .ld none (.t 15), none⟩,
    ⟨some 17, .mv (.t 1), none⟩,
    ⟨some 18, .bin .neq (.t 16) (.t 17), none⟩] [] [0, 1, 5, 18])
  (.cond (.t 18)
  (.seq (.reg false [⟨some 4, .mv (.c (.int .i64 (-1))), none⟩] [] [4])
  .ret)
  .skip))
  (.seq (.reg false [⟨some 19, .mv (.t 1), none⟩,
    ⟨some 20, .bin .add (.t 19) (.c (.int .i64 1)), none⟩,
    ⟨some 1, .mv (.t 20), none⟩] [] [0, 1, 5])
  (.seq (.seq (.reg false [⟨some 21, .mv (.t 0), none⟩,
    ⟨some 22, .mv (.t 5), none⟩,
    ⟨some 23, .iad 3 (.t 21) (.t 22), none⟩,
    ⟨some 24, .fad 1 (.t 23), none⟩,
    ⟨some 25, .ld none (.t 24), none⟩,
    ⟨some 26, .mv (.t 1), none⟩,
    ⟨some 27, .bin .neq (.t 25) (.t 26), none⟩] [] [0, 1, 5, 27])
  (.cond (.t 27)
  (.seq (.reg false [⟨some 4, .mv (.c (.int .i64 (-1))), none⟩] [] [4])
  .ret)
  .skip))
  (.seq (.reg false [⟨some 28, .mv (.t 1), none⟩,
    ⟨some 29, .bin .add (.t 28) (.c (.int .i64 1)), none⟩,
    ⟨some 1, .mv (.t 29), none⟩] [] [0, 1, 5])
  (.seq (.seq (.reg false [⟨some 30, .mv (.t 0), none⟩,
    ⟨some 31, .mv (.t 5), none⟩,
    ⟨some 32, .iad 3 (.t 30) (.t 31), none⟩,
    ⟨some 33, .fad 2 (.t 32), none⟩,
    ⟨some 34, .ld none (.t 33), none⟩,
    ⟨some 35, .mv (.t 1), none⟩,
    ⟨some 36, .bin .neq (.t 34) (.t 35), none⟩] [] [0, 1, 5, 36])
  (.cond (.t 36)
  (.seq (.reg false [⟨some 4, .mv (.c (.int .i64 (-1))), none⟩] [] [4])
  .ret)
  .skip))
  (.reg false [⟨some 37, .mv (.t 1), none⟩,
    ⟨some 38, .bin .add (.t 37) (.c (.int .i64 1)), none⟩,
    ⟨some 1, .mv (.t 38), none⟩] [] [0, 1, 5])))))))
  (.reg false [⟨some 10, .mv (.t 5), none⟩,
    ⟨some 11, .bin .add (.t 10) (.c (.int .i64 1)), none⟩,
    ⟨some 5, .mv (.t 11), none⟩] [] [0, 1, 5]))))))
  (.seq (.reg false [⟨some 39, .mv (.t 1), none⟩,
    ⟨some 4, .mv (.t 39), none⟩] [] [4])
  .ret))), [(4, none)]⟩
theorem laws_heldNodeS_ok : okFn Try.prog 40 laws_heldNodeS = true := by kernel_rfl
def laws_heldIntS : IFn := ⟨21, (.seq (.reg false [⟨some 4, .mv (.c (.int .i64 0)), none⟩] [] [0, 1])
  (.seq (.seq (.reg false [⟨some 5, .mv (.c (.int .i64 0)), none⟩] [] [0, 1, 5])
  (.block 0 (.loop (.seq (.seq (.reg false [⟨some 6, .mv (.t 5), none⟩,
    ⟨some 7, .mv (.t 0), none⟩,
    ⟨some 8, .len false (.t 7), none⟩,
    ⟨some 9, .bin .lss (.t 6) (.t 8), none⟩] [] [0, 1, 5, 9])
  (.cond (.t 9)
  .skip
  (.exit 0)))
  (.seq (.block 1 (.seq (.seq (.reg false [⟨some 12, .mv (.t 0), none⟩,
    ⟨some 13, .mv (.t 5), none⟩,
    ⟨some 14, .iad 1 (.t 12) (.t 13), none⟩,
    ⟨some 15, .ld none (.t 14), none⟩,
    ⟨some 16, .mv (.t 1), none⟩,
    ⟨some 17, .bin .neq (.t 15) (.t 16), none⟩] [] [0, 1, 5, 17])
  (.cond (.t 17)
  (.seq (.reg false [⟨some 4, .mv (.c (.int .i64 (-1))), none⟩] [] [4])
  .ret)
  .skip))
  (.reg false [⟨some 18, .mv (.t 1), none⟩,
    ⟨some 19, .bin .add (.t 18) (.c (.int .i64 1)), none⟩,
    ⟨some 1, .mv (.t 19), none⟩] [] [0, 1, 5])))
  (.reg false [⟨some 10, .mv (.t 5), none⟩,
    ⟨some 11, .bin .add (.t 10) (.c (.int .i64 1)), none⟩,
    ⟨some 5, .mv (.t 11), none⟩] [] [0, 1, 5]))))))
  (.seq (.reg false [⟨some 20, .mv (.t 1), none⟩,
    ⟨some 4, .mv (.t 20), none⟩] [] [4])
  .ret))), [(4, none)]⟩
theorem laws_heldIntS_ok : okFn Try.prog 41 laws_heldIntS = true := by kernel_rfl
def spec_l1Right : IFn := ⟨56, (.seq (.reg false [⟨some 2, .box (.t 0), none⟩,
    ⟨some 4, .mv (.c (.bool false)), none⟩] [] [1, 2])
  (.seq (.seq (.reg false [⟨some 5, .fad 0 (.t 2), none⟩,
    ⟨some 6, .ld none (.t 5), none⟩,
    ⟨some 7, .call 55 [.t 6], none⟩] [] [1, 2, 7])
  (.block 0 (.seq (.reg false [⟨some 9, .bin .eql (.t 7) (.c (.int .i64 0)), none⟩,
    ⟨some 8, .mv (.t 9), none⟩] [] [1, 2, 7, 8])
  (.cond (.t 8)
  (.seq (.reg false [⟨some 10, .fad 1 (.t 2), none⟩,
    ⟨some 11, .ld none (.t 10), none⟩,
    ⟨some 12, .call 45 [.t 11, .c (.int .i64 0), .c (.int .i64 199)], none⟩,
    ⟨some 13, .mv (.t 12), none⟩,
    ⟨some 14, .fad 2 (.t 2), some (13, true)⟩,
    ⟨some 15, .ld none (.t 14), some (13, true)⟩,
    ⟨some 16, .bin .eql (.t 15) (.c (.int .i64 0)), some (13, true)⟩,
    ⟨some 17, .pick (.t 13) (.t 16) (.c (.bool false)), none⟩,
    ⟨some 4, .mv (.t 17), none⟩] [] [4])
  .ret)
  (.seq (.reg false [⟨some 19, .bin .eql (.t 7) (.c (.int .i64 1)), none⟩,
    ⟨some 18, .mv (.t 19), none⟩] [] [1, 2, 7, 18])
  (.cond (.t 18)
  (.seq (.reg false [⟨some 20, .fad 1 (.t 2), none⟩,
    ⟨some 21, .ld none (.t 20), none⟩,
    ⟨some 22, .mv (.t 1), none⟩,
    ⟨some 23, .bin .sub (.t 22) (.c (.int .i64 1)), none⟩,
    ⟨some 24, .call 45 [.t 21, .c (.int .i64 0), .t 23], none⟩,
    ⟨some 25, .mv (.t 24), none⟩,
    ⟨some 26, .fad 2 (.t 2), some (25, true)⟩,
    ⟨some 27, .ld none (.t 26), some (25, true)⟩,
    ⟨some 28, .bin .eql (.t 27) (.c (.int .i64 0)), some (25, true)⟩,
    ⟨some 29, .pick (.t 25) (.t 28) (.c (.bool false)), none⟩,
    ⟨some 4, .mv (.t 29), none⟩] [] [4])
  .ret)
  (.seq (.reg false [⟨some 31, .bin .eql (.t 7) (.c (.int .i64 2)), none⟩,
    ⟨some 30, .mv (.t 31), none⟩] [] [1, 2, 30])
  (.cond (.t 30)
  (.seq (.reg false [⟨some 32, .fad 1 (.t 2), none⟩,
    ⟨some 33, .ld none (.t 32), none⟩,
    ⟨some 34, .mv (.t 1), none⟩,
    ⟨some 35, .bin .sub (.t 34) (.c (.int .i64 1)), none⟩,
    ⟨some 36, .call 45 [.t 33, .c (.int .i64 0), .t 35], none⟩,
    ⟨some 37, .mv (.t 36), none⟩,
    ⟨some 38, .fad 2 (.t 2), some (37, true)⟩,
    ⟨some 39, .ld none (.t 38), some (37, true)⟩,
    ⟨some 40, .mv (.t 1), some (37, true)⟩,
    ⟨some 41, .bin .sub (.t 40) (.c (.int .i64 1)), some (37, true)⟩,
    ⟨some 42, .call 45 [.t 39, .c (.int .i64 0), .t 41], some (37, true)⟩,
    ⟨some 43, .pick (.t 37) (.t 42) (.c (.bool false)), none⟩,
    ⟨some 44, .mv (.t 43), none⟩,
    ⟨some 45, .fad 0 (.t 2), some (44, true)⟩,
    ⟨some 46, .ld none (.t 45), some (44, true)⟩,
    ⟨some 47, .bin .neq (.t 46) (.c (.int .i64 8)), some (44, true)⟩,
    ⟨some 48, .mv (.t 47), some (44, true)⟩,
    ⟨some 49, .fad 1 (.t 2), some (48, false)⟩,
    ⟨some 50, .ld none (.t 49), some (48, false)⟩,
    ⟨some 51, .fad 2 (.t 2), some (48, false)⟩,
    ⟨some 52, .ld none (.t 51), some (48, false)⟩,
    ⟨some 53, .bin .leq (.t 50) (.t 52), some (48, false)⟩,
    ⟨some 54, .pick (.t 48) (.c (.bool true)) (.t 53), some (44, true)⟩,
    ⟨some 55, .pick (.t 44) (.t 54) (.c (.bool false)), none⟩,
    ⟨some 4, .mv (.t 55), none⟩] [] [4])
  .ret)
  .skip))))))))
  (.seq (.reg false [⟨some 4, .mv (.c (.bool false)), none⟩] [] [4])
  .ret))), [(4, none)]⟩
theorem spec_l1Right_ok : okFn Try.prog 42 spec_l1Right = true := by kernel_rfl
def spec_l1Find : IFn := ⟨21, (.seq (.reg false [⟨some 2, .box (.t 0), none⟩,
    ⟨some 3, .box (.t 1), none⟩,
    ⟨some 4, .mv (.c (.int .i64 0)), none⟩] [] [2, 3])
  (.seq (.seq (.reg false [⟨some 5, .mv (.c (.int .i64 0)), none⟩] [] [2, 3, 5])
  (.block 0 (.loop (.seq (.seq (.reg false [⟨some 6, .mv (.t 5), none⟩,
    ⟨some 7, .fad 0 (.t 2), none⟩,
    ⟨some 8, .ld none (.t 7), none⟩,
    ⟨some 9, .len false (.t 8), none⟩,
    ⟨some 10, .bin .lss (.t 6) (.t 9), none⟩] [] [2, 3, 5, 10])
  (.cond (.t 10)
  .skip
  (.exit 0)))
  (.seq (.block 1 (.seq (.reg true [⟨some 13, .fad 0 (.t 2), none⟩,
    ⟨some 14, .ld none (.t 13), none⟩,
    ⟨some 15, .mv (.t 5), none⟩,
    ⟨some 16, .iad 3 (.t 14) (.t 15), none⟩,
    ⟨some 17, .ld (some 3) (.t 16), none⟩,
    ⟨some 18, .ld (some 3) (.t 3), none⟩,
    ⟨some 19, .eqs false [1, 1, 1] (.t 17) (.t 18), none⟩] [0, 1, 0, 7, 15, 0, 63] [2, 3, 5, 19])
  (.cond (.t 19)
  (.seq (.reg false [⟨some 20, .mv (.t 5), none⟩,
    ⟨some 4, .mv (.t 20), none⟩] [] [4])
  .ret)
  .skip)))
  (.reg false [⟨some 11, .mv (.t 5), none⟩,
    ⟨some 12, .bin .add (.t 11) (.c (.int .i64 1)), none⟩,
    ⟨some 5, .mv (.t 12), none⟩] [] [2, 3, 5]))))))
  (.seq (.reg false [⟨some 4, .mv (.c (.int .i64 (-1))), none⟩] [] [4])
  .ret))), [(4, none)]⟩
theorem spec_l1Find_ok : okFn Try.prog 43 spec_l1Find = true := by kernel_rfl
def spec_RoleText : IFn := ⟨47, (.seq (.reg false [⟨some 4, .mv (.c (.str ⟨#[]⟩)), none⟩] [] [0, 1])
  (.seq (.block 0 (.seq (.reg false [⟨some 6, .mv (.t 0), none⟩,
    ⟨some 7, .bin .eql (.t 6) (.c (.int .i64 1)), none⟩,
    ⟨some 8, .mv (.t 7), none⟩,
    ⟨some 9, .mv (.t 1), some (8, true)⟩,
    ⟨some 10, .bin .eql (.t 9) (.c (.int .i64 0)), some (8, true)⟩,
    ⟨some 11, .pick (.t 8) (.t 10) (.c (.bool false)), none⟩,
    ⟨some 5, .mv (.t 11), none⟩] [] [0, 1, 5])
  (.cond (.t 5)
  (.seq (.reg false [⟨some 4, .mv (.c (.str ⟨#[102, 114, 101, 115, 104, 32, 120, 10, 115, 101, 110, 100, 32, 94, 36, 120, 10, 116, 97, 107, 101, 32, 40, 63, 121, 44, 91, 40, 110, 53, 44, 40, 40, 94, 36, 120, 44, 36, 121, 41, 44, 36, 109, 41, 41, 44, 36, 113, 93, 41, 10, 115, 101, 110, 100, 32, 91, 40, 110, 54, 44, 40, 40, 36, 121, 44, 94, 36, 120, 41, 44, 36, 112, 41, 41, 44, 36, 115, 93, 10, 99, 108, 97, 105, 109, 32, 107, 40, 120, 40, 36, 120, 44, 36, 121, 41, 44, 40, 94, 36, 120, 44, 36, 121, 41, 41, 10]⟩)), none⟩] [] [4])
  .ret)
  (.seq (.reg false [⟨some 13, .mv (.t 0), none⟩,
    ⟨some 14, .bin .eql (.t 13) (.c (.int .i64 1)), none⟩,
    ⟨some 15, .mv (.t 14), none⟩,
    ⟨some 16, .mv (.t 1), some (15, true)⟩,
    ⟨some 17, .bin .eql (.t 16) (.c (.int .i64 1)), some (15, true)⟩,
    ⟨some 18, .pick (.t 15) (.t 17) (.c (.bool false)), none⟩,
    ⟨some 12, .mv (.t 18), none⟩] [] [0, 1, 12])
  (.cond (.t 12)
  (.seq (.reg false [⟨some 4, .mv (.c (.str ⟨#[102, 114, 101, 115, 104, 32, 121, 10, 116, 97, 107, 101, 32, 63, 120, 10, 115, 101, 110, 100, 32, 40, 94, 36, 121, 44, 91, 40, 110, 53, 44, 40, 40, 36, 120, 44, 94, 36, 121, 41, 44, 36, 112, 41, 41, 44, 36, 115, 93, 41, 10, 116, 97, 107, 101, 32, 91, 40, 110, 54, 44, 40, 40, 94, 36, 121, 44, 36, 120, 41, 44, 36, 109, 41, 41, 44, 36, 113, 93, 10, 99, 108, 97, 105, 109, 32, 107, 40, 120, 40, 36, 121, 44, 36, 120, 41, 44, 40, 36, 120, 44, 94, 36, 121, 41, 41, 10]⟩)), none⟩] [] [4])
  .ret)
  (.seq (.reg false [⟨some 20, .mv (.t 0), none⟩,
    ⟨some 21, .bin .eql (.t 20) (.c (.int .i64 2)), none⟩,
    ⟨some 22, .mv (.t 21), none⟩,
    ⟨some 23, .mv (.t 1), some (22, true)⟩,
    ⟨some 24, .bin .eql (.t 23) (.c (.int .i64 0)), some (22, true)⟩,
    ⟨some 25, .pick (.t 22) (.t 24) (.c (.bool false)), none⟩,
    ⟨some 19, .mv (.t 25), none⟩] [] [0, 1, 19])
  (.cond (.t 19)
  (.seq (.reg false [⟨some 4, .mv (.c (.str ⟨#[102, 114, 101, 115, 104, 32, 120, 10, 115, 101, 110, 100, 32, 36, 120, 10, 116, 97, 107, 101, 32, 123, 40, 110, 53, 44, 40, 40, 36, 120, 44, 63, 121, 41, 44, 36, 112, 41, 41, 44, 36, 107, 125, 10, 115, 101, 110, 100, 32, 123, 40, 110, 54, 44, 40, 40, 36, 121, 44, 36, 120, 41, 44, 36, 109, 41, 41, 44, 36, 107, 125, 10, 99, 108, 97, 105, 109, 32, 107, 40, 36, 107, 44, 40, 36, 120, 44, 36, 121, 41, 41, 10]⟩)), none⟩] [] [4])
  .ret)
  (.seq (.reg false [⟨some 27, .mv (.t 0), none⟩,
    ⟨some 28, .bin .eql (.t 27) (.c (.int .i64 2)), none⟩,
    ⟨some 29, .mv (.t 28), none⟩,
    ⟨some 30, .mv (.t 1), some (29, true)⟩,
    ⟨some 31, .bin .eql (.t 30) (.c (.int .i64 1)), some (29, true)⟩,
    ⟨some 32, .pick (.t 29) (.t 31) (.c (.bool false)), none⟩,
    ⟨some 26, .mv (.t 32), none⟩] [] [0, 1, 26])
  (.cond (.t 26)
  (.seq (.reg false [⟨some 4, .mv (.c (.str ⟨#[102, 114, 101, 115, 104, 32, 121, 10, 116, 97, 107, 101, 32, 63, 120, 10, 115, 101, 110, 100, 32, 123, 40, 110, 53, 44, 40, 40, 36, 120, 44, 36, 121, 41, 44, 36, 109, 41, 41, 44, 36, 107, 125, 10, 116, 97, 107, 101, 32, 123, 40, 110, 54, 44, 40, 40, 36, 121, 44, 36, 120, 41, 44, 36, 112, 41, 41, 44, 36, 107, 125, 10, 99, 108, 97, 105, 109, 32, 107, 40, 36, 107, 44, 40, 36, 120, 44, 36, 121, 41, 41, 10]⟩)), none⟩] [] [4])
  .ret)
  (.seq (.reg false [⟨some 34, .mv (.t 0), none⟩,
    ⟨some 35, .bin .eql (.t 34) (.c (.int .i64 3)), none⟩,
    ⟨some 36, .mv (.t 35), none⟩,
    ⟨some 37, .mv (.t 1), some (36, true)⟩,
    ⟨some 38, .bin .eql (.t 37) (.c (.int .i64 0)), some (36, true)⟩,
    ⟨some 39, .pick (.t 36) (.t 38) (.c (.bool false)), none⟩,
    ⟨some 33, .mv (.t 39), none⟩] [] [0, 1, 33])
  (.cond (.t 33)
  (.seq (.reg false [⟨some 4, .mv (.c (.str ⟨#[102, 114, 101, 115, 104, 32, 120, 10, 115, 101, 110, 100, 32, 94, 36, 120, 10, 116, 97, 107, 101, 32, 40, 63, 121, 44, 35, 40, 110, 53, 44, 107, 40, 40, 120, 40, 36, 120, 44, 36, 117, 41, 44, 120, 40, 36, 116, 44, 36, 121, 41, 41, 44, 40, 120, 40, 36, 120, 44, 36, 121, 41, 44, 40, 40, 94, 36, 120, 44, 36, 121, 41, 44, 40, 36, 109, 44, 36, 112, 41, 41, 41, 41, 41, 41, 10, 115, 101, 110, 100, 32, 35, 40, 110, 54, 44, 107, 40, 40, 120, 40, 36, 120, 44, 36, 117, 41, 44, 120, 40, 36, 116, 44, 36, 121, 41, 41, 44, 40, 120, 40, 36, 120, 44, 36, 121, 41, 44, 40, 40, 94, 36, 120, 44, 36, 121, 41, 44, 40, 36, 109, 44, 36, 112, 41, 41, 41, 41, 41, 10, 99, 108, 97, 105, 109, 32, 107, 40, 40, 120, 40, 36, 120, 44, 36, 117, 41, 44, 120, 40, 36, 116, 44, 36, 121, 41, 41, 44, 40, 120, 40, 36, 120, 44, 36, 121, 41, 44, 40, 40, 94, 36, 120, 44, 36, 121, 41, 44, 40, 36, 109, 44, 36, 112, 41, 41, 41, 41, 10]⟩)), none⟩] [] [4])
  .ret)
  (.seq (.reg false [⟨some 41, .mv (.t 0), none⟩,
    ⟨some 42, .bin .eql (.t 41) (.c (.int .i64 3)), none⟩,
    ⟨some 43, .mv (.t 42), none⟩,
    ⟨some 44, .mv (.t 1), some (43, true)⟩,
    ⟨some 45, .bin .eql (.t 44) (.c (.int .i64 1)), some (43, true)⟩,
    ⟨some 46, .pick (.t 43) (.t 45) (.c (.bool false)), none⟩,
    ⟨some 40, .mv (.t 46), none⟩] [] [40])
  (.cond (.t 40)
  (.seq (.reg false [⟨some 4, .mv (.c (.str ⟨#[102, 114, 101, 115, 104, 32, 121, 10, 116, 97, 107, 101, 32, 63, 120, 10, 115, 101, 110, 100, 32, 40, 94, 36, 121, 44, 35, 40, 110, 53, 44, 107, 40, 40, 120, 40, 36, 116, 44, 36, 120, 41, 44, 120, 40, 36, 121, 44, 36, 117, 41, 41, 44, 40, 120, 40, 36, 121, 44, 36, 120, 41, 44, 40, 40, 36, 120, 44, 94, 36, 121, 41, 44, 40, 36, 112, 44, 36, 109, 41, 41, 41, 41, 41, 41, 10, 116, 97, 107, 101, 32, 35, 40, 110, 54, 44, 107, 40, 40, 120, 40, 36, 116, 44, 36, 120, 41, 44, 120, 40, 36, 121, 44, 36, 117, 41, 41, 44, 40, 120, 40, 36, 121, 44, 36, 120, 41, 44, 40, 40, 36, 120, 44, 94, 36, 121, 41, 44, 40, 36, 112, 44, 36, 109, 41, 41, 41, 41, 41, 10, 99, 108, 97, 105, 109, 32, 107, 40, 40, 120, 40, 36, 116, 44, 36, 120, 41, 44, 120, 40, 36, 121, 44, 36, 117, 41, 41, 44, 40, 120, 40, 36, 121, 44, 36, 120, 41, 44, 40, 40, 36, 120, 44, 94, 36, 121, 41, 44, 40, 36, 112, 44, 36, 109, 41, 41, 41, 41, 10]⟩)), none⟩] [] [4])
  .ret)
  .skip)))))))))))))
  (.seq (.reg false [⟨some 4, .mv (.c (.str ⟨#[]⟩)), none⟩] [] [4])
  .ret))), [(4, none)]⟩
theorem spec_RoleText_ok : okFn Try.prog 44 spec_RoleText = true := by kernel_rfl
def spec_l1In : IFn := ⟨15, (.seq (.reg false [⟨some 6, .mv (.c (.bool false)), none⟩] [] [0, 1, 2])
  (.seq (.reg false [⟨some 7, .mv (.t 0), none⟩,
    ⟨some 8, .mv (.t 1), none⟩,
    ⟨some 9, .bin .geq (.t 7) (.t 8), none⟩,
    ⟨some 10, .mv (.t 9), none⟩,
    ⟨some 11, .mv (.t 0), some (10, true)⟩,
    ⟨some 12, .mv (.t 2), some (10, true)⟩,
    ⟨some 13, .bin .leq (.t 11) (.t 12), some (10, true)⟩,
    ⟨some 14, .pick (.t 10) (.t 13) (.c (.bool false)), none⟩,
    ⟨some 6, .mv (.t 14), none⟩] [] [6])
  .ret)), [(6, none)]⟩
theorem spec_l1In_ok : okFn Try.prog 45 spec_l1In = true := by kernel_rfl
def spec_l1Min : IFn := ⟨10, (.seq (.reg false [⟨some 4, .mv (.c (.int .i64 0)), none⟩] [] [0, 1])
  (.seq (.seq (.reg false [⟨some 5, .mv (.t 0), none⟩,
    ⟨some 6, .mv (.t 1), none⟩,
    ⟨some 7, .bin .lss (.t 5) (.t 6), none⟩] [] [0, 1, 7])
  (.cond (.t 7)
  (.seq (.reg false [⟨some 8, .mv (.t 0), none⟩,
    ⟨some 4, .mv (.t 8), none⟩] [] [4])
  .ret)
  .skip))
  (.seq (.reg false [⟨some 9, .mv (.t 1), none⟩,
    ⟨some 4, .mv (.t 9), none⟩] [] [4])
  .ret))), [(4, none)]⟩
theorem spec_l1Min_ok : okFn Try.prog 46 spec_l1Min = true := by kernel_rfl
def spec_l1Max : IFn := ⟨10, (.seq (.reg false [⟨some 4, .mv (.c (.int .i64 0)), none⟩] [] [0, 1])
  (.seq (.seq (.reg false [⟨some 5, .mv (.t 0), none⟩,
    ⟨some 6, .mv (.t 1), none⟩,
    ⟨some 7, .bin .gtr (.t 5) (.t 6), none⟩] [] [0, 1, 7])
  (.cond (.t 7)
  (.seq (.reg false [⟨some 8, .mv (.t 0), none⟩,
    ⟨some 4, .mv (.t 8), none⟩] [] [4])
  .ret)
  .skip))
  (.seq (.reg false [⟨some 9, .mv (.t 1), none⟩,
    ⟨some 4, .mv (.t 9), none⟩] [] [4])
  .ret))), [(4, none)]⟩
theorem spec_l1Max_ok : okFn Try.prog 47 spec_l1Max = true := by kernel_rfl
def laws_toNode : IFn := ⟨14, (.seq (.reg false [⟨some 1, .box (.t 0), none⟩,
    ⟨some 2, .new [.int .i64 0, .int .i64 0, .int .i64 0], none⟩] [] [1, 2])
  (.seq (.reg false [⟨some 3, .new [.int .i64 0, .int .i64 0, .int .i64 0], none⟩] [] [1, 2, 3])
  (.seq (.reg false [⟨some 4, .fad 0 (.t 1), none⟩,
    ⟨some 5, .ld none (.t 4), none⟩,
    ⟨some 6, .fad 0 (.t 3), none⟩,
    ⟨none, .st 1 (.t 6) (.t 5), none⟩] [] [1, 2, 3])
  (.seq (.reg false [⟨some 7, .fad 1 (.t 1), none⟩,
    ⟨some 8, .ld none (.t 7), none⟩,
    ⟨some 9, .fad 1 (.t 3), none⟩,
    ⟨none, .st 1 (.t 9) (.t 8), none⟩] [] [1, 2, 3])
  (.seq (.reg false [⟨some 10, .fad 2 (.t 1), none⟩,
    ⟨some 11, .ld none (.t 10), none⟩,
    ⟨some 12, .fad 2 (.t 3), none⟩,
    ⟨none, .st 1 (.t 12) (.t 11), none⟩] [] [2, 3])
  (.seq (.reg false [⟨some 13, .ld (some 3) (.t 3), none⟩,
    ⟨none, .st 3 (.t 2) (.t 13), none⟩] [] [2])
  .ret)))))), [(2, some (some 3))]⟩
theorem laws_toNode_ok : okFn Try.prog 48 laws_toNode = true := by kernel_rfl
def impl_nodeOk : IFn := ⟨56, (.seq (.reg false [⟨some 2, .box (.t 0), none⟩,
    ⟨some 4, .mv (.c (.bool false)), none⟩] [] [1, 2])
  (.seq (.seq (.reg false [⟨some 5, .fad 0 (.t 2), none⟩,
    ⟨some 6, .ld none (.t 5), none⟩,
    ⟨some 7, .call 56 [.t 6], none⟩] [] [1, 2, 7])
  (.block 0 (.seq (.reg false [⟨some 9, .bin .eql (.t 7) (.c (.int .i64 0)), none⟩,
    ⟨some 8, .mv (.t 9), none⟩] [] [1, 2, 7, 8])
  (.cond (.t 8)
  (.seq (.reg false [⟨some 10, .fad 1 (.t 2), none⟩,
    ⟨some 11, .ld none (.t 10), none⟩,
    ⟨some 12, .call 50 [.t 11, .c (.int .i64 0), .c (.int .i64 199)], none⟩,
    ⟨some 13, .mv (.t 12), none⟩,
    ⟨some 14, .fad 2 (.t 2), some (13, true)⟩,
    ⟨some 15, .ld none (.t 14), some (13, true)⟩,
    ⟨some 16, .bin .eql (.t 15) (.c (.int .i64 0)), some (13, true)⟩,
    ⟨some 17, .pick (.t 13) (.t 16) (.c (.bool false)), none⟩,
    ⟨some 4, .mv (.t 17), none⟩] [] [4])
  .ret)
  (.seq (.reg false [⟨some 19, .bin .eql (.t 7) (.c (.int .i64 1)), none⟩,
    ⟨some 18, .mv (.t 19), none⟩] [] [1, 2, 7, 18])
  (.cond (.t 18)
  (.seq (.reg false [⟨some 20, .fad 1 (.t 2), none⟩,
    ⟨some 21, .ld none (.t 20), none⟩,
    ⟨some 22, .mv (.t 1), none⟩,
    ⟨some 23, .bin .sub (.t 22) (.c (.int .i64 1)), none⟩,
    ⟨some 24, .call 50 [.t 21, .c (.int .i64 0), .t 23], none⟩,
    ⟨some 25, .mv (.t 24), none⟩,
    ⟨some 26, .fad 2 (.t 2), some (25, true)⟩,
    ⟨some 27, .ld none (.t 26), some (25, true)⟩,
    ⟨some 28, .bin .eql (.t 27) (.c (.int .i64 0)), some (25, true)⟩,
    ⟨some 29, .pick (.t 25) (.t 28) (.c (.bool false)), none⟩,
    ⟨some 4, .mv (.t 29), none⟩] [] [4])
  .ret)
  (.seq (.reg false [⟨some 31, .bin .eql (.t 7) (.c (.int .i64 2)), none⟩,
    ⟨some 30, .mv (.t 31), none⟩] [] [1, 2, 30])
  (.cond (.t 30)
  (.seq (.reg false [⟨some 32, .fad 1 (.t 2), none⟩,
    ⟨some 33, .ld none (.t 32), none⟩,
    ⟨some 34, .mv (.t 1), none⟩,
    ⟨some 35, .bin .sub (.t 34) (.c (.int .i64 1)), none⟩,
    ⟨some 36, .call 50 [.t 33, .c (.int .i64 0), .t 35], none⟩,
    ⟨some 37, .mv (.t 36), none⟩,
    ⟨some 38, .fad 2 (.t 2), some (37, true)⟩,
    ⟨some 39, .ld none (.t 38), some (37, true)⟩,
    ⟨some 40, .mv (.t 1), some (37, true)⟩,
    ⟨some 41, .bin .sub (.t 40) (.c (.int .i64 1)), some (37, true)⟩,
    ⟨some 42, .call 50 [.t 39, .c (.int .i64 0), .t 41], some (37, true)⟩,
    ⟨some 43, .pick (.t 37) (.t 42) (.c (.bool false)), none⟩,
    ⟨some 44, .mv (.t 43), none⟩,
    ⟨some 45, .fad 0 (.t 2), some (44, true)⟩,
    ⟨some 46, .ld none (.t 45), some (44, true)⟩,
    ⟨some 47, .bin .neq (.t 46) (.c (.int .i64 8)), some (44, true)⟩,
    ⟨some 48, .mv (.t 47), some (44, true)⟩,
    ⟨some 49, .fad 1 (.t 2), some (48, false)⟩,
    ⟨some 50, .ld none (.t 49), some (48, false)⟩,
    ⟨some 51, .fad 2 (.t 2), some (48, false)⟩,
    ⟨some 52, .ld none (.t 51), some (48, false)⟩,
    ⟨some 53, .bin .leq (.t 50) (.t 52), some (48, false)⟩,
    ⟨some 54, .pick (.t 48) (.c (.bool true)) (.t 53), some (44, true)⟩,
    ⟨some 55, .pick (.t 44) (.t 54) (.c (.bool false)), none⟩,
    ⟨some 4, .mv (.t 55), none⟩] [] [4])
  .ret)
  .skip))))))))
  (.seq (.reg false [⟨some 4, .mv (.c (.bool false)), none⟩] [] [4])
  .ret))), [(4, none)]⟩
theorem impl_nodeOk_ok : okFn Try.prog 49 impl_nodeOk = true := by kernel_rfl
def impl_inRange : IFn := ⟨15, (.seq (.reg false [⟨some 6, .mv (.c (.bool false)), none⟩] [] [0, 1, 2])
  (.seq (.reg false [⟨some 7, .mv (.t 0), none⟩,
    ⟨some 8, .mv (.t 1), none⟩,
    ⟨some 9, .bin .geq (.t 7) (.t 8), none⟩,
    ⟨some 10, .mv (.t 9), none⟩,
    ⟨some 11, .mv (.t 0), some (10, true)⟩,
    ⟨some 12, .mv (.t 2), some (10, true)⟩,
    ⟨some 13, .bin .leq (.t 11) (.t 12), some (10, true)⟩,
    ⟨some 14, .pick (.t 10) (.t 13) (.c (.bool false)), none⟩,
    ⟨some 6, .mv (.t 14), none⟩] [] [6])
  .ret)), [(6, none)]⟩
theorem impl_inRange_ok : okFn Try.prog 50 impl_inRange = true := by kernel_rfl
def slices_Clone_Node : IFn := ⟨8, (.seq (.reg false [⟨some 2, .mv (.c (.nil)), none⟩] [] [0])
  (.seq (.seq (.reg false [⟨some 3, .mv (.t 0), none⟩,
    ⟨some 4, .isn false (.t 3), none⟩] [] [0, 4])
  (.cond (.t 4)
  (.seq (.reg false [⟨some 2, .mv (.c (.nil)), none⟩] [] [2])
  .ret)
  .skip))
  (.seq (.reg false [⟨some 5, .bsl 3 0 [.int .i64 0, .int .i64 0, .int .i64 0] [], none⟩,
    ⟨some 6, .mv (.t 0), none⟩,
    ⟨some 7, .app 3 24 (.t 5) (.t 6), none⟩,
    ⟨some 2, .mv (.t 7), none⟩] [] [2])
  .ret))), [(2, none)]⟩
theorem slices_Clone_Node_ok : okFn Try.prog 51 slices_Clone_Node = true := by kernel_rfl
def impl_Pool_add : IFn := ⟨61, (.seq (.reg false [⟨some 8, .mv (.c (.int .i64 0)), none⟩] [] [0, 1, 2, 3])
  (.seq (.reg false [⟨some 11, .mv (.t 1), none⟩,
    ⟨some 12, .mv (.t 2), none⟩,
    ⟨some 13, .mv (.t 3), none⟩,
    ⟨some 14, .build [.int .i64 0, .int .i64 0, .int .i64 0] [(0, 1, .t 11), (1, 1, .t 12), (2, 1, .t 13)], none⟩,
    ⟨some 9, .new [.int .i64 0, .int .i64 0, .int .i64 0], none⟩,
    ⟨none, .st 3 (.t 9) (.t 14), none⟩] [] [0, 1, 2, 3, 9])
  (.seq (.seq (.reg false [⟨some 15, .mv (.t 1), none⟩,
    ⟨some 16, .bin .eql (.t 15) (.c (.int .i64 8)), none⟩] [] [0, 2, 3, 9, 16])
  (.cond (.t 16)
  (.reg false [⟨some 17, .mv (.t 2), none⟩,
    ⟨some 18, .mv (.t 3), none⟩,
    ⟨some 19, .mm false (.t 17) [.t 18], none⟩,
    ⟨some 20, .mv (.t 2), none⟩,
    ⟨some 21, .mv (.t 3), none⟩,
    ⟨some 22, .mm true (.t 20) [.t 21], none⟩,
    ⟨some 23, .fad 1 (.t 9), none⟩,
    ⟨none, .st 1 (.t 23) (.t 19), none⟩,
    ⟨some 24, .fad 2 (.t 9), none⟩,
    ⟨none, .st 1 (.t 24) (.t 22), none⟩] [] [0, 9])
  .skip))
  (.seq (.seq (.reg true [⟨some 25, .ld (some 3) (.t 9), none⟩,
    ⟨some 26, .mv (.t 0), none⟩,
    ⟨some 27, .nck (.t 26), none⟩,
    ⟨some 28, .fad 0 (.t 27), none⟩,
    ⟨some 29, .ld none (.t 28), none⟩,
    ⟨some 30, .len false (.t 29), none⟩,
    ⟨some 31, .call 49 [.t 25, .t 30], none⟩,
    ⟨some 32, .not (.t 31), none⟩] [0, 0, 2, 6, 14, 30, 63, 127] [0, 9, 32])
  (.cond (.t 32)
  (.seq (.reg false [⟨some 8, .mv (.c (.int .i64 (-1))), none⟩] [] [8])
  .ret)
  .skip))
  (.seq (.seq (.reg false [⟨some 33, .mv (.t 0), none⟩,
    ⟨some 34, .ld (some 3) (.t 9), none⟩,
    ⟨some 35, .call 58 [.t 33, .t 34], none⟩,
    ⟨some 10, .mv (.t 35), none⟩] [] [0, 9, 10])
  (.seq (.reg false [⟨some 36, .mv (.t 10), none⟩,
    ⟨some 37, .bin .geq (.t 36) (.c (.int .i64 0)), none⟩] [] [0, 9, 10, 37])
  (.cond (.t 37)
  (.seq (.reg false [⟨some 38, .mv (.t 10), none⟩,
    ⟨some 8, .mv (.t 38), none⟩] [] [8])
  .ret)
  .skip)))
  (.seq (.seq (.reg false [⟨some 39, .mv (.t 0), none⟩,
    ⟨some 40, .nck (.t 39), none⟩,
    ⟨some 41, .fad 0 (.t 40), none⟩,
    ⟨some 42, .ld none (.t 41), none⟩,
    ⟨some 43, .len false (.t 42), none⟩,
    ⟨some 44, .bin .geq (.t 43) (.c (.int .i64 500)), none⟩] [] [0, 9, 44])
  (.cond (.t 44)
  (.seq (.reg false [⟨some 8, .mv (.c (.int .i64 (-1))), none⟩] [] [8])
  .ret)
  .skip))
  (.seq (.reg true [⟨some 45, .mv (.t 0), none⟩,
    ⟨some 46, .mv (.t 0), none⟩,
    ⟨some 47, .nck (.t 46), none⟩,
    ⟨some 48, .fad 0 (.t 47), none⟩,
    ⟨some 49, .ld none (.t 48), none⟩,
    ⟨some 50, .ld (some 3) (.t 9), none⟩,
    ⟨some 51, .bsl 3 1 [.int .i64 0, .int .i64 0, .int .i64 0] [(0, 3, .t 50)], none⟩,
    ⟨some 52, .app 3 24 (.t 49) (.t 51), none⟩,
    ⟨some 53, .nck (.t 45), none⟩,
    ⟨some 54, .fad 0 (.t 53), none⟩,
    ⟨none, .st 1 (.t 54) (.t 52), none⟩] [0, 0, 2, 6, 14, 0, 32, 126, 255, 511, 1023] [0])
  (.seq (.reg false [⟨some 55, .mv (.t 0), none⟩,
    ⟨some 56, .nck (.t 55), none⟩,
    ⟨some 57, .fad 0 (.t 56), none⟩,
    ⟨some 58, .ld none (.t 57), none⟩,
    ⟨some 59, .len false (.t 58), none⟩,
    ⟨some 60, .bin .sub (.t 59) (.c (.int .i64 1)), none⟩,
    ⟨some 8, .mv (.t 60), none⟩] [] [8])
  .ret)))))))), [(8, none)]⟩
theorem impl_Pool_add_ok : okFn Try.prog 53 impl_Pool_add = true := by kernel_rfl
def laws_eqNode : IFn := ⟨20, (.seq (.reg false [⟨some 2, .box (.t 0), none⟩,
    ⟨some 3, .box (.t 1), none⟩,
    ⟨some 4, .mv (.c (.bool false)), none⟩] [] [2, 3])
  (.seq (.seq (.reg false [⟨some 5, .fad 0 (.t 2), none⟩,
    ⟨some 6, .ld none (.t 5), none⟩,
    ⟨some 7, .fad 0 (.t 3), none⟩,
    ⟨some 8, .ld none (.t 7), none⟩,
    ⟨some 9, .bin .neq (.t 6) (.t 8), none⟩] [] [2, 3, 9])
  (.cond (.t 9)
  (.seq (.reg false [⟨some 4, .mv (.c (.bool false)), none⟩] [] [4])
  .ret)
  .skip))
  (.seq (.seq (.reg false [⟨some 10, .fad 1 (.t 2), none⟩,
    ⟨some 11, .ld none (.t 10), none⟩,
    ⟨some 12, .fad 1 (.t 3), none⟩,
    ⟨some 13, .ld none (.t 12), none⟩,
    ⟨some 14, .bin .neq (.t 11) (.t 13), none⟩] [] [2, 3, 14])
  (.cond (.t 14)
  (.seq (.reg false [⟨some 4, .mv (.c (.bool false)), none⟩] [] [4])
  .ret)
  .skip))
  (.seq (.seq (.reg false [⟨some 15, .fad 2 (.t 2), none⟩,
    ⟨some 16, .ld none (.t 15), none⟩,
    ⟨some 17, .fad 2 (.t 3), none⟩,
    ⟨some 18, .ld none (.t 17), none⟩,
    ⟨some 19, .bin .neq (.t 16) (.t 18), none⟩] [] [19])
  (.cond (.t 19)
  (.seq (.reg false [⟨some 4, .mv (.c (.bool false)), none⟩] [] [4])
  .ret)
  .skip))
  (.seq (.reg false [⟨some 4, .mv (.c (.bool true)), none⟩] [] [4])
  .ret))))), [(4, none)]⟩
theorem laws_eqNode_ok : okFn Try.prog 54 laws_eqNode = true := by kernel_rfl
def spec_l1Parts : IFn := ⟨15, (.seq (.reg false [⟨some 2, .mv (.c (.int .i64 0)), none⟩] [] [0])
  (.seq (.seq (.reg false [⟨some 3, .mv (.t 0), none⟩] [] [3])
  (.block 0 (.seq (.reg false [⟨some 5, .bin .eql (.t 3) (.c (.int .i64 1)), none⟩,
    ⟨some 4, .mv (.t 5), none⟩] [] [3, 4])
  (.cond (.t 4)
  (.seq (.reg false [⟨some 2, .mv (.c (.int .i64 0)), none⟩] [] [2])
  .ret)
  (.seq (.seq (.reg false [⟨some 7, .bin .eql (.t 3) (.c (.int .i64 5)), none⟩,
    ⟨some 6, .mv (.t 7), none⟩] [] [3, 6])
  (.cond (.t 6)
  .skip
  (.reg false [⟨some 8, .bin .eql (.t 3) (.c (.int .i64 7)), none⟩,
    ⟨some 6, .mv (.t 8), none⟩] [] [3, 6])))
  (.cond (.t 6)
  (.seq (.reg false [⟨some 2, .mv (.c (.int .i64 1)), none⟩] [] [2])
  .ret)
  (.seq (.seq (.reg false [⟨some 10, .bin .eql (.t 3) (.c (.int .i64 2)), none⟩,
    ⟨some 9, .mv (.t 10), none⟩] [] [3, 9])
  (.cond (.t 9)
  .skip
  (.seq (.reg false [⟨some 11, .bin .eql (.t 3) (.c (.int .i64 3)), none⟩,
    ⟨some 9, .mv (.t 11), none⟩] [] [3, 9])
  (.cond (.t 9)
  .skip
  (.seq (.reg false [⟨some 12, .bin .eql (.t 3) (.c (.int .i64 4)), none⟩,
    ⟨some 9, .mv (.t 12), none⟩] [] [3, 9])
  (.cond (.t 9)
  .skip
  (.seq (.reg false [⟨some 13, .bin .eql (.t 3) (.c (.int .i64 6)), none⟩,
    ⟨some 9, .mv (.t 13), none⟩] [] [3, 9])
  (.cond (.t 9)
  .skip
  (.reg false [⟨some 14, .bin .eql (.t 3) (.c (.int .i64 8)), none⟩,
    ⟨some 9, .mv (.t 14), none⟩] [] [9])))))))))
  (.cond (.t 9)
  (.seq (.reg false [⟨some 2, .mv (.c (.int .i64 2)), none⟩] [] [2])
  .ret)
  .skip))))))))
  (.seq (.reg false [⟨some 2, .mv (.c (.int .i64 (-1))), none⟩] [] [2])
  .ret))), [(2, none)]⟩
theorem spec_l1Parts_ok : okFn Try.prog 55 spec_l1Parts = true := by kernel_rfl
def impl_count : IFn := ⟨15, (.seq (.reg false [⟨some 2, .mv (.c (.int .i64 0)), none⟩] [] [0])
  (.seq (.seq (.reg false [⟨some 3, .mv (.t 0), none⟩] [] [3])
  (.block 0 (.seq (.reg false [⟨some 5, .bin .eql (.t 3) (.c (.int .i64 1)), none⟩,
    ⟨some 4, .mv (.t 5), none⟩] [] [3, 4])
  (.cond (.t 4)
  (.seq (.reg false [⟨some 2, .mv (.c (.int .i64 0)), none⟩] [] [2])
  .ret)
  (.seq (.seq (.reg false [⟨some 7, .bin .eql (.t 3) (.c (.int .i64 5)), none⟩,
    ⟨some 6, .mv (.t 7), none⟩] [] [3, 6])
  (.cond (.t 6)
  .skip
  (.reg false [⟨some 8, .bin .eql (.t 3) (.c (.int .i64 7)), none⟩,
    ⟨some 6, .mv (.t 8), none⟩] [] [3, 6])))
  (.cond (.t 6)
  (.seq (.reg false [⟨some 2, .mv (.c (.int .i64 1)), none⟩] [] [2])
  .ret)
  (.seq (.seq (.reg false [⟨some 10, .bin .eql (.t 3) (.c (.int .i64 2)), none⟩,
    ⟨some 9, .mv (.t 10), none⟩] [] [3, 9])
  (.cond (.t 9)
  .skip
  (.seq (.reg false [⟨some 11, .bin .eql (.t 3) (.c (.int .i64 3)), none⟩,
    ⟨some 9, .mv (.t 11), none⟩] [] [3, 9])
  (.cond (.t 9)
  .skip
  (.seq (.reg false [⟨some 12, .bin .eql (.t 3) (.c (.int .i64 4)), none⟩,
    ⟨some 9, .mv (.t 12), none⟩] [] [3, 9])
  (.cond (.t 9)
  .skip
  (.seq (.reg false [⟨some 13, .bin .eql (.t 3) (.c (.int .i64 6)), none⟩,
    ⟨some 9, .mv (.t 13), none⟩] [] [3, 9])
  (.cond (.t 9)
  .skip
  (.reg false [⟨some 14, .bin .eql (.t 3) (.c (.int .i64 8)), none⟩,
    ⟨some 9, .mv (.t 14), none⟩] [] [9])))))))))
  (.cond (.t 9)
  (.seq (.reg false [⟨some 2, .mv (.c (.int .i64 2)), none⟩] [] [2])
  .ret)
  .skip))))))))
  (.seq (.reg false [⟨some 2, .mv (.c (.int .i64 (-1))), none⟩] [] [2])
  .ret))), [(2, none)]⟩
theorem impl_count_ok : okFn Try.prog 56 impl_count = true := by kernel_rfl
def impl_Pool_find : IFn := ⟨11, (.seq (.reg false [⟨some 3, .box (.t 1), none⟩,
    ⟨some 4, .mv (.c (.int .i64 0)), none⟩] [] [0, 3])
  (.seq (.reg true [⟨some 5, .mv (.t 0), none⟩,
    ⟨some 6, .nck (.t 5), none⟩,
    ⟨some 7, .fad 0 (.t 6), none⟩,
    ⟨some 8, .ld none (.t 7), none⟩,
    ⟨some 9, .ld (some 3) (.t 3), none⟩,
    ⟨some 10, .call 61 [.t 8, .t 9], none⟩,
    ⟨some 4, .mv (.t 10), none⟩] [0, 1, 3, 7, 0, 31, 63] [4])
  .ret)), [(4, none)]⟩
theorem impl_Pool_find_ok : okFn Try.prog 58 impl_Pool_find = true := by kernel_rfl
def slices_Index_Node : IFn := ⟨19, (.seq (.reg false [⟨some 3, .box (.t 1), none⟩,
    ⟨some 4, .mv (.c (.int .i64 0)), none⟩] [] [0, 3])
  (.seq (.seq (.reg false [⟨some 6, .mv (.t 0), none⟩,
    ⟨some 7, .len false (.t 6), none⟩,
    ⟨some 8, .mv (.c (.int .i64 0)), none⟩] [] [0, 3, 7, 8])
  (.block 0 (.loop (.seq (.reg false [⟨some 9, .bin .lss (.t 8) (.t 7), none⟩] [] [0, 3, 7, 8, 9])
  (.seq (.cond (.t 9)
  .skip
  (.exit 0))
  (.seq (.block 1 (.seq (.reg false [⟨some 10, .mv (.t 8), none⟩,
    ⟨some 5, .mv (.t 10), none⟩] [] [0, 3, 5, 7, 8])
  (.seq (.reg true [⟨some 11, .ld (some 3) (.t 3), none⟩,
    ⟨some 12, .mv (.t 0), none⟩,
    ⟨some 13, .mv (.t 5), none⟩,
    ⟨some 14, .iad 3 (.t 12) (.t 13), none⟩,
    ⟨some 15, .ld (some 3) (.t 14), none⟩,
    ⟨some 16, .eqs false [1, 1, 1] (.t 11) (.t 15), none⟩] [0, 0, 0, 6, 14, 31] [0, 3, 5, 7, 8, 16])
  (.cond (.t 16)
  (.seq (.reg false [⟨some 17, .mv (.t 5), none⟩,
    ⟨some 4, .mv (.t 17), none⟩] [] [4])
  .ret)
  .skip))))
  (.reg false [⟨some 18, .bin .add (.t 8) (.c (.int .i64 1)), none⟩,
    ⟨some 8, .mv (.t 18), none⟩] [] [0, 3, 7, 8])))))))
  (.seq (.reg false [⟨some 4, .mv (.c (.int .i64 (-1))), none⟩] [] [4])
  .ret))), [(4, none)]⟩
theorem slices_Index_Node_ok : okFn Try.prog 61 slices_Index_Node = true := by kernel_rfl
end Go.Proofs.Ytpohfpnlepmebaa.I
