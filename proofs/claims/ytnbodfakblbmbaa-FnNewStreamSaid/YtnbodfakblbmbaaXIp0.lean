/- The functions of this seat told by trees. Printed by a program of this repository (mkir.py). Conditions: none. -/
import Derived.Test.YtnbodfakblbmbaaXSymQ
import Derived.Test.YtnbodfakblbmbaaProg
import Derived.KernelRfl
set_option maxRecDepth 100000
set_option linter.unusedVariables false
namespace Go.Proofs.Ytnbodfakblbmbaa.I
open Go.Sym
def laws_FnExactLinkTake : IFn := ⟨60, (.seq (.reg false [⟨some 3, .box (.t 0), none⟩,
    ⟨some 4, .box (.t 1), none⟩,
    ⟨some 6, .mv (.c (.bool false)), none⟩] [] [2, 3, 4])
  (.seq (.reg false [⟨some 7, .mv (.c (.int .i64 1048576)), none⟩] [] [2, 3, 4, 7])
  (.seq (.reg false [⟨some 15, .ld (some 1) (.t 3), none⟩,
    ⟨some 16, .mv (.t 7), none⟩,
    ⟨some 17, .call 15 [.t 15, .t 16], none⟩,
    ⟨some 7, .mv (.t 17), none⟩] [] [2, 3, 4, 7])
  (.seq (.seq (.reg false [⟨some 18, .mv (.t 7), none⟩,
    ⟨some 19, .bin .lss (.t 18) (.c (.int .i64 0)), none⟩] [] [2, 3, 4, 19])
  (.cond (.t 19)
  (.seq (.reg false [⟨some 6, .mv (.c (.bool true)), none⟩] [] [6])
  .ret)
  .skip))
  (.seq (.reg true [⟨some 21, .ld (some 1) (.t 3), none⟩,
    ⟨some 22, .call 17 [.t 21], none⟩,
    ⟨some 23, .ld (some 4) (.t 4), none⟩,
    ⟨some 24, .call 18 [.t 23], none⟩,
    ⟨some 25, .mv (.t 2), none⟩,
    ⟨some 26, .call 16 [.t 22, .t 24, .t 25], none⟩,
    ⟨some 20, .mv (.t 26), none⟩,
    ⟨some 27, .ext (.t 20) 0, none⟩,
    ⟨some 28, .ext (.t 20) 1, none⟩,
    ⟨some 29, .ext (.t 20) 2, none⟩,
    ⟨some 8, .new [.int .i64 0, .int .i64 0, .int .i64 0, .bool false], none⟩,
    ⟨none, .st 4 (.t 8) (.t 27), none⟩,
    ⟨some 9, .mv (.t 28), none⟩,
    ⟨some 10, .mv (.t 29), none⟩] [0, 1, 0, 7, 0, 31, 63, 127, 127, 127, 0, 1279, 3583, 8191] [2, 3, 4, 8, 9, 10])
  (.seq (.reg false [⟨some 30, .ld (some 1) (.t 3), none⟩,
    ⟨some 31, .call 17 [.t 30], none⟩,
    ⟨some 11, .new [.nil], none⟩,
    ⟨none, .st 1 (.t 11) (.t 31), none⟩] [] [2, 3, 4, 8, 9, 10, 11])
  (.seq (.reg true [⟨some 33, .ld (some 1) (.t 11), none⟩,
    ⟨some 34, .ld (some 4) (.t 4), none⟩,
    ⟨some 35, .call 18 [.t 34], none⟩,
    ⟨some 36, .mv (.t 2), none⟩,
    ⟨some 37, .call 19 [.t 33, .t 35, .t 36], none⟩,
    ⟨some 32, .mv (.t 37), none⟩,
    ⟨some 38, .ext (.t 32) 0, none⟩,
    ⟨some 39, .ext (.t 32) 1, none⟩,
    ⟨some 40, .ext (.t 32) 2, none⟩,
    ⟨some 12, .new [.int .i64 0, .int .i64 0, .int .i64 0, .bool false], none⟩,
    ⟨none, .st 4 (.t 12) (.t 38), none⟩,
    ⟨some 13, .mv (.t 39), none⟩,
    ⟨some 14, .mv (.t 40), none⟩] [0, 0, 2, 0, 15, 31, 63, 63, 63, 0, 639, 1791, 4095] [3, 8, 9, 10, 11, 12, 13, 14])
  (.seq (.seq (.reg false [⟨some 41, .ld (some 4) (.t 12), none⟩,
    ⟨some 42, .ld (some 4) (.t 8), none⟩,
    ⟨some 43, .call 20 [.t 41, .t 42], none⟩,
    ⟨some 44, .not (.t 43), none⟩,
    ⟨some 45, .mv (.t 44), none⟩,
    ⟨some 46, .mv (.t 13), some (45, false)⟩,
    ⟨some 47, .mv (.t 9), some (45, false)⟩,
    ⟨some 48, .bin .neq (.t 46) (.t 47), some (45, false)⟩,
    ⟨some 49, .pick (.t 45) (.c (.bool true)) (.t 48), none⟩,
    ⟨some 50, .mv (.t 49), none⟩,
    ⟨some 51, .mv (.t 14), some (50, false)⟩,
    ⟨some 52, .mv (.t 10), some (50, false)⟩,
    ⟨some 53, .bin .neq (.t 51) (.t 52), some (50, false)⟩,
    ⟨some 54, .pick (.t 50) (.c (.bool true)) (.t 53), none⟩] [] [3, 11, 54])
  (.cond (.t 54)
  (.seq (.reg false [⟨some 6, .mv (.c (.bool false)), none⟩] [] [6])
  .ret)
  .skip))
  (.seq (.seq (.reg true [⟨some 55, .ld (some 1) (.t 11), none⟩,
    ⟨some 56, .ld (some 1) (.t 3), none⟩,
    ⟨some 57, .call 17 [.t 56], none⟩,
    ⟨some 58, .call 21 [.t 55, .t 57], none⟩,
    ⟨some 59, .not (.t 58), none⟩] [0, 0, 2, 7, 15] [59])
  (.cond (.t 59)
  (.seq (.reg false [⟨some 6, .mv (.c (.bool false)), none⟩] [] [6])
  .ret)
  .skip))
  (.seq (.reg false [⟨some 6, .mv (.c (.bool true)), none⟩] [] [6])
  .ret)))))))))), [(6, none)]⟩
theorem laws_FnExactLinkTake_ok : okFn Try.prog 3 laws_FnExactLinkTake = true := by kernel_rfl
def laws_FnExactStreamOk : IFn := ⟨27, (.seq (.reg false [⟨some 1, .box (.t 0), none⟩,
    ⟨some 2, .mv (.c (.bool false)), none⟩] [] [1])
  (.seq (.reg false [⟨some 3, .mv (.c (.int .i64 1048576)), none⟩] [] [1, 3])
  (.seq (.reg false [⟨some 7, .ld (some 12) (.t 1), none⟩,
    ⟨some 8, .mv (.t 3), none⟩,
    ⟨some 9, .call 22 [.t 7, .t 8], none⟩,
    ⟨some 3, .mv (.t 9), none⟩] [] [1, 3])
  (.seq (.seq (.reg false [⟨some 10, .mv (.t 3), none⟩,
    ⟨some 11, .bin .lss (.t 10) (.c (.int .i64 0)), none⟩] [] [1, 11])
  (.cond (.t 11)
  (.seq (.reg false [⟨some 2, .mv (.c (.bool true)), none⟩] [] [2])
  .ret)
  .skip))
  (.seq (.reg false [⟨some 12, .ld (some 12) (.t 1), none⟩,
    ⟨some 13, .call 24 [.t 12], none⟩,
    ⟨some 14, .call 23 [.t 13], none⟩,
    ⟨some 4, .mv (.t 14), none⟩] [] [1, 4])
  (.seq (.reg false [⟨some 15, .ld (some 12) (.t 1), none⟩,
    ⟨some 16, .call 24 [.t 15], none⟩,
    ⟨some 5, .new [.nil, .nil, .int .i64 0, .int .i64 0, .int .i64 0, .bool false, .int .i64 0, .int .i64 0, .int .i64 0, .bool false, .nil, .nil], none⟩,
    ⟨none, .st 12 (.t 5) (.t 16), none⟩] [] [1, 4, 5])
  (.seq (.reg false [⟨some 17, .ld (some 12) (.t 5), none⟩,
    ⟨some 18, .call 25 [.t 17], none⟩,
    ⟨some 6, .mv (.t 18), none⟩] [] [1, 4, 5, 6])
  (.seq (.seq (.reg false [⟨some 19, .mv (.t 6), none⟩,
    ⟨some 20, .mv (.t 4), none⟩,
    ⟨some 21, .eqb true (.t 19) (.t 20), none⟩] [] [1, 5, 21])
  (.cond (.t 21)
  (.seq (.reg false [⟨some 2, .mv (.c (.bool false)), none⟩] [] [2])
  .ret)
  .skip))
  (.seq (.seq (.reg true [⟨some 22, .ld (some 12) (.t 5), none⟩,
    ⟨some 23, .ld (some 12) (.t 1), none⟩,
    ⟨some 24, .call 24 [.t 23], none⟩,
    ⟨some 25, .call 26 [.t 22, .t 24], none⟩,
    ⟨some 26, .not (.t 25), none⟩] [0, 0, 2, 7, 15] [26])
  (.cond (.t 26)
  (.seq (.reg false [⟨some 2, .mv (.c (.bool false)), none⟩] [] [2])
  .ret)
  .skip))
  (.seq (.reg false [⟨some 2, .mv (.c (.bool true)), none⟩] [] [2])
  .ret)))))))))), [(2, none)]⟩
theorem laws_FnExactStreamOk_ok : okFn Try.prog 4 laws_FnExactStreamOk = true := by kernel_rfl
def laws_FnExactLinkTurn : IFn := ⟨128, (.seq (.reg false [⟨some 2, .box (.t 0), none⟩,
    ⟨some 3, .box (.t 1), none⟩,
    ⟨some 4, .mv (.c (.bool false)), none⟩] [] [2, 3])
  (.seq (.reg false [⟨some 5, .mv (.c (.int .i64 1048576)), none⟩] [] [2, 3, 5])
  (.seq (.reg false [⟨some 19, .ld (some 1) (.t 2), none⟩,
    ⟨some 20, .mv (.t 5), none⟩,
    ⟨some 21, .call 15 [.t 19, .t 20], none⟩,
    ⟨some 5, .mv (.t 21), none⟩] [] [2, 3, 5])
  (.seq (.seq (.reg false [⟨some 22, .mv (.t 5), none⟩,
    ⟨some 23, .bin .lss (.t 22) (.c (.int .i64 0)), none⟩] [] [2, 3, 23])
  (.cond (.t 23)
  (.seq (.reg false [⟨some 4, .mv (.c (.bool true)), none⟩] [] [4])
  .ret)
  .skip))
  (.seq (.reg true [⟨some 25, .ld (some 1) (.t 2), none⟩,
    ⟨some 26, .call 17 [.t 25], none⟩,
    ⟨some 27, .ld (some 4) (.t 3), none⟩,
    ⟨some 28, .call 18 [.t 27], none⟩,
    ⟨some 29, .call 27 [.t 26, .t 28], none⟩,
    ⟨some 24, .mv (.t 29), none⟩,
    ⟨some 30, .ext (.t 24) 0, none⟩,
    ⟨some 31, .ext (.t 24) 1, none⟩,
    ⟨some 32, .ext (.t 24) 2, none⟩,
    ⟨some 6, .new [.nil], none⟩,
    ⟨some 7, .new [.int .i64 0, .int .i64 0, .int .i64 0, .bool false], none⟩,
    ⟨none, .st 1 (.t 6) (.t 30), none⟩,
    ⟨none, .st 4 (.t 7) (.t 31), none⟩,
    ⟨some 8, .mv (.t 32), none⟩] [0, 1, 0, 7, 15, 31, 63, 63, 63, 0, 0, 1663, 3839, 8191] [2, 3, 6, 7, 8])
  (.seq (.reg false [⟨some 33, .ld (some 1) (.t 2), none⟩,
    ⟨some 34, .call 17 [.t 33], none⟩,
    ⟨some 9, .new [.nil], none⟩,
    ⟨none, .st 1 (.t 9) (.t 34), none⟩] [] [2, 3, 6, 7, 8, 9])
  (.seq (.reg true [⟨some 36, .ld (some 1) (.t 9), none⟩,
    ⟨some 37, .ld (some 4) (.t 3), none⟩,
    ⟨some 38, .call 18 [.t 37], none⟩,
    ⟨some 39, .call 28 [.t 36, .t 38], none⟩,
    ⟨some 35, .mv (.t 39), none⟩,
    ⟨some 40, .ext (.t 35) 0, none⟩,
    ⟨some 41, .ext (.t 35) 1, none⟩,
    ⟨some 42, .ext (.t 35) 2, none⟩,
    ⟨some 10, .new [.nil], none⟩,
    ⟨some 11, .new [.int .i64 0, .int .i64 0, .int .i64 0, .bool false], none⟩,
    ⟨none, .st 1 (.t 10) (.t 40), none⟩,
    ⟨none, .st 4 (.t 11) (.t 41), none⟩,
    ⟨some 12, .mv (.t 42), none⟩] [0, 0, 2, 7, 15, 31, 31, 31, 0, 0, 831, 1919, 4095] [2, 3, 6, 7, 8, 9, 10, 11, 12])
  (.seq (.seq (.reg false [⟨some 43, .ld (some 1) (.t 10), none⟩,
    ⟨some 44, .ld (some 1) (.t 6), none⟩,
    ⟨some 45, .call 21 [.t 43, .t 44], none⟩,
    ⟨some 46, .not (.t 45), none⟩,
    ⟨some 47, .mv (.t 46), none⟩,
    ⟨some 48, .ld (some 4) (.t 11), some (47, false)⟩,
    ⟨some 49, .ld (some 4) (.t 7), some (47, false)⟩,
    ⟨some 50, .call 20 [.t 48, .t 49], some (47, false)⟩,
    ⟨some 51, .not (.t 50), some (47, false)⟩,
    ⟨some 52, .pick (.t 47) (.c (.bool true)) (.t 51), none⟩,
    ⟨some 53, .mv (.t 52), none⟩,
    ⟨some 54, .mv (.t 12), some (53, false)⟩,
    ⟨some 55, .mv (.t 8), some (53, false)⟩,
    ⟨some 56, .eqb true (.t 54) (.t 55), some (53, false)⟩,
    ⟨some 57, .pick (.t 53) (.c (.bool true)) (.t 56), none⟩] [] [2, 3, 6, 7, 8, 9, 10, 11, 12, 57])
  (.cond (.t 57)
  (.seq (.reg false [⟨some 4, .mv (.c (.bool false)), none⟩] [] [4])
  .ret)
  .skip))
  (.seq (.seq (.reg true [⟨some 58, .ld (some 1) (.t 9), none⟩,
    ⟨some 59, .ld (some 1) (.t 2), none⟩,
    ⟨some 60, .call 17 [.t 59], none⟩,
    ⟨some 61, .call 21 [.t 58, .t 60], none⟩,
    ⟨some 62, .not (.t 61), none⟩] [0, 0, 2, 7, 15] [2, 3, 6, 7, 8, 9, 10, 11, 12, 62])
  (.cond (.t 62)
  (.seq (.reg false [⟨some 4, .mv (.c (.bool false)), none⟩] [] [4])
  .ret)
  .skip))
  (.seq (.reg false [⟨some 13, .mv (.c (.int .i64 1)), none⟩] [] [2, 3, 6, 7, 8, 9, 10, 11, 12, 13])
  (.seq (.reg false [⟨some 63, .ld (some 1) (.t 9), none⟩,
    ⟨some 64, .mv (.t 13), none⟩,
    ⟨some 65, .call 29 [.t 63, .t 64], none⟩,
    ⟨some 13, .mv (.t 65), none⟩] [] [2, 3, 6, 7, 8, 10, 11, 12, 13])
  (.seq (.seq (.reg false [⟨some 66, .mv (.t 13), none⟩,
    ⟨some 67, .bin .lss (.t 66) (.c (.int .i64 0)), none⟩,
    ⟨some 68, .mv (.t 67), none⟩,
    ⟨some 69, .ld (some 1) (.t 10), some (68, false)⟩,
    ⟨some 70, .ld (some 1) (.t 6), some (68, false)⟩,
    ⟨some 71, .call 21 [.t 69, .t 70], some (68, false)⟩,
    ⟨some 72, .not (.t 71), some (68, false)⟩,
    ⟨some 73, .pick (.t 68) (.c (.bool true)) (.t 72), none⟩,
    ⟨some 74, .mv (.t 73), none⟩,
    ⟨some 75, .ld (some 4) (.t 11), some (74, false)⟩,
    ⟨some 76, .ld (some 4) (.t 7), some (74, false)⟩,
    ⟨some 77, .call 20 [.t 75, .t 76], some (74, false)⟩,
    ⟨some 78, .not (.t 77), some (74, false)⟩,
    ⟨some 79, .pick (.t 74) (.c (.bool true)) (.t 78), none⟩,
    ⟨some 80, .mv (.t 79), none⟩,
    ⟨some 81, .mv (.t 12), some (80, false)⟩,
    ⟨some 82, .mv (.t 8), some (80, false)⟩,
    ⟨some 83, .eqb true (.t 81) (.t 82), some (80, false)⟩,
    ⟨some 84, .pick (.t 80) (.c (.bool true)) (.t 83), none⟩] [] [2, 3, 6, 7, 8, 10, 84])
  (.cond (.t 84)
  (.seq (.reg false [⟨some 4, .mv (.c (.bool false)), none⟩] [] [4])
  .ret)
  .skip))
  (.seq (.reg false [⟨some 14, .mv (.c (.int .i64 1)), none⟩] [] [2, 3, 6, 7, 8, 10, 14])
  (.seq (.reg false [⟨some 85, .ld (some 1) (.t 10), none⟩,
    ⟨some 86, .mv (.t 14), none⟩,
    ⟨some 87, .call 29 [.t 85, .t 86], none⟩,
    ⟨some 14, .mv (.t 87), none⟩] [] [2, 3, 6, 7, 8, 10, 14])
  (.seq (.reg false [⟨some 15, .mv (.c (.int .i64 1)), none⟩] [] [2, 3, 6, 7, 8, 10, 14, 15])
  (.seq (.reg false [⟨some 88, .ld (some 1) (.t 10), none⟩,
    ⟨some 89, .mv (.t 15), none⟩,
    ⟨some 90, .call 30 [.t 88, .t 89], none⟩,
    ⟨some 15, .mv (.t 90), none⟩] [] [2, 3, 6, 7, 8, 10, 14, 15])
  (.seq (.seq (.reg false [⟨some 91, .mv (.t 15), none⟩,
    ⟨some 92, .bin .lss (.t 91) (.c (.int .i64 0)), none⟩] [] [2, 3, 6, 7, 8, 10, 14, 15, 92])
  (.cond (.t 92)
  (.seq (.reg false [⟨some 4, .mv (.c (.bool false)), none⟩] [] [4])
  .ret)
  .skip))
  (.seq (.seq (.reg false [⟨some 93, .mv (.t 15), none⟩,
    ⟨some 94, .mv (.t 14), none⟩,
    ⟨some 95, .bin .neq (.t 93) (.t 94), none⟩] [] [2, 3, 6, 7, 8, 10, 14, 95])
  (.cond (.t 95)
  (.seq (.reg false [⟨some 4, .mv (.c (.bool false)), none⟩] [] [4])
  .ret)
  .skip))
  (.seq (.reg true [⟨some 97, .ld (some 1) (.t 2), none⟩,
    ⟨some 98, .call 17 [.t 97], none⟩,
    ⟨some 99, .ld (some 4) (.t 3), none⟩,
    ⟨some 100, .call 18 [.t 99], none⟩,
    ⟨some 101, .call 28 [.t 98, .t 100], none⟩,
    ⟨some 96, .mv (.t 101), none⟩,
    ⟨some 102, .ext (.t 96) 0, none⟩,
    ⟨some 103, .ext (.t 96) 1, none⟩,
    ⟨some 104, .ext (.t 96) 2, none⟩,
    ⟨some 16, .new [.nil], none⟩,
    ⟨some 17, .new [.int .i64 0, .int .i64 0, .int .i64 0, .bool false], none⟩,
    ⟨none, .st 1 (.t 16) (.t 102), none⟩,
    ⟨none, .st 4 (.t 17) (.t 103), none⟩,
    ⟨some 18, .mv (.t 104), none⟩] [0, 1, 0, 7, 15, 31, 63, 63, 63, 0, 0, 1663, 3839, 8191] [6, 7, 8, 10, 14, 16, 17, 18])
  (.seq (.seq (.reg false [⟨some 105, .ld (some 1) (.t 16), none⟩,
    ⟨some 106, .ld (some 1) (.t 6), none⟩,
    ⟨some 107, .call 21 [.t 105, .t 106], none⟩,
    ⟨some 108, .not (.t 107), none⟩,
    ⟨some 109, .mv (.t 108), none⟩,
    ⟨some 110, .ld (some 4) (.t 17), some (109, false)⟩,
    ⟨some 111, .ld (some 4) (.t 7), some (109, false)⟩,
    ⟨some 112, .call 20 [.t 110, .t 111], some (109, false)⟩,
    ⟨some 113, .not (.t 112), some (109, false)⟩,
    ⟨some 114, .pick (.t 109) (.c (.bool true)) (.t 113), none⟩,
    ⟨some 115, .mv (.t 114), none⟩,
    ⟨some 116, .mv (.t 18), some (115, false)⟩,
    ⟨some 117, .mv (.t 8), some (115, false)⟩,
    ⟨some 118, .eqb true (.t 116) (.t 117), some (115, false)⟩,
    ⟨some 119, .pick (.t 115) (.c (.bool true)) (.t 118), none⟩] [] [10, 14, 119])
  (.cond (.t 119)
  (.seq (.reg false [⟨some 4, .mv (.c (.bool false)), none⟩] [] [4])
  .ret)
  .skip))
  (.seq (.reg false [⟨some 15, .mv (.c (.int .i64 1)), none⟩] [] [10, 14, 15])
  (.seq (.reg false [⟨some 120, .ld (some 1) (.t 10), none⟩,
    ⟨some 121, .mv (.t 15), none⟩,
    ⟨some 122, .call 30 [.t 120, .t 121], none⟩,
    ⟨some 15, .mv (.t 122), none⟩] [] [14, 15])
  (.seq (.seq (.reg false [⟨some 123, .mv (.t 15), none⟩,
    ⟨some 124, .bin .lss (.t 123) (.c (.int .i64 0)), none⟩] [] [14, 15, 124])
  (.cond (.t 124)
  (.seq (.reg false [⟨some 4, .mv (.c (.bool false)), none⟩] [] [4])
  .ret)
  .skip))
  (.seq (.seq (.reg false [⟨some 125, .mv (.t 15), none⟩,
    ⟨some 126, .mv (.t 14), none⟩,
    ⟨some 127, .bin .neq (.t 125) (.t 126), none⟩] [] [127])
  (.cond (.t 127)
  (.seq (.reg false [⟨some 4, .mv (.c (.bool false)), none⟩] [] [4])
  .ret)
  .skip))
  (.seq (.reg false [⟨some 4, .mv (.c (.bool true)), none⟩] [] [4])
  .ret))))))))))))))))))))))))), [(4, none)]⟩
theorem laws_FnExactLinkTurn_ok : okFn Try.prog 5 laws_FnExactLinkTurn = true := by kernel_rfl
def laws_FnExactLinkSend : IFn := ⟨133, (.seq (.reg false [⟨some 3, .box (.t 0), none⟩,
    ⟨some 4, .box (.t 1), none⟩,
    ⟨some 6, .mv (.c (.bool false)), none⟩] [] [2, 3, 4])
  (.seq (.reg false [⟨some 7, .mv (.c (.int .i64 1048576)), none⟩] [] [2, 3, 4, 7])
  (.seq (.reg false [⟨some 21, .ld (some 1) (.t 3), none⟩,
    ⟨some 22, .mv (.t 7), none⟩,
    ⟨some 23, .call 15 [.t 21, .t 22], none⟩,
    ⟨some 7, .mv (.t 23), none⟩] [] [2, 3, 4, 7])
  (.seq (.seq (.reg false [⟨some 24, .mv (.t 7), none⟩,
    ⟨some 25, .bin .lss (.t 24) (.c (.int .i64 0)), none⟩] [] [2, 3, 4, 25])
  (.cond (.t 25)
  (.seq (.reg false [⟨some 6, .mv (.c (.bool true)), none⟩] [] [6])
  .ret)
  .skip))
  (.seq (.reg true [⟨some 27, .ld (some 1) (.t 3), none⟩,
    ⟨some 28, .call 17 [.t 27], none⟩,
    ⟨some 29, .ld (some 4) (.t 4), none⟩,
    ⟨some 30, .call 18 [.t 29], none⟩,
    ⟨some 31, .mv (.t 2), none⟩,
    ⟨some 32, .call 31 [.t 28, .t 30, .t 31], none⟩,
    ⟨some 26, .mv (.t 32), none⟩,
    ⟨some 33, .ext (.t 26) 0, none⟩,
    ⟨some 34, .ext (.t 26) 1, none⟩,
    ⟨some 35, .ext (.t 26) 2, none⟩,
    ⟨some 8, .new [.nil], none⟩,
    ⟨some 9, .new [.int .i64 0, .int .i64 0, .int .i64 0, .bool false], none⟩,
    ⟨none, .st 1 (.t 8) (.t 33), none⟩,
    ⟨none, .st 4 (.t 9) (.t 34), none⟩,
    ⟨some 10, .mv (.t 35), none⟩] [0, 1, 0, 7, 0, 31, 63, 127, 127, 127, 0, 0, 3327, 7679, 16383] [2, 3, 4, 8, 9, 10])
  (.seq (.reg false [⟨some 36, .ld (some 1) (.t 3), none⟩,
    ⟨some 37, .call 17 [.t 36], none⟩,
    ⟨some 11, .new [.nil], none⟩,
    ⟨none, .st 1 (.t 11) (.t 37), none⟩] [] [2, 3, 4, 8, 9, 10, 11])
  (.seq (.reg true [⟨some 39, .ld (some 1) (.t 11), none⟩,
    ⟨some 40, .ld (some 4) (.t 4), none⟩,
    ⟨some 41, .call 18 [.t 40], none⟩,
    ⟨some 42, .mv (.t 2), none⟩,
    ⟨some 43, .call 32 [.t 39, .t 41, .t 42], none⟩,
    ⟨some 38, .mv (.t 43), none⟩,
    ⟨some 44, .ext (.t 38) 0, none⟩,
    ⟨some 45, .ext (.t 38) 1, none⟩,
    ⟨some 46, .ext (.t 38) 2, none⟩,
    ⟨some 12, .new [.nil], none⟩,
    ⟨some 13, .new [.int .i64 0, .int .i64 0, .int .i64 0, .bool false], none⟩,
    ⟨none, .st 1 (.t 12) (.t 44), none⟩,
    ⟨none, .st 4 (.t 13) (.t 45), none⟩,
    ⟨some 14, .mv (.t 46), none⟩] [0, 0, 2, 0, 15, 31, 63, 63, 63, 0, 0, 1663, 3839, 8191] [2, 3, 4, 8, 9, 10, 11, 12, 13, 14])
  (.seq (.seq (.reg false [⟨some 47, .ld (some 1) (.t 12), none⟩,
    ⟨some 48, .ld (some 1) (.t 8), none⟩,
    ⟨some 49, .call 21 [.t 47, .t 48], none⟩,
    ⟨some 50, .not (.t 49), none⟩,
    ⟨some 51, .mv (.t 50), none⟩,
    ⟨some 52, .ld (some 4) (.t 13), some (51, false)⟩,
    ⟨some 53, .ld (some 4) (.t 9), some (51, false)⟩,
    ⟨some 54, .call 20 [.t 52, .t 53], some (51, false)⟩,
    ⟨some 55, .not (.t 54), some (51, false)⟩,
    ⟨some 56, .pick (.t 51) (.c (.bool true)) (.t 55), none⟩,
    ⟨some 57, .mv (.t 56), none⟩,
    ⟨some 58, .mv (.t 14), some (57, false)⟩,
    ⟨some 59, .mv (.t 10), some (57, false)⟩,
    ⟨some 60, .bin .neq (.t 58) (.t 59), some (57, false)⟩,
    ⟨some 61, .pick (.t 57) (.c (.bool true)) (.t 60), none⟩] [] [2, 3, 4, 8, 9, 10, 11, 12, 13, 14, 61])
  (.cond (.t 61)
  (.seq (.reg false [⟨some 6, .mv (.c (.bool false)), none⟩] [] [6])
  .ret)
  .skip))
  (.seq (.seq (.reg true [⟨some 62, .ld (some 1) (.t 11), none⟩,
    ⟨some 63, .ld (some 1) (.t 3), none⟩,
    ⟨some 64, .call 17 [.t 63], none⟩,
    ⟨some 65, .call 21 [.t 62, .t 64], none⟩,
    ⟨some 66, .not (.t 65), none⟩] [0, 0, 2, 7, 15] [2, 3, 4, 8, 9, 10, 11, 12, 13, 14, 66])
  (.cond (.t 66)
  (.seq (.reg false [⟨some 6, .mv (.c (.bool false)), none⟩] [] [6])
  .ret)
  .skip))
  (.seq (.reg false [⟨some 15, .mv (.c (.int .i64 1)), none⟩] [] [2, 3, 4, 8, 9, 10, 11, 12, 13, 14, 15])
  (.seq (.reg false [⟨some 67, .ld (some 1) (.t 11), none⟩,
    ⟨some 68, .mv (.t 15), none⟩,
    ⟨some 69, .call 29 [.t 67, .t 68], none⟩,
    ⟨some 15, .mv (.t 69), none⟩] [] [2, 3, 4, 8, 9, 10, 12, 13, 14, 15])
  (.seq (.seq (.reg false [⟨some 70, .mv (.t 15), none⟩,
    ⟨some 71, .bin .lss (.t 70) (.c (.int .i64 0)), none⟩,
    ⟨some 72, .mv (.t 71), none⟩,
    ⟨some 73, .ld (some 1) (.t 12), some (72, false)⟩,
    ⟨some 74, .ld (some 1) (.t 8), some (72, false)⟩,
    ⟨some 75, .call 21 [.t 73, .t 74], some (72, false)⟩,
    ⟨some 76, .not (.t 75), some (72, false)⟩,
    ⟨some 77, .pick (.t 72) (.c (.bool true)) (.t 76), none⟩,
    ⟨some 78, .mv (.t 77), none⟩,
    ⟨some 79, .ld (some 4) (.t 13), some (78, false)⟩,
    ⟨some 80, .ld (some 4) (.t 9), some (78, false)⟩,
    ⟨some 81, .call 20 [.t 79, .t 80], some (78, false)⟩,
    ⟨some 82, .not (.t 81), some (78, false)⟩,
    ⟨some 83, .pick (.t 78) (.c (.bool true)) (.t 82), none⟩,
    ⟨some 84, .mv (.t 83), none⟩,
    ⟨some 85, .mv (.t 14), some (84, false)⟩,
    ⟨some 86, .mv (.t 10), some (84, false)⟩,
    ⟨some 87, .bin .neq (.t 85) (.t 86), some (84, false)⟩,
    ⟨some 88, .pick (.t 84) (.c (.bool true)) (.t 87), none⟩] [] [2, 3, 4, 8, 9, 10, 12, 88])
  (.cond (.t 88)
  (.seq (.reg false [⟨some 6, .mv (.c (.bool false)), none⟩] [] [6])
  .ret)
  .skip))
  (.seq (.reg false [⟨some 16, .mv (.c (.int .i64 1)), none⟩] [] [2, 3, 4, 8, 9, 10, 12, 16])
  (.seq (.reg false [⟨some 89, .ld (some 1) (.t 12), none⟩,
    ⟨some 90, .mv (.t 16), none⟩,
    ⟨some 91, .call 29 [.t 89, .t 90], none⟩,
    ⟨some 16, .mv (.t 91), none⟩] [] [2, 3, 4, 8, 9, 10, 12, 16])
  (.seq (.reg false [⟨some 17, .mv (.c (.int .i64 1)), none⟩] [] [2, 3, 4, 8, 9, 10, 12, 16, 17])
  (.seq (.reg false [⟨some 92, .ld (some 1) (.t 12), none⟩,
    ⟨some 93, .mv (.t 17), none⟩,
    ⟨some 94, .call 30 [.t 92, .t 93], none⟩,
    ⟨some 17, .mv (.t 94), none⟩] [] [2, 3, 4, 8, 9, 10, 12, 16, 17])
  (.seq (.seq (.reg false [⟨some 95, .mv (.t 17), none⟩,
    ⟨some 96, .bin .lss (.t 95) (.c (.int .i64 0)), none⟩] [] [2, 3, 4, 8, 9, 10, 12, 16, 17, 96])
  (.cond (.t 96)
  (.seq (.reg false [⟨some 6, .mv (.c (.bool false)), none⟩] [] [6])
  .ret)
  .skip))
  (.seq (.seq (.reg false [⟨some 97, .mv (.t 17), none⟩,
    ⟨some 98, .mv (.t 16), none⟩,
    ⟨some 99, .bin .neq (.t 97) (.t 98), none⟩] [] [2, 3, 4, 8, 9, 10, 12, 16, 99])
  (.cond (.t 99)
  (.seq (.reg false [⟨some 6, .mv (.c (.bool false)), none⟩] [] [6])
  .ret)
  .skip))
  (.seq (.reg true [⟨some 101, .ld (some 1) (.t 3), none⟩,
    ⟨some 102, .call 17 [.t 101], none⟩,
    ⟨some 103, .ld (some 4) (.t 4), none⟩,
    ⟨some 104, .call 18 [.t 103], none⟩,
    ⟨some 105, .mv (.t 2), none⟩,
    ⟨some 106, .call 32 [.t 102, .t 104, .t 105], none⟩,
    ⟨some 100, .mv (.t 106), none⟩,
    ⟨some 107, .ext (.t 100) 0, none⟩,
    ⟨some 108, .ext (.t 100) 1, none⟩,
    ⟨some 109, .ext (.t 100) 2, none⟩,
    ⟨some 18, .new [.nil], none⟩,
    ⟨some 19, .new [.int .i64 0, .int .i64 0, .int .i64 0, .bool false], none⟩,
    ⟨none, .st 1 (.t 18) (.t 107), none⟩,
    ⟨none, .st 4 (.t 19) (.t 108), none⟩,
    ⟨some 20, .mv (.t 109), none⟩] [0, 1, 0, 7, 0, 31, 63, 127, 127, 127, 0, 0, 3327, 7679, 16383] [8, 9, 10, 12, 16, 18, 19, 20])
  (.seq (.seq (.reg false [⟨some 110, .ld (some 1) (.t 18), none⟩,
    ⟨some 111, .ld (some 1) (.t 8), none⟩,
    ⟨some 112, .call 21 [.t 110, .t 111], none⟩,
    ⟨some 113, .not (.t 112), none⟩,
    ⟨some 114, .mv (.t 113), none⟩,
    ⟨some 115, .ld (some 4) (.t 19), some (114, false)⟩,
    ⟨some 116, .ld (some 4) (.t 9), some (114, false)⟩,
    ⟨some 117, .call 20 [.t 115, .t 116], some (114, false)⟩,
    ⟨some 118, .not (.t 117), some (114, false)⟩,
    ⟨some 119, .pick (.t 114) (.c (.bool true)) (.t 118), none⟩,
    ⟨some 120, .mv (.t 119), none⟩,
    ⟨some 121, .mv (.t 20), some (120, false)⟩,
    ⟨some 122, .mv (.t 10), some (120, false)⟩,
    ⟨some 123, .bin .neq (.t 121) (.t 122), some (120, false)⟩,
    ⟨some 124, .pick (.t 120) (.c (.bool true)) (.t 123), none⟩] [] [12, 16, 124])
  (.cond (.t 124)
  (.seq (.reg false [⟨some 6, .mv (.c (.bool false)), none⟩] [] [6])
  .ret)
  .skip))
  (.seq (.reg false [⟨some 17, .mv (.c (.int .i64 1)), none⟩] [] [12, 16, 17])
  (.seq (.reg false [⟨some 125, .ld (some 1) (.t 12), none⟩,
    ⟨some 126, .mv (.t 17), none⟩,
    ⟨some 127, .call 30 [.t 125, .t 126], none⟩,
    ⟨some 17, .mv (.t 127), none⟩] [] [16, 17])
  (.seq (.seq (.reg false [⟨some 128, .mv (.t 17), none⟩,
    ⟨some 129, .bin .lss (.t 128) (.c (.int .i64 0)), none⟩] [] [16, 17, 129])
  (.cond (.t 129)
  (.seq (.reg false [⟨some 6, .mv (.c (.bool false)), none⟩] [] [6])
  .ret)
  .skip))
  (.seq (.seq (.reg false [⟨some 130, .mv (.t 17), none⟩,
    ⟨some 131, .mv (.t 16), none⟩,
    ⟨some 132, .bin .neq (.t 130) (.t 131), none⟩] [] [132])
  (.cond (.t 132)
  (.seq (.reg false [⟨some 6, .mv (.c (.bool false)), none⟩] [] [6])
  .ret)
  .skip))
  (.seq (.reg false [⟨some 6, .mv (.c (.bool true)), none⟩] [] [6])
  .ret))))))))))))))))))))))))), [(6, none)]⟩
theorem laws_FnExactLinkSend_ok : okFn Try.prog 6 laws_FnExactLinkSend = true := by kernel_rfl
def laws_FnLink : IFn := ⟨114, (.seq (.reg false [⟨some 2, .mv (.c (.bool false)), none⟩] [] [0])
  (.seq (.seq (.reg false [⟨some 18, .mv (.t 0), none⟩,
    ⟨some 19, .call 33 [.t 18], none⟩] [] [0, 19])
  (.cond (.t 19)
  (.seq (.reg false [⟨some 2, .mv (.c (.bool true)), none⟩] [] [2])
  .ret)
  .skip))
  (.seq (.reg false [⟨some 21, .mv (.t 0), none⟩,
    ⟨some 22, .call 34 [.t 21], none⟩,
    ⟨some 20, .mv (.t 22), none⟩,
    ⟨some 23, .ext (.t 20) 0, none⟩,
    ⟨some 24, .ext (.t 20) 1, none⟩,
    ⟨some 25, .ext (.t 20) 2, none⟩,
    ⟨some 3, .new [.nil], none⟩,
    ⟨some 4, .new [.int .i64 0, .int .i64 0, .int .i64 0, .bool false], none⟩,
    ⟨none, .st 1 (.t 3) (.t 23), none⟩,
    ⟨none, .st 4 (.t 4) (.t 24), none⟩,
    ⟨some 5, .mv (.t 25), none⟩] [] [3, 4, 5])
  (.seq (.reg false [⟨some 27, .ld (some 1) (.t 3), none⟩,
    ⟨some 28, .ld (some 4) (.t 4), none⟩,
    ⟨some 29, .mv (.t 5), none⟩,
    ⟨some 30, .call 32 [.t 27, .t 28, .t 29], none⟩,
    ⟨some 26, .mv (.t 30), none⟩,
    ⟨some 31, .ext (.t 26) 0, none⟩,
    ⟨some 32, .ext (.t 26) 1, none⟩,
    ⟨some 33, .ext (.t 26) 2, none⟩,
    ⟨some 6, .new [.nil], none⟩,
    ⟨some 7, .new [.int .i64 0, .int .i64 0, .int .i64 0, .bool false], none⟩,
    ⟨none, .st 1 (.t 6) (.t 31), none⟩,
    ⟨none, .st 4 (.t 7) (.t 32), none⟩,
    ⟨some 8, .mv (.t 33), none⟩] [] [3, 4, 5, 6, 7, 8])
  (.seq (.reg false [⟨some 35, .ld (some 1) (.t 3), none⟩,
    ⟨some 36, .ld (some 4) (.t 4), none⟩,
    ⟨some 37, .mv (.t 5), none⟩,
    ⟨some 38, .call 31 [.t 35, .t 36, .t 37], none⟩,
    ⟨some 34, .mv (.t 38), none⟩,
    ⟨some 39, .ext (.t 34) 0, none⟩,
    ⟨some 40, .ext (.t 34) 1, none⟩,
    ⟨some 41, .ext (.t 34) 2, none⟩,
    ⟨some 9, .new [.nil], none⟩,
    ⟨some 10, .new [.int .i64 0, .int .i64 0, .int .i64 0, .bool false], none⟩,
    ⟨none, .st 1 (.t 9) (.t 39), none⟩,
    ⟨none, .st 4 (.t 10) (.t 40), none⟩,
    ⟨some 11, .mv (.t 41), none⟩] [] [3, 4, 5, 6, 7, 8, 11])
  (.seq (.seq (.reg false [⟨some 42, .mv (.t 8), none⟩,
    ⟨some 43, .mv (.t 11), none⟩,
    ⟨some 44, .bin .neq (.t 42) (.t 43), none⟩] [] [3, 4, 5, 6, 7, 8, 44])
  (.cond (.t 44)
  (.seq (.reg false [⟨some 2, .mv (.c (.bool false)), none⟩] [] [2])
  .ret)
  .skip))
  (.seq (.seq (.reg false [⟨some 45, .mv (.t 8), none⟩,
    ⟨some 46, .bin .lss (.t 45) (.c (.int .i64 0)), none⟩] [] [3, 4, 5, 6, 7, 8, 46])
  (.cond (.t 46)
  (.seq (.reg false [⟨some 47, .ld (some 4) (.t 7), none⟩,
    ⟨some 48, .ld (some 4) (.t 4), none⟩,
    ⟨some 49, .eqs false [1, 1, 1, 0] (.t 47) (.t 48), none⟩,
    ⟨some 50, .mv (.t 49), none⟩,
    ⟨some 51, .fad 0 (.t 6), some (50, true)⟩,
    ⟨some 52, .ld none (.t 51), some (50, true)⟩,
    ⟨some 53, .len false (.t 52), some (50, true)⟩,
    ⟨some 54, .fad 0 (.t 3), some (50, true)⟩,
    ⟨some 55, .ld none (.t 54), some (50, true)⟩,
    ⟨some 56, .len false (.t 55), some (50, true)⟩,
    ⟨some 57, .bin .eql (.t 53) (.t 56), some (50, true)⟩,
    ⟨some 58, .mv (.t 57), some (50, true)⟩,
    ⟨some 59, .fad 0 (.t 6), some (58, false)⟩,
    ⟨some 60, .ld none (.t 59), some (58, false)⟩,
    ⟨some 61, .len false (.t 60), some (58, false)⟩,
    ⟨some 62, .bin .eql (.t 61) (.c (.int .i64 0)), some (58, false)⟩,
    ⟨some 63, .pick (.t 58) (.c (.bool true)) (.t 62), some (50, true)⟩,
    ⟨some 64, .pick (.t 50) (.t 63) (.c (.bool false)), none⟩,
    ⟨some 2, .mv (.t 64), none⟩] [] [2])
  .ret)
  .skip))
  (.seq (.reg false [⟨some 66, .ld (some 1) (.t 6), none⟩,
    ⟨some 67, .ld (some 4) (.t 4), none⟩,
    ⟨some 68, .mv (.t 8), none⟩,
    ⟨some 69, .call 19 [.t 66, .t 67, .t 68], none⟩,
    ⟨some 65, .mv (.t 69), none⟩,
    ⟨some 70, .ext (.t 65) 0, none⟩,
    ⟨some 71, .ext (.t 65) 1, none⟩,
    ⟨some 72, .ext (.t 65) 2, none⟩,
    ⟨some 12, .new [.int .i64 0, .int .i64 0, .int .i64 0, .bool false], none⟩,
    ⟨none, .st 4 (.t 12) (.t 70), none⟩,
    ⟨some 13, .mv (.t 71), none⟩,
    ⟨some 14, .mv (.t 72), none⟩] [] [4, 5, 6, 7, 8, 12, 13, 14])
  (.seq (.reg false [⟨some 74, .ld (some 1) (.t 6), none⟩,
    ⟨some 75, .ld (some 4) (.t 12), none⟩,
    ⟨some 76, .mv (.t 8), none⟩,
    ⟨some 77, .call 19 [.t 74, .t 75, .t 76], none⟩,
    ⟨some 73, .mv (.t 77), none⟩,
    ⟨some 78, .ext (.t 73) 0, none⟩,
    ⟨some 79, .ext (.t 73) 1, none⟩,
    ⟨some 80, .ext (.t 73) 2, none⟩,
    ⟨some 15, .new [.int .i64 0, .int .i64 0, .int .i64 0, .bool false], none⟩,
    ⟨none, .st 4 (.t 15) (.t 78), none⟩,
    ⟨some 16, .mv (.t 79), none⟩,
    ⟨some 17, .mv (.t 80), none⟩] [] [4, 5, 6, 7, 12, 13, 14, 16, 17])
  (.seq (.reg false [⟨some 81, .mv (.t 14), none⟩,
    ⟨some 82, .bin .eql (.t 81) (.c (.int .i64 0)), none⟩,
    ⟨some 83, .mv (.t 82), none⟩,
    ⟨some 84, .mv (.t 13), some (83, true)⟩,
    ⟨some 85, .mv (.t 5), some (83, true)⟩,
    ⟨some 86, .bin .eql (.t 84) (.t 85), some (83, true)⟩,
    ⟨some 87, .pick (.t 83) (.t 86) (.c (.bool false)), none⟩,
    ⟨some 88, .mv (.t 87), none⟩,
    ⟨some 89, .ld (some 4) (.t 12), some (88, true)⟩,
    ⟨some 90, .ld (some 4) (.t 7), some (88, true)⟩,
    ⟨some 91, .eqs false [1, 1, 1, 0] (.t 89) (.t 90), some (88, true)⟩,
    ⟨some 92, .pick (.t 88) (.t 91) (.c (.bool false)), none⟩,
    ⟨some 93, .mv (.t 92), none⟩,
    ⟨some 94, .mv (.t 16), some (93, true)⟩,
    ⟨some 95, .bin .eql (.t 94) (.c (.int .i64 (-1))), some (93, true)⟩,
    ⟨some 96, .pick (.t 93) (.t 95) (.c (.bool false)), none⟩,
    ⟨some 97, .mv (.t 96), none⟩,
    ⟨some 98, .mv (.t 17), some (97, true)⟩,
    ⟨some 99, .bin .eql (.t 98) (.c (.int .i64 2)), some (97, true)⟩,
    ⟨some 100, .pick (.t 97) (.t 99) (.c (.bool false)), none⟩,
    ⟨some 101, .mv (.t 100), none⟩,
    ⟨some 102, .ld (some 1) (.t 6), some (101, true)⟩,
    ⟨some 103, .ld (some 4) (.t 7), some (101, true)⟩,
    ⟨some 104, .call 35 [.t 102, .t 103], some (101, true)⟩,
    ⟨some 105, .pick (.t 101) (.t 104) (.c (.bool false)), none⟩,
    ⟨some 106, .mv (.t 105), none⟩,
    ⟨some 107, .fad 2 (.t 7), some (106, true)⟩,
    ⟨some 108, .ld none (.t 107), some (106, true)⟩,
    ⟨some 109, .fad 2 (.t 4), some (106, true)⟩,
    ⟨some 110, .ld none (.t 109), some (106, true)⟩,
    ⟨some 111, .bin .add (.t 110) (.c (.int .i64 1)), some (106, true)⟩,
    ⟨some 112, .bin .eql (.t 108) (.t 111), some (106, true)⟩,
    ⟨some 113, .pick (.t 106) (.t 112) (.c (.bool false)), none⟩,
    ⟨some 2, .mv (.t 113), none⟩] [] [2])
  .ret)))))))))), [(2, none)]⟩
theorem laws_FnLink_ok : okFn Try.prog 7 laws_FnLink = true := by kernel_rfl
def laws_FnExactLinkEnd : IFn := ⟨128, (.seq (.reg false [⟨some 2, .box (.t 0), none⟩,
    ⟨some 3, .box (.t 1), none⟩,
    ⟨some 4, .mv (.c (.bool false)), none⟩] [] [2, 3])
  (.seq (.reg false [⟨some 5, .mv (.c (.int .i64 1048576)), none⟩] [] [2, 3, 5])
  (.seq (.reg false [⟨some 19, .ld (some 1) (.t 2), none⟩,
    ⟨some 20, .mv (.t 5), none⟩,
    ⟨some 21, .call 15 [.t 19, .t 20], none⟩,
    ⟨some 5, .mv (.t 21), none⟩] [] [2, 3, 5])
  (.seq (.seq (.reg false [⟨some 22, .mv (.t 5), none⟩,
    ⟨some 23, .bin .lss (.t 22) (.c (.int .i64 0)), none⟩] [] [2, 3, 23])
  (.cond (.t 23)
  (.seq (.reg false [⟨some 4, .mv (.c (.bool true)), none⟩] [] [4])
  .ret)
  .skip))
  (.seq (.reg true [⟨some 25, .ld (some 1) (.t 2), none⟩,
    ⟨some 26, .call 17 [.t 25], none⟩,
    ⟨some 27, .ld (some 4) (.t 3), none⟩,
    ⟨some 28, .call 18 [.t 27], none⟩,
    ⟨some 29, .call 36 [.t 26, .t 28], none⟩,
    ⟨some 24, .mv (.t 29), none⟩,
    ⟨some 30, .ext (.t 24) 0, none⟩,
    ⟨some 31, .ext (.t 24) 1, none⟩,
    ⟨some 32, .ext (.t 24) 2, none⟩,
    ⟨some 6, .new [.nil], none⟩,
    ⟨some 7, .new [.int .i64 0, .int .i64 0, .int .i64 0, .bool false], none⟩,
    ⟨none, .st 1 (.t 6) (.t 30), none⟩,
    ⟨none, .st 4 (.t 7) (.t 31), none⟩,
    ⟨some 8, .mv (.t 32), none⟩] [0, 1, 0, 7, 15, 31, 63, 63, 63, 0, 0, 1663, 3839, 8191] [2, 3, 6, 7, 8])
  (.seq (.reg false [⟨some 33, .ld (some 1) (.t 2), none⟩,
    ⟨some 34, .call 17 [.t 33], none⟩,
    ⟨some 9, .new [.nil], none⟩,
    ⟨none, .st 1 (.t 9) (.t 34), none⟩] [] [2, 3, 6, 7, 8, 9])
  (.seq (.reg true [⟨some 36, .ld (some 1) (.t 9), none⟩,
    ⟨some 37, .ld (some 4) (.t 3), none⟩,
    ⟨some 38, .call 18 [.t 37], none⟩,
    ⟨some 39, .call 37 [.t 36, .t 38], none⟩,
    ⟨some 35, .mv (.t 39), none⟩,
    ⟨some 40, .ext (.t 35) 0, none⟩,
    ⟨some 41, .ext (.t 35) 1, none⟩,
    ⟨some 42, .ext (.t 35) 2, none⟩,
    ⟨some 10, .new [.nil], none⟩,
    ⟨some 11, .new [.int .i64 0, .int .i64 0, .int .i64 0, .bool false], none⟩,
    ⟨none, .st 1 (.t 10) (.t 40), none⟩,
    ⟨none, .st 4 (.t 11) (.t 41), none⟩,
    ⟨some 12, .mv (.t 42), none⟩] [0, 0, 2, 7, 15, 31, 31, 31, 0, 0, 831, 1919, 4095] [2, 3, 6, 7, 8, 9, 10, 11, 12])
  (.seq (.seq (.reg false [⟨some 43, .ld (some 1) (.t 10), none⟩,
    ⟨some 44, .ld (some 1) (.t 6), none⟩,
    ⟨some 45, .call 21 [.t 43, .t 44], none⟩,
    ⟨some 46, .not (.t 45), none⟩,
    ⟨some 47, .mv (.t 46), none⟩,
    ⟨some 48, .ld (some 4) (.t 11), some (47, false)⟩,
    ⟨some 49, .ld (some 4) (.t 7), some (47, false)⟩,
    ⟨some 50, .call 20 [.t 48, .t 49], some (47, false)⟩,
    ⟨some 51, .not (.t 50), some (47, false)⟩,
    ⟨some 52, .pick (.t 47) (.c (.bool true)) (.t 51), none⟩,
    ⟨some 53, .mv (.t 52), none⟩,
    ⟨some 54, .mv (.t 12), some (53, false)⟩,
    ⟨some 55, .mv (.t 8), some (53, false)⟩,
    ⟨some 56, .bin .neq (.t 54) (.t 55), some (53, false)⟩,
    ⟨some 57, .pick (.t 53) (.c (.bool true)) (.t 56), none⟩] [] [2, 3, 6, 7, 8, 9, 10, 11, 12, 57])
  (.cond (.t 57)
  (.seq (.reg false [⟨some 4, .mv (.c (.bool false)), none⟩] [] [4])
  .ret)
  .skip))
  (.seq (.seq (.reg true [⟨some 58, .ld (some 1) (.t 9), none⟩,
    ⟨some 59, .ld (some 1) (.t 2), none⟩,
    ⟨some 60, .call 17 [.t 59], none⟩,
    ⟨some 61, .call 21 [.t 58, .t 60], none⟩,
    ⟨some 62, .not (.t 61), none⟩] [0, 0, 2, 7, 15] [2, 3, 6, 7, 8, 9, 10, 11, 12, 62])
  (.cond (.t 62)
  (.seq (.reg false [⟨some 4, .mv (.c (.bool false)), none⟩] [] [4])
  .ret)
  .skip))
  (.seq (.reg false [⟨some 13, .mv (.c (.int .i64 1)), none⟩] [] [2, 3, 6, 7, 8, 9, 10, 11, 12, 13])
  (.seq (.reg false [⟨some 63, .ld (some 1) (.t 9), none⟩,
    ⟨some 64, .mv (.t 13), none⟩,
    ⟨some 65, .call 29 [.t 63, .t 64], none⟩,
    ⟨some 13, .mv (.t 65), none⟩] [] [2, 3, 6, 7, 8, 10, 11, 12, 13])
  (.seq (.seq (.reg false [⟨some 66, .mv (.t 13), none⟩,
    ⟨some 67, .bin .lss (.t 66) (.c (.int .i64 0)), none⟩,
    ⟨some 68, .mv (.t 67), none⟩,
    ⟨some 69, .ld (some 1) (.t 10), some (68, false)⟩,
    ⟨some 70, .ld (some 1) (.t 6), some (68, false)⟩,
    ⟨some 71, .call 21 [.t 69, .t 70], some (68, false)⟩,
    ⟨some 72, .not (.t 71), some (68, false)⟩,
    ⟨some 73, .pick (.t 68) (.c (.bool true)) (.t 72), none⟩,
    ⟨some 74, .mv (.t 73), none⟩,
    ⟨some 75, .ld (some 4) (.t 11), some (74, false)⟩,
    ⟨some 76, .ld (some 4) (.t 7), some (74, false)⟩,
    ⟨some 77, .call 20 [.t 75, .t 76], some (74, false)⟩,
    ⟨some 78, .not (.t 77), some (74, false)⟩,
    ⟨some 79, .pick (.t 74) (.c (.bool true)) (.t 78), none⟩,
    ⟨some 80, .mv (.t 79), none⟩,
    ⟨some 81, .mv (.t 12), some (80, false)⟩,
    ⟨some 82, .mv (.t 8), some (80, false)⟩,
    ⟨some 83, .bin .neq (.t 81) (.t 82), some (80, false)⟩,
    ⟨some 84, .pick (.t 80) (.c (.bool true)) (.t 83), none⟩] [] [2, 3, 6, 7, 8, 10, 84])
  (.cond (.t 84)
  (.seq (.reg false [⟨some 4, .mv (.c (.bool false)), none⟩] [] [4])
  .ret)
  .skip))
  (.seq (.reg false [⟨some 14, .mv (.c (.int .i64 1)), none⟩] [] [2, 3, 6, 7, 8, 10, 14])
  (.seq (.reg false [⟨some 85, .ld (some 1) (.t 10), none⟩,
    ⟨some 86, .mv (.t 14), none⟩,
    ⟨some 87, .call 29 [.t 85, .t 86], none⟩,
    ⟨some 14, .mv (.t 87), none⟩] [] [2, 3, 6, 7, 8, 10, 14])
  (.seq (.reg false [⟨some 15, .mv (.c (.int .i64 1)), none⟩] [] [2, 3, 6, 7, 8, 10, 14, 15])
  (.seq (.reg false [⟨some 88, .ld (some 1) (.t 10), none⟩,
    ⟨some 89, .mv (.t 15), none⟩,
    ⟨some 90, .call 30 [.t 88, .t 89], none⟩,
    ⟨some 15, .mv (.t 90), none⟩] [] [2, 3, 6, 7, 8, 10, 14, 15])
  (.seq (.seq (.reg false [⟨some 91, .mv (.t 15), none⟩,
    ⟨some 92, .bin .lss (.t 91) (.c (.int .i64 0)), none⟩] [] [2, 3, 6, 7, 8, 10, 14, 15, 92])
  (.cond (.t 92)
  (.seq (.reg false [⟨some 4, .mv (.c (.bool false)), none⟩] [] [4])
  .ret)
  .skip))
  (.seq (.seq (.reg false [⟨some 93, .mv (.t 15), none⟩,
    ⟨some 94, .mv (.t 14), none⟩,
    ⟨some 95, .bin .neq (.t 93) (.t 94), none⟩] [] [2, 3, 6, 7, 8, 10, 14, 95])
  (.cond (.t 95)
  (.seq (.reg false [⟨some 4, .mv (.c (.bool false)), none⟩] [] [4])
  .ret)
  .skip))
  (.seq (.reg true [⟨some 97, .ld (some 1) (.t 2), none⟩,
    ⟨some 98, .call 17 [.t 97], none⟩,
    ⟨some 99, .ld (some 4) (.t 3), none⟩,
    ⟨some 100, .call 18 [.t 99], none⟩,
    ⟨some 101, .call 37 [.t 98, .t 100], none⟩,
    ⟨some 96, .mv (.t 101), none⟩,
    ⟨some 102, .ext (.t 96) 0, none⟩,
    ⟨some 103, .ext (.t 96) 1, none⟩,
    ⟨some 104, .ext (.t 96) 2, none⟩,
    ⟨some 16, .new [.nil], none⟩,
    ⟨some 17, .new [.int .i64 0, .int .i64 0, .int .i64 0, .bool false], none⟩,
    ⟨none, .st 1 (.t 16) (.t 102), none⟩,
    ⟨none, .st 4 (.t 17) (.t 103), none⟩,
    ⟨some 18, .mv (.t 104), none⟩] [0, 1, 0, 7, 15, 31, 63, 63, 63, 0, 0, 1663, 3839, 8191] [6, 7, 8, 10, 14, 16, 17, 18])
  (.seq (.seq (.reg false [⟨some 105, .ld (some 1) (.t 16), none⟩,
    ⟨some 106, .ld (some 1) (.t 6), none⟩,
    ⟨some 107, .call 21 [.t 105, .t 106], none⟩,
    ⟨some 108, .not (.t 107), none⟩,
    ⟨some 109, .mv (.t 108), none⟩,
    ⟨some 110, .ld (some 4) (.t 17), some (109, false)⟩,
    ⟨some 111, .ld (some 4) (.t 7), some (109, false)⟩,
    ⟨some 112, .call 20 [.t 110, .t 111], some (109, false)⟩,
    ⟨some 113, .not (.t 112), some (109, false)⟩,
    ⟨some 114, .pick (.t 109) (.c (.bool true)) (.t 113), none⟩,
    ⟨some 115, .mv (.t 114), none⟩,
    ⟨some 116, .mv (.t 18), some (115, false)⟩,
    ⟨some 117, .mv (.t 8), some (115, false)⟩,
    ⟨some 118, .bin .neq (.t 116) (.t 117), some (115, false)⟩,
    ⟨some 119, .pick (.t 115) (.c (.bool true)) (.t 118), none⟩] [] [10, 14, 119])
  (.cond (.t 119)
  (.seq (.reg false [⟨some 4, .mv (.c (.bool false)), none⟩] [] [4])
  .ret)
  .skip))
  (.seq (.reg false [⟨some 15, .mv (.c (.int .i64 1)), none⟩] [] [10, 14, 15])
  (.seq (.reg false [⟨some 120, .ld (some 1) (.t 10), none⟩,
    ⟨some 121, .mv (.t 15), none⟩,
    ⟨some 122, .call 30 [.t 120, .t 121], none⟩,
    ⟨some 15, .mv (.t 122), none⟩] [] [14, 15])
  (.seq (.seq (.reg false [⟨some 123, .mv (.t 15), none⟩,
    ⟨some 124, .bin .lss (.t 123) (.c (.int .i64 0)), none⟩] [] [14, 15, 124])
  (.cond (.t 124)
  (.seq (.reg false [⟨some 4, .mv (.c (.bool false)), none⟩] [] [4])
  .ret)
  .skip))
  (.seq (.seq (.reg false [⟨some 125, .mv (.t 15), none⟩,
    ⟨some 126, .mv (.t 14), none⟩,
    ⟨some 127, .bin .neq (.t 125) (.t 126), none⟩] [] [127])
  (.cond (.t 127)
  (.seq (.reg false [⟨some 4, .mv (.c (.bool false)), none⟩] [] [4])
  .ret)
  .skip))
  (.seq (.reg false [⟨some 4, .mv (.c (.bool true)), none⟩] [] [4])
  .ret))))))))))))))))))))))))), [(4, none)]⟩
theorem laws_FnExactLinkEnd_ok : okFn Try.prog 8 laws_FnExactLinkEnd = true := by kernel_rfl
def laws_FnNewStream : IFn := ⟨83, (.seq (.reg false [⟨some 2, .mv (.c (.bool false)), none⟩] [] [0])
  (.seq (.seq (.reg false [⟨some 12, .mv (.t 0), none⟩,
    ⟨some 13, .call 33 [.t 12], none⟩] [] [0, 13])
  (.cond (.t 13)
  (.seq (.reg false [⟨some 2, .mv (.c (.bool true)), none⟩] [] [2])
  .ret)
  .skip))
  (.seq (.reg false [⟨some 15, .mv (.t 0), none⟩,
    ⟨some 16, .call 38 [.t 15], none⟩,
    ⟨some 14, .mv (.t 16), none⟩,
    ⟨some 17, .ext (.t 14) 0, none⟩,
    ⟨some 18, .ext (.t 14) 1, none⟩,
    ⟨some 19, .ext (.t 14) 2, none⟩,
    ⟨some 3, .new [.nil], none⟩,
    ⟨none, .st 1 (.t 3) (.t 17), none⟩,
    ⟨some 4, .mv (.t 18), none⟩,
    ⟨some 5, .mv (.t 19), none⟩] [] [3, 4, 5])
  (.seq (.reg false [⟨some 21, .ld (some 1) (.t 3), none⟩,
    ⟨some 22, .mv (.t 4), none⟩,
    ⟨some 23, .mv (.t 5), none⟩,
    ⟨some 24, .call 39 [.t 21, .t 22, .t 23], none⟩,
    ⟨some 20, .mv (.t 24), none⟩,
    ⟨some 25, .ext (.t 20) 0, none⟩,
    ⟨some 26, .ext (.t 20) 1, none⟩,
    ⟨some 6, .new [.nil, .nil, .int .i64 0, .int .i64 0, .int .i64 0, .bool false, .int .i64 0, .int .i64 0, .int .i64 0, .bool false, .nil, .nil], none⟩,
    ⟨none, .st 12 (.t 6) (.t 25), none⟩,
    ⟨some 7, .mv (.t 26), none⟩] [] [3, 4, 5, 6, 7])
  (.seq (.reg false [⟨some 28, .ld (some 1) (.t 3), none⟩,
    ⟨some 29, .mv (.t 4), none⟩,
    ⟨some 30, .mv (.t 5), none⟩,
    ⟨some 31, .call 40 [.t 28, .t 29, .t 30], none⟩,
    ⟨some 27, .mv (.t 31), none⟩,
    ⟨some 32, .ext (.t 27) 0, none⟩,
    ⟨some 33, .ext (.t 27) 1, none⟩,
    ⟨some 8, .new [.nil, .nil, .int .i64 0, .int .i64 0, .int .i64 0, .bool false, .int .i64 0, .int .i64 0, .int .i64 0, .bool false, .nil, .nil], none⟩,
    ⟨none, .st 12 (.t 8) (.t 32), none⟩,
    ⟨some 9, .mv (.t 33), none⟩] [] [3, 4, 5, 6, 7, 9])
  (.seq (.seq (.reg false [⟨some 34, .mv (.t 7), none⟩,
    ⟨some 35, .mv (.t 9), none⟩,
    ⟨some 36, .eqb true (.t 34) (.t 35), none⟩] [] [3, 4, 5, 6, 7, 36])
  (.cond (.t 36)
  (.seq (.reg false [⟨some 2, .mv (.c (.bool false)), none⟩] [] [2])
  .ret)
  .skip))
  (.seq (.seq (.reg false [⟨some 37, .mv (.t 7), none⟩,
    ⟨some 38, .not (.t 37), none⟩] [] [3, 4, 5, 6, 38])
  (.cond (.t 38)
  (.seq (.reg false [⟨some 39, .fad 0 (.t 6), none⟩,
    ⟨some 40, .fad 0 (.t 39), none⟩,
    ⟨some 41, .ld none (.t 40), none⟩,
    ⟨some 42, .len false (.t 41), none⟩,
    ⟨some 43, .bin .eql (.t 42) (.c (.int .i64 0)), none⟩,
    ⟨some 2, .mv (.t 43), none⟩] [] [2])
  .ret)
  .skip))
  (.seq (.reg false [⟨some 45, .ld (some 1) (.t 3), none⟩,
    ⟨some 46, .mv (.t 5), none⟩,
    ⟨some 47, .call 41 [.t 45, .t 46], none⟩,
    ⟨some 44, .mv (.t 47), none⟩,
    ⟨some 48, .ext (.t 44) 0, none⟩,
    ⟨some 49, .ext (.t 44) 1, none⟩,
    ⟨some 10, .new [.int .i64 0, .int .i64 0, .int .i64 0, .bool false], none⟩,
    ⟨none, .st 4 (.t 10) (.t 48), none⟩,
    ⟨some 11, .mv (.t 49), none⟩] [] [4, 6, 10, 11])
  (.seq (.reg false [⟨some 50, .mv (.t 11), none⟩,
    ⟨some 51, .mv (.t 50), none⟩,
    ⟨some 52, .fad 6 (.t 6), some (51, true)⟩,
    ⟨some 53, .ld (some 4) (.t 52), some (51, true)⟩,
    ⟨some 54, .ld (some 4) (.t 10), some (51, true)⟩,
    ⟨some 55, .eqs false [1, 1, 1, 0] (.t 53) (.t 54), some (51, true)⟩,
    ⟨some 56, .pick (.t 51) (.t 55) (.c (.bool false)), none⟩,
    ⟨some 57, .mv (.t 56), none⟩,
    ⟨some 58, .fad 2 (.t 6), some (57, true)⟩,
    ⟨some 59, .ld (some 4) (.t 58), some (57, true)⟩,
    ⟨some 60, .ld (some 4) (.t 10), some (57, true)⟩,
    ⟨some 61, .eqs false [1, 1, 1, 0] (.t 59) (.t 60), some (57, true)⟩,
    ⟨some 62, .pick (.t 57) (.t 61) (.c (.bool false)), none⟩,
    ⟨some 63, .mv (.t 62), none⟩,
    ⟨some 64, .fad 10 (.t 6), some (63, true)⟩,
    ⟨some 65, .ld none (.t 64), some (63, true)⟩,
    ⟨some 66, .len false (.t 65), some (63, true)⟩,
    ⟨some 67, .fad 11 (.t 6), some (63, true)⟩,
    ⟨some 68, .ld none (.t 67), some (63, true)⟩,
    ⟨some 69, .len false (.t 68), some (63, true)⟩,
    ⟨some 70, .bin .add (.t 66) (.t 69), some (63, true)⟩,
    ⟨some 71, .bin .eql (.t 70) (.c (.int .i64 0)), some (63, true)⟩,
    ⟨some 72, .pick (.t 63) (.t 71) (.c (.bool false)), none⟩,
    ⟨some 73, .mv (.t 72), none⟩,
    ⟨some 74, .fad 1 (.t 6), some (73, true)⟩,
    ⟨some 75, .ld none (.t 74), some (73, true)⟩,
    ⟨some 76, .mv (.t 4), some (73, true)⟩,
    ⟨some 77, .call 42 [.t 75, .t 76], some (73, true)⟩,
    ⟨some 78, .pick (.t 73) (.t 77) (.c (.bool false)), none⟩,
    ⟨some 79, .mv (.t 78), none⟩,
    ⟨some 80, .ld (some 12) (.t 6), some (79, true)⟩,
    ⟨some 81, .call 25 [.t 80], some (79, true)⟩,
    ⟨some 82, .pick (.t 79) (.t 81) (.c (.bool false)), none⟩,
    ⟨some 2, .mv (.t 82), none⟩] [] [2])
  .ret))))))))), [(2, none)]⟩
theorem laws_FnNewStream_ok : okFn Try.prog 9 laws_FnNewStream = true := by kernel_rfl
def laws_FnTakes : IFn := ⟨133, (.seq (.reg false [⟨some 2, .mv (.c (.bool false)), none⟩] [] [0])
  (.seq (.seq (.reg false [⟨some 14, .mv (.t 0), none⟩,
    ⟨some 15, .call 33 [.t 14], none⟩] [] [0, 15])
  (.cond (.t 15)
  (.seq (.reg false [⟨some 2, .mv (.c (.bool true)), none⟩] [] [2])
  .ret)
  .skip))
  (.seq (.reg false [⟨some 17, .mv (.t 0), none⟩,
    ⟨some 18, .call 43 [.t 17], none⟩,
    ⟨some 16, .mv (.t 18), none⟩,
    ⟨some 19, .ext (.t 16) 0, none⟩,
    ⟨some 20, .ext (.t 16) 1, none⟩,
    ⟨some 21, .ext (.t 16) 2, none⟩,
    ⟨some 3, .new [.nil], none⟩,
    ⟨some 4, .new [.int .i64 0, .int .i64 0, .int .i64 0, .bool false], none⟩,
    ⟨none, .st 1 (.t 3) (.t 19), none⟩,
    ⟨none, .st 4 (.t 4) (.t 20), none⟩,
    ⟨some 5, .mv (.t 21), none⟩] [] [3, 4, 5])
  (.seq (.reg false [⟨some 23, .ld (some 1) (.t 3), none⟩,
    ⟨some 24, .ld (some 4) (.t 4), none⟩,
    ⟨some 25, .mv (.t 5), none⟩,
    ⟨some 26, .call 19 [.t 23, .t 24, .t 25], none⟩,
    ⟨some 22, .mv (.t 26), none⟩,
    ⟨some 27, .ext (.t 22) 0, none⟩,
    ⟨some 28, .ext (.t 22) 1, none⟩,
    ⟨some 29, .ext (.t 22) 2, none⟩,
    ⟨some 6, .new [.int .i64 0, .int .i64 0, .int .i64 0, .bool false], none⟩,
    ⟨none, .st 4 (.t 6) (.t 27), none⟩,
    ⟨some 7, .mv (.t 28), none⟩,
    ⟨some 8, .mv (.t 29), none⟩] [] [3, 4, 5, 6, 7, 8])
  (.seq (.reg false [⟨some 31, .ld (some 1) (.t 3), none⟩,
    ⟨some 32, .ld (some 4) (.t 4), none⟩,
    ⟨some 33, .mv (.t 5), none⟩,
    ⟨some 34, .call 16 [.t 31, .t 32, .t 33], none⟩,
    ⟨some 30, .mv (.t 34), none⟩,
    ⟨some 35, .ext (.t 30) 0, none⟩,
    ⟨some 36, .ext (.t 30) 1, none⟩,
    ⟨some 37, .ext (.t 30) 2, none⟩,
    ⟨some 9, .new [.int .i64 0, .int .i64 0, .int .i64 0, .bool false], none⟩,
    ⟨none, .st 4 (.t 9) (.t 35), none⟩,
    ⟨some 10, .mv (.t 36), none⟩,
    ⟨some 11, .mv (.t 37), none⟩] [] [3, 4, 5, 6, 7, 8, 10, 11])
  (.seq (.seq (.reg false [⟨some 38, .mv (.t 8), none⟩,
    ⟨some 39, .mv (.t 11), none⟩,
    ⟨some 40, .bin .neq (.t 38) (.t 39), none⟩,
    ⟨some 41, .mv (.t 40), none⟩,
    ⟨some 42, .mv (.t 7), some (41, false)⟩,
    ⟨some 43, .mv (.t 10), some (41, false)⟩,
    ⟨some 44, .bin .neq (.t 42) (.t 43), some (41, false)⟩,
    ⟨some 45, .pick (.t 41) (.c (.bool true)) (.t 44), none⟩] [] [3, 4, 5, 6, 7, 8, 45])
  (.cond (.t 45)
  (.seq (.reg false [⟨some 2, .mv (.c (.bool false)), none⟩] [] [2])
  .ret)
  .skip))
  (.seq (.seq (.reg false [⟨some 46, .mv (.t 8), none⟩,
    ⟨some 47, .bin .neq (.t 46) (.c (.int .i64 0)), none⟩] [] [3, 4, 5, 6, 7, 47])
  (.cond (.t 47)
  (.seq (.reg false [⟨some 48, .ld (some 4) (.t 6), none⟩,
    ⟨some 49, .ld (some 4) (.t 4), none⟩,
    ⟨some 50, .eqs false [1, 1, 1, 0] (.t 48) (.t 49), none⟩,
    ⟨some 51, .mv (.t 50), none⟩,
    ⟨some 52, .mv (.t 7), some (51, true)⟩,
    ⟨some 53, .bin .eql (.t 52) (.c (.int .i64 (-1))), some (51, true)⟩,
    ⟨some 54, .pick (.t 51) (.t 53) (.c (.bool false)), none⟩,
    ⟨some 2, .mv (.t 54), none⟩] [] [2])
  .ret)
  .skip))
  (.seq (.reg false [⟨some 55, .ld (some 1) (.t 3), none⟩,
    ⟨some 56, .mv (.t 5), none⟩,
    ⟨some 57, .call 44 [.t 55, .t 56], none⟩,
    ⟨some 12, .mv (.t 57), none⟩] [] [3, 4, 5, 6, 7, 12])
  (.seq (.seq (.reg true [⟨some 58, .mv (.t 12), none⟩,
    ⟨some 59, .len false (.t 58), none⟩,
    ⟨some 60, .bin .neq (.t 59) (.c (.int .i64 2)), none⟩,
    ⟨some 61, .mv (.t 60), none⟩,
    ⟨some 62, .mv (.t 12), some (61, false)⟩,
    ⟨some 63, .iad 1 (.t 62) (.c (.int .i64 1)), some (61, false)⟩,
    ⟨some 64, .ld none (.t 63), some (61, false)⟩,
    ⟨some 65, .fad 0 (.t 4), some (61, false)⟩,
    ⟨some 66, .ld none (.t 65), some (61, false)⟩,
    ⟨some 67, .bin .neq (.t 64) (.t 66), some (61, false)⟩,
    ⟨some 68, .pick (.t 61) (.c (.bool true)) (.t 67), none⟩,
    ⟨some 69, .mv (.t 68), none⟩,
    ⟨some 70, .fad 0 (.t 3), some (69, false)⟩,
    ⟨some 71, .ld none (.t 70), some (69, false)⟩,
    ⟨some 72, .mv (.t 5), some (69, false)⟩,
    ⟨some 73, .iad 3 (.t 71) (.t 72), some (69, false)⟩,
    ⟨some 74, .fad 0 (.t 73), some (69, false)⟩,
    ⟨some 75, .ld none (.t 74), some (69, false)⟩,
    ⟨some 76, .bin .neq (.t 75) (.c (.int .i64 3)), some (69, false)⟩,
    ⟨some 77, .pick (.t 69) (.c (.bool true)) (.t 76), none⟩] [0, 1, 3, 7, 15, 31, 63, 15, 143, 511, 1023, 2047, 4095, 8191, 4095, 32767, 65535, 131071, 262143, 524287] [3, 4, 6, 7, 12, 77])
  (.cond (.t 77)
  (.seq (.reg false [⟨some 2, .mv (.c (.bool false)), none⟩] [] [2])
  .ret)
  .skip))
  (.seq (.reg true [⟨some 78, .ld (some 1) (.t 3), none⟩,
    ⟨some 79, .mv (.t 12), none⟩,
    ⟨some 80, .iad 1 (.t 79) (.c (.int .i64 0)), none⟩,
    ⟨some 81, .ld none (.t 80), none⟩,
    ⟨some 82, .call 44 [.t 78, .t 81], none⟩,
    ⟨some 13, .mv (.t 82), none⟩] [0, 0, 2, 6, 15, 31] [3, 4, 6, 7, 13])
  (.seq (.seq (.reg true [⟨some 83, .mv (.t 13), none⟩,
    ⟨some 84, .len false (.t 83), none⟩,
    ⟨some 85, .bin .neq (.t 84) (.c (.int .i64 2)), none⟩,
    ⟨some 86, .mv (.t 85), none⟩,
    ⟨some 87, .fad 0 (.t 3), some (86, false)⟩,
    ⟨some 88, .ld none (.t 87), some (86, false)⟩,
    ⟨some 89, .mv (.t 13), some (86, false)⟩,
    ⟨some 90, .iad 1 (.t 89) (.c (.int .i64 0)), some (86, false)⟩,
    ⟨some 91, .ld none (.t 90), some (86, false)⟩,
    ⟨some 92, .iad 3 (.t 88) (.t 91), some (86, false)⟩,
    ⟨some 93, .ld (some 3) (.t 92), some (86, false)⟩,
    ⟨some 94, .fad 2 (.t 4), some (86, false)⟩,
    ⟨some 95, .ld none (.t 94), some (86, false)⟩,
    ⟨some 96, .bin .add (.c (.int .i64 20)) (.t 95), some (86, false)⟩,
    ⟨some 97, .build [.int .i64 0, .int .i64 0, .int .i64 0] [(0, 1, .c (.int .i64 1)), (1, 1, .t 96)], some (86, false)⟩,
    ⟨some 98, .eqs true [1, 1, 1] (.t 93) (.t 97), some (86, false)⟩,
    ⟨some 99, .pick (.t 86) (.c (.bool true)) (.t 98), none⟩] [0, 1, 3, 7, 15, 31, 15, 79, 207, 511, 1023, 15, 2063, 6159, 14351, 32767, 65535] [4, 6, 7, 13, 99])
  (.cond (.t 99)
  (.seq (.reg false [⟨some 2, .mv (.c (.bool false)), none⟩] [] [2])
  .ret)
  .skip))
  (.seq (.reg false [⟨some 100, .mv (.t 7), none⟩,
    ⟨some 101, .mv (.t 13), none⟩,
    ⟨some 102, .iad 1 (.t 101) (.c (.int .i64 1)), none⟩,
    ⟨some 103, .ld none (.t 102), none⟩,
    ⟨some 104, .bin .eql (.t 100) (.t 103), none⟩,
    ⟨some 105, .mv (.t 104), none⟩,
    ⟨some 106, .fad 2 (.t 6), some (105, true)⟩,
    ⟨some 107, .ld none (.t 106), some (105, true)⟩,
    ⟨some 108, .fad 2 (.t 4), some (105, true)⟩,
    ⟨some 109, .ld none (.t 108), some (105, true)⟩,
    ⟨some 110, .bin .add (.t 109) (.c (.int .i64 1)), some (105, true)⟩,
    ⟨some 111, .bin .eql (.t 107) (.t 110), some (105, true)⟩,
    ⟨some 112, .pick (.t 105) (.t 111) (.c (.bool false)), none⟩,
    ⟨some 113, .mv (.t 112), none⟩,
    ⟨some 114, .fad 3 (.t 6), some (113, true)⟩,
    ⟨some 115, .ld none (.t 114), some (113, true)⟩,
    ⟨some 116, .not (.t 115), some (113, true)⟩,
    ⟨some 117, .pick (.t 113) (.t 116) (.c (.bool false)), none⟩,
    ⟨some 118, .mv (.t 117), none⟩,
    ⟨some 119, .mv (.t 7), some (118, false)⟩,
    ⟨some 120, .bin .eql (.t 119) (.c (.int .i64 (-1))), some (118, false)⟩,
    ⟨some 121, .mv (.t 120), some (118, false)⟩,
    ⟨some 122, .fad 3 (.t 6), some (121, true)⟩,
    ⟨some 123, .ld none (.t 122), some (121, true)⟩,
    ⟨some 124, .pick (.t 121) (.t 123) (.c (.bool false)), some (118, false)⟩,
    ⟨some 125, .mv (.t 124), some (118, false)⟩,
    ⟨some 126, .fad 2 (.t 6), some (125, true)⟩,
    ⟨some 127, .ld none (.t 126), some (125, true)⟩,
    ⟨some 128, .fad 2 (.t 4), some (125, true)⟩,
    ⟨some 129, .ld none (.t 128), some (125, true)⟩,
    ⟨some 130, .bin .eql (.t 127) (.t 129), some (125, true)⟩,
    ⟨some 131, .pick (.t 125) (.t 130) (.c (.bool false)), some (118, false)⟩,
    ⟨some 132, .pick (.t 118) (.c (.bool true)) (.t 131), none⟩,
    ⟨some 2, .mv (.t 132), none⟩] [] [2])
  .ret)))))))))))), [(2, none)]⟩
theorem laws_FnTakes_ok : okFn Try.prog 10 laws_FnTakes = true := by kernel_rfl
def laws_FnTurned : IFn := ⟨118, (.seq (.reg false [⟨some 2, .mv (.c (.bool false)), none⟩] [] [0])
  (.seq (.seq (.reg false [⟨some 20, .mv (.t 0), none⟩,
    ⟨some 21, .call 33 [.t 20], none⟩] [] [0, 21])
  (.cond (.t 21)
  (.seq (.reg false [⟨some 2, .mv (.c (.bool true)), none⟩] [] [2])
  .ret)
  .skip))
  (.seq (.reg false [⟨some 23, .mv (.t 0), none⟩,
    ⟨some 24, .call 45 [.t 23], none⟩,
    ⟨some 22, .mv (.t 24), none⟩,
    ⟨some 25, .ext (.t 22) 0, none⟩,
    ⟨some 26, .ext (.t 22) 1, none⟩,
    ⟨some 3, .new [.nil], none⟩,
    ⟨some 4, .new [.int .i64 0, .int .i64 0, .int .i64 0, .bool false], none⟩,
    ⟨none, .st 1 (.t 3) (.t 25), none⟩,
    ⟨none, .st 4 (.t 4) (.t 26), none⟩] [] [3, 4])
  (.seq (.reg false [⟨some 28, .ld (some 1) (.t 3), none⟩,
    ⟨some 29, .ld (some 4) (.t 4), none⟩,
    ⟨some 30, .call 28 [.t 28, .t 29], none⟩,
    ⟨some 27, .mv (.t 30), none⟩,
    ⟨some 31, .ext (.t 27) 0, none⟩,
    ⟨some 32, .ext (.t 27) 1, none⟩,
    ⟨some 33, .ext (.t 27) 2, none⟩,
    ⟨some 5, .new [.nil], none⟩,
    ⟨some 6, .new [.int .i64 0, .int .i64 0, .int .i64 0, .bool false], none⟩,
    ⟨none, .st 1 (.t 5) (.t 31), none⟩,
    ⟨none, .st 4 (.t 6) (.t 32), none⟩,
    ⟨some 7, .mv (.t 33), none⟩] [] [3, 4, 5, 6, 7])
  (.seq (.reg false [⟨some 35, .ld (some 1) (.t 3), none⟩,
    ⟨some 36, .ld (some 4) (.t 4), none⟩,
    ⟨some 37, .call 27 [.t 35, .t 36], none⟩,
    ⟨some 34, .mv (.t 37), none⟩,
    ⟨some 38, .ext (.t 34) 0, none⟩,
    ⟨some 39, .ext (.t 34) 1, none⟩,
    ⟨some 40, .ext (.t 34) 2, none⟩,
    ⟨some 8, .new [.nil], none⟩,
    ⟨some 9, .new [.int .i64 0, .int .i64 0, .int .i64 0, .bool false], none⟩,
    ⟨none, .st 1 (.t 8) (.t 38), none⟩,
    ⟨none, .st 4 (.t 9) (.t 39), none⟩,
    ⟨some 10, .mv (.t 40), none⟩] [] [4, 5, 6, 7, 10])
  (.seq (.seq (.reg false [⟨some 41, .mv (.t 7), none⟩,
    ⟨some 42, .mv (.t 10), none⟩,
    ⟨some 43, .eqb true (.t 41) (.t 42), none⟩] [] [4, 5, 6, 7, 43])
  (.cond (.t 43)
  (.seq (.reg false [⟨some 2, .mv (.c (.bool false)), none⟩] [] [2])
  .ret)
  .skip))
  (.seq (.seq (.reg false [⟨some 44, .mv (.t 7), none⟩,
    ⟨some 45, .not (.t 44), none⟩] [] [4, 5, 6, 45])
  (.cond (.t 45)
  (.seq (.reg false [⟨some 46, .ld (some 4) (.t 6), none⟩,
    ⟨some 47, .ld (some 4) (.t 4), none⟩,
    ⟨some 48, .eqs false [1, 1, 1, 0] (.t 46) (.t 47), none⟩,
    ⟨some 2, .mv (.t 48), none⟩] [] [2])
  .ret)
  .skip))
  (.seq (.reg false [⟨some 50, .ld (some 1) (.t 5), none⟩,
    ⟨some 51, .ld (some 4) (.t 4), none⟩,
    ⟨some 52, .call 28 [.t 50, .t 51], none⟩,
    ⟨some 49, .mv (.t 52), none⟩,
    ⟨some 53, .ext (.t 49) 0, none⟩,
    ⟨some 54, .ext (.t 49) 1, none⟩,
    ⟨some 55, .ext (.t 49) 2, none⟩,
    ⟨some 11, .new [.nil], none⟩,
    ⟨some 12, .new [.int .i64 0, .int .i64 0, .int .i64 0, .bool false], none⟩,
    ⟨none, .st 1 (.t 11) (.t 53), none⟩,
    ⟨none, .st 4 (.t 12) (.t 54), none⟩,
    ⟨some 13, .mv (.t 55), none⟩] [] [4, 5, 6, 11, 12, 13])
  (.seq (.reg false [⟨some 57, .ld (some 1) (.t 11), none⟩,
    ⟨some 58, .ld (some 4) (.t 4), none⟩,
    ⟨some 59, .fad 0 (.t 4), none⟩,
    ⟨some 60, .ld none (.t 59), none⟩,
    ⟨some 61, .call 32 [.t 57, .t 58, .t 60], none⟩,
    ⟨some 56, .mv (.t 61), none⟩,
    ⟨some 62, .ext (.t 56) 0, none⟩,
    ⟨some 63, .ext (.t 56) 1, none⟩,
    ⟨some 64, .ext (.t 56) 2, none⟩,
    ⟨some 14, .new [.nil], none⟩,
    ⟨some 15, .new [.int .i64 0, .int .i64 0, .int .i64 0, .bool false], none⟩,
    ⟨none, .st 1 (.t 14) (.t 62), none⟩,
    ⟨none, .st 4 (.t 15) (.t 63), none⟩,
    ⟨some 16, .mv (.t 64), none⟩] [] [4, 5, 6, 12, 13, 14, 16])
  (.seq (.seq (.reg false [⟨some 65, .mv (.t 16), none⟩,
    ⟨some 66, .bin .geq (.t 65) (.c (.int .i64 0)), none⟩] [] [4, 5, 6, 12, 13, 14, 16, 66])
  (.cond (.t 66)
  (.seq (.reg false [⟨some 68, .ld (some 1) (.t 14), none⟩,
    ⟨some 69, .ld (some 4) (.t 6), none⟩,
    ⟨some 70, .mv (.t 16), none⟩,
    ⟨some 71, .call 19 [.t 68, .t 69, .t 70], none⟩,
    ⟨some 67, .mv (.t 71), none⟩,
    ⟨some 72, .ext (.t 67) 0, none⟩,
    ⟨some 73, .ext (.t 67) 1, none⟩,
    ⟨some 74, .ext (.t 67) 2, none⟩,
    ⟨some 17, .new [.int .i64 0, .int .i64 0, .int .i64 0, .bool false], none⟩,
    ⟨none, .st 4 (.t 17) (.t 72), none⟩,
    ⟨some 18, .mv (.t 73), none⟩,
    ⟨some 19, .mv (.t 74), none⟩] [] [4, 5, 6, 12, 13, 18, 19])
  (.seq (.reg false [⟨some 75, .mv (.t 18), none⟩,
    ⟨some 76, .bin .neq (.t 75) (.c (.int .i64 (-1))), none⟩,
    ⟨some 77, .mv (.t 76), none⟩,
    ⟨some 78, .mv (.t 19), some (77, false)⟩,
    ⟨some 79, .bin .neq (.t 78) (.c (.int .i64 1)), some (77, false)⟩,
    ⟨some 80, .pick (.t 77) (.c (.bool true)) (.t 79), none⟩] [] [4, 5, 6, 12, 13, 80])
  (.cond (.t 80)
  (.seq (.reg false [⟨some 2, .mv (.c (.bool false)), none⟩] [] [2])
  .ret)
  .skip)))
  .skip))
  (.seq (.reg true [⟨some 81, .mv (.t 13), none⟩,
    ⟨some 82, .mv (.t 81), none⟩,
    ⟨some 83, .ld (some 4) (.t 12), some (82, true)⟩,
    ⟨some 84, .ld (some 4) (.t 6), some (82, true)⟩,
    ⟨some 85, .eqs false [1, 1, 1, 0] (.t 83) (.t 84), some (82, true)⟩,
    ⟨some 86, .pick (.t 82) (.t 85) (.c (.bool false)), none⟩,
    ⟨some 87, .mv (.t 86), none⟩,
    ⟨some 88, .fad 2 (.t 6), some (87, true)⟩,
    ⟨some 89, .ld none (.t 88), some (87, true)⟩,
    ⟨some 90, .bin .eql (.t 89) (.c (.int .i64 0)), some (87, true)⟩,
    ⟨some 91, .pick (.t 87) (.t 90) (.c (.bool false)), none⟩,
    ⟨some 92, .mv (.t 91), none⟩,
    ⟨some 93, .fad 1 (.t 6), some (92, true)⟩,
    ⟨some 94, .ld none (.t 93), some (92, true)⟩,
    ⟨some 95, .fad 1 (.t 4), some (92, true)⟩,
    ⟨some 96, .ld none (.t 95), some (92, true)⟩,
    ⟨some 97, .bin .add (.t 96) (.c (.int .i64 1)), some (92, true)⟩,
    ⟨some 98, .bin .eql (.t 94) (.t 97), some (92, true)⟩,
    ⟨some 99, .pick (.t 92) (.t 98) (.c (.bool false)), none⟩,
    ⟨some 100, .mv (.t 99), none⟩,
    ⟨some 101, .fad 0 (.t 6), some (100, true)⟩,
    ⟨some 102, .ld none (.t 101), some (100, true)⟩,
    ⟨some 103, .fad 0 (.t 4), some (100, true)⟩,
    ⟨some 104, .ld none (.t 103), some (100, true)⟩,
    ⟨some 105, .bin .neq (.t 102) (.t 104), some (100, true)⟩,
    ⟨some 106, .pick (.t 100) (.t 105) (.c (.bool false)), none⟩,
    ⟨some 107, .mv (.t 106), none⟩,
    ⟨some 108, .ld (some 1) (.t 5), some (107, true)⟩,
    ⟨some 109, .fad 0 (.t 6), some (107, true)⟩,
    ⟨some 110, .ld none (.t 109), some (107, true)⟩,
    ⟨some 111, .call 44 [.t 108, .t 110], some (107, true)⟩,
    ⟨some 112, .slc 1 (.t 111) none (some (.c (.int .i64 1))) none, some (107, true)⟩,
    ⟨some 113, .fad 0 (.t 4), some (107, true)⟩,
    ⟨some 114, .ld none (.t 113), some (107, true)⟩,
    ⟨some 115, .bsl 1 1 [.int .i64 0] [(0, 1, .t 114)], some (107, true)⟩,
    ⟨some 116, .call 42 [.t 112, .t 115], some (107, true)⟩,
    ⟨some 117, .pick (.t 107) (.t 116) (.c (.bool false)), none⟩,
    ⟨some 2, .mv (.t 117), none⟩] [0, 1, 3, 3, 15, 31, 63, 127, 255, 511, 1023, 2047, 4095, 8191, 4095, 20479, 53247, 131071, 262143, 524287, 1048575, 2097151, 1048575, 5242879, 16777215, 33554431, 67108863, 134217727, 134217727, 402653183, 1073741823, 2147483647, 134217727, 4429185023, 13019119615, 34359738367, 68719476735, 137438953471] [2])
  .ret))))))))))), [(2, none)]⟩
theorem laws_FnTurned_ok : okFn Try.prog 11 laws_FnTurned = true := by kernel_rfl
def laws_FnExactStreamNew : IFn := ⟨122, (.seq (.reg false [⟨some 3, .box (.t 0), none⟩,
    ⟨some 6, .mv (.c (.bool false)), none⟩] [] [1, 2, 3])
  (.seq (.seq (.reg false [⟨some 19, .mv (.t 1), none⟩,
    ⟨some 20, .len false (.t 19), none⟩,
    ⟨some 21, .bin .gtr (.t 20) (.c (.int .i64 1048576)), none⟩] [] [1, 2, 3, 21])
  (.cond (.t 21)
  (.seq (.reg false [⟨some 6, .mv (.c (.bool true)), none⟩] [] [6])
  .ret)
  .skip))
  (.seq (.reg false [⟨some 7, .mv (.c (.int .i64 1048576)), none⟩] [] [1, 2, 3, 7])
  (.seq (.reg false [⟨some 22, .ld (some 1) (.t 3), none⟩,
    ⟨some 23, .mv (.t 7), none⟩,
    ⟨some 24, .call 15 [.t 22, .t 23], none⟩,
    ⟨some 7, .mv (.t 24), none⟩] [] [1, 2, 3, 7])
  (.seq (.seq (.reg false [⟨some 25, .mv (.t 7), none⟩,
    ⟨some 26, .bin .lss (.t 25) (.c (.int .i64 0)), none⟩] [] [1, 2, 3, 26])
  (.cond (.t 26)
  (.seq (.reg false [⟨some 6, .mv (.c (.bool true)), none⟩] [] [6])
  .ret)
  .skip))
  (.seq (.reg false [⟨some 28, .ld (some 1) (.t 3), none⟩,
    ⟨some 29, .call 17 [.t 28], none⟩,
    ⟨some 30, .mv (.t 1), none⟩,
    ⟨some 31, .call 46 [.t 30], none⟩,
    ⟨some 32, .mv (.t 2), none⟩,
    ⟨some 33, .call 40 [.t 29, .t 31, .t 32], none⟩,
    ⟨some 27, .mv (.t 33), none⟩,
    ⟨some 34, .ext (.t 27) 0, none⟩,
    ⟨some 35, .ext (.t 27) 1, none⟩,
    ⟨some 8, .new [.nil, .nil, .int .i64 0, .int .i64 0, .int .i64 0, .bool false, .int .i64 0, .int .i64 0, .int .i64 0, .bool false, .nil, .nil], none⟩,
    ⟨none, .st 12 (.t 8) (.t 34), none⟩,
    ⟨some 9, .mv (.t 35), none⟩] [] [1, 2, 3, 8, 9])
  (.seq (.reg false [⟨some 36, .ld (some 1) (.t 3), none⟩,
    ⟨some 37, .call 17 [.t 36], none⟩,
    ⟨some 10, .new [.nil], none⟩,
    ⟨none, .st 1 (.t 10) (.t 37), none⟩] [] [1, 2, 3, 8, 9, 10])
  (.seq (.reg false [⟨some 38, .mv (.t 1), none⟩,
    ⟨some 39, .call 46 [.t 38], none⟩,
    ⟨some 11, .mv (.t 39), none⟩] [] [1, 2, 3, 8, 9, 10, 11])
  (.seq (.reg false [⟨some 41, .ld (some 1) (.t 10), none⟩,
    ⟨some 42, .mv (.t 11), none⟩,
    ⟨some 43, .mv (.t 2), none⟩,
    ⟨some 44, .call 39 [.t 41, .t 42, .t 43], none⟩,
    ⟨some 40, .mv (.t 44), none⟩,
    ⟨some 45, .ext (.t 40) 0, none⟩,
    ⟨some 46, .ext (.t 40) 1, none⟩,
    ⟨some 12, .new [.nil, .nil, .int .i64 0, .int .i64 0, .int .i64 0, .bool false, .int .i64 0, .int .i64 0, .int .i64 0, .bool false, .nil, .nil], none⟩,
    ⟨none, .st 12 (.t 12) (.t 45), none⟩,
    ⟨some 13, .mv (.t 46), none⟩] [] [1, 2, 3, 8, 9, 10, 11, 12, 13])
  (.seq (.seq (.reg false [⟨some 47, .ld (some 12) (.t 12), none⟩,
    ⟨some 48, .ld (some 12) (.t 8), none⟩,
    ⟨some 49, .call 26 [.t 47, .t 48], none⟩,
    ⟨some 50, .not (.t 49), none⟩,
    ⟨some 51, .mv (.t 50), none⟩,
    ⟨some 52, .mv (.t 13), some (51, false)⟩,
    ⟨some 53, .mv (.t 9), some (51, false)⟩,
    ⟨some 54, .eqb true (.t 52) (.t 53), some (51, false)⟩,
    ⟨some 55, .pick (.t 51) (.c (.bool true)) (.t 54), none⟩] [] [1, 2, 3, 8, 9, 10, 11, 12, 13, 55])
  (.cond (.t 55)
  (.seq (.reg false [⟨some 6, .mv (.c (.bool false)), none⟩] [] [6])
  .ret)
  .skip))
  (.seq (.seq (.reg true [⟨some 56, .ld (some 1) (.t 10), none⟩,
    ⟨some 57, .ld (some 1) (.t 3), none⟩,
    ⟨some 58, .call 17 [.t 57], none⟩,
    ⟨some 59, .call 21 [.t 56, .t 58], none⟩,
    ⟨some 60, .not (.t 59), none⟩] [0, 0, 2, 7, 15] [1, 2, 3, 8, 9, 10, 11, 12, 13, 60])
  (.cond (.t 60)
  (.seq (.reg false [⟨some 6, .mv (.c (.bool false)), none⟩] [] [6])
  .ret)
  .skip))
  (.seq (.seq (.reg false [⟨some 61, .mv (.t 11), none⟩,
    ⟨some 62, .mv (.t 1), none⟩,
    ⟨some 63, .call 46 [.t 62], none⟩,
    ⟨some 64, .call 47 [.t 61, .t 63], none⟩,
    ⟨some 65, .not (.t 64), none⟩] [] [1, 2, 3, 8, 9, 10, 11, 12, 13, 65])
  (.cond (.t 65)
  (.seq (.reg false [⟨some 6, .mv (.c (.bool false)), none⟩] [] [6])
  .ret)
  .skip))
  (.seq (.reg false [⟨some 14, .mv (.c (.int .i64 1)), none⟩] [] [1, 2, 3, 8, 9, 10, 11, 12, 13, 14])
  (.seq (.reg false [⟨some 66, .ld (some 1) (.t 10), none⟩,
    ⟨some 67, .mv (.t 14), none⟩,
    ⟨some 68, .call 29 [.t 66, .t 67], none⟩,
    ⟨some 14, .mv (.t 68), none⟩] [] [1, 2, 3, 8, 9, 11, 12, 13, 14])
  (.seq (.reg false [⟨some 69, .mv (.t 11), none⟩,
    ⟨some 70, .mv (.t 14), none⟩,
    ⟨some 71, .call 48 [.t 69, .t 70], none⟩,
    ⟨some 14, .mv (.t 71), none⟩] [] [1, 2, 3, 8, 9, 12, 13, 14])
  (.seq (.seq (.reg false [⟨some 72, .mv (.t 14), none⟩,
    ⟨some 73, .bin .lss (.t 72) (.c (.int .i64 0)), none⟩,
    ⟨some 74, .mv (.t 73), none⟩,
    ⟨some 75, .ld (some 12) (.t 12), some (74, false)⟩,
    ⟨some 76, .ld (some 12) (.t 8), some (74, false)⟩,
    ⟨some 77, .call 26 [.t 75, .t 76], some (74, false)⟩,
    ⟨some 78, .not (.t 77), some (74, false)⟩,
    ⟨some 79, .pick (.t 74) (.c (.bool true)) (.t 78), none⟩,
    ⟨some 80, .mv (.t 79), none⟩,
    ⟨some 81, .mv (.t 13), some (80, false)⟩,
    ⟨some 82, .mv (.t 9), some (80, false)⟩,
    ⟨some 83, .eqb true (.t 81) (.t 82), some (80, false)⟩,
    ⟨some 84, .pick (.t 80) (.c (.bool true)) (.t 83), none⟩] [] [1, 2, 3, 8, 9, 12, 84])
  (.cond (.t 84)
  (.seq (.reg false [⟨some 6, .mv (.c (.bool false)), none⟩] [] [6])
  .ret)
  .skip))
  (.seq (.reg false [⟨some 15, .mv (.c (.int .i64 1)), none⟩] [] [1, 2, 3, 8, 9, 12, 15])
  (.seq (.reg false [⟨some 85, .ld (some 12) (.t 12), none⟩,
    ⟨some 86, .mv (.t 15), none⟩,
    ⟨some 87, .call 49 [.t 85, .t 86], none⟩,
    ⟨some 15, .mv (.t 87), none⟩] [] [1, 2, 3, 8, 9, 12, 15])
  (.seq (.reg false [⟨some 16, .mv (.c (.int .i64 1)), none⟩] [] [1, 2, 3, 8, 9, 12, 15, 16])
  (.seq (.reg false [⟨some 88, .ld (some 12) (.t 12), none⟩,
    ⟨some 89, .mv (.t 16), none⟩,
    ⟨some 90, .call 50 [.t 88, .t 89], none⟩,
    ⟨some 16, .mv (.t 90), none⟩] [] [1, 2, 3, 8, 9, 12, 15, 16])
  (.seq (.seq (.reg false [⟨some 91, .mv (.t 16), none⟩,
    ⟨some 92, .bin .lss (.t 91) (.c (.int .i64 0)), none⟩] [] [1, 2, 3, 8, 9, 12, 15, 16, 92])
  (.cond (.t 92)
  (.seq (.reg false [⟨some 6, .mv (.c (.bool false)), none⟩] [] [6])
  .ret)
  .skip))
  (.seq (.seq (.reg false [⟨some 93, .mv (.t 16), none⟩,
    ⟨some 94, .mv (.t 15), none⟩,
    ⟨some 95, .bin .neq (.t 93) (.t 94), none⟩] [] [1, 2, 3, 8, 9, 12, 15, 95])
  (.cond (.t 95)
  (.seq (.reg false [⟨some 6, .mv (.c (.bool false)), none⟩] [] [6])
  .ret)
  .skip))
  (.seq (.reg false [⟨some 97, .ld (some 1) (.t 3), none⟩,
    ⟨some 98, .call 17 [.t 97], none⟩,
    ⟨some 99, .mv (.t 1), none⟩,
    ⟨some 100, .call 46 [.t 99], none⟩,
    ⟨some 101, .mv (.t 2), none⟩,
    ⟨some 102, .call 39 [.t 98, .t 100, .t 101], none⟩,
    ⟨some 96, .mv (.t 102), none⟩,
    ⟨some 103, .ext (.t 96) 0, none⟩,
    ⟨some 104, .ext (.t 96) 1, none⟩,
    ⟨some 17, .new [.nil, .nil, .int .i64 0, .int .i64 0, .int .i64 0, .bool false, .int .i64 0, .int .i64 0, .int .i64 0, .bool false, .nil, .nil], none⟩,
    ⟨none, .st 12 (.t 17) (.t 103), none⟩,
    ⟨some 18, .mv (.t 104), none⟩] [] [8, 9, 12, 15, 17, 18])
  (.seq (.seq (.reg false [⟨some 105, .ld (some 12) (.t 17), none⟩,
    ⟨some 106, .ld (some 12) (.t 8), none⟩,
    ⟨some 107, .call 26 [.t 105, .t 106], none⟩,
    ⟨some 108, .not (.t 107), none⟩,
    ⟨some 109, .mv (.t 108), none⟩,
    ⟨some 110, .mv (.t 18), some (109, false)⟩,
    ⟨some 111, .mv (.t 9), some (109, false)⟩,
    ⟨some 112, .eqb true (.t 110) (.t 111), some (109, false)⟩,
    ⟨some 113, .pick (.t 109) (.c (.bool true)) (.t 112), none⟩] [] [12, 15, 113])
  (.cond (.t 113)
  (.seq (.reg false [⟨some 6, .mv (.c (.bool false)), none⟩] [] [6])
  .ret)
  .skip))
  (.seq (.reg false [⟨some 16, .mv (.c (.int .i64 1)), none⟩] [] [12, 15, 16])
  (.seq (.reg false [⟨some 114, .ld (some 12) (.t 12), none⟩,
    ⟨some 115, .mv (.t 16), none⟩,
    ⟨some 116, .call 50 [.t 114, .t 115], none⟩,
    ⟨some 16, .mv (.t 116), none⟩] [] [15, 16])
  (.seq (.seq (.reg false [⟨some 117, .mv (.t 16), none⟩,
    ⟨some 118, .bin .lss (.t 117) (.c (.int .i64 0)), none⟩] [] [15, 16, 118])
  (.cond (.t 118)
  (.seq (.reg false [⟨some 6, .mv (.c (.bool false)), none⟩] [] [6])
  .ret)
  .skip))
  (.seq (.seq (.reg false [⟨some 119, .mv (.t 16), none⟩,
    ⟨some 120, .mv (.t 15), none⟩,
    ⟨some 121, .bin .neq (.t 119) (.t 120), none⟩] [] [121])
  (.cond (.t 121)
  (.seq (.reg false [⟨some 6, .mv (.c (.bool false)), none⟩] [] [6])
  .ret)
  .skip))
  (.seq (.reg false [⟨some 6, .mv (.c (.bool true)), none⟩] [] [6])
  .ret))))))))))))))))))))))))))))), [(6, none)]⟩
theorem laws_FnExactStreamNew_ok : okFn Try.prog 12 laws_FnExactStreamNew = true := by kernel_rfl
def laws_FnEnded : IFn := ⟨114, (.seq (.reg false [⟨some 2, .mv (.c (.bool false)), none⟩] [] [0])
  (.seq (.seq (.reg false [⟨some 23, .mv (.t 0), none⟩,
    ⟨some 24, .call 33 [.t 23], none⟩] [] [0, 24])
  (.cond (.t 24)
  (.seq (.reg false [⟨some 2, .mv (.c (.bool true)), none⟩] [] [2])
  .ret)
  .skip))
  (.seq (.reg false [⟨some 26, .mv (.t 0), none⟩,
    ⟨some 27, .call 51 [.t 26], none⟩,
    ⟨some 25, .mv (.t 27), none⟩,
    ⟨some 28, .ext (.t 25) 0, none⟩,
    ⟨some 29, .ext (.t 25) 1, none⟩,
    ⟨some 3, .new [.nil], none⟩,
    ⟨some 4, .new [.int .i64 0, .int .i64 0, .int .i64 0, .bool false], none⟩,
    ⟨none, .st 1 (.t 3) (.t 28), none⟩,
    ⟨none, .st 4 (.t 4) (.t 29), none⟩] [] [3, 4])
  (.seq (.reg false [⟨some 31, .ld (some 1) (.t 3), none⟩,
    ⟨some 32, .ld (some 4) (.t 4), none⟩,
    ⟨some 33, .call 37 [.t 31, .t 32], none⟩,
    ⟨some 30, .mv (.t 33), none⟩,
    ⟨some 34, .ext (.t 30) 0, none⟩,
    ⟨some 35, .ext (.t 30) 1, none⟩,
    ⟨some 36, .ext (.t 30) 2, none⟩,
    ⟨some 5, .new [.nil], none⟩,
    ⟨some 6, .new [.int .i64 0, .int .i64 0, .int .i64 0, .bool false], none⟩,
    ⟨none, .st 1 (.t 5) (.t 34), none⟩,
    ⟨none, .st 4 (.t 6) (.t 35), none⟩,
    ⟨some 7, .mv (.t 36), none⟩] [] [3, 4, 5, 6, 7])
  (.seq (.reg false [⟨some 38, .ld (some 1) (.t 3), none⟩,
    ⟨some 39, .ld (some 4) (.t 4), none⟩,
    ⟨some 40, .call 36 [.t 38, .t 39], none⟩,
    ⟨some 37, .mv (.t 40), none⟩,
    ⟨some 41, .ext (.t 37) 0, none⟩,
    ⟨some 42, .ext (.t 37) 1, none⟩,
    ⟨some 43, .ext (.t 37) 2, none⟩,
    ⟨some 8, .new [.nil], none⟩,
    ⟨some 9, .new [.int .i64 0, .int .i64 0, .int .i64 0, .bool false], none⟩,
    ⟨none, .st 1 (.t 8) (.t 41), none⟩,
    ⟨none, .st 4 (.t 9) (.t 42), none⟩,
    ⟨some 10, .mv (.t 43), none⟩] [] [4, 5, 6, 7, 10])
  (.seq (.seq (.reg false [⟨some 44, .mv (.t 7), none⟩,
    ⟨some 45, .mv (.t 10), none⟩,
    ⟨some 46, .bin .neq (.t 44) (.t 45), none⟩] [] [4, 5, 6, 7, 46])
  (.cond (.t 46)
  (.seq (.reg false [⟨some 2, .mv (.c (.bool false)), none⟩] [] [2])
  .ret)
  .skip))
  (.seq (.seq (.reg false [⟨some 47, .mv (.t 7), none⟩,
    ⟨some 48, .bin .lss (.t 47) (.c (.int .i64 0)), none⟩] [] [4, 5, 6, 7, 48])
  (.cond (.t 48)
  (.seq (.reg false [⟨some 49, .ld (some 4) (.t 6), none⟩,
    ⟨some 50, .ld (some 4) (.t 4), none⟩,
    ⟨some 51, .eqs false [1, 1, 1, 0] (.t 49) (.t 50), none⟩,
    ⟨some 2, .mv (.t 51), none⟩] [] [2])
  .ret)
  .skip))
  (.seq (.reg false [⟨some 53, .ld (some 1) (.t 5), none⟩,
    ⟨some 54, .ld (some 4) (.t 4), none⟩,
    ⟨some 55, .mv (.t 7), none⟩,
    ⟨some 56, .call 19 [.t 53, .t 54, .t 55], none⟩,
    ⟨some 52, .mv (.t 56), none⟩,
    ⟨some 57, .ext (.t 52) 0, none⟩,
    ⟨some 58, .ext (.t 52) 1, none⟩,
    ⟨some 59, .ext (.t 52) 2, none⟩,
    ⟨some 11, .new [.int .i64 0, .int .i64 0, .int .i64 0, .bool false], none⟩,
    ⟨none, .st 4 (.t 11) (.t 57), none⟩,
    ⟨some 12, .mv (.t 58), none⟩,
    ⟨some 13, .mv (.t 59), none⟩] [] [4, 5, 6, 7, 11, 12, 13])
  (.seq (.reg false [⟨some 61, .ld (some 1) (.t 5), none⟩,
    ⟨some 62, .ld (some 4) (.t 11), none⟩,
    ⟨some 63, .mv (.t 7), none⟩,
    ⟨some 64, .call 19 [.t 61, .t 62, .t 63], none⟩,
    ⟨some 60, .mv (.t 64), none⟩,
    ⟨some 65, .ext (.t 60) 0, none⟩,
    ⟨some 66, .ext (.t 60) 1, none⟩,
    ⟨some 67, .ext (.t 60) 2, none⟩,
    ⟨some 14, .new [.int .i64 0, .int .i64 0, .int .i64 0, .bool false], none⟩,
    ⟨none, .st 4 (.t 14) (.t 65), none⟩,
    ⟨some 15, .mv (.t 66), none⟩,
    ⟨some 16, .mv (.t 67), none⟩] [] [4, 5, 6, 11, 12, 13, 15, 16])
  (.seq (.reg false [⟨some 69, .ld (some 1) (.t 5), none⟩,
    ⟨some 70, .ld (some 4) (.t 6), none⟩,
    ⟨some 71, .fad 0 (.t 4), none⟩,
    ⟨some 72, .ld none (.t 71), none⟩,
    ⟨some 73, .call 32 [.t 69, .t 70, .t 72], none⟩,
    ⟨some 68, .mv (.t 73), none⟩,
    ⟨some 74, .ext (.t 68) 0, none⟩,
    ⟨some 75, .ext (.t 68) 1, none⟩,
    ⟨some 76, .ext (.t 68) 2, none⟩,
    ⟨some 17, .new [.nil], none⟩,
    ⟨some 18, .new [.int .i64 0, .int .i64 0, .int .i64 0, .bool false], none⟩,
    ⟨none, .st 1 (.t 17) (.t 74), none⟩,
    ⟨none, .st 4 (.t 18) (.t 75), none⟩,
    ⟨some 19, .mv (.t 76), none⟩] [] [5, 6, 11, 12, 13, 15, 16, 19])
  (.seq (.reg false [⟨some 78, .ld (some 1) (.t 5), none⟩,
    ⟨some 79, .ld (some 4) (.t 6), none⟩,
    ⟨some 80, .call 28 [.t 78, .t 79], none⟩,
    ⟨some 77, .mv (.t 80), none⟩,
    ⟨some 81, .ext (.t 77) 0, none⟩,
    ⟨some 82, .ext (.t 77) 1, none⟩,
    ⟨some 83, .ext (.t 77) 2, none⟩,
    ⟨some 20, .new [.nil], none⟩,
    ⟨some 21, .new [.int .i64 0, .int .i64 0, .int .i64 0, .bool false], none⟩,
    ⟨none, .st 1 (.t 20) (.t 81), none⟩,
    ⟨none, .st 4 (.t 21) (.t 82), none⟩,
    ⟨some 22, .mv (.t 83), none⟩] [] [6, 11, 12, 13, 15, 16, 19, 22])
  (.seq (.reg false [⟨some 84, .fad 3 (.t 6), none⟩,
    ⟨some 85, .ld none (.t 84), none⟩,
    ⟨some 86, .mv (.t 85), none⟩,
    ⟨some 87, .fad 3 (.t 11), some (86, true)⟩,
    ⟨some 88, .ld none (.t 87), some (86, true)⟩,
    ⟨some 89, .pick (.t 86) (.t 88) (.c (.bool false)), none⟩,
    ⟨some 90, .mv (.t 89), none⟩,
    ⟨some 91, .mv (.t 12), some (90, true)⟩,
    ⟨some 92, .bin .eql (.t 91) (.c (.int .i64 (-1))), some (90, true)⟩,
    ⟨some 93, .pick (.t 90) (.t 92) (.c (.bool false)), none⟩,
    ⟨some 94, .mv (.t 93), none⟩,
    ⟨some 95, .mv (.t 13), some (94, true)⟩,
    ⟨some 96, .bin .eql (.t 95) (.c (.int .i64 0)), some (94, true)⟩,
    ⟨some 97, .pick (.t 94) (.t 96) (.c (.bool false)), none⟩,
    ⟨some 98, .mv (.t 97), none⟩,
    ⟨some 99, .mv (.t 15), some (98, true)⟩,
    ⟨some 100, .bin .eql (.t 99) (.c (.int .i64 (-1))), some (98, true)⟩,
    ⟨some 101, .pick (.t 98) (.t 100) (.c (.bool false)), none⟩,
    ⟨some 102, .mv (.t 101), none⟩,
    ⟨some 103, .mv (.t 16), some (102, true)⟩,
    ⟨some 104, .bin .eql (.t 103) (.c (.int .i64 3)), some (102, true)⟩,
    ⟨some 105, .pick (.t 102) (.t 104) (.c (.bool false)), none⟩,
    ⟨some 106, .mv (.t 105), none⟩,
    ⟨some 107, .mv (.t 19), some (106, true)⟩,
    ⟨some 108, .bin .eql (.t 107) (.c (.int .i64 (-1))), some (106, true)⟩,
    ⟨some 109, .pick (.t 106) (.t 108) (.c (.bool false)), none⟩,
    ⟨some 110, .mv (.t 109), none⟩,
    ⟨some 111, .mv (.t 22), some (110, true)⟩,
    ⟨some 112, .not (.t 111), some (110, true)⟩,
    ⟨some 113, .pick (.t 110) (.t 112) (.c (.bool false)), none⟩,
    ⟨some 2, .mv (.t 113), none⟩] [] [2])
  .ret)))))))))))), [(2, none)]⟩
theorem laws_FnEnded_ok : okFn Try.prog 13 laws_FnEnded = true := by kernel_rfl
def laws_FnExactWorldNew : IFn := ⟨36, (.seq (.reg false [⟨some 0, .mv (.c (.bool false)), none⟩] [] [])
  (.seq (.reg false [⟨some 6, .call 52 [], none⟩,
    ⟨some 1, .new [.nil, .nil, .nil, .int .i64 0, .nil, .nil, .nil], none⟩,
    ⟨none, .st 7 (.t 1) (.t 6), none⟩] [] [1])
  (.seq (.reg false [⟨some 7, .call 53 [], none⟩,
    ⟨some 2, .new [.nil, .nil, .nil, .int .i64 0, .nil, .nil, .nil], none⟩,
    ⟨none, .st 7 (.t 2) (.t 7), none⟩] [] [1, 2])
  (.seq (.seq (.reg false [⟨some 8, .ld (some 7) (.t 2), none⟩,
    ⟨some 9, .ld (some 7) (.t 1), none⟩,
    ⟨some 10, .call 54 [.t 8, .t 9], none⟩,
    ⟨some 11, .not (.t 10), none⟩] [] [1, 2, 11])
  (.cond (.t 11)
  (.seq (.reg false [⟨some 0, .mv (.c (.bool false)), none⟩] [] [0])
  .ret)
  .skip))
  (.seq (.reg false [⟨some 3, .mv (.c (.int .i64 1)), none⟩] [] [1, 2, 3])
  (.seq (.reg false [⟨some 12, .ld (some 7) (.t 2), none⟩,
    ⟨some 13, .mv (.t 3), none⟩,
    ⟨some 14, .call 55 [.t 12, .t 13], none⟩,
    ⟨some 3, .mv (.t 14), none⟩] [] [1, 2, 3])
  (.seq (.reg false [⟨some 4, .mv (.c (.int .i64 1)), none⟩] [] [1, 2, 3, 4])
  (.seq (.reg false [⟨some 15, .ld (some 7) (.t 2), none⟩,
    ⟨some 16, .mv (.t 4), none⟩,
    ⟨some 17, .call 56 [.t 15, .t 16], none⟩,
    ⟨some 4, .mv (.t 17), none⟩] [] [1, 2, 3, 4])
  (.seq (.seq (.reg false [⟨some 18, .mv (.t 4), none⟩,
    ⟨some 19, .bin .lss (.t 18) (.c (.int .i64 0)), none⟩] [] [1, 2, 3, 4, 19])
  (.cond (.t 19)
  (.seq (.reg false [⟨some 0, .mv (.c (.bool false)), none⟩] [] [0])
  .ret)
  .skip))
  (.seq (.seq (.reg false [⟨some 20, .mv (.t 4), none⟩,
    ⟨some 21, .mv (.t 3), none⟩,
    ⟨some 22, .bin .neq (.t 20) (.t 21), none⟩] [] [1, 2, 3, 22])
  (.cond (.t 22)
  (.seq (.reg false [⟨some 0, .mv (.c (.bool false)), none⟩] [] [0])
  .ret)
  .skip))
  (.seq (.reg false [⟨some 23, .call 53 [], none⟩,
    ⟨some 5, .new [.nil, .nil, .nil, .int .i64 0, .nil, .nil, .nil], none⟩,
    ⟨none, .st 7 (.t 5) (.t 23), none⟩] [] [1, 2, 3, 5])
  (.seq (.seq (.reg false [⟨some 24, .ld (some 7) (.t 5), none⟩,
    ⟨some 25, .ld (some 7) (.t 1), none⟩,
    ⟨some 26, .call 54 [.t 24, .t 25], none⟩,
    ⟨some 27, .not (.t 26), none⟩] [] [2, 3, 27])
  (.cond (.t 27)
  (.seq (.reg false [⟨some 0, .mv (.c (.bool false)), none⟩] [] [0])
  .ret)
  .skip))
  (.seq (.reg false [⟨some 4, .mv (.c (.int .i64 1)), none⟩] [] [2, 3, 4])
  (.seq (.reg false [⟨some 28, .ld (some 7) (.t 2), none⟩,
    ⟨some 29, .mv (.t 4), none⟩,
    ⟨some 30, .call 56 [.t 28, .t 29], none⟩,
    ⟨some 4, .mv (.t 30), none⟩] [] [3, 4])
  (.seq (.seq (.reg false [⟨some 31, .mv (.t 4), none⟩,
    ⟨some 32, .bin .lss (.t 31) (.c (.int .i64 0)), none⟩] [] [3, 4, 32])
  (.cond (.t 32)
  (.seq (.reg false [⟨some 0, .mv (.c (.bool false)), none⟩] [] [0])
  .ret)
  .skip))
  (.seq (.seq (.reg false [⟨some 33, .mv (.t 4), none⟩,
    ⟨some 34, .mv (.t 3), none⟩,
    ⟨some 35, .bin .neq (.t 33) (.t 34), none⟩] [] [35])
  (.cond (.t 35)
  (.seq (.reg false [⟨some 0, .mv (.c (.bool false)), none⟩] [] [0])
  .ret)
  .skip))
  (.seq (.reg false [⟨some 0, .mv (.c (.bool true)), none⟩] [] [0])
  .ret))))))))))))))))), [(0, none)]⟩
theorem laws_FnExactWorldNew_ok : okFn Try.prog 14 laws_FnExactWorldNew = true := by kernel_rfl
def laws_szPool : IFn := ⟨12, (.seq (.reg false [⟨some 2, .box (.t 0), none⟩,
    ⟨some 4, .mv (.c (.int .i64 0)), none⟩] [] [1, 2])
  (.seq (.reg false [⟨some 5, .fad 0 (.t 2), none⟩,
    ⟨some 6, .ld none (.t 5), none⟩,
    ⟨some 7, .mv (.t 1), none⟩,
    ⟨some 8, .call 57 [.t 6, .t 7], none⟩,
    ⟨some 1, .mv (.t 8), none⟩] [] [1])
  (.seq (.seq (.reg false [⟨some 9, .mv (.t 1), none⟩,
    ⟨some 10, .bin .lss (.t 9) (.c (.int .i64 0)), none⟩] [] [1, 10])
  (.cond (.t 10)
  (.seq (.reg false [⟨some 4, .mv (.c (.int .i64 (-1))), none⟩] [] [4])
  .ret)
  .skip))
  (.seq (.reg false [⟨some 11, .mv (.t 1), none⟩,
    ⟨some 4, .mv (.t 11), none⟩] [] [4])
  .ret)))), [(4, none)]⟩
theorem laws_szPool_ok : okFn Try.prog 15 laws_szPool = true := by kernel_rfl
def spec_LinkTake : IFn := ⟨91, (.seq (.reg false [⟨some 3, .box (.t 0), none⟩,
    ⟨some 4, .box (.t 1), none⟩,
    ⟨some 6, .new [.int .i64 0, .int .i64 0, .int .i64 0, .bool false], none⟩,
    ⟨some 7, .mv (.c (.int .i64 0)), none⟩,
    ⟨some 8, .mv (.c (.int .i64 0)), none⟩] [] [2, 3, 4, 6])
  (.seq (.block 0 (.seq (.reg false [⟨some 13, .ld (some 1) (.t 3), none⟩,
    ⟨some 14, .ld (some 4) (.t 4), none⟩,
    ⟨some 15, .call 58 [.t 13, .t 14], none⟩,
    ⟨some 16, .not (.t 15), none⟩,
    ⟨some 17, .mv (.t 16), none⟩,
    ⟨some 18, .ld (some 1) (.t 3), some (17, false)⟩,
    ⟨some 19, .mv (.t 2), some (17, false)⟩,
    ⟨some 20, .call 59 [.t 18, .t 19], some (17, false)⟩,
    ⟨some 21, .not (.t 20), some (17, false)⟩,
    ⟨some 22, .pick (.t 17) (.c (.bool true)) (.t 21), none⟩,
    ⟨some 12, .mv (.t 22), none⟩] [] [2, 3, 4, 6, 12])
  (.cond (.t 12)
  (.seq (.reg false [⟨some 23, .ld (some 4) (.t 4), none⟩,
    ⟨none, .st 4 (.t 6) (.t 23), none⟩,
    ⟨some 7, .mv (.c (.int .i64 (-1))), none⟩,
    ⟨some 8, .mv (.c (.int .i64 4)), none⟩] [] [6, 7, 8])
  .ret)
  (.seq (.reg false [⟨some 25, .fad 3 (.t 4), none⟩,
    ⟨some 26, .ld none (.t 25), none⟩,
    ⟨some 24, .mv (.t 26), none⟩] [] [2, 3, 4, 6, 24])
  (.cond (.t 24)
  (.seq (.reg false [⟨some 27, .ld (some 4) (.t 4), none⟩,
    ⟨none, .st 4 (.t 6) (.t 27), none⟩,
    ⟨some 7, .mv (.c (.int .i64 (-1))), none⟩,
    ⟨some 8, .mv (.c (.int .i64 3)), none⟩] [] [6, 7, 8])
  .ret)
  .skip)))))
  (.seq (.reg false [⟨some 28, .fad 0 (.t 3), none⟩,
    ⟨some 29, .ld none (.t 28), none⟩,
    ⟨some 30, .mv (.t 2), none⟩,
    ⟨some 31, .iad 3 (.t 29) (.t 30), none⟩,
    ⟨some 32, .ld (some 3) (.t 31), none⟩,
    ⟨some 9, .new [.int .i64 0, .int .i64 0, .int .i64 0], none⟩,
    ⟨none, .st 3 (.t 9) (.t 32), none⟩] [] [3, 4, 6, 9])
  (.seq (.seq (.reg false [⟨some 33, .fad 0 (.t 9), none⟩,
    ⟨some 34, .ld none (.t 33), none⟩,
    ⟨some 35, .bin .neq (.t 34) (.c (.int .i64 3)), none⟩,
    ⟨some 36, .mv (.t 35), none⟩,
    ⟨some 37, .fad 2 (.t 9), some (36, false)⟩,
    ⟨some 38, .ld none (.t 37), some (36, false)⟩,
    ⟨some 39, .fad 0 (.t 4), some (36, false)⟩,
    ⟨some 40, .ld none (.t 39), some (36, false)⟩,
    ⟨some 41, .bin .neq (.t 38) (.t 40), some (36, false)⟩,
    ⟨some 42, .pick (.t 36) (.c (.bool true)) (.t 41), none⟩,
    ⟨some 43, .mv (.t 42), none⟩,
    ⟨some 44, .fad 0 (.t 3), some (43, false)⟩,
    ⟨some 45, .ld none (.t 44), some (43, false)⟩,
    ⟨some 46, .fad 1 (.t 9), some (43, false)⟩,
    ⟨some 47, .ld none (.t 46), some (43, false)⟩,
    ⟨some 48, .iad 3 (.t 45) (.t 47), some (43, false)⟩,
    ⟨some 49, .fad 0 (.t 48), some (43, false)⟩,
    ⟨some 50, .ld none (.t 49), some (43, false)⟩,
    ⟨some 51, .bin .neq (.t 50) (.c (.int .i64 2)), some (43, false)⟩,
    ⟨some 52, .pick (.t 43) (.c (.bool true)) (.t 51), none⟩] [] [3, 4, 6, 9, 52])
  (.cond (.t 52)
  (.seq (.reg false [⟨some 53, .ld (some 4) (.t 4), none⟩,
    ⟨none, .st 4 (.t 6) (.t 53), none⟩,
    ⟨some 7, .mv (.c (.int .i64 (-1))), none⟩,
    ⟨some 8, .mv (.c (.int .i64 1)), none⟩] [] [6, 7, 8])
  .ret)
  .skip))
  (.seq (.reg false [⟨some 54, .fad 0 (.t 3), none⟩,
    ⟨some 55, .ld none (.t 54), none⟩,
    ⟨some 56, .fad 1 (.t 9), none⟩,
    ⟨some 57, .ld none (.t 56), none⟩,
    ⟨some 58, .iad 3 (.t 55) (.t 57), none⟩,
    ⟨some 59, .ld (some 3) (.t 58), none⟩,
    ⟨some 10, .new [.int .i64 0, .int .i64 0, .int .i64 0], none⟩,
    ⟨none, .st 3 (.t 10) (.t 59), none⟩] [] [3, 4, 6, 10])
  (.seq (.reg false [⟨some 60, .fad 2 (.t 4), none⟩,
    ⟨some 61, .ld none (.t 60), none⟩,
    ⟨some 62, .bin .add (.c (.int .i64 20)) (.t 61), none⟩,
    ⟨some 63, .build [.int .i64 0, .int .i64 0, .int .i64 0] [(0, 1, .c (.int .i64 1)), (1, 1, .t 62)], none⟩,
    ⟨some 11, .new [.int .i64 0, .int .i64 0, .int .i64 0], none⟩,
    ⟨none, .st 3 (.t 11) (.t 63), none⟩] [] [3, 4, 6, 10, 11])
  (.seq (.seq (.reg true [⟨some 64, .fad 0 (.t 3), none⟩,
    ⟨some 65, .ld none (.t 64), none⟩,
    ⟨some 66, .fad 1 (.t 10), none⟩,
    ⟨some 67, .ld none (.t 66), none⟩,
    ⟨some 68, .iad 3 (.t 65) (.t 67), none⟩,
    ⟨some 69, .ld (some 3) (.t 68), none⟩,
    ⟨some 70, .ld (some 3) (.t 11), none⟩,
    ⟨some 71, .eqs true [1, 1, 1] (.t 69) (.t 70), none⟩,
    ⟨some 72, .mv (.t 71), none⟩,
    ⟨some 73, .fad 2 (.t 4), some (72, false)⟩,
    ⟨some 74, .ld none (.t 73), some (72, false)⟩,
    ⟨some 75, .bin .eql (.t 74) (.c (.int .i64 20)), some (72, false)⟩,
    ⟨some 76, .pick (.t 72) (.c (.bool true)) (.t 75), none⟩] [0, 1, 0, 4, 15, 31, 0, 127, 255, 511, 1023, 2047, 4095] [3, 4, 6, 10, 76])
  (.cond (.t 76)
  (.seq (.reg false [⟨some 77, .ld (some 4) (.t 4), none⟩,
    ⟨none, .st 4 (.t 6) (.t 77), none⟩,
    ⟨some 7, .mv (.c (.int .i64 (-1))), none⟩,
    ⟨some 8, .mv (.c (.int .i64 2)), none⟩] [] [6, 7, 8])
  .ret)
  .skip))
  (.seq (.seq (.reg false [⟨some 78, .ld (some 1) (.t 3), none⟩,
    ⟨some 79, .fad 2 (.t 10), none⟩,
    ⟨some 80, .ld none (.t 79), none⟩,
    ⟨some 81, .call 60 [.t 78, .t 80], none⟩] [] [4, 6, 10, 81])
  (.cond (.t 81)
  (.seq (.reg false [⟨some 82, .fad 3 (.t 4), none⟩,
    ⟨none, .st 1 (.t 82) (.c (.bool true)), none⟩] [] [4, 6])
  (.seq (.reg false [⟨some 83, .ld (some 4) (.t 4), none⟩,
    ⟨none, .st 4 (.t 6) (.t 83), none⟩,
    ⟨some 7, .mv (.c (.int .i64 (-1))), none⟩,
    ⟨some 8, .mv (.c (.int .i64 0)), none⟩] [] [6, 7, 8])
  .ret))
  .skip))
  (.seq (.reg false [⟨some 84, .fad 2 (.t 4), none⟩,
    ⟨some 85, .ld none (.t 84), none⟩,
    ⟨some 86, .bin .add (.t 85) (.c (.int .i64 1)), none⟩,
    ⟨some 87, .fad 2 (.t 4), none⟩,
    ⟨none, .st 1 (.t 87) (.t 86), none⟩] [] [4, 6, 10])
  (.seq (.reg true [⟨some 88, .ld (some 4) (.t 4), none⟩,
    ⟨some 89, .fad 2 (.t 10), none⟩,
    ⟨some 90, .ld none (.t 89), none⟩,
    ⟨none, .st 4 (.t 6) (.t 88), none⟩,
    ⟨some 7, .mv (.t 90), none⟩,
    ⟨some 8, .mv (.c (.int .i64 0)), none⟩] [0, 0, 2, 1, 15, 31] [6, 7, 8])
  .ret)))))))))), [(6, some (some 4)), (7, none), (8, none)]⟩
theorem spec_LinkTake_ok : okFn Try.prog 16 spec_LinkTake = true := by kernel_rfl
def laws_toPool : IFn := ⟨9, (.seq (.reg false [⟨some 1, .box (.t 0), none⟩,
    ⟨some 2, .new [.nil], none⟩] [] [1, 2])
  (.seq (.reg false [⟨some 3, .new [.nil], none⟩] [] [1, 2, 3])
  (.seq (.reg false [⟨some 4, .fad 0 (.t 1), none⟩,
    ⟨some 5, .ld none (.t 4), none⟩,
    ⟨some 6, .call 61 [.t 5], none⟩,
    ⟨some 7, .fad 0 (.t 3), none⟩,
    ⟨none, .st 1 (.t 7) (.t 6), none⟩] [] [2, 3])
  (.seq (.reg false [⟨some 8, .ld (some 1) (.t 3), none⟩,
    ⟨none, .st 1 (.t 2) (.t 8), none⟩] [] [2])
  .ret)))), [(2, some (some 1))]⟩
theorem laws_toPool_ok : okFn Try.prog 17 laws_toPool = true := by kernel_rfl
def laws_toLink : IFn := ⟨17, (.seq (.reg false [⟨some 1, .box (.t 0), none⟩,
    ⟨some 2, .new [.int .i64 0, .int .i64 0, .int .i64 0, .bool false], none⟩] [] [1, 2])
  (.seq (.reg false [⟨some 3, .new [.int .i64 0, .int .i64 0, .int .i64 0, .bool false], none⟩] [] [1, 2, 3])
  (.seq (.reg false [⟨some 4, .fad 0 (.t 1), none⟩,
    ⟨some 5, .ld none (.t 4), none⟩,
    ⟨some 6, .fad 0 (.t 3), none⟩,
    ⟨none, .st 1 (.t 6) (.t 5), none⟩] [] [1, 2, 3])
  (.seq (.reg false [⟨some 7, .fad 1 (.t 1), none⟩,
    ⟨some 8, .ld none (.t 7), none⟩,
    ⟨some 9, .fad 1 (.t 3), none⟩,
    ⟨none, .st 1 (.t 9) (.t 8), none⟩] [] [1, 2, 3])
  (.seq (.reg false [⟨some 10, .fad 2 (.t 1), none⟩,
    ⟨some 11, .ld none (.t 10), none⟩,
    ⟨some 12, .fad 2 (.t 3), none⟩,
    ⟨none, .st 1 (.t 12) (.t 11), none⟩] [] [1, 2, 3])
  (.seq (.reg false [⟨some 13, .fad 3 (.t 1), none⟩,
    ⟨some 14, .ld none (.t 13), none⟩,
    ⟨some 15, .fad 3 (.t 3), none⟩,
    ⟨none, .st 1 (.t 15) (.t 14), none⟩] [] [2, 3])
  (.seq (.reg false [⟨some 16, .ld (some 4) (.t 3), none⟩,
    ⟨none, .st 4 (.t 2) (.t 16), none⟩] [] [2])
  .ret))))))), [(2, some (some 4))]⟩
theorem laws_toLink_ok : okFn Try.prog 18 laws_toLink = true := by kernel_rfl
def impl_LinkTake : IFn := ⟨83, (.seq (.reg false [⟨some 3, .box (.t 0), none⟩,
    ⟨some 4, .box (.t 1), none⟩,
    ⟨some 6, .new [.int .i64 0, .int .i64 0, .int .i64 0, .bool false], none⟩,
    ⟨some 7, .mv (.c (.int .i64 0)), none⟩,
    ⟨some 8, .mv (.c (.int .i64 0)), none⟩] [] [2, 3, 4, 6])
  (.seq (.block 0 (.seq (.reg false [⟨some 12, .mv (.t 2), none⟩,
    ⟨some 13, .call 62 [.t 3, .t 12], none⟩,
    ⟨some 14, .not (.t 13), none⟩,
    ⟨some 15, .mv (.t 14), none⟩,
    ⟨some 16, .ld (some 1) (.t 3), some (15, false)⟩,
    ⟨some 17, .ld (some 4) (.t 4), some (15, false)⟩,
    ⟨some 18, .call 35 [.t 16, .t 17], some (15, false)⟩,
    ⟨some 19, .not (.t 18), some (15, false)⟩,
    ⟨some 20, .pick (.t 15) (.c (.bool true)) (.t 19), none⟩,
    ⟨some 11, .mv (.t 20), none⟩] [] [2, 3, 4, 6, 11])
  (.cond (.t 11)
  (.seq (.reg false [⟨some 21, .ld (some 4) (.t 4), none⟩,
    ⟨none, .st 4 (.t 6) (.t 21), none⟩,
    ⟨some 7, .mv (.c (.int .i64 (-1))), none⟩,
    ⟨some 8, .mv (.c (.int .i64 4)), none⟩] [] [6, 7, 8])
  .ret)
  (.seq (.reg false [⟨some 23, .fad 3 (.t 4), none⟩,
    ⟨some 24, .ld none (.t 23), none⟩,
    ⟨some 22, .mv (.t 24), none⟩] [] [2, 3, 4, 6, 22])
  (.cond (.t 22)
  (.seq (.reg false [⟨some 25, .ld (some 4) (.t 4), none⟩,
    ⟨none, .st 4 (.t 6) (.t 25), none⟩,
    ⟨some 7, .mv (.c (.int .i64 (-1))), none⟩,
    ⟨some 8, .mv (.c (.int .i64 3)), none⟩] [] [6, 7, 8])
  .ret)
  .skip)))))
  (.seq (.reg false [⟨some 26, .fad 0 (.t 3), none⟩,
    ⟨some 27, .ld none (.t 26), none⟩,
    ⟨some 28, .mv (.t 2), none⟩,
    ⟨some 29, .iad 3 (.t 27) (.t 28), none⟩,
    ⟨some 30, .ld (some 3) (.t 29), none⟩,
    ⟨some 9, .new [.int .i64 0, .int .i64 0, .int .i64 0], none⟩,
    ⟨none, .st 3 (.t 9) (.t 30), none⟩] [] [3, 4, 6, 9])
  (.seq (.seq (.reg false [⟨some 31, .fad 0 (.t 9), none⟩,
    ⟨some 32, .ld none (.t 31), none⟩,
    ⟨some 33, .bin .neq (.t 32) (.c (.int .i64 3)), none⟩,
    ⟨some 34, .mv (.t 33), none⟩,
    ⟨some 35, .fad 2 (.t 9), some (34, false)⟩,
    ⟨some 36, .ld none (.t 35), some (34, false)⟩,
    ⟨some 37, .fad 0 (.t 4), some (34, false)⟩,
    ⟨some 38, .ld none (.t 37), some (34, false)⟩,
    ⟨some 39, .bin .neq (.t 36) (.t 38), some (34, false)⟩,
    ⟨some 40, .pick (.t 34) (.c (.bool true)) (.t 39), none⟩,
    ⟨some 41, .mv (.t 40), none⟩,
    ⟨some 42, .fad 0 (.t 3), some (41, false)⟩,
    ⟨some 43, .ld none (.t 42), some (41, false)⟩,
    ⟨some 44, .fad 1 (.t 9), some (41, false)⟩,
    ⟨some 45, .ld none (.t 44), some (41, false)⟩,
    ⟨some 46, .iad 3 (.t 43) (.t 45), some (41, false)⟩,
    ⟨some 47, .fad 0 (.t 46), some (41, false)⟩,
    ⟨some 48, .ld none (.t 47), some (41, false)⟩,
    ⟨some 49, .bin .neq (.t 48) (.c (.int .i64 2)), some (41, false)⟩,
    ⟨some 50, .pick (.t 41) (.c (.bool true)) (.t 49), none⟩] [] [3, 4, 6, 9, 50])
  (.cond (.t 50)
  (.seq (.reg false [⟨some 51, .ld (some 4) (.t 4), none⟩,
    ⟨none, .st 4 (.t 6) (.t 51), none⟩,
    ⟨some 7, .mv (.c (.int .i64 (-1))), none⟩,
    ⟨some 8, .mv (.c (.int .i64 1)), none⟩] [] [6, 7, 8])
  .ret)
  .skip))
  (.seq (.reg false [⟨some 52, .fad 0 (.t 3), none⟩,
    ⟨some 53, .ld none (.t 52), none⟩,
    ⟨some 54, .fad 1 (.t 9), none⟩,
    ⟨some 55, .ld none (.t 54), none⟩,
    ⟨some 56, .iad 3 (.t 53) (.t 55), none⟩,
    ⟨some 57, .ld (some 3) (.t 56), none⟩,
    ⟨some 10, .new [.int .i64 0, .int .i64 0, .int .i64 0], none⟩,
    ⟨none, .st 3 (.t 10) (.t 57), none⟩] [] [3, 4, 6, 10])
  (.seq (.seq (.reg false [⟨some 58, .fad 2 (.t 4), none⟩,
    ⟨some 59, .ld none (.t 58), none⟩,
    ⟨some 60, .bin .eql (.t 59) (.c (.int .i64 20)), none⟩,
    ⟨some 61, .mv (.t 60), none⟩,
    ⟨some 62, .fad 1 (.t 10), some (61, false)⟩,
    ⟨some 63, .ld none (.t 62), some (61, false)⟩,
    ⟨some 64, .fad 2 (.t 4), some (61, false)⟩,
    ⟨some 65, .ld none (.t 64), some (61, false)⟩,
    ⟨some 66, .bin .add (.c (.int .i64 20)) (.t 65), some (61, false)⟩,
    ⟨some 67, .call 63 [.t 3, .t 63, .t 66], some (61, false)⟩,
    ⟨some 68, .not (.t 67), some (61, false)⟩,
    ⟨some 69, .pick (.t 61) (.c (.bool true)) (.t 68), none⟩] [] [3, 4, 6, 10, 69])
  (.cond (.t 69)
  (.seq (.reg false [⟨some 70, .ld (some 4) (.t 4), none⟩,
    ⟨none, .st 4 (.t 6) (.t 70), none⟩,
    ⟨some 7, .mv (.c (.int .i64 (-1))), none⟩,
    ⟨some 8, .mv (.c (.int .i64 2)), none⟩] [] [6, 7, 8])
  .ret)
  .skip))
  (.seq (.seq (.reg false [⟨some 71, .fad 2 (.t 10), none⟩,
    ⟨some 72, .ld none (.t 71), none⟩,
    ⟨some 73, .call 63 [.t 3, .t 72, .c (.int .i64 8)], none⟩] [] [4, 6, 10, 73])
  (.cond (.t 73)
  (.seq (.reg false [⟨some 74, .fad 3 (.t 4), none⟩,
    ⟨none, .st 1 (.t 74) (.c (.bool true)), none⟩] [] [4, 6])
  (.seq (.reg false [⟨some 75, .ld (some 4) (.t 4), none⟩,
    ⟨none, .st 4 (.t 6) (.t 75), none⟩,
    ⟨some 7, .mv (.c (.int .i64 (-1))), none⟩,
    ⟨some 8, .mv (.c (.int .i64 0)), none⟩] [] [6, 7, 8])
  .ret))
  .skip))
  (.seq (.reg false [⟨some 76, .fad 2 (.t 4), none⟩,
    ⟨some 77, .ld none (.t 76), none⟩,
    ⟨some 78, .bin .add (.t 77) (.c (.int .i64 1)), none⟩,
    ⟨some 79, .fad 2 (.t 4), none⟩,
    ⟨none, .st 1 (.t 79) (.t 78), none⟩] [] [4, 6, 10])
  (.seq (.reg true [⟨some 80, .ld (some 4) (.t 4), none⟩,
    ⟨some 81, .fad 2 (.t 10), none⟩,
    ⟨some 82, .ld none (.t 81), none⟩,
    ⟨none, .st 4 (.t 6) (.t 80), none⟩,
    ⟨some 7, .mv (.t 82), none⟩,
    ⟨some 8, .mv (.c (.int .i64 0)), none⟩] [0, 0, 2, 1, 15, 31] [6, 7, 8])
  .ret))))))))), [(6, some (some 4)), (7, none), (8, none)]⟩
theorem impl_LinkTake_ok : okFn Try.prog 19 impl_LinkTake = true := by kernel_rfl
def laws_eqLink : IFn := ⟨25, (.seq (.reg false [⟨some 2, .box (.t 0), none⟩,
    ⟨some 3, .box (.t 1), none⟩,
    ⟨some 4, .mv (.c (.bool false)), none⟩] [] [2, 3])
  (.seq (.seq (.reg false [⟨some 5, .fad 0 (.t 2), none⟩,
    ⟨some 6, .ld none (.t 5), none⟩,
    ⟨some 7, .fad 0 (.t 3), none⟩,
    ⟨some 8, .ld none (.t 7), none⟩,
    ⟨some 9, .bin .neq (.t 6) (.t 8), none⟩] [] [2, 3, 9])
  (.cond (.t 9)
  (.seq (.reg false [⟨some 4, .mv (.c (.bool false)), none⟩] [] [4])
  .ret)
  .skip))
  (.seq (.seq (.reg false [⟨some 10, .fad 1 (.t 2), none⟩,
    ⟨some 11, .ld none (.t 10), none⟩,
    ⟨some 12, .fad 1 (.t 3), none⟩,
    ⟨some 13, .ld none (.t 12), none⟩,
    ⟨some 14, .bin .neq (.t 11) (.t 13), none⟩] [] [2, 3, 14])
  (.cond (.t 14)
  (.seq (.reg false [⟨some 4, .mv (.c (.bool false)), none⟩] [] [4])
  .ret)
  .skip))
  (.seq (.seq (.reg false [⟨some 15, .fad 2 (.t 2), none⟩,
    ⟨some 16, .ld none (.t 15), none⟩,
    ⟨some 17, .fad 2 (.t 3), none⟩,
    ⟨some 18, .ld none (.t 17), none⟩,
    ⟨some 19, .bin .neq (.t 16) (.t 18), none⟩] [] [2, 3, 19])
  (.cond (.t 19)
  (.seq (.reg false [⟨some 4, .mv (.c (.bool false)), none⟩] [] [4])
  .ret)
  .skip))
  (.seq (.seq (.reg false [⟨some 20, .fad 3 (.t 2), none⟩,
    ⟨some 21, .ld none (.t 20), none⟩,
    ⟨some 22, .fad 3 (.t 3), none⟩,
    ⟨some 23, .ld none (.t 22), none⟩,
    ⟨some 24, .eqb true (.t 21) (.t 23), none⟩] [] [24])
  (.cond (.t 24)
  (.seq (.reg false [⟨some 4, .mv (.c (.bool false)), none⟩] [] [4])
  .ret)
  .skip))
  (.seq (.reg false [⟨some 4, .mv (.c (.bool true)), none⟩] [] [4])
  .ret)))))), [(4, none)]⟩
theorem laws_eqLink_ok : okFn Try.prog 20 laws_eqLink = true := by kernel_rfl
def laws_eqPool : IFn := ⟨11, (.seq (.reg false [⟨some 2, .box (.t 0), none⟩,
    ⟨some 3, .box (.t 1), none⟩,
    ⟨some 4, .mv (.c (.bool false)), none⟩] [] [2, 3])
  (.seq (.seq (.reg false [⟨some 5, .fad 0 (.t 2), none⟩,
    ⟨some 6, .ld none (.t 5), none⟩,
    ⟨some 7, .fad 0 (.t 3), none⟩,
    ⟨some 8, .ld none (.t 7), none⟩,
    ⟨some 9, .call 64 [.t 6, .t 8], none⟩,
    ⟨some 10, .not (.t 9), none⟩] [] [10])
  (.cond (.t 10)
  (.seq (.reg false [⟨some 4, .mv (.c (.bool false)), none⟩] [] [4])
  .ret)
  .skip))
  (.seq (.reg false [⟨some 4, .mv (.c (.bool true)), none⟩] [] [4])
  .ret))), [(4, none)]⟩
theorem laws_eqPool_ok : okFn Try.prog 21 laws_eqPool = true := by kernel_rfl
def laws_szStream : IFn := ⟨30, (.seq (.reg false [⟨some 2, .box (.t 0), none⟩,
    ⟨some 4, .mv (.c (.int .i64 0)), none⟩] [] [1, 2])
  (.seq (.reg false [⟨some 5, .fad 0 (.t 2), none⟩,
    ⟨some 6, .ld (some 1) (.t 5), none⟩,
    ⟨some 7, .mv (.t 1), none⟩,
    ⟨some 8, .call 15 [.t 6, .t 7], none⟩,
    ⟨some 1, .mv (.t 8), none⟩] [] [1, 2])
  (.seq (.seq (.reg false [⟨some 9, .mv (.t 1), none⟩,
    ⟨some 10, .bin .lss (.t 9) (.c (.int .i64 0)), none⟩] [] [1, 2, 10])
  (.cond (.t 10)
  (.seq (.reg false [⟨some 4, .mv (.c (.int .i64 (-1))), none⟩] [] [4])
  .ret)
  .skip))
  (.seq (.reg false [⟨some 11, .fad 1 (.t 2), none⟩,
    ⟨some 12, .ld none (.t 11), none⟩,
    ⟨some 13, .mv (.t 1), none⟩,
    ⟨some 14, .call 65 [.t 12, .t 13], none⟩,
    ⟨some 1, .mv (.t 14), none⟩] [] [1, 2])
  (.seq (.seq (.reg false [⟨some 15, .mv (.t 1), none⟩,
    ⟨some 16, .bin .lss (.t 15) (.c (.int .i64 0)), none⟩] [] [1, 2, 16])
  (.cond (.t 16)
  (.seq (.reg false [⟨some 4, .mv (.c (.int .i64 (-1))), none⟩] [] [4])
  .ret)
  .skip))
  (.seq (.reg false [⟨some 17, .fad 10 (.t 2), none⟩,
    ⟨some 18, .ld none (.t 17), none⟩,
    ⟨some 19, .mv (.t 1), none⟩,
    ⟨some 20, .call 65 [.t 18, .t 19], none⟩,
    ⟨some 1, .mv (.t 20), none⟩] [] [1, 2])
  (.seq (.seq (.reg false [⟨some 21, .mv (.t 1), none⟩,
    ⟨some 22, .bin .lss (.t 21) (.c (.int .i64 0)), none⟩] [] [1, 2, 22])
  (.cond (.t 22)
  (.seq (.reg false [⟨some 4, .mv (.c (.int .i64 (-1))), none⟩] [] [4])
  .ret)
  .skip))
  (.seq (.reg false [⟨some 23, .fad 11 (.t 2), none⟩,
    ⟨some 24, .ld none (.t 23), none⟩,
    ⟨some 25, .mv (.t 1), none⟩,
    ⟨some 26, .call 65 [.t 24, .t 25], none⟩,
    ⟨some 1, .mv (.t 26), none⟩] [] [1])
  (.seq (.seq (.reg false [⟨some 27, .mv (.t 1), none⟩,
    ⟨some 28, .bin .lss (.t 27) (.c (.int .i64 0)), none⟩] [] [1, 28])
  (.cond (.t 28)
  (.seq (.reg false [⟨some 4, .mv (.c (.int .i64 (-1))), none⟩] [] [4])
  .ret)
  .skip))
  (.seq (.reg false [⟨some 29, .mv (.t 1), none⟩,
    ⟨some 4, .mv (.t 29), none⟩] [] [4])
  .ret)))))))))), [(4, none)]⟩
theorem laws_szStream_ok : okFn Try.prog 22 laws_szStream = true := by kernel_rfl
def spec_StreamOk : IFn := ⟨36, (.seq (.reg false [⟨some 1, .box (.t 0), none⟩,
    ⟨some 2, .mv (.c (.bool false)), none⟩] [] [1])
  (.seq (.reg false [⟨some 3, .fad 0 (.t 1), none⟩,
    ⟨some 4, .ld (some 1) (.t 3), none⟩,
    ⟨some 5, .fad 1 (.t 1), none⟩,
    ⟨some 6, .ld none (.t 5), none⟩,
    ⟨some 7, .call 66 [.t 4, .t 6], none⟩,
    ⟨some 8, .mv (.t 7), none⟩,
    ⟨some 9, .fad 0 (.t 1), some (8, true)⟩,
    ⟨some 10, .ld (some 1) (.t 9), some (8, true)⟩,
    ⟨some 11, .fad 2 (.t 1), some (8, true)⟩,
    ⟨some 12, .ld (some 4) (.t 11), some (8, true)⟩,
    ⟨some 13, .call 67 [.t 10, .t 12], some (8, true)⟩,
    ⟨some 14, .pick (.t 8) (.t 13) (.c (.bool false)), none⟩,
    ⟨some 15, .mv (.t 14), none⟩,
    ⟨some 16, .fad 0 (.t 1), some (15, true)⟩,
    ⟨some 17, .ld (some 1) (.t 16), some (15, true)⟩,
    ⟨some 18, .fad 6 (.t 1), some (15, true)⟩,
    ⟨some 19, .ld (some 4) (.t 18), some (15, true)⟩,
    ⟨some 20, .call 67 [.t 17, .t 19], some (15, true)⟩,
    ⟨some 21, .pick (.t 15) (.t 20) (.c (.bool false)), none⟩,
    ⟨some 22, .mv (.t 21), none⟩,
    ⟨some 23, .fad 0 (.t 1), some (22, true)⟩,
    ⟨some 24, .ld (some 1) (.t 23), some (22, true)⟩,
    ⟨some 25, .fad 10 (.t 1), some (22, true)⟩,
    ⟨some 26, .ld none (.t 25), some (22, true)⟩,
    ⟨some 27, .call 68 [.t 24, .t 26], some (22, true)⟩,
    ⟨some 28, .pick (.t 22) (.t 27) (.c (.bool false)), none⟩,
    ⟨some 29, .mv (.t 28), none⟩,
    ⟨some 30, .fad 0 (.t 1), some (29, true)⟩,
    ⟨some 31, .ld (some 1) (.t 30), some (29, true)⟩,
    ⟨some 32, .fad 11 (.t 1), some (29, true)⟩,
    ⟨some 33, .ld none (.t 32), some (29, true)⟩,
    ⟨some 34, .call 68 [.t 31, .t 33], some (29, true)⟩,
    ⟨some 35, .pick (.t 29) (.t 34) (.c (.bool false)), none⟩,
    ⟨some 2, .mv (.t 35), none⟩] [] [2])
  .ret)), [(2, none)]⟩
theorem spec_StreamOk_ok : okFn Try.prog 23 spec_StreamOk = true := by kernel_rfl
def laws_toStream : IFn := ⟨29, (.seq (.reg false [⟨some 1, .box (.t 0), none⟩,
    ⟨some 2, .new [.nil, .nil, .int .i64 0, .int .i64 0, .int .i64 0, .bool false, .int .i64 0, .int .i64 0, .int .i64 0, .bool false, .nil, .nil], none⟩] [] [1, 2])
  (.seq (.reg false [⟨some 3, .new [.nil, .nil, .int .i64 0, .int .i64 0, .int .i64 0, .bool false, .int .i64 0, .int .i64 0, .int .i64 0, .bool false, .nil, .nil], none⟩] [] [1, 2, 3])
  (.seq (.reg false [⟨some 4, .fad 0 (.t 1), none⟩,
    ⟨some 5, .ld (some 1) (.t 4), none⟩,
    ⟨some 6, .call 17 [.t 5], none⟩,
    ⟨some 7, .fad 0 (.t 3), none⟩,
    ⟨none, .st 1 (.t 7) (.t 6), none⟩] [] [1, 2, 3])
  (.seq (.reg false [⟨some 8, .fad 1 (.t 1), none⟩,
    ⟨some 9, .ld none (.t 8), none⟩,
    ⟨some 10, .call 46 [.t 9], none⟩,
    ⟨some 11, .fad 1 (.t 3), none⟩,
    ⟨none, .st 1 (.t 11) (.t 10), none⟩] [] [1, 2, 3])
  (.seq (.reg false [⟨some 12, .fad 2 (.t 1), none⟩,
    ⟨some 13, .ld (some 4) (.t 12), none⟩,
    ⟨some 14, .call 18 [.t 13], none⟩,
    ⟨some 15, .fad 2 (.t 3), none⟩,
    ⟨none, .st 4 (.t 15) (.t 14), none⟩] [] [1, 2, 3])
  (.seq (.reg false [⟨some 16, .fad 6 (.t 1), none⟩,
    ⟨some 17, .ld (some 4) (.t 16), none⟩,
    ⟨some 18, .call 18 [.t 17], none⟩,
    ⟨some 19, .fad 6 (.t 3), none⟩,
    ⟨none, .st 4 (.t 19) (.t 18), none⟩] [] [1, 2, 3])
  (.seq (.reg false [⟨some 20, .fad 10 (.t 1), none⟩,
    ⟨some 21, .ld none (.t 20), none⟩,
    ⟨some 22, .call 46 [.t 21], none⟩,
    ⟨some 23, .fad 10 (.t 3), none⟩,
    ⟨none, .st 1 (.t 23) (.t 22), none⟩] [] [1, 2, 3])
  (.seq (.reg false [⟨some 24, .fad 11 (.t 1), none⟩,
    ⟨some 25, .ld none (.t 24), none⟩,
    ⟨some 26, .call 46 [.t 25], none⟩,
    ⟨some 27, .fad 11 (.t 3), none⟩,
    ⟨none, .st 1 (.t 27) (.t 26), none⟩] [] [2, 3])
  (.seq (.reg false [⟨some 28, .ld (some 12) (.t 3), none⟩,
    ⟨none, .st 12 (.t 2) (.t 28), none⟩] [] [2])
  .ret))))))))), [(2, some (some 12))]⟩
theorem laws_toStream_ok : okFn Try.prog 24 laws_toStream = true := by kernel_rfl
def impl_StreamOk : IFn := ⟨32, (.seq (.reg false [⟨some 1, .box (.t 0), none⟩,
    ⟨some 2, .mv (.c (.bool false)), none⟩] [] [1])
  (.seq (.reg false [⟨some 3, .fad 0 (.t 1), none⟩,
    ⟨some 4, .ld (some 1) (.t 3), none⟩,
    ⟨some 5, .fad 1 (.t 1), none⟩,
    ⟨some 6, .ld none (.t 5), none⟩,
    ⟨some 7, .call 69 [.t 4, .t 6], none⟩,
    ⟨some 8, .mv (.t 7), none⟩,
    ⟨some 9, .fad 0 (.t 1), some (8, true)⟩,
    ⟨some 10, .ld (some 1) (.t 9), some (8, true)⟩,
    ⟨some 11, .fad 2 (.t 1), some (8, true)⟩,
    ⟨some 12, .ld (some 4) (.t 11), some (8, true)⟩,
    ⟨some 13, .call 35 [.t 10, .t 12], some (8, true)⟩,
    ⟨some 14, .pick (.t 8) (.t 13) (.c (.bool false)), none⟩,
    ⟨some 15, .mv (.t 14), none⟩,
    ⟨some 16, .fad 0 (.t 1), some (15, true)⟩,
    ⟨some 17, .ld (some 1) (.t 16), some (15, true)⟩,
    ⟨some 18, .fad 6 (.t 1), some (15, true)⟩,
    ⟨some 19, .ld (some 4) (.t 18), some (15, true)⟩,
    ⟨some 20, .call 35 [.t 17, .t 19], some (15, true)⟩,
    ⟨some 21, .pick (.t 15) (.t 20) (.c (.bool false)), none⟩,
    ⟨some 22, .mv (.t 21), none⟩,
    ⟨some 23, .fad 10 (.t 1), some (22, true)⟩,
    ⟨some 24, .ld none (.t 23), some (22, true)⟩,
    ⟨some 25, .call 70 [.t 1, .t 24], some (22, true)⟩,
    ⟨some 26, .pick (.t 22) (.t 25) (.c (.bool false)), none⟩,
    ⟨some 27, .mv (.t 26), none⟩,
    ⟨some 28, .fad 11 (.t 1), some (27, true)⟩,
    ⟨some 29, .ld none (.t 28), some (27, true)⟩,
    ⟨some 30, .call 70 [.t 1, .t 29], some (27, true)⟩,
    ⟨some 31, .pick (.t 27) (.t 30) (.c (.bool false)), none⟩,
    ⟨some 2, .mv (.t 31), none⟩] [] [2])
  .ret)), [(2, none)]⟩
theorem impl_StreamOk_ok : okFn Try.prog 25 impl_StreamOk = true := by kernel_rfl
def laws_eqStream : IFn := ⟨41, (.seq (.reg false [⟨some 2, .box (.t 0), none⟩,
    ⟨some 3, .box (.t 1), none⟩,
    ⟨some 4, .mv (.c (.bool false)), none⟩] [] [2, 3])
  (.seq (.seq (.reg false [⟨some 5, .fad 0 (.t 2), none⟩,
    ⟨some 6, .ld (some 1) (.t 5), none⟩,
    ⟨some 7, .fad 0 (.t 3), none⟩,
    ⟨some 8, .ld (some 1) (.t 7), none⟩,
    ⟨some 9, .call 21 [.t 6, .t 8], none⟩,
    ⟨some 10, .not (.t 9), none⟩] [] [2, 3, 10])
  (.cond (.t 10)
  (.seq (.reg false [⟨some 4, .mv (.c (.bool false)), none⟩] [] [4])
  .ret)
  .skip))
  (.seq (.seq (.reg false [⟨some 11, .fad 1 (.t 2), none⟩,
    ⟨some 12, .ld none (.t 11), none⟩,
    ⟨some 13, .fad 1 (.t 3), none⟩,
    ⟨some 14, .ld none (.t 13), none⟩,
    ⟨some 15, .call 47 [.t 12, .t 14], none⟩,
    ⟨some 16, .not (.t 15), none⟩] [] [2, 3, 16])
  (.cond (.t 16)
  (.seq (.reg false [⟨some 4, .mv (.c (.bool false)), none⟩] [] [4])
  .ret)
  .skip))
  (.seq (.seq (.reg false [⟨some 17, .fad 2 (.t 2), none⟩,
    ⟨some 18, .ld (some 4) (.t 17), none⟩,
    ⟨some 19, .fad 2 (.t 3), none⟩,
    ⟨some 20, .ld (some 4) (.t 19), none⟩,
    ⟨some 21, .call 20 [.t 18, .t 20], none⟩,
    ⟨some 22, .not (.t 21), none⟩] [] [2, 3, 22])
  (.cond (.t 22)
  (.seq (.reg false [⟨some 4, .mv (.c (.bool false)), none⟩] [] [4])
  .ret)
  .skip))
  (.seq (.seq (.reg false [⟨some 23, .fad 6 (.t 2), none⟩,
    ⟨some 24, .ld (some 4) (.t 23), none⟩,
    ⟨some 25, .fad 6 (.t 3), none⟩,
    ⟨some 26, .ld (some 4) (.t 25), none⟩,
    ⟨some 27, .call 20 [.t 24, .t 26], none⟩,
    ⟨some 28, .not (.t 27), none⟩] [] [2, 3, 28])
  (.cond (.t 28)
  (.seq (.reg false [⟨some 4, .mv (.c (.bool false)), none⟩] [] [4])
  .ret)
  .skip))
  (.seq (.seq (.reg false [⟨some 29, .fad 10 (.t 2), none⟩,
    ⟨some 30, .ld none (.t 29), none⟩,
    ⟨some 31, .fad 10 (.t 3), none⟩,
    ⟨some 32, .ld none (.t 31), none⟩,
    ⟨some 33, .call 47 [.t 30, .t 32], none⟩,
    ⟨some 34, .not (.t 33), none⟩] [] [2, 3, 34])
  (.cond (.t 34)
  (.seq (.reg false [⟨some 4, .mv (.c (.bool false)), none⟩] [] [4])
  .ret)
  .skip))
  (.seq (.seq (.reg false [⟨some 35, .fad 11 (.t 2), none⟩,
    ⟨some 36, .ld none (.t 35), none⟩,
    ⟨some 37, .fad 11 (.t 3), none⟩,
    ⟨some 38, .ld none (.t 37), none⟩,
    ⟨some 39, .call 47 [.t 36, .t 38], none⟩,
    ⟨some 40, .not (.t 39), none⟩] [] [40])
  (.cond (.t 40)
  (.seq (.reg false [⟨some 4, .mv (.c (.bool false)), none⟩] [] [4])
  .ret)
  .skip))
  (.seq (.reg false [⟨some 4, .mv (.c (.bool true)), none⟩] [] [4])
  .ret)))))))), [(4, none)]⟩
theorem laws_eqStream_ok : okFn Try.prog 26 laws_eqStream = true := by kernel_rfl
def spec_LinkTurn : IFn := ⟨33, (.seq (.reg false [⟨some 2, .box (.t 0), none⟩,
    ⟨some 3, .box (.t 1), none⟩,
    ⟨some 4, .new [.nil], none⟩,
    ⟨some 5, .new [.int .i64 0, .int .i64 0, .int .i64 0, .bool false], none⟩,
    ⟨some 6, .mv (.c (.bool false)), none⟩] [] [2, 3, 4, 5])
  (.seq (.seq (.reg false [⟨some 10, .ld (some 1) (.t 2), none⟩,
    ⟨some 11, .call 71 [.t 10], none⟩,
    ⟨some 12, .not (.t 11), none⟩] [] [2, 3, 4, 5, 12])
  (.cond (.t 12)
  (.seq (.reg true [⟨some 13, .build [.nil] [], none⟩,
    ⟨some 14, .ld (some 4) (.t 3), none⟩,
    ⟨none, .st 1 (.t 4) (.t 13), none⟩,
    ⟨none, .st 4 (.t 5) (.t 14), none⟩,
    ⟨some 6, .mv (.c (.bool false)), none⟩] [0, 0, 1, 7, 15] [4, 5, 6])
  .ret)
  .skip))
  (.seq (.seq (.reg false [⟨some 15, .ld (some 1) (.t 2), none⟩,
    ⟨some 16, .ld (some 4) (.t 3), none⟩,
    ⟨some 17, .call 67 [.t 15, .t 16], none⟩,
    ⟨some 18, .not (.t 17), none⟩] [] [2, 3, 4, 5, 18])
  (.cond (.t 18)
  (.seq (.reg true [⟨some 19, .ld (some 1) (.t 2), none⟩,
    ⟨some 20, .call 72 [.t 19], none⟩,
    ⟨some 21, .ld (some 4) (.t 3), none⟩,
    ⟨none, .st 1 (.t 4) (.t 20), none⟩,
    ⟨none, .st 4 (.t 5) (.t 21), none⟩,
    ⟨some 6, .mv (.c (.bool false)), none⟩] [0, 1, 0, 3, 15, 31] [4, 5, 6])
  .ret)
  .skip))
  (.seq (.reg false [⟨some 23, .ld (some 1) (.t 2), none⟩,
    ⟨some 24, .ld (some 4) (.t 3), none⟩,
    ⟨some 25, .call 73 [.t 23, .t 24], none⟩,
    ⟨some 22, .mv (.t 25), none⟩,
    ⟨some 26, .ext (.t 22) 0, none⟩,
    ⟨some 27, .ext (.t 22) 1, none⟩,
    ⟨some 28, .ext (.t 22) 2, none⟩,
    ⟨some 7, .new [.nil], none⟩,
    ⟨some 8, .new [.int .i64 0, .int .i64 0, .int .i64 0, .bool false], none⟩,
    ⟨none, .st 1 (.t 7) (.t 26), none⟩,
    ⟨none, .st 4 (.t 8) (.t 27), none⟩,
    ⟨some 9, .mv (.t 28), none⟩] [] [4, 5, 7, 8, 9])
  (.seq (.reg true [⟨some 29, .ld (some 1) (.t 7), none⟩,
    ⟨some 30, .call 72 [.t 29], none⟩,
    ⟨some 31, .ld (some 4) (.t 8), none⟩,
    ⟨some 32, .mv (.t 9), none⟩,
    ⟨none, .st 1 (.t 4) (.t 30), none⟩,
    ⟨none, .st 4 (.t 5) (.t 31), none⟩,
    ⟨some 6, .mv (.t 32), none⟩] [0, 1, 0, 0, 3, 23, 63] [4, 5, 6])
  .ret))))), [(4, some (some 1)), (5, some (some 4)), (6, none)]⟩
theorem spec_LinkTurn_ok : okFn Try.prog 27 spec_LinkTurn = true := by kernel_rfl
def impl_LinkTurn : IFn := ⟨42, (.seq (.reg false [⟨some 2, .box (.t 0), none⟩,
    ⟨some 3, .box (.t 1), none⟩,
    ⟨some 4, .new [.nil], none⟩,
    ⟨some 5, .new [.int .i64 0, .int .i64 0, .int .i64 0, .bool false], none⟩,
    ⟨some 6, .mv (.c (.bool false)), none⟩] [] [2, 3, 4, 5])
  (.seq (.seq (.reg false [⟨some 9, .fad 3 (.t 3), none⟩,
    ⟨some 10, .ld none (.t 9), none⟩,
    ⟨some 11, .mv (.t 10), none⟩,
    ⟨some 12, .fad 1 (.t 3), some (11, false)⟩,
    ⟨some 13, .ld none (.t 12), some (11, false)⟩,
    ⟨some 14, .bin .eql (.t 13) (.c (.int .i64 20)), some (11, false)⟩,
    ⟨some 15, .pick (.t 11) (.c (.bool true)) (.t 14), none⟩,
    ⟨some 16, .mv (.t 15), none⟩,
    ⟨some 17, .ld (some 1) (.t 2), some (16, false)⟩,
    ⟨some 18, .ld (some 4) (.t 3), some (16, false)⟩,
    ⟨some 19, .call 35 [.t 17, .t 18], some (16, false)⟩,
    ⟨some 20, .not (.t 19), some (16, false)⟩,
    ⟨some 21, .pick (.t 16) (.c (.bool true)) (.t 20), none⟩] [] [2, 3, 4, 5, 21])
  (.cond (.t 21)
  (.seq (.reg true [⟨some 22, .ld (some 1) (.t 2), none⟩,
    ⟨some 23, .call 74 [.t 22], none⟩,
    ⟨some 24, .ld (some 4) (.t 3), none⟩,
    ⟨none, .st 1 (.t 4) (.t 23), none⟩,
    ⟨none, .st 4 (.t 5) (.t 24), none⟩,
    ⟨some 6, .mv (.c (.bool false)), none⟩] [0, 1, 0, 3, 15, 31] [4, 5, 6])
  .ret)
  .skip))
  (.seq (.reg false [⟨some 25, .ld (some 1) (.t 2), none⟩,
    ⟨some 26, .call 75 [.t 25], none⟩,
    ⟨some 7, .new [.nil], none⟩,
    ⟨none, .st 1 (.t 7) (.t 26), none⟩] [] [2, 3, 4, 5, 7])
  (.seq (.reg true [⟨some 27, .fad 0 (.t 3), none⟩,
    ⟨some 28, .ld none (.t 27), none⟩,
    ⟨some 29, .call 77 [.t 7, .c (.int .i64 7)], none⟩,
    ⟨some 30, .call 76 [.t 7, .c (.int .i64 6), .t 28, .t 29], none⟩,
    ⟨some 8, .mv (.t 30), none⟩] [0, 1, 0, 7, 15] [2, 3, 4, 5, 7, 8])
  (.seq (.seq (.reg false [⟨some 31, .mv (.t 8), none⟩,
    ⟨some 32, .bin .lss (.t 31) (.c (.int .i64 0)), none⟩] [] [2, 3, 4, 5, 7, 8, 32])
  (.cond (.t 32)
  (.seq (.reg true [⟨some 33, .ld (some 1) (.t 2), none⟩,
    ⟨some 34, .call 75 [.t 33], none⟩,
    ⟨some 35, .ld (some 4) (.t 3), none⟩,
    ⟨none, .st 1 (.t 4) (.t 34), none⟩,
    ⟨none, .st 4 (.t 5) (.t 35), none⟩,
    ⟨some 6, .mv (.c (.bool false)), none⟩] [0, 1, 0, 3, 15, 31] [4, 5, 6])
  .ret)
  .skip))
  (.seq (.reg true [⟨some 36, .ld (some 1) (.t 7), none⟩,
    ⟨some 37, .mv (.t 8), none⟩,
    ⟨some 38, .fad 1 (.t 3), none⟩,
    ⟨some 39, .ld none (.t 38), none⟩,
    ⟨some 40, .bin .add (.t 39) (.c (.int .i64 1)), none⟩,
    ⟨some 41, .build [.int .i64 0, .int .i64 0, .int .i64 0, .bool false] [(0, 1, .t 37), (1, 1, .t 40)], none⟩,
    ⟨none, .st 1 (.t 4) (.t 36), none⟩,
    ⟨none, .st 4 (.t 5) (.t 41), none⟩,
    ⟨some 6, .mv (.c (.bool true)), none⟩] [0, 0, 0, 4, 12, 30, 1, 127, 255] [4, 5, 6])
  .ret)))))), [(4, some (some 1)), (5, some (some 4)), (6, none)]⟩
theorem impl_LinkTurn_ok : okFn Try.prog 28 impl_LinkTurn = true := by kernel_rfl
def laws_markPool : IFn := ⟨10, (.seq (.reg false [⟨some 2, .box (.t 0), none⟩,
    ⟨some 4, .mv (.c (.int .i64 0)), none⟩] [] [1, 2])
  (.seq (.reg false [⟨some 5, .fad 0 (.t 2), none⟩,
    ⟨some 6, .ld none (.t 5), none⟩,
    ⟨some 7, .mv (.t 1), none⟩,
    ⟨some 8, .call 78 [.t 6, .t 7], none⟩,
    ⟨some 1, .mv (.t 8), none⟩] [] [1])
  (.seq (.reg false [⟨some 9, .mv (.t 1), none⟩,
    ⟨some 4, .mv (.t 9), none⟩] [] [4])
  .ret))), [(4, none)]⟩
theorem laws_markPool_ok : okFn Try.prog 29 laws_markPool = true := by kernel_rfl
def laws_heldPool : IFn := ⟨12, (.seq (.reg false [⟨some 2, .box (.t 0), none⟩,
    ⟨some 4, .mv (.c (.int .i64 0)), none⟩] [] [1, 2])
  (.seq (.reg false [⟨some 5, .fad 0 (.t 2), none⟩,
    ⟨some 6, .ld none (.t 5), none⟩,
    ⟨some 7, .mv (.t 1), none⟩,
    ⟨some 8, .call 79 [.t 6, .t 7], none⟩,
    ⟨some 1, .mv (.t 8), none⟩] [] [1])
  (.seq (.seq (.reg false [⟨some 9, .mv (.t 1), none⟩,
    ⟨some 10, .bin .lss (.t 9) (.c (.int .i64 0)), none⟩] [] [1, 10])
  (.cond (.t 10)
  (.seq (.reg false [⟨some 4, .mv (.c (.int .i64 (-1))), none⟩] [] [4])
  .ret)
  .skip))
  (.seq (.reg false [⟨some 11, .mv (.t 1), none⟩,
    ⟨some 4, .mv (.t 11), none⟩] [] [4])
  .ret)))), [(4, none)]⟩
theorem laws_heldPool_ok : okFn Try.prog 30 laws_heldPool = true := by kernel_rfl
def spec_LinkSend : IFn := ⟨36, (.seq (.reg false [⟨some 3, .box (.t 0), none⟩,
    ⟨some 4, .box (.t 1), none⟩,
    ⟨some 6, .new [.nil], none⟩,
    ⟨some 7, .new [.int .i64 0, .int .i64 0, .int .i64 0, .bool false], none⟩,
    ⟨some 8, .mv (.c (.int .i64 0)), none⟩] [] [2, 3, 4, 6, 7])
  (.seq (.seq (.reg false [⟨some 12, .ld (some 1) (.t 3), none⟩,
    ⟨some 13, .call 71 [.t 12], none⟩,
    ⟨some 14, .not (.t 13), none⟩] [] [2, 3, 4, 6, 7, 14])
  (.cond (.t 14)
  (.seq (.reg true [⟨some 15, .build [.nil] [], none⟩,
    ⟨some 16, .ld (some 4) (.t 4), none⟩,
    ⟨none, .st 1 (.t 6) (.t 15), none⟩,
    ⟨none, .st 4 (.t 7) (.t 16), none⟩,
    ⟨some 8, .mv (.c (.int .i64 (-1))), none⟩] [0, 0, 1, 7, 15] [6, 7, 8])
  .ret)
  .skip))
  (.seq (.seq (.reg false [⟨some 17, .ld (some 1) (.t 3), none⟩,
    ⟨some 18, .ld (some 4) (.t 4), none⟩,
    ⟨some 19, .call 67 [.t 17, .t 18], none⟩,
    ⟨some 20, .not (.t 19), none⟩] [] [2, 3, 4, 6, 7, 20])
  (.cond (.t 20)
  (.seq (.reg true [⟨some 21, .ld (some 1) (.t 3), none⟩,
    ⟨some 22, .call 72 [.t 21], none⟩,
    ⟨some 23, .ld (some 4) (.t 4), none⟩,
    ⟨none, .st 1 (.t 6) (.t 22), none⟩,
    ⟨none, .st 4 (.t 7) (.t 23), none⟩,
    ⟨some 8, .mv (.c (.int .i64 (-1))), none⟩] [0, 1, 0, 3, 15, 31] [6, 7, 8])
  .ret)
  .skip))
  (.seq (.reg false [⟨some 25, .ld (some 1) (.t 3), none⟩,
    ⟨some 26, .ld (some 4) (.t 4), none⟩,
    ⟨some 27, .mv (.t 2), none⟩,
    ⟨some 28, .call 80 [.t 25, .t 26, .t 27], none⟩,
    ⟨some 24, .mv (.t 28), none⟩,
    ⟨some 29, .ext (.t 24) 0, none⟩,
    ⟨some 30, .ext (.t 24) 1, none⟩,
    ⟨some 31, .ext (.t 24) 2, none⟩,
    ⟨some 9, .new [.nil], none⟩,
    ⟨some 10, .new [.int .i64 0, .int .i64 0, .int .i64 0, .bool false], none⟩,
    ⟨none, .st 1 (.t 9) (.t 29), none⟩,
    ⟨none, .st 4 (.t 10) (.t 30), none⟩,
    ⟨some 11, .mv (.t 31), none⟩] [] [6, 7, 9, 10, 11])
  (.seq (.reg true [⟨some 32, .ld (some 1) (.t 9), none⟩,
    ⟨some 33, .call 72 [.t 32], none⟩,
    ⟨some 34, .ld (some 4) (.t 10), none⟩,
    ⟨some 35, .mv (.t 11), none⟩,
    ⟨none, .st 1 (.t 6) (.t 33), none⟩,
    ⟨none, .st 4 (.t 7) (.t 34), none⟩,
    ⟨some 8, .mv (.t 35), none⟩] [0, 1, 0, 0, 3, 23, 63] [6, 7, 8])
  .ret))))), [(6, some (some 1)), (7, some (some 4)), (8, none)]⟩
theorem spec_LinkSend_ok : okFn Try.prog 31 spec_LinkSend = true := by kernel_rfl
def impl_LinkSend : IFn := ⟨52, (.seq (.reg false [⟨some 3, .box (.t 0), none⟩,
    ⟨some 4, .box (.t 1), none⟩,
    ⟨some 6, .new [.nil], none⟩,
    ⟨some 7, .new [.int .i64 0, .int .i64 0, .int .i64 0, .bool false], none⟩,
    ⟨some 8, .mv (.c (.int .i64 0)), none⟩] [] [2, 3, 4, 6, 7])
  (.seq (.seq (.reg false [⟨some 11, .mv (.t 2), none⟩,
    ⟨some 12, .call 62 [.t 3, .t 11], none⟩,
    ⟨some 13, .not (.t 12), none⟩,
    ⟨some 14, .mv (.t 13), none⟩,
    ⟨some 15, .fad 3 (.t 4), some (14, false)⟩,
    ⟨some 16, .ld none (.t 15), some (14, false)⟩,
    ⟨some 17, .pick (.t 14) (.c (.bool true)) (.t 16), none⟩,
    ⟨some 18, .mv (.t 17), none⟩,
    ⟨some 19, .fad 2 (.t 4), some (18, false)⟩,
    ⟨some 20, .ld none (.t 19), some (18, false)⟩,
    ⟨some 21, .bin .eql (.t 20) (.c (.int .i64 20)), some (18, false)⟩,
    ⟨some 22, .pick (.t 18) (.c (.bool true)) (.t 21), none⟩,
    ⟨some 23, .mv (.t 22), none⟩,
    ⟨some 24, .ld (some 1) (.t 3), some (23, false)⟩,
    ⟨some 25, .ld (some 4) (.t 4), some (23, false)⟩,
    ⟨some 26, .call 35 [.t 24, .t 25], some (23, false)⟩,
    ⟨some 27, .not (.t 26), some (23, false)⟩,
    ⟨some 28, .pick (.t 23) (.c (.bool true)) (.t 27), none⟩,
    ⟨some 29, .mv (.t 28), none⟩,
    ⟨some 30, .mv (.t 2), some (29, false)⟩,
    ⟨some 31, .call 63 [.t 3, .t 30, .c (.int .i64 8)], some (29, false)⟩,
    ⟨some 32, .pick (.t 29) (.c (.bool true)) (.t 31), none⟩] [] [2, 3, 4, 6, 7, 32])
  (.cond (.t 32)
  (.seq (.reg true [⟨some 33, .ld (some 1) (.t 3), none⟩,
    ⟨some 34, .call 74 [.t 33], none⟩,
    ⟨some 35, .ld (some 4) (.t 4), none⟩,
    ⟨none, .st 1 (.t 6) (.t 34), none⟩,
    ⟨none, .st 4 (.t 7) (.t 35), none⟩,
    ⟨some 8, .mv (.c (.int .i64 (-1))), none⟩] [0, 1, 0, 3, 15, 31] [6, 7, 8])
  .ret)
  .skip))
  (.seq (.reg false [⟨some 36, .ld (some 1) (.t 3), none⟩,
    ⟨some 37, .call 75 [.t 36], none⟩,
    ⟨some 9, .new [.nil], none⟩,
    ⟨none, .st 1 (.t 9) (.t 37), none⟩] [] [2, 3, 4, 6, 7, 9])
  (.seq (.reg false [⟨some 38, .mv (.t 2), none⟩,
    ⟨some 39, .call 81 [.t 4, .t 9, .t 38], none⟩,
    ⟨some 10, .mv (.t 39), none⟩] [] [3, 4, 6, 7, 9, 10])
  (.seq (.seq (.reg false [⟨some 40, .mv (.t 10), none⟩,
    ⟨some 41, .bin .lss (.t 40) (.c (.int .i64 0)), none⟩] [] [3, 4, 6, 7, 9, 10, 41])
  (.cond (.t 41)
  (.seq (.reg true [⟨some 42, .ld (some 1) (.t 3), none⟩,
    ⟨some 43, .call 75 [.t 42], none⟩,
    ⟨some 44, .ld (some 4) (.t 4), none⟩,
    ⟨none, .st 1 (.t 6) (.t 43), none⟩,
    ⟨none, .st 4 (.t 7) (.t 44), none⟩,
    ⟨some 8, .mv (.c (.int .i64 (-1))), none⟩] [0, 1, 0, 3, 15, 31] [6, 7, 8])
  .ret)
  .skip))
  (.seq (.reg false [⟨some 45, .fad 2 (.t 4), none⟩,
    ⟨some 46, .ld none (.t 45), none⟩,
    ⟨some 47, .bin .add (.t 46) (.c (.int .i64 1)), none⟩,
    ⟨some 48, .fad 2 (.t 4), none⟩,
    ⟨none, .st 1 (.t 48) (.t 47), none⟩] [] [4, 6, 7, 9, 10])
  (.seq (.reg true [⟨some 49, .ld (some 1) (.t 9), none⟩,
    ⟨some 50, .ld (some 4) (.t 4), none⟩,
    ⟨some 51, .mv (.t 10), none⟩,
    ⟨none, .st 1 (.t 6) (.t 49), none⟩,
    ⟨none, .st 4 (.t 7) (.t 50), none⟩,
    ⟨some 8, .mv (.t 51), none⟩] [0, 0, 0, 1, 11, 31] [6, 7, 8])
  .ret))))))), [(6, some (some 1)), (7, some (some 4)), (8, none)]⟩
theorem impl_LinkSend_ok : okFn Try.prog 32 impl_LinkSend = true := by kernel_rfl
def laws_big : IFn := ⟨6, (.seq (.reg false [⟨some 2, .mv (.c (.bool false)), none⟩] [] [0])
  (.seq (.reg false [⟨some 3, .mv (.t 0), none⟩,
    ⟨some 4, .len false (.t 3), none⟩,
    ⟨some 5, .bin .gtr (.t 4) (.c (.int .i64 1048576)), none⟩,
    ⟨some 2, .mv (.t 5), none⟩] [] [2])
  .ret)), [(2, none)]⟩
theorem laws_big_ok : okFn Try.prog 33 laws_big = true := by kernel_rfl
def spec_DrawLinkSend : IFn := ⟨17, (.seq (.reg false [⟨some 2, .new [.nil], none⟩,
    ⟨some 3, .new [.int .i64 0, .int .i64 0, .int .i64 0, .bool false], none⟩,
    ⟨some 4, .mv (.c (.int .i64 0)), none⟩] [] [0, 2, 3])
  (.seq (.reg false [⟨some 9, .mv (.t 0), none⟩,
    ⟨some 10, .call 82 [.t 9], none⟩,
    ⟨some 8, .mv (.t 10), none⟩,
    ⟨some 11, .ext (.t 8) 0, none⟩,
    ⟨some 12, .ext (.t 8) 1, none⟩,
    ⟨some 13, .ext (.t 8) 2, none⟩,
    ⟨some 5, .new [.nil], none⟩,
    ⟨some 6, .new [.int .i64 0, .int .i64 0, .int .i64 0, .bool false], none⟩,
    ⟨none, .st 1 (.t 5) (.t 11), none⟩,
    ⟨none, .st 4 (.t 6) (.t 12), none⟩,
    ⟨some 7, .mv (.t 13), none⟩] [] [2, 3, 5, 6, 7])
  (.seq (.reg true [⟨some 14, .ld (some 1) (.t 5), none⟩,
    ⟨some 15, .ld (some 4) (.t 6), none⟩,
    ⟨some 16, .mv (.t 7), none⟩,
    ⟨none, .st 1 (.t 2) (.t 14), none⟩,
    ⟨none, .st 4 (.t 3) (.t 15), none⟩,
    ⟨some 4, .mv (.t 16), none⟩] [0, 0, 0, 1, 11, 31] [2, 3, 4])
  .ret))), [(2, some (some 1)), (3, some (some 4)), (4, none)]⟩
theorem spec_DrawLinkSend_ok : okFn Try.prog 34 spec_DrawLinkSend = true := by kernel_rfl
def impl_LinkOk : IFn := ⟨22, (.seq (.reg false [⟨some 2, .box (.t 0), none⟩,
    ⟨some 3, .box (.t 1), none⟩,
    ⟨some 4, .mv (.c (.bool false)), none⟩] [] [2, 3])
  (.seq (.reg false [⟨some 5, .fad 0 (.t 3), none⟩,
    ⟨some 6, .ld none (.t 5), none⟩,
    ⟨some 7, .call 62 [.t 2, .t 6], none⟩,
    ⟨some 8, .mv (.t 7), none⟩,
    ⟨some 9, .fad 1 (.t 3), some (8, true)⟩,
    ⟨some 10, .ld none (.t 9), some (8, true)⟩,
    ⟨some 11, .call 83 [.t 10, .c (.int .i64 0), .c (.int .i64 20)], some (8, true)⟩,
    ⟨some 12, .pick (.t 8) (.t 11) (.c (.bool false)), none⟩,
    ⟨some 13, .mv (.t 12), none⟩,
    ⟨some 14, .fad 2 (.t 3), some (13, true)⟩,
    ⟨some 15, .ld none (.t 14), some (13, true)⟩,
    ⟨some 16, .call 83 [.t 15, .c (.int .i64 0), .c (.int .i64 20)], some (13, true)⟩,
    ⟨some 17, .pick (.t 13) (.t 16) (.c (.bool false)), none⟩,
    ⟨some 18, .mv (.t 17), none⟩,
    ⟨some 19, .ld (some 1) (.t 2), some (18, true)⟩,
    ⟨some 20, .call 84 [.t 19], some (18, true)⟩,
    ⟨some 21, .pick (.t 18) (.t 20) (.c (.bool false)), none⟩,
    ⟨some 4, .mv (.t 21), none⟩] [] [4])
  .ret)), [(4, none)]⟩
theorem impl_LinkOk_ok : okFn Try.prog 35 impl_LinkOk = true := by kernel_rfl
def spec_LinkEnd : IFn := ⟨33, (.seq (.reg false [⟨some 2, .box (.t 0), none⟩,
    ⟨some 3, .box (.t 1), none⟩,
    ⟨some 4, .new [.nil], none⟩,
    ⟨some 5, .new [.int .i64 0, .int .i64 0, .int .i64 0, .bool false], none⟩,
    ⟨some 6, .mv (.c (.int .i64 0)), none⟩] [] [2, 3, 4, 5])
  (.seq (.seq (.reg false [⟨some 10, .ld (some 1) (.t 2), none⟩,
    ⟨some 11, .call 71 [.t 10], none⟩,
    ⟨some 12, .not (.t 11), none⟩] [] [2, 3, 4, 5, 12])
  (.cond (.t 12)
  (.seq (.reg true [⟨some 13, .build [.nil] [], none⟩,
    ⟨some 14, .ld (some 4) (.t 3), none⟩,
    ⟨none, .st 1 (.t 4) (.t 13), none⟩,
    ⟨none, .st 4 (.t 5) (.t 14), none⟩,
    ⟨some 6, .mv (.c (.int .i64 (-1))), none⟩] [0, 0, 1, 7, 15] [4, 5, 6])
  .ret)
  .skip))
  (.seq (.seq (.reg false [⟨some 15, .ld (some 1) (.t 2), none⟩,
    ⟨some 16, .ld (some 4) (.t 3), none⟩,
    ⟨some 17, .call 67 [.t 15, .t 16], none⟩,
    ⟨some 18, .not (.t 17), none⟩] [] [2, 3, 4, 5, 18])
  (.cond (.t 18)
  (.seq (.reg true [⟨some 19, .ld (some 1) (.t 2), none⟩,
    ⟨some 20, .call 72 [.t 19], none⟩,
    ⟨some 21, .ld (some 4) (.t 3), none⟩,
    ⟨none, .st 1 (.t 4) (.t 20), none⟩,
    ⟨none, .st 4 (.t 5) (.t 21), none⟩,
    ⟨some 6, .mv (.c (.int .i64 (-1))), none⟩] [0, 1, 0, 3, 15, 31] [4, 5, 6])
  .ret)
  .skip))
  (.seq (.reg false [⟨some 23, .ld (some 1) (.t 2), none⟩,
    ⟨some 24, .ld (some 4) (.t 3), none⟩,
    ⟨some 25, .call 85 [.t 23, .t 24], none⟩,
    ⟨some 22, .mv (.t 25), none⟩,
    ⟨some 26, .ext (.t 22) 0, none⟩,
    ⟨some 27, .ext (.t 22) 1, none⟩,
    ⟨some 28, .ext (.t 22) 2, none⟩,
    ⟨some 7, .new [.nil], none⟩,
    ⟨some 8, .new [.int .i64 0, .int .i64 0, .int .i64 0, .bool false], none⟩,
    ⟨none, .st 1 (.t 7) (.t 26), none⟩,
    ⟨none, .st 4 (.t 8) (.t 27), none⟩,
    ⟨some 9, .mv (.t 28), none⟩] [] [4, 5, 7, 8, 9])
  (.seq (.reg true [⟨some 29, .ld (some 1) (.t 7), none⟩,
    ⟨some 30, .call 72 [.t 29], none⟩,
    ⟨some 31, .ld (some 4) (.t 8), none⟩,
    ⟨some 32, .mv (.t 9), none⟩,
    ⟨none, .st 1 (.t 4) (.t 30), none⟩,
    ⟨none, .st 4 (.t 5) (.t 31), none⟩,
    ⟨some 6, .mv (.t 32), none⟩] [0, 1, 0, 0, 3, 23, 63] [4, 5, 6])
  .ret))))), [(4, some (some 1)), (5, some (some 4)), (6, none)]⟩
theorem spec_LinkEnd_ok : okFn Try.prog 36 spec_LinkEnd = true := by kernel_rfl
def impl_LinkEnd : IFn := ⟨37, (.seq (.reg false [⟨some 2, .box (.t 0), none⟩,
    ⟨some 3, .box (.t 1), none⟩,
    ⟨some 4, .new [.nil], none⟩,
    ⟨some 5, .new [.int .i64 0, .int .i64 0, .int .i64 0, .bool false], none⟩,
    ⟨some 6, .mv (.c (.int .i64 0)), none⟩] [] [2, 3, 4, 5])
  (.seq (.seq (.reg false [⟨some 9, .fad 3 (.t 3), none⟩,
    ⟨some 10, .ld none (.t 9), none⟩,
    ⟨some 11, .mv (.t 10), none⟩,
    ⟨some 12, .fad 2 (.t 3), some (11, false)⟩,
    ⟨some 13, .ld none (.t 12), some (11, false)⟩,
    ⟨some 14, .bin .eql (.t 13) (.c (.int .i64 20)), some (11, false)⟩,
    ⟨some 15, .pick (.t 11) (.c (.bool true)) (.t 14), none⟩,
    ⟨some 16, .mv (.t 15), none⟩,
    ⟨some 17, .ld (some 1) (.t 2), some (16, false)⟩,
    ⟨some 18, .ld (some 4) (.t 3), some (16, false)⟩,
    ⟨some 19, .call 35 [.t 17, .t 18], some (16, false)⟩,
    ⟨some 20, .not (.t 19), some (16, false)⟩,
    ⟨some 21, .pick (.t 16) (.c (.bool true)) (.t 20), none⟩] [] [2, 3, 4, 5, 21])
  (.cond (.t 21)
  (.seq (.reg true [⟨some 22, .ld (some 1) (.t 2), none⟩,
    ⟨some 23, .call 74 [.t 22], none⟩,
    ⟨some 24, .ld (some 4) (.t 3), none⟩,
    ⟨none, .st 1 (.t 4) (.t 23), none⟩,
    ⟨none, .st 4 (.t 5) (.t 24), none⟩,
    ⟨some 6, .mv (.c (.int .i64 (-1))), none⟩] [0, 1, 0, 3, 15, 31] [4, 5, 6])
  .ret)
  .skip))
  (.seq (.reg false [⟨some 25, .ld (some 1) (.t 2), none⟩,
    ⟨some 26, .call 75 [.t 25], none⟩,
    ⟨some 7, .new [.nil], none⟩,
    ⟨none, .st 1 (.t 7) (.t 26), none⟩] [] [2, 3, 4, 5, 7])
  (.seq (.reg false [⟨some 27, .call 86 [.t 3, .t 7], none⟩,
    ⟨some 8, .mv (.t 27), none⟩] [] [2, 3, 4, 5, 7, 8])
  (.seq (.seq (.reg false [⟨some 28, .mv (.t 8), none⟩,
    ⟨some 29, .bin .lss (.t 28) (.c (.int .i64 0)), none⟩] [] [2, 3, 4, 5, 7, 8, 29])
  (.cond (.t 29)
  (.seq (.reg true [⟨some 30, .ld (some 1) (.t 2), none⟩,
    ⟨some 31, .call 75 [.t 30], none⟩,
    ⟨some 32, .ld (some 4) (.t 3), none⟩,
    ⟨none, .st 1 (.t 4) (.t 31), none⟩,
    ⟨none, .st 4 (.t 5) (.t 32), none⟩,
    ⟨some 6, .mv (.c (.int .i64 (-1))), none⟩] [0, 1, 0, 3, 15, 31] [4, 5, 6])
  .ret)
  .skip))
  (.seq (.reg false [⟨some 33, .fad 3 (.t 3), none⟩,
    ⟨none, .st 1 (.t 33) (.c (.bool true)), none⟩] [] [3, 4, 5, 7, 8])
  (.seq (.reg true [⟨some 34, .ld (some 1) (.t 7), none⟩,
    ⟨some 35, .ld (some 4) (.t 3), none⟩,
    ⟨some 36, .mv (.t 8), none⟩,
    ⟨none, .st 1 (.t 4) (.t 34), none⟩,
    ⟨none, .st 4 (.t 5) (.t 35), none⟩,
    ⟨some 6, .mv (.t 36), none⟩] [0, 0, 0, 1, 11, 31] [4, 5, 6])
  .ret))))))), [(4, some (some 1)), (5, some (some 4)), (6, none)]⟩
theorem impl_LinkEnd_ok : okFn Try.prog 37 impl_LinkEnd = true := by kernel_rfl
def spec_DrawStreamNew : IFn := ⟨17, (.seq (.reg false [⟨some 2, .new [.nil], none⟩,
    ⟨some 3, .mv (.c (.nil)), none⟩,
    ⟨some 4, .mv (.c (.int .i64 0)), none⟩] [] [0, 2])
  (.seq (.reg false [⟨some 9, .mv (.t 0), none⟩,
    ⟨some 10, .call 87 [.t 9], none⟩,
    ⟨some 8, .mv (.t 10), none⟩,
    ⟨some 11, .ext (.t 8) 0, none⟩,
    ⟨some 12, .ext (.t 8) 1, none⟩,
    ⟨some 13, .ext (.t 8) 2, none⟩,
    ⟨some 5, .new [.nil], none⟩,
    ⟨none, .st 1 (.t 5) (.t 11), none⟩,
    ⟨some 6, .mv (.t 12), none⟩,
    ⟨some 7, .mv (.t 13), none⟩] [] [2, 5, 6, 7])
  (.seq (.reg false [⟨some 14, .ld (some 1) (.t 5), none⟩,
    ⟨some 15, .mv (.t 6), none⟩,
    ⟨some 16, .mv (.t 7), none⟩,
    ⟨none, .st 1 (.t 2) (.t 14), none⟩,
    ⟨some 3, .mv (.t 15), none⟩,
    ⟨some 4, .mv (.t 16), none⟩] [] [2, 3, 4])
  .ret))), [(2, some (some 1)), (3, none), (4, none)]⟩
theorem spec_DrawStreamNew_ok : okFn Try.prog 38 spec_DrawStreamNew = true := by kernel_rfl
def impl_StreamNew : IFn := ⟨23, (.seq (.reg false [⟨some 3, .box (.t 0), none⟩,
    ⟨some 6, .new [.nil, .nil, .int .i64 0, .int .i64 0, .int .i64 0, .bool false, .int .i64 0, .int .i64 0, .int .i64 0, .bool false, .nil, .nil], none⟩,
    ⟨some 7, .mv (.c (.bool false)), none⟩] [] [1, 2, 3, 6])
  (.seq (.reg false [⟨some 10, .mv (.t 2), none⟩,
    ⟨some 11, .build [.int .i64 0, .int .i64 0, .int .i64 0, .bool false] [(0, 1, .t 10)], none⟩,
    ⟨some 8, .new [.int .i64 0, .int .i64 0, .int .i64 0, .bool false], none⟩,
    ⟨none, .st 4 (.t 8) (.t 11), none⟩] [] [1, 3, 6, 8])
  (.seq (.reg false [⟨some 12, .ld (some 1) (.t 3), none⟩,
    ⟨some 13, .mv (.t 1), none⟩,
    ⟨some 14, .ld (some 4) (.t 8), none⟩,
    ⟨some 15, .ld (some 4) (.t 8), none⟩,
    ⟨some 16, .build [.nil, .nil, .int .i64 0, .int .i64 0, .int .i64 0, .bool false, .int .i64 0, .int .i64 0, .int .i64 0, .bool false, .nil, .nil] [(0, 1, .t 12), (1, 1, .t 13), (2, 4, .t 14), (6, 4, .t 15)], none⟩,
    ⟨some 9, .new [.nil, .nil, .int .i64 0, .int .i64 0, .int .i64 0, .bool false, .int .i64 0, .int .i64 0, .int .i64 0, .bool false, .nil, .nil], none⟩,
    ⟨none, .st 12 (.t 9) (.t 16), none⟩] [] [6, 9])
  (.seq (.seq (.reg false [⟨some 17, .ld (some 12) (.t 9), none⟩,
    ⟨some 18, .call 25 [.t 17], none⟩,
    ⟨some 19, .not (.t 18), none⟩] [] [6, 9, 19])
  (.cond (.t 19)
  (.seq (.reg false [⟨some 20, .build [.nil, .nil, .int .i64 0, .int .i64 0, .int .i64 0, .bool false, .int .i64 0, .int .i64 0, .int .i64 0, .bool false, .nil, .nil] [], none⟩,
    ⟨none, .st 12 (.t 6) (.t 20), none⟩,
    ⟨some 7, .mv (.c (.bool false)), none⟩] [] [6, 7])
  .ret)
  .skip))
  (.seq (.reg false [⟨some 21, .ld (some 12) (.t 9), none⟩,
    ⟨some 22, .call 88 [.t 21], none⟩,
    ⟨none, .st 12 (.t 6) (.t 22), none⟩,
    ⟨some 7, .mv (.c (.bool true)), none⟩] [] [6, 7])
  .ret))))), [(6, some (some 12)), (7, none)]⟩
theorem impl_StreamNew_ok : okFn Try.prog 39 impl_StreamNew = true := by kernel_rfl
def spec_StreamNew : IFn := ⟨22, (.seq (.reg false [⟨some 3, .box (.t 0), none⟩,
    ⟨some 6, .new [.nil, .nil, .int .i64 0, .int .i64 0, .int .i64 0, .bool false, .int .i64 0, .int .i64 0, .int .i64 0, .bool false, .nil, .nil], none⟩,
    ⟨some 7, .mv (.c (.bool false)), none⟩] [] [1, 2, 3, 6])
  (.seq (.reg false [⟨some 9, .ld (some 1) (.t 3), none⟩,
    ⟨some 10, .mv (.t 1), none⟩,
    ⟨some 11, .mv (.t 2), none⟩,
    ⟨some 12, .build [.int .i64 0, .int .i64 0, .int .i64 0, .bool false] [(0, 1, .t 11)], none⟩,
    ⟨some 13, .mv (.t 2), none⟩,
    ⟨some 14, .build [.int .i64 0, .int .i64 0, .int .i64 0, .bool false] [(0, 1, .t 13)], none⟩,
    ⟨some 15, .build [.nil, .nil, .int .i64 0, .int .i64 0, .int .i64 0, .bool false, .int .i64 0, .int .i64 0, .int .i64 0, .bool false, .nil, .nil] [(0, 1, .t 9), (1, 1, .t 10), (2, 4, .t 12), (6, 4, .t 14)], none⟩,
    ⟨some 8, .new [.nil, .nil, .int .i64 0, .int .i64 0, .int .i64 0, .bool false, .int .i64 0, .int .i64 0, .int .i64 0, .bool false, .nil, .nil], none⟩,
    ⟨none, .st 12 (.t 8) (.t 15), none⟩] [] [6, 8])
  (.seq (.seq (.reg false [⟨some 16, .ld (some 12) (.t 8), none⟩,
    ⟨some 17, .call 23 [.t 16], none⟩,
    ⟨some 18, .not (.t 17), none⟩] [] [6, 8, 18])
  (.cond (.t 18)
  (.seq (.reg false [⟨some 19, .build [.nil, .nil, .int .i64 0, .int .i64 0, .int .i64 0, .bool false, .int .i64 0, .int .i64 0, .int .i64 0, .bool false, .nil, .nil] [], none⟩,
    ⟨none, .st 12 (.t 6) (.t 19), none⟩,
    ⟨some 7, .mv (.c (.bool false)), none⟩] [] [6, 7])
  .ret)
  .skip))
  (.seq (.reg false [⟨some 20, .ld (some 12) (.t 8), none⟩,
    ⟨some 21, .call 89 [.t 20], none⟩,
    ⟨none, .st 12 (.t 6) (.t 21), none⟩,
    ⟨some 7, .mv (.c (.bool true)), none⟩] [] [6, 7])
  .ret)))), [(6, some (some 12)), (7, none)]⟩
theorem spec_StreamNew_ok : okFn Try.prog 40 spec_StreamNew = true := by kernel_rfl
def impl_LinkNew : IFn := ⟨15, (.seq (.reg false [⟨some 2, .box (.t 0), none⟩,
    ⟨some 4, .new [.int .i64 0, .int .i64 0, .int .i64 0, .bool false], none⟩,
    ⟨some 5, .mv (.c (.bool false)), none⟩] [] [1, 2, 4])
  (.seq (.reg false [⟨some 7, .mv (.t 1), none⟩,
    ⟨some 8, .build [.int .i64 0, .int .i64 0, .int .i64 0, .bool false] [(0, 1, .t 7)], none⟩,
    ⟨some 6, .new [.int .i64 0, .int .i64 0, .int .i64 0, .bool false], none⟩,
    ⟨none, .st 4 (.t 6) (.t 8), none⟩] [] [2, 4, 6])
  (.seq (.seq (.reg false [⟨some 9, .ld (some 1) (.t 2), none⟩,
    ⟨some 10, .ld (some 4) (.t 6), none⟩,
    ⟨some 11, .call 35 [.t 9, .t 10], none⟩,
    ⟨some 12, .not (.t 11), none⟩] [] [4, 6, 12])
  (.cond (.t 12)
  (.seq (.reg false [⟨some 13, .build [.int .i64 0, .int .i64 0, .int .i64 0, .bool false] [], none⟩,
    ⟨none, .st 4 (.t 4) (.t 13), none⟩,
    ⟨some 5, .mv (.c (.bool false)), none⟩] [] [4, 5])
  .ret)
  .skip))
  (.seq (.reg false [⟨some 14, .ld (some 4) (.t 6), none⟩,
    ⟨none, .st 4 (.t 4) (.t 14), none⟩,
    ⟨some 5, .mv (.c (.bool true)), none⟩] [] [4, 5])
  .ret)))), [(4, some (some 4)), (5, none)]⟩
theorem impl_LinkNew_ok : okFn Try.prog 41 impl_LinkNew = true := by kernel_rfl
def laws_sameInts : IFn := ⟨26, (.seq (.reg false [⟨some 4, .mv (.c (.bool false)), none⟩] [] [0, 1])
  (.seq (.seq (.reg false [⟨some 6, .mv (.t 0), none⟩,
    ⟨some 7, .len false (.t 6), none⟩,
    ⟨some 8, .mv (.t 1), none⟩,
    ⟨some 9, .len false (.t 8), none⟩,
    ⟨some 10, .bin .neq (.t 7) (.t 9), none⟩] [] [0, 1, 10])
  (.cond (.t 10)
  (.seq (.reg false [⟨some 4, .mv (.c (.bool false)), none⟩] [] [4])
  .ret)
  .skip))
  (.seq (.seq (.reg false [⟨some 5, .mv (.c (.int .i64 0)), none⟩] [] [0, 1, 5])
  (.block 0 (.loop (.seq (.seq (.reg false [⟨some 11, .mv (.t 5), none⟩,
    ⟨some 12, .mv (.t 0), none⟩,
    ⟨some 13, .len false (.t 12), none⟩,
    ⟨some 14, .bin .lss (.t 11) (.t 13), none⟩] [] [0, 1, 5, 14])
  (.cond (.t 14)
  .skip
  (.exit 0)))
  (.seq (.block 1 (.seq (.reg true [⟨some 17, .mv (.t 0), none⟩,
    ⟨some 18, .mv (.t 5), none⟩,
    ⟨some 19, .iad 1 (.t 17) (.t 18), none⟩,
    ⟨some 20, .ld none (.t 19), none⟩,
    ⟨some 21, .mv (.t 1), none⟩,
    ⟨some 22, .mv (.t 5), none⟩,
    ⟨some 23, .iad 1 (.t 21) (.t 22), none⟩,
    ⟨some 24, .ld none (.t 23), none⟩,
    ⟨some 25, .bin .neq (.t 20) (.t 24), none⟩] [0, 0, 3, 7, 0, 0, 48, 112, 255] [0, 1, 5, 25])
  (.cond (.t 25)
  (.seq (.reg false [⟨some 4, .mv (.c (.bool false)), none⟩] [] [4])
  .ret)
  .skip)))
  (.reg false [⟨some 15, .mv (.t 5), none⟩,
    ⟨some 16, .bin .add (.t 15) (.c (.int .i64 1)), none⟩,
    ⟨some 5, .mv (.t 16), none⟩] [] [0, 1, 5]))))))
  (.seq (.reg false [⟨some 4, .mv (.c (.bool true)), none⟩] [] [4])
  .ret)))), [(4, none)]⟩
theorem laws_sameInts_ok : okFn Try.prog 42 laws_sameInts = true := by kernel_rfl
def spec_DrawLinkTake : IFn := ⟨65, (.seq (.reg false [⟨some 2, .new [.nil], none⟩,
    ⟨some 3, .new [.int .i64 0, .int .i64 0, .int .i64 0, .bool false], none⟩,
    ⟨some 4, .mv (.c (.int .i64 0)), none⟩] [] [0, 2, 3])
  (.seq (.reg false [⟨some 14, .mv (.t 0), none⟩,
    ⟨some 15, .call 82 [.t 14], none⟩,
    ⟨some 13, .mv (.t 15), none⟩,
    ⟨some 16, .ext (.t 13) 0, none⟩,
    ⟨some 17, .ext (.t 13) 1, none⟩,
    ⟨some 18, .ext (.t 13) 2, none⟩,
    ⟨some 5, .new [.nil], none⟩,
    ⟨some 6, .new [.int .i64 0, .int .i64 0, .int .i64 0, .bool false], none⟩,
    ⟨none, .st 1 (.t 5) (.t 16), none⟩,
    ⟨none, .st 4 (.t 6) (.t 17), none⟩,
    ⟨some 7, .mv (.t 18), none⟩] [] [0, 2, 3, 5, 6, 7])
  (.seq (.reg false [⟨some 19, .mv (.t 0), none⟩,
    ⟨some 20, .call 90 [.t 19], none⟩,
    ⟨some 8, .mv (.t 20), none⟩] [] [2, 3, 5, 6, 7, 8])
  (.seq (.seq (.reg false [⟨some 21, .ld (some 1) (.t 5), none⟩,
    ⟨some 22, .ld (some 4) (.t 6), none⟩,
    ⟨some 23, .call 58 [.t 21, .t 22], none⟩,
    ⟨some 24, .mv (.t 23), none⟩,
    ⟨some 25, .mv (.t 8), some (24, true)⟩,
    ⟨some 26, .call 91 [.t 25, .c (.int .i64 5)], some (24, true)⟩,
    ⟨some 27, .not (.t 26), some (24, true)⟩,
    ⟨some 28, .pick (.t 24) (.t 27) (.c (.bool false)), none⟩] [] [2, 3, 5, 6, 7, 8, 28])
  (.cond (.t 28)
  (.seq (.reg false [⟨some 29, .ld (some 4) (.t 6), none⟩,
    ⟨some 9, .new [.int .i64 0, .int .i64 0, .int .i64 0, .bool false], none⟩,
    ⟨none, .st 4 (.t 9) (.t 29), none⟩] [] [2, 3, 5, 6, 7, 8, 9])
  (.seq (.reg false [⟨some 30, .fad 3 (.t 9), none⟩,
    ⟨none, .st 1 (.t 30) (.c (.bool false)), none⟩] [] [2, 3, 5, 6, 7, 8, 9])
  (.seq (.reg true [⟨some 31, .fad 2 (.t 9), none⟩,
    ⟨some 32, .ld none (.t 31), none⟩,
    ⟨some 33, .mv (.t 8), none⟩,
    ⟨some 34, .call 94 [.t 33, .c (.int .i64 9)], none⟩,
    ⟨some 35, .bin .quo (.t 34) (.c (.int .i64 8)), none⟩,
    ⟨some 36, .bin .sub (.t 32) (.t 35), none⟩,
    ⟨some 37, .call 93 [.t 36, .c (.int .i64 0)], none⟩,
    ⟨some 38, .call 92 [.t 37, .c (.int .i64 20)], none⟩,
    ⟨some 39, .fad 2 (.t 9), none⟩,
    ⟨none, .st 1 (.t 39) (.t 38), none⟩] [0, 1, 0, 4, 12, 31, 63, 127, 255, 511] [2, 3, 5, 6, 7, 8, 9])
  (.seq (.reg false [⟨some 41, .ld (some 1) (.t 5), none⟩,
    ⟨some 42, .ld (some 4) (.t 9), none⟩,
    ⟨some 43, .mv (.t 7), none⟩,
    ⟨some 44, .call 31 [.t 41, .t 42, .t 43], none⟩,
    ⟨some 40, .mv (.t 44), none⟩,
    ⟨some 45, .ext (.t 40) 0, none⟩,
    ⟨some 46, .ext (.t 40) 1, none⟩,
    ⟨some 47, .ext (.t 40) 2, none⟩,
    ⟨some 10, .new [.nil], none⟩,
    ⟨some 11, .new [.int .i64 0, .int .i64 0, .int .i64 0, .bool false], none⟩,
    ⟨none, .st 1 (.t 10) (.t 45), none⟩,
    ⟨none, .st 4 (.t 11) (.t 46), none⟩,
    ⟨some 12, .mv (.t 47), none⟩] [] [2, 3, 5, 6, 7, 8, 9, 10, 12])
  (.seq (.seq (.reg false [⟨some 48, .mv (.t 8), none⟩,
    ⟨some 49, .call 91 [.t 48, .c (.int .i64 5)], none⟩] [] [2, 3, 5, 6, 7, 9, 10, 12, 49])
  (.cond (.t 49)
  (.reg false [⟨some 51, .ld (some 1) (.t 5), none⟩,
    ⟨some 52, .ld (some 4) (.t 9), none⟩,
    ⟨some 53, .call 36 [.t 51, .t 52], none⟩,
    ⟨some 50, .mv (.t 53), none⟩,
    ⟨some 54, .ext (.t 50) 0, none⟩,
    ⟨some 55, .ext (.t 50) 1, none⟩,
    ⟨some 56, .ext (.t 50) 2, none⟩,
    ⟨none, .st 1 (.t 10) (.t 54), none⟩,
    ⟨some 12, .mv (.t 56), none⟩] [] [2, 3, 5, 6, 7, 10, 12])
  .skip))
  (.seq (.reg false [⟨some 57, .mv (.t 12), none⟩,
    ⟨some 58, .bin .geq (.t 57) (.c (.int .i64 0)), none⟩] [] [2, 3, 5, 6, 7, 10, 12, 58])
  (.cond (.t 58)
  (.seq (.reg true [⟨some 59, .ld (some 1) (.t 10), none⟩,
    ⟨some 60, .ld (some 4) (.t 6), none⟩,
    ⟨some 61, .mv (.t 12), none⟩,
    ⟨none, .st 1 (.t 2) (.t 59), none⟩,
    ⟨none, .st 4 (.t 3) (.t 60), none⟩,
    ⟨some 4, .mv (.t 61), none⟩] [0, 0, 0, 1, 11, 31] [2, 3, 4])
  .ret)
  .skip)))))))
  .skip))
  (.seq (.reg true [⟨some 62, .ld (some 1) (.t 5), none⟩,
    ⟨some 63, .ld (some 4) (.t 6), none⟩,
    ⟨some 64, .mv (.t 7), none⟩,
    ⟨none, .st 1 (.t 2) (.t 62), none⟩,
    ⟨none, .st 4 (.t 3) (.t 63), none⟩,
    ⟨some 4, .mv (.t 64), none⟩] [0, 0, 0, 1, 11, 31] [2, 3, 4])
  .ret))))), [(2, some (some 1)), (3, some (some 4)), (4, none)]⟩
theorem spec_DrawLinkTake_ok : okFn Try.prog 43 spec_DrawLinkTake = true := by kernel_rfl
def impl_PartsOf : IFn := ⟨15, (.seq (.reg false [⟨some 2, .box (.t 0), none⟩,
    ⟨some 4, .mv (.c (.nil)), none⟩] [] [1, 2])
  (.seq (.seq (.reg false [⟨some 5, .mv (.t 1), none⟩,
    ⟨some 6, .call 62 [.t 2, .t 5], none⟩,
    ⟨some 7, .not (.t 6), none⟩,
    ⟨some 8, .mv (.t 7), none⟩,
    ⟨some 9, .ld (some 1) (.t 2), some (8, false)⟩,
    ⟨some 10, .call 84 [.t 9], some (8, false)⟩,
    ⟨some 11, .not (.t 10), some (8, false)⟩,
    ⟨some 12, .pick (.t 8) (.c (.bool true)) (.t 11), none⟩] [] [1, 2, 12])
  (.cond (.t 12)
  (.seq (.reg false [⟨some 4, .mv (.c (.nil)), none⟩] [] [4])
  .ret)
  .skip))
  (.seq (.reg false [⟨some 13, .mv (.t 1), none⟩,
    ⟨some 14, .call 95 [.t 2, .t 13], none⟩,
    ⟨some 4, .mv (.t 14), none⟩] [] [4])
  .ret))), [(4, none)]⟩
theorem impl_PartsOf_ok : okFn Try.prog 44 impl_PartsOf = true := by kernel_rfl
def spec_DrawLinkTurn : IFn := ⟨15, (.seq (.reg false [⟨some 2, .new [.nil], none⟩,
    ⟨some 3, .new [.int .i64 0, .int .i64 0, .int .i64 0, .bool false], none⟩] [] [0, 2, 3])
  (.seq (.reg false [⟨some 8, .mv (.t 0), none⟩,
    ⟨some 9, .call 82 [.t 8], none⟩,
    ⟨some 7, .mv (.t 9), none⟩,
    ⟨some 10, .ext (.t 7) 0, none⟩,
    ⟨some 11, .ext (.t 7) 1, none⟩,
    ⟨some 12, .ext (.t 7) 2, none⟩,
    ⟨some 4, .new [.nil], none⟩,
    ⟨some 5, .new [.int .i64 0, .int .i64 0, .int .i64 0, .bool false], none⟩,
    ⟨none, .st 1 (.t 4) (.t 10), none⟩,
    ⟨none, .st 4 (.t 5) (.t 11), none⟩,
    ⟨some 6, .mv (.t 12), none⟩] [] [2, 3, 4, 5])
  (.seq (.reg true [⟨some 13, .ld (some 1) (.t 4), none⟩,
    ⟨some 14, .ld (some 4) (.t 5), none⟩,
    ⟨none, .st 1 (.t 2) (.t 13), none⟩,
    ⟨none, .st 4 (.t 3) (.t 14), none⟩] [0, 0, 1, 7] [2, 3])
  .ret))), [(2, some (some 1)), (3, some (some 4))]⟩
theorem spec_DrawLinkTurn_ok : okFn Try.prog 45 spec_DrawLinkTurn = true := by kernel_rfl
def laws_toIntS : IFn := ⟨22, (.seq (.reg false [⟨some 2, .mv (.c (.nil)), none⟩] [] [0])
  (.seq (.reg false [⟨some 5, .mv (.t 0), none⟩,
    ⟨some 6, .len false (.t 5), none⟩,
    ⟨some 7, .mk 1 8 [.int .i64 0] (.t 6) (.t 6), none⟩,
    ⟨some 3, .mv (.t 7), none⟩] [] [0, 3])
  (.seq (.seq (.reg false [⟨some 4, .mv (.c (.int .i64 0)), none⟩] [] [0, 3, 4])
  (.block 0 (.loop (.seq (.seq (.reg false [⟨some 8, .mv (.t 4), none⟩,
    ⟨some 9, .mv (.t 0), none⟩,
    ⟨some 10, .len false (.t 9), none⟩,
    ⟨some 11, .bin .lss (.t 8) (.t 10), none⟩] [] [0, 3, 4, 11])
  (.cond (.t 11)
  .skip
  (.exit 0)))
  (.seq (.block 1 (.reg false [⟨some 14, .mv (.t 3), none⟩,
    ⟨some 15, .mv (.t 4), none⟩,
    ⟨some 16, .mv (.t 0), none⟩,
    ⟨some 17, .mv (.t 4), none⟩,
    ⟨some 18, .iad 1 (.t 16) (.t 17), none⟩,
    ⟨some 19, .ld none (.t 18), none⟩,
    ⟨some 20, .iad 1 (.t 14) (.t 15), none⟩,
    ⟨none, .st 1 (.t 20) (.t 19), none⟩] [] [0, 3, 4]))
  (.reg false [⟨some 12, .mv (.t 4), none⟩,
    ⟨some 13, .bin .add (.t 12) (.c (.int .i64 1)), none⟩,
    ⟨some 4, .mv (.t 13), none⟩] [] [0, 3, 4]))))))
  (.seq (.reg false [⟨some 21, .mv (.t 3), none⟩,
    ⟨some 2, .mv (.t 21), none⟩] [] [2])
  .ret)))), [(2, none)]⟩
theorem laws_toIntS_ok : okFn Try.prog 46 laws_toIntS = true := by kernel_rfl
def laws_eqIntS : IFn := ⟨26, (.seq (.reg false [⟨some 4, .mv (.c (.bool false)), none⟩] [] [0, 1])
  (.seq (.seq (.reg false [⟨some 6, .mv (.t 0), none⟩,
    ⟨some 7, .len false (.t 6), none⟩,
    ⟨some 8, .mv (.t 1), none⟩,
    ⟨some 9, .len false (.t 8), none⟩,
    ⟨some 10, .bin .neq (.t 7) (.t 9), none⟩] [] [0, 1, 10])
  (.cond (.t 10)
  (.seq (.reg false [⟨some 4, .mv (.c (.bool false)), none⟩] [] [4])
  .ret)
  .skip))
  (.seq (.seq (.reg false [⟨some 5, .mv (.c (.int .i64 0)), none⟩] [] [0, 1, 5])
  (.block 0 (.loop (.seq (.seq (.reg false [⟨some 11, .mv (.t 5), none⟩,
    ⟨some 12, .mv (.t 0), none⟩,
    ⟨some 13, .len false (.t 12), none⟩,
    ⟨some 14, .bin .lss (.t 11) (.t 13), none⟩] [] [0, 1, 5, 14])
  (.cond (.t 14)
  .skip
  (.exit 0)))
  (.seq (.block 1 (.seq (.reg true [⟨some 17, .mv (.t 0), none⟩,
    ⟨some 18, .mv (.t 5), none⟩,
    ⟨some 19, .iad 1 (.t 17) (.t 18), none⟩,
    ⟨some 20, .ld none (.t 19), none⟩,
    ⟨some 21, .mv (.t 1), none⟩,
    ⟨some 22, .mv (.t 5), none⟩,
    ⟨some 23, .iad 1 (.t 21) (.t 22), none⟩,
    ⟨some 24, .ld none (.t 23), none⟩,
    ⟨some 25, .bin .neq (.t 20) (.t 24), none⟩] [0, 0, 3, 7, 0, 0, 48, 112, 255] [0, 1, 5, 25])
  (.cond (.t 25)
  (.seq (.reg false [⟨some 4, .mv (.c (.bool false)), none⟩] [] [4])
  .ret)
  .skip)))
  (.reg false [⟨some 15, .mv (.t 5), none⟩,
    ⟨some 16, .bin .add (.t 15) (.c (.int .i64 1)), none⟩,
    ⟨some 5, .mv (.t 16), none⟩] [] [0, 1, 5]))))))
  (.seq (.reg false [⟨some 4, .mv (.c (.bool true)), none⟩] [] [4])
  .ret)))), [(4, none)]⟩
theorem laws_eqIntS_ok : okFn Try.prog 47 laws_eqIntS = true := by kernel_rfl
def laws_markIntS : IFn := ⟨19, (.seq (.reg false [⟨some 4, .mv (.c (.int .i64 0)), none⟩] [] [0, 1])
  (.seq (.seq (.reg false [⟨some 5, .mv (.c (.int .i64 0)), none⟩] [] [0, 1, 5])
  (.block 0 (.loop (.seq (.seq (.reg false [⟨some 6, .mv (.t 5), none⟩,
    ⟨some 7, .mv (.t 0), none⟩,
    ⟨some 8, .len false (.t 7), none⟩,
    ⟨some 9, .bin .lss (.t 6) (.t 8), none⟩] [] [0, 1, 5, 9])
  (.cond (.t 9)
  .skip
  (.exit 0)))
  (.seq (.block 1 (.seq (.reg false [⟨some 12, .mv (.t 0), none⟩,
    ⟨some 13, .mv (.t 5), none⟩,
    ⟨some 14, .mv (.t 1), none⟩,
    ⟨some 15, .iad 1 (.t 12) (.t 13), none⟩,
    ⟨none, .st 1 (.t 15) (.t 14), none⟩] [] [0, 1, 5])
  (.reg false [⟨some 16, .mv (.t 1), none⟩,
    ⟨some 17, .bin .add (.t 16) (.c (.int .i64 1)), none⟩,
    ⟨some 1, .mv (.t 17), none⟩] [] [0, 1, 5])))
  (.reg false [⟨some 10, .mv (.t 5), none⟩,
    ⟨some 11, .bin .add (.t 10) (.c (.int .i64 1)), none⟩,
    ⟨some 5, .mv (.t 11), none⟩] [] [0, 1, 5]))))))
  (.seq (.reg false [⟨some 18, .mv (.t 1), none⟩,
    ⟨some 4, .mv (.t 18), none⟩] [] [4])
  .ret))), [(4, none)]⟩
theorem laws_markIntS_ok : okFn Try.prog 48 laws_markIntS = true := by kernel_rfl
def laws_markStream : IFn := ⟨22, (.seq (.reg false [⟨some 2, .box (.t 0), none⟩,
    ⟨some 4, .mv (.c (.int .i64 0)), none⟩] [] [1, 2])
  (.seq (.reg false [⟨some 5, .fad 0 (.t 2), none⟩,
    ⟨some 6, .ld (some 1) (.t 5), none⟩,
    ⟨some 7, .mv (.t 1), none⟩,
    ⟨some 8, .call 29 [.t 6, .t 7], none⟩,
    ⟨some 1, .mv (.t 8), none⟩] [] [1, 2])
  (.seq (.reg false [⟨some 9, .fad 1 (.t 2), none⟩,
    ⟨some 10, .ld none (.t 9), none⟩,
    ⟨some 11, .mv (.t 1), none⟩,
    ⟨some 12, .call 48 [.t 10, .t 11], none⟩,
    ⟨some 1, .mv (.t 12), none⟩] [] [1, 2])
  (.seq (.reg false [⟨some 13, .fad 10 (.t 2), none⟩,
    ⟨some 14, .ld none (.t 13), none⟩,
    ⟨some 15, .mv (.t 1), none⟩,
    ⟨some 16, .call 48 [.t 14, .t 15], none⟩,
    ⟨some 1, .mv (.t 16), none⟩] [] [1, 2])
  (.seq (.reg false [⟨some 17, .fad 11 (.t 2), none⟩,
    ⟨some 18, .ld none (.t 17), none⟩,
    ⟨some 19, .mv (.t 1), none⟩,
    ⟨some 20, .call 48 [.t 18, .t 19], none⟩,
    ⟨some 1, .mv (.t 20), none⟩] [] [1])
  (.seq (.reg false [⟨some 21, .mv (.t 1), none⟩,
    ⟨some 4, .mv (.t 21), none⟩] [] [4])
  .ret)))))), [(4, none)]⟩
theorem laws_markStream_ok : okFn Try.prog 49 laws_markStream = true := by kernel_rfl
def laws_heldStream : IFn := ⟨30, (.seq (.reg false [⟨some 2, .box (.t 0), none⟩,
    ⟨some 4, .mv (.c (.int .i64 0)), none⟩] [] [1, 2])
  (.seq (.reg false [⟨some 5, .fad 0 (.t 2), none⟩,
    ⟨some 6, .ld (some 1) (.t 5), none⟩,
    ⟨some 7, .mv (.t 1), none⟩,
    ⟨some 8, .call 30 [.t 6, .t 7], none⟩,
    ⟨some 1, .mv (.t 8), none⟩] [] [1, 2])
  (.seq (.seq (.reg false [⟨some 9, .mv (.t 1), none⟩,
    ⟨some 10, .bin .lss (.t 9) (.c (.int .i64 0)), none⟩] [] [1, 2, 10])
  (.cond (.t 10)
  (.seq (.reg false [⟨some 4, .mv (.c (.int .i64 (-1))), none⟩] [] [4])
  .ret)
  .skip))
  (.seq (.reg false [⟨some 11, .fad 1 (.t 2), none⟩,
    ⟨some 12, .ld none (.t 11), none⟩,
    ⟨some 13, .mv (.t 1), none⟩,
    ⟨some 14, .call 96 [.t 12, .t 13], none⟩,
    ⟨some 1, .mv (.t 14), none⟩] [] [1, 2])
  (.seq (.seq (.reg false [⟨some 15, .mv (.t 1), none⟩,
    ⟨some 16, .bin .lss (.t 15) (.c (.int .i64 0)), none⟩] [] [1, 2, 16])
  (.cond (.t 16)
  (.seq (.reg false [⟨some 4, .mv (.c (.int .i64 (-1))), none⟩] [] [4])
  .ret)
  .skip))
  (.seq (.reg false [⟨some 17, .fad 10 (.t 2), none⟩,
    ⟨some 18, .ld none (.t 17), none⟩,
    ⟨some 19, .mv (.t 1), none⟩,
    ⟨some 20, .call 96 [.t 18, .t 19], none⟩,
    ⟨some 1, .mv (.t 20), none⟩] [] [1, 2])
  (.seq (.seq (.reg false [⟨some 21, .mv (.t 1), none⟩,
    ⟨some 22, .bin .lss (.t 21) (.c (.int .i64 0)), none⟩] [] [1, 2, 22])
  (.cond (.t 22)
  (.seq (.reg false [⟨some 4, .mv (.c (.int .i64 (-1))), none⟩] [] [4])
  .ret)
  .skip))
  (.seq (.reg false [⟨some 23, .fad 11 (.t 2), none⟩,
    ⟨some 24, .ld none (.t 23), none⟩,
    ⟨some 25, .mv (.t 1), none⟩,
    ⟨some 26, .call 96 [.t 24, .t 25], none⟩,
    ⟨some 1, .mv (.t 26), none⟩] [] [1])
  (.seq (.seq (.reg false [⟨some 27, .mv (.t 1), none⟩,
    ⟨some 28, .bin .lss (.t 27) (.c (.int .i64 0)), none⟩] [] [1, 28])
  (.cond (.t 28)
  (.seq (.reg false [⟨some 4, .mv (.c (.int .i64 (-1))), none⟩] [] [4])
  .ret)
  .skip))
  (.seq (.reg false [⟨some 29, .mv (.t 1), none⟩,
    ⟨some 4, .mv (.t 29), none⟩] [] [4])
  .ret)))))))))), [(4, none)]⟩
theorem laws_heldStream_ok : okFn Try.prog 50 laws_heldStream = true := by kernel_rfl
def spec_DrawLinkEnd : IFn := ⟨15, (.seq (.reg false [⟨some 2, .new [.nil], none⟩,
    ⟨some 3, .new [.int .i64 0, .int .i64 0, .int .i64 0, .bool false], none⟩] [] [0, 2, 3])
  (.seq (.reg false [⟨some 8, .mv (.t 0), none⟩,
    ⟨some 9, .call 82 [.t 8], none⟩,
    ⟨some 7, .mv (.t 9), none⟩,
    ⟨some 10, .ext (.t 7) 0, none⟩,
    ⟨some 11, .ext (.t 7) 1, none⟩,
    ⟨some 12, .ext (.t 7) 2, none⟩,
    ⟨some 4, .new [.nil], none⟩,
    ⟨some 5, .new [.int .i64 0, .int .i64 0, .int .i64 0, .bool false], none⟩,
    ⟨none, .st 1 (.t 4) (.t 10), none⟩,
    ⟨none, .st 4 (.t 5) (.t 11), none⟩,
    ⟨some 6, .mv (.t 12), none⟩] [] [2, 3, 4, 5])
  (.seq (.reg true [⟨some 13, .ld (some 1) (.t 4), none⟩,
    ⟨some 14, .ld (some 4) (.t 5), none⟩,
    ⟨none, .st 1 (.t 2) (.t 13), none⟩,
    ⟨none, .st 4 (.t 3) (.t 14), none⟩] [0, 0, 1, 7] [2, 3])
  .ret))), [(2, some (some 1)), (3, some (some 4))]⟩
theorem spec_DrawLinkEnd_ok : okFn Try.prog 51 spec_DrawLinkEnd = true := by kernel_rfl
def spec_WorldNew : IFn := ⟨42, (.seq (.reg false [⟨some 0, .new [.nil, .nil, .nil, .int .i64 0, .nil, .nil, .nil], none⟩] [] [0])
  (.seq (.reg false [⟨some 6, .build [.nil] [], none⟩,
    ⟨some 1, .new [.nil], none⟩,
    ⟨none, .st 1 (.t 1) (.t 6), none⟩] [] [0, 1])
  (.seq (.reg false [⟨some 7, .bsl 1 0 [.int .i64 0] [], none⟩,
    ⟨some 2, .mv (.t 7), none⟩] [] [0, 1, 2])
  (.seq (.seq (.reg false [⟨some 3, .mv (.c (.int .i64 0)), none⟩] [] [0, 1, 2, 3])
  (.block 0 (.loop (.seq (.seq (.reg false [⟨some 8, .mv (.t 3), none⟩,
    ⟨some 9, .bin .lss (.t 8) (.c (.int .i64 5)), none⟩] [] [0, 1, 2, 3, 9])
  (.cond (.t 9)
  .skip
  (.exit 0)))
  (.seq (.block 1 (.reg false [⟨some 13, .ld (some 1) (.t 1), none⟩,
    ⟨some 14, .mv (.t 3), none⟩,
    ⟨some 15, .call 97 [.t 13, .t 14], none⟩,
    ⟨some 12, .mv (.t 15), none⟩,
    ⟨some 16, .ext (.t 12) 0, none⟩,
    ⟨some 17, .ext (.t 12) 1, none⟩,
    ⟨none, .st 1 (.t 1) (.t 16), none⟩] [] [0, 1, 2, 3]))
  (.reg false [⟨some 10, .mv (.t 3), none⟩,
    ⟨some 11, .bin .add (.t 10) (.c (.int .i64 1)), none⟩,
    ⟨some 3, .mv (.t 11), none⟩] [] [0, 1, 2, 3]))))))
  (.seq (.seq (.reg false [⟨some 4, .mv (.c (.int .i64 0)), none⟩] [] [0, 1, 2, 4])
  (.block 2 (.loop (.seq (.seq (.reg false [⟨some 18, .mv (.t 4), none⟩,
    ⟨some 19, .bin .lss (.t 18) (.c (.int .i64 5)), none⟩] [] [0, 1, 2, 4, 19])
  (.cond (.t 19)
  .skip
  (.exit 2)))
  (.seq (.block 3 (.seq (.reg false [⟨some 5, .mv (.c (.int .i64 (-1))), none⟩] [] [0, 1, 2, 4])
  (.seq (.reg true [⟨some 23, .ld (some 1) (.t 1), none⟩,
    ⟨some 24, .mv (.t 4), none⟩,
    ⟨some 25, .call 98 [.t 24], none⟩,
    ⟨some 26, .call 97 [.t 23, .t 25], none⟩,
    ⟨some 22, .mv (.t 26), none⟩,
    ⟨some 27, .ext (.t 22) 0, none⟩,
    ⟨some 28, .ext (.t 22) 1, none⟩,
    ⟨none, .st 1 (.t 1) (.t 27), none⟩,
    ⟨some 5, .mv (.t 28), none⟩] [0, 0, 2, 7, 15, 31, 31, 63, 255] [0, 1, 2, 4, 5])
  (.seq (.reg false [⟨some 30, .ld (some 1) (.t 1), none⟩,
    ⟨some 31, .mv (.t 5), none⟩,
    ⟨some 32, .build [.int .i64 0, .int .i64 0, .int .i64 0] [(0, 1, .c (.int .i64 7)), (1, 1, .t 31)], none⟩,
    ⟨some 33, .call 99 [.t 30, .t 32], none⟩,
    ⟨some 29, .mv (.t 33), none⟩,
    ⟨some 34, .ext (.t 29) 0, none⟩,
    ⟨some 35, .ext (.t 29) 1, none⟩,
    ⟨none, .st 1 (.t 1) (.t 34), none⟩,
    ⟨some 5, .mv (.t 35), none⟩] [] [0, 1, 2, 4, 5])
  (.reg false [⟨some 36, .mv (.t 2), none⟩,
    ⟨some 37, .mv (.t 5), none⟩,
    ⟨some 38, .call 100 [.t 36, .t 37], none⟩,
    ⟨some 2, .mv (.t 38), none⟩] [] [0, 1, 2, 4])))))
  (.reg false [⟨some 20, .mv (.t 4), none⟩,
    ⟨some 21, .bin .add (.t 20) (.c (.int .i64 1)), none⟩,
    ⟨some 4, .mv (.t 21), none⟩] [] [0, 1, 2, 4]))))))
  (.seq (.reg false [⟨some 39, .ld (some 1) (.t 1), none⟩,
    ⟨some 40, .mv (.t 2), none⟩,
    ⟨some 41, .build [.nil, .nil, .nil, .int .i64 0, .nil, .nil, .nil] [(0, 1, .t 39), (1, 1, .t 40)], none⟩,
    ⟨none, .st 7 (.t 0) (.t 41), none⟩] [] [0])
  .ret)))))), [(0, some (some 7))]⟩
theorem spec_WorldNew_ok : okFn Try.prog 52 spec_WorldNew = true := by kernel_rfl
def impl_WorldNew : IFn := ⟨26, (.seq (.reg false [⟨some 0, .new [.nil, .nil, .nil, .int .i64 0, .nil, .nil, .nil], none⟩] [] [0])
  (.seq (.reg false [⟨some 1, .new [.nil, .nil, .nil, .int .i64 0, .nil, .nil, .nil], none⟩] [] [0, 1])
  (.seq (.seq (.reg false [⟨some 5, .mv (.c (.int .i64 0)), none⟩] [] [0, 1, 5])
  (.block 0 (.loop (.seq (.reg false [⟨some 6, .bin .lss (.t 5) (.c (.int .i64 5)), none⟩] [] [0, 1, 5, 6])
  (.seq (.cond (.t 6)
  .skip
  (.exit 0))
  (.seq (.block 1 (.seq (.reg false [⟨some 7, .mv (.t 5), none⟩,
    ⟨some 2, .mv (.t 7), none⟩] [] [0, 1, 2, 5])
  (.reg false [⟨some 8, .fad 0 (.t 1), none⟩,
    ⟨some 9, .mv (.t 2), none⟩,
    ⟨some 10, .call 77 [.t 8, .t 9], none⟩] [] [0, 1, 5])))
  (.reg false [⟨some 11, .bin .add (.t 5) (.c (.int .i64 1)), none⟩,
    ⟨some 5, .mv (.t 11), none⟩] [] [0, 1, 5])))))))
  (.seq (.seq (.reg false [⟨some 12, .mv (.c (.int .i64 0)), none⟩] [] [0, 1, 12])
  (.block 2 (.loop (.seq (.reg false [⟨some 13, .bin .lss (.t 12) (.c (.int .i64 5)), none⟩] [] [0, 1, 12, 13])
  (.seq (.cond (.t 13)
  .skip
  (.exit 2))
  (.seq (.block 3 (.seq (.reg false [⟨some 14, .mv (.t 12), none⟩,
    ⟨some 3, .mv (.t 14), none⟩] [] [0, 1, 3, 12])
  (.seq (.reg false [⟨some 15, .fad 0 (.t 1), none⟩,
    ⟨some 16, .mv (.t 3), none⟩,
    ⟨some 17, .call 101 [.t 15, .t 16], none⟩,
    ⟨some 4, .mv (.t 17), none⟩] [] [0, 1, 4, 12])
  (.reg false [⟨some 18, .fad 1 (.t 1), none⟩,
    ⟨some 19, .ld none (.t 18), none⟩,
    ⟨some 20, .mv (.t 4), none⟩,
    ⟨some 21, .bsl 1 1 [.int .i64 0] [(0, 1, .t 20)], none⟩,
    ⟨some 22, .app 1 8 (.t 19) (.t 21), none⟩,
    ⟨some 23, .fad 1 (.t 1), none⟩,
    ⟨none, .st 1 (.t 23) (.t 22), none⟩] [] [0, 1, 12]))))
  (.reg false [⟨some 24, .bin .add (.t 12) (.c (.int .i64 1)), none⟩,
    ⟨some 12, .mv (.t 24), none⟩] [] [0, 1, 12])))))))
  (.seq (.reg false [⟨some 25, .ld (some 7) (.t 1), none⟩,
    ⟨none, .st 7 (.t 0) (.t 25), none⟩] [] [0])
  .ret))))), [(0, some (some 7))]⟩
theorem impl_WorldNew_ok : okFn Try.prog 53 impl_WorldNew = true := by kernel_rfl
def laws_eqWorld : IFn := ⟨46, (.seq (.reg false [⟨some 2, .box (.t 0), none⟩,
    ⟨some 3, .box (.t 1), none⟩,
    ⟨some 4, .mv (.c (.bool false)), none⟩] [] [2, 3])
  (.seq (.seq (.reg false [⟨some 5, .fad 0 (.t 2), none⟩,
    ⟨some 6, .ld (some 1) (.t 5), none⟩,
    ⟨some 7, .fad 0 (.t 3), none⟩,
    ⟨some 8, .ld (some 1) (.t 7), none⟩,
    ⟨some 9, .call 21 [.t 6, .t 8], none⟩,
    ⟨some 10, .not (.t 9), none⟩] [] [2, 3, 10])
  (.cond (.t 10)
  (.seq (.reg false [⟨some 4, .mv (.c (.bool false)), none⟩] [] [4])
  .ret)
  .skip))
  (.seq (.seq (.reg false [⟨some 11, .fad 1 (.t 2), none⟩,
    ⟨some 12, .ld none (.t 11), none⟩,
    ⟨some 13, .fad 1 (.t 3), none⟩,
    ⟨some 14, .ld none (.t 13), none⟩,
    ⟨some 15, .call 47 [.t 12, .t 14], none⟩,
    ⟨some 16, .not (.t 15), none⟩] [] [2, 3, 16])
  (.cond (.t 16)
  (.seq (.reg false [⟨some 4, .mv (.c (.bool false)), none⟩] [] [4])
  .ret)
  .skip))
  (.seq (.seq (.reg false [⟨some 17, .fad 2 (.t 2), none⟩,
    ⟨some 18, .ld none (.t 17), none⟩,
    ⟨some 19, .fad 2 (.t 3), none⟩,
    ⟨some 20, .ld none (.t 19), none⟩,
    ⟨some 21, .call 102 [.t 18, .t 20], none⟩,
    ⟨some 22, .not (.t 21), none⟩] [] [2, 3, 22])
  (.cond (.t 22)
  (.seq (.reg false [⟨some 4, .mv (.c (.bool false)), none⟩] [] [4])
  .ret)
  .skip))
  (.seq (.seq (.reg false [⟨some 23, .fad 3 (.t 2), none⟩,
    ⟨some 24, .ld none (.t 23), none⟩,
    ⟨some 25, .fad 3 (.t 3), none⟩,
    ⟨some 26, .ld none (.t 25), none⟩,
    ⟨some 27, .bin .neq (.t 24) (.t 26), none⟩] [] [2, 3, 27])
  (.cond (.t 27)
  (.seq (.reg false [⟨some 4, .mv (.c (.bool false)), none⟩] [] [4])
  .ret)
  .skip))
  (.seq (.seq (.reg false [⟨some 28, .fad 4 (.t 2), none⟩,
    ⟨some 29, .ld none (.t 28), none⟩,
    ⟨some 30, .fad 4 (.t 3), none⟩,
    ⟨some 31, .ld none (.t 30), none⟩,
    ⟨some 32, .call 47 [.t 29, .t 31], none⟩,
    ⟨some 33, .not (.t 32), none⟩] [] [2, 3, 33])
  (.cond (.t 33)
  (.seq (.reg false [⟨some 4, .mv (.c (.bool false)), none⟩] [] [4])
  .ret)
  .skip))
  (.seq (.seq (.reg false [⟨some 34, .fad 5 (.t 2), none⟩,
    ⟨some 35, .ld none (.t 34), none⟩,
    ⟨some 36, .fad 5 (.t 3), none⟩,
    ⟨some 37, .ld none (.t 36), none⟩,
    ⟨some 38, .call 47 [.t 35, .t 37], none⟩,
    ⟨some 39, .not (.t 38), none⟩] [] [2, 3, 39])
  (.cond (.t 39)
  (.seq (.reg false [⟨some 4, .mv (.c (.bool false)), none⟩] [] [4])
  .ret)
  .skip))
  (.seq (.seq (.reg false [⟨some 40, .fad 6 (.t 2), none⟩,
    ⟨some 41, .ld none (.t 40), none⟩,
    ⟨some 42, .fad 6 (.t 3), none⟩,
    ⟨some 43, .ld none (.t 42), none⟩,
    ⟨some 44, .call 103 [.t 41, .t 43], none⟩,
    ⟨some 45, .not (.t 44), none⟩] [] [45])
  (.cond (.t 45)
  (.seq (.reg false [⟨some 4, .mv (.c (.bool false)), none⟩] [] [4])
  .ret)
  .skip))
  (.seq (.reg false [⟨some 4, .mv (.c (.bool true)), none⟩] [] [4])
  .ret))))))))), [(4, none)]⟩
theorem laws_eqWorld_ok : okFn Try.prog 54 laws_eqWorld = true := by kernel_rfl
def laws_markWorld : IFn := ⟨30, (.seq (.reg false [⟨some 2, .box (.t 0), none⟩,
    ⟨some 4, .mv (.c (.int .i64 0)), none⟩] [] [1, 2])
  (.seq (.reg false [⟨some 5, .fad 0 (.t 2), none⟩,
    ⟨some 6, .ld (some 1) (.t 5), none⟩,
    ⟨some 7, .mv (.t 1), none⟩,
    ⟨some 8, .call 29 [.t 6, .t 7], none⟩,
    ⟨some 1, .mv (.t 8), none⟩] [] [1, 2])
  (.seq (.reg false [⟨some 9, .fad 1 (.t 2), none⟩,
    ⟨some 10, .ld none (.t 9), none⟩,
    ⟨some 11, .mv (.t 1), none⟩,
    ⟨some 12, .call 48 [.t 10, .t 11], none⟩,
    ⟨some 1, .mv (.t 12), none⟩] [] [1, 2])
  (.seq (.reg false [⟨some 13, .fad 2 (.t 2), none⟩,
    ⟨some 14, .ld none (.t 13), none⟩,
    ⟨some 15, .mv (.t 1), none⟩,
    ⟨some 16, .call 104 [.t 14, .t 15], none⟩,
    ⟨some 1, .mv (.t 16), none⟩] [] [1, 2])
  (.seq (.reg false [⟨some 17, .fad 4 (.t 2), none⟩,
    ⟨some 18, .ld none (.t 17), none⟩,
    ⟨some 19, .mv (.t 1), none⟩,
    ⟨some 20, .call 48 [.t 18, .t 19], none⟩,
    ⟨some 1, .mv (.t 20), none⟩] [] [1, 2])
  (.seq (.reg false [⟨some 21, .fad 5 (.t 2), none⟩,
    ⟨some 22, .ld none (.t 21), none⟩,
    ⟨some 23, .mv (.t 1), none⟩,
    ⟨some 24, .call 48 [.t 22, .t 23], none⟩,
    ⟨some 1, .mv (.t 24), none⟩] [] [1, 2])
  (.seq (.reg false [⟨some 25, .fad 6 (.t 2), none⟩,
    ⟨some 26, .ld none (.t 25), none⟩,
    ⟨some 27, .mv (.t 1), none⟩,
    ⟨some 28, .call 105 [.t 26, .t 27], none⟩,
    ⟨some 1, .mv (.t 28), none⟩] [] [1])
  (.seq (.reg false [⟨some 29, .mv (.t 1), none⟩,
    ⟨some 4, .mv (.t 29), none⟩] [] [4])
  .ret)))))))), [(4, none)]⟩
theorem laws_markWorld_ok : okFn Try.prog 55 laws_markWorld = true := by kernel_rfl
def laws_heldWorld : IFn := ⟨42, (.seq (.reg false [⟨some 2, .box (.t 0), none⟩,
    ⟨some 4, .mv (.c (.int .i64 0)), none⟩] [] [1, 2])
  (.seq (.reg false [⟨some 5, .fad 0 (.t 2), none⟩,
    ⟨some 6, .ld (some 1) (.t 5), none⟩,
    ⟨some 7, .mv (.t 1), none⟩,
    ⟨some 8, .call 30 [.t 6, .t 7], none⟩,
    ⟨some 1, .mv (.t 8), none⟩] [] [1, 2])
  (.seq (.seq (.reg false [⟨some 9, .mv (.t 1), none⟩,
    ⟨some 10, .bin .lss (.t 9) (.c (.int .i64 0)), none⟩] [] [1, 2, 10])
  (.cond (.t 10)
  (.seq (.reg false [⟨some 4, .mv (.c (.int .i64 (-1))), none⟩] [] [4])
  .ret)
  .skip))
  (.seq (.reg false [⟨some 11, .fad 1 (.t 2), none⟩,
    ⟨some 12, .ld none (.t 11), none⟩,
    ⟨some 13, .mv (.t 1), none⟩,
    ⟨some 14, .call 96 [.t 12, .t 13], none⟩,
    ⟨some 1, .mv (.t 14), none⟩] [] [1, 2])
  (.seq (.seq (.reg false [⟨some 15, .mv (.t 1), none⟩,
    ⟨some 16, .bin .lss (.t 15) (.c (.int .i64 0)), none⟩] [] [1, 2, 16])
  (.cond (.t 16)
  (.seq (.reg false [⟨some 4, .mv (.c (.int .i64 (-1))), none⟩] [] [4])
  .ret)
  .skip))
  (.seq (.reg false [⟨some 17, .fad 2 (.t 2), none⟩,
    ⟨some 18, .ld none (.t 17), none⟩,
    ⟨some 19, .mv (.t 1), none⟩,
    ⟨some 20, .call 106 [.t 18, .t 19], none⟩,
    ⟨some 1, .mv (.t 20), none⟩] [] [1, 2])
  (.seq (.seq (.reg false [⟨some 21, .mv (.t 1), none⟩,
    ⟨some 22, .bin .lss (.t 21) (.c (.int .i64 0)), none⟩] [] [1, 2, 22])
  (.cond (.t 22)
  (.seq (.reg false [⟨some 4, .mv (.c (.int .i64 (-1))), none⟩] [] [4])
  .ret)
  .skip))
  (.seq (.reg false [⟨some 23, .fad 4 (.t 2), none⟩,
    ⟨some 24, .ld none (.t 23), none⟩,
    ⟨some 25, .mv (.t 1), none⟩,
    ⟨some 26, .call 96 [.t 24, .t 25], none⟩,
    ⟨some 1, .mv (.t 26), none⟩] [] [1, 2])
  (.seq (.seq (.reg false [⟨some 27, .mv (.t 1), none⟩,
    ⟨some 28, .bin .lss (.t 27) (.c (.int .i64 0)), none⟩] [] [1, 2, 28])
  (.cond (.t 28)
  (.seq (.reg false [⟨some 4, .mv (.c (.int .i64 (-1))), none⟩] [] [4])
  .ret)
  .skip))
  (.seq (.reg false [⟨some 29, .fad 5 (.t 2), none⟩,
    ⟨some 30, .ld none (.t 29), none⟩,
    ⟨some 31, .mv (.t 1), none⟩,
    ⟨some 32, .call 96 [.t 30, .t 31], none⟩,
    ⟨some 1, .mv (.t 32), none⟩] [] [1, 2])
  (.seq (.seq (.reg false [⟨some 33, .mv (.t 1), none⟩,
    ⟨some 34, .bin .lss (.t 33) (.c (.int .i64 0)), none⟩] [] [1, 2, 34])
  (.cond (.t 34)
  (.seq (.reg false [⟨some 4, .mv (.c (.int .i64 (-1))), none⟩] [] [4])
  .ret)
  .skip))
  (.seq (.reg false [⟨some 35, .fad 6 (.t 2), none⟩,
    ⟨some 36, .ld none (.t 35), none⟩,
    ⟨some 37, .mv (.t 1), none⟩,
    ⟨some 38, .call 107 [.t 36, .t 37], none⟩,
    ⟨some 1, .mv (.t 38), none⟩] [] [1])
  (.seq (.seq (.reg false [⟨some 39, .mv (.t 1), none⟩,
    ⟨some 40, .bin .lss (.t 39) (.c (.int .i64 0)), none⟩] [] [1, 40])
  (.cond (.t 40)
  (.seq (.reg false [⟨some 4, .mv (.c (.int .i64 (-1))), none⟩] [] [4])
  .ret)
  .skip))
  (.seq (.reg false [⟨some 41, .mv (.t 1), none⟩,
    ⟨some 4, .mv (.t 41), none⟩] [] [4])
  .ret)))))))))))))), [(4, none)]⟩
theorem laws_heldWorld_ok : okFn Try.prog 56 laws_heldWorld = true := by kernel_rfl
def laws_szNodeS : IFn := ⟨12, (.seq (.reg false [⟨some 4, .mv (.c (.int .i64 0)), none⟩] [] [0, 1])
  (.seq (.reg false [⟨some 5, .mv (.t 1), none⟩,
    ⟨some 6, .mv (.t 0), none⟩,
    ⟨some 7, .len false (.t 6), none⟩,
    ⟨some 8, .bin .sub (.t 5) (.t 7), none⟩,
    ⟨some 1, .mv (.t 8), none⟩] [] [1])
  (.seq (.seq (.reg false [⟨some 9, .mv (.t 1), none⟩,
    ⟨some 10, .bin .lss (.t 9) (.c (.int .i64 0)), none⟩] [] [1, 10])
  (.cond (.t 10)
  (.seq (.reg false [⟨some 4, .mv (.c (.int .i64 (-1))), none⟩] [] [4])
  .ret)
  .skip))
  (.seq (.reg false [⟨some 11, .mv (.t 1), none⟩,
    ⟨some 4, .mv (.t 11), none⟩] [] [4])
  .ret)))), [(4, none)]⟩
theorem laws_szNodeS_ok : okFn Try.prog 57 laws_szNodeS = true := by kernel_rfl
def spec_LinkOk : IFn := ⟨12, (.seq (.reg false [⟨some 2, .box (.t 0), none⟩,
    ⟨some 3, .box (.t 1), none⟩,
    ⟨some 4, .mv (.c (.bool false)), none⟩] [] [2, 3])
  (.seq (.reg false [⟨some 5, .ld (some 1) (.t 2), none⟩,
    ⟨some 6, .call 71 [.t 5], none⟩,
    ⟨some 7, .mv (.t 6), none⟩,
    ⟨some 8, .ld (some 1) (.t 2), some (7, true)⟩,
    ⟨some 9, .ld (some 4) (.t 3), some (7, true)⟩,
    ⟨some 10, .call 67 [.t 8, .t 9], some (7, true)⟩,
    ⟨some 11, .pick (.t 7) (.t 10) (.c (.bool false)), none⟩,
    ⟨some 4, .mv (.t 11), none⟩] [] [4])
  .ret)), [(4, none)]⟩
theorem spec_LinkOk_ok : okFn Try.prog 58 spec_LinkOk = true := by kernel_rfl
def spec_l1Has : IFn := ⟨11, (.seq (.reg false [⟨some 2, .box (.t 0), none⟩,
    ⟨some 4, .mv (.c (.bool false)), none⟩] [] [1, 2])
  (.seq (.reg false [⟨some 5, .mv (.t 1), none⟩,
    ⟨some 6, .fad 0 (.t 2), none⟩,
    ⟨some 7, .ld none (.t 6), none⟩,
    ⟨some 8, .len false (.t 7), none⟩,
    ⟨some 9, .bin .sub (.t 8) (.c (.int .i64 1)), none⟩,
    ⟨some 10, .call 108 [.t 5, .c (.int .i64 0), .t 9], none⟩,
    ⟨some 4, .mv (.t 10), none⟩] [] [4])
  .ret)), [(4, none)]⟩
theorem spec_l1Has_ok : okFn Try.prog 59 spec_l1Has = true := by kernel_rfl
def spec_l18End : IFn := ⟨12, (.seq (.reg false [⟨some 2, .box (.t 0), none⟩,
    ⟨some 4, .mv (.c (.bool false)), none⟩] [] [1, 2])
  (.seq (.reg false [⟨some 5, .fad 0 (.t 2), none⟩,
    ⟨some 6, .ld none (.t 5), none⟩,
    ⟨some 7, .mv (.t 1), none⟩,
    ⟨some 8, .iad 3 (.t 6) (.t 7), none⟩,
    ⟨some 9, .ld (some 3) (.t 8), none⟩,
    ⟨some 10, .build [.int .i64 0, .int .i64 0, .int .i64 0] [(0, 1, .c (.int .i64 1)), (1, 1, .c (.int .i64 8))], none⟩,
    ⟨some 11, .eqs false [1, 1, 1] (.t 9) (.t 10), none⟩,
    ⟨some 4, .mv (.t 11), none⟩] [] [4])
  .ret)), [(4, none)]⟩
theorem spec_l18End_ok : okFn Try.prog 60 spec_l18End = true := by kernel_rfl
def laws_toNodeS : IFn := ⟨23, (.seq (.reg false [⟨some 2, .mv (.c (.nil)), none⟩] [] [0])
  (.seq (.reg false [⟨some 5, .mv (.t 0), none⟩,
    ⟨some 6, .len false (.t 5), none⟩,
    ⟨some 7, .mk 3 24 [.int .i64 0, .int .i64 0, .int .i64 0] (.t 6) (.t 6), none⟩,
    ⟨some 3, .mv (.t 7), none⟩] [] [0, 3])
  (.seq (.seq (.reg false [⟨some 4, .mv (.c (.int .i64 0)), none⟩] [] [0, 3, 4])
  (.block 0 (.loop (.seq (.seq (.reg false [⟨some 8, .mv (.t 4), none⟩,
    ⟨some 9, .mv (.t 0), none⟩,
    ⟨some 10, .len false (.t 9), none⟩,
    ⟨some 11, .bin .lss (.t 8) (.t 10), none⟩] [] [0, 3, 4, 11])
  (.cond (.t 11)
  .skip
  (.exit 0)))
  (.seq (.block 1 (.reg false [⟨some 14, .mv (.t 3), none⟩,
    ⟨some 15, .mv (.t 4), none⟩,
    ⟨some 16, .mv (.t 0), none⟩,
    ⟨some 17, .mv (.t 4), none⟩,
    ⟨some 18, .iad 3 (.t 16) (.t 17), none⟩,
    ⟨some 19, .ld (some 3) (.t 18), none⟩,
    ⟨some 20, .call 109 [.t 19], none⟩,
    ⟨some 21, .iad 3 (.t 14) (.t 15), none⟩,
    ⟨none, .st 3 (.t 21) (.t 20), none⟩] [] [0, 3, 4]))
  (.reg false [⟨some 12, .mv (.t 4), none⟩,
    ⟨some 13, .bin .add (.t 12) (.c (.int .i64 1)), none⟩,
    ⟨some 4, .mv (.t 13), none⟩] [] [0, 3, 4]))))))
  (.seq (.reg false [⟨some 22, .mv (.t 3), none⟩,
    ⟨some 2, .mv (.t 22), none⟩] [] [2])
  .ret)))), [(2, none)]⟩
theorem laws_toNodeS_ok : okFn Try.prog 61 laws_toNodeS = true := by kernel_rfl
def impl_Pool_isTerm : IFn := ⟨13, (.seq (.reg false [⟨some 4, .mv (.c (.bool false)), none⟩] [] [0, 1])
  (.seq (.reg false [⟨some 5, .mv (.t 1), none⟩,
    ⟨some 6, .mv (.t 0), none⟩,
    ⟨some 7, .nck (.t 6), none⟩,
    ⟨some 8, .fad 0 (.t 7), none⟩,
    ⟨some 9, .ld none (.t 8), none⟩,
    ⟨some 10, .len false (.t 9), none⟩,
    ⟨some 11, .bin .sub (.t 10) (.c (.int .i64 1)), none⟩,
    ⟨some 12, .call 83 [.t 5, .c (.int .i64 0), .t 11], none⟩,
    ⟨some 4, .mv (.t 12), none⟩] [] [4])
  .ret)), [(4, none)]⟩
theorem impl_Pool_isTerm_ok : okFn Try.prog 62 impl_Pool_isTerm = true := by kernel_rfl
def impl_Pool_isName : IFn := ⟨17, (.seq (.reg false [⟨some 6, .mv (.c (.bool false)), none⟩] [] [0, 1, 2])
  (.seq (.reg false [⟨some 7, .mv (.t 0), none⟩,
    ⟨some 8, .nck (.t 7), none⟩,
    ⟨some 9, .fad 0 (.t 8), none⟩,
    ⟨some 10, .ld none (.t 9), none⟩,
    ⟨some 11, .mv (.t 1), none⟩,
    ⟨some 12, .iad 3 (.t 10) (.t 11), none⟩,
    ⟨some 13, .ld (some 3) (.t 12), none⟩,
    ⟨some 14, .mv (.t 2), none⟩,
    ⟨some 15, .build [.int .i64 0, .int .i64 0, .int .i64 0] [(0, 1, .c (.int .i64 1)), (1, 1, .t 14)], none⟩,
    ⟨some 16, .eqs false [1, 1, 1] (.t 13) (.t 15), none⟩,
    ⟨some 6, .mv (.t 16), none⟩] [] [6])
  .ret)), [(6, none)]⟩
theorem impl_Pool_isName_ok : okFn Try.prog 63 impl_Pool_isName = true := by kernel_rfl
def laws_eqNodeS : IFn := ⟨27, (.seq (.reg false [⟨some 4, .mv (.c (.bool false)), none⟩] [] [0, 1])
  (.seq (.seq (.reg false [⟨some 6, .mv (.t 0), none⟩,
    ⟨some 7, .len false (.t 6), none⟩,
    ⟨some 8, .mv (.t 1), none⟩,
    ⟨some 9, .len false (.t 8), none⟩,
    ⟨some 10, .bin .neq (.t 7) (.t 9), none⟩] [] [0, 1, 10])
  (.cond (.t 10)
  (.seq (.reg false [⟨some 4, .mv (.c (.bool false)), none⟩] [] [4])
  .ret)
  .skip))
  (.seq (.seq (.reg false [⟨some 5, .mv (.c (.int .i64 0)), none⟩] [] [0, 1, 5])
  (.block 0 (.loop (.seq (.seq (.reg false [⟨some 11, .mv (.t 5), none⟩,
    ⟨some 12, .mv (.t 0), none⟩,
    ⟨some 13, .len false (.t 12), none⟩,
    ⟨some 14, .bin .lss (.t 11) (.t 13), none⟩] [] [0, 1, 5, 14])
  (.cond (.t 14)
  .skip
  (.exit 0)))
  (.seq (.block 1 (.seq (.reg true [⟨some 17, .mv (.t 0), none⟩,
    ⟨some 18, .mv (.t 5), none⟩,
    ⟨some 19, .iad 3 (.t 17) (.t 18), none⟩,
    ⟨some 20, .ld (some 3) (.t 19), none⟩,
    ⟨some 21, .mv (.t 1), none⟩,
    ⟨some 22, .mv (.t 5), none⟩,
    ⟨some 23, .iad 3 (.t 21) (.t 22), none⟩,
    ⟨some 24, .ld (some 3) (.t 23), none⟩,
    ⟨some 25, .call 110 [.t 20, .t 24], none⟩,
    ⟨some 26, .not (.t 25), none⟩] [0, 0, 3, 7, 0, 0, 48, 112, 255, 511] [0, 1, 5, 26])
  (.cond (.t 26)
  (.seq (.reg false [⟨some 4, .mv (.c (.bool false)), none⟩] [] [4])
  .ret)
  .skip)))
  (.reg false [⟨some 15, .mv (.t 5), none⟩,
    ⟨some 16, .bin .add (.t 15) (.c (.int .i64 1)), none⟩,
    ⟨some 5, .mv (.t 16), none⟩] [] [0, 1, 5]))))))
  (.seq (.reg false [⟨some 4, .mv (.c (.bool true)), none⟩] [] [4])
  .ret)))), [(4, none)]⟩
theorem laws_eqNodeS_ok : okFn Try.prog 64 laws_eqNodeS = true := by kernel_rfl
def laws_szIntS : IFn := ⟨12, (.seq (.reg false [⟨some 4, .mv (.c (.int .i64 0)), none⟩] [] [0, 1])
  (.seq (.reg false [⟨some 5, .mv (.t 1), none⟩,
    ⟨some 6, .mv (.t 0), none⟩,
    ⟨some 7, .len false (.t 6), none⟩,
    ⟨some 8, .bin .sub (.t 5) (.t 7), none⟩,
    ⟨some 1, .mv (.t 8), none⟩] [] [1])
  (.seq (.seq (.reg false [⟨some 9, .mv (.t 1), none⟩,
    ⟨some 10, .bin .lss (.t 9) (.c (.int .i64 0)), none⟩] [] [1, 10])
  (.cond (.t 10)
  (.seq (.reg false [⟨some 4, .mv (.c (.int .i64 (-1))), none⟩] [] [4])
  .ret)
  .skip))
  (.seq (.reg false [⟨some 11, .mv (.t 1), none⟩,
    ⟨some 4, .mv (.t 11), none⟩] [] [4])
  .ret)))), [(4, none)]⟩
theorem laws_szIntS_ok : okFn Try.prog 65 laws_szIntS = true := by kernel_rfl
def spec_KnowOk : IFn := ⟨12, (.seq (.reg false [⟨some 2, .box (.t 0), none⟩,
    ⟨some 4, .mv (.c (.bool false)), none⟩] [] [1, 2])
  (.seq (.reg false [⟨some 5, .ld (some 1) (.t 2), none⟩,
    ⟨some 6, .call 71 [.t 5], none⟩,
    ⟨some 7, .mv (.t 6), none⟩,
    ⟨some 8, .ld (some 1) (.t 2), some (7, true)⟩,
    ⟨some 9, .mv (.t 1), some (7, true)⟩,
    ⟨some 10, .call 111 [.t 8, .t 9], some (7, true)⟩,
    ⟨some 11, .pick (.t 7) (.t 10) (.c (.bool false)), none⟩,
    ⟨some 4, .mv (.t 11), none⟩] [] [4])
  .ret)), [(4, none)]⟩
theorem spec_KnowOk_ok : okFn Try.prog 66 spec_KnowOk = true := by kernel_rfl
def spec_l18Link : IFn := ⟨19, (.seq (.reg false [⟨some 2, .box (.t 0), none⟩,
    ⟨some 3, .box (.t 1), none⟩,
    ⟨some 4, .mv (.c (.bool false)), none⟩] [] [2, 3])
  (.seq (.reg false [⟨some 5, .ld (some 1) (.t 2), none⟩,
    ⟨some 6, .fad 0 (.t 3), none⟩,
    ⟨some 7, .ld none (.t 6), none⟩,
    ⟨some 8, .call 59 [.t 5, .t 7], none⟩,
    ⟨some 9, .mv (.t 8), none⟩,
    ⟨some 10, .fad 1 (.t 3), some (9, true)⟩,
    ⟨some 11, .ld none (.t 10), some (9, true)⟩,
    ⟨some 12, .call 108 [.t 11, .c (.int .i64 0), .c (.int .i64 20)], some (9, true)⟩,
    ⟨some 13, .pick (.t 9) (.t 12) (.c (.bool false)), none⟩,
    ⟨some 14, .mv (.t 13), none⟩,
    ⟨some 15, .fad 2 (.t 3), some (14, true)⟩,
    ⟨some 16, .ld none (.t 15), some (14, true)⟩,
    ⟨some 17, .call 108 [.t 16, .c (.int .i64 0), .c (.int .i64 20)], some (14, true)⟩,
    ⟨some 18, .pick (.t 14) (.t 17) (.c (.bool false)), none⟩,
    ⟨some 4, .mv (.t 18), none⟩] [] [4])
  .ret)), [(4, none)]⟩
theorem spec_l18Link_ok : okFn Try.prog 67 spec_l18Link = true := by kernel_rfl
def spec_l19Terms : IFn := ⟨22, (.seq (.reg false [⟨some 2, .box (.t 0), none⟩,
    ⟨some 4, .mv (.c (.bool false)), none⟩] [] [1, 2])
  (.seq (.seq (.reg false [⟨some 5, .mv (.c (.int .i64 0)), none⟩] [] [1, 2, 5])
  (.block 0 (.loop (.seq (.seq (.reg false [⟨some 6, .mv (.t 5), none⟩,
    ⟨some 7, .mv (.t 1), none⟩,
    ⟨some 8, .len false (.t 7), none⟩,
    ⟨some 9, .bin .lss (.t 6) (.t 8), none⟩] [] [1, 2, 5, 9])
  (.cond (.t 9)
  .skip
  (.exit 0)))
  (.seq (.block 1 (.seq (.reg true [⟨some 12, .ld (some 1) (.t 2), none⟩,
    ⟨some 13, .mv (.t 1), none⟩,
    ⟨some 14, .mv (.t 5), none⟩,
    ⟨some 15, .iad 1 (.t 13) (.t 14), none⟩,
    ⟨some 16, .ld none (.t 15), none⟩,
    ⟨some 17, .call 59 [.t 12, .t 16], none⟩,
    ⟨some 18, .not (.t 17), none⟩] [0, 0, 0, 6, 14, 31, 63] [1, 2, 5, 18])
  (.cond (.t 18)
  (.seq (.reg false [⟨some 4, .mv (.c (.bool false)), none⟩] [] [4])
  .ret)
  .skip)))
  (.reg false [⟨some 10, .mv (.t 5), none⟩,
    ⟨some 11, .bin .add (.t 10) (.c (.int .i64 1)), none⟩,
    ⟨some 5, .mv (.t 11), none⟩] [] [1, 2, 5]))))))
  (.seq (.reg false [⟨some 19, .mv (.t 1), none⟩,
    ⟨some 20, .len false (.t 19), none⟩,
    ⟨some 21, .bin .leq (.t 20) (.c (.int .i64 60)), none⟩,
    ⟨some 4, .mv (.t 21), none⟩] [] [4])
  .ret))), [(4, none)]⟩
theorem spec_l19Terms_ok : okFn Try.prog 68 spec_l19Terms = true := by kernel_rfl
def impl_KnowOk : IFn := ⟨38, (.seq (.reg false [⟨some 2, .box (.t 0), none⟩,
    ⟨some 4, .mv (.c (.bool false)), none⟩] [] [1, 2])
  (.seq (.seq (.reg false [⟨some 7, .mv (.t 1), none⟩,
    ⟨some 8, .len false (.t 7), none⟩,
    ⟨some 9, .mv (.c (.int .i64 0)), none⟩] [] [1, 2, 7, 8, 9])
  (.block 0 (.loop (.seq (.reg false [⟨some 10, .bin .lss (.t 9) (.t 8), none⟩] [] [1, 2, 7, 8, 9, 10])
  (.seq (.cond (.t 10)
  .skip
  (.exit 0))
  (.seq (.block 1 (.seq (.reg false [⟨some 11, .mv (.t 9), none⟩,
    ⟨some 12, .iad 1 (.t 7) (.t 9), none⟩,
    ⟨some 13, .ld none (.t 12), none⟩,
    ⟨some 5, .mv (.t 11), none⟩,
    ⟨some 6, .mv (.t 13), none⟩] [] [1, 2, 5, 6, 7, 8, 9])
  (.seq (.reg false [⟨some 14, .mv (.t 6), none⟩,
    ⟨some 15, .call 62 [.t 2, .t 14], none⟩,
    ⟨some 16, .not (.t 15), none⟩,
    ⟨some 17, .mv (.t 16), none⟩,
    ⟨some 18, .mv (.t 5), some (17, false)⟩,
    ⟨some 19, .bin .gtr (.t 18) (.c (.int .i64 0)), some (17, false)⟩,
    ⟨some 20, .mv (.t 19), some (17, false)⟩,
    ⟨some 21, .mv (.t 6), some (20, true)⟩,
    ⟨some 22, .mv (.t 1), some (20, true)⟩,
    ⟨some 23, .mv (.t 5), some (20, true)⟩,
    ⟨some 24, .bin .sub (.t 23) (.c (.int .i64 1)), some (20, true)⟩,
    ⟨some 25, .iad 1 (.t 22) (.t 24), some (20, true)⟩,
    ⟨some 26, .ld none (.t 25), some (20, true)⟩,
    ⟨some 27, .bin .leq (.t 21) (.t 26), some (20, true)⟩,
    ⟨some 28, .pick (.t 20) (.t 27) (.c (.bool false)), some (17, false)⟩,
    ⟨some 29, .pick (.t 17) (.c (.bool true)) (.t 28), none⟩] [] [1, 2, 7, 8, 9, 29])
  (.cond (.t 29)
  (.seq (.reg false [⟨some 4, .mv (.c (.bool false)), none⟩] [] [4])
  .ret)
  .skip))))
  (.reg false [⟨some 30, .bin .add (.t 9) (.c (.int .i64 1)), none⟩,
    ⟨some 9, .mv (.t 30), none⟩] [] [1, 2, 7, 8, 9])))))))
  (.seq (.reg false [⟨some 31, .mv (.t 1), none⟩,
    ⟨some 32, .len false (.t 31), none⟩,
    ⟨some 33, .bin .leq (.t 32) (.c (.int .i64 200)), none⟩,
    ⟨some 34, .mv (.t 33), none⟩,
    ⟨some 35, .ld (some 1) (.t 2), some (34, true)⟩,
    ⟨some 36, .call 84 [.t 35], some (34, true)⟩,
    ⟨some 37, .pick (.t 34) (.t 36) (.c (.bool false)), none⟩,
    ⟨some 4, .mv (.t 37), none⟩] [] [4])
  .ret))), [(4, none)]⟩
theorem impl_KnowOk_ok : okFn Try.prog 69 impl_KnowOk = true := by kernel_rfl
def impl_Stream_termsOk : IFn := ⟨23, (.seq (.reg false [⟨some 4, .mv (.c (.bool false)), none⟩] [] [0, 1])
  (.seq (.seq (.reg false [⟨some 7, .mv (.t 1), none⟩,
    ⟨some 8, .len false (.t 7), none⟩,
    ⟨some 9, .mv (.c (.int .i64 0)), none⟩] [] [0, 1, 7, 8, 9])
  (.block 0 (.loop (.seq (.reg false [⟨some 10, .bin .lss (.t 9) (.t 8), none⟩] [] [0, 1, 7, 8, 9, 10])
  (.seq (.cond (.t 10)
  .skip
  (.exit 0))
  (.seq (.block 1 (.seq (.reg false [⟨some 11, .iad 1 (.t 7) (.t 9), none⟩,
    ⟨some 12, .ld none (.t 11), none⟩,
    ⟨some 6, .mv (.t 12), none⟩] [] [0, 1, 6, 7, 8, 9])
  (.seq (.reg false [⟨some 13, .mv (.t 0), none⟩,
    ⟨some 14, .nck (.t 13), none⟩,
    ⟨some 15, .fad 0 (.t 14), none⟩,
    ⟨some 16, .mv (.t 6), none⟩,
    ⟨some 17, .call 62 [.t 15, .t 16], none⟩,
    ⟨some 18, .not (.t 17), none⟩] [] [0, 1, 7, 8, 9, 18])
  (.cond (.t 18)
  (.seq (.reg false [⟨some 4, .mv (.c (.bool false)), none⟩] [] [4])
  .ret)
  .skip))))
  (.reg false [⟨some 19, .bin .add (.t 9) (.c (.int .i64 1)), none⟩,
    ⟨some 9, .mv (.t 19), none⟩] [] [0, 1, 7, 8, 9])))))))
  (.seq (.reg false [⟨some 20, .mv (.t 1), none⟩,
    ⟨some 21, .len false (.t 20), none⟩,
    ⟨some 22, .bin .leq (.t 21) (.c (.int .i64 60)), none⟩,
    ⟨some 4, .mv (.t 22), none⟩] [] [4])
  .ret))), [(4, none)]⟩
theorem impl_Stream_termsOk_ok : okFn Try.prog 70 impl_Stream_termsOk = true := by kernel_rfl
def spec_PoolOk : IFn := ⟨34, (.seq (.reg false [⟨some 1, .box (.t 0), none⟩,
    ⟨some 2, .mv (.c (.bool false)), none⟩] [] [1])
  (.seq (.seq (.reg false [⟨some 4, .fad 0 (.t 1), none⟩,
    ⟨some 5, .ld none (.t 4), none⟩,
    ⟨some 6, .len false (.t 5), none⟩,
    ⟨some 7, .bin .gtr (.t 6) (.c (.int .i64 500)), none⟩] [] [1, 7])
  (.cond (.t 7)
  (.seq (.reg false [⟨some 2, .mv (.c (.bool false)), none⟩] [] [2])
  .ret)
  .skip))
  (.seq (.seq (.reg false [⟨some 3, .mv (.c (.int .i64 0)), none⟩] [] [1, 3])
  (.block 0 (.loop (.seq (.seq (.reg false [⟨some 8, .mv (.t 3), none⟩,
    ⟨some 9, .fad 0 (.t 1), none⟩,
    ⟨some 10, .ld none (.t 9), none⟩,
    ⟨some 11, .len false (.t 10), none⟩,
    ⟨some 12, .bin .lss (.t 8) (.t 11), none⟩] [] [1, 3, 12])
  (.cond (.t 12)
  .skip
  (.exit 0)))
  (.seq (.block 1 (.seq (.reg true [⟨some 15, .fad 0 (.t 1), none⟩,
    ⟨some 16, .ld none (.t 15), none⟩,
    ⟨some 17, .mv (.t 3), none⟩,
    ⟨some 18, .iad 3 (.t 16) (.t 17), none⟩,
    ⟨some 19, .ld (some 3) (.t 18), none⟩,
    ⟨some 20, .mv (.t 3), none⟩,
    ⟨some 21, .call 112 [.t 19, .t 20], none⟩,
    ⟨some 22, .not (.t 21), none⟩,
    ⟨some 23, .mv (.t 22), none⟩,
    ⟨some 24, .ld (some 1) (.t 1), some (23, false)⟩,
    ⟨some 25, .fad 0 (.t 1), some (23, false)⟩,
    ⟨some 26, .ld none (.t 25), some (23, false)⟩,
    ⟨some 27, .mv (.t 3), some (23, false)⟩,
    ⟨some 28, .iad 3 (.t 26) (.t 27), some (23, false)⟩,
    ⟨some 29, .ld (some 3) (.t 28), some (23, false)⟩,
    ⟨some 30, .call 113 [.t 24, .t 29], some (23, false)⟩,
    ⟨some 31, .mv (.t 3), some (23, false)⟩,
    ⟨some 32, .bin .neq (.t 30) (.t 31), some (23, false)⟩,
    ⟨some 33, .pick (.t 23) (.c (.bool true)) (.t 32), none⟩] [0, 1, 0, 7, 15, 0, 63, 127, 255, 511, 511, 1535, 511, 7679, 15871, 32767, 511, 131071, 262143] [1, 3, 33])
  (.cond (.t 33)
  (.seq (.reg false [⟨some 2, .mv (.c (.bool false)), none⟩] [] [2])
  .ret)
  .skip)))
  (.reg false [⟨some 13, .mv (.t 3), none⟩,
    ⟨some 14, .bin .add (.t 13) (.c (.int .i64 1)), none⟩,
    ⟨some 3, .mv (.t 14), none⟩] [] [1, 3]))))))
  (.seq (.reg false [⟨some 2, .mv (.c (.bool true)), none⟩] [] [2])
  .ret)))), [(2, none)]⟩
theorem spec_PoolOk_ok : okFn Try.prog 71 spec_PoolOk = true := by kernel_rfl
def spec_l1Copy : IFn := ⟨8, (.seq (.reg false [⟨some 1, .box (.t 0), none⟩,
    ⟨some 2, .new [.nil], none⟩] [] [1, 2])
  (.seq (.reg false [⟨some 3, .bsl 3 0 [.int .i64 0, .int .i64 0, .int .i64 0] [], none⟩,
    ⟨some 4, .fad 0 (.t 1), none⟩,
    ⟨some 5, .ld none (.t 4), none⟩,
    ⟨some 6, .app 3 24 (.t 3) (.t 5), none⟩,
    ⟨some 7, .build [.nil] [(0, 1, .t 6)], none⟩,
    ⟨none, .st 1 (.t 2) (.t 7), none⟩] [] [2])
  .ret)), [(2, some (some 1))]⟩
theorem spec_l1Copy_ok : okFn Try.prog 72 spec_l1Copy = true := by kernel_rfl
def spec_l18Turn : IFn := ⟨47, (.seq (.reg false [⟨some 2, .box (.t 0), none⟩,
    ⟨some 3, .box (.t 1), none⟩,
    ⟨some 4, .new [.nil], none⟩,
    ⟨some 5, .new [.int .i64 0, .int .i64 0, .int .i64 0, .bool false], none⟩,
    ⟨some 6, .mv (.c (.bool false)), none⟩] [] [2, 3, 4, 5])
  (.seq (.seq (.reg false [⟨some 10, .fad 3 (.t 3), none⟩,
    ⟨some 11, .ld none (.t 10), none⟩,
    ⟨some 12, .mv (.t 11), none⟩,
    ⟨some 13, .fad 1 (.t 3), some (12, false)⟩,
    ⟨some 14, .ld none (.t 13), some (12, false)⟩,
    ⟨some 15, .bin .eql (.t 14) (.c (.int .i64 20)), some (12, false)⟩,
    ⟨some 16, .pick (.t 12) (.c (.bool true)) (.t 15), none⟩] [] [2, 3, 4, 5, 16])
  (.cond (.t 16)
  (.seq (.reg true [⟨some 17, .ld (some 1) (.t 2), none⟩,
    ⟨some 18, .ld (some 4) (.t 3), none⟩,
    ⟨none, .st 1 (.t 4) (.t 17), none⟩,
    ⟨none, .st 4 (.t 5) (.t 18), none⟩,
    ⟨some 6, .mv (.c (.bool false)), none⟩] [0, 0, 1, 7, 15] [4, 5, 6])
  .ret)
  .skip))
  (.seq (.reg false [⟨some 20, .ld (some 1) (.t 2), none⟩,
    ⟨some 21, .call 97 [.t 20, .c (.int .i64 7)], none⟩,
    ⟨some 19, .mv (.t 21), none⟩,
    ⟨some 22, .ext (.t 19) 0, none⟩,
    ⟨some 23, .ext (.t 19) 1, none⟩,
    ⟨some 7, .new [.nil], none⟩,
    ⟨none, .st 1 (.t 7) (.t 22), none⟩,
    ⟨some 8, .mv (.t 23), none⟩] [] [2, 3, 4, 5, 7, 8])
  (.seq (.seq (.reg false [⟨some 24, .mv (.t 8), none⟩,
    ⟨some 25, .bin .lss (.t 24) (.c (.int .i64 0)), none⟩] [] [2, 3, 4, 5, 7, 8, 25])
  (.cond (.t 25)
  (.seq (.reg true [⟨some 26, .ld (some 1) (.t 2), none⟩,
    ⟨some 27, .ld (some 4) (.t 3), none⟩,
    ⟨none, .st 1 (.t 4) (.t 26), none⟩,
    ⟨none, .st 4 (.t 5) (.t 27), none⟩,
    ⟨some 6, .mv (.c (.bool false)), none⟩] [0, 0, 1, 7, 15] [4, 5, 6])
  .ret)
  .skip))
  (.seq (.reg false [⟨some 29, .ld (some 1) (.t 7), none⟩,
    ⟨some 30, .fad 0 (.t 3), none⟩,
    ⟨some 31, .ld none (.t 30), none⟩,
    ⟨some 32, .mv (.t 8), none⟩,
    ⟨some 33, .build [.int .i64 0, .int .i64 0, .int .i64 0] [(0, 1, .c (.int .i64 6)), (1, 1, .t 31), (2, 1, .t 32)], none⟩,
    ⟨some 34, .call 99 [.t 29, .t 33], none⟩,
    ⟨some 28, .mv (.t 34), none⟩,
    ⟨some 35, .ext (.t 28) 0, none⟩,
    ⟨some 36, .ext (.t 28) 1, none⟩,
    ⟨none, .st 1 (.t 7) (.t 35), none⟩,
    ⟨some 9, .mv (.t 36), none⟩] [] [2, 3, 4, 5, 7, 9])
  (.seq (.seq (.reg false [⟨some 37, .mv (.t 9), none⟩,
    ⟨some 38, .bin .lss (.t 37) (.c (.int .i64 0)), none⟩] [] [2, 3, 4, 5, 7, 9, 38])
  (.cond (.t 38)
  (.seq (.reg true [⟨some 39, .ld (some 1) (.t 2), none⟩,
    ⟨some 40, .ld (some 4) (.t 3), none⟩,
    ⟨none, .st 1 (.t 4) (.t 39), none⟩,
    ⟨none, .st 4 (.t 5) (.t 40), none⟩,
    ⟨some 6, .mv (.c (.bool false)), none⟩] [0, 0, 1, 7, 15] [4, 5, 6])
  .ret)
  .skip))
  (.seq (.reg true [⟨some 41, .ld (some 1) (.t 7), none⟩,
    ⟨some 42, .mv (.t 9), none⟩,
    ⟨some 43, .fad 1 (.t 3), none⟩,
    ⟨some 44, .ld none (.t 43), none⟩,
    ⟨some 45, .bin .add (.t 44) (.c (.int .i64 1)), none⟩,
    ⟨some 46, .build [.int .i64 0, .int .i64 0, .int .i64 0, .bool false] [(0, 1, .t 42), (1, 1, .t 45)], none⟩,
    ⟨none, .st 1 (.t 4) (.t 41), none⟩,
    ⟨none, .st 4 (.t 5) (.t 46), none⟩,
    ⟨some 6, .mv (.c (.bool true)), none⟩] [0, 0, 0, 4, 12, 30, 1, 127, 255] [4, 5, 6])
  .ret))))))), [(4, some (some 1)), (5, some (some 4)), (6, none)]⟩
theorem spec_l18Turn_ok : okFn Try.prog 73 spec_l18Turn = true := by kernel_rfl
def impl_orEmpty : IFn := ⟨9, (.seq (.reg false [⟨some 1, .box (.t 0), none⟩,
    ⟨some 2, .new [.nil], none⟩] [] [1, 2])
  (.seq (.seq (.reg false [⟨some 3, .ld (some 1) (.t 1), none⟩,
    ⟨some 4, .call 84 [.t 3], none⟩,
    ⟨some 5, .not (.t 4), none⟩] [] [1, 2, 5])
  (.cond (.t 5)
  (.seq (.reg false [⟨some 6, .build [.nil] [], none⟩,
    ⟨none, .st 1 (.t 2) (.t 6), none⟩] [] [2])
  .ret)
  .skip))
  (.seq (.reg false [⟨some 7, .ld (some 1) (.t 1), none⟩,
    ⟨some 8, .call 75 [.t 7], none⟩,
    ⟨none, .st 1 (.t 2) (.t 8), none⟩] [] [2])
  .ret))), [(2, some (some 1))]⟩
theorem impl_orEmpty_ok : okFn Try.prog 74 impl_orEmpty = true := by kernel_rfl
def impl_copyPool : IFn := ⟨7, (.seq (.reg false [⟨some 1, .box (.t 0), none⟩,
    ⟨some 2, .new [.nil], none⟩] [] [1, 2])
  (.seq (.reg false [⟨some 3, .fad 0 (.t 1), none⟩,
    ⟨some 4, .ld none (.t 3), none⟩,
    ⟨some 5, .call 114 [.t 4], none⟩,
    ⟨some 6, .build [.nil] [(0, 1, .t 5)], none⟩,
    ⟨none, .st 1 (.t 2) (.t 6), none⟩] [] [2])
  .ret)), [(2, some (some 1))]⟩
theorem impl_copyPool_ok : okFn Try.prog 75 impl_copyPool = true := by kernel_rfl
def impl_Pool_add : IFn := ⟨61, (.seq (.reg false [⟨some 8, .mv (.c (.int .i64 0)), none⟩] [] [0, 1, 2, 3])
  (.seq (.reg false [⟨some 11, .mv (.t 1), none⟩,
    ⟨some 12, .mv (.t 2), none⟩,
    ⟨some 13, .mv (.t 3), none⟩,
    ⟨some 14, .build [.int .i64 0, .int .i64 0, .int .i64 0] [(0, 1, .t 11), (1, 1, .t 12), (2, 1, .t 13)], none⟩,
    ⟨some 9, .new [.int .i64 0, .int .i64 0, .int .i64 0], none⟩,
    ⟨none, .st 3 (.t 9) (.t 14), none⟩] [] [0, 1, 2, 3, 9])
  (.seq (.seq (.reg false [⟨some 15, .mv (.t 1), none⟩,
    ⟨some 16, .bin .eql (.t 15) (.c (.int .i64 8)), none⟩] [] [0, 2, 3, 9, 16])
  (.cond (.t 16)
  (.reg false [⟨some 17, .mv (.t 2), none⟩,
    ⟨some 18, .mv (.t 3), none⟩,
    ⟨some 19, .mm false (.t 17) [.t 18], none⟩,
    ⟨some 20, .mv (.t 2), none⟩,
    ⟨some 21, .mv (.t 3), none⟩,
    ⟨some 22, .mm true (.t 20) [.t 21], none⟩,
    ⟨some 23, .fad 1 (.t 9), none⟩,
    ⟨none, .st 1 (.t 23) (.t 19), none⟩,
    ⟨some 24, .fad 2 (.t 9), none⟩,
    ⟨none, .st 1 (.t 24) (.t 22), none⟩] [] [0, 9])
  .skip))
  (.seq (.seq (.reg true [⟨some 25, .ld (some 3) (.t 9), none⟩,
    ⟨some 26, .mv (.t 0), none⟩,
    ⟨some 27, .nck (.t 26), none⟩,
    ⟨some 28, .fad 0 (.t 27), none⟩,
    ⟨some 29, .ld none (.t 28), none⟩,
    ⟨some 30, .len false (.t 29), none⟩,
    ⟨some 31, .call 115 [.t 25, .t 30], none⟩,
    ⟨some 32, .not (.t 31), none⟩] [0, 0, 2, 6, 14, 30, 63, 127] [0, 9, 32])
  (.cond (.t 32)
  (.seq (.reg false [⟨some 8, .mv (.c (.int .i64 (-1))), none⟩] [] [8])
  .ret)
  .skip))
  (.seq (.seq (.reg false [⟨some 33, .mv (.t 0), none⟩,
    ⟨some 34, .ld (some 3) (.t 9), none⟩,
    ⟨some 35, .call 116 [.t 33, .t 34], none⟩,
    ⟨some 10, .mv (.t 35), none⟩] [] [0, 9, 10])
  (.seq (.reg false [⟨some 36, .mv (.t 10), none⟩,
    ⟨some 37, .bin .geq (.t 36) (.c (.int .i64 0)), none⟩] [] [0, 9, 10, 37])
  (.cond (.t 37)
  (.seq (.reg false [⟨some 38, .mv (.t 10), none⟩,
    ⟨some 8, .mv (.t 38), none⟩] [] [8])
  .ret)
  .skip)))
  (.seq (.seq (.reg false [⟨some 39, .mv (.t 0), none⟩,
    ⟨some 40, .nck (.t 39), none⟩,
    ⟨some 41, .fad 0 (.t 40), none⟩,
    ⟨some 42, .ld none (.t 41), none⟩,
    ⟨some 43, .len false (.t 42), none⟩,
    ⟨some 44, .bin .geq (.t 43) (.c (.int .i64 500)), none⟩] [] [0, 9, 44])
  (.cond (.t 44)
  (.seq (.reg false [⟨some 8, .mv (.c (.int .i64 (-1))), none⟩] [] [8])
  .ret)
  .skip))
  (.seq (.reg true [⟨some 45, .mv (.t 0), none⟩,
    ⟨some 46, .mv (.t 0), none⟩,
    ⟨some 47, .nck (.t 46), none⟩,
    ⟨some 48, .fad 0 (.t 47), none⟩,
    ⟨some 49, .ld none (.t 48), none⟩,
    ⟨some 50, .ld (some 3) (.t 9), none⟩,
    ⟨some 51, .bsl 3 1 [.int .i64 0, .int .i64 0, .int .i64 0] [(0, 3, .t 50)], none⟩,
    ⟨some 52, .app 3 24 (.t 49) (.t 51), none⟩,
    ⟨some 53, .nck (.t 45), none⟩,
    ⟨some 54, .fad 0 (.t 53), none⟩,
    ⟨none, .st 1 (.t 54) (.t 52), none⟩] [0, 0, 2, 6, 14, 0, 32, 126, 255, 511, 1023] [0])
  (.seq (.reg false [⟨some 55, .mv (.t 0), none⟩,
    ⟨some 56, .nck (.t 55), none⟩,
    ⟨some 57, .fad 0 (.t 56), none⟩,
    ⟨some 58, .ld none (.t 57), none⟩,
    ⟨some 59, .len false (.t 58), none⟩,
    ⟨some 60, .bin .sub (.t 59) (.c (.int .i64 1)), none⟩,
    ⟨some 8, .mv (.t 60), none⟩] [] [8])
  .ret)))))))), [(8, none)]⟩
theorem impl_Pool_add_ok : okFn Try.prog 76 impl_Pool_add = true := by kernel_rfl
def impl_Pool_name : IFn := ⟨8, (.seq (.reg false [⟨some 4, .mv (.c (.int .i64 0)), none⟩] [] [0, 1])
  (.seq (.reg false [⟨some 5, .mv (.t 0), none⟩,
    ⟨some 6, .mv (.t 1), none⟩,
    ⟨some 7, .call 76 [.t 5, .c (.int .i64 1), .t 6, .c (.int .i64 0)], none⟩,
    ⟨some 4, .mv (.t 7), none⟩] [] [4])
  .ret)), [(4, none)]⟩
theorem impl_Pool_name_ok : okFn Try.prog 77 impl_Pool_name = true := by kernel_rfl
def laws_markNodeS : IFn := ⟨34, (.seq (.reg false [⟨some 4, .mv (.c (.int .i64 0)), none⟩] [] [0, 1])
  (.seq (.seq (.reg false [⟨some 5, .mv (.c (.int .i64 0)), none⟩] [] [0, 1, 5])
  (.block 0 (.loop (.seq (.seq (.reg false [⟨some 6, .mv (.t 5), none⟩,
    ⟨some 7, .mv (.t 0), none⟩,
    ⟨some 8, .len false (.t 7), none⟩,
    ⟨some 9, .bin .lss (.t 6) (.t 8), none⟩] [] [0, 1, 5, 9])
  (.cond (.t 9)
  .skip
  (.exit 0)))
  (.seq (.block 1 (.seq (.reg false [⟨some 12, .mv (.t 0), none⟩,
    ⟨some 13, .mv (.t 5), none⟩,
    ⟨some 14, .mv (.t 1), none⟩,
    ⟨some 15, .iad 3 (.t 12) (.t 13), none⟩,
    ⟨some 16, .fad 0 (.t 15), none⟩,
    ⟨none, .st 1 (.t 16) (.t 14), none⟩] [] [0, 1, 5])
  (.seq (.reg false [⟨some 17, .mv (.t 1), none⟩,
    ⟨some 18, .bin .add (.t 17) (.c (.int .i64 1)), none⟩,
    ⟨some 1, .mv (.t 18), none⟩] [] [0, 1, 5])
  (.seq (.reg false [⟨some 19, .mv (.t 0), none⟩,
    ⟨some 20, .mv (.t 5), none⟩,
    ⟨some 21, .mv (.t 1), none⟩,
    ⟨some 22, .iad 3 (.t 19) (.t 20), none⟩,
    ⟨some 23, .fad 1 (.t 22), none⟩,
    ⟨none, .st 1 (.t 23) (.t 21), none⟩] [] [0, 1, 5])
  (.seq (.reg false [⟨some 24, .mv (.t 1), none⟩,
    ⟨some 25, .bin .add (.t 24) (.c (.int .i64 1)), none⟩,
    ⟨some 1, .mv (.t 25), none⟩] [] [0, 1, 5])
  (.seq (.reg false [⟨some 26, .mv (.t 0), none⟩,
    ⟨some 27, .mv (.t 5), none⟩,
    ⟨some 28, .mv (.t 1), none⟩,
    ⟨some 29, .iad 3 (.t 26) (.t 27), none⟩,
    ⟨some 30, .fad 2 (.t 29), none⟩,
    ⟨none, .st 1 (.t 30) (.t 28), none⟩] [] [0, 1, 5])
  (.reg false [⟨some 31, .mv (.t 1), none⟩,
    ⟨some 32, .bin .add (.t 31) (.c (.int .i64 1)), none⟩,
    ⟨some 1, .mv (.t 32), none⟩] [] [0, 1, 5])))))))
  (.reg false [⟨some 10, .mv (.t 5), none⟩,
    ⟨some 11, .bin .add (.t 10) (.c (.int .i64 1)), none⟩,
    ⟨some 5, .mv (.t 11), none⟩] [] [0, 1, 5]))))))
  (.seq (.reg false [⟨some 33, .mv (.t 1), none⟩,
    ⟨some 4, .mv (.t 33), none⟩] [] [4])
  .ret))), [(4, none)]⟩
theorem laws_markNodeS_ok : okFn Try.prog 78 laws_markNodeS = true := by kernel_rfl
def laws_heldNodeS : IFn := ⟨40, (.seq (.reg false [⟨some 4, .mv (.c (.int .i64 0)), none⟩] [] [0, 1])
  (.seq (.seq (.reg false [⟨some 5, .mv (.c (.int .i64 0)), none⟩] [] [0, 1, 5])
  (.block 0 (.loop (.seq (.seq (.reg false [⟨some 6, .mv (.t 5), none⟩,
    ⟨some 7, .mv (.t 0), none⟩,
    ⟨some 8, .len false (.t 7), none⟩,
    ⟨some 9, .bin .lss (.t 6) (.t 8), none⟩] [] [0, 1, 5, 9])
  (.cond (.t 9)
  .skip
  (.exit 0)))
  (.seq (.block 1 (.seq (.seq (.reg false [⟨some 12, .mv (.t 0), none⟩,
    ⟨some 13, .mv (.t 5), none⟩,
    ⟨some 14, .iad 3 (.t 12) (.t 13), none⟩,
    ⟨some 15, .fad 0 (.t 14), none⟩,
    ⟨some 16, .ld none (.t 15), none⟩,
    ⟨some 17, .mv (.t 1), none⟩,
    ⟨some 18, .bin .neq (.t 16) (.t 17), none⟩] [] [0, 1, 5, 18])
  (.cond (.t 18)
  (.seq (.reg false [⟨some 4, .mv (.c (.int .i64 (-1))), none⟩] [] [4])
  .ret)
  .skip))
  (.seq (.reg false [⟨some 19, .mv (.t 1), none⟩,
    ⟨some 20, .bin .add (.t 19) (.c (.int .i64 1)), none⟩,
    ⟨some 1, .mv (.t 20), none⟩] [] [0, 1, 5])
  (.seq (.seq (.reg false [⟨some 21, .mv (.t 0), none⟩,
    ⟨some 22, .mv (.t 5), none⟩,
    ⟨some 23, .iad 3 (.t 21) (.t 22), none⟩,
    ⟨some 24, .fad 1 (.t 23), none⟩,
    ⟨some 25, .ld none (.t 24), none⟩,
    ⟨some 26, .mv (.t 1), none⟩,
    ⟨some 27, .bin .neq (.t 25) (.t 26), none⟩] [] [0, 1, 5, 27])
  (.cond (.t 27)
  (.seq (.reg false [⟨some 4, .mv (.c (.int .i64 (-1))), none⟩] [] [4])
  .ret)
  .skip))
  (.seq (.reg false [⟨some 28, .mv (.t 1), none⟩,
    ⟨some 29, .bin .add (.t 28) (.c (.int .i64 1)), none⟩,
    ⟨some 1, .mv (.t 29), none⟩] [] [0, 1, 5])
  (.seq (.seq (.reg false [⟨some 30, .mv (.t 0), none⟩,
    ⟨some 31, .mv (.t 5), none⟩,
    ⟨some 32, .iad 3 (.t 30) (.t 31), none⟩,
    ⟨some 33, .fad 2 (.t 32), none⟩,
    ⟨some 34, .ld none (.t 33), none⟩,
    ⟨some 35, .mv (.t 1), none⟩,
    ⟨some 36, .bin .neq (.t 34) (.t 35), none⟩] [] [0, 1, 5, 36])
  (.cond (.t 36)
  (.seq (.reg false [⟨some 4, .mv (.c (.int .i64 (-1))), none⟩] [] [4])
  .ret)
  .skip))
  (.reg false [⟨some 37, .mv (.t 1), none⟩,
    ⟨some 38, .bin .add (.t 37) (.c (.int .i64 1)), none⟩,
    ⟨some 1, .mv (.t 38), none⟩] [] [0, 1, 5])))))))
  (.reg false [⟨some 10, .mv (.t 5), none⟩,
    ⟨some 11, .bin .add (.t 10) (.c (.int .i64 1)), none⟩,
    ⟨some 5, .mv (.t 11), none⟩] [] [0, 1, 5]))))))
  (.seq (.reg false [⟨some 39, .mv (.t 1), none⟩,
    ⟨some 4, .mv (.t 39), none⟩] [] [4])
  .ret))), [(4, none)]⟩
theorem laws_heldNodeS_ok : okFn Try.prog 79 laws_heldNodeS = true := by kernel_rfl
def spec_l18Send : IFn := ⟨49, (.seq (.reg false [⟨some 3, .box (.t 0), none⟩,
    ⟨some 4, .box (.t 1), none⟩,
    ⟨some 6, .new [.nil], none⟩,
    ⟨some 7, .new [.int .i64 0, .int .i64 0, .int .i64 0, .bool false], none⟩,
    ⟨some 8, .mv (.c (.int .i64 0)), none⟩] [] [2, 3, 4, 6, 7])
  (.seq (.seq (.reg false [⟨some 11, .ld (some 1) (.t 3), none⟩,
    ⟨some 12, .mv (.t 2), none⟩,
    ⟨some 13, .call 59 [.t 11, .t 12], none⟩,
    ⟨some 14, .not (.t 13), none⟩,
    ⟨some 15, .mv (.t 14), none⟩,
    ⟨some 16, .ld (some 1) (.t 3), some (15, false)⟩,
    ⟨some 17, .mv (.t 2), some (15, false)⟩,
    ⟨some 18, .call 60 [.t 16, .t 17], some (15, false)⟩,
    ⟨some 19, .pick (.t 15) (.c (.bool true)) (.t 18), none⟩,
    ⟨some 20, .mv (.t 19), none⟩,
    ⟨some 21, .fad 3 (.t 4), some (20, false)⟩,
    ⟨some 22, .ld none (.t 21), some (20, false)⟩,
    ⟨some 23, .pick (.t 20) (.c (.bool true)) (.t 22), none⟩,
    ⟨some 24, .mv (.t 23), none⟩,
    ⟨some 25, .fad 2 (.t 4), some (24, false)⟩,
    ⟨some 26, .ld none (.t 25), some (24, false)⟩,
    ⟨some 27, .bin .eql (.t 26) (.c (.int .i64 20)), some (24, false)⟩,
    ⟨some 28, .pick (.t 24) (.c (.bool true)) (.t 27), none⟩] [] [2, 3, 4, 6, 7, 28])
  (.cond (.t 28)
  (.seq (.reg true [⟨some 29, .ld (some 1) (.t 3), none⟩,
    ⟨some 30, .ld (some 4) (.t 4), none⟩,
    ⟨none, .st 1 (.t 6) (.t 29), none⟩,
    ⟨none, .st 4 (.t 7) (.t 30), none⟩,
    ⟨some 8, .mv (.c (.int .i64 (-1))), none⟩] [0, 0, 1, 7, 15] [6, 7, 8])
  .ret)
  .skip))
  (.seq (.reg false [⟨some 32, .ld (some 1) (.t 3), none⟩,
    ⟨some 33, .ld (some 4) (.t 4), none⟩,
    ⟨some 34, .mv (.t 2), none⟩,
    ⟨some 35, .call 117 [.t 32, .t 33, .t 34], none⟩,
    ⟨some 31, .mv (.t 35), none⟩,
    ⟨some 36, .ext (.t 31) 0, none⟩,
    ⟨some 37, .ext (.t 31) 1, none⟩,
    ⟨some 9, .new [.nil], none⟩,
    ⟨none, .st 1 (.t 9) (.t 36), none⟩,
    ⟨some 10, .mv (.t 37), none⟩] [] [3, 4, 6, 7, 9, 10])
  (.seq (.seq (.reg false [⟨some 38, .mv (.t 10), none⟩,
    ⟨some 39, .bin .lss (.t 38) (.c (.int .i64 0)), none⟩] [] [3, 4, 6, 7, 9, 10, 39])
  (.cond (.t 39)
  (.seq (.reg true [⟨some 40, .ld (some 1) (.t 3), none⟩,
    ⟨some 41, .ld (some 4) (.t 4), none⟩,
    ⟨none, .st 1 (.t 6) (.t 40), none⟩,
    ⟨none, .st 4 (.t 7) (.t 41), none⟩,
    ⟨some 8, .mv (.c (.int .i64 (-1))), none⟩] [0, 0, 1, 7, 15] [6, 7, 8])
  .ret)
  .skip))
  (.seq (.reg false [⟨some 42, .fad 2 (.t 4), none⟩,
    ⟨some 43, .ld none (.t 42), none⟩,
    ⟨some 44, .bin .add (.t 43) (.c (.int .i64 1)), none⟩,
    ⟨some 45, .fad 2 (.t 4), none⟩,
    ⟨none, .st 1 (.t 45) (.t 44), none⟩] [] [4, 6, 7, 9, 10])
  (.seq (.reg true [⟨some 46, .ld (some 1) (.t 9), none⟩,
    ⟨some 47, .ld (some 4) (.t 4), none⟩,
    ⟨some 48, .mv (.t 10), none⟩,
    ⟨none, .st 1 (.t 6) (.t 46), none⟩,
    ⟨none, .st 4 (.t 7) (.t 47), none⟩,
    ⟨some 8, .mv (.t 48), none⟩] [0, 0, 0, 1, 11, 31] [6, 7, 8])
  .ret)))))), [(6, some (some 1)), (7, some (some 4)), (8, none)]⟩
theorem spec_l18Send_ok : okFn Try.prog 80 spec_l18Send = true := by kernel_rfl
def impl_Link_seal : IFn := ⟨23, (.seq (.reg false [⟨some 6, .mv (.c (.int .i64 0)), none⟩] [] [0, 1, 2])
  (.seq (.reg true [⟨some 7, .mv (.t 1), none⟩,
    ⟨some 8, .mv (.t 1), none⟩,
    ⟨some 9, .mv (.t 1), none⟩,
    ⟨some 10, .mv (.t 0), none⟩,
    ⟨some 11, .nck (.t 10), none⟩,
    ⟨some 12, .fad 2 (.t 11), none⟩,
    ⟨some 13, .ld none (.t 12), none⟩,
    ⟨some 14, .bin .add (.c (.int .i64 20)) (.t 13), none⟩,
    ⟨some 15, .call 77 [.t 9, .t 14], none⟩,
    ⟨some 16, .mv (.t 2), none⟩,
    ⟨some 17, .call 76 [.t 8, .c (.int .i64 2), .t 15, .t 16], none⟩,
    ⟨some 18, .mv (.t 0), none⟩,
    ⟨some 19, .nck (.t 18), none⟩,
    ⟨some 20, .fad 0 (.t 19), none⟩,
    ⟨some 21, .ld none (.t 20), none⟩,
    ⟨some 22, .call 76 [.t 7, .c (.int .i64 3), .t 17, .t 21], none⟩,
    ⟨some 6, .mv (.t 22), none⟩] [0, 0, 0, 0, 8, 24, 56, 120, 252, 0, 1022, 0, 2048, 6144, 14336, 32767, 65535] [6])
  .ret)), [(6, none)]⟩
theorem impl_Link_seal_ok : okFn Try.prog 81 impl_Link_seal = true := by kernel_rfl
def spec_l18Draw : IFn := ⟨52, (.seq (.reg false [⟨some 2, .new [.nil], none⟩,
    ⟨some 3, .new [.int .i64 0, .int .i64 0, .int .i64 0, .bool false], none⟩,
    ⟨some 4, .mv (.c (.int .i64 0)), none⟩] [] [0, 2, 3])
  (.seq (.reg false [⟨some 9, .mv (.t 0), none⟩,
    ⟨some 10, .call 90 [.t 9], none⟩,
    ⟨some 5, .mv (.t 10), none⟩] [] [2, 3, 5])
  (.seq (.reg false [⟨some 11, .mv (.t 5), none⟩,
    ⟨some 12, .call 118 [.t 11], none⟩,
    ⟨some 6, .new [.nil], none⟩,
    ⟨none, .st 1 (.t 6) (.t 12), none⟩] [] [2, 3, 5, 6])
  (.seq (.reg false [⟨some 13, .mv (.t 5), none⟩,
    ⟨some 14, .ld (some 1) (.t 6), none⟩,
    ⟨some 15, .call 119 [.t 13, .t 14], none⟩,
    ⟨some 16, .mv (.t 5), none⟩,
    ⟨some 17, .call 94 [.t 16, .c (.int .i64 3)], none⟩,
    ⟨some 18, .mv (.t 5), none⟩,
    ⟨some 19, .call 94 [.t 18, .c (.int .i64 4)], none⟩,
    ⟨some 20, .mv (.t 5), none⟩,
    ⟨some 21, .call 91 [.t 20, .c (.int .i64 9)], none⟩,
    ⟨some 22, .build [.int .i64 0, .int .i64 0, .int .i64 0, .bool false] [(0, 1, .t 15), (1, 1, .t 17), (2, 1, .t 19), (3, 1, .t 21)], none⟩,
    ⟨some 7, .new [.int .i64 0, .int .i64 0, .int .i64 0, .bool false], none⟩,
    ⟨none, .st 4 (.t 7) (.t 22), none⟩] [] [2, 3, 5, 6, 7])
  (.seq (.seq (.reg false [⟨some 23, .mv (.t 5), none⟩,
    ⟨some 24, .call 91 [.t 23, .c (.int .i64 12)], none⟩] [] [2, 3, 5, 6, 7, 24])
  (.cond (.t 24)
  (.reg false [⟨some 25, .mv (.t 5), none⟩,
    ⟨some 26, .bsl 1 4 [.int .i64 0] [(0, 1, .c (.int .i64 (-1))), (1, 1, .c (.int .i64 19)), (2, 1, .c (.int .i64 20)), (3, 1, .c (.int .i64 21))], none⟩,
    ⟨some 27, .call 120 [.t 25, .t 26], none⟩,
    ⟨some 28, .fad 2 (.t 7), none⟩,
    ⟨none, .st 1 (.t 28) (.t 27), none⟩] [] [2, 3, 5, 6, 7])
  .skip))
  (.seq (.seq (.reg false [⟨some 29, .mv (.t 5), none⟩,
    ⟨some 30, .call 91 [.t 29, .c (.int .i64 12)], none⟩] [] [2, 3, 5, 6, 7, 30])
  (.cond (.t 30)
  (.reg false [⟨some 31, .mv (.t 5), none⟩,
    ⟨some 32, .bsl 1 4 [.int .i64 0] [(0, 1, .c (.int .i64 (-1))), (1, 1, .c (.int .i64 19)), (2, 1, .c (.int .i64 20)), (3, 1, .c (.int .i64 21))], none⟩,
    ⟨some 33, .call 120 [.t 31, .t 32], none⟩,
    ⟨some 34, .fad 1 (.t 7), none⟩,
    ⟨none, .st 1 (.t 34) (.t 33), none⟩] [] [2, 3, 5, 6, 7])
  .skip))
  (.seq (.reg false [⟨some 35, .mv (.t 5), none⟩,
    ⟨some 36, .ld (some 1) (.t 6), none⟩,
    ⟨some 37, .call 119 [.t 35, .t 36], none⟩,
    ⟨some 8, .mv (.t 37), none⟩] [] [2, 3, 5, 6, 7, 8])
  (.seq (.seq (.reg false [⟨some 38, .mv (.t 5), none⟩,
    ⟨some 39, .call 91 [.t 38, .c (.int .i64 12)], none⟩,
    ⟨some 40, .mv (.t 39), none⟩,
    ⟨some 41, .ld (some 1) (.t 6), some (40, true)⟩,
    ⟨some 42, .call 71 [.t 41], some (40, true)⟩,
    ⟨some 43, .pick (.t 40) (.t 42) (.c (.bool false)), none⟩] [] [2, 3, 6, 7, 8, 43])
  (.cond (.t 43)
  (.reg false [⟨some 45, .ld (some 1) (.t 6), none⟩,
    ⟨some 46, .call 97 [.t 45, .c (.int .i64 8)], none⟩,
    ⟨some 44, .mv (.t 46), none⟩,
    ⟨some 47, .ext (.t 44) 0, none⟩,
    ⟨some 48, .ext (.t 44) 1, none⟩,
    ⟨none, .st 1 (.t 6) (.t 47), none⟩,
    ⟨some 8, .mv (.t 48), none⟩] [] [2, 3, 6, 7, 8])
  .skip))
  (.seq (.reg true [⟨some 49, .ld (some 1) (.t 6), none⟩,
    ⟨some 50, .ld (some 4) (.t 7), none⟩,
    ⟨some 51, .mv (.t 8), none⟩,
    ⟨none, .st 1 (.t 2) (.t 49), none⟩,
    ⟨none, .st 4 (.t 3) (.t 50), none⟩,
    ⟨some 4, .mv (.t 51), none⟩] [0, 0, 0, 1, 11, 31] [2, 3, 4])
  .ret))))))))), [(2, some (some 1)), (3, some (some 4)), (4, none)]⟩
theorem spec_l18Draw_ok : okFn Try.prog 82 spec_l18Draw = true := by kernel_rfl
def impl_inRange : IFn := ⟨15, (.seq (.reg false [⟨some 6, .mv (.c (.bool false)), none⟩] [] [0, 1, 2])
  (.seq (.reg false [⟨some 7, .mv (.t 0), none⟩,
    ⟨some 8, .mv (.t 1), none⟩,
    ⟨some 9, .bin .geq (.t 7) (.t 8), none⟩,
    ⟨some 10, .mv (.t 9), none⟩,
    ⟨some 11, .mv (.t 0), some (10, true)⟩,
    ⟨some 12, .mv (.t 2), some (10, true)⟩,
    ⟨some 13, .bin .leq (.t 11) (.t 12), some (10, true)⟩,
    ⟨some 14, .pick (.t 10) (.t 13) (.c (.bool false)), none⟩,
    ⟨some 6, .mv (.t 14), none⟩] [] [6])
  .ret)), [(6, none)]⟩
theorem impl_inRange_ok : okFn Try.prog 83 impl_inRange = true := by kernel_rfl
def impl_PoolOk : IFn := ⟨36, (.seq (.reg false [⟨some 1, .box (.t 0), none⟩,
    ⟨some 2, .mv (.c (.bool false)), none⟩] [] [1])
  (.seq (.seq (.reg false [⟨some 6, .fad 0 (.t 1), none⟩,
    ⟨some 7, .ld none (.t 6), none⟩,
    ⟨some 8, .len false (.t 7), none⟩,
    ⟨some 9, .bin .gtr (.t 8) (.c (.int .i64 500)), none⟩] [] [1, 9])
  (.cond (.t 9)
  (.seq (.reg false [⟨some 2, .mv (.c (.bool false)), none⟩] [] [2])
  .ret)
  .skip))
  (.seq (.reg false [⟨some 10, .mkm true, none⟩,
    ⟨some 3, .mv (.t 10), none⟩] [] [1, 3])
  (.seq (.seq (.reg false [⟨some 11, .fad 0 (.t 1), none⟩,
    ⟨some 12, .ld none (.t 11), none⟩,
    ⟨some 13, .len false (.t 12), none⟩,
    ⟨some 14, .mv (.c (.int .i64 0)), none⟩] [] [3, 12, 13, 14])
  (.block 0 (.loop (.seq (.reg false [⟨some 15, .bin .lss (.t 14) (.t 13), none⟩] [] [3, 12, 13, 14, 15])
  (.seq (.cond (.t 15)
  .skip
  (.exit 0))
  (.seq (.block 1 (.seq (.reg false [⟨some 16, .mv (.t 14), none⟩,
    ⟨some 17, .iad 3 (.t 12) (.t 14), none⟩,
    ⟨some 18, .ld (some 3) (.t 17), none⟩,
    ⟨some 5, .new [.int .i64 0, .int .i64 0, .int .i64 0], none⟩,
    ⟨some 4, .mv (.t 16), none⟩,
    ⟨none, .st 3 (.t 5) (.t 18), none⟩] [] [3, 4, 5, 12, 13, 14])
  (.seq (.reg true [⟨some 19, .mv (.t 3), none⟩,
    ⟨some 20, .ld (some 3) (.t 5), none⟩,
    ⟨some 21, .mlk true (.t 19) (.t 20), none⟩,
    ⟨some 22, .bin .add (.t 21) (.c (.int .i64 1)), none⟩,
    ⟨some 23, .men true (.t 19) (.t 20), none⟩,
    ⟨some 24, .ext (.t 23) 1, none⟩,
    ⟨none, .mst true (.t 19) (.t 24) (.t 22), none⟩] [0, 0, 3, 7, 3, 19, 63] [3, 4, 5, 12, 13, 14])
  (.seq (.reg false [⟨some 25, .mv (.t 3), none⟩,
    ⟨some 26, .ld (some 3) (.t 5), none⟩,
    ⟨some 27, .mlk true (.t 25) (.t 26), none⟩,
    ⟨some 28, .bin .gtr (.t 27) (.c (.int .i64 1)), none⟩,
    ⟨some 29, .mv (.t 28), none⟩,
    ⟨some 30, .ld (some 3) (.t 5), some (29, false)⟩,
    ⟨some 31, .mv (.t 4), some (29, false)⟩,
    ⟨some 32, .call 115 [.t 30, .t 31], some (29, false)⟩,
    ⟨some 33, .not (.t 32), some (29, false)⟩,
    ⟨some 34, .pick (.t 29) (.c (.bool true)) (.t 33), none⟩] [] [3, 12, 13, 14, 34])
  (.cond (.t 34)
  (.seq (.reg false [⟨some 2, .mv (.c (.bool false)), none⟩] [] [2])
  .ret)
  .skip)))))
  (.reg false [⟨some 35, .bin .add (.t 14) (.c (.int .i64 1)), none⟩,
    ⟨some 14, .mv (.t 35), none⟩] [] [3, 12, 13, 14])))))))
  (.seq (.reg false [⟨some 2, .mv (.c (.bool true)), none⟩] [] [2])
  .ret))))), [(2, none)]⟩
theorem impl_PoolOk_ok : okFn Try.prog 84 impl_PoolOk = true := by kernel_rfl
def spec_l18Close : IFn := ⟨43, (.seq (.reg false [⟨some 2, .box (.t 0), none⟩,
    ⟨some 3, .box (.t 1), none⟩,
    ⟨some 4, .new [.nil], none⟩,
    ⟨some 5, .new [.int .i64 0, .int .i64 0, .int .i64 0, .bool false], none⟩,
    ⟨some 6, .mv (.c (.int .i64 0)), none⟩] [] [2, 3, 4, 5])
  (.seq (.seq (.reg false [⟨some 10, .fad 3 (.t 3), none⟩,
    ⟨some 11, .ld none (.t 10), none⟩,
    ⟨some 12, .mv (.t 11), none⟩,
    ⟨some 13, .fad 2 (.t 3), some (12, false)⟩,
    ⟨some 14, .ld none (.t 13), some (12, false)⟩,
    ⟨some 15, .bin .eql (.t 14) (.c (.int .i64 20)), some (12, false)⟩,
    ⟨some 16, .pick (.t 12) (.c (.bool true)) (.t 15), none⟩] [] [2, 3, 4, 5, 16])
  (.cond (.t 16)
  (.seq (.reg true [⟨some 17, .ld (some 1) (.t 2), none⟩,
    ⟨some 18, .ld (some 4) (.t 3), none⟩,
    ⟨none, .st 1 (.t 4) (.t 17), none⟩,
    ⟨none, .st 4 (.t 5) (.t 18), none⟩,
    ⟨some 6, .mv (.c (.int .i64 (-1))), none⟩] [0, 0, 1, 7, 15] [4, 5, 6])
  .ret)
  .skip))
  (.seq (.reg false [⟨some 20, .ld (some 1) (.t 2), none⟩,
    ⟨some 21, .call 97 [.t 20, .c (.int .i64 8)], none⟩,
    ⟨some 19, .mv (.t 21), none⟩,
    ⟨some 22, .ext (.t 19) 0, none⟩,
    ⟨some 23, .ext (.t 19) 1, none⟩,
    ⟨some 7, .new [.nil], none⟩,
    ⟨none, .st 1 (.t 7) (.t 22), none⟩,
    ⟨some 8, .mv (.t 23), none⟩] [] [2, 3, 4, 5, 7, 8])
  (.seq (.seq (.reg false [⟨some 24, .mv (.t 8), none⟩,
    ⟨some 25, .bin .lss (.t 24) (.c (.int .i64 0)), none⟩] [] [2, 3, 4, 5, 7, 8, 25])
  (.cond (.t 25)
  (.seq (.reg true [⟨some 26, .ld (some 1) (.t 2), none⟩,
    ⟨some 27, .ld (some 4) (.t 3), none⟩,
    ⟨none, .st 1 (.t 4) (.t 26), none⟩,
    ⟨none, .st 4 (.t 5) (.t 27), none⟩,
    ⟨some 6, .mv (.c (.int .i64 (-1))), none⟩] [0, 0, 1, 7, 15] [4, 5, 6])
  .ret)
  .skip))
  (.seq (.reg false [⟨some 29, .ld (some 1) (.t 7), none⟩,
    ⟨some 30, .ld (some 4) (.t 3), none⟩,
    ⟨some 31, .mv (.t 8), none⟩,
    ⟨some 32, .call 117 [.t 29, .t 30, .t 31], none⟩,
    ⟨some 28, .mv (.t 32), none⟩,
    ⟨some 33, .ext (.t 28) 0, none⟩,
    ⟨some 34, .ext (.t 28) 1, none⟩,
    ⟨none, .st 1 (.t 7) (.t 33), none⟩,
    ⟨some 9, .mv (.t 34), none⟩] [] [2, 3, 4, 5, 7, 9])
  (.seq (.seq (.reg false [⟨some 35, .mv (.t 9), none⟩,
    ⟨some 36, .bin .lss (.t 35) (.c (.int .i64 0)), none⟩] [] [2, 3, 4, 5, 7, 9, 36])
  (.cond (.t 36)
  (.seq (.reg true [⟨some 37, .ld (some 1) (.t 2), none⟩,
    ⟨some 38, .ld (some 4) (.t 3), none⟩,
    ⟨none, .st 1 (.t 4) (.t 37), none⟩,
    ⟨none, .st 4 (.t 5) (.t 38), none⟩,
    ⟨some 6, .mv (.c (.int .i64 (-1))), none⟩] [0, 0, 1, 7, 15] [4, 5, 6])
  .ret)
  .skip))
  (.seq (.reg false [⟨some 39, .fad 3 (.t 3), none⟩,
    ⟨none, .st 1 (.t 39) (.c (.bool true)), none⟩] [] [3, 4, 5, 7, 9])
  (.seq (.reg true [⟨some 40, .ld (some 1) (.t 7), none⟩,
    ⟨some 41, .ld (some 4) (.t 3), none⟩,
    ⟨some 42, .mv (.t 9), none⟩,
    ⟨none, .st 1 (.t 4) (.t 40), none⟩,
    ⟨none, .st 4 (.t 5) (.t 41), none⟩,
    ⟨some 6, .mv (.t 42), none⟩] [0, 0, 0, 1, 11, 31] [4, 5, 6])
  .ret)))))))), [(4, some (some 1)), (5, some (some 4)), (6, none)]⟩
theorem spec_l18Close_ok : okFn Try.prog 85 spec_l18Close = true := by kernel_rfl
def impl_Link_end : IFn := ⟨12, (.seq (.reg false [⟨some 4, .mv (.c (.int .i64 0)), none⟩] [] [0, 1])
  (.seq (.reg false [⟨some 6, .mv (.t 1), none⟩,
    ⟨some 7, .call 77 [.t 6, .c (.int .i64 8)], none⟩,
    ⟨some 5, .mv (.t 7), none⟩] [] [0, 1, 5])
  (.seq (.reg false [⟨some 8, .mv (.t 0), none⟩,
    ⟨some 9, .mv (.t 1), none⟩,
    ⟨some 10, .mv (.t 5), none⟩,
    ⟨some 11, .call 81 [.t 8, .t 9, .t 10], none⟩,
    ⟨some 4, .mv (.t 11), none⟩] [] [4])
  .ret))), [(4, none)]⟩
theorem impl_Link_end_ok : okFn Try.prog 86 impl_Link_end = true := by kernel_rfl
def spec_l6Draw : IFn := ⟨20, (.seq (.reg false [⟨some 2, .new [.nil], none⟩,
    ⟨some 3, .mv (.c (.nil)), none⟩,
    ⟨some 4, .mv (.c (.int .i64 0)), none⟩] [] [0, 2])
  (.seq (.reg false [⟨some 8, .mv (.t 0), none⟩,
    ⟨some 9, .call 90 [.t 8], none⟩,
    ⟨some 5, .mv (.t 9), none⟩] [] [2, 5])
  (.seq (.reg false [⟨some 10, .mv (.t 5), none⟩,
    ⟨some 11, .call 118 [.t 10], none⟩,
    ⟨some 6, .new [.nil], none⟩,
    ⟨none, .st 1 (.t 6) (.t 11), none⟩] [] [2, 5, 6])
  (.seq (.reg false [⟨some 12, .mv (.t 5), none⟩,
    ⟨some 13, .ld (some 1) (.t 6), none⟩,
    ⟨some 14, .call 121 [.t 12, .t 13], none⟩,
    ⟨some 7, .mv (.t 14), none⟩] [] [2, 5, 6, 7])
  (.seq (.reg true [⟨some 15, .ld (some 1) (.t 6), none⟩,
    ⟨some 16, .mv (.t 7), none⟩,
    ⟨some 17, .mv (.t 5), none⟩,
    ⟨some 18, .ld (some 1) (.t 6), none⟩,
    ⟨some 19, .call 119 [.t 17, .t 18], none⟩,
    ⟨none, .st 1 (.t 2) (.t 15), none⟩,
    ⟨some 3, .mv (.t 16), none⟩,
    ⟨some 4, .mv (.t 19), none⟩] [0, 0, 0, 0, 12, 29, 63, 127] [2, 3, 4])
  .ret))))), [(2, some (some 1)), (3, none), (4, none)]⟩
theorem spec_l6Draw_ok : okFn Try.prog 87 spec_l6Draw = true := by kernel_rfl
def impl_copyStream : IFn := ⟨20, (.seq (.reg false [⟨some 1, .box (.t 0), none⟩,
    ⟨some 2, .new [.nil, .nil, .int .i64 0, .int .i64 0, .int .i64 0, .bool false, .int .i64 0, .int .i64 0, .int .i64 0, .bool false, .nil, .nil], none⟩] [] [1, 2])
  (.seq (.reg false [⟨some 3, .fad 0 (.t 1), none⟩,
    ⟨some 4, .ld (some 1) (.t 3), none⟩,
    ⟨some 5, .call 75 [.t 4], none⟩,
    ⟨some 6, .fad 0 (.t 1), none⟩,
    ⟨none, .st 1 (.t 6) (.t 5), none⟩] [] [1, 2])
  (.seq (.reg false [⟨some 7, .fad 1 (.t 1), none⟩,
    ⟨some 8, .ld none (.t 7), none⟩,
    ⟨some 9, .call 122 [.t 8], none⟩,
    ⟨some 10, .fad 1 (.t 1), none⟩,
    ⟨none, .st 1 (.t 10) (.t 9), none⟩] [] [1, 2])
  (.seq (.reg false [⟨some 11, .fad 10 (.t 1), none⟩,
    ⟨some 12, .ld none (.t 11), none⟩,
    ⟨some 13, .call 122 [.t 12], none⟩,
    ⟨some 14, .fad 10 (.t 1), none⟩,
    ⟨none, .st 1 (.t 14) (.t 13), none⟩] [] [1, 2])
  (.seq (.reg false [⟨some 15, .fad 11 (.t 1), none⟩,
    ⟨some 16, .ld none (.t 15), none⟩,
    ⟨some 17, .call 122 [.t 16], none⟩,
    ⟨some 18, .fad 11 (.t 1), none⟩,
    ⟨none, .st 1 (.t 18) (.t 17), none⟩] [] [1, 2])
  (.seq (.reg false [⟨some 19, .ld (some 12) (.t 1), none⟩,
    ⟨none, .st 12 (.t 2) (.t 19), none⟩] [] [2])
  .ret)))))), [(2, some (some 12))]⟩
theorem impl_copyStream_ok : okFn Try.prog 88 impl_copyStream = true := by kernel_rfl
def spec_l19Copy : IFn := ⟨23, (.seq (.reg false [⟨some 1, .box (.t 0), none⟩,
    ⟨some 2, .new [.nil, .nil, .int .i64 0, .int .i64 0, .int .i64 0, .bool false, .int .i64 0, .int .i64 0, .int .i64 0, .bool false, .nil, .nil], none⟩] [] [1, 2])
  (.seq (.reg true [⟨some 3, .fad 0 (.t 1), none⟩,
    ⟨some 4, .ld (some 1) (.t 3), none⟩,
    ⟨some 5, .call 72 [.t 4], none⟩,
    ⟨some 6, .bsl 1 0 [.int .i64 0] [], none⟩,
    ⟨some 7, .fad 1 (.t 1), none⟩,
    ⟨some 8, .ld none (.t 7), none⟩,
    ⟨some 9, .app 1 8 (.t 6) (.t 8), none⟩,
    ⟨some 10, .fad 2 (.t 1), none⟩,
    ⟨some 11, .ld (some 4) (.t 10), none⟩,
    ⟨some 12, .fad 6 (.t 1), none⟩,
    ⟨some 13, .ld (some 4) (.t 12), none⟩,
    ⟨some 14, .bsl 1 0 [.int .i64 0] [], none⟩,
    ⟨some 15, .fad 10 (.t 1), none⟩,
    ⟨some 16, .ld none (.t 15), none⟩,
    ⟨some 17, .app 1 8 (.t 14) (.t 16), none⟩,
    ⟨some 18, .bsl 1 0 [.int .i64 0] [], none⟩,
    ⟨some 19, .fad 11 (.t 1), none⟩,
    ⟨some 20, .ld none (.t 19), none⟩,
    ⟨some 21, .app 1 8 (.t 18) (.t 20), none⟩,
    ⟨some 22, .build [.nil, .nil, .int .i64 0, .int .i64 0, .int .i64 0, .bool false, .int .i64 0, .int .i64 0, .int .i64 0, .bool false, .nil, .nil] [(0, 1, .t 5), (1, 1, .t 9), (2, 4, .t 11), (6, 4, .t 13), (10, 1, .t 17), (11, 1, .t 21)], none⟩,
    ⟨none, .st 12 (.t 2) (.t 22), none⟩] [0, 1, 3, 0, 0, 16, 63, 0, 128, 0, 512, 0, 0, 4096, 14463, 0, 0, 65536, 260223, 524287, 1048575] [2])
  .ret)), [(2, some (some 12))]⟩
theorem spec_l19Copy_ok : okFn Try.prog 89 spec_l19Copy = true := by kernel_rfl
def spec_l1New : IFn := ⟨32, (.seq (.reg false [⟨some 2, .mv (.c (.nilp)), none⟩] [] [0])
  (.seq (.reg false [⟨some 5, .mv (.t 0), none⟩,
    ⟨some 6, .len false (.t 5), none⟩,
    ⟨some 7, .bin .add (.c (.int .i64 12241)) (.t 6), none⟩,
    ⟨some 3, .mv (.t 7), none⟩] [] [0, 3])
  (.seq (.seq (.reg false [⟨some 4, .mv (.c (.int .i64 0)), none⟩] [] [0, 3, 4])
  (.block 0 (.loop (.seq (.seq (.reg false [⟨some 8, .mv (.t 4), none⟩,
    ⟨some 9, .mv (.t 0), none⟩,
    ⟨some 10, .len false (.t 9), none⟩,
    ⟨some 11, .bin .lss (.t 8) (.t 10), none⟩,
    ⟨some 12, .mv (.t 11), none⟩,
    ⟨some 13, .mv (.t 4), some (12, true)⟩,
    ⟨some 14, .bin .lss (.t 13) (.c (.int .i64 4000)), some (12, true)⟩,
    ⟨some 15, .pick (.t 12) (.t 14) (.c (.bool false)), none⟩] [] [0, 3, 4, 15])
  (.cond (.t 15)
  .skip
  (.exit 0)))
  (.seq (.block 1 (.reg false [⟨some 18, .mv (.t 3), none⟩,
    ⟨some 19, .bin .mul (.t 18) (.c (.int .i64 131)), none⟩,
    ⟨some 20, .mv (.t 0), none⟩,
    ⟨some 21, .mv (.t 4), none⟩,
    ⟨some 22, .iad 1 (.t 20) (.t 21), none⟩,
    ⟨some 23, .ld none (.t 22), none⟩,
    ⟨some 24, .conv .i64 (.t 23), none⟩,
    ⟨some 25, .bin .add (.t 19) (.t 24), none⟩,
    ⟨some 26, .bin .add (.t 25) (.c (.int .i64 7)), none⟩,
    ⟨some 27, .bin .and (.t 26) (.c (.int .i64 1073741823)), none⟩,
    ⟨some 3, .mv (.t 27), none⟩] [] [0, 3, 4]))
  (.reg false [⟨some 16, .mv (.t 4), none⟩,
    ⟨some 17, .bin .add (.t 16) (.c (.int .i64 1)), none⟩,
    ⟨some 4, .mv (.t 17), none⟩] [] [0, 3, 4]))))))
  (.seq (.reg false [⟨some 28, .mv (.t 0), none⟩,
    ⟨some 29, .mv (.t 3), none⟩,
    ⟨some 30, .build [.nil, .int .i64 0, .int .i64 0] [(0, 1, .t 28), (2, 1, .t 29)], none⟩,
    ⟨some 31, .box (.t 30), none⟩,
    ⟨some 2, .mv (.t 31), none⟩] [] [2])
  .ret)))), [(2, none)]⟩
theorem spec_l1New_ok : okFn Try.prog 90 spec_l1New = true := by kernel_rfl
def spec_l1Once : IFn := ⟨9, (.seq (.reg false [⟨some 4, .mv (.c (.bool false)), none⟩] [] [0, 1])
  (.seq (.reg false [⟨some 5, .mv (.t 0), none⟩,
    ⟨some 6, .mv (.t 1), none⟩,
    ⟨some 7, .call 94 [.t 5, .t 6], none⟩,
    ⟨some 8, .bin .eql (.t 7) (.c (.int .i64 0)), none⟩,
    ⟨some 4, .mv (.t 8), none⟩] [] [4])
  .ret)), [(4, none)]⟩
theorem spec_l1Once_ok : okFn Try.prog 91 spec_l1Once = true := by kernel_rfl
def spec_l1Min : IFn := ⟨10, (.seq (.reg false [⟨some 4, .mv (.c (.int .i64 0)), none⟩] [] [0, 1])
  (.seq (.seq (.reg false [⟨some 5, .mv (.t 0), none⟩,
    ⟨some 6, .mv (.t 1), none⟩,
    ⟨some 7, .bin .lss (.t 5) (.t 6), none⟩] [] [0, 1, 7])
  (.cond (.t 7)
  (.seq (.reg false [⟨some 8, .mv (.t 0), none⟩,
    ⟨some 4, .mv (.t 8), none⟩] [] [4])
  .ret)
  .skip))
  (.seq (.reg false [⟨some 9, .mv (.t 1), none⟩,
    ⟨some 4, .mv (.t 9), none⟩] [] [4])
  .ret))), [(4, none)]⟩
theorem spec_l1Min_ok : okFn Try.prog 92 spec_l1Min = true := by kernel_rfl
def spec_l1Max : IFn := ⟨10, (.seq (.reg false [⟨some 4, .mv (.c (.int .i64 0)), none⟩] [] [0, 1])
  (.seq (.seq (.reg false [⟨some 5, .mv (.t 0), none⟩,
    ⟨some 6, .mv (.t 1), none⟩,
    ⟨some 7, .bin .gtr (.t 5) (.t 6), none⟩] [] [0, 1, 7])
  (.cond (.t 7)
  (.seq (.reg false [⟨some 8, .mv (.t 0), none⟩,
    ⟨some 4, .mv (.t 8), none⟩] [] [4])
  .ret)
  .skip))
  (.seq (.reg false [⟨some 9, .mv (.t 1), none⟩,
    ⟨some 4, .mv (.t 9), none⟩] [] [4])
  .ret))), [(4, none)]⟩
theorem spec_l1Max_ok : okFn Try.prog 93 spec_l1Max = true := by kernel_rfl
def spec_l1Below : IFn := ⟨37, (.seq (.reg false [⟨some 4, .mv (.c (.int .i64 0)), none⟩] [] [0, 1])
  (.seq (.seq (.reg false [⟨some 9, .mv (.t 1), none⟩,
    ⟨some 10, .bin .leq (.t 9) (.c (.int .i64 0)), none⟩] [] [0, 1, 10])
  (.cond (.t 10)
  (.seq (.reg false [⟨some 4, .mv (.c (.int .i64 0)), none⟩] [] [4])
  .ret)
  .skip))
  (.seq (.seq (.reg false [⟨some 11, .mv (.t 1), none⟩,
    ⟨some 12, .bin .leq (.t 11) (.c (.int .i64 256)), none⟩] [] [0, 1, 12])
  (.cond (.t 12)
  (.seq (.reg false [⟨some 13, .mv (.t 0), none⟩,
    ⟨some 14, .call 123 [.t 13], none⟩,
    ⟨some 15, .mv (.t 1), none⟩,
    ⟨some 16, .bin .rem (.t 14) (.t 15), none⟩,
    ⟨some 4, .mv (.t 16), none⟩] [] [4])
  .ret)
  .skip))
  (.seq (.reg false [⟨some 17, .mv (.t 0), none⟩,
    ⟨some 18, .call 123 [.t 17], none⟩,
    ⟨some 5, .mv (.t 18), none⟩] [] [0, 1, 5])
  (.seq (.reg false [⟨some 19, .mv (.t 0), none⟩,
    ⟨some 20, .call 123 [.t 19], none⟩,
    ⟨some 6, .mv (.t 20), none⟩] [] [0, 1, 5, 6])
  (.seq (.reg false [⟨some 21, .mv (.t 0), none⟩,
    ⟨some 22, .call 123 [.t 21], none⟩,
    ⟨some 7, .mv (.t 22), none⟩] [] [0, 1, 5, 6, 7])
  (.seq (.reg false [⟨some 23, .mv (.t 0), none⟩,
    ⟨some 24, .call 123 [.t 23], none⟩,
    ⟨some 8, .mv (.t 24), none⟩] [] [1, 5, 6, 7, 8])
  (.seq (.reg false [⟨some 25, .mv (.t 5), none⟩,
    ⟨some 26, .bin .mul (.t 25) (.c (.int .i64 16777216)), none⟩,
    ⟨some 27, .mv (.t 6), none⟩,
    ⟨some 28, .bin .mul (.t 27) (.c (.int .i64 65536)), none⟩,
    ⟨some 29, .bin .add (.t 26) (.t 28), none⟩,
    ⟨some 30, .mv (.t 7), none⟩,
    ⟨some 31, .bin .mul (.t 30) (.c (.int .i64 256)), none⟩,
    ⟨some 32, .bin .add (.t 29) (.t 31), none⟩,
    ⟨some 33, .mv (.t 8), none⟩,
    ⟨some 34, .bin .add (.t 32) (.t 33), none⟩,
    ⟨some 35, .mv (.t 1), none⟩,
    ⟨some 36, .bin .rem (.t 34) (.t 35), none⟩,
    ⟨some 4, .mv (.t 36), none⟩] [] [4])
  .ret)))))))), [(4, none)]⟩
theorem spec_l1Below_ok : okFn Try.prog 94 spec_l1Below = true := by kernel_rfl
def impl_Pool_parts : IFn := ⟨28, (.seq (.reg false [⟨some 4, .mv (.c (.nil)), none⟩] [] [0, 1])
  (.seq (.reg false [⟨some 6, .mv (.t 0), none⟩,
    ⟨some 7, .nck (.t 6), none⟩,
    ⟨some 8, .fad 0 (.t 7), none⟩,
    ⟨some 9, .ld none (.t 8), none⟩,
    ⟨some 10, .mv (.t 1), none⟩,
    ⟨some 11, .iad 3 (.t 9) (.t 10), none⟩,
    ⟨some 12, .ld (some 3) (.t 11), none⟩,
    ⟨some 5, .new [.int .i64 0, .int .i64 0, .int .i64 0], none⟩,
    ⟨none, .st 3 (.t 5) (.t 12), none⟩] [] [5])
  (.seq (.seq (.reg false [⟨some 13, .fad 0 (.t 5), none⟩,
    ⟨some 14, .ld none (.t 13), none⟩,
    ⟨some 15, .call 124 [.t 14], none⟩] [] [5, 15])
  (.block 0 (.seq (.reg false [⟨some 17, .bin .eql (.t 15) (.c (.int .i64 1)), none⟩,
    ⟨some 16, .mv (.t 17), none⟩] [] [5, 15, 16])
  (.cond (.t 16)
  (.seq (.reg false [⟨some 18, .fad 1 (.t 5), none⟩,
    ⟨some 19, .ld none (.t 18), none⟩,
    ⟨some 20, .bsl 1 1 [.int .i64 0] [(0, 1, .t 19)], none⟩,
    ⟨some 4, .mv (.t 20), none⟩] [] [4])
  .ret)
  (.seq (.reg false [⟨some 22, .bin .eql (.t 15) (.c (.int .i64 2)), none⟩,
    ⟨some 21, .mv (.t 22), none⟩] [] [5, 21])
  (.cond (.t 21)
  (.seq (.reg false [⟨some 23, .fad 1 (.t 5), none⟩,
    ⟨some 24, .ld none (.t 23), none⟩,
    ⟨some 25, .fad 2 (.t 5), none⟩,
    ⟨some 26, .ld none (.t 25), none⟩,
    ⟨some 27, .bsl 1 2 [.int .i64 0] [(0, 1, .t 24), (1, 1, .t 26)], none⟩,
    ⟨some 4, .mv (.t 27), none⟩] [] [4])
  .ret)
  .skip))))))
  (.seq (.reg false [⟨some 4, .mv (.c (.nil)), none⟩] [] [4])
  .ret)))), [(4, none)]⟩
theorem impl_Pool_parts_ok : okFn Try.prog 95 impl_Pool_parts = true := by kernel_rfl
def laws_heldIntS : IFn := ⟨21, (.seq (.reg false [⟨some 4, .mv (.c (.int .i64 0)), none⟩] [] [0, 1])
  (.seq (.seq (.reg false [⟨some 5, .mv (.c (.int .i64 0)), none⟩] [] [0, 1, 5])
  (.block 0 (.loop (.seq (.seq (.reg false [⟨some 6, .mv (.t 5), none⟩,
    ⟨some 7, .mv (.t 0), none⟩,
    ⟨some 8, .len false (.t 7), none⟩,
    ⟨some 9, .bin .lss (.t 6) (.t 8), none⟩] [] [0, 1, 5, 9])
  (.cond (.t 9)
  .skip
  (.exit 0)))
  (.seq (.block 1 (.seq (.seq (.reg false [⟨some 12, .mv (.t 0), none⟩,
    ⟨some 13, .mv (.t 5), none⟩,
    ⟨some 14, .iad 1 (.t 12) (.t 13), none⟩,
    ⟨some 15, .ld none (.t 14), none⟩,
    ⟨some 16, .mv (.t 1), none⟩,
    ⟨some 17, .bin .neq (.t 15) (.t 16), none⟩] [] [0, 1, 5, 17])
  (.cond (.t 17)
  (.seq (.reg false [⟨some 4, .mv (.c (.int .i64 (-1))), none⟩] [] [4])
  .ret)
  .skip))
  (.reg false [⟨some 18, .mv (.t 1), none⟩,
    ⟨some 19, .bin .add (.t 18) (.c (.int .i64 1)), none⟩,
    ⟨some 1, .mv (.t 19), none⟩] [] [0, 1, 5])))
  (.reg false [⟨some 10, .mv (.t 5), none⟩,
    ⟨some 11, .bin .add (.t 10) (.c (.int .i64 1)), none⟩,
    ⟨some 5, .mv (.t 11), none⟩] [] [0, 1, 5]))))))
  (.seq (.reg false [⟨some 20, .mv (.t 1), none⟩,
    ⟨some 4, .mv (.t 20), none⟩] [] [4])
  .ret))), [(4, none)]⟩
theorem laws_heldIntS_ok : okFn Try.prog 96 laws_heldIntS = true := by kernel_rfl
def spec_l2Name : IFn := ⟨12, (.seq (.reg false [⟨some 2, .box (.t 0), none⟩,
    ⟨some 4, .new [.nil], none⟩,
    ⟨some 5, .mv (.c (.int .i64 0)), none⟩] [] [1, 2, 4])
  (.seq (.reg false [⟨some 6, .ld (some 1) (.t 2), none⟩,
    ⟨some 7, .mv (.t 1), none⟩,
    ⟨some 8, .build [.int .i64 0, .int .i64 0, .int .i64 0] [(0, 1, .c (.int .i64 1)), (1, 1, .t 7)], none⟩,
    ⟨some 9, .call 99 [.t 6, .t 8], none⟩,
    ⟨some 10, .ext (.t 9) 0, none⟩,
    ⟨some 11, .ext (.t 9) 1, none⟩,
    ⟨none, .st 1 (.t 4) (.t 10), none⟩,
    ⟨some 5, .mv (.t 11), none⟩] [] [4, 5])
  .ret)), [(4, some (some 1)), (5, none)]⟩
theorem spec_l2Name_ok : okFn Try.prog 97 spec_l2Name = true := by kernel_rfl
def spec_StaticKey : IFn := ⟨8, (.seq (.reg false [⟨some 2, .mv (.c (.int .i64 0)), none⟩] [] [0])
  (.seq (.seq (.reg false [⟨some 3, .mv (.t 0), none⟩,
    ⟨some 4, .call 125 [.t 3], none⟩,
    ⟨some 5, .not (.t 4), none⟩] [] [0, 5])
  (.cond (.t 5)
  (.seq (.reg false [⟨some 2, .mv (.c (.int .i64 (-1))), none⟩] [] [2])
  .ret)
  .skip))
  (.seq (.reg false [⟨some 6, .mv (.t 0), none⟩,
    ⟨some 7, .bin .add (.c (.int .i64 90)) (.t 6), none⟩,
    ⟨some 2, .mv (.t 7), none⟩] [] [2])
  .ret))), [(2, none)]⟩
theorem spec_StaticKey_ok : okFn Try.prog 98 spec_StaticKey = true := by kernel_rfl
def spec_l1Add : IFn := ⟨57, (.seq (.reg false [⟨some 2, .box (.t 0), none⟩,
    ⟨some 3, .box (.t 1), none⟩,
    ⟨some 4, .new [.nil], none⟩,
    ⟨some 5, .mv (.c (.int .i64 0)), none⟩] [] [2, 3, 4])
  (.seq (.seq (.reg false [⟨some 8, .fad 0 (.t 3), none⟩,
    ⟨some 9, .ld none (.t 8), none⟩,
    ⟨some 10, .bin .eql (.t 9) (.c (.int .i64 8)), none⟩,
    ⟨some 11, .mv (.t 10), none⟩,
    ⟨some 12, .fad 1 (.t 3), some (11, true)⟩,
    ⟨some 13, .ld none (.t 12), some (11, true)⟩,
    ⟨some 14, .fad 2 (.t 3), some (11, true)⟩,
    ⟨some 15, .ld none (.t 14), some (11, true)⟩,
    ⟨some 16, .bin .gtr (.t 13) (.t 15), some (11, true)⟩,
    ⟨some 17, .pick (.t 11) (.t 16) (.c (.bool false)), none⟩] [] [2, 3, 4, 17])
  (.cond (.t 17)
  (.reg false [⟨some 18, .fad 0 (.t 3), none⟩,
    ⟨some 19, .ld none (.t 18), none⟩,
    ⟨some 20, .fad 2 (.t 3), none⟩,
    ⟨some 21, .ld none (.t 20), none⟩,
    ⟨some 22, .fad 1 (.t 3), none⟩,
    ⟨some 23, .ld none (.t 22), none⟩,
    ⟨some 24, .build [.int .i64 0, .int .i64 0, .int .i64 0] [(0, 1, .t 19), (1, 1, .t 21), (2, 1, .t 23)], none⟩,
    ⟨none, .st 3 (.t 3) (.t 24), none⟩] [] [2, 3, 4])
  .skip))
  (.seq (.reg false [⟨some 25, .ld (some 1) (.t 2), none⟩,
    ⟨some 26, .ld (some 3) (.t 3), none⟩,
    ⟨some 27, .call 113 [.t 25, .t 26], none⟩,
    ⟨some 6, .mv (.t 27), none⟩] [] [2, 3, 4, 6])
  (.seq (.seq (.reg false [⟨some 28, .mv (.t 6), none⟩,
    ⟨some 29, .bin .geq (.t 28) (.c (.int .i64 0)), none⟩] [] [2, 3, 4, 6, 29])
  (.cond (.t 29)
  (.seq (.reg false [⟨some 30, .ld (some 1) (.t 2), none⟩,
    ⟨some 31, .mv (.t 6), none⟩,
    ⟨none, .st 1 (.t 4) (.t 30), none⟩,
    ⟨some 5, .mv (.t 31), none⟩] [] [4, 5])
  .ret)
  .skip))
  (.seq (.seq (.reg false [⟨some 32, .ld (some 3) (.t 3), none⟩,
    ⟨some 33, .fad 0 (.t 2), none⟩,
    ⟨some 34, .ld none (.t 33), none⟩,
    ⟨some 35, .len false (.t 34), none⟩,
    ⟨some 36, .call 112 [.t 32, .t 35], none⟩,
    ⟨some 37, .not (.t 36), none⟩,
    ⟨some 38, .mv (.t 37), none⟩,
    ⟨some 39, .fad 0 (.t 2), some (38, false)⟩,
    ⟨some 40, .ld none (.t 39), some (38, false)⟩,
    ⟨some 41, .len false (.t 40), some (38, false)⟩,
    ⟨some 42, .bin .eql (.t 41) (.c (.int .i64 500)), some (38, false)⟩,
    ⟨some 43, .pick (.t 38) (.c (.bool true)) (.t 42), none⟩] [] [2, 3, 4, 43])
  (.cond (.t 43)
  (.seq (.reg false [⟨some 44, .ld (some 1) (.t 2), none⟩,
    ⟨none, .st 1 (.t 4) (.t 44), none⟩,
    ⟨some 5, .mv (.c (.int .i64 (-1))), none⟩] [] [4, 5])
  .ret)
  .skip))
  (.seq (.reg false [⟨some 45, .ld (some 1) (.t 2), none⟩,
    ⟨some 46, .call 72 [.t 45], none⟩,
    ⟨some 7, .new [.nil], none⟩,
    ⟨none, .st 1 (.t 7) (.t 46), none⟩] [] [2, 3, 4, 7])
  (.seq (.reg false [⟨some 47, .fad 0 (.t 7), none⟩,
    ⟨some 48, .ld none (.t 47), none⟩,
    ⟨some 49, .ld (some 3) (.t 3), none⟩,
    ⟨some 50, .bsl 3 1 [.int .i64 0, .int .i64 0, .int .i64 0] [(0, 3, .t 49)], none⟩,
    ⟨some 51, .app 3 24 (.t 48) (.t 50), none⟩,
    ⟨some 52, .fad 0 (.t 7), none⟩,
    ⟨none, .st 1 (.t 52) (.t 51), none⟩] [] [2, 4, 7])
  (.seq (.reg true [⟨some 53, .ld (some 1) (.t 7), none⟩,
    ⟨some 54, .fad 0 (.t 2), none⟩,
    ⟨some 55, .ld none (.t 54), none⟩,
    ⟨some 56, .len false (.t 55), none⟩,
    ⟨none, .st 1 (.t 4) (.t 53), none⟩,
    ⟨some 5, .mv (.t 56), none⟩] [0, 0, 2, 6, 1, 31] [4, 5])
  .ret)))))))), [(4, some (some 1)), (5, none)]⟩
theorem spec_l1Add_ok : okFn Try.prog 99 spec_l1Add = true := by kernel_rfl
def spec_l6Put : IFn := ⟨46, (.seq (.reg false [⟨some 4, .mv (.c (.nil)), none⟩] [] [0, 1])
  (.seq (.reg false [⟨some 8, .bsl 1 0 [.int .i64 0] [], none⟩,
    ⟨some 5, .mv (.t 8), none⟩] [] [0, 1, 5])
  (.seq (.reg false [⟨some 9, .mv (.t 0), none⟩,
    ⟨some 10, .mv (.t 1), none⟩,
    ⟨some 11, .call 126 [.t 9, .t 10], none⟩,
    ⟨some 6, .mv (.t 11), none⟩] [] [0, 1, 5, 6])
  (.seq (.seq (.reg false [⟨some 7, .mv (.c (.int .i64 0)), none⟩] [] [0, 1, 5, 6, 7])
  (.block 0 (.loop (.seq (.seq (.reg false [⟨some 12, .mv (.t 7), none⟩,
    ⟨some 13, .mv (.t 0), none⟩,
    ⟨some 14, .len false (.t 13), none⟩,
    ⟨some 15, .bin .lss (.t 12) (.t 14), none⟩] [] [0, 1, 5, 6, 7, 15])
  (.cond (.t 15)
  .skip
  (.exit 0)))
  (.seq (.block 1 (.seq (.seq (.reg false [⟨some 18, .mv (.t 6), none⟩,
    ⟨some 19, .not (.t 18), none⟩,
    ⟨some 20, .mv (.t 19), none⟩,
    ⟨some 21, .mv (.t 0), some (20, true)⟩,
    ⟨some 22, .mv (.t 7), some (20, true)⟩,
    ⟨some 23, .iad 1 (.t 21) (.t 22), some (20, true)⟩,
    ⟨some 24, .ld none (.t 23), some (20, true)⟩,
    ⟨some 25, .mv (.t 1), some (20, true)⟩,
    ⟨some 26, .bin .gtr (.t 24) (.t 25), some (20, true)⟩,
    ⟨some 27, .pick (.t 20) (.t 26) (.c (.bool false)), none⟩] [] [0, 1, 5, 6, 7, 27])
  (.cond (.t 27)
  (.seq (.reg false [⟨some 28, .mv (.t 5), none⟩,
    ⟨some 29, .mv (.t 1), none⟩,
    ⟨some 30, .bsl 1 1 [.int .i64 0] [(0, 1, .t 29)], none⟩,
    ⟨some 31, .app 1 8 (.t 28) (.t 30), none⟩,
    ⟨some 5, .mv (.t 31), none⟩] [] [0, 1, 5, 7])
  (.reg false [⟨some 6, .mv (.c (.bool true)), none⟩] [] [0, 1, 5, 6, 7]))
  .skip))
  (.reg false [⟨some 32, .mv (.t 5), none⟩,
    ⟨some 33, .mv (.t 0), none⟩,
    ⟨some 34, .mv (.t 7), none⟩,
    ⟨some 35, .iad 1 (.t 33) (.t 34), none⟩,
    ⟨some 36, .ld none (.t 35), none⟩,
    ⟨some 37, .bsl 1 1 [.int .i64 0] [(0, 1, .t 36)], none⟩,
    ⟨some 38, .app 1 8 (.t 32) (.t 37), none⟩,
    ⟨some 5, .mv (.t 38), none⟩] [] [0, 1, 5, 6, 7])))
  (.reg false [⟨some 16, .mv (.t 7), none⟩,
    ⟨some 17, .bin .add (.t 16) (.c (.int .i64 1)), none⟩,
    ⟨some 7, .mv (.t 17), none⟩] [] [0, 1, 5, 6, 7]))))))
  (.seq (.seq (.reg false [⟨some 39, .mv (.t 6), none⟩,
    ⟨some 40, .not (.t 39), none⟩] [] [1, 5, 40])
  (.cond (.t 40)
  (.reg false [⟨some 41, .mv (.t 5), none⟩,
    ⟨some 42, .mv (.t 1), none⟩,
    ⟨some 43, .bsl 1 1 [.int .i64 0] [(0, 1, .t 42)], none⟩,
    ⟨some 44, .app 1 8 (.t 41) (.t 43), none⟩,
    ⟨some 5, .mv (.t 44), none⟩] [] [5])
  .skip))
  (.seq (.reg false [⟨some 45, .mv (.t 5), none⟩,
    ⟨some 4, .mv (.t 45), none⟩] [] [4])
  .ret)))))), [(4, none)]⟩
theorem spec_l6Put_ok : okFn Try.prog 100 spec_l6Put = true := by kernel_rfl
def impl_Pool_powerOf : IFn := ⟨11, (.seq (.reg false [⟨some 4, .mv (.c (.int .i64 0)), none⟩] [] [0, 1])
  (.seq (.reg false [⟨some 5, .mv (.t 0), none⟩,
    ⟨some 6, .mv (.t 0), none⟩,
    ⟨some 7, .mv (.t 1), none⟩,
    ⟨some 8, .call 127 [.t 7], none⟩,
    ⟨some 9, .call 77 [.t 6, .t 8], none⟩,
    ⟨some 10, .call 76 [.t 5, .c (.int .i64 7), .t 9, .c (.int .i64 0)], none⟩,
    ⟨some 4, .mv (.t 10), none⟩] [] [4])
  .ret)), [(4, none)]⟩
theorem impl_Pool_powerOf_ok : okFn Try.prog 101 impl_Pool_powerOf = true := by kernel_rfl
def laws_eqInstS : IFn := ⟨27, (.seq (.reg false [⟨some 4, .mv (.c (.bool false)), none⟩] [] [0, 1])
  (.seq (.seq (.reg false [⟨some 6, .mv (.t 0), none⟩,
    ⟨some 7, .len false (.t 6), none⟩,
    ⟨some 8, .mv (.t 1), none⟩,
    ⟨some 9, .len false (.t 8), none⟩,
    ⟨some 10, .bin .neq (.t 7) (.t 9), none⟩] [] [0, 1, 10])
  (.cond (.t 10)
  (.seq (.reg false [⟨some 4, .mv (.c (.bool false)), none⟩] [] [4])
  .ret)
  .skip))
  (.seq (.seq (.reg false [⟨some 5, .mv (.c (.int .i64 0)), none⟩] [] [0, 1, 5])
  (.block 0 (.loop (.seq (.seq (.reg false [⟨some 11, .mv (.t 5), none⟩,
    ⟨some 12, .mv (.t 0), none⟩,
    ⟨some 13, .len false (.t 12), none⟩,
    ⟨some 14, .bin .lss (.t 11) (.t 13), none⟩] [] [0, 1, 5, 14])
  (.cond (.t 14)
  .skip
  (.exit 0)))
  (.seq (.block 1 (.seq (.reg true [⟨some 17, .mv (.t 0), none⟩,
    ⟨some 18, .mv (.t 5), none⟩,
    ⟨some 19, .iad 9 (.t 17) (.t 18), none⟩,
    ⟨some 20, .ld (some 9) (.t 19), none⟩,
    ⟨some 21, .mv (.t 1), none⟩,
    ⟨some 22, .mv (.t 5), none⟩,
    ⟨some 23, .iad 9 (.t 21) (.t 22), none⟩,
    ⟨some 24, .ld (some 9) (.t 23), none⟩,
    ⟨some 25, .call 128 [.t 20, .t 24], none⟩,
    ⟨some 26, .not (.t 25), none⟩] [0, 0, 3, 7, 0, 0, 48, 112, 255, 511] [0, 1, 5, 26])
  (.cond (.t 26)
  (.seq (.reg false [⟨some 4, .mv (.c (.bool false)), none⟩] [] [4])
  .ret)
  .skip)))
  (.reg false [⟨some 15, .mv (.t 5), none⟩,
    ⟨some 16, .bin .add (.t 15) (.c (.int .i64 1)), none⟩,
    ⟨some 5, .mv (.t 16), none⟩] [] [0, 1, 5]))))))
  (.seq (.reg false [⟨some 4, .mv (.c (.bool true)), none⟩] [] [4])
  .ret)))), [(4, none)]⟩
theorem laws_eqInstS_ok : okFn Try.prog 102 laws_eqInstS = true := by kernel_rfl
def laws_eqClaimS : IFn := ⟨27, (.seq (.reg false [⟨some 4, .mv (.c (.bool false)), none⟩] [] [0, 1])
  (.seq (.seq (.reg false [⟨some 6, .mv (.t 0), none⟩,
    ⟨some 7, .len false (.t 6), none⟩,
    ⟨some 8, .mv (.t 1), none⟩,
    ⟨some 9, .len false (.t 8), none⟩,
    ⟨some 10, .bin .neq (.t 7) (.t 9), none⟩] [] [0, 1, 10])
  (.cond (.t 10)
  (.seq (.reg false [⟨some 4, .mv (.c (.bool false)), none⟩] [] [4])
  .ret)
  .skip))
  (.seq (.seq (.reg false [⟨some 5, .mv (.c (.int .i64 0)), none⟩] [] [0, 1, 5])
  (.block 0 (.loop (.seq (.seq (.reg false [⟨some 11, .mv (.t 5), none⟩,
    ⟨some 12, .mv (.t 0), none⟩,
    ⟨some 13, .len false (.t 12), none⟩,
    ⟨some 14, .bin .lss (.t 11) (.t 13), none⟩] [] [0, 1, 5, 14])
  (.cond (.t 14)
  .skip
  (.exit 0)))
  (.seq (.block 1 (.seq (.reg true [⟨some 17, .mv (.t 0), none⟩,
    ⟨some 18, .mv (.t 5), none⟩,
    ⟨some 19, .iad 3 (.t 17) (.t 18), none⟩,
    ⟨some 20, .ld (some 3) (.t 19), none⟩,
    ⟨some 21, .mv (.t 1), none⟩,
    ⟨some 22, .mv (.t 5), none⟩,
    ⟨some 23, .iad 3 (.t 21) (.t 22), none⟩,
    ⟨some 24, .ld (some 3) (.t 23), none⟩,
    ⟨some 25, .call 129 [.t 20, .t 24], none⟩,
    ⟨some 26, .not (.t 25), none⟩] [0, 0, 3, 7, 0, 0, 48, 112, 255, 511] [0, 1, 5, 26])
  (.cond (.t 26)
  (.seq (.reg false [⟨some 4, .mv (.c (.bool false)), none⟩] [] [4])
  .ret)
  .skip)))
  (.reg false [⟨some 15, .mv (.t 5), none⟩,
    ⟨some 16, .bin .add (.t 15) (.c (.int .i64 1)), none⟩,
    ⟨some 5, .mv (.t 16), none⟩] [] [0, 1, 5]))))))
  (.seq (.reg false [⟨some 4, .mv (.c (.bool true)), none⟩] [] [4])
  .ret)))), [(4, none)]⟩
theorem laws_eqClaimS_ok : okFn Try.prog 103 laws_eqClaimS = true := by kernel_rfl
def laws_markInstS : IFn := ⟨80, (.seq (.reg false [⟨some 4, .mv (.c (.int .i64 0)), none⟩] [] [0, 1])
  (.seq (.seq (.reg false [⟨some 5, .mv (.c (.int .i64 0)), none⟩] [] [0, 1, 5])
  (.block 0 (.loop (.seq (.seq (.reg false [⟨some 6, .mv (.t 5), none⟩,
    ⟨some 7, .mv (.t 0), none⟩,
    ⟨some 8, .len false (.t 7), none⟩,
    ⟨some 9, .bin .lss (.t 6) (.t 8), none⟩] [] [0, 1, 5, 9])
  (.cond (.t 9)
  .skip
  (.exit 0)))
  (.seq (.block 1 (.seq (.reg false [⟨some 12, .mv (.t 0), none⟩,
    ⟨some 13, .mv (.t 5), none⟩,
    ⟨some 14, .mv (.t 1), none⟩,
    ⟨some 15, .iad 9 (.t 12) (.t 13), none⟩,
    ⟨some 16, .fad 0 (.t 15), none⟩,
    ⟨none, .st 1 (.t 16) (.t 14), none⟩] [] [0, 1, 5])
  (.seq (.reg false [⟨some 17, .mv (.t 1), none⟩,
    ⟨some 18, .bin .add (.t 17) (.c (.int .i64 1)), none⟩,
    ⟨some 1, .mv (.t 18), none⟩] [] [0, 1, 5])
  (.seq (.reg false [⟨some 19, .mv (.t 0), none⟩,
    ⟨some 20, .mv (.t 5), none⟩,
    ⟨some 21, .mv (.t 1), none⟩,
    ⟨some 22, .iad 9 (.t 19) (.t 20), none⟩,
    ⟨some 23, .fad 1 (.t 22), none⟩,
    ⟨none, .st 1 (.t 23) (.t 21), none⟩] [] [0, 1, 5])
  (.seq (.reg false [⟨some 24, .mv (.t 1), none⟩,
    ⟨some 25, .bin .add (.t 24) (.c (.int .i64 1)), none⟩,
    ⟨some 1, .mv (.t 25), none⟩] [] [0, 1, 5])
  (.seq (.reg false [⟨some 26, .mv (.t 0), none⟩,
    ⟨some 27, .mv (.t 5), none⟩,
    ⟨some 28, .mv (.t 1), none⟩,
    ⟨some 29, .iad 9 (.t 26) (.t 27), none⟩,
    ⟨some 30, .fad 2 (.t 29), none⟩,
    ⟨none, .st 1 (.t 30) (.t 28), none⟩] [] [0, 1, 5])
  (.seq (.reg false [⟨some 31, .mv (.t 1), none⟩,
    ⟨some 32, .bin .add (.t 31) (.c (.int .i64 1)), none⟩,
    ⟨some 1, .mv (.t 32), none⟩] [] [0, 1, 5])
  (.seq (.reg false [⟨some 33, .mv (.t 0), none⟩,
    ⟨some 34, .mv (.t 5), none⟩,
    ⟨some 35, .mv (.t 1), none⟩,
    ⟨some 36, .iad 9 (.t 33) (.t 34), none⟩,
    ⟨some 37, .fad 3 (.t 36), none⟩,
    ⟨none, .st 1 (.t 37) (.t 35), none⟩] [] [0, 1, 5])
  (.seq (.reg false [⟨some 38, .mv (.t 1), none⟩,
    ⟨some 39, .bin .add (.t 38) (.c (.int .i64 1)), none⟩,
    ⟨some 1, .mv (.t 39), none⟩] [] [0, 1, 5])
  (.seq (.reg false [⟨some 40, .mv (.t 0), none⟩,
    ⟨some 41, .mv (.t 5), none⟩,
    ⟨some 42, .mv (.t 1), none⟩,
    ⟨some 43, .iad 9 (.t 40) (.t 41), none⟩,
    ⟨some 44, .fad 4 (.t 43), none⟩,
    ⟨none, .st 1 (.t 44) (.t 42), none⟩] [] [0, 1, 5])
  (.seq (.reg false [⟨some 45, .mv (.t 1), none⟩,
    ⟨some 46, .bin .add (.t 45) (.c (.int .i64 1)), none⟩,
    ⟨some 1, .mv (.t 46), none⟩] [] [0, 1, 5])
  (.seq (.reg false [⟨some 47, .mv (.t 0), none⟩,
    ⟨some 48, .mv (.t 5), none⟩,
    ⟨some 49, .iad 9 (.t 47) (.t 48), none⟩,
    ⟨some 50, .fad 5 (.t 49), none⟩,
    ⟨some 51, .ld none (.t 50), none⟩,
    ⟨some 52, .mv (.t 1), none⟩,
    ⟨some 53, .call 48 [.t 51, .t 52], none⟩,
    ⟨some 1, .mv (.t 53), none⟩] [] [0, 1, 5])
  (.seq (.reg false [⟨some 54, .mv (.t 0), none⟩,
    ⟨some 55, .mv (.t 5), none⟩,
    ⟨some 56, .mv (.t 1), none⟩,
    ⟨some 57, .bin .rem (.t 56) (.c (.int .i64 3)), none⟩,
    ⟨some 58, .bin .eql (.t 57) (.c (.int .i64 0)), none⟩,
    ⟨some 59, .iad 9 (.t 54) (.t 55), none⟩,
    ⟨some 60, .fad 6 (.t 59), none⟩,
    ⟨none, .st 1 (.t 60) (.t 58), none⟩] [] [0, 1, 5])
  (.seq (.reg false [⟨some 61, .mv (.t 1), none⟩,
    ⟨some 62, .bin .add (.t 61) (.c (.int .i64 1)), none⟩,
    ⟨some 1, .mv (.t 62), none⟩] [] [0, 1, 5])
  (.seq (.reg false [⟨some 63, .mv (.t 0), none⟩,
    ⟨some 64, .mv (.t 5), none⟩,
    ⟨some 65, .mv (.t 1), none⟩,
    ⟨some 66, .bin .rem (.t 65) (.c (.int .i64 3)), none⟩,
    ⟨some 67, .bin .eql (.t 66) (.c (.int .i64 0)), none⟩,
    ⟨some 68, .iad 9 (.t 63) (.t 64), none⟩,
    ⟨some 69, .fad 7 (.t 68), none⟩,
    ⟨none, .st 1 (.t 69) (.t 67), none⟩] [] [0, 1, 5])
  (.seq (.reg false [⟨some 70, .mv (.t 1), none⟩,
    ⟨some 71, .bin .add (.t 70) (.c (.int .i64 1)), none⟩,
    ⟨some 1, .mv (.t 71), none⟩] [] [0, 1, 5])
  (.seq (.reg false [⟨some 72, .mv (.t 0), none⟩,
    ⟨some 73, .mv (.t 5), none⟩,
    ⟨some 74, .mv (.t 1), none⟩,
    ⟨some 75, .iad 9 (.t 72) (.t 73), none⟩,
    ⟨some 76, .fad 8 (.t 75), none⟩,
    ⟨none, .st 1 (.t 76) (.t 74), none⟩] [] [0, 1, 5])
  (.reg false [⟨some 77, .mv (.t 1), none⟩,
    ⟨some 78, .bin .add (.t 77) (.c (.int .i64 1)), none⟩,
    ⟨some 1, .mv (.t 78), none⟩] [] [0, 1, 5]))))))))))))))))))
  (.reg false [⟨some 10, .mv (.t 5), none⟩,
    ⟨some 11, .bin .add (.t 10) (.c (.int .i64 1)), none⟩,
    ⟨some 5, .mv (.t 11), none⟩] [] [0, 1, 5]))))))
  (.seq (.reg false [⟨some 79, .mv (.t 1), none⟩,
    ⟨some 4, .mv (.t 79), none⟩] [] [4])
  .ret))), [(4, none)]⟩
theorem laws_markInstS_ok : okFn Try.prog 104 laws_markInstS = true := by kernel_rfl
def laws_markClaimS : IFn := ⟨38, (.seq (.reg false [⟨some 4, .mv (.c (.int .i64 0)), none⟩] [] [0, 1])
  (.seq (.seq (.reg false [⟨some 5, .mv (.c (.int .i64 0)), none⟩] [] [0, 1, 5])
  (.block 0 (.loop (.seq (.seq (.reg false [⟨some 6, .mv (.t 5), none⟩,
    ⟨some 7, .mv (.t 0), none⟩,
    ⟨some 8, .len false (.t 7), none⟩,
    ⟨some 9, .bin .lss (.t 6) (.t 8), none⟩] [] [0, 1, 5, 9])
  (.cond (.t 9)
  .skip
  (.exit 0)))
  (.seq (.block 1 (.seq (.reg false [⟨some 12, .mv (.t 0), none⟩,
    ⟨some 13, .mv (.t 5), none⟩,
    ⟨some 14, .mv (.t 1), none⟩,
    ⟨some 15, .iad 3 (.t 12) (.t 13), none⟩,
    ⟨some 16, .fad 0 (.t 15), none⟩,
    ⟨none, .st 1 (.t 16) (.t 14), none⟩] [] [0, 1, 5])
  (.seq (.reg false [⟨some 17, .mv (.t 1), none⟩,
    ⟨some 18, .bin .add (.t 17) (.c (.int .i64 1)), none⟩,
    ⟨some 1, .mv (.t 18), none⟩] [] [0, 1, 5])
  (.seq (.reg false [⟨some 19, .mv (.t 0), none⟩,
    ⟨some 20, .mv (.t 5), none⟩,
    ⟨some 21, .mv (.t 1), none⟩,
    ⟨some 22, .bin .rem (.t 21) (.c (.int .i64 3)), none⟩,
    ⟨some 23, .bin .eql (.t 22) (.c (.int .i64 0)), none⟩,
    ⟨some 24, .iad 3 (.t 19) (.t 20), none⟩,
    ⟨some 25, .fad 1 (.t 24), none⟩,
    ⟨none, .st 1 (.t 25) (.t 23), none⟩] [] [0, 1, 5])
  (.seq (.reg false [⟨some 26, .mv (.t 1), none⟩,
    ⟨some 27, .bin .add (.t 26) (.c (.int .i64 1)), none⟩,
    ⟨some 1, .mv (.t 27), none⟩] [] [0, 1, 5])
  (.seq (.reg false [⟨some 28, .mv (.t 0), none⟩,
    ⟨some 29, .mv (.t 5), none⟩,
    ⟨some 30, .mv (.t 1), none⟩,
    ⟨some 31, .bin .rem (.t 30) (.c (.int .i64 3)), none⟩,
    ⟨some 32, .bin .eql (.t 31) (.c (.int .i64 0)), none⟩,
    ⟨some 33, .iad 3 (.t 28) (.t 29), none⟩,
    ⟨some 34, .fad 2 (.t 33), none⟩,
    ⟨none, .st 1 (.t 34) (.t 32), none⟩] [] [0, 1, 5])
  (.reg false [⟨some 35, .mv (.t 1), none⟩,
    ⟨some 36, .bin .add (.t 35) (.c (.int .i64 1)), none⟩,
    ⟨some 1, .mv (.t 36), none⟩] [] [0, 1, 5])))))))
  (.reg false [⟨some 10, .mv (.t 5), none⟩,
    ⟨some 11, .bin .add (.t 10) (.c (.int .i64 1)), none⟩,
    ⟨some 5, .mv (.t 11), none⟩] [] [0, 1, 5]))))))
  (.seq (.reg false [⟨some 37, .mv (.t 1), none⟩,
    ⟨some 4, .mv (.t 37), none⟩] [] [4])
  .ret))), [(4, none)]⟩
theorem laws_markClaimS_ok : okFn Try.prog 105 laws_markClaimS = true := by kernel_rfl
def laws_heldInstS : IFn := ⟨98, (.seq (.reg false [⟨some 4, .mv (.c (.int .i64 0)), none⟩] [] [0, 1])
  (.seq (.seq (.reg false [⟨some 5, .mv (.c (.int .i64 0)), none⟩] [] [0, 1, 5])
  (.block 0 (.loop (.seq (.seq (.reg false [⟨some 6, .mv (.t 5), none⟩,
    ⟨some 7, .mv (.t 0), none⟩,
    ⟨some 8, .len false (.t 7), none⟩,
    ⟨some 9, .bin .lss (.t 6) (.t 8), none⟩] [] [0, 1, 5, 9])
  (.cond (.t 9)
  .skip
  (.exit 0)))
  (.seq (.block 1 (.seq (.seq (.reg false [⟨some 12, .mv (.t 0), none⟩,
    ⟨some 13, .mv (.t 5), none⟩,
    ⟨some 14, .iad 9 (.t 12) (.t 13), none⟩,
    ⟨some 15, .fad 0 (.t 14), none⟩,
    ⟨some 16, .ld none (.t 15), none⟩,
    ⟨some 17, .mv (.t 1), none⟩,
    ⟨some 18, .bin .neq (.t 16) (.t 17), none⟩] [] [0, 1, 5, 18])
  (.cond (.t 18)
  (.seq (.reg false [⟨some 4, .mv (.c (.int .i64 (-1))), none⟩] [] [4])
  .ret)
  .skip))
  (.seq (.reg false [⟨some 19, .mv (.t 1), none⟩,
    ⟨some 20, .bin .add (.t 19) (.c (.int .i64 1)), none⟩,
    ⟨some 1, .mv (.t 20), none⟩] [] [0, 1, 5])
  (.seq (.seq (.reg false [⟨some 21, .mv (.t 0), none⟩,
    ⟨some 22, .mv (.t 5), none⟩,
    ⟨some 23, .iad 9 (.t 21) (.t 22), none⟩,
    ⟨some 24, .fad 1 (.t 23), none⟩,
    ⟨some 25, .ld none (.t 24), none⟩,
    ⟨some 26, .mv (.t 1), none⟩,
    ⟨some 27, .bin .neq (.t 25) (.t 26), none⟩] [] [0, 1, 5, 27])
  (.cond (.t 27)
  (.seq (.reg false [⟨some 4, .mv (.c (.int .i64 (-1))), none⟩] [] [4])
  .ret)
  .skip))
  (.seq (.reg false [⟨some 28, .mv (.t 1), none⟩,
    ⟨some 29, .bin .add (.t 28) (.c (.int .i64 1)), none⟩,
    ⟨some 1, .mv (.t 29), none⟩] [] [0, 1, 5])
  (.seq (.seq (.reg false [⟨some 30, .mv (.t 0), none⟩,
    ⟨some 31, .mv (.t 5), none⟩,
    ⟨some 32, .iad 9 (.t 30) (.t 31), none⟩,
    ⟨some 33, .fad 2 (.t 32), none⟩,
    ⟨some 34, .ld none (.t 33), none⟩,
    ⟨some 35, .mv (.t 1), none⟩,
    ⟨some 36, .bin .neq (.t 34) (.t 35), none⟩] [] [0, 1, 5, 36])
  (.cond (.t 36)
  (.seq (.reg false [⟨some 4, .mv (.c (.int .i64 (-1))), none⟩] [] [4])
  .ret)
  .skip))
  (.seq (.reg false [⟨some 37, .mv (.t 1), none⟩,
    ⟨some 38, .bin .add (.t 37) (.c (.int .i64 1)), none⟩,
    ⟨some 1, .mv (.t 38), none⟩] [] [0, 1, 5])
  (.seq (.seq (.reg false [⟨some 39, .mv (.t 0), none⟩,
    ⟨some 40, .mv (.t 5), none⟩,
    ⟨some 41, .iad 9 (.t 39) (.t 40), none⟩,
    ⟨some 42, .fad 3 (.t 41), none⟩,
    ⟨some 43, .ld none (.t 42), none⟩,
    ⟨some 44, .mv (.t 1), none⟩,
    ⟨some 45, .bin .neq (.t 43) (.t 44), none⟩] [] [0, 1, 5, 45])
  (.cond (.t 45)
  (.seq (.reg false [⟨some 4, .mv (.c (.int .i64 (-1))), none⟩] [] [4])
  .ret)
  .skip))
  (.seq (.reg false [⟨some 46, .mv (.t 1), none⟩,
    ⟨some 47, .bin .add (.t 46) (.c (.int .i64 1)), none⟩,
    ⟨some 1, .mv (.t 47), none⟩] [] [0, 1, 5])
  (.seq (.seq (.reg false [⟨some 48, .mv (.t 0), none⟩,
    ⟨some 49, .mv (.t 5), none⟩,
    ⟨some 50, .iad 9 (.t 48) (.t 49), none⟩,
    ⟨some 51, .fad 4 (.t 50), none⟩,
    ⟨some 52, .ld none (.t 51), none⟩,
    ⟨some 53, .mv (.t 1), none⟩,
    ⟨some 54, .bin .neq (.t 52) (.t 53), none⟩] [] [0, 1, 5, 54])
  (.cond (.t 54)
  (.seq (.reg false [⟨some 4, .mv (.c (.int .i64 (-1))), none⟩] [] [4])
  .ret)
  .skip))
  (.seq (.reg false [⟨some 55, .mv (.t 1), none⟩,
    ⟨some 56, .bin .add (.t 55) (.c (.int .i64 1)), none⟩,
    ⟨some 1, .mv (.t 56), none⟩] [] [0, 1, 5])
  (.seq (.reg false [⟨some 57, .mv (.t 0), none⟩,
    ⟨some 58, .mv (.t 5), none⟩,
    ⟨some 59, .iad 9 (.t 57) (.t 58), none⟩,
    ⟨some 60, .fad 5 (.t 59), none⟩,
    ⟨some 61, .ld none (.t 60), none⟩,
    ⟨some 62, .mv (.t 1), none⟩,
    ⟨some 63, .call 96 [.t 61, .t 62], none⟩,
    ⟨some 1, .mv (.t 63), none⟩] [] [0, 1, 5])
  (.seq (.seq (.reg false [⟨some 64, .mv (.t 1), none⟩,
    ⟨some 65, .bin .lss (.t 64) (.c (.int .i64 0)), none⟩] [] [0, 1, 5, 65])
  (.cond (.t 65)
  (.seq (.reg false [⟨some 4, .mv (.c (.int .i64 (-1))), none⟩] [] [4])
  .ret)
  .skip))
  (.seq (.seq (.reg false [⟨some 66, .mv (.t 0), none⟩,
    ⟨some 67, .mv (.t 5), none⟩,
    ⟨some 68, .iad 9 (.t 66) (.t 67), none⟩,
    ⟨some 69, .fad 6 (.t 68), none⟩,
    ⟨some 70, .ld none (.t 69), none⟩,
    ⟨some 71, .mv (.t 1), none⟩,
    ⟨some 72, .bin .rem (.t 71) (.c (.int .i64 3)), none⟩,
    ⟨some 73, .bin .eql (.t 72) (.c (.int .i64 0)), none⟩,
    ⟨some 74, .eqb true (.t 70) (.t 73), none⟩] [] [0, 1, 5, 74])
  (.cond (.t 74)
  (.seq (.reg false [⟨some 4, .mv (.c (.int .i64 (-1))), none⟩] [] [4])
  .ret)
  .skip))
  (.seq (.reg false [⟨some 75, .mv (.t 1), none⟩,
    ⟨some 76, .bin .add (.t 75) (.c (.int .i64 1)), none⟩,
    ⟨some 1, .mv (.t 76), none⟩] [] [0, 1, 5])
  (.seq (.seq (.reg false [⟨some 77, .mv (.t 0), none⟩,
    ⟨some 78, .mv (.t 5), none⟩,
    ⟨some 79, .iad 9 (.t 77) (.t 78), none⟩,
    ⟨some 80, .fad 7 (.t 79), none⟩,
    ⟨some 81, .ld none (.t 80), none⟩,
    ⟨some 82, .mv (.t 1), none⟩,
    ⟨some 83, .bin .rem (.t 82) (.c (.int .i64 3)), none⟩,
    ⟨some 84, .bin .eql (.t 83) (.c (.int .i64 0)), none⟩,
    ⟨some 85, .eqb true (.t 81) (.t 84), none⟩] [] [0, 1, 5, 85])
  (.cond (.t 85)
  (.seq (.reg false [⟨some 4, .mv (.c (.int .i64 (-1))), none⟩] [] [4])
  .ret)
  .skip))
  (.seq (.reg false [⟨some 86, .mv (.t 1), none⟩,
    ⟨some 87, .bin .add (.t 86) (.c (.int .i64 1)), none⟩,
    ⟨some 1, .mv (.t 87), none⟩] [] [0, 1, 5])
  (.seq (.seq (.reg false [⟨some 88, .mv (.t 0), none⟩,
    ⟨some 89, .mv (.t 5), none⟩,
    ⟨some 90, .iad 9 (.t 88) (.t 89), none⟩,
    ⟨some 91, .fad 8 (.t 90), none⟩,
    ⟨some 92, .ld none (.t 91), none⟩,
    ⟨some 93, .mv (.t 1), none⟩,
    ⟨some 94, .bin .neq (.t 92) (.t 93), none⟩] [] [0, 1, 5, 94])
  (.cond (.t 94)
  (.seq (.reg false [⟨some 4, .mv (.c (.int .i64 (-1))), none⟩] [] [4])
  .ret)
  .skip))
  (.reg false [⟨some 95, .mv (.t 1), none⟩,
    ⟨some 96, .bin .add (.t 95) (.c (.int .i64 1)), none⟩,
    ⟨some 1, .mv (.t 96), none⟩] [] [0, 1, 5])))))))))))))))))))
  (.reg false [⟨some 10, .mv (.t 5), none⟩,
    ⟨some 11, .bin .add (.t 10) (.c (.int .i64 1)), none⟩,
    ⟨some 5, .mv (.t 11), none⟩] [] [0, 1, 5]))))))
  (.seq (.reg false [⟨some 97, .mv (.t 1), none⟩,
    ⟨some 4, .mv (.t 97), none⟩] [] [4])
  .ret))), [(4, none)]⟩
theorem laws_heldInstS_ok : okFn Try.prog 106 laws_heldInstS = true := by kernel_rfl
def laws_heldClaimS : IFn := ⟨44, (.seq (.reg false [⟨some 4, .mv (.c (.int .i64 0)), none⟩] [] [0, 1])
  (.seq (.seq (.reg false [⟨some 5, .mv (.c (.int .i64 0)), none⟩] [] [0, 1, 5])
  (.block 0 (.loop (.seq (.seq (.reg false [⟨some 6, .mv (.t 5), none⟩,
    ⟨some 7, .mv (.t 0), none⟩,
    ⟨some 8, .len false (.t 7), none⟩,
    ⟨some 9, .bin .lss (.t 6) (.t 8), none⟩] [] [0, 1, 5, 9])
  (.cond (.t 9)
  .skip
  (.exit 0)))
  (.seq (.block 1 (.seq (.seq (.reg false [⟨some 12, .mv (.t 0), none⟩,
    ⟨some 13, .mv (.t 5), none⟩,
    ⟨some 14, .iad 3 (.t 12) (.t 13), none⟩,
    ⟨some 15, .fad 0 (.t 14), none⟩,
    ⟨some 16, .ld none (.t 15), none⟩,
    ⟨some 17, .mv (.t 1), none⟩,
    ⟨some 18, .bin .neq (.t 16) (.t 17), none⟩] [] [0, 1, 5, 18])
  (.cond (.t 18)
  (.seq (.reg false [⟨some 4, .mv (.c (.int .i64 (-1))), none⟩] [] [4])
  .ret)
  .skip))
  (.seq (.reg false [⟨some 19, .mv (.t 1), none⟩,
    ⟨some 20, .bin .add (.t 19) (.c (.int .i64 1)), none⟩,
    ⟨some 1, .mv (.t 20), none⟩] [] [0, 1, 5])
  (.seq (.seq (.reg false [⟨some 21, .mv (.t 0), none⟩,
    ⟨some 22, .mv (.t 5), none⟩,
    ⟨some 23, .iad 3 (.t 21) (.t 22), none⟩,
    ⟨some 24, .fad 1 (.t 23), none⟩,
    ⟨some 25, .ld none (.t 24), none⟩,
    ⟨some 26, .mv (.t 1), none⟩,
    ⟨some 27, .bin .rem (.t 26) (.c (.int .i64 3)), none⟩,
    ⟨some 28, .bin .eql (.t 27) (.c (.int .i64 0)), none⟩,
    ⟨some 29, .eqb true (.t 25) (.t 28), none⟩] [] [0, 1, 5, 29])
  (.cond (.t 29)
  (.seq (.reg false [⟨some 4, .mv (.c (.int .i64 (-1))), none⟩] [] [4])
  .ret)
  .skip))
  (.seq (.reg false [⟨some 30, .mv (.t 1), none⟩,
    ⟨some 31, .bin .add (.t 30) (.c (.int .i64 1)), none⟩,
    ⟨some 1, .mv (.t 31), none⟩] [] [0, 1, 5])
  (.seq (.seq (.reg false [⟨some 32, .mv (.t 0), none⟩,
    ⟨some 33, .mv (.t 5), none⟩,
    ⟨some 34, .iad 3 (.t 32) (.t 33), none⟩,
    ⟨some 35, .fad 2 (.t 34), none⟩,
    ⟨some 36, .ld none (.t 35), none⟩,
    ⟨some 37, .mv (.t 1), none⟩,
    ⟨some 38, .bin .rem (.t 37) (.c (.int .i64 3)), none⟩,
    ⟨some 39, .bin .eql (.t 38) (.c (.int .i64 0)), none⟩,
    ⟨some 40, .eqb true (.t 36) (.t 39), none⟩] [] [0, 1, 5, 40])
  (.cond (.t 40)
  (.seq (.reg false [⟨some 4, .mv (.c (.int .i64 (-1))), none⟩] [] [4])
  .ret)
  .skip))
  (.reg false [⟨some 41, .mv (.t 1), none⟩,
    ⟨some 42, .bin .add (.t 41) (.c (.int .i64 1)), none⟩,
    ⟨some 1, .mv (.t 42), none⟩] [] [0, 1, 5])))))))
  (.reg false [⟨some 10, .mv (.t 5), none⟩,
    ⟨some 11, .bin .add (.t 10) (.c (.int .i64 1)), none⟩,
    ⟨some 5, .mv (.t 11), none⟩] [] [0, 1, 5]))))))
  (.seq (.reg false [⟨some 43, .mv (.t 1), none⟩,
    ⟨some 4, .mv (.t 43), none⟩] [] [4])
  .ret))), [(4, none)]⟩
theorem laws_heldClaimS_ok : okFn Try.prog 107 laws_heldClaimS = true := by kernel_rfl
def spec_l1In : IFn := ⟨15, (.seq (.reg false [⟨some 6, .mv (.c (.bool false)), none⟩] [] [0, 1, 2])
  (.seq (.reg false [⟨some 7, .mv (.t 0), none⟩,
    ⟨some 8, .mv (.t 1), none⟩,
    ⟨some 9, .bin .geq (.t 7) (.t 8), none⟩,
    ⟨some 10, .mv (.t 9), none⟩,
    ⟨some 11, .mv (.t 0), some (10, true)⟩,
    ⟨some 12, .mv (.t 2), some (10, true)⟩,
    ⟨some 13, .bin .leq (.t 11) (.t 12), some (10, true)⟩,
    ⟨some 14, .pick (.t 10) (.t 13) (.c (.bool false)), none⟩,
    ⟨some 6, .mv (.t 14), none⟩] [] [6])
  .ret)), [(6, none)]⟩
theorem spec_l1In_ok : okFn Try.prog 108 spec_l1In = true := by kernel_rfl
def laws_toNode : IFn := ⟨14, (.seq (.reg false [⟨some 1, .box (.t 0), none⟩,
    ⟨some 2, .new [.int .i64 0, .int .i64 0, .int .i64 0], none⟩] [] [1, 2])
  (.seq (.reg false [⟨some 3, .new [.int .i64 0, .int .i64 0, .int .i64 0], none⟩] [] [1, 2, 3])
  (.seq (.reg false [⟨some 4, .fad 0 (.t 1), none⟩,
    ⟨some 5, .ld none (.t 4), none⟩,
    ⟨some 6, .fad 0 (.t 3), none⟩,
    ⟨none, .st 1 (.t 6) (.t 5), none⟩] [] [1, 2, 3])
  (.seq (.reg false [⟨some 7, .fad 1 (.t 1), none⟩,
    ⟨some 8, .ld none (.t 7), none⟩,
    ⟨some 9, .fad 1 (.t 3), none⟩,
    ⟨none, .st 1 (.t 9) (.t 8), none⟩] [] [1, 2, 3])
  (.seq (.reg false [⟨some 10, .fad 2 (.t 1), none⟩,
    ⟨some 11, .ld none (.t 10), none⟩,
    ⟨some 12, .fad 2 (.t 3), none⟩,
    ⟨none, .st 1 (.t 12) (.t 11), none⟩] [] [2, 3])
  (.seq (.reg false [⟨some 13, .ld (some 3) (.t 3), none⟩,
    ⟨none, .st 3 (.t 2) (.t 13), none⟩] [] [2])
  .ret)))))), [(2, some (some 3))]⟩
theorem laws_toNode_ok : okFn Try.prog 109 laws_toNode = true := by kernel_rfl
def laws_eqNode : IFn := ⟨20, (.seq (.reg false [⟨some 2, .box (.t 0), none⟩,
    ⟨some 3, .box (.t 1), none⟩,
    ⟨some 4, .mv (.c (.bool false)), none⟩] [] [2, 3])
  (.seq (.seq (.reg false [⟨some 5, .fad 0 (.t 2), none⟩,
    ⟨some 6, .ld none (.t 5), none⟩,
    ⟨some 7, .fad 0 (.t 3), none⟩,
    ⟨some 8, .ld none (.t 7), none⟩,
    ⟨some 9, .bin .neq (.t 6) (.t 8), none⟩] [] [2, 3, 9])
  (.cond (.t 9)
  (.seq (.reg false [⟨some 4, .mv (.c (.bool false)), none⟩] [] [4])
  .ret)
  .skip))
  (.seq (.seq (.reg false [⟨some 10, .fad 1 (.t 2), none⟩,
    ⟨some 11, .ld none (.t 10), none⟩,
    ⟨some 12, .fad 1 (.t 3), none⟩,
    ⟨some 13, .ld none (.t 12), none⟩,
    ⟨some 14, .bin .neq (.t 11) (.t 13), none⟩] [] [2, 3, 14])
  (.cond (.t 14)
  (.seq (.reg false [⟨some 4, .mv (.c (.bool false)), none⟩] [] [4])
  .ret)
  .skip))
  (.seq (.seq (.reg false [⟨some 15, .fad 2 (.t 2), none⟩,
    ⟨some 16, .ld none (.t 15), none⟩,
    ⟨some 17, .fad 2 (.t 3), none⟩,
    ⟨some 18, .ld none (.t 17), none⟩,
    ⟨some 19, .bin .neq (.t 16) (.t 18), none⟩] [] [19])
  (.cond (.t 19)
  (.seq (.reg false [⟨some 4, .mv (.c (.bool false)), none⟩] [] [4])
  .ret)
  .skip))
  (.seq (.reg false [⟨some 4, .mv (.c (.bool true)), none⟩] [] [4])
  .ret))))), [(4, none)]⟩
theorem laws_eqNode_ok : okFn Try.prog 110 laws_eqNode = true := by kernel_rfl
def spec_l6Know : IFn := ⟨38, (.seq (.reg false [⟨some 2, .box (.t 0), none⟩,
    ⟨some 4, .mv (.c (.bool false)), none⟩] [] [1, 2])
  (.seq (.seq (.reg false [⟨some 6, .mv (.t 1), none⟩,
    ⟨some 7, .len false (.t 6), none⟩,
    ⟨some 8, .bin .gtr (.t 7) (.c (.int .i64 200)), none⟩] [] [1, 2, 8])
  (.cond (.t 8)
  (.seq (.reg false [⟨some 4, .mv (.c (.bool false)), none⟩] [] [4])
  .ret)
  .skip))
  (.seq (.seq (.reg false [⟨some 5, .mv (.c (.int .i64 0)), none⟩] [] [1, 2, 5])
  (.block 0 (.loop (.seq (.seq (.reg false [⟨some 9, .mv (.t 5), none⟩,
    ⟨some 10, .mv (.t 1), none⟩,
    ⟨some 11, .len false (.t 10), none⟩,
    ⟨some 12, .bin .lss (.t 9) (.t 11), none⟩] [] [1, 2, 5, 12])
  (.cond (.t 12)
  .skip
  (.exit 0)))
  (.seq (.block 1 (.seq (.reg true [⟨some 15, .ld (some 1) (.t 2), none⟩,
    ⟨some 16, .mv (.t 1), none⟩,
    ⟨some 17, .mv (.t 5), none⟩,
    ⟨some 18, .iad 1 (.t 16) (.t 17), none⟩,
    ⟨some 19, .ld none (.t 18), none⟩,
    ⟨some 20, .call 59 [.t 15, .t 19], none⟩,
    ⟨some 21, .not (.t 20), none⟩,
    ⟨some 22, .mv (.t 21), none⟩,
    ⟨some 23, .mv (.t 5), some (22, false)⟩,
    ⟨some 24, .bin .gtr (.t 23) (.c (.int .i64 0)), some (22, false)⟩,
    ⟨some 25, .mv (.t 24), some (22, false)⟩,
    ⟨some 26, .mv (.t 1), some (25, true)⟩,
    ⟨some 27, .mv (.t 5), some (25, true)⟩,
    ⟨some 28, .bin .sub (.t 27) (.c (.int .i64 1)), some (25, true)⟩,
    ⟨some 29, .iad 1 (.t 26) (.t 28), some (25, true)⟩,
    ⟨some 30, .ld none (.t 29), some (25, true)⟩,
    ⟨some 31, .mv (.t 1), some (25, true)⟩,
    ⟨some 32, .mv (.t 5), some (25, true)⟩,
    ⟨some 33, .iad 1 (.t 31) (.t 32), some (25, true)⟩,
    ⟨some 34, .ld none (.t 33), some (25, true)⟩,
    ⟨some 35, .bin .geq (.t 30) (.t 34), some (25, true)⟩,
    ⟨some 36, .pick (.t 25) (.t 35) (.c (.bool false)), some (22, false)⟩,
    ⟨some 37, .pick (.t 22) (.c (.bool true)) (.t 36), none⟩] [0, 0, 0, 6, 14, 31, 63, 127, 255, 511, 1023, 2047, 2047, 6143, 16383, 32767, 2047, 2047, 198655, 460799, 1048575, 2097151, 4194303] [1, 2, 5, 37])
  (.cond (.t 37)
  (.seq (.reg false [⟨some 4, .mv (.c (.bool false)), none⟩] [] [4])
  .ret)
  .skip)))
  (.reg false [⟨some 13, .mv (.t 5), none⟩,
    ⟨some 14, .bin .add (.t 13) (.c (.int .i64 1)), none⟩,
    ⟨some 5, .mv (.t 14), none⟩] [] [1, 2, 5]))))))
  (.seq (.reg false [⟨some 4, .mv (.c (.bool true)), none⟩] [] [4])
  .ret)))), [(4, none)]⟩
theorem spec_l6Know_ok : okFn Try.prog 111 spec_l6Know = true := by kernel_rfl
end Go.Proofs.Ytnbodfakblbmbaa.I
