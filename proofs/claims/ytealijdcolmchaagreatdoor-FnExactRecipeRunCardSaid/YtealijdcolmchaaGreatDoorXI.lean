/- The functions of this seat told by trees. Printed by a program of this repository (mkir.py). Conditions: none. -/
import Derived.Test.YtealijdcolmchaaGreatDoorXSymQ
import Derived.Test.YtealijdcolmchaaGreatDoorProg
import Derived.KernelRfl
set_option maxRecDepth 100000
set_option linter.unusedVariables false
namespace Go.Proofs.YtealijdcolmchaaGreatDoor.I
open Go.Sym
def laws_FnExactRecipeRun : IFn := ⟨167, (.seq (.reg false [⟨some 3, .box (.t 0), none⟩,
    ⟨some 6, .mv (.c (.bool false)), none⟩] [] [1, 2, 3])
  (.seq (.seq (.reg false [⟨some 25, .mv (.t 1), none⟩,
    ⟨some 26, .len false (.t 25), none⟩,
    ⟨some 27, .bin .gtr (.t 26) (.c (.int .i64 1048576)), none⟩] [] [1, 2, 3, 27])
  (.cond (.t 27)
  (.seq (.reg false [⟨some 6, .mv (.c (.bool true)), none⟩] [] [6])
  .ret)
  .skip))
  (.seq (.seq (.reg false [⟨some 28, .mv (.t 2), none⟩,
    ⟨some 29, .len true (.t 28), none⟩,
    ⟨some 30, .bin .gtr (.t 29) (.c (.int .i64 1048576)), none⟩] [] [1, 2, 3, 30])
  (.cond (.t 30)
  (.seq (.reg false [⟨some 6, .mv (.c (.bool true)), none⟩] [] [6])
  .ret)
  .skip))
  (.seq (.reg false [⟨some 7, .mv (.c (.int .i64 1048576)), none⟩] [] [1, 2, 3, 7])
  (.seq (.reg false [⟨some 31, .ld (some 1) (.t 3), none⟩,
    ⟨some 32, .mv (.t 7), none⟩,
    ⟨some 33, .call 4 [.t 31, .t 32], none⟩,
    ⟨some 7, .mv (.t 33), none⟩] [] [1, 2, 3, 7])
  (.seq (.seq (.reg false [⟨some 34, .mv (.t 7), none⟩,
    ⟨some 35, .bin .lss (.t 34) (.c (.int .i64 0)), none⟩] [] [1, 2, 3, 35])
  (.cond (.t 35)
  (.seq (.reg false [⟨some 6, .mv (.c (.bool true)), none⟩] [] [6])
  .ret)
  .skip))
  (.seq (.reg false [⟨some 37, .ld (some 1) (.t 3), none⟩,
    ⟨some 38, .call 6 [.t 37], none⟩,
    ⟨some 39, .mv (.t 1), none⟩,
    ⟨some 40, .call 7 [.t 39], none⟩,
    ⟨some 41, .mv (.t 2), none⟩,
    ⟨some 42, .call 5 [.t 38, .t 40, .t 41], none⟩,
    ⟨some 36, .mv (.t 42), none⟩,
    ⟨some 43, .ext (.t 36) 0, none⟩,
    ⟨some 44, .ext (.t 36) 1, none⟩,
    ⟨some 45, .ext (.t 36) 2, none⟩,
    ⟨some 46, .ext (.t 36) 3, none⟩,
    ⟨some 8, .new [.nil], none⟩,
    ⟨none, .st 1 (.t 8) (.t 43), none⟩,
    ⟨some 9, .mv (.t 44), none⟩,
    ⟨some 10, .mv (.t 45), none⟩,
    ⟨some 11, .mv (.t 46), none⟩] [] [1, 2, 3, 8, 9, 10, 11])
  (.seq (.reg false [⟨some 47, .ld (some 1) (.t 3), none⟩,
    ⟨some 48, .call 6 [.t 47], none⟩,
    ⟨some 12, .new [.nil], none⟩,
    ⟨none, .st 1 (.t 12) (.t 48), none⟩] [] [1, 2, 3, 8, 9, 10, 11, 12])
  (.seq (.reg false [⟨some 49, .mv (.t 1), none⟩,
    ⟨some 50, .call 7 [.t 49], none⟩,
    ⟨some 13, .mv (.t 50), none⟩] [] [1, 2, 3, 8, 9, 10, 11, 12, 13])
  (.seq (.reg false [⟨some 52, .ld (some 1) (.t 12), none⟩,
    ⟨some 53, .mv (.t 13), none⟩,
    ⟨some 54, .mv (.t 2), none⟩,
    ⟨some 55, .call 8 [.t 52, .t 53, .t 54], none⟩,
    ⟨some 51, .mv (.t 55), none⟩,
    ⟨some 56, .ext (.t 51) 0, none⟩,
    ⟨some 57, .ext (.t 51) 1, none⟩,
    ⟨some 58, .ext (.t 51) 2, none⟩,
    ⟨some 59, .ext (.t 51) 3, none⟩,
    ⟨some 14, .new [.nil], none⟩,
    ⟨none, .st 1 (.t 14) (.t 56), none⟩,
    ⟨some 15, .mv (.t 57), none⟩,
    ⟨some 16, .mv (.t 58), none⟩,
    ⟨some 17, .mv (.t 59), none⟩] [] [1, 2, 3, 8, 9, 10, 11, 12, 13, 14, 15, 16, 17])
  (.seq (.seq (.reg false [⟨some 60, .ld (some 1) (.t 14), none⟩,
    ⟨some 61, .ld (some 1) (.t 8), none⟩,
    ⟨some 62, .call 9 [.t 60, .t 61], none⟩,
    ⟨some 63, .not (.t 62), none⟩,
    ⟨some 64, .mv (.t 63), none⟩,
    ⟨some 65, .mv (.t 15), some (64, false)⟩,
    ⟨some 66, .mv (.t 9), some (64, false)⟩,
    ⟨some 67, .bin .neq (.t 65) (.t 66), some (64, false)⟩,
    ⟨some 68, .pick (.t 64) (.c (.bool true)) (.t 67), none⟩,
    ⟨some 69, .mv (.t 68), none⟩,
    ⟨some 70, .mv (.t 16), some (69, false)⟩,
    ⟨some 71, .mv (.t 10), some (69, false)⟩,
    ⟨some 72, .bin .neq (.t 70) (.t 71), some (69, false)⟩,
    ⟨some 73, .pick (.t 69) (.c (.bool true)) (.t 72), none⟩,
    ⟨some 74, .mv (.t 73), none⟩,
    ⟨some 75, .mv (.t 17), some (74, false)⟩,
    ⟨some 76, .mv (.t 11), some (74, false)⟩,
    ⟨some 77, .bin .neq (.t 75) (.t 76), some (74, false)⟩,
    ⟨some 78, .pick (.t 74) (.c (.bool true)) (.t 77), none⟩] [] [1, 2, 3, 8, 9, 10, 11, 12, 13, 14, 15, 16, 17, 78])
  (.cond (.t 78)
  (.seq (.reg false [⟨some 6, .mv (.c (.bool false)), none⟩] [] [6])
  .ret)
  .skip))
  (.seq (.seq (.reg true [⟨some 79, .ld (some 1) (.t 12), none⟩,
    ⟨some 80, .ld (some 1) (.t 3), none⟩,
    ⟨some 81, .call 6 [.t 80], none⟩,
    ⟨some 82, .call 9 [.t 79, .t 81], none⟩,
    ⟨some 83, .not (.t 82), none⟩] [0, 0, 2, 7, 15] [1, 2, 3, 8, 9, 10, 11, 12, 13, 14, 15, 16, 17, 83])
  (.cond (.t 83)
  (.seq (.reg false [⟨some 6, .mv (.c (.bool false)), none⟩] [] [6])
  .ret)
  .skip))
  (.seq (.seq (.reg false [⟨some 84, .mv (.t 13), none⟩,
    ⟨some 85, .mv (.t 1), none⟩,
    ⟨some 86, .call 7 [.t 85], none⟩,
    ⟨some 87, .call 10 [.t 84, .t 86], none⟩,
    ⟨some 88, .not (.t 87), none⟩] [] [1, 2, 3, 8, 9, 10, 11, 12, 13, 14, 15, 16, 17, 88])
  (.cond (.t 88)
  (.seq (.reg false [⟨some 6, .mv (.c (.bool false)), none⟩] [] [6])
  .ret)
  .skip))
  (.seq (.reg false [⟨some 18, .mv (.c (.int .i64 1)), none⟩] [] [1, 2, 3, 8, 9, 10, 11, 12, 13, 14, 15, 16, 17, 18])
  (.seq (.reg false [⟨some 89, .ld (some 1) (.t 12), none⟩,
    ⟨some 90, .mv (.t 18), none⟩,
    ⟨some 91, .call 11 [.t 89, .t 90], none⟩,
    ⟨some 18, .mv (.t 91), none⟩] [] [1, 2, 3, 8, 9, 10, 11, 13, 14, 15, 16, 17, 18])
  (.seq (.reg false [⟨some 92, .mv (.t 13), none⟩,
    ⟨some 93, .mv (.t 18), none⟩,
    ⟨some 94, .call 12 [.t 92, .t 93], none⟩,
    ⟨some 18, .mv (.t 94), none⟩] [] [1, 2, 3, 8, 9, 10, 11, 14, 15, 16, 17, 18])
  (.seq (.seq (.reg false [⟨some 95, .mv (.t 18), none⟩,
    ⟨some 96, .bin .lss (.t 95) (.c (.int .i64 0)), none⟩,
    ⟨some 97, .mv (.t 96), none⟩,
    ⟨some 98, .ld (some 1) (.t 14), some (97, false)⟩,
    ⟨some 99, .ld (some 1) (.t 8), some (97, false)⟩,
    ⟨some 100, .call 9 [.t 98, .t 99], some (97, false)⟩,
    ⟨some 101, .not (.t 100), some (97, false)⟩,
    ⟨some 102, .pick (.t 97) (.c (.bool true)) (.t 101), none⟩,
    ⟨some 103, .mv (.t 102), none⟩,
    ⟨some 104, .mv (.t 15), some (103, false)⟩,
    ⟨some 105, .mv (.t 9), some (103, false)⟩,
    ⟨some 106, .bin .neq (.t 104) (.t 105), some (103, false)⟩,
    ⟨some 107, .pick (.t 103) (.c (.bool true)) (.t 106), none⟩,
    ⟨some 108, .mv (.t 107), none⟩,
    ⟨some 109, .mv (.t 16), some (108, false)⟩,
    ⟨some 110, .mv (.t 10), some (108, false)⟩,
    ⟨some 111, .bin .neq (.t 109) (.t 110), some (108, false)⟩,
    ⟨some 112, .pick (.t 108) (.c (.bool true)) (.t 111), none⟩,
    ⟨some 113, .mv (.t 112), none⟩,
    ⟨some 114, .mv (.t 17), some (113, false)⟩,
    ⟨some 115, .mv (.t 11), some (113, false)⟩,
    ⟨some 116, .bin .neq (.t 114) (.t 115), some (113, false)⟩,
    ⟨some 117, .pick (.t 113) (.c (.bool true)) (.t 116), none⟩] [] [1, 2, 3, 8, 9, 10, 11, 14, 117])
  (.cond (.t 117)
  (.seq (.reg false [⟨some 6, .mv (.c (.bool false)), none⟩] [] [6])
  .ret)
  .skip))
  (.seq (.reg false [⟨some 19, .mv (.c (.int .i64 1)), none⟩] [] [1, 2, 3, 8, 9, 10, 11, 14, 19])
  (.seq (.reg false [⟨some 118, .ld (some 1) (.t 14), none⟩,
    ⟨some 119, .mv (.t 19), none⟩,
    ⟨some 120, .call 11 [.t 118, .t 119], none⟩,
    ⟨some 19, .mv (.t 120), none⟩] [] [1, 2, 3, 8, 9, 10, 11, 14, 19])
  (.seq (.reg false [⟨some 20, .mv (.c (.int .i64 1)), none⟩] [] [1, 2, 3, 8, 9, 10, 11, 14, 19, 20])
  (.seq (.reg false [⟨some 121, .ld (some 1) (.t 14), none⟩,
    ⟨some 122, .mv (.t 20), none⟩,
    ⟨some 123, .call 13 [.t 121, .t 122], none⟩,
    ⟨some 20, .mv (.t 123), none⟩] [] [1, 2, 3, 8, 9, 10, 11, 14, 19, 20])
  (.seq (.seq (.reg false [⟨some 124, .mv (.t 20), none⟩,
    ⟨some 125, .bin .lss (.t 124) (.c (.int .i64 0)), none⟩] [] [1, 2, 3, 8, 9, 10, 11, 14, 19, 20, 125])
  (.cond (.t 125)
  (.seq (.reg false [⟨some 6, .mv (.c (.bool false)), none⟩] [] [6])
  .ret)
  .skip))
  (.seq (.seq (.reg false [⟨some 126, .mv (.t 20), none⟩,
    ⟨some 127, .mv (.t 19), none⟩,
    ⟨some 128, .bin .neq (.t 126) (.t 127), none⟩] [] [1, 2, 3, 8, 9, 10, 11, 14, 19, 128])
  (.cond (.t 128)
  (.seq (.reg false [⟨some 6, .mv (.c (.bool false)), none⟩] [] [6])
  .ret)
  .skip))
  (.seq (.reg false [⟨some 130, .ld (some 1) (.t 3), none⟩,
    ⟨some 131, .call 6 [.t 130], none⟩,
    ⟨some 132, .mv (.t 1), none⟩,
    ⟨some 133, .call 7 [.t 132], none⟩,
    ⟨some 134, .mv (.t 2), none⟩,
    ⟨some 135, .call 8 [.t 131, .t 133, .t 134], none⟩,
    ⟨some 129, .mv (.t 135), none⟩,
    ⟨some 136, .ext (.t 129) 0, none⟩,
    ⟨some 137, .ext (.t 129) 1, none⟩,
    ⟨some 138, .ext (.t 129) 2, none⟩,
    ⟨some 139, .ext (.t 129) 3, none⟩,
    ⟨some 21, .new [.nil], none⟩,
    ⟨none, .st 1 (.t 21) (.t 136), none⟩,
    ⟨some 22, .mv (.t 137), none⟩,
    ⟨some 23, .mv (.t 138), none⟩,
    ⟨some 24, .mv (.t 139), none⟩] [] [8, 9, 10, 11, 14, 19, 21, 22, 23, 24])
  (.seq (.seq (.reg false [⟨some 140, .ld (some 1) (.t 21), none⟩,
    ⟨some 141, .ld (some 1) (.t 8), none⟩,
    ⟨some 142, .call 9 [.t 140, .t 141], none⟩,
    ⟨some 143, .not (.t 142), none⟩,
    ⟨some 144, .mv (.t 143), none⟩,
    ⟨some 145, .mv (.t 22), some (144, false)⟩,
    ⟨some 146, .mv (.t 9), some (144, false)⟩,
    ⟨some 147, .bin .neq (.t 145) (.t 146), some (144, false)⟩,
    ⟨some 148, .pick (.t 144) (.c (.bool true)) (.t 147), none⟩,
    ⟨some 149, .mv (.t 148), none⟩,
    ⟨some 150, .mv (.t 23), some (149, false)⟩,
    ⟨some 151, .mv (.t 10), some (149, false)⟩,
    ⟨some 152, .bin .neq (.t 150) (.t 151), some (149, false)⟩,
    ⟨some 153, .pick (.t 149) (.c (.bool true)) (.t 152), none⟩,
    ⟨some 154, .mv (.t 153), none⟩,
    ⟨some 155, .mv (.t 24), some (154, false)⟩,
    ⟨some 156, .mv (.t 11), some (154, false)⟩,
    ⟨some 157, .bin .neq (.t 155) (.t 156), some (154, false)⟩,
    ⟨some 158, .pick (.t 154) (.c (.bool true)) (.t 157), none⟩] [] [14, 19, 158])
  (.cond (.t 158)
  (.seq (.reg false [⟨some 6, .mv (.c (.bool false)), none⟩] [] [6])
  .ret)
  .skip))
  (.seq (.reg false [⟨some 20, .mv (.c (.int .i64 1)), none⟩] [] [14, 19, 20])
  (.seq (.reg false [⟨some 159, .ld (some 1) (.t 14), none⟩,
    ⟨some 160, .mv (.t 20), none⟩,
    ⟨some 161, .call 13 [.t 159, .t 160], none⟩,
    ⟨some 20, .mv (.t 161), none⟩] [] [19, 20])
  (.seq (.seq (.reg false [⟨some 162, .mv (.t 20), none⟩,
    ⟨some 163, .bin .lss (.t 162) (.c (.int .i64 0)), none⟩] [] [19, 20, 163])
  (.cond (.t 163)
  (.seq (.reg false [⟨some 6, .mv (.c (.bool false)), none⟩] [] [6])
  .ret)
  .skip))
  (.seq (.seq (.reg false [⟨some 164, .mv (.t 20), none⟩,
    ⟨some 165, .mv (.t 19), none⟩,
    ⟨some 166, .bin .neq (.t 164) (.t 165), none⟩] [] [166])
  (.cond (.t 166)
  (.seq (.reg false [⟨some 6, .mv (.c (.bool false)), none⟩] [] [6])
  .ret)
  .skip))
  (.seq (.reg false [⟨some 6, .mv (.c (.bool true)), none⟩] [] [6])
  .ret)))))))))))))))))))))))))))))), [(6, none)]⟩
theorem laws_FnExactRecipeRun_ok : okFn Tryz.prog 3 laws_FnExactRecipeRun = true := by kernel_rfl
def laws_szPool : IFn := ⟨12, (.seq (.reg false [⟨some 2, .box (.t 0), none⟩,
    ⟨some 4, .mv (.c (.int .i64 0)), none⟩] [] [1, 2])
  (.seq (.reg false [⟨some 5, .fad 0 (.t 2), none⟩,
    ⟨some 6, .ld none (.t 5), none⟩,
    ⟨some 7, .mv (.t 1), none⟩,
    ⟨some 8, .call 14 [.t 6, .t 7], none⟩,
    ⟨some 1, .mv (.t 8), none⟩] [] [1])
  (.seq (.seq (.reg false [⟨some 9, .mv (.t 1), none⟩,
    ⟨some 10, .bin .lss (.t 9) (.c (.int .i64 0)), none⟩] [] [1, 10])
  (.cond (.t 10)
  (.seq (.reg false [⟨some 4, .mv (.c (.int .i64 (-1))), none⟩] [] [4])
  .ret)
  .skip))
  (.seq (.reg false [⟨some 11, .mv (.t 1), none⟩,
    ⟨some 4, .mv (.t 11), none⟩] [] [4])
  .ret)))), [(4, none)]⟩
theorem laws_szPool_ok : okFn Tryz.prog 4 laws_szPool = true := by kernel_rfl
def spec_RecipeRun : IFn := ⟨56, (.seq (.reg false [⟨some 3, .box (.t 0), none⟩,
    ⟨some 6, .new [.nil], none⟩,
    ⟨some 7, .mv (.c (.int .i64 0)), none⟩,
    ⟨some 8, .mv (.c (.int .i64 0)), none⟩,
    ⟨some 9, .mv (.c (.int .i64 0)), none⟩] [] [1, 2, 3, 6])
  (.seq (.reg false [⟨some 15, .build [.nil] [], none⟩,
    ⟨some 10, .new [.nil], none⟩,
    ⟨none, .st 1 (.t 10) (.t 15), none⟩] [] [1, 2, 3, 6, 10])
  (.seq (.seq (.reg false [⟨some 16, .ld (some 1) (.t 3), none⟩,
    ⟨some 17, .call 15 [.t 16], none⟩] [] [1, 2, 3, 6, 10, 17])
  (.cond (.t 17)
  (.reg false [⟨some 18, .ld (some 1) (.t 3), none⟩,
    ⟨some 19, .call 16 [.t 18], none⟩,
    ⟨none, .st 1 (.t 10) (.t 19), none⟩] [] [1, 2, 3, 6, 10])
  .skip))
  (.seq (.block 0 (.seq (.reg false [⟨some 21, .mv (.t 2), none⟩,
    ⟨some 22, .len true (.t 21), none⟩,
    ⟨some 23, .bin .gtr (.t 22) (.c (.int .i64 2000)), none⟩,
    ⟨some 20, .mv (.t 23), none⟩] [] [1, 2, 3, 6, 10, 20])
  (.cond (.t 20)
  (.seq (.reg false [⟨some 24, .ld (some 1) (.t 10), none⟩,
    ⟨none, .st 1 (.t 6) (.t 24), none⟩,
    ⟨some 7, .mv (.c (.int .i64 (-1))), none⟩,
    ⟨some 8, .mv (.c (.int .i64 0)), none⟩,
    ⟨some 9, .mv (.c (.int .i64 1)), none⟩] [] [6, 7, 8, 9])
  .ret)
  (.seq (.reg false [⟨some 26, .ld (some 1) (.t 3), none⟩,
    ⟨some 27, .mv (.t 1), none⟩,
    ⟨some 28, .call 17 [.t 26, .t 27], none⟩,
    ⟨some 29, .not (.t 28), none⟩,
    ⟨some 25, .mv (.t 29), none⟩] [] [1, 2, 3, 6, 10, 25])
  (.cond (.t 25)
  (.seq (.reg false [⟨some 30, .ld (some 1) (.t 10), none⟩,
    ⟨none, .st 1 (.t 6) (.t 30), none⟩,
    ⟨some 7, .mv (.c (.int .i64 (-1))), none⟩,
    ⟨some 8, .mv (.c (.int .i64 0)), none⟩,
    ⟨some 9, .mv (.c (.int .i64 5)), none⟩] [] [6, 7, 8, 9])
  .ret)
  .skip)))))
  (.seq (.reg false [⟨some 32, .ld (some 1) (.t 3), none⟩,
    ⟨some 33, .mv (.t 1), none⟩,
    ⟨some 34, .mv (.t 2), none⟩,
    ⟨some 35, .call 18 [.t 32, .t 33, .t 34, .c (.int .i64 0)], none⟩,
    ⟨some 31, .mv (.t 35), none⟩,
    ⟨some 36, .ext (.t 31) 0, none⟩,
    ⟨some 37, .ext (.t 31) 1, none⟩,
    ⟨some 38, .ext (.t 31) 2, none⟩,
    ⟨some 39, .ext (.t 31) 3, none⟩,
    ⟨some 11, .new [.nil], none⟩,
    ⟨none, .st 1 (.t 11) (.t 36), none⟩,
    ⟨some 12, .mv (.t 37), none⟩,
    ⟨some 13, .mv (.t 38), none⟩,
    ⟨some 14, .mv (.t 39), none⟩] [] [2, 6, 10, 11, 12, 13, 14])
  (.seq (.seq (.reg false [⟨some 40, .mv (.t 14), none⟩,
    ⟨some 41, .bin .neq (.t 40) (.c (.int .i64 0)), none⟩] [] [2, 6, 10, 11, 12, 13, 14, 41])
  (.cond (.t 41)
  (.seq (.reg false [⟨some 42, .ld (some 1) (.t 10), none⟩,
    ⟨some 43, .mv (.t 13), none⟩,
    ⟨some 44, .mv (.t 14), none⟩,
    ⟨none, .st 1 (.t 6) (.t 42), none⟩,
    ⟨some 7, .mv (.c (.int .i64 (-1))), none⟩,
    ⟨some 8, .mv (.t 43), none⟩,
    ⟨some 9, .mv (.t 44), none⟩] [] [6, 7, 8, 9])
  .ret)
  .skip))
  (.seq (.seq (.reg false [⟨some 45, .mv (.t 13), none⟩,
    ⟨some 46, .mv (.t 2), none⟩,
    ⟨some 47, .len true (.t 46), none⟩,
    ⟨some 48, .bin .lss (.t 45) (.t 47), none⟩] [] [6, 10, 11, 12, 13, 14, 48])
  (.cond (.t 48)
  (.seq (.reg false [⟨some 49, .ld (some 1) (.t 10), none⟩,
    ⟨some 50, .mv (.t 13), none⟩,
    ⟨none, .st 1 (.t 6) (.t 49), none⟩,
    ⟨some 7, .mv (.c (.int .i64 (-1))), none⟩,
    ⟨some 8, .mv (.t 50), none⟩,
    ⟨some 9, .mv (.c (.int .i64 6)), none⟩] [] [6, 7, 8, 9])
  .ret)
  .skip))
  (.seq (.reg false [⟨some 51, .ld (some 1) (.t 11), none⟩,
    ⟨some 52, .call 16 [.t 51], none⟩,
    ⟨some 53, .mv (.t 12), none⟩,
    ⟨some 54, .mv (.t 13), none⟩,
    ⟨some 55, .mv (.t 14), none⟩,
    ⟨none, .st 1 (.t 6) (.t 52), none⟩,
    ⟨some 7, .mv (.t 53), none⟩,
    ⟨some 8, .mv (.t 54), none⟩,
    ⟨some 9, .mv (.t 55), none⟩] [] [6, 7, 8, 9])
  .ret)))))))), [(6, some (some 1)), (7, none), (8, none), (9, none)]⟩
theorem spec_RecipeRun_ok : okFn Tryz.prog 5 spec_RecipeRun = true := by kernel_rfl
def laws_toPool : IFn := ⟨9, (.seq (.reg false [⟨some 1, .box (.t 0), none⟩,
    ⟨some 2, .new [.nil], none⟩] [] [1, 2])
  (.seq (.reg false [⟨some 3, .new [.nil], none⟩] [] [1, 2, 3])
  (.seq (.reg false [⟨some 4, .fad 0 (.t 1), none⟩,
    ⟨some 5, .ld none (.t 4), none⟩,
    ⟨some 6, .call 19 [.t 5], none⟩,
    ⟨some 7, .fad 0 (.t 3), none⟩,
    ⟨none, .st 1 (.t 7) (.t 6), none⟩] [] [2, 3])
  (.seq (.reg false [⟨some 8, .ld (some 1) (.t 3), none⟩,
    ⟨none, .st 1 (.t 2) (.t 8), none⟩] [] [2])
  .ret)))), [(2, some (some 1))]⟩
theorem laws_toPool_ok : okFn Tryz.prog 6 laws_toPool = true := by kernel_rfl
def laws_toIntS : IFn := ⟨22, (.seq (.reg false [⟨some 2, .mv (.c (.nil)), none⟩] [] [0])
  (.seq (.reg false [⟨some 5, .mv (.t 0), none⟩,
    ⟨some 6, .len false (.t 5), none⟩,
    ⟨some 7, .mk 1 8 [.int .i64 0] (.t 6) (.t 6), none⟩,
    ⟨some 3, .mv (.t 7), none⟩] [] [0, 3])
  (.seq (.seq (.reg false [⟨some 4, .mv (.c (.int .i64 0)), none⟩] [] [0, 3, 4])
  (.block 0 (.loop (.seq (.seq (.reg false [⟨some 8, .mv (.t 4), none⟩,
    ⟨some 9, .mv (.t 0), none⟩,
    ⟨some 10, .len false (.t 9), none⟩,
    ⟨some 11, .bin .lss (.t 8) (.t 10), none⟩] [] [0, 3, 4, 11])
  (.cond (.t 11)
  .skip
  (.exit 0)))
  (.seq (.block 1 (.reg false [⟨some 14, .mv (.t 3), none⟩,
    ⟨some 15, .mv (.t 4), none⟩,
    ⟨some 16, .mv (.t 0), none⟩,
    ⟨some 17, .mv (.t 4), none⟩,
    ⟨some 18, .iad 1 (.t 16) (.t 17), none⟩,
    ⟨some 19, .ld none (.t 18), none⟩,
    ⟨some 20, .iad 1 (.t 14) (.t 15), none⟩,
    ⟨none, .st 1 (.t 20) (.t 19), none⟩] [] [0, 3, 4]))
  (.reg false [⟨some 12, .mv (.t 4), none⟩,
    ⟨some 13, .bin .add (.t 12) (.c (.int .i64 1)), none⟩,
    ⟨some 4, .mv (.t 13), none⟩] [] [0, 3, 4]))))))
  (.seq (.reg false [⟨some 21, .mv (.t 3), none⟩,
    ⟨some 2, .mv (.t 21), none⟩] [] [2])
  .ret)))), [(2, none)]⟩
theorem laws_toIntS_ok : okFn Tryz.prog 7 laws_toIntS = true := by kernel_rfl
def impl_RecipeRun : IFn := ⟨60, (.seq (.reg false [⟨some 3, .box (.t 0), none⟩,
    ⟨some 4, .box (.t 1), none⟩,
    ⟨some 6, .new [.nil], none⟩,
    ⟨some 7, .mv (.c (.int .i64 0)), none⟩,
    ⟨some 8, .mv (.c (.int .i64 0)), none⟩,
    ⟨some 9, .mv (.c (.int .i64 0)), none⟩] [] [2, 3, 4, 6])
  (.seq (.block 0 (.seq (.reg false [⟨some 14, .mv (.t 2), none⟩,
    ⟨some 15, .len true (.t 14), none⟩,
    ⟨some 16, .bin .gtr (.t 15) (.c (.int .i64 2000)), none⟩,
    ⟨some 13, .mv (.t 16), none⟩] [] [2, 3, 4, 6, 13])
  (.cond (.t 13)
  (.seq (.reg false [⟨some 17, .ld (some 1) (.t 3), none⟩,
    ⟨some 18, .call 20 [.t 17], none⟩,
    ⟨none, .st 1 (.t 6) (.t 18), none⟩,
    ⟨some 7, .mv (.c (.int .i64 (-1))), none⟩,
    ⟨some 8, .mv (.c (.int .i64 0)), none⟩,
    ⟨some 9, .mv (.c (.int .i64 1)), none⟩] [] [6, 7, 8, 9])
  .ret)
  (.seq (.reg false [⟨some 20, .ld (some 1) (.t 3), none⟩,
    ⟨some 21, .ld none (.t 4), none⟩,
    ⟨some 22, .call 21 [.t 20, .t 21], none⟩,
    ⟨some 23, .not (.t 22), none⟩,
    ⟨some 19, .mv (.t 23), none⟩] [] [2, 3, 4, 6, 19])
  (.cond (.t 19)
  (.seq (.reg false [⟨some 24, .ld (some 1) (.t 3), none⟩,
    ⟨some 25, .call 20 [.t 24], none⟩,
    ⟨none, .st 1 (.t 6) (.t 25), none⟩,
    ⟨some 7, .mv (.c (.int .i64 (-1))), none⟩,
    ⟨some 8, .mv (.c (.int .i64 0)), none⟩,
    ⟨some 9, .mv (.c (.int .i64 5)), none⟩] [] [6, 7, 8, 9])
  .ret)
  .skip)))))
  (.seq (.reg false [⟨some 26, .ld (some 1) (.t 3), none⟩,
    ⟨some 27, .call 22 [.t 26], none⟩,
    ⟨some 10, .new [.nil], none⟩,
    ⟨none, .st 1 (.t 10) (.t 27), none⟩] [] [2, 3, 4, 6, 10])
  (.seq (.reg false [⟨some 28, .mv (.t 2), none⟩,
    ⟨some 29, .build [.str ⟨#[]⟩, .int .i64 0, .int .i64 0, .str ⟨#[]⟩, .nilf, .nilf] [(0, 1, .t 28), (3, 1, .c (.str ⟨#[64, 60, 62, 33, 111, 120]⟩))], none⟩,
    ⟨some 30, .box (.t 29), none⟩,
    ⟨some 11, .mv (.t 30), none⟩] [] [2, 3, 4, 6, 10, 11])
  (.seq (.reg false [⟨some 31, .mv (.t 11), none⟩,
    ⟨some 32, .mkf 23 [.t 4, .t 10], none⟩,
    ⟨some 33, .nck (.t 31), none⟩,
    ⟨some 34, .fad 4 (.t 33), none⟩,
    ⟨none, .st 1 (.t 34) (.t 32), none⟩] [] [2, 3, 6, 10, 11])
  (.seq (.reg false [⟨some 35, .mv (.t 11), none⟩,
    ⟨some 36, .mkf 26 [.t 10], none⟩,
    ⟨some 37, .nck (.t 35), none⟩,
    ⟨some 38, .fad 5 (.t 37), none⟩,
    ⟨none, .st 1 (.t 38) (.t 36), none⟩] [] [2, 3, 6, 10, 11])
  (.seq (.reg false [⟨some 39, .mv (.t 11), none⟩,
    ⟨some 40, .call 30 [.t 39, .c (.int .i64 2000)], none⟩,
    ⟨some 12, .mv (.t 40), none⟩] [] [2, 3, 6, 10, 11, 12])
  (.seq (.seq (.reg false [⟨some 41, .mv (.t 11), none⟩,
    ⟨some 42, .nck (.t 41), none⟩,
    ⟨some 43, .fad 2 (.t 42), none⟩,
    ⟨some 44, .ld none (.t 43), none⟩,
    ⟨some 45, .bin .neq (.t 44) (.c (.int .i64 0)), none⟩] [] [2, 3, 6, 10, 11, 12, 45])
  (.cond (.t 45)
  (.seq (.reg true [⟨some 46, .ld (some 1) (.t 3), none⟩,
    ⟨some 47, .call 22 [.t 46], none⟩,
    ⟨some 48, .mv (.t 11), none⟩,
    ⟨some 49, .nck (.t 48), none⟩,
    ⟨some 50, .fad 1 (.t 49), none⟩,
    ⟨some 51, .ld none (.t 50), none⟩,
    ⟨some 52, .mv (.t 11), none⟩,
    ⟨some 53, .nck (.t 52), none⟩,
    ⟨some 54, .fad 2 (.t 53), none⟩,
    ⟨some 55, .ld none (.t 54), none⟩,
    ⟨none, .st 1 (.t 6) (.t 47), none⟩,
    ⟨some 7, .mv (.c (.int .i64 (-1))), none⟩,
    ⟨some 8, .mv (.t 51), none⟩,
    ⟨some 9, .mv (.t 55), none⟩] [0, 1, 0, 4, 12, 28, 0, 64, 192, 448, 3, 1027, 3135, 8191] [6, 7, 8, 9])
  .ret)
  .skip))
  (.seq (.reg false [⟨some 56, .ld (some 1) (.t 10), none⟩,
    ⟨some 57, .mv (.t 12), none⟩,
    ⟨some 58, .mv (.t 2), none⟩,
    ⟨some 59, .len true (.t 58), none⟩,
    ⟨none, .st 1 (.t 6) (.t 56), none⟩,
    ⟨some 7, .mv (.t 57), none⟩,
    ⟨some 8, .mv (.t 59), none⟩,
    ⟨some 9, .mv (.c (.int .i64 0)), none⟩] [] [6, 7, 8, 9])
  .ret))))))))), [(6, some (some 1)), (7, none), (8, none), (9, none)]⟩
theorem impl_RecipeRun_ok : okFn Tryz.prog 8 impl_RecipeRun = true := by kernel_rfl
def laws_eqPool : IFn := ⟨11, (.seq (.reg false [⟨some 2, .box (.t 0), none⟩,
    ⟨some 3, .box (.t 1), none⟩,
    ⟨some 4, .mv (.c (.bool false)), none⟩] [] [2, 3])
  (.seq (.seq (.reg false [⟨some 5, .fad 0 (.t 2), none⟩,
    ⟨some 6, .ld none (.t 5), none⟩,
    ⟨some 7, .fad 0 (.t 3), none⟩,
    ⟨some 8, .ld none (.t 7), none⟩,
    ⟨some 9, .call 31 [.t 6, .t 8], none⟩,
    ⟨some 10, .not (.t 9), none⟩] [] [10])
  (.cond (.t 10)
  (.seq (.reg false [⟨some 4, .mv (.c (.bool false)), none⟩] [] [4])
  .ret)
  .skip))
  (.seq (.reg false [⟨some 4, .mv (.c (.bool true)), none⟩] [] [4])
  .ret))), [(4, none)]⟩
theorem laws_eqPool_ok : okFn Tryz.prog 9 laws_eqPool = true := by kernel_rfl
def laws_eqIntS : IFn := ⟨26, (.seq (.reg false [⟨some 4, .mv (.c (.bool false)), none⟩] [] [0, 1])
  (.seq (.seq (.reg false [⟨some 6, .mv (.t 0), none⟩,
    ⟨some 7, .len false (.t 6), none⟩,
    ⟨some 8, .mv (.t 1), none⟩,
    ⟨some 9, .len false (.t 8), none⟩,
    ⟨some 10, .bin .neq (.t 7) (.t 9), none⟩] [] [0, 1, 10])
  (.cond (.t 10)
  (.seq (.reg false [⟨some 4, .mv (.c (.bool false)), none⟩] [] [4])
  .ret)
  .skip))
  (.seq (.seq (.reg false [⟨some 5, .mv (.c (.int .i64 0)), none⟩] [] [0, 1, 5])
  (.block 0 (.loop (.seq (.seq (.reg false [⟨some 11, .mv (.t 5), none⟩,
    ⟨some 12, .mv (.t 0), none⟩,
    ⟨some 13, .len false (.t 12), none⟩,
    ⟨some 14, .bin .lss (.t 11) (.t 13), none⟩] [] [0, 1, 5, 14])
  (.cond (.t 14)
  .skip
  (.exit 0)))
  (.seq (.block 1 (.seq (.reg true [⟨some 17, .mv (.t 0), none⟩,
    ⟨some 18, .mv (.t 5), none⟩,
    ⟨some 19, .iad 1 (.t 17) (.t 18), none⟩,
    ⟨some 20, .ld none (.t 19), none⟩,
    ⟨some 21, .mv (.t 1), none⟩,
    ⟨some 22, .mv (.t 5), none⟩,
    ⟨some 23, .iad 1 (.t 21) (.t 22), none⟩,
    ⟨some 24, .ld none (.t 23), none⟩,
    ⟨some 25, .bin .neq (.t 20) (.t 24), none⟩] [0, 0, 3, 7, 0, 0, 48, 112, 255] [0, 1, 5, 25])
  (.cond (.t 25)
  (.seq (.reg false [⟨some 4, .mv (.c (.bool false)), none⟩] [] [4])
  .ret)
  .skip)))
  (.reg false [⟨some 15, .mv (.t 5), none⟩,
    ⟨some 16, .bin .add (.t 15) (.c (.int .i64 1)), none⟩,
    ⟨some 5, .mv (.t 16), none⟩] [] [0, 1, 5]))))))
  (.seq (.reg false [⟨some 4, .mv (.c (.bool true)), none⟩] [] [4])
  .ret)))), [(4, none)]⟩
theorem laws_eqIntS_ok : okFn Tryz.prog 10 laws_eqIntS = true := by kernel_rfl
def laws_markPool : IFn := ⟨10, (.seq (.reg false [⟨some 2, .box (.t 0), none⟩,
    ⟨some 4, .mv (.c (.int .i64 0)), none⟩] [] [1, 2])
  (.seq (.reg false [⟨some 5, .fad 0 (.t 2), none⟩,
    ⟨some 6, .ld none (.t 5), none⟩,
    ⟨some 7, .mv (.t 1), none⟩,
    ⟨some 8, .call 32 [.t 6, .t 7], none⟩,
    ⟨some 1, .mv (.t 8), none⟩] [] [1])
  (.seq (.reg false [⟨some 9, .mv (.t 1), none⟩,
    ⟨some 4, .mv (.t 9), none⟩] [] [4])
  .ret))), [(4, none)]⟩
theorem laws_markPool_ok : okFn Tryz.prog 11 laws_markPool = true := by kernel_rfl
def laws_markIntS : IFn := ⟨19, (.seq (.reg false [⟨some 4, .mv (.c (.int .i64 0)), none⟩] [] [0, 1])
  (.seq (.seq (.reg false [⟨some 5, .mv (.c (.int .i64 0)), none⟩] [] [0, 1, 5])
  (.block 0 (.loop (.seq (.seq (.reg false [⟨some 6, .mv (.t 5), none⟩,
    ⟨some 7, .mv (.t 0), none⟩,
    ⟨some 8, .len false (.t 7), none⟩,
    ⟨some 9, .bin .lss (.t 6) (.t 8), none⟩] [] [0, 1, 5, 9])
  (.cond (.t 9)
  .skip
  (.exit 0)))
  (.seq (.block 1 (.seq (.reg false [⟨some 12, .mv (.t 0), none⟩,
    ⟨some 13, .mv (.t 5), none⟩,
    ⟨some 14, .mv (.t 1), none⟩,
    ⟨some 15, .iad 1 (.t 12) (.t 13), none⟩,
    ⟨none, .st 1 (.t 15) (.t 14), none⟩] [] [0, 1, 5])
  (.reg false [⟨some 16, .mv (.t 1), none⟩,
    ⟨some 17, .bin .add (.t 16) (.c (.int .i64 1)), none⟩,
    ⟨some 1, .mv (.t 17), none⟩] [] [0, 1, 5])))
  (.reg false [⟨some 10, .mv (.t 5), none⟩,
    ⟨some 11, .bin .add (.t 10) (.c (.int .i64 1)), none⟩,
    ⟨some 5, .mv (.t 11), none⟩] [] [0, 1, 5]))))))
  (.seq (.reg false [⟨some 18, .mv (.t 1), none⟩,
    ⟨some 4, .mv (.t 18), none⟩] [] [4])
  .ret))), [(4, none)]⟩
theorem laws_markIntS_ok : okFn Tryz.prog 12 laws_markIntS = true := by kernel_rfl
def laws_heldPool : IFn := ⟨12, (.seq (.reg false [⟨some 2, .box (.t 0), none⟩,
    ⟨some 4, .mv (.c (.int .i64 0)), none⟩] [] [1, 2])
  (.seq (.reg false [⟨some 5, .fad 0 (.t 2), none⟩,
    ⟨some 6, .ld none (.t 5), none⟩,
    ⟨some 7, .mv (.t 1), none⟩,
    ⟨some 8, .call 33 [.t 6, .t 7], none⟩,
    ⟨some 1, .mv (.t 8), none⟩] [] [1])
  (.seq (.seq (.reg false [⟨some 9, .mv (.t 1), none⟩,
    ⟨some 10, .bin .lss (.t 9) (.c (.int .i64 0)), none⟩] [] [1, 10])
  (.cond (.t 10)
  (.seq (.reg false [⟨some 4, .mv (.c (.int .i64 (-1))), none⟩] [] [4])
  .ret)
  .skip))
  (.seq (.reg false [⟨some 11, .mv (.t 1), none⟩,
    ⟨some 4, .mv (.t 11), none⟩] [] [4])
  .ret)))), [(4, none)]⟩
theorem laws_heldPool_ok : okFn Tryz.prog 13 laws_heldPool = true := by kernel_rfl
def laws_szNodeS : IFn := ⟨12, (.seq (.reg false [⟨some 4, .mv (.c (.int .i64 0)), none⟩] [] [0, 1])
  (.seq (.reg false [⟨some 5, .mv (.t 1), none⟩,
    ⟨some 6, .mv (.t 0), none⟩,
    ⟨some 7, .len false (.t 6), none⟩,
    ⟨some 8, .bin .sub (.t 5) (.t 7), none⟩,
    ⟨some 1, .mv (.t 8), none⟩] [] [1])
  (.seq (.seq (.reg false [⟨some 9, .mv (.t 1), none⟩,
    ⟨some 10, .bin .lss (.t 9) (.c (.int .i64 0)), none⟩] [] [1, 10])
  (.cond (.t 10)
  (.seq (.reg false [⟨some 4, .mv (.c (.int .i64 (-1))), none⟩] [] [4])
  .ret)
  .skip))
  (.seq (.reg false [⟨some 11, .mv (.t 1), none⟩,
    ⟨some 4, .mv (.t 11), none⟩] [] [4])
  .ret)))), [(4, none)]⟩
theorem laws_szNodeS_ok : okFn Tryz.prog 14 laws_szNodeS = true := by kernel_rfl
def spec_PoolOk : IFn := ⟨34, (.seq (.reg false [⟨some 1, .box (.t 0), none⟩,
    ⟨some 2, .mv (.c (.bool false)), none⟩] [] [1])
  (.seq (.seq (.reg false [⟨some 4, .fad 0 (.t 1), none⟩,
    ⟨some 5, .ld none (.t 4), none⟩,
    ⟨some 6, .len false (.t 5), none⟩,
    ⟨some 7, .bin .gtr (.t 6) (.c (.int .i64 500)), none⟩] [] [1, 7])
  (.cond (.t 7)
  (.seq (.reg false [⟨some 2, .mv (.c (.bool false)), none⟩] [] [2])
  .ret)
  .skip))
  (.seq (.seq (.reg false [⟨some 3, .mv (.c (.int .i64 0)), none⟩] [] [1, 3])
  (.block 0 (.loop (.seq (.seq (.reg false [⟨some 8, .mv (.t 3), none⟩,
    ⟨some 9, .fad 0 (.t 1), none⟩,
    ⟨some 10, .ld none (.t 9), none⟩,
    ⟨some 11, .len false (.t 10), none⟩,
    ⟨some 12, .bin .lss (.t 8) (.t 11), none⟩] [] [1, 3, 12])
  (.cond (.t 12)
  .skip
  (.exit 0)))
  (.seq (.block 1 (.seq (.reg true [⟨some 15, .fad 0 (.t 1), none⟩,
    ⟨some 16, .ld none (.t 15), none⟩,
    ⟨some 17, .mv (.t 3), none⟩,
    ⟨some 18, .iad 3 (.t 16) (.t 17), none⟩,
    ⟨some 19, .ld (some 3) (.t 18), none⟩,
    ⟨some 20, .mv (.t 3), none⟩,
    ⟨some 21, .call 34 [.t 19, .t 20], none⟩,
    ⟨some 22, .not (.t 21), none⟩,
    ⟨some 23, .mv (.t 22), none⟩,
    ⟨some 24, .ld (some 1) (.t 1), some (23, false)⟩,
    ⟨some 25, .fad 0 (.t 1), some (23, false)⟩,
    ⟨some 26, .ld none (.t 25), some (23, false)⟩,
    ⟨some 27, .mv (.t 3), some (23, false)⟩,
    ⟨some 28, .iad 3 (.t 26) (.t 27), some (23, false)⟩,
    ⟨some 29, .ld (some 3) (.t 28), some (23, false)⟩,
    ⟨some 30, .call 35 [.t 24, .t 29], some (23, false)⟩,
    ⟨some 31, .mv (.t 3), some (23, false)⟩,
    ⟨some 32, .bin .neq (.t 30) (.t 31), some (23, false)⟩,
    ⟨some 33, .pick (.t 23) (.c (.bool true)) (.t 32), none⟩] [0, 1, 0, 7, 15, 0, 63, 127, 255, 511, 511, 1535, 511, 7679, 15871, 32767, 511, 131071, 262143] [1, 3, 33])
  (.cond (.t 33)
  (.seq (.reg false [⟨some 2, .mv (.c (.bool false)), none⟩] [] [2])
  .ret)
  .skip)))
  (.reg false [⟨some 13, .mv (.t 3), none⟩,
    ⟨some 14, .bin .add (.t 13) (.c (.int .i64 1)), none⟩,
    ⟨some 3, .mv (.t 14), none⟩] [] [1, 3]))))))
  (.seq (.reg false [⟨some 2, .mv (.c (.bool true)), none⟩] [] [2])
  .ret)))), [(2, none)]⟩
theorem spec_PoolOk_ok : okFn Tryz.prog 15 spec_PoolOk = true := by kernel_rfl
def spec_l1Copy : IFn := ⟨8, (.seq (.reg false [⟨some 1, .box (.t 0), none⟩,
    ⟨some 2, .new [.nil], none⟩] [] [1, 2])
  (.seq (.reg false [⟨some 3, .bsl 3 0 [.int .i64 0, .int .i64 0, .int .i64 0] [], none⟩,
    ⟨some 4, .fad 0 (.t 1), none⟩,
    ⟨some 5, .ld none (.t 4), none⟩,
    ⟨some 6, .app 3 24 (.t 3) (.t 5), none⟩,
    ⟨some 7, .build [.nil] [(0, 1, .t 6)], none⟩,
    ⟨none, .st 1 (.t 2) (.t 7), none⟩] [] [2])
  .ret)), [(2, some (some 1))]⟩
theorem spec_l1Copy_ok : okFn Tryz.prog 16 spec_l1Copy = true := by kernel_rfl
def spec_KnowOk : IFn := ⟨12, (.seq (.reg false [⟨some 2, .box (.t 0), none⟩,
    ⟨some 4, .mv (.c (.bool false)), none⟩] [] [1, 2])
  (.seq (.reg false [⟨some 5, .ld (some 1) (.t 2), none⟩,
    ⟨some 6, .call 15 [.t 5], none⟩,
    ⟨some 7, .mv (.t 6), none⟩,
    ⟨some 8, .ld (some 1) (.t 2), some (7, true)⟩,
    ⟨some 9, .mv (.t 1), some (7, true)⟩,
    ⟨some 10, .call 36 [.t 8, .t 9], some (7, true)⟩,
    ⟨some 11, .pick (.t 7) (.t 10) (.c (.bool false)), none⟩,
    ⟨some 4, .mv (.t 11), none⟩] [] [4])
  .ret)), [(4, none)]⟩
theorem spec_KnowOk_ok : okFn Tryz.prog 17 spec_KnowOk = true := by kernel_rfl
def spec_l10Run : IFn := ⟨244, (.seq (.reg false [⟨some 4, .box (.t 0), none⟩,
    ⟨some 8, .new [.nil], none⟩,
    ⟨some 9, .mv (.c (.int .i64 0)), none⟩,
    ⟨some 10, .mv (.c (.int .i64 0)), none⟩,
    ⟨some 11, .mv (.c (.int .i64 0)), none⟩] [] [1, 2, 3, 4, 8])
  (.seq (.seq (.reg false [⟨some 43, .mv (.t 3), none⟩,
    ⟨some 44, .mv (.t 2), none⟩,
    ⟨some 45, .len true (.t 44), none⟩,
    ⟨some 46, .bin .geq (.t 43) (.t 45), none⟩] [] [1, 2, 3, 4, 8, 46])
  (.cond (.t 46)
  (.seq (.reg false [⟨some 47, .ld (some 1) (.t 4), none⟩,
    ⟨some 48, .mv (.t 2), none⟩,
    ⟨some 49, .len true (.t 48), none⟩,
    ⟨none, .st 1 (.t 8) (.t 47), none⟩,
    ⟨some 9, .mv (.c (.int .i64 (-1))), none⟩,
    ⟨some 10, .mv (.t 49), none⟩,
    ⟨some 11, .mv (.c (.int .i64 2)), none⟩] [] [8, 9, 10, 11])
  .ret)
  .skip))
  (.seq (.reg false [⟨some 50, .mv (.t 2), none⟩,
    ⟨some 51, .mv (.t 3), none⟩,
    ⟨some 52, .idxs (.t 50) (.t 51), none⟩,
    ⟨some 12, .mv (.t 52), none⟩] [] [1, 2, 3, 4, 8, 12])
  (.seq (.seq (.reg false [⟨some 53, .mv (.t 12), none⟩] [] [1, 2, 3, 4, 8, 12, 53])
  (.block 0 (.seq (.reg false [⟨some 55, .bin .eql (.t 53) (.c (.int .u8 64)), none⟩,
    ⟨some 54, .mv (.t 55), none⟩] [] [1, 2, 3, 4, 8, 12, 53, 54])
  (.cond (.t 54)
  (.seq (.reg false [⟨some 57, .mv (.t 2), none⟩,
    ⟨some 58, .mv (.t 3), none⟩,
    ⟨some 59, .bin .add (.t 58) (.c (.int .i64 1)), none⟩,
    ⟨some 60, .call 37 [.t 57, .t 59], none⟩,
    ⟨some 56, .mv (.t 60), none⟩,
    ⟨some 61, .ext (.t 56) 0, none⟩,
    ⟨some 62, .ext (.t 56) 1, none⟩,
    ⟨some 63, .ext (.t 56) 2, none⟩,
    ⟨some 13, .mv (.t 61), none⟩,
    ⟨some 14, .mv (.t 62), none⟩,
    ⟨some 15, .mv (.t 63), none⟩] [] [1, 3, 4, 8, 13, 14, 15])
  (.seq (.seq (.reg false [⟨some 64, .mv (.t 15), none⟩,
    ⟨some 65, .not (.t 64), none⟩,
    ⟨some 66, .mv (.t 65), none⟩,
    ⟨some 67, .mv (.t 13), some (66, false)⟩,
    ⟨some 68, .mv (.t 1), some (66, false)⟩,
    ⟨some 69, .len false (.t 68), some (66, false)⟩,
    ⟨some 70, .bin .geq (.t 67) (.t 69), some (66, false)⟩,
    ⟨some 71, .pick (.t 66) (.c (.bool true)) (.t 70), none⟩] [] [1, 3, 4, 8, 13, 14, 71])
  (.cond (.t 71)
  (.seq (.reg false [⟨some 72, .ld (some 1) (.t 4), none⟩,
    ⟨some 73, .mv (.t 3), none⟩,
    ⟨none, .st 1 (.t 8) (.t 72), none⟩,
    ⟨some 9, .mv (.c (.int .i64 (-1))), none⟩,
    ⟨some 10, .mv (.t 73), none⟩,
    ⟨some 11, .mv (.c (.int .i64 4)), none⟩] [] [8, 9, 10, 11])
  .ret)
  .skip))
  (.seq (.reg true [⟨some 74, .ld (some 1) (.t 4), none⟩,
    ⟨some 75, .mv (.t 1), none⟩,
    ⟨some 76, .mv (.t 13), none⟩,
    ⟨some 77, .iad 1 (.t 75) (.t 76), none⟩,
    ⟨some 78, .ld none (.t 77), none⟩,
    ⟨some 79, .mv (.t 14), none⟩,
    ⟨none, .st 1 (.t 8) (.t 74), none⟩,
    ⟨some 9, .mv (.t 78), none⟩,
    ⟨some 10, .mv (.t 79), none⟩,
    ⟨some 11, .mv (.c (.int .i64 0)), none⟩] [0, 0, 0, 6, 14, 0, 1, 95, 255, 511] [8, 9, 10, 11])
  .ret)))
  (.seq (.reg false [⟨some 81, .bin .eql (.t 53) (.c (.int .u8 110)), none⟩,
    ⟨some 80, .mv (.t 81), none⟩] [] [1, 2, 3, 4, 8, 12, 53, 80])
  (.cond (.t 80)
  (.seq (.reg false [⟨some 83, .mv (.t 2), none⟩,
    ⟨some 84, .mv (.t 3), none⟩,
    ⟨some 85, .bin .add (.t 84) (.c (.int .i64 1)), none⟩,
    ⟨some 86, .call 38 [.t 83, .t 85], none⟩,
    ⟨some 82, .mv (.t 86), none⟩,
    ⟨some 87, .ext (.t 82) 0, none⟩,
    ⟨some 88, .ext (.t 82) 1, none⟩,
    ⟨some 89, .ext (.t 82) 2, none⟩,
    ⟨some 16, .mv (.t 87), none⟩,
    ⟨some 17, .mv (.t 88), none⟩,
    ⟨some 18, .mv (.t 89), none⟩] [] [3, 4, 8, 16, 17, 18])
  (.seq (.seq (.reg false [⟨some 90, .mv (.t 18), none⟩,
    ⟨some 91, .not (.t 90), none⟩,
    ⟨some 92, .mv (.t 91), none⟩,
    ⟨some 93, .mv (.t 16), some (92, false)⟩,
    ⟨some 94, .call 39 [.t 93], some (92, false)⟩,
    ⟨some 95, .not (.t 94), some (92, false)⟩,
    ⟨some 96, .pick (.t 92) (.c (.bool true)) (.t 95), none⟩] [] [3, 4, 8, 16, 17, 96])
  (.cond (.t 96)
  (.seq (.reg false [⟨some 97, .ld (some 1) (.t 4), none⟩,
    ⟨some 98, .mv (.t 3), none⟩,
    ⟨none, .st 1 (.t 8) (.t 97), none⟩,
    ⟨some 9, .mv (.c (.int .i64 (-1))), none⟩,
    ⟨some 10, .mv (.t 98), none⟩,
    ⟨some 11, .mv (.c (.int .i64 4)), none⟩] [] [8, 9, 10, 11])
  .ret)
  .skip))
  (.seq (.reg false [⟨some 100, .ld (some 1) (.t 4), none⟩,
    ⟨some 101, .mv (.t 16), none⟩,
    ⟨some 102, .call 40 [.t 100, .t 101], none⟩,
    ⟨some 99, .mv (.t 102), none⟩,
    ⟨some 103, .ext (.t 99) 0, none⟩,
    ⟨some 104, .ext (.t 99) 1, none⟩,
    ⟨some 19, .new [.nil], none⟩,
    ⟨none, .st 1 (.t 19) (.t 103), none⟩,
    ⟨some 20, .mv (.t 104), none⟩] [] [4, 8, 17, 19, 20])
  (.seq (.seq (.reg false [⟨some 105, .mv (.t 20), none⟩,
    ⟨some 106, .bin .lss (.t 105) (.c (.int .i64 0)), none⟩] [] [4, 8, 17, 19, 20, 106])
  (.cond (.t 106)
  (.seq (.reg false [⟨some 107, .ld (some 1) (.t 4), none⟩,
    ⟨some 108, .mv (.t 17), none⟩,
    ⟨none, .st 1 (.t 8) (.t 107), none⟩,
    ⟨some 9, .mv (.c (.int .i64 (-1))), none⟩,
    ⟨some 10, .mv (.t 108), none⟩,
    ⟨some 11, .mv (.c (.int .i64 5)), none⟩] [] [8, 9, 10, 11])
  .ret)
  .skip))
  (.seq (.reg false [⟨some 109, .ld (some 1) (.t 19), none⟩,
    ⟨some 110, .mv (.t 20), none⟩,
    ⟨some 111, .mv (.t 17), none⟩,
    ⟨none, .st 1 (.t 8) (.t 109), none⟩,
    ⟨some 9, .mv (.t 110), none⟩,
    ⟨some 10, .mv (.t 111), none⟩,
    ⟨some 11, .mv (.c (.int .i64 0)), none⟩] [] [8, 9, 10, 11])
  .ret)))))
  (.seq (.seq (.reg false [⟨some 113, .bin .eql (.t 53) (.c (.int .u8 60)), none⟩,
    ⟨some 112, .mv (.t 113), none⟩] [] [1, 2, 3, 4, 8, 12, 53, 112])
  (.cond (.t 112)
  .skip
  (.seq (.reg false [⟨some 114, .bin .eql (.t 53) (.c (.int .u8 62)), none⟩,
    ⟨some 112, .mv (.t 114), none⟩] [] [1, 2, 3, 4, 8, 12, 53, 112])
  (.cond (.t 112)
  .skip
  (.reg false [⟨some 115, .bin .eql (.t 53) (.c (.int .u8 33)), none⟩,
    ⟨some 112, .mv (.t 115), none⟩] [] [1, 2, 3, 4, 8, 12, 53, 112])))))
  (.cond (.t 112)
  (.seq (.reg false [⟨some 117, .ld (some 1) (.t 4), none⟩,
    ⟨some 118, .mv (.t 1), none⟩,
    ⟨some 119, .mv (.t 2), none⟩,
    ⟨some 120, .mv (.t 3), none⟩,
    ⟨some 121, .bin .add (.t 120) (.c (.int .i64 1)), none⟩,
    ⟨some 122, .call 18 [.t 117, .t 118, .t 119, .t 121], none⟩,
    ⟨some 116, .mv (.t 122), none⟩,
    ⟨some 123, .ext (.t 116) 0, none⟩,
    ⟨some 124, .ext (.t 116) 1, none⟩,
    ⟨some 125, .ext (.t 116) 2, none⟩,
    ⟨some 126, .ext (.t 116) 3, none⟩,
    ⟨some 21, .new [.nil], none⟩,
    ⟨none, .st 1 (.t 21) (.t 123), none⟩,
    ⟨some 22, .mv (.t 124), none⟩,
    ⟨some 23, .mv (.t 125), none⟩,
    ⟨some 24, .mv (.t 126), none⟩] [] [8, 12, 21, 22, 23, 24])
  (.seq (.seq (.reg false [⟨some 127, .mv (.t 24), none⟩,
    ⟨some 128, .bin .neq (.t 127) (.c (.int .i64 0)), none⟩] [] [8, 12, 21, 22, 23, 24, 128])
  (.cond (.t 128)
  (.seq (.reg false [⟨some 129, .ld (some 1) (.t 21), none⟩,
    ⟨some 130, .mv (.t 23), none⟩,
    ⟨some 131, .mv (.t 24), none⟩,
    ⟨none, .st 1 (.t 8) (.t 129), none⟩,
    ⟨some 9, .mv (.c (.int .i64 (-1))), none⟩,
    ⟨some 10, .mv (.t 130), none⟩,
    ⟨some 11, .mv (.t 131), none⟩] [] [8, 9, 10, 11])
  .ret)
  .skip))
  (.seq (.reg false [⟨some 132, .ld (some 1) (.t 21), none⟩,
    ⟨some 133, .mv (.t 12), none⟩,
    ⟨some 134, .mv (.t 22), none⟩,
    ⟨some 135, .call 41 [.t 132, .t 133, .t 134], none⟩,
    ⟨some 25, .mv (.t 135), none⟩] [] [8, 21, 23, 25])
  (.seq (.seq (.reg false [⟨some 136, .mv (.t 25), none⟩,
    ⟨some 137, .bin .lss (.t 136) (.c (.int .i64 0)), none⟩] [] [8, 21, 23, 25, 137])
  (.cond (.t 137)
  (.seq (.reg false [⟨some 138, .ld (some 1) (.t 21), none⟩,
    ⟨some 139, .mv (.t 23), none⟩,
    ⟨none, .st 1 (.t 8) (.t 138), none⟩,
    ⟨some 9, .mv (.c (.int .i64 (-1))), none⟩,
    ⟨some 10, .mv (.t 139), none⟩,
    ⟨some 11, .mv (.c (.int .i64 7)), none⟩] [] [8, 9, 10, 11])
  .ret)
  .skip))
  (.seq (.reg false [⟨some 140, .ld (some 1) (.t 21), none⟩,
    ⟨some 141, .mv (.t 25), none⟩,
    ⟨some 142, .mv (.t 23), none⟩,
    ⟨none, .st 1 (.t 8) (.t 140), none⟩,
    ⟨some 9, .mv (.t 141), none⟩,
    ⟨some 10, .mv (.t 142), none⟩,
    ⟨some 11, .mv (.c (.int .i64 0)), none⟩] [] [8, 9, 10, 11])
  .ret)))))
  (.seq (.seq (.reg false [⟨some 144, .bin .eql (.t 53) (.c (.int .u8 111)), none⟩,
    ⟨some 143, .mv (.t 144), none⟩] [] [1, 2, 3, 4, 8, 12, 53, 143])
  (.cond (.t 143)
  .skip
  (.reg false [⟨some 145, .bin .eql (.t 53) (.c (.int .u8 120)), none⟩,
    ⟨some 143, .mv (.t 145), none⟩] [] [1, 2, 3, 4, 8, 12, 143])))
  (.cond (.t 143)
  (.seq (.reg false [⟨some 147, .ld (some 1) (.t 4), none⟩,
    ⟨some 148, .mv (.t 1), none⟩,
    ⟨some 149, .mv (.t 2), none⟩,
    ⟨some 150, .mv (.t 3), none⟩,
    ⟨some 151, .bin .add (.t 150) (.c (.int .i64 1)), none⟩,
    ⟨some 152, .call 42 [.t 147, .t 148, .t 149, .t 151, .c (.bool true), .c (.int .u8 41)], none⟩,
    ⟨some 146, .mv (.t 152), none⟩,
    ⟨some 153, .ext (.t 146) 0, none⟩,
    ⟨some 154, .ext (.t 146) 1, none⟩,
    ⟨some 155, .ext (.t 146) 2, none⟩,
    ⟨some 156, .ext (.t 146) 3, none⟩,
    ⟨some 157, .ext (.t 146) 4, none⟩,
    ⟨some 26, .new [.nil], none⟩,
    ⟨none, .st 1 (.t 26) (.t 153), none⟩,
    ⟨some 27, .mv (.t 154), none⟩,
    ⟨some 28, .mv (.t 155), none⟩,
    ⟨some 29, .mv (.t 156), none⟩,
    ⟨some 30, .mv (.t 157), none⟩] [] [8, 12, 26, 27, 28, 29, 30])
  (.seq (.seq (.reg false [⟨some 158, .mv (.t 30), none⟩,
    ⟨some 159, .bin .neq (.t 158) (.c (.int .i64 0)), none⟩] [] [8, 12, 26, 27, 28, 29, 30, 159])
  (.cond (.t 159)
  (.seq (.reg false [⟨some 160, .ld (some 1) (.t 26), none⟩,
    ⟨some 161, .mv (.t 29), none⟩,
    ⟨some 162, .mv (.t 30), none⟩,
    ⟨none, .st 1 (.t 8) (.t 160), none⟩,
    ⟨some 9, .mv (.c (.int .i64 (-1))), none⟩,
    ⟨some 10, .mv (.t 161), none⟩,
    ⟨some 11, .mv (.t 162), none⟩] [] [8, 9, 10, 11])
  .ret)
  .skip))
  (.seq (.reg false [⟨some 164, .ld (some 1) (.t 26), none⟩,
    ⟨some 165, .mv (.t 12), none⟩,
    ⟨some 166, .mv (.t 27), none⟩,
    ⟨some 167, .mv (.t 28), none⟩,
    ⟨some 168, .call 43 [.t 164, .t 165, .t 166, .t 167], none⟩,
    ⟨some 163, .mv (.t 168), none⟩,
    ⟨some 169, .ext (.t 163) 0, none⟩,
    ⟨some 170, .ext (.t 163) 1, none⟩,
    ⟨some 171, .ext (.t 163) 2, none⟩,
    ⟨some 31, .new [.nil], none⟩,
    ⟨none, .st 1 (.t 31) (.t 169), none⟩,
    ⟨some 32, .mv (.t 170), none⟩,
    ⟨some 33, .mv (.t 171), none⟩] [] [8, 29, 31, 32, 33])
  (.seq (.reg false [⟨some 172, .ld (some 1) (.t 31), none⟩,
    ⟨some 173, .mv (.t 32), none⟩,
    ⟨some 174, .mv (.t 29), none⟩,
    ⟨some 175, .mv (.t 33), none⟩,
    ⟨none, .st 1 (.t 8) (.t 172), none⟩,
    ⟨some 9, .mv (.t 173), none⟩,
    ⟨some 10, .mv (.t 174), none⟩,
    ⟨some 11, .mv (.t 175), none⟩] [] [8, 9, 10, 11])
  .ret))))
  .skip))))))))))
  (.seq (.reg false [⟨some 177, .mv (.t 2), none⟩,
    ⟨some 178, .mv (.t 3), none⟩,
    ⟨some 179, .call 44 [.t 177, .t 178], none⟩,
    ⟨some 176, .mv (.t 179), none⟩,
    ⟨some 180, .ext (.t 176) 0, none⟩,
    ⟨some 181, .ext (.t 176) 1, none⟩,
    ⟨some 182, .ext (.t 176) 2, none⟩,
    ⟨some 34, .mv (.t 180), none⟩,
    ⟨some 35, .mv (.t 181), none⟩,
    ⟨some 36, .mv (.t 182), none⟩] [] [1, 2, 3, 4, 8, 34, 35, 36])
  (.seq (.reg false [⟨some 183, .mv (.t 34), none⟩,
    ⟨some 184, .build [.int .i64 0, .int .i64 0, .int .i64 0] [(0, 1, .t 183)], none⟩,
    ⟨some 37, .new [.int .i64 0, .int .i64 0, .int .i64 0], none⟩,
    ⟨none, .st 3 (.t 37) (.t 184), none⟩] [] [1, 2, 3, 4, 8, 34, 35, 36, 37])
  (.seq (.reg false [⟨some 185, .ld (some 1) (.t 4), none⟩,
    ⟨some 186, .mv (.t 3), none⟩,
    ⟨some 38, .new [.nil], none⟩,
    ⟨none, .st 1 (.t 38) (.t 185), none⟩,
    ⟨some 39, .mv (.t 186), none⟩,
    ⟨some 40, .mv (.c (.int .i64 3)), none⟩] [] [1, 2, 3, 4, 8, 34, 35, 36, 37, 38, 39, 40])
  (.seq (.block 1 (.seq (.reg false [⟨some 188, .mv (.t 34), none⟩,
    ⟨some 189, .bin .gtr (.t 188) (.c (.int .i64 0)), none⟩,
    ⟨some 190, .mv (.t 189), none⟩,
    ⟨some 191, .mv (.t 36), some (190, true)⟩,
    ⟨some 192, .bin .gtr (.t 191) (.c (.int .u8 0)), some (190, true)⟩,
    ⟨some 193, .pick (.t 190) (.t 192) (.c (.bool false)), none⟩,
    ⟨some 187, .mv (.t 193), none⟩] [] [1, 2, 3, 4, 8, 34, 35, 36, 37, 38, 39, 40, 187])
  (.cond (.t 187)
  (.reg false [⟨some 195, .ld (some 1) (.t 4), none⟩,
    ⟨some 196, .mv (.t 1), none⟩,
    ⟨some 197, .mv (.t 2), none⟩,
    ⟨some 198, .mv (.t 3), none⟩,
    ⟨some 199, .bin .add (.t 198) (.c (.int .i64 1)), none⟩,
    ⟨some 200, .mv (.t 35), none⟩,
    ⟨some 201, .bin .eql (.t 200) (.c (.int .i64 2)), none⟩,
    ⟨some 202, .mv (.t 36), none⟩,
    ⟨some 203, .call 42 [.t 195, .t 196, .t 197, .t 199, .t 201, .t 202], none⟩,
    ⟨some 194, .mv (.t 203), none⟩,
    ⟨some 204, .ext (.t 194) 0, none⟩,
    ⟨some 205, .ext (.t 194) 1, none⟩,
    ⟨some 206, .ext (.t 194) 2, none⟩,
    ⟨some 207, .ext (.t 194) 3, none⟩,
    ⟨some 208, .ext (.t 194) 4, none⟩,
    ⟨none, .st 1 (.t 38) (.t 204), none⟩,
    ⟨some 209, .fad 1 (.t 37), none⟩,
    ⟨none, .st 1 (.t 209) (.t 205), none⟩,
    ⟨some 210, .fad 2 (.t 37), none⟩,
    ⟨none, .st 1 (.t 210) (.t 206), none⟩,
    ⟨some 39, .mv (.t 207), none⟩,
    ⟨some 40, .mv (.t 208), none⟩] [] [8, 37, 38, 39, 40])
  (.seq (.reg false [⟨some 212, .mv (.t 34), none⟩,
    ⟨some 213, .bin .gtr (.t 212) (.c (.int .i64 0)), none⟩,
    ⟨some 211, .mv (.t 213), none⟩] [] [1, 2, 3, 4, 8, 37, 38, 39, 40, 211])
  (.cond (.t 211)
  (.reg false [⟨some 215, .ld (some 1) (.t 4), none⟩,
    ⟨some 216, .mv (.t 1), none⟩,
    ⟨some 217, .mv (.t 2), none⟩,
    ⟨some 218, .mv (.t 3), none⟩,
    ⟨some 219, .bin .add (.t 218) (.c (.int .i64 1)), none⟩,
    ⟨some 220, .call 18 [.t 215, .t 216, .t 217, .t 219], none⟩,
    ⟨some 214, .mv (.t 220), none⟩,
    ⟨some 221, .ext (.t 214) 0, none⟩,
    ⟨some 222, .ext (.t 214) 1, none⟩,
    ⟨some 223, .ext (.t 214) 2, none⟩,
    ⟨some 224, .ext (.t 214) 3, none⟩,
    ⟨none, .st 1 (.t 38) (.t 221), none⟩,
    ⟨some 225, .fad 1 (.t 37), none⟩,
    ⟨none, .st 1 (.t 225) (.t 222), none⟩,
    ⟨some 39, .mv (.t 223), none⟩,
    ⟨some 40, .mv (.t 224), none⟩] [] [8, 37, 38, 39, 40])
  .skip)))))
  (.seq (.seq (.reg false [⟨some 226, .mv (.t 40), none⟩,
    ⟨some 227, .bin .neq (.t 226) (.c (.int .i64 0)), none⟩] [] [8, 37, 38, 39, 40, 227])
  (.cond (.t 227)
  (.seq (.reg false [⟨some 228, .ld (some 1) (.t 38), none⟩,
    ⟨some 229, .mv (.t 39), none⟩,
    ⟨some 230, .mv (.t 40), none⟩,
    ⟨none, .st 1 (.t 8) (.t 228), none⟩,
    ⟨some 9, .mv (.c (.int .i64 (-1))), none⟩,
    ⟨some 10, .mv (.t 229), none⟩,
    ⟨some 11, .mv (.t 230), none⟩] [] [8, 9, 10, 11])
  .ret)
  .skip))
  (.seq (.reg false [⟨some 232, .ld (some 1) (.t 38), none⟩,
    ⟨some 233, .ld (some 3) (.t 37), none⟩,
    ⟨some 234, .call 45 [.t 232, .t 233], none⟩,
    ⟨some 231, .mv (.t 234), none⟩,
    ⟨some 235, .ext (.t 231) 0, none⟩,
    ⟨some 236, .ext (.t 231) 1, none⟩,
    ⟨some 41, .new [.nil], none⟩,
    ⟨none, .st 1 (.t 41) (.t 235), none⟩,
    ⟨some 42, .mv (.t 236), none⟩] [] [8, 38, 39, 41, 42])
  (.seq (.seq (.reg false [⟨some 237, .mv (.t 42), none⟩,
    ⟨some 238, .bin .lss (.t 237) (.c (.int .i64 0)), none⟩] [] [8, 38, 39, 41, 42, 238])
  (.cond (.t 238)
  (.seq (.reg false [⟨some 239, .ld (some 1) (.t 38), none⟩,
    ⟨some 240, .mv (.t 39), none⟩,
    ⟨none, .st 1 (.t 8) (.t 239), none⟩,
    ⟨some 9, .mv (.c (.int .i64 (-1))), none⟩,
    ⟨some 10, .mv (.t 240), none⟩,
    ⟨some 11, .mv (.c (.int .i64 5)), none⟩] [] [8, 9, 10, 11])
  .ret)
  .skip))
  (.seq (.reg false [⟨some 241, .ld (some 1) (.t 41), none⟩,
    ⟨some 242, .mv (.t 42), none⟩,
    ⟨some 243, .mv (.t 39), none⟩,
    ⟨none, .st 1 (.t 8) (.t 241), none⟩,
    ⟨some 9, .mv (.t 242), none⟩,
    ⟨some 10, .mv (.t 243), none⟩,
    ⟨some 11, .mv (.c (.int .i64 0)), none⟩] [] [8, 9, 10, 11])
  .ret)))))))))))), [(8, some (some 1)), (9, none), (10, none), (11, none)]⟩
theorem spec_l10Run_ok : okFn Tryz.prog 18 spec_l10Run = true := by kernel_rfl
def laws_toNodeS : IFn := ⟨23, (.seq (.reg false [⟨some 2, .mv (.c (.nil)), none⟩] [] [0])
  (.seq (.reg false [⟨some 5, .mv (.t 0), none⟩,
    ⟨some 6, .len false (.t 5), none⟩,
    ⟨some 7, .mk 3 24 [.int .i64 0, .int .i64 0, .int .i64 0] (.t 6) (.t 6), none⟩,
    ⟨some 3, .mv (.t 7), none⟩] [] [0, 3])
  (.seq (.seq (.reg false [⟨some 4, .mv (.c (.int .i64 0)), none⟩] [] [0, 3, 4])
  (.block 0 (.loop (.seq (.seq (.reg false [⟨some 8, .mv (.t 4), none⟩,
    ⟨some 9, .mv (.t 0), none⟩,
    ⟨some 10, .len false (.t 9), none⟩,
    ⟨some 11, .bin .lss (.t 8) (.t 10), none⟩] [] [0, 3, 4, 11])
  (.cond (.t 11)
  .skip
  (.exit 0)))
  (.seq (.block 1 (.reg false [⟨some 14, .mv (.t 3), none⟩,
    ⟨some 15, .mv (.t 4), none⟩,
    ⟨some 16, .mv (.t 0), none⟩,
    ⟨some 17, .mv (.t 4), none⟩,
    ⟨some 18, .iad 3 (.t 16) (.t 17), none⟩,
    ⟨some 19, .ld (some 3) (.t 18), none⟩,
    ⟨some 20, .call 46 [.t 19], none⟩,
    ⟨some 21, .iad 3 (.t 14) (.t 15), none⟩,
    ⟨none, .st 3 (.t 21) (.t 20), none⟩] [] [0, 3, 4]))
  (.reg false [⟨some 12, .mv (.t 4), none⟩,
    ⟨some 13, .bin .add (.t 12) (.c (.int .i64 1)), none⟩,
    ⟨some 4, .mv (.t 13), none⟩] [] [0, 3, 4]))))))
  (.seq (.reg false [⟨some 22, .mv (.t 3), none⟩,
    ⟨some 2, .mv (.t 22), none⟩] [] [2])
  .ret)))), [(2, none)]⟩
theorem laws_toNodeS_ok : okFn Tryz.prog 19 laws_toNodeS = true := by kernel_rfl
def impl_orEmpty : IFn := ⟨9, (.seq (.reg false [⟨some 1, .box (.t 0), none⟩,
    ⟨some 2, .new [.nil], none⟩] [] [1, 2])
  (.seq (.seq (.reg false [⟨some 3, .ld (some 1) (.t 1), none⟩,
    ⟨some 4, .call 47 [.t 3], none⟩,
    ⟨some 5, .not (.t 4), none⟩] [] [1, 2, 5])
  (.cond (.t 5)
  (.seq (.reg false [⟨some 6, .build [.nil] [], none⟩,
    ⟨none, .st 1 (.t 2) (.t 6), none⟩] [] [2])
  .ret)
  .skip))
  (.seq (.reg false [⟨some 7, .ld (some 1) (.t 1), none⟩,
    ⟨some 8, .call 22 [.t 7], none⟩,
    ⟨none, .st 1 (.t 2) (.t 8), none⟩] [] [2])
  .ret))), [(2, some (some 1))]⟩
theorem impl_orEmpty_ok : okFn Tryz.prog 20 impl_orEmpty = true := by kernel_rfl
def impl_KnowOk : IFn := ⟨38, (.seq (.reg false [⟨some 2, .box (.t 0), none⟩,
    ⟨some 4, .mv (.c (.bool false)), none⟩] [] [1, 2])
  (.seq (.seq (.reg false [⟨some 7, .mv (.t 1), none⟩,
    ⟨some 8, .len false (.t 7), none⟩,
    ⟨some 9, .mv (.c (.int .i64 0)), none⟩] [] [1, 2, 7, 8, 9])
  (.block 0 (.loop (.seq (.reg false [⟨some 10, .bin .lss (.t 9) (.t 8), none⟩] [] [1, 2, 7, 8, 9, 10])
  (.seq (.cond (.t 10)
  .skip
  (.exit 0))
  (.seq (.block 1 (.seq (.reg false [⟨some 11, .mv (.t 9), none⟩,
    ⟨some 12, .iad 1 (.t 7) (.t 9), none⟩,
    ⟨some 13, .ld none (.t 12), none⟩,
    ⟨some 5, .mv (.t 11), none⟩,
    ⟨some 6, .mv (.t 13), none⟩] [] [1, 2, 5, 6, 7, 8, 9])
  (.seq (.reg false [⟨some 14, .mv (.t 6), none⟩,
    ⟨some 15, .call 48 [.t 2, .t 14], none⟩,
    ⟨some 16, .not (.t 15), none⟩,
    ⟨some 17, .mv (.t 16), none⟩,
    ⟨some 18, .mv (.t 5), some (17, false)⟩,
    ⟨some 19, .bin .gtr (.t 18) (.c (.int .i64 0)), some (17, false)⟩,
    ⟨some 20, .mv (.t 19), some (17, false)⟩,
    ⟨some 21, .mv (.t 6), some (20, true)⟩,
    ⟨some 22, .mv (.t 1), some (20, true)⟩,
    ⟨some 23, .mv (.t 5), some (20, true)⟩,
    ⟨some 24, .bin .sub (.t 23) (.c (.int .i64 1)), some (20, true)⟩,
    ⟨some 25, .iad 1 (.t 22) (.t 24), some (20, true)⟩,
    ⟨some 26, .ld none (.t 25), some (20, true)⟩,
    ⟨some 27, .bin .leq (.t 21) (.t 26), some (20, true)⟩,
    ⟨some 28, .pick (.t 20) (.t 27) (.c (.bool false)), some (17, false)⟩,
    ⟨some 29, .pick (.t 17) (.c (.bool true)) (.t 28), none⟩] [] [1, 2, 7, 8, 9, 29])
  (.cond (.t 29)
  (.seq (.reg false [⟨some 4, .mv (.c (.bool false)), none⟩] [] [4])
  .ret)
  .skip))))
  (.reg false [⟨some 30, .bin .add (.t 9) (.c (.int .i64 1)), none⟩,
    ⟨some 9, .mv (.t 30), none⟩] [] [1, 2, 7, 8, 9])))))))
  (.seq (.reg false [⟨some 31, .mv (.t 1), none⟩,
    ⟨some 32, .len false (.t 31), none⟩,
    ⟨some 33, .bin .leq (.t 32) (.c (.int .i64 200)), none⟩,
    ⟨some 34, .mv (.t 33), none⟩,
    ⟨some 35, .ld (some 1) (.t 2), some (34, true)⟩,
    ⟨some 36, .call 47 [.t 35], some (34, true)⟩,
    ⟨some 37, .pick (.t 34) (.t 36) (.c (.bool false)), none⟩,
    ⟨some 4, .mv (.t 37), none⟩] [] [4])
  .ret))), [(4, none)]⟩
theorem impl_KnowOk_ok : okFn Tryz.prog 21 impl_KnowOk = true := by kernel_rfl
def impl_copyPool : IFn := ⟨7, (.seq (.reg false [⟨some 1, .box (.t 0), none⟩,
    ⟨some 2, .new [.nil], none⟩] [] [1, 2])
  (.seq (.reg false [⟨some 3, .fad 0 (.t 1), none⟩,
    ⟨some 4, .ld none (.t 3), none⟩,
    ⟨some 5, .call 49 [.t 4], none⟩,
    ⟨some 6, .build [.nil] [(0, 1, .t 5)], none⟩,
    ⟨none, .st 1 (.t 2) (.t 6), none⟩] [] [2])
  .ret)), [(2, some (some 1))]⟩
theorem impl_copyPool_ok : okFn Tryz.prog 22 impl_copyPool = true := by kernel_rfl
def impl_RecipeRun_1 : IFn := ⟨14, (.seq (.reg false [⟨some 6, .mv (.c (.int .i64 0)), none⟩] [] [0, 1, 2, 3])
  (.seq (.seq (.reg false [⟨some 7, .mv (.t 1), none⟩,
    ⟨some 8, .bin .eql (.t 7) (.c (.int .u8 64)), none⟩] [] [0, 2, 3, 8])
  (.cond (.t 8)
  (.seq (.reg false [⟨some 9, .mv (.t 0), none⟩,
    ⟨some 10, .ld none (.t 2), none⟩,
    ⟨some 11, .call 24 [.t 9, .t 10], none⟩,
    ⟨some 6, .mv (.t 11), none⟩] [] [6])
  .ret)
  .skip))
  (.seq (.reg false [⟨some 12, .mv (.t 0), none⟩,
    ⟨some 13, .call 25 [.t 12, .t 3], none⟩,
    ⟨some 6, .mv (.t 13), none⟩] [] [6])
  .ret))), [(6, none)]⟩
theorem impl_RecipeRun_1_ok : okFn Tryz.prog 23 impl_RecipeRun_1 = true := by kernel_rfl
def impl_reader_place : IFn := ⟨33, (.seq (.reg false [⟨some 4, .mv (.c (.int .i64 0)), none⟩] [] [0, 1])
  (.seq (.reg false [⟨some 7, .mv (.t 0), none⟩,
    ⟨some 8, .nck (.t 7), none⟩,
    ⟨some 9, .fad 1 (.t 8), none⟩,
    ⟨some 10, .ld none (.t 9), none⟩,
    ⟨some 5, .mv (.t 10), none⟩] [] [0, 1, 5])
  (.seq (.reg false [⟨some 11, .mv (.t 0), none⟩,
    ⟨some 12, .nck (.t 11), none⟩,
    ⟨some 13, .fad 1 (.t 12), none⟩,
    ⟨some 14, .ld none (.t 13), none⟩,
    ⟨some 15, .bin .add (.t 14) (.c (.int .i64 1)), none⟩,
    ⟨some 16, .nck (.t 11), none⟩,
    ⟨some 17, .fad 1 (.t 16), none⟩,
    ⟨none, .st 1 (.t 17) (.t 15), none⟩] [] [0, 1, 5])
  (.seq (.reg false [⟨some 18, .mv (.t 0), none⟩,
    ⟨some 19, .call 50 [.t 18, .c (.int .i64 4)], none⟩,
    ⟨some 6, .mv (.t 19), none⟩] [] [0, 1, 5, 6])
  (.seq (.seq (.reg false [⟨some 20, .mv (.t 6), none⟩,
    ⟨some 21, .mv (.t 1), none⟩,
    ⟨some 22, .len false (.t 21), none⟩,
    ⟨some 23, .bin .sub (.t 22) (.c (.int .i64 1)), none⟩,
    ⟨some 24, .call 51 [.t 20, .c (.int .i64 0), .t 23], none⟩,
    ⟨some 25, .not (.t 24), none⟩] [] [0, 1, 5, 6, 25])
  (.cond (.t 25)
  (.seq (.reg false [⟨some 26, .mv (.t 0), none⟩,
    ⟨some 27, .mv (.t 5), none⟩,
    ⟨some 28, .call 52 [.t 26, .c (.int .i64 4), .t 27], none⟩,
    ⟨some 4, .mv (.t 28), none⟩] [] [4])
  .ret)
  .skip))
  (.seq (.reg false [⟨some 29, .mv (.t 1), none⟩,
    ⟨some 30, .mv (.t 6), none⟩,
    ⟨some 31, .iad 1 (.t 29) (.t 30), none⟩,
    ⟨some 32, .ld none (.t 31), none⟩,
    ⟨some 4, .mv (.t 32), none⟩] [] [4])
  .ret)))))), [(4, none)]⟩
theorem impl_reader_place_ok : okFn Tryz.prog 24 impl_reader_place = true := by kernel_rfl
def impl_reader_public : IFn := ⟨39, (.seq (.reg false [⟨some 4, .mv (.c (.int .i64 0)), none⟩] [] [0, 1])
  (.seq (.reg false [⟨some 7, .mv (.t 0), none⟩,
    ⟨some 8, .nck (.t 7), none⟩,
    ⟨some 9, .fad 1 (.t 8), none⟩,
    ⟨some 10, .ld none (.t 9), none⟩,
    ⟨some 5, .mv (.t 10), none⟩] [] [0, 1, 5])
  (.seq (.reg false [⟨some 11, .mv (.t 0), none⟩,
    ⟨some 12, .nck (.t 11), none⟩,
    ⟨some 13, .fad 1 (.t 12), none⟩,
    ⟨some 14, .ld none (.t 13), none⟩,
    ⟨some 15, .bin .add (.t 14) (.c (.int .i64 1)), none⟩,
    ⟨some 16, .nck (.t 11), none⟩,
    ⟨some 17, .fad 1 (.t 16), none⟩,
    ⟨none, .st 1 (.t 17) (.t 15), none⟩] [] [0, 1, 5])
  (.seq (.reg false [⟨some 18, .mv (.t 0), none⟩,
    ⟨some 19, .mv (.t 5), none⟩,
    ⟨some 20, .call 53 [.t 18, .t 19], none⟩,
    ⟨some 6, .mv (.t 20), none⟩] [] [0, 1, 5, 6])
  (.seq (.block 0 (.seq (.reg false [⟨some 22, .mv (.t 0), none⟩,
    ⟨some 23, .nck (.t 22), none⟩,
    ⟨some 24, .fad 2 (.t 23), none⟩,
    ⟨some 25, .ld none (.t 24), none⟩,
    ⟨some 26, .bin .neq (.t 25) (.c (.int .i64 0)), none⟩,
    ⟨some 21, .mv (.t 26), none⟩] [] [0, 1, 5, 6, 21])
  (.cond (.t 21)
  (.seq (.reg false [⟨some 4, .mv (.c (.int .i64 (-1))), none⟩] [] [4])
  .ret)
  (.seq (.reg false [⟨some 28, .mv (.t 6), none⟩,
    ⟨some 29, .call 54 [.t 28], none⟩,
    ⟨some 30, .not (.t 29), none⟩,
    ⟨some 27, .mv (.t 30), none⟩] [] [0, 1, 5, 6, 27])
  (.cond (.t 27)
  (.seq (.reg false [⟨some 31, .mv (.t 0), none⟩,
    ⟨some 32, .mv (.t 5), none⟩,
    ⟨some 33, .call 52 [.t 31, .c (.int .i64 4), .t 32], none⟩,
    ⟨some 4, .mv (.t 33), none⟩] [] [4])
  .ret)
  .skip)))))
  (.seq (.reg false [⟨some 34, .mv (.t 0), none⟩,
    ⟨some 35, .mv (.t 1), none⟩,
    ⟨some 36, .mv (.t 6), none⟩,
    ⟨some 37, .call 56 [.t 35, .t 36], none⟩,
    ⟨some 38, .call 55 [.t 34, .t 37], none⟩,
    ⟨some 4, .mv (.t 38), none⟩] [] [4])
  .ret)))))), [(4, none)]⟩
theorem impl_reader_public_ok : okFn Tryz.prog 25 impl_reader_public = true := by kernel_rfl
def impl_RecipeRun_2 : IFn := ⟨18, (.seq (.reg false [⟨some 7, .mv (.c (.int .i64 0)), none⟩] [] [0, 1, 2, 3])
  (.seq (.seq (.reg false [⟨some 8, .mv (.t 1), none⟩,
    ⟨some 9, .call 27 [.t 8, .c (.str ⟨#[64, 60, 62, 33, 111, 120]⟩)], none⟩] [] [0, 1, 2, 3, 9])
  (.cond (.t 9)
  (.seq (.reg false [⟨some 10, .mv (.t 0), none⟩,
    ⟨some 11, .mv (.t 1), none⟩,
    ⟨some 12, .mv (.t 2), none⟩,
    ⟨some 13, .call 28 [.t 10, .t 3, .t 11, .t 12], none⟩,
    ⟨some 7, .mv (.t 13), none⟩] [] [7])
  .ret)
  .skip))
  (.seq (.reg false [⟨some 14, .mv (.t 0), none⟩,
    ⟨some 15, .mv (.t 1), none⟩,
    ⟨some 16, .mv (.t 2), none⟩,
    ⟨some 17, .call 29 [.t 14, .t 3, .t 15, .t 16], none⟩,
    ⟨some 7, .mv (.t 17), none⟩] [] [7])
  .ret))), [(7, none)]⟩
theorem impl_RecipeRun_2_ok : okFn Tryz.prog 26 impl_RecipeRun_2 = true := by kernel_rfl
def impl_isOneOf : IFn := ⟨17, (.seq (.reg false [⟨some 4, .mv (.c (.bool false)), none⟩] [] [0, 1])
  (.seq (.seq (.reg false [⟨some 5, .mv (.c (.int .i64 0)), none⟩] [] [0, 1, 5])
  (.block 0 (.loop (.seq (.seq (.reg false [⟨some 6, .mv (.t 5), none⟩,
    ⟨some 7, .mv (.t 1), none⟩,
    ⟨some 8, .len true (.t 7), none⟩,
    ⟨some 9, .bin .lss (.t 6) (.t 8), none⟩] [] [0, 1, 5, 9])
  (.cond (.t 9)
  .skip
  (.exit 0)))
  (.seq (.block 1 (.seq (.reg false [⟨some 12, .mv (.t 1), none⟩,
    ⟨some 13, .mv (.t 5), none⟩,
    ⟨some 14, .idxs (.t 12) (.t 13), none⟩,
    ⟨some 15, .mv (.t 0), none⟩,
    ⟨some 16, .bin .eql (.t 14) (.t 15), none⟩] [] [0, 1, 5, 16])
  (.cond (.t 16)
  (.seq (.reg false [⟨some 4, .mv (.c (.bool true)), none⟩] [] [4])
  .ret)
  .skip)))
  (.reg false [⟨some 10, .mv (.t 5), none⟩,
    ⟨some 11, .bin .add (.t 10) (.c (.int .i64 1)), none⟩,
    ⟨some 5, .mv (.t 11), none⟩] [] [0, 1, 5]))))))
  (.seq (.reg false [⟨some 4, .mv (.c (.bool false)), none⟩] [] [4])
  .ret))), [(4, none)]⟩
theorem impl_isOneOf_ok : okFn Tryz.prog 27 impl_isOneOf = true := by kernel_rfl
def impl_reader_opened : IFn := ⟨99, (.seq (.reg false [⟨some 8, .mv (.c (.int .i64 0)), none⟩] [] [0, 1, 2, 3])
  (.seq (.reg true [⟨some 10, .mv (.t 1), none⟩,
    ⟨some 11, .nck (.t 10), none⟩,
    ⟨some 12, .fad 0 (.t 11), none⟩,
    ⟨some 13, .ld none (.t 12), none⟩,
    ⟨some 14, .mv (.t 3), none⟩,
    ⟨some 15, .iad 1 (.t 14) (.c (.int .i64 0)), none⟩,
    ⟨some 16, .ld none (.t 15), none⟩,
    ⟨some 17, .iad 3 (.t 13) (.t 16), none⟩,
    ⟨some 18, .ld (some 3) (.t 17), none⟩,
    ⟨some 9, .new [.int .i64 0, .int .i64 0, .int .i64 0], none⟩,
    ⟨none, .st 3 (.t 9) (.t 18), none⟩] [0, 1, 3, 7, 0, 16, 48, 127, 255, 0, 1023] [0, 1, 2, 3, 9])
  (.seq (.block 0 (.seq (.reg false [⟨some 20, .mv (.t 2), none⟩,
    ⟨some 21, .bin .eql (.t 20) (.c (.int .u8 60)), none⟩,
    ⟨some 22, .mv (.t 21), none⟩,
    ⟨some 23, .fad 0 (.t 9), some (22, true)⟩,
    ⟨some 24, .ld none (.t 23), some (22, true)⟩,
    ⟨some 25, .bin .eql (.t 24) (.c (.int .i64 2)), some (22, true)⟩,
    ⟨some 26, .pick (.t 22) (.t 25) (.c (.bool false)), none⟩,
    ⟨some 19, .mv (.t 26), none⟩] [] [0, 1, 2, 3, 9, 19])
  (.cond (.t 19)
  (.seq (.reg false [⟨some 27, .fad 1 (.t 9), none⟩,
    ⟨some 28, .ld none (.t 27), none⟩,
    ⟨some 8, .mv (.t 28), none⟩] [] [8])
  .ret)
  (.seq (.reg false [⟨some 30, .mv (.t 2), none⟩,
    ⟨some 31, .bin .eql (.t 30) (.c (.int .u8 62)), none⟩,
    ⟨some 32, .mv (.t 31), none⟩,
    ⟨some 33, .fad 0 (.t 9), some (32, true)⟩,
    ⟨some 34, .ld none (.t 33), some (32, true)⟩,
    ⟨some 35, .bin .eql (.t 34) (.c (.int .i64 2)), some (32, true)⟩,
    ⟨some 36, .pick (.t 32) (.t 35) (.c (.bool false)), none⟩,
    ⟨some 29, .mv (.t 36), none⟩] [] [0, 1, 2, 3, 9, 29])
  (.cond (.t 29)
  (.seq (.reg false [⟨some 37, .fad 2 (.t 9), none⟩,
    ⟨some 38, .ld none (.t 37), none⟩,
    ⟨some 8, .mv (.t 38), none⟩] [] [8])
  .ret)
  (.seq (.reg false [⟨some 40, .mv (.t 2), none⟩,
    ⟨some 41, .bin .eql (.t 40) (.c (.int .u8 33)), none⟩,
    ⟨some 42, .mv (.t 41), none⟩,
    ⟨some 43, .fad 0 (.t 9), some (42, true)⟩,
    ⟨some 44, .ld none (.t 43), some (42, true)⟩,
    ⟨some 45, .bin .eql (.t 44) (.c (.int .i64 4)), some (42, true)⟩,
    ⟨some 46, .pick (.t 42) (.t 45) (.c (.bool false)), none⟩,
    ⟨some 39, .mv (.t 46), none⟩] [] [0, 1, 2, 3, 9, 39])
  (.cond (.t 39)
  (.seq (.reg false [⟨some 47, .fad 1 (.t 9), none⟩,
    ⟨some 48, .ld none (.t 47), none⟩,
    ⟨some 8, .mv (.t 48), none⟩] [] [8])
  .ret)
  (.seq (.reg true [⟨some 50, .mv (.t 2), none⟩,
    ⟨some 51, .bin .eql (.t 50) (.c (.int .u8 111)), none⟩,
    ⟨some 52, .mv (.t 51), none⟩,
    ⟨some 53, .fad 0 (.t 9), some (52, true)⟩,
    ⟨some 54, .ld none (.t 53), some (52, true)⟩,
    ⟨some 55, .bin .eql (.t 54) (.c (.int .i64 3)), some (52, true)⟩,
    ⟨some 56, .pick (.t 52) (.t 55) (.c (.bool false)), none⟩,
    ⟨some 57, .mv (.t 56), none⟩,
    ⟨some 58, .fad 2 (.t 9), some (57, true)⟩,
    ⟨some 59, .ld none (.t 58), some (57, true)⟩,
    ⟨some 60, .mv (.t 3), some (57, true)⟩,
    ⟨some 61, .iad 1 (.t 60) (.c (.int .i64 1)), some (57, true)⟩,
    ⟨some 62, .ld none (.t 61), some (57, true)⟩,
    ⟨some 63, .bin .eql (.t 59) (.t 62), some (57, true)⟩,
    ⟨some 64, .pick (.t 57) (.t 63) (.c (.bool false)), none⟩,
    ⟨some 49, .mv (.t 64), none⟩] [0, 1, 3, 7, 15, 31, 63, 127, 255, 511, 255, 1279, 3327, 8191, 16383, 32767] [0, 1, 2, 3, 9, 49])
  (.cond (.t 49)
  (.seq (.reg false [⟨some 65, .fad 1 (.t 9), none⟩,
    ⟨some 66, .ld none (.t 65), none⟩,
    ⟨some 8, .mv (.t 66), none⟩] [] [8])
  .ret)
  (.seq (.reg true [⟨some 68, .mv (.t 2), none⟩,
    ⟨some 69, .bin .eql (.t 68) (.c (.int .u8 120)), none⟩,
    ⟨some 70, .mv (.t 69), none⟩,
    ⟨some 71, .mv (.t 1), some (70, true)⟩,
    ⟨some 72, .nck (.t 71), some (70, true)⟩,
    ⟨some 73, .fad 0 (.t 72), some (70, true)⟩,
    ⟨some 74, .ld none (.t 73), some (70, true)⟩,
    ⟨some 75, .mv (.t 3), some (70, true)⟩,
    ⟨some 76, .iad 1 (.t 75) (.c (.int .i64 1)), some (70, true)⟩,
    ⟨some 77, .ld none (.t 76), some (70, true)⟩,
    ⟨some 78, .iad 3 (.t 74) (.t 77), some (70, true)⟩,
    ⟨some 79, .fad 0 (.t 78), some (70, true)⟩,
    ⟨some 80, .ld none (.t 79), some (70, true)⟩,
    ⟨some 81, .bin .eql (.t 80) (.c (.int .i64 7)), some (70, true)⟩,
    ⟨some 82, .pick (.t 70) (.t 81) (.c (.bool false)), none⟩,
    ⟨some 67, .mv (.t 82), none⟩] [0, 1, 3, 7, 15, 31, 63, 7, 135, 391, 1023, 2047, 4095, 8191, 16383, 32767] [0, 1, 3, 67])
  (.cond (.t 67)
  (.seq (.reg true [⟨some 83, .mv (.t 0), none⟩,
    ⟨some 84, .mv (.t 1), none⟩,
    ⟨some 85, .mv (.t 3), none⟩,
    ⟨some 86, .iad 1 (.t 85) (.c (.int .i64 1)), none⟩,
    ⟨some 87, .ld none (.t 86), none⟩,
    ⟨some 88, .mv (.t 3), none⟩,
    ⟨some 89, .iad 1 (.t 88) (.c (.int .i64 0)), none⟩,
    ⟨some 90, .ld none (.t 89), none⟩,
    ⟨some 91, .call 57 [.t 84, .t 87, .t 90], none⟩,
    ⟨some 92, .call 55 [.t 83, .t 91], none⟩,
    ⟨some 8, .mv (.t 92), none⟩] [0, 0, 0, 4, 12, 0, 32, 96, 254, 511, 1023] [8])
  .ret)
  .skip)))))))))))
  (.seq (.reg false [⟨some 93, .mv (.t 0), none⟩,
    ⟨some 94, .mv (.t 0), none⟩,
    ⟨some 95, .nck (.t 94), none⟩,
    ⟨some 96, .fad 1 (.t 95), none⟩,
    ⟨some 97, .ld none (.t 96), none⟩,
    ⟨some 98, .call 52 [.t 93, .c (.int .i64 7), .t 97], none⟩,
    ⟨some 8, .mv (.t 98), none⟩] [] [8])
  .ret)))), [(8, none)]⟩
theorem impl_reader_opened_ok : okFn Tryz.prog 28 impl_reader_opened = true := by kernel_rfl
def impl_reader_added : IFn := ⟨26, (.seq (.reg false [⟨some 8, .mv (.c (.int .i64 0)), none⟩] [] [0, 1, 2, 3])
  (.seq (.reg false [⟨some 9, .mv (.c (.int .i64 0)), none⟩] [] [0, 1, 2, 3, 9])
  (.seq (.seq (.reg false [⟨some 10, .mv (.t 3), none⟩,
    ⟨some 11, .len false (.t 10), none⟩,
    ⟨some 12, .bin .gtr (.t 11) (.c (.int .i64 1)), none⟩] [] [0, 1, 2, 3, 9, 12])
  (.cond (.t 12)
  (.reg false [⟨some 13, .mv (.t 3), none⟩,
    ⟨some 14, .iad 1 (.t 13) (.c (.int .i64 1)), none⟩,
    ⟨some 15, .ld none (.t 14), none⟩,
    ⟨some 9, .mv (.t 15), none⟩] [] [0, 1, 2, 3, 9])
  .skip))
  (.seq (.reg true [⟨some 16, .mv (.t 0), none⟩,
    ⟨some 17, .mv (.t 1), none⟩,
    ⟨some 18, .mv (.t 2), none⟩,
    ⟨some 19, .call 59 [.t 18], none⟩,
    ⟨some 20, .mv (.t 3), none⟩,
    ⟨some 21, .iad 1 (.t 20) (.c (.int .i64 0)), none⟩,
    ⟨some 22, .ld none (.t 21), none⟩,
    ⟨some 23, .mv (.t 9), none⟩,
    ⟨some 24, .call 58 [.t 17, .t 19, .t 22, .t 23], none⟩,
    ⟨some 25, .call 55 [.t 16, .t 24], none⟩,
    ⟨some 8, .mv (.t 25), none⟩] [0, 0, 0, 4, 0, 16, 48, 0, 254, 511, 1023] [8])
  .ret)))), [(8, none)]⟩
theorem impl_reader_added_ok : okFn Tryz.prog 29 impl_reader_added = true := by kernel_rfl
def impl_reader_all : IFn := ⟨41, (.seq (.reg false [⟨some 4, .mv (.c (.int .i64 0)), none⟩] [] [0, 1])
  (.seq (.seq (.reg false [⟨some 6, .mv (.t 0), none⟩,
    ⟨some 7, .nck (.t 6), none⟩,
    ⟨some 8, .fad 0 (.t 7), none⟩,
    ⟨some 9, .ld none (.t 8), none⟩,
    ⟨some 10, .len true (.t 9), none⟩,
    ⟨some 11, .mv (.t 1), none⟩,
    ⟨some 12, .bin .gtr (.t 10) (.t 11), none⟩] [] [0, 12])
  (.cond (.t 12)
  (.seq (.reg false [⟨some 13, .mv (.t 0), none⟩,
    ⟨some 14, .call 52 [.t 13, .c (.int .i64 1), .c (.int .i64 0)], none⟩,
    ⟨some 4, .mv (.t 14), none⟩] [] [4])
  .ret)
  .skip))
  (.seq (.reg false [⟨some 15, .mv (.t 0), none⟩,
    ⟨some 16, .call 60 [.t 15], none⟩,
    ⟨some 5, .mv (.t 16), none⟩] [] [0, 5])
  (.seq (.seq (.reg true [⟨some 17, .mv (.t 0), none⟩,
    ⟨some 18, .nck (.t 17), none⟩,
    ⟨some 19, .fad 2 (.t 18), none⟩,
    ⟨some 20, .ld none (.t 19), none⟩,
    ⟨some 21, .bin .eql (.t 20) (.c (.int .i64 0)), none⟩,
    ⟨some 22, .mv (.t 21), none⟩,
    ⟨some 23, .mv (.t 0), some (22, true)⟩,
    ⟨some 24, .nck (.t 23), some (22, true)⟩,
    ⟨some 25, .fad 1 (.t 24), some (22, true)⟩,
    ⟨some 26, .ld none (.t 25), some (22, true)⟩,
    ⟨some 27, .mv (.t 0), some (22, true)⟩,
    ⟨some 28, .nck (.t 27), some (22, true)⟩,
    ⟨some 29, .fad 0 (.t 28), some (22, true)⟩,
    ⟨some 30, .ld none (.t 29), some (22, true)⟩,
    ⟨some 31, .len true (.t 30), some (22, true)⟩,
    ⟨some 32, .bin .lss (.t 26) (.t 31), some (22, true)⟩,
    ⟨some 33, .pick (.t 22) (.t 32) (.c (.bool false)), none⟩] [0, 1, 3, 7, 15, 31, 63, 127, 255, 511, 63, 1087, 3135, 7231, 15423, 32767, 65535] [0, 5, 33])
  (.cond (.t 33)
  (.seq (.reg false [⟨some 34, .mv (.t 0), none⟩,
    ⟨some 35, .mv (.t 0), none⟩,
    ⟨some 36, .nck (.t 35), none⟩,
    ⟨some 37, .fad 1 (.t 36), none⟩,
    ⟨some 38, .ld none (.t 37), none⟩,
    ⟨some 39, .call 52 [.t 34, .c (.int .i64 6), .t 38], none⟩,
    ⟨some 4, .mv (.t 39), none⟩] [] [4])
  .ret)
  .skip))
  (.seq (.reg false [⟨some 40, .mv (.t 5), none⟩,
    ⟨some 4, .mv (.t 40), none⟩] [] [4])
  .ret))))), [(4, none)]⟩
theorem impl_reader_all_ok : okFn Tryz.prog 30 impl_reader_all = true := by kernel_rfl
def laws_eqNodeS : IFn := ⟨27, (.seq (.reg false [⟨some 4, .mv (.c (.bool false)), none⟩] [] [0, 1])
  (.seq (.seq (.reg false [⟨some 6, .mv (.t 0), none⟩,
    ⟨some 7, .len false (.t 6), none⟩,
    ⟨some 8, .mv (.t 1), none⟩,
    ⟨some 9, .len false (.t 8), none⟩,
    ⟨some 10, .bin .neq (.t 7) (.t 9), none⟩] [] [0, 1, 10])
  (.cond (.t 10)
  (.seq (.reg false [⟨some 4, .mv (.c (.bool false)), none⟩] [] [4])
  .ret)
  .skip))
  (.seq (.seq (.reg false [⟨some 5, .mv (.c (.int .i64 0)), none⟩] [] [0, 1, 5])
  (.block 0 (.loop (.seq (.seq (.reg false [⟨some 11, .mv (.t 5), none⟩,
    ⟨some 12, .mv (.t 0), none⟩,
    ⟨some 13, .len false (.t 12), none⟩,
    ⟨some 14, .bin .lss (.t 11) (.t 13), none⟩] [] [0, 1, 5, 14])
  (.cond (.t 14)
  .skip
  (.exit 0)))
  (.seq (.block 1 (.seq (.reg true [⟨some 17, .mv (.t 0), none⟩,
    ⟨some 18, .mv (.t 5), none⟩,
    ⟨some 19, .iad 3 (.t 17) (.t 18), none⟩,
    ⟨some 20, .ld (some 3) (.t 19), none⟩,
    ⟨some 21, .mv (.t 1), none⟩,
    ⟨some 22, .mv (.t 5), none⟩,
    ⟨some 23, .iad 3 (.t 21) (.t 22), none⟩,
    ⟨some 24, .ld (some 3) (.t 23), none⟩,
    ⟨some 25, .call 61 [.t 20, .t 24], none⟩,
    ⟨some 26, .not (.t 25), none⟩] [0, 0, 3, 7, 0, 0, 48, 112, 255, 511] [0, 1, 5, 26])
  (.cond (.t 26)
  (.seq (.reg false [⟨some 4, .mv (.c (.bool false)), none⟩] [] [4])
  .ret)
  .skip)))
  (.reg false [⟨some 15, .mv (.t 5), none⟩,
    ⟨some 16, .bin .add (.t 15) (.c (.int .i64 1)), none⟩,
    ⟨some 5, .mv (.t 16), none⟩] [] [0, 1, 5]))))))
  (.seq (.reg false [⟨some 4, .mv (.c (.bool true)), none⟩] [] [4])
  .ret)))), [(4, none)]⟩
theorem laws_eqNodeS_ok : okFn Tryz.prog 31 laws_eqNodeS = true := by kernel_rfl
def laws_markNodeS : IFn := ⟨34, (.seq (.reg false [⟨some 4, .mv (.c (.int .i64 0)), none⟩] [] [0, 1])
  (.seq (.seq (.reg false [⟨some 5, .mv (.c (.int .i64 0)), none⟩] [] [0, 1, 5])
  (.block 0 (.loop (.seq (.seq (.reg false [⟨some 6, .mv (.t 5), none⟩,
    ⟨some 7, .mv (.t 0), none⟩,
    ⟨some 8, .len false (.t 7), none⟩,
    ⟨some 9, .bin .lss (.t 6) (.t 8), none⟩] [] [0, 1, 5, 9])
  (.cond (.t 9)
  .skip
  (.exit 0)))
  (.seq (.block 1 (.seq (.reg false [⟨some 12, .mv (.t 0), none⟩,
    ⟨some 13, .mv (.t 5), none⟩,
    ⟨some 14, .mv (.t 1), none⟩,
    ⟨some 15, .iad 3 (.t 12) (.t 13), none⟩,
    ⟨some 16, .fad 0 (.t 15), none⟩,
    ⟨none, .st 1 (.t 16) (.t 14), none⟩] [] [0, 1, 5])
  (.seq (.reg false [⟨some 17, .mv (.t 1), none⟩,
    ⟨some 18, .bin .add (.t 17) (.c (.int .i64 1)), none⟩,
    ⟨some 1, .mv (.t 18), none⟩] [] [0, 1, 5])
  (.seq (.reg false [⟨some 19, .mv (.t 0), none⟩,
    ⟨some 20, .mv (.t 5), none⟩,
    ⟨some 21, .mv (.t 1), none⟩,
    ⟨some 22, .iad 3 (.t 19) (.t 20), none⟩,
    ⟨some 23, .fad 1 (.t 22), none⟩,
    ⟨none, .st 1 (.t 23) (.t 21), none⟩] [] [0, 1, 5])
  (.seq (.reg false [⟨some 24, .mv (.t 1), none⟩,
    ⟨some 25, .bin .add (.t 24) (.c (.int .i64 1)), none⟩,
    ⟨some 1, .mv (.t 25), none⟩] [] [0, 1, 5])
  (.seq (.reg false [⟨some 26, .mv (.t 0), none⟩,
    ⟨some 27, .mv (.t 5), none⟩,
    ⟨some 28, .mv (.t 1), none⟩,
    ⟨some 29, .iad 3 (.t 26) (.t 27), none⟩,
    ⟨some 30, .fad 2 (.t 29), none⟩,
    ⟨none, .st 1 (.t 30) (.t 28), none⟩] [] [0, 1, 5])
  (.reg false [⟨some 31, .mv (.t 1), none⟩,
    ⟨some 32, .bin .add (.t 31) (.c (.int .i64 1)), none⟩,
    ⟨some 1, .mv (.t 32), none⟩] [] [0, 1, 5])))))))
  (.reg false [⟨some 10, .mv (.t 5), none⟩,
    ⟨some 11, .bin .add (.t 10) (.c (.int .i64 1)), none⟩,
    ⟨some 5, .mv (.t 11), none⟩] [] [0, 1, 5]))))))
  (.seq (.reg false [⟨some 33, .mv (.t 1), none⟩,
    ⟨some 4, .mv (.t 33), none⟩] [] [4])
  .ret))), [(4, none)]⟩
theorem laws_markNodeS_ok : okFn Tryz.prog 32 laws_markNodeS = true := by kernel_rfl
def laws_heldNodeS : IFn := ⟨40, (.seq (.reg false [⟨some 4, .mv (.c (.int .i64 0)), none⟩] [] [0, 1])
  (.seq (.seq (.reg false [⟨some 5, .mv (.c (.int .i64 0)), none⟩] [] [0, 1, 5])
  (.block 0 (.loop (.seq (.seq (.reg false [⟨some 6, .mv (.t 5), none⟩,
    ⟨some 7, .mv (.t 0), none⟩,
    ⟨some 8, .len false (.t 7), none⟩,
    ⟨some 9, .bin .lss (.t 6) (.t 8), none⟩] [] [0, 1, 5, 9])
  (.cond (.t 9)
  .skip
  (.exit 0)))
  (.seq (.block 1 (.seq (.seq (.reg false [⟨some 12, .mv (.t 0), none⟩,
    ⟨some 13, .mv (.t 5), none⟩,
    ⟨some 14, .iad 3 (.t 12) (.t 13), none⟩,
    ⟨some 15, .fad 0 (.t 14), none⟩,
    ⟨some 16, .ld none (.t 15), none⟩,
    ⟨some 17, .mv (.t 1), none⟩,
    ⟨some 18, .bin .neq (.t 16) (.t 17), none⟩] [] [0, 1, 5, 18])
  (.cond (.t 18)
  (.seq (.reg false [⟨some 4, .mv (.c (.int .i64 (-1))), none⟩] [] [4])
  .ret)
  .skip))
  (.seq (.reg false [⟨some 19, .mv (.t 1), none⟩,
    ⟨some 20, .bin .add (.t 19) (.c (.int .i64 1)), none⟩,
    ⟨some 1, .mv (.t 20), none⟩] [] [0, 1, 5])
  (.seq (.seq (.reg false [⟨some 21, .mv (.t 0), none⟩,
    ⟨some 22, .mv (.t 5), none⟩,
    ⟨some 23, .iad 3 (.t 21) (.t 22), none⟩,
    ⟨some 24, .fad 1 (.t 23), none⟩,
    ⟨some 25, .ld none (.t 24), none⟩,
    ⟨some 26, .mv (.t 1), none⟩,
    ⟨some 27, .bin .neq (.t 25) (.t 26), none⟩] [] [0, 1, 5, 27])
  (.cond (.t 27)
  (.seq (.reg false [⟨some 4, .mv (.c (.int .i64 (-1))), none⟩] [] [4])
  .ret)
  .skip))
  (.seq (.reg false [⟨some 28, .mv (.t 1), none⟩,
    ⟨some 29, .bin .add (.t 28) (.c (.int .i64 1)), none⟩,
    ⟨some 1, .mv (.t 29), none⟩] [] [0, 1, 5])
  (.seq (.seq (.reg false [⟨some 30, .mv (.t 0), none⟩,
    ⟨some 31, .mv (.t 5), none⟩,
    ⟨some 32, .iad 3 (.t 30) (.t 31), none⟩,
    ⟨some 33, .fad 2 (.t 32), none⟩,
    ⟨some 34, .ld none (.t 33), none⟩,
    ⟨some 35, .mv (.t 1), none⟩,
    ⟨some 36, .bin .neq (.t 34) (.t 35), none⟩] [] [0, 1, 5, 36])
  (.cond (.t 36)
  (.seq (.reg false [⟨some 4, .mv (.c (.int .i64 (-1))), none⟩] [] [4])
  .ret)
  .skip))
  (.reg false [⟨some 37, .mv (.t 1), none⟩,
    ⟨some 38, .bin .add (.t 37) (.c (.int .i64 1)), none⟩,
    ⟨some 1, .mv (.t 38), none⟩] [] [0, 1, 5])))))))
  (.reg false [⟨some 10, .mv (.t 5), none⟩,
    ⟨some 11, .bin .add (.t 10) (.c (.int .i64 1)), none⟩,
    ⟨some 5, .mv (.t 11), none⟩] [] [0, 1, 5]))))))
  (.seq (.reg false [⟨some 39, .mv (.t 1), none⟩,
    ⟨some 4, .mv (.t 39), none⟩] [] [4])
  .ret))), [(4, none)]⟩
theorem laws_heldNodeS_ok : okFn Tryz.prog 33 laws_heldNodeS = true := by kernel_rfl
def spec_l1Right : IFn := ⟨56, (.seq (.reg false [⟨some 2, .box (.t 0), none⟩,
    ⟨some 4, .mv (.c (.bool false)), none⟩] [] [1, 2])
  (.seq (.seq (.reg false [⟨some 5, .fad 0 (.t 2), none⟩,
    ⟨some 6, .ld none (.t 5), none⟩,
    ⟨some 7, .call 62 [.t 6], none⟩] [] [1, 2, 7])
  (.block 0 (.seq (.reg false [⟨some 9, .bin .eql (.t 7) (.c (.int .i64 0)), none⟩,
    ⟨some 8, .mv (.t 9), none⟩] [] [1, 2, 7, 8])
  (.cond (.t 8)
  (.seq (.reg false [⟨some 10, .fad 1 (.t 2), none⟩,
    ⟨some 11, .ld none (.t 10), none⟩,
    ⟨some 12, .call 63 [.t 11, .c (.int .i64 0), .c (.int .i64 199)], none⟩,
    ⟨some 13, .mv (.t 12), none⟩,
    ⟨some 14, .fad 2 (.t 2), some (13, true)⟩,
    ⟨some 15, .ld none (.t 14), some (13, true)⟩,
    ⟨some 16, .bin .eql (.t 15) (.c (.int .i64 0)), some (13, true)⟩,
    ⟨some 17, .pick (.t 13) (.t 16) (.c (.bool false)), none⟩,
    ⟨some 4, .mv (.t 17), none⟩] [] [4])
  .ret)
  (.seq (.reg false [⟨some 19, .bin .eql (.t 7) (.c (.int .i64 1)), none⟩,
    ⟨some 18, .mv (.t 19), none⟩] [] [1, 2, 7, 18])
  (.cond (.t 18)
  (.seq (.reg false [⟨some 20, .fad 1 (.t 2), none⟩,
    ⟨some 21, .ld none (.t 20), none⟩,
    ⟨some 22, .mv (.t 1), none⟩,
    ⟨some 23, .bin .sub (.t 22) (.c (.int .i64 1)), none⟩,
    ⟨some 24, .call 63 [.t 21, .c (.int .i64 0), .t 23], none⟩,
    ⟨some 25, .mv (.t 24), none⟩,
    ⟨some 26, .fad 2 (.t 2), some (25, true)⟩,
    ⟨some 27, .ld none (.t 26), some (25, true)⟩,
    ⟨some 28, .bin .eql (.t 27) (.c (.int .i64 0)), some (25, true)⟩,
    ⟨some 29, .pick (.t 25) (.t 28) (.c (.bool false)), none⟩,
    ⟨some 4, .mv (.t 29), none⟩] [] [4])
  .ret)
  (.seq (.reg false [⟨some 31, .bin .eql (.t 7) (.c (.int .i64 2)), none⟩,
    ⟨some 30, .mv (.t 31), none⟩] [] [1, 2, 30])
  (.cond (.t 30)
  (.seq (.reg false [⟨some 32, .fad 1 (.t 2), none⟩,
    ⟨some 33, .ld none (.t 32), none⟩,
    ⟨some 34, .mv (.t 1), none⟩,
    ⟨some 35, .bin .sub (.t 34) (.c (.int .i64 1)), none⟩,
    ⟨some 36, .call 63 [.t 33, .c (.int .i64 0), .t 35], none⟩,
    ⟨some 37, .mv (.t 36), none⟩,
    ⟨some 38, .fad 2 (.t 2), some (37, true)⟩,
    ⟨some 39, .ld none (.t 38), some (37, true)⟩,
    ⟨some 40, .mv (.t 1), some (37, true)⟩,
    ⟨some 41, .bin .sub (.t 40) (.c (.int .i64 1)), some (37, true)⟩,
    ⟨some 42, .call 63 [.t 39, .c (.int .i64 0), .t 41], some (37, true)⟩,
    ⟨some 43, .pick (.t 37) (.t 42) (.c (.bool false)), none⟩,
    ⟨some 44, .mv (.t 43), none⟩,
    ⟨some 45, .fad 0 (.t 2), some (44, true)⟩,
    ⟨some 46, .ld none (.t 45), some (44, true)⟩,
    ⟨some 47, .bin .neq (.t 46) (.c (.int .i64 8)), some (44, true)⟩,
    ⟨some 48, .mv (.t 47), some (44, true)⟩,
    ⟨some 49, .fad 1 (.t 2), some (48, false)⟩,
    ⟨some 50, .ld none (.t 49), some (48, false)⟩,
    ⟨some 51, .fad 2 (.t 2), some (48, false)⟩,
    ⟨some 52, .ld none (.t 51), some (48, false)⟩,
    ⟨some 53, .bin .leq (.t 50) (.t 52), some (48, false)⟩,
    ⟨some 54, .pick (.t 48) (.c (.bool true)) (.t 53), some (44, true)⟩,
    ⟨some 55, .pick (.t 44) (.t 54) (.c (.bool false)), none⟩,
    ⟨some 4, .mv (.t 55), none⟩] [] [4])
  .ret)
  .skip))))))))
  (.seq (.reg false [⟨some 4, .mv (.c (.bool false)), none⟩] [] [4])
  .ret))), [(4, none)]⟩
theorem spec_l1Right_ok : okFn Tryz.prog 34 spec_l1Right = true := by kernel_rfl
def spec_l1Find : IFn := ⟨21, (.seq (.reg false [⟨some 2, .box (.t 0), none⟩,
    ⟨some 3, .box (.t 1), none⟩,
    ⟨some 4, .mv (.c (.int .i64 0)), none⟩] [] [2, 3])
  (.seq (.seq (.reg false [⟨some 5, .mv (.c (.int .i64 0)), none⟩] [] [2, 3, 5])
  (.block 0 (.loop (.seq (.seq (.reg false [⟨some 6, .mv (.t 5), none⟩,
    ⟨some 7, .fad 0 (.t 2), none⟩,
    ⟨some 8, .ld none (.t 7), none⟩,
    ⟨some 9, .len false (.t 8), none⟩,
    ⟨some 10, .bin .lss (.t 6) (.t 9), none⟩] [] [2, 3, 5, 10])
  (.cond (.t 10)
  .skip
  (.exit 0)))
  (.seq (.block 1 (.seq (.reg true [⟨some 13, .fad 0 (.t 2), none⟩,
    ⟨some 14, .ld none (.t 13), none⟩,
    ⟨some 15, .mv (.t 5), none⟩,
    ⟨some 16, .iad 3 (.t 14) (.t 15), none⟩,
    ⟨some 17, .ld (some 3) (.t 16), none⟩,
    ⟨some 18, .ld (some 3) (.t 3), none⟩,
    ⟨some 19, .eqs false [1, 1, 1] (.t 17) (.t 18), none⟩] [0, 1, 0, 7, 15, 0, 63] [2, 3, 5, 19])
  (.cond (.t 19)
  (.seq (.reg false [⟨some 20, .mv (.t 5), none⟩,
    ⟨some 4, .mv (.t 20), none⟩] [] [4])
  .ret)
  .skip)))
  (.reg false [⟨some 11, .mv (.t 5), none⟩,
    ⟨some 12, .bin .add (.t 11) (.c (.int .i64 1)), none⟩,
    ⟨some 5, .mv (.t 12), none⟩] [] [2, 3, 5]))))))
  (.seq (.reg false [⟨some 4, .mv (.c (.int .i64 (-1))), none⟩] [] [4])
  .ret))), [(4, none)]⟩
theorem spec_l1Find_ok : okFn Tryz.prog 35 spec_l1Find = true := by kernel_rfl
def spec_l6Know : IFn := ⟨38, (.seq (.reg false [⟨some 2, .box (.t 0), none⟩,
    ⟨some 4, .mv (.c (.bool false)), none⟩] [] [1, 2])
  (.seq (.seq (.reg false [⟨some 6, .mv (.t 1), none⟩,
    ⟨some 7, .len false (.t 6), none⟩,
    ⟨some 8, .bin .gtr (.t 7) (.c (.int .i64 200)), none⟩] [] [1, 2, 8])
  (.cond (.t 8)
  (.seq (.reg false [⟨some 4, .mv (.c (.bool false)), none⟩] [] [4])
  .ret)
  .skip))
  (.seq (.seq (.reg false [⟨some 5, .mv (.c (.int .i64 0)), none⟩] [] [1, 2, 5])
  (.block 0 (.loop (.seq (.seq (.reg false [⟨some 9, .mv (.t 5), none⟩,
    ⟨some 10, .mv (.t 1), none⟩,
    ⟨some 11, .len false (.t 10), none⟩,
    ⟨some 12, .bin .lss (.t 9) (.t 11), none⟩] [] [1, 2, 5, 12])
  (.cond (.t 12)
  .skip
  (.exit 0)))
  (.seq (.block 1 (.seq (.reg true [⟨some 15, .ld (some 1) (.t 2), none⟩,
    ⟨some 16, .mv (.t 1), none⟩,
    ⟨some 17, .mv (.t 5), none⟩,
    ⟨some 18, .iad 1 (.t 16) (.t 17), none⟩,
    ⟨some 19, .ld none (.t 18), none⟩,
    ⟨some 20, .call 64 [.t 15, .t 19], none⟩,
    ⟨some 21, .not (.t 20), none⟩,
    ⟨some 22, .mv (.t 21), none⟩,
    ⟨some 23, .mv (.t 5), some (22, false)⟩,
    ⟨some 24, .bin .gtr (.t 23) (.c (.int .i64 0)), some (22, false)⟩,
    ⟨some 25, .mv (.t 24), some (22, false)⟩,
    ⟨some 26, .mv (.t 1), some (25, true)⟩,
    ⟨some 27, .mv (.t 5), some (25, true)⟩,
    ⟨some 28, .bin .sub (.t 27) (.c (.int .i64 1)), some (25, true)⟩,
    ⟨some 29, .iad 1 (.t 26) (.t 28), some (25, true)⟩,
    ⟨some 30, .ld none (.t 29), some (25, true)⟩,
    ⟨some 31, .mv (.t 1), some (25, true)⟩,
    ⟨some 32, .mv (.t 5), some (25, true)⟩,
    ⟨some 33, .iad 1 (.t 31) (.t 32), some (25, true)⟩,
    ⟨some 34, .ld none (.t 33), some (25, true)⟩,
    ⟨some 35, .bin .geq (.t 30) (.t 34), some (25, true)⟩,
    ⟨some 36, .pick (.t 25) (.t 35) (.c (.bool false)), some (22, false)⟩,
    ⟨some 37, .pick (.t 22) (.c (.bool true)) (.t 36), none⟩] [0, 0, 0, 6, 14, 31, 63, 127, 255, 511, 1023, 2047, 2047, 6143, 16383, 32767, 2047, 2047, 198655, 460799, 1048575, 2097151, 4194303] [1, 2, 5, 37])
  (.cond (.t 37)
  (.seq (.reg false [⟨some 4, .mv (.c (.bool false)), none⟩] [] [4])
  .ret)
  .skip)))
  (.reg false [⟨some 13, .mv (.t 5), none⟩,
    ⟨some 14, .bin .add (.t 13) (.c (.int .i64 1)), none⟩,
    ⟨some 5, .mv (.t 14), none⟩] [] [1, 2, 5]))))))
  (.seq (.reg false [⟨some 4, .mv (.c (.bool true)), none⟩] [] [4])
  .ret)))), [(4, none)]⟩
theorem spec_l6Know_ok : okFn Tryz.prog 36 spec_l6Know = true := by kernel_rfl
def spec_l10Num : IFn := ⟨65, (.seq (.reg false [⟨some 4, .mv (.c (.int .i64 0)), none⟩,
    ⟨some 5, .mv (.c (.int .i64 0)), none⟩,
    ⟨some 6, .mv (.c (.bool false)), none⟩] [] [0, 1])
  (.seq (.reg false [⟨some 9, .mv (.t 1), none⟩,
    ⟨some 7, .mv (.t 9), none⟩] [] [0, 1, 7])
  (.seq (.reg false [⟨some 8, .mv (.c (.int .i64 0)), none⟩] [] [0, 1, 7, 8])
  (.seq (.block 0 (.loop (.seq (.seq (.reg false [⟨some 10, .mv (.t 1), none⟩,
    ⟨some 11, .mv (.t 0), none⟩,
    ⟨some 12, .len true (.t 11), none⟩,
    ⟨some 13, .bin .lss (.t 10) (.t 12), none⟩,
    ⟨some 14, .mv (.t 13), none⟩,
    ⟨some 15, .mv (.t 0), some (14, true)⟩,
    ⟨some 16, .mv (.t 1), some (14, true)⟩,
    ⟨some 17, .idxs (.t 15) (.t 16), some (14, true)⟩,
    ⟨some 18, .bin .geq (.t 17) (.c (.int .u8 48)), some (14, true)⟩,
    ⟨some 19, .pick (.t 14) (.t 18) (.c (.bool false)), none⟩,
    ⟨some 20, .mv (.t 19), none⟩,
    ⟨some 21, .mv (.t 0), some (20, true)⟩,
    ⟨some 22, .mv (.t 1), some (20, true)⟩,
    ⟨some 23, .idxs (.t 21) (.t 22), some (20, true)⟩,
    ⟨some 24, .bin .leq (.t 23) (.c (.int .u8 57)), some (20, true)⟩,
    ⟨some 25, .pick (.t 20) (.t 24) (.c (.bool false)), none⟩,
    ⟨some 26, .mv (.t 25), none⟩,
    ⟨some 27, .mv (.t 1), some (26, true)⟩,
    ⟨some 28, .mv (.t 7), some (26, true)⟩,
    ⟨some 29, .bin .sub (.t 27) (.t 28), some (26, true)⟩,
    ⟨some 30, .bin .lss (.t 29) (.c (.int .i64 5)), some (26, true)⟩,
    ⟨some 31, .pick (.t 26) (.t 30) (.c (.bool false)), none⟩] [] [0, 1, 7, 8, 31])
  (.cond (.t 31)
  .skip
  (.exit 0)))
  (.block 1 (.seq (.reg false [⟨some 32, .mv (.t 8), none⟩,
    ⟨some 33, .bin .mul (.c (.int .i64 10)) (.t 32), none⟩,
    ⟨some 34, .mv (.t 0), none⟩,
    ⟨some 35, .mv (.t 1), none⟩,
    ⟨some 36, .idxs (.t 34) (.t 35), none⟩,
    ⟨some 37, .conv .i64 (.t 36), none⟩,
    ⟨some 38, .bin .add (.t 33) (.t 37), none⟩,
    ⟨some 39, .bin .sub (.t 38) (.c (.int .i64 48)), none⟩,
    ⟨some 8, .mv (.t 39), none⟩] [] [0, 1, 7, 8])
  (.reg false [⟨some 40, .mv (.t 1), none⟩,
    ⟨some 41, .bin .add (.t 40) (.c (.int .i64 1)), none⟩,
    ⟨some 1, .mv (.t 41), none⟩] [] [0, 1, 7, 8]))))))
  (.seq (.seq (.reg false [⟨some 42, .mv (.t 1), none⟩,
    ⟨some 43, .mv (.t 7), none⟩,
    ⟨some 44, .bin .eql (.t 42) (.t 43), none⟩,
    ⟨some 45, .mv (.t 44), none⟩,
    ⟨some 46, .mv (.t 1), some (45, false)⟩,
    ⟨some 47, .mv (.t 7), some (45, false)⟩,
    ⟨some 48, .bin .sub (.t 46) (.t 47), some (45, false)⟩,
    ⟨some 49, .bin .gtr (.t 48) (.c (.int .i64 4)), some (45, false)⟩,
    ⟨some 50, .pick (.t 45) (.c (.bool true)) (.t 49), none⟩,
    ⟨some 51, .mv (.t 50), none⟩,
    ⟨some 52, .mv (.t 0), some (51, false)⟩,
    ⟨some 53, .mv (.t 7), some (51, false)⟩,
    ⟨some 54, .idxs (.t 52) (.t 53), some (51, false)⟩,
    ⟨some 55, .bin .eql (.t 54) (.c (.int .u8 48)), some (51, false)⟩,
    ⟨some 56, .mv (.t 55), some (51, false)⟩,
    ⟨some 57, .mv (.t 1), some (56, true)⟩,
    ⟨some 58, .mv (.t 7), some (56, true)⟩,
    ⟨some 59, .bin .sub (.t 57) (.t 58), some (56, true)⟩,
    ⟨some 60, .bin .gtr (.t 59) (.c (.int .i64 1)), some (56, true)⟩,
    ⟨some 61, .pick (.t 56) (.t 60) (.c (.bool false)), some (51, false)⟩,
    ⟨some 62, .pick (.t 51) (.c (.bool true)) (.t 61), none⟩] [] [1, 8, 62])
  (.cond (.t 62)
  (.seq (.reg false [⟨some 4, .mv (.c (.int .i64 0)), none⟩,
    ⟨some 5, .mv (.c (.int .i64 0)), none⟩,
    ⟨some 6, .mv (.c (.bool false)), none⟩] [] [4, 5, 6])
  .ret)
  .skip))
  (.seq (.reg false [⟨some 63, .mv (.t 8), none⟩,
    ⟨some 64, .mv (.t 1), none⟩,
    ⟨some 4, .mv (.t 63), none⟩,
    ⟨some 5, .mv (.t 64), none⟩,
    ⟨some 6, .mv (.c (.bool true)), none⟩] [] [4, 5, 6])
  .ret)))))), [(4, none), (5, none), (6, none)]⟩
theorem spec_l10Num_ok : okFn Tryz.prog 37 spec_l10Num = true := by kernel_rfl
def spec_l4Name : IFn := ⟨69, (.seq (.reg false [⟨some 4, .mv (.c (.int .i64 0)), none⟩,
    ⟨some 5, .mv (.c (.int .i64 0)), none⟩,
    ⟨some 6, .mv (.c (.bool false)), none⟩] [] [0, 1])
  (.seq (.reg false [⟨some 9, .mv (.t 1), none⟩,
    ⟨some 7, .mv (.t 9), none⟩] [] [0, 1, 7])
  (.seq (.reg false [⟨some 8, .mv (.c (.int .i64 0)), none⟩] [] [0, 1, 7, 8])
  (.seq (.block 0 (.loop (.seq (.seq (.reg false [⟨some 10, .mv (.t 1), none⟩,
    ⟨some 11, .mv (.t 0), none⟩,
    ⟨some 12, .len true (.t 11), none⟩,
    ⟨some 13, .bin .lss (.t 10) (.t 12), none⟩,
    ⟨some 14, .mv (.t 13), none⟩,
    ⟨some 15, .mv (.t 0), some (14, true)⟩,
    ⟨some 16, .mv (.t 1), some (14, true)⟩,
    ⟨some 17, .idxs (.t 15) (.t 16), some (14, true)⟩,
    ⟨some 18, .bin .geq (.t 17) (.c (.int .u8 48)), some (14, true)⟩,
    ⟨some 19, .pick (.t 14) (.t 18) (.c (.bool false)), none⟩,
    ⟨some 20, .mv (.t 19), none⟩,
    ⟨some 21, .mv (.t 0), some (20, true)⟩,
    ⟨some 22, .mv (.t 1), some (20, true)⟩,
    ⟨some 23, .idxs (.t 21) (.t 22), some (20, true)⟩,
    ⟨some 24, .bin .leq (.t 23) (.c (.int .u8 57)), some (20, true)⟩,
    ⟨some 25, .pick (.t 20) (.t 24) (.c (.bool false)), none⟩,
    ⟨some 26, .mv (.t 25), none⟩,
    ⟨some 27, .mv (.t 1), some (26, true)⟩,
    ⟨some 28, .mv (.t 7), some (26, true)⟩,
    ⟨some 29, .bin .sub (.t 27) (.t 28), some (26, true)⟩,
    ⟨some 30, .bin .lss (.t 29) (.c (.int .i64 4)), some (26, true)⟩,
    ⟨some 31, .pick (.t 26) (.t 30) (.c (.bool false)), none⟩] [] [0, 1, 7, 8, 31])
  (.cond (.t 31)
  .skip
  (.exit 0)))
  (.block 1 (.seq (.reg false [⟨some 32, .mv (.t 8), none⟩,
    ⟨some 33, .bin .mul (.c (.int .i64 10)) (.t 32), none⟩,
    ⟨some 34, .mv (.t 0), none⟩,
    ⟨some 35, .mv (.t 1), none⟩,
    ⟨some 36, .idxs (.t 34) (.t 35), none⟩,
    ⟨some 37, .conv .i64 (.t 36), none⟩,
    ⟨some 38, .bin .add (.t 33) (.t 37), none⟩,
    ⟨some 39, .bin .sub (.t 38) (.c (.int .i64 48)), none⟩,
    ⟨some 8, .mv (.t 39), none⟩] [] [0, 1, 7, 8])
  (.reg false [⟨some 40, .mv (.t 1), none⟩,
    ⟨some 41, .bin .add (.t 40) (.c (.int .i64 1)), none⟩,
    ⟨some 1, .mv (.t 41), none⟩] [] [0, 1, 7, 8]))))))
  (.seq (.seq (.reg false [⟨some 42, .mv (.t 1), none⟩,
    ⟨some 43, .mv (.t 7), none⟩,
    ⟨some 44, .bin .eql (.t 42) (.t 43), none⟩,
    ⟨some 45, .mv (.t 44), none⟩,
    ⟨some 46, .mv (.t 1), some (45, false)⟩,
    ⟨some 47, .mv (.t 7), some (45, false)⟩,
    ⟨some 48, .bin .sub (.t 46) (.t 47), some (45, false)⟩,
    ⟨some 49, .bin .gtr (.t 48) (.c (.int .i64 3)), some (45, false)⟩,
    ⟨some 50, .pick (.t 45) (.c (.bool true)) (.t 49), none⟩,
    ⟨some 51, .mv (.t 50), none⟩,
    ⟨some 52, .mv (.t 0), some (51, false)⟩,
    ⟨some 53, .mv (.t 7), some (51, false)⟩,
    ⟨some 54, .idxs (.t 52) (.t 53), some (51, false)⟩,
    ⟨some 55, .bin .eql (.t 54) (.c (.int .u8 48)), some (51, false)⟩,
    ⟨some 56, .mv (.t 55), some (51, false)⟩,
    ⟨some 57, .mv (.t 1), some (56, true)⟩,
    ⟨some 58, .mv (.t 7), some (56, true)⟩,
    ⟨some 59, .bin .sub (.t 57) (.t 58), some (56, true)⟩,
    ⟨some 60, .bin .gtr (.t 59) (.c (.int .i64 1)), some (56, true)⟩,
    ⟨some 61, .pick (.t 56) (.t 60) (.c (.bool false)), some (51, false)⟩,
    ⟨some 62, .pick (.t 51) (.c (.bool true)) (.t 61), none⟩,
    ⟨some 63, .mv (.t 62), none⟩,
    ⟨some 64, .mv (.t 8), some (63, false)⟩,
    ⟨some 65, .bin .geq (.t 64) (.c (.int .i64 200)), some (63, false)⟩,
    ⟨some 66, .pick (.t 63) (.c (.bool true)) (.t 65), none⟩] [] [1, 8, 66])
  (.cond (.t 66)
  (.seq (.reg false [⟨some 4, .mv (.c (.int .i64 0)), none⟩,
    ⟨some 5, .mv (.c (.int .i64 0)), none⟩,
    ⟨some 6, .mv (.c (.bool false)), none⟩] [] [4, 5, 6])
  .ret)
  .skip))
  (.seq (.reg false [⟨some 67, .mv (.t 8), none⟩,
    ⟨some 68, .mv (.t 1), none⟩,
    ⟨some 4, .mv (.t 67), none⟩,
    ⟨some 5, .mv (.t 68), none⟩,
    ⟨some 6, .mv (.c (.bool true)), none⟩] [] [4, 5, 6])
  .ret)))))), [(4, none), (5, none), (6, none)]⟩
theorem spec_l4Name_ok : okFn Tryz.prog 38 spec_l4Name = true := by kernel_rfl
def spec_IsPublic : IFn := ⟨5, (.seq (.reg false [⟨some 2, .mv (.c (.bool false)), none⟩] [] [0])
  (.seq (.reg false [⟨some 3, .mv (.t 0), none⟩,
    ⟨some 4, .call 63 [.t 3, .c (.int .i64 0), .c (.int .i64 49)], none⟩,
    ⟨some 2, .mv (.t 4), none⟩] [] [2])
  .ret)), [(2, none)]⟩
theorem spec_IsPublic_ok : okFn Tryz.prog 39 spec_IsPublic = true := by kernel_rfl
def spec_l2Name : IFn := ⟨12, (.seq (.reg false [⟨some 2, .box (.t 0), none⟩,
    ⟨some 4, .new [.nil], none⟩,
    ⟨some 5, .mv (.c (.int .i64 0)), none⟩] [] [1, 2, 4])
  (.seq (.reg false [⟨some 6, .ld (some 1) (.t 2), none⟩,
    ⟨some 7, .mv (.t 1), none⟩,
    ⟨some 8, .build [.int .i64 0, .int .i64 0, .int .i64 0] [(0, 1, .c (.int .i64 1)), (1, 1, .t 7)], none⟩,
    ⟨some 9, .call 45 [.t 6, .t 8], none⟩,
    ⟨some 10, .ext (.t 9) 0, none⟩,
    ⟨some 11, .ext (.t 9) 1, none⟩,
    ⟨none, .st 1 (.t 4) (.t 10), none⟩,
    ⟨some 5, .mv (.t 11), none⟩] [] [4, 5])
  .ret)), [(4, some (some 1)), (5, none)]⟩
theorem spec_l2Name_ok : okFn Tryz.prog 40 spec_l2Name = true := by kernel_rfl
def spec_l10Apply : IFn := ⟨40, (.seq (.reg false [⟨some 3, .box (.t 0), none⟩,
    ⟨some 6, .mv (.c (.int .i64 0)), none⟩] [] [1, 2, 3])
  (.seq (.reg false [⟨some 8, .fad 0 (.t 3), none⟩,
    ⟨some 9, .ld none (.t 8), none⟩,
    ⟨some 10, .mv (.t 2), none⟩,
    ⟨some 11, .iad 3 (.t 9) (.t 10), none⟩,
    ⟨some 12, .ld (some 3) (.t 11), none⟩,
    ⟨some 7, .new [.int .i64 0, .int .i64 0, .int .i64 0], none⟩,
    ⟨none, .st 3 (.t 7) (.t 12), none⟩] [] [1, 7])
  (.seq (.block 0 (.seq (.seq (.reg false [⟨some 14, .mv (.t 1), none⟩,
    ⟨some 15, .bin .eql (.t 14) (.c (.int .u8 60)), none⟩,
    ⟨some 16, .mv (.t 15), none⟩,
    ⟨some 17, .fad 0 (.t 7), some (16, true)⟩,
    ⟨some 18, .ld none (.t 17), some (16, true)⟩,
    ⟨some 19, .bin .eql (.t 18) (.c (.int .i64 2)), some (16, true)⟩,
    ⟨some 20, .pick (.t 16) (.t 19) (.c (.bool false)), none⟩,
    ⟨some 13, .mv (.t 20), none⟩] [] [1, 7, 13])
  (.cond (.t 13)
  .skip
  (.reg false [⟨some 21, .mv (.t 1), none⟩,
    ⟨some 22, .bin .eql (.t 21) (.c (.int .u8 33)), none⟩,
    ⟨some 23, .mv (.t 22), none⟩,
    ⟨some 24, .fad 0 (.t 7), some (23, true)⟩,
    ⟨some 25, .ld none (.t 24), some (23, true)⟩,
    ⟨some 26, .bin .eql (.t 25) (.c (.int .i64 4)), some (23, true)⟩,
    ⟨some 27, .pick (.t 23) (.t 26) (.c (.bool false)), none⟩,
    ⟨some 13, .mv (.t 27), none⟩] [] [1, 7, 13])))
  (.cond (.t 13)
  (.seq (.reg false [⟨some 28, .fad 1 (.t 7), none⟩,
    ⟨some 29, .ld none (.t 28), none⟩,
    ⟨some 6, .mv (.t 29), none⟩] [] [6])
  .ret)
  (.seq (.reg false [⟨some 31, .mv (.t 1), none⟩,
    ⟨some 32, .bin .eql (.t 31) (.c (.int .u8 62)), none⟩,
    ⟨some 33, .mv (.t 32), none⟩,
    ⟨some 34, .fad 0 (.t 7), some (33, true)⟩,
    ⟨some 35, .ld none (.t 34), some (33, true)⟩,
    ⟨some 36, .bin .eql (.t 35) (.c (.int .i64 2)), some (33, true)⟩,
    ⟨some 37, .pick (.t 33) (.t 36) (.c (.bool false)), none⟩,
    ⟨some 30, .mv (.t 37), none⟩] [] [7, 30])
  (.cond (.t 30)
  (.seq (.reg false [⟨some 38, .fad 2 (.t 7), none⟩,
    ⟨some 39, .ld none (.t 38), none⟩,
    ⟨some 6, .mv (.t 39), none⟩] [] [6])
  .ret)
  .skip)))))
  (.seq (.reg false [⟨some 6, .mv (.c (.int .i64 (-1))), none⟩] [] [6])
  .ret)))), [(6, none)]⟩
theorem spec_l10Apply_ok : okFn Tryz.prog 41 spec_l10Apply = true := by kernel_rfl
def spec_l10Two : IFn := ⟨75, (.seq (.reg false [⟨some 6, .box (.t 0), none⟩,
    ⟨some 12, .new [.nil], none⟩,
    ⟨some 13, .mv (.c (.int .i64 0)), none⟩,
    ⟨some 14, .mv (.c (.int .i64 0)), none⟩,
    ⟨some 15, .mv (.c (.int .i64 0)), none⟩,
    ⟨some 16, .mv (.c (.int .i64 0)), none⟩] [] [1, 2, 3, 4, 5, 6, 12])
  (.seq (.reg false [⟨some 21, .mv (.t 3), none⟩,
    ⟨some 17, .mv (.t 21), none⟩,
    ⟨some 18, .mv (.c (.int .i64 0)), none⟩] [] [1, 2, 3, 4, 5, 6, 12, 17, 18])
  (.seq (.seq (.reg false [⟨some 22, .mv (.t 4), none⟩] [] [1, 2, 3, 5, 6, 12, 17, 18, 22])
  (.cond (.t 22)
  (.reg false [⟨some 24, .mv (.t 2), none⟩,
    ⟨some 25, .mv (.t 3), none⟩,
    ⟨some 26, .call 65 [.t 24, .t 25, .c (.int .u8 40)], none⟩,
    ⟨some 23, .mv (.t 26), none⟩,
    ⟨some 27, .ext (.t 23) 0, none⟩,
    ⟨some 28, .ext (.t 23) 1, none⟩,
    ⟨some 17, .mv (.t 27), none⟩,
    ⟨some 18, .mv (.t 28), none⟩] [] [1, 2, 5, 6, 12, 17, 18])
  .skip))
  (.seq (.reg false [⟨some 19, .mv (.c (.int .i64 (-1))), none⟩,
    ⟨some 20, .mv (.c (.int .i64 (-1))), none⟩] [] [1, 2, 5, 6, 12, 17, 18, 19, 20])
  (.seq (.seq (.reg false [⟨some 29, .mv (.t 18), none⟩,
    ⟨some 30, .bin .eql (.t 29) (.c (.int .i64 0)), none⟩] [] [1, 2, 5, 6, 12, 17, 18, 19, 20, 30])
  (.cond (.t 30)
  (.reg false [⟨some 32, .ld (some 1) (.t 6), none⟩,
    ⟨some 33, .mv (.t 1), none⟩,
    ⟨some 34, .mv (.t 2), none⟩,
    ⟨some 35, .mv (.t 17), none⟩,
    ⟨some 36, .call 18 [.t 32, .t 33, .t 34, .t 35], none⟩,
    ⟨some 31, .mv (.t 36), none⟩,
    ⟨some 37, .ext (.t 31) 0, none⟩,
    ⟨some 38, .ext (.t 31) 1, none⟩,
    ⟨some 39, .ext (.t 31) 2, none⟩,
    ⟨some 40, .ext (.t 31) 3, none⟩,
    ⟨none, .st 1 (.t 6) (.t 37), none⟩,
    ⟨some 19, .mv (.t 38), none⟩,
    ⟨some 17, .mv (.t 39), none⟩,
    ⟨some 18, .mv (.t 40), none⟩] [] [1, 2, 5, 6, 12, 17, 18, 19, 20])
  .skip))
  (.seq (.seq (.reg false [⟨some 41, .mv (.t 18), none⟩,
    ⟨some 42, .bin .eql (.t 41) (.c (.int .i64 0)), none⟩] [] [1, 2, 5, 6, 12, 17, 18, 19, 20, 42])
  (.cond (.t 42)
  (.reg false [⟨some 44, .mv (.t 2), none⟩,
    ⟨some 45, .mv (.t 17), none⟩,
    ⟨some 46, .call 65 [.t 44, .t 45, .c (.int .u8 44)], none⟩,
    ⟨some 43, .mv (.t 46), none⟩,
    ⟨some 47, .ext (.t 43) 0, none⟩,
    ⟨some 48, .ext (.t 43) 1, none⟩,
    ⟨some 17, .mv (.t 47), none⟩,
    ⟨some 18, .mv (.t 48), none⟩] [] [1, 2, 5, 6, 12, 17, 18, 19, 20])
  .skip))
  (.seq (.seq (.reg false [⟨some 49, .mv (.t 18), none⟩,
    ⟨some 50, .bin .eql (.t 49) (.c (.int .i64 0)), none⟩] [] [1, 2, 5, 6, 12, 17, 18, 19, 20, 50])
  (.cond (.t 50)
  (.reg false [⟨some 52, .ld (some 1) (.t 6), none⟩,
    ⟨some 53, .mv (.t 1), none⟩,
    ⟨some 54, .mv (.t 2), none⟩,
    ⟨some 55, .mv (.t 17), none⟩,
    ⟨some 56, .call 18 [.t 52, .t 53, .t 54, .t 55], none⟩,
    ⟨some 51, .mv (.t 56), none⟩,
    ⟨some 57, .ext (.t 51) 0, none⟩,
    ⟨some 58, .ext (.t 51) 1, none⟩,
    ⟨some 59, .ext (.t 51) 2, none⟩,
    ⟨some 60, .ext (.t 51) 3, none⟩,
    ⟨none, .st 1 (.t 6) (.t 57), none⟩,
    ⟨some 20, .mv (.t 58), none⟩,
    ⟨some 17, .mv (.t 59), none⟩,
    ⟨some 18, .mv (.t 60), none⟩] [] [2, 5, 6, 12, 17, 18, 19, 20])
  .skip))
  (.seq (.seq (.reg false [⟨some 61, .mv (.t 18), none⟩,
    ⟨some 62, .bin .eql (.t 61) (.c (.int .i64 0)), none⟩] [] [2, 5, 6, 12, 17, 18, 19, 20, 62])
  (.cond (.t 62)
  (.reg false [⟨some 64, .mv (.t 2), none⟩,
    ⟨some 65, .mv (.t 17), none⟩,
    ⟨some 66, .mv (.t 5), none⟩,
    ⟨some 67, .call 65 [.t 64, .t 65, .t 66], none⟩,
    ⟨some 63, .mv (.t 67), none⟩,
    ⟨some 68, .ext (.t 63) 0, none⟩,
    ⟨some 69, .ext (.t 63) 1, none⟩,
    ⟨some 17, .mv (.t 68), none⟩,
    ⟨some 18, .mv (.t 69), none⟩] [] [6, 12, 17, 18, 19, 20])
  .skip))
  (.seq (.reg false [⟨some 70, .ld (some 1) (.t 6), none⟩,
    ⟨some 71, .mv (.t 19), none⟩,
    ⟨some 72, .mv (.t 20), none⟩,
    ⟨some 73, .mv (.t 17), none⟩,
    ⟨some 74, .mv (.t 18), none⟩,
    ⟨none, .st 1 (.t 12) (.t 70), none⟩,
    ⟨some 13, .mv (.t 71), none⟩,
    ⟨some 14, .mv (.t 72), none⟩,
    ⟨some 15, .mv (.t 73), none⟩,
    ⟨some 16, .mv (.t 74), none⟩] [] [12, 13, 14, 15, 16])
  .ret))))))))), [(12, some (some 1)), (13, none), (14, none), (15, none), (16, none)]⟩
theorem spec_l10Two_ok : okFn Tryz.prog 42 spec_l10Two = true := by kernel_rfl
def spec_l10Both : IFn := ⟨54, (.seq (.reg false [⟨some 4, .box (.t 0), none⟩,
    ⟨some 8, .new [.nil], none⟩,
    ⟨some 9, .mv (.c (.int .i64 0)), none⟩,
    ⟨some 10, .mv (.c (.int .i64 0)), none⟩] [] [1, 2, 3, 4, 8])
  (.seq (.seq (.reg false [⟨some 14, .mv (.t 1), none⟩,
    ⟨some 15, .bin .eql (.t 14) (.c (.int .u8 111)), none⟩] [] [2, 3, 4, 8, 15])
  (.cond (.t 15)
  (.seq (.reg false [⟨some 16, .fad 0 (.t 4), none⟩,
    ⟨some 17, .ld none (.t 16), none⟩,
    ⟨some 18, .mv (.t 2), none⟩,
    ⟨some 19, .iad 3 (.t 17) (.t 18), none⟩,
    ⟨some 20, .ld (some 3) (.t 19), none⟩,
    ⟨some 11, .new [.int .i64 0, .int .i64 0, .int .i64 0], none⟩,
    ⟨none, .st 3 (.t 11) (.t 20), none⟩] [] [3, 4, 8, 11])
  (.seq (.seq (.reg false [⟨some 21, .fad 0 (.t 11), none⟩,
    ⟨some 22, .ld none (.t 21), none⟩,
    ⟨some 23, .bin .neq (.t 22) (.c (.int .i64 3)), none⟩,
    ⟨some 24, .mv (.t 23), none⟩,
    ⟨some 25, .fad 2 (.t 11), some (24, false)⟩,
    ⟨some 26, .ld none (.t 25), some (24, false)⟩,
    ⟨some 27, .mv (.t 3), some (24, false)⟩,
    ⟨some 28, .bin .neq (.t 26) (.t 27), some (24, false)⟩,
    ⟨some 29, .pick (.t 24) (.c (.bool true)) (.t 28), none⟩] [] [4, 8, 11, 29])
  (.cond (.t 29)
  (.seq (.reg false [⟨some 30, .ld (some 1) (.t 4), none⟩,
    ⟨none, .st 1 (.t 8) (.t 30), none⟩,
    ⟨some 9, .mv (.c (.int .i64 (-1))), none⟩,
    ⟨some 10, .mv (.c (.int .i64 7)), none⟩] [] [8, 9, 10])
  .ret)
  .skip))
  (.seq (.reg true [⟨some 31, .ld (some 1) (.t 4), none⟩,
    ⟨some 32, .fad 1 (.t 11), none⟩,
    ⟨some 33, .ld none (.t 32), none⟩,
    ⟨none, .st 1 (.t 8) (.t 31), none⟩,
    ⟨some 9, .mv (.t 33), none⟩,
    ⟨some 10, .mv (.c (.int .i64 0)), none⟩] [0, 0, 2, 1, 15, 31] [8, 9, 10])
  .ret)))
  .skip))
  (.seq (.seq (.reg false [⟨some 34, .fad 0 (.t 4), none⟩,
    ⟨some 35, .ld none (.t 34), none⟩,
    ⟨some 36, .mv (.t 3), none⟩,
    ⟨some 37, .iad 3 (.t 35) (.t 36), none⟩,
    ⟨some 38, .fad 0 (.t 37), none⟩,
    ⟨some 39, .ld none (.t 38), none⟩,
    ⟨some 40, .bin .neq (.t 39) (.c (.int .i64 7)), none⟩] [] [2, 3, 4, 8, 40])
  (.cond (.t 40)
  (.seq (.reg false [⟨some 41, .ld (some 1) (.t 4), none⟩,
    ⟨none, .st 1 (.t 8) (.t 41), none⟩,
    ⟨some 9, .mv (.c (.int .i64 (-1))), none⟩,
    ⟨some 10, .mv (.c (.int .i64 7)), none⟩] [] [8, 9, 10])
  .ret)
  .skip))
  (.seq (.reg false [⟨some 43, .ld (some 1) (.t 4), none⟩,
    ⟨some 44, .mv (.t 3), none⟩,
    ⟨some 45, .mv (.t 2), none⟩,
    ⟨some 46, .call 66 [.t 43, .t 44, .t 45], none⟩,
    ⟨some 42, .mv (.t 46), none⟩,
    ⟨some 47, .ext (.t 42) 0, none⟩,
    ⟨some 48, .ext (.t 42) 1, none⟩,
    ⟨some 12, .new [.nil], none⟩,
    ⟨none, .st 1 (.t 12) (.t 47), none⟩,
    ⟨some 13, .mv (.t 48), none⟩] [] [4, 8, 12, 13])
  (.seq (.seq (.reg false [⟨some 49, .mv (.t 13), none⟩,
    ⟨some 50, .bin .lss (.t 49) (.c (.int .i64 0)), none⟩] [] [4, 8, 12, 13, 50])
  (.cond (.t 50)
  (.seq (.reg false [⟨some 51, .ld (some 1) (.t 4), none⟩,
    ⟨none, .st 1 (.t 8) (.t 51), none⟩,
    ⟨some 9, .mv (.c (.int .i64 (-1))), none⟩,
    ⟨some 10, .mv (.c (.int .i64 5)), none⟩] [] [8, 9, 10])
  .ret)
  .skip))
  (.seq (.reg false [⟨some 52, .ld (some 1) (.t 12), none⟩,
    ⟨some 53, .mv (.t 13), none⟩,
    ⟨none, .st 1 (.t 8) (.t 52), none⟩,
    ⟨some 9, .mv (.t 53), none⟩,
    ⟨some 10, .mv (.c (.int .i64 0)), none⟩] [] [8, 9, 10])
  .ret)))))), [(8, some (some 1)), (9, none), (10, none)]⟩
theorem spec_l10Both_ok : okFn Tryz.prog 43 spec_l10Both = true := by kernel_rfl
def spec_l4Kind : IFn := ⟨24, (.seq (.reg false [⟨some 4, .mv (.c (.int .i64 0)), none⟩,
    ⟨some 5, .mv (.c (.int .i64 0)), none⟩,
    ⟨some 6, .mv (.c (.int .u8 0)), none⟩] [] [0, 1])
  (.seq (.seq (.reg false [⟨some 7, .mv (.t 0), none⟩,
    ⟨some 8, .mv (.t 1), none⟩,
    ⟨some 9, .idxs (.t 7) (.t 8), none⟩] [] [9])
  (.block 0 (.seq (.reg false [⟨some 11, .bin .eql (.t 9) (.c (.int .u8 40)), none⟩,
    ⟨some 10, .mv (.t 11), none⟩] [] [9, 10])
  (.cond (.t 10)
  (.seq (.reg false [⟨some 4, .mv (.c (.int .i64 2)), none⟩,
    ⟨some 5, .mv (.c (.int .i64 1)), none⟩,
    ⟨some 6, .mv (.c (.int .u8 41)), none⟩] [] [4, 5, 6])
  .ret)
  (.seq (.reg false [⟨some 13, .bin .eql (.t 9) (.c (.int .u8 123)), none⟩,
    ⟨some 12, .mv (.t 13), none⟩] [] [9, 12])
  (.cond (.t 12)
  (.seq (.reg false [⟨some 4, .mv (.c (.int .i64 3)), none⟩,
    ⟨some 5, .mv (.c (.int .i64 1)), none⟩,
    ⟨some 6, .mv (.c (.int .u8 125)), none⟩] [] [4, 5, 6])
  .ret)
  (.seq (.reg false [⟨some 15, .bin .eql (.t 9) (.c (.int .u8 91)), none⟩,
    ⟨some 14, .mv (.t 15), none⟩] [] [9, 14])
  (.cond (.t 14)
  (.seq (.reg false [⟨some 4, .mv (.c (.int .i64 4)), none⟩,
    ⟨some 5, .mv (.c (.int .i64 1)), none⟩,
    ⟨some 6, .mv (.c (.int .u8 93)), none⟩] [] [4, 5, 6])
  .ret)
  (.seq (.reg false [⟨some 17, .bin .eql (.t 9) (.c (.int .u8 35)), none⟩,
    ⟨some 16, .mv (.t 17), none⟩] [] [9, 16])
  (.cond (.t 16)
  (.seq (.reg false [⟨some 4, .mv (.c (.int .i64 5)), none⟩,
    ⟨some 5, .mv (.c (.int .i64 1)), none⟩,
    ⟨some 6, .mv (.c (.int .u8 0)), none⟩] [] [4, 5, 6])
  .ret)
  (.seq (.reg false [⟨some 19, .bin .eql (.t 9) (.c (.int .u8 94)), none⟩,
    ⟨some 18, .mv (.t 19), none⟩] [] [9, 18])
  (.cond (.t 18)
  (.seq (.reg false [⟨some 4, .mv (.c (.int .i64 7)), none⟩,
    ⟨some 5, .mv (.c (.int .i64 1)), none⟩,
    ⟨some 6, .mv (.c (.int .u8 0)), none⟩] [] [4, 5, 6])
  .ret)
  (.seq (.reg false [⟨some 21, .bin .eql (.t 9) (.c (.int .u8 107)), none⟩,
    ⟨some 20, .mv (.t 21), none⟩] [] [9, 20])
  (.cond (.t 20)
  (.seq (.reg false [⟨some 4, .mv (.c (.int .i64 6)), none⟩,
    ⟨some 5, .mv (.c (.int .i64 2)), none⟩,
    ⟨some 6, .mv (.c (.int .u8 41)), none⟩] [] [4, 5, 6])
  .ret)
  (.seq (.reg false [⟨some 23, .bin .eql (.t 9) (.c (.int .u8 42)), none⟩,
    ⟨some 22, .mv (.t 23), none⟩] [] [22])
  (.cond (.t 22)
  (.seq (.reg false [⟨some 4, .mv (.c (.int .i64 8)), none⟩,
    ⟨some 5, .mv (.c (.int .i64 2)), none⟩,
    ⟨some 6, .mv (.c (.int .u8 41)), none⟩] [] [4, 5, 6])
  .ret)
  .skip))))))))))))))))
  (.seq (.reg false [⟨some 4, .mv (.c (.int .i64 0)), none⟩,
    ⟨some 5, .mv (.c (.int .i64 0)), none⟩,
    ⟨some 6, .mv (.c (.int .u8 0)), none⟩] [] [4, 5, 6])
  .ret))), [(4, none), (5, none), (6, none)]⟩
theorem spec_l4Kind_ok : okFn Tryz.prog 44 spec_l4Kind = true := by kernel_rfl
def spec_l1Add : IFn := ⟨57, (.seq (.reg false [⟨some 2, .box (.t 0), none⟩,
    ⟨some 3, .box (.t 1), none⟩,
    ⟨some 4, .new [.nil], none⟩,
    ⟨some 5, .mv (.c (.int .i64 0)), none⟩] [] [2, 3, 4])
  (.seq (.seq (.reg false [⟨some 8, .fad 0 (.t 3), none⟩,
    ⟨some 9, .ld none (.t 8), none⟩,
    ⟨some 10, .bin .eql (.t 9) (.c (.int .i64 8)), none⟩,
    ⟨some 11, .mv (.t 10), none⟩,
    ⟨some 12, .fad 1 (.t 3), some (11, true)⟩,
    ⟨some 13, .ld none (.t 12), some (11, true)⟩,
    ⟨some 14, .fad 2 (.t 3), some (11, true)⟩,
    ⟨some 15, .ld none (.t 14), some (11, true)⟩,
    ⟨some 16, .bin .gtr (.t 13) (.t 15), some (11, true)⟩,
    ⟨some 17, .pick (.t 11) (.t 16) (.c (.bool false)), none⟩] [] [2, 3, 4, 17])
  (.cond (.t 17)
  (.reg false [⟨some 18, .fad 0 (.t 3), none⟩,
    ⟨some 19, .ld none (.t 18), none⟩,
    ⟨some 20, .fad 2 (.t 3), none⟩,
    ⟨some 21, .ld none (.t 20), none⟩,
    ⟨some 22, .fad 1 (.t 3), none⟩,
    ⟨some 23, .ld none (.t 22), none⟩,
    ⟨some 24, .build [.int .i64 0, .int .i64 0, .int .i64 0] [(0, 1, .t 19), (1, 1, .t 21), (2, 1, .t 23)], none⟩,
    ⟨none, .st 3 (.t 3) (.t 24), none⟩] [] [2, 3, 4])
  .skip))
  (.seq (.reg false [⟨some 25, .ld (some 1) (.t 2), none⟩,
    ⟨some 26, .ld (some 3) (.t 3), none⟩,
    ⟨some 27, .call 35 [.t 25, .t 26], none⟩,
    ⟨some 6, .mv (.t 27), none⟩] [] [2, 3, 4, 6])
  (.seq (.seq (.reg false [⟨some 28, .mv (.t 6), none⟩,
    ⟨some 29, .bin .geq (.t 28) (.c (.int .i64 0)), none⟩] [] [2, 3, 4, 6, 29])
  (.cond (.t 29)
  (.seq (.reg false [⟨some 30, .ld (some 1) (.t 2), none⟩,
    ⟨some 31, .mv (.t 6), none⟩,
    ⟨none, .st 1 (.t 4) (.t 30), none⟩,
    ⟨some 5, .mv (.t 31), none⟩] [] [4, 5])
  .ret)
  .skip))
  (.seq (.seq (.reg false [⟨some 32, .ld (some 3) (.t 3), none⟩,
    ⟨some 33, .fad 0 (.t 2), none⟩,
    ⟨some 34, .ld none (.t 33), none⟩,
    ⟨some 35, .len false (.t 34), none⟩,
    ⟨some 36, .call 34 [.t 32, .t 35], none⟩,
    ⟨some 37, .not (.t 36), none⟩,
    ⟨some 38, .mv (.t 37), none⟩,
    ⟨some 39, .fad 0 (.t 2), some (38, false)⟩,
    ⟨some 40, .ld none (.t 39), some (38, false)⟩,
    ⟨some 41, .len false (.t 40), some (38, false)⟩,
    ⟨some 42, .bin .eql (.t 41) (.c (.int .i64 500)), some (38, false)⟩,
    ⟨some 43, .pick (.t 38) (.c (.bool true)) (.t 42), none⟩] [] [2, 3, 4, 43])
  (.cond (.t 43)
  (.seq (.reg false [⟨some 44, .ld (some 1) (.t 2), none⟩,
    ⟨none, .st 1 (.t 4) (.t 44), none⟩,
    ⟨some 5, .mv (.c (.int .i64 (-1))), none⟩] [] [4, 5])
  .ret)
  .skip))
  (.seq (.reg false [⟨some 45, .ld (some 1) (.t 2), none⟩,
    ⟨some 46, .call 16 [.t 45], none⟩,
    ⟨some 7, .new [.nil], none⟩,
    ⟨none, .st 1 (.t 7) (.t 46), none⟩] [] [2, 3, 4, 7])
  (.seq (.reg false [⟨some 47, .fad 0 (.t 7), none⟩,
    ⟨some 48, .ld none (.t 47), none⟩,
    ⟨some 49, .ld (some 3) (.t 3), none⟩,
    ⟨some 50, .bsl 3 1 [.int .i64 0, .int .i64 0, .int .i64 0] [(0, 3, .t 49)], none⟩,
    ⟨some 51, .app 3 24 (.t 48) (.t 50), none⟩,
    ⟨some 52, .fad 0 (.t 7), none⟩,
    ⟨none, .st 1 (.t 52) (.t 51), none⟩] [] [2, 4, 7])
  (.seq (.reg true [⟨some 53, .ld (some 1) (.t 7), none⟩,
    ⟨some 54, .fad 0 (.t 2), none⟩,
    ⟨some 55, .ld none (.t 54), none⟩,
    ⟨some 56, .len false (.t 55), none⟩,
    ⟨none, .st 1 (.t 4) (.t 53), none⟩,
    ⟨some 5, .mv (.t 56), none⟩] [0, 0, 2, 6, 1, 31] [4, 5])
  .ret)))))))), [(4, some (some 1)), (5, none)]⟩
theorem spec_l1Add_ok : okFn Tryz.prog 45 spec_l1Add = true := by kernel_rfl
def laws_toNode : IFn := ⟨14, (.seq (.reg false [⟨some 1, .box (.t 0), none⟩,
    ⟨some 2, .new [.int .i64 0, .int .i64 0, .int .i64 0], none⟩] [] [1, 2])
  (.seq (.reg false [⟨some 3, .new [.int .i64 0, .int .i64 0, .int .i64 0], none⟩] [] [1, 2, 3])
  (.seq (.reg false [⟨some 4, .fad 0 (.t 1), none⟩,
    ⟨some 5, .ld none (.t 4), none⟩,
    ⟨some 6, .fad 0 (.t 3), none⟩,
    ⟨none, .st 1 (.t 6) (.t 5), none⟩] [] [1, 2, 3])
  (.seq (.reg false [⟨some 7, .fad 1 (.t 1), none⟩,
    ⟨some 8, .ld none (.t 7), none⟩,
    ⟨some 9, .fad 1 (.t 3), none⟩,
    ⟨none, .st 1 (.t 9) (.t 8), none⟩] [] [1, 2, 3])
  (.seq (.reg false [⟨some 10, .fad 2 (.t 1), none⟩,
    ⟨some 11, .ld none (.t 10), none⟩,
    ⟨some 12, .fad 2 (.t 3), none⟩,
    ⟨none, .st 1 (.t 12) (.t 11), none⟩] [] [2, 3])
  (.seq (.reg false [⟨some 13, .ld (some 3) (.t 3), none⟩,
    ⟨none, .st 3 (.t 2) (.t 13), none⟩] [] [2])
  .ret)))))), [(2, some (some 3))]⟩
theorem laws_toNode_ok : okFn Tryz.prog 46 laws_toNode = true := by kernel_rfl
def impl_PoolOk : IFn := ⟨36, (.seq (.reg false [⟨some 1, .box (.t 0), none⟩,
    ⟨some 2, .mv (.c (.bool false)), none⟩] [] [1])
  (.seq (.seq (.reg false [⟨some 6, .fad 0 (.t 1), none⟩,
    ⟨some 7, .ld none (.t 6), none⟩,
    ⟨some 8, .len false (.t 7), none⟩,
    ⟨some 9, .bin .gtr (.t 8) (.c (.int .i64 500)), none⟩] [] [1, 9])
  (.cond (.t 9)
  (.seq (.reg false [⟨some 2, .mv (.c (.bool false)), none⟩] [] [2])
  .ret)
  .skip))
  (.seq (.reg false [⟨some 10, .mkm true, none⟩,
    ⟨some 3, .mv (.t 10), none⟩] [] [1, 3])
  (.seq (.seq (.reg false [⟨some 11, .fad 0 (.t 1), none⟩,
    ⟨some 12, .ld none (.t 11), none⟩,
    ⟨some 13, .len false (.t 12), none⟩,
    ⟨some 14, .mv (.c (.int .i64 0)), none⟩] [] [3, 12, 13, 14])
  (.block 0 (.loop (.seq (.reg false [⟨some 15, .bin .lss (.t 14) (.t 13), none⟩] [] [3, 12, 13, 14, 15])
  (.seq (.cond (.t 15)
  .skip
  (.exit 0))
  (.seq (.block 1 (.seq (.reg false [⟨some 16, .mv (.t 14), none⟩,
    ⟨some 17, .iad 3 (.t 12) (.t 14), none⟩,
    ⟨some 18, .ld (some 3) (.t 17), none⟩,
    ⟨some 5, .new [.int .i64 0, .int .i64 0, .int .i64 0], none⟩,
    ⟨some 4, .mv (.t 16), none⟩,
    ⟨none, .st 3 (.t 5) (.t 18), none⟩] [] [3, 4, 5, 12, 13, 14])
  (.seq (.reg true [⟨some 19, .mv (.t 3), none⟩,
    ⟨some 20, .ld (some 3) (.t 5), none⟩,
    ⟨some 21, .mlk true (.t 19) (.t 20), none⟩,
    ⟨some 22, .bin .add (.t 21) (.c (.int .i64 1)), none⟩,
    ⟨some 23, .men true (.t 19) (.t 20), none⟩,
    ⟨some 24, .ext (.t 23) 1, none⟩,
    ⟨none, .mst true (.t 19) (.t 24) (.t 22), none⟩] [0, 0, 3, 7, 3, 19, 63] [3, 4, 5, 12, 13, 14])
  (.seq (.reg false [⟨some 25, .mv (.t 3), none⟩,
    ⟨some 26, .ld (some 3) (.t 5), none⟩,
    ⟨some 27, .mlk true (.t 25) (.t 26), none⟩,
    ⟨some 28, .bin .gtr (.t 27) (.c (.int .i64 1)), none⟩,
    ⟨some 29, .mv (.t 28), none⟩,
    ⟨some 30, .ld (some 3) (.t 5), some (29, false)⟩,
    ⟨some 31, .mv (.t 4), some (29, false)⟩,
    ⟨some 32, .call 67 [.t 30, .t 31], some (29, false)⟩,
    ⟨some 33, .not (.t 32), some (29, false)⟩,
    ⟨some 34, .pick (.t 29) (.c (.bool true)) (.t 33), none⟩] [] [3, 12, 13, 14, 34])
  (.cond (.t 34)
  (.seq (.reg false [⟨some 2, .mv (.c (.bool false)), none⟩] [] [2])
  .ret)
  .skip)))))
  (.reg false [⟨some 35, .bin .add (.t 14) (.c (.int .i64 1)), none⟩,
    ⟨some 14, .mv (.t 35), none⟩] [] [3, 12, 13, 14])))))))
  (.seq (.reg false [⟨some 2, .mv (.c (.bool true)), none⟩] [] [2])
  .ret))))), [(2, none)]⟩
theorem impl_PoolOk_ok : okFn Tryz.prog 47 impl_PoolOk = true := by kernel_rfl
def impl_Pool_isTerm : IFn := ⟨13, (.seq (.reg false [⟨some 4, .mv (.c (.bool false)), none⟩] [] [0, 1])
  (.seq (.reg false [⟨some 5, .mv (.t 1), none⟩,
    ⟨some 6, .mv (.t 0), none⟩,
    ⟨some 7, .nck (.t 6), none⟩,
    ⟨some 8, .fad 0 (.t 7), none⟩,
    ⟨some 9, .ld none (.t 8), none⟩,
    ⟨some 10, .len false (.t 9), none⟩,
    ⟨some 11, .bin .sub (.t 10) (.c (.int .i64 1)), none⟩,
    ⟨some 12, .call 51 [.t 5, .c (.int .i64 0), .t 11], none⟩,
    ⟨some 4, .mv (.t 12), none⟩] [] [4])
  .ret)), [(4, none)]⟩
theorem impl_Pool_isTerm_ok : okFn Tryz.prog 48 impl_Pool_isTerm = true := by kernel_rfl
def slices_Clone_Node : IFn := ⟨8, (.seq (.reg false [⟨some 2, .mv (.c (.nil)), none⟩] [] [0])
  (.seq (.seq (.reg false [⟨some 3, .mv (.t 0), none⟩,
    ⟨some 4, .isn false (.t 3), none⟩] [] [0, 4])
  (.cond (.t 4)
  (.seq (.reg false [⟨some 2, .mv (.c (.nil)), none⟩] [] [2])
  .ret)
  .skip))
  (.seq (.reg false [⟨some 5, .bsl 3 0 [.int .i64 0, .int .i64 0, .int .i64 0] [], none⟩,
    ⟨some 6, .mv (.t 0), none⟩,
    ⟨some 7, .app 3 24 (.t 5) (.t 6), none⟩,
    ⟨some 2, .mv (.t 7), none⟩] [] [2])
  .ret))), [(2, none)]⟩
theorem slices_Clone_Node_ok : okFn Tryz.prog 49 slices_Clone_Node = true := by kernel_rfl
def impl_reader_figures : IFn := ⟨53, (.seq (.reg false [⟨some 4, .mv (.c (.int .i64 0)), none⟩] [] [0, 1])
  (.seq (.reg false [⟨some 9, .mv (.t 0), none⟩,
    ⟨some 10, .nck (.t 9), none⟩,
    ⟨some 11, .fad 1 (.t 10), none⟩,
    ⟨some 12, .ld none (.t 11), none⟩,
    ⟨some 5, .mv (.t 12), none⟩] [] [0, 1, 5])
  (.seq (.block 0 (.loop (.seq (.seq (.reg false [⟨some 13, .mv (.t 0), none⟩,
    ⟨some 14, .call 69 [.t 13], none⟩,
    ⟨some 15, .call 68 [.t 14], none⟩] [] [0, 1, 5, 15])
  (.cond (.t 15)
  .skip
  (.exit 0)))
  (.block 1 (.reg false [⟨some 16, .mv (.t 0), none⟩,
    ⟨some 17, .nck (.t 16), none⟩,
    ⟨some 18, .fad 1 (.t 17), none⟩,
    ⟨some 19, .ld none (.t 18), none⟩,
    ⟨some 20, .bin .add (.t 19) (.c (.int .i64 1)), none⟩,
    ⟨some 21, .nck (.t 16), none⟩,
    ⟨some 22, .fad 1 (.t 21), none⟩,
    ⟨none, .st 1 (.t 22) (.t 20), none⟩] [] [0, 1, 5])))))
  (.seq (.reg true [⟨some 23, .mv (.t 0), none⟩,
    ⟨some 24, .nck (.t 23), none⟩,
    ⟨some 25, .fad 0 (.t 24), none⟩,
    ⟨some 26, .ld none (.t 25), none⟩,
    ⟨some 27, .mv (.t 5), none⟩,
    ⟨some 28, .mv (.t 0), none⟩,
    ⟨some 29, .nck (.t 28), none⟩,
    ⟨some 30, .fad 1 (.t 29), none⟩,
    ⟨some 31, .ld none (.t 30), none⟩,
    ⟨some 32, .sls (.t 26) (some (.t 27)) (some (.t 31)), none⟩,
    ⟨some 6, .mv (.t 32), none⟩] [0, 1, 3, 7, 0, 0, 32, 96, 224, 511, 1023] [1, 6])
  (.seq (.reg false [⟨some 34, .mv (.t 6), none⟩,
    ⟨some 35, .call 70 [.t 34], none⟩,
    ⟨some 33, .mv (.t 35), none⟩,
    ⟨some 36, .ext (.t 33) 0, none⟩,
    ⟨some 37, .ext (.t 33) 1, none⟩,
    ⟨some 7, .mv (.t 36), none⟩,
    ⟨some 8, .mv (.t 37), none⟩] [] [1, 6, 7, 8])
  (.seq (.seq (.reg false [⟨some 38, .mv (.t 8), none⟩,
    ⟨some 39, .ise true (.t 38), none⟩,
    ⟨some 40, .mv (.t 39), none⟩,
    ⟨some 41, .mv (.t 6), some (40, false)⟩,
    ⟨some 42, .len true (.t 41), some (40, false)⟩,
    ⟨some 43, .mv (.t 1), some (40, false)⟩,
    ⟨some 44, .bin .gtr (.t 42) (.t 43), some (40, false)⟩,
    ⟨some 45, .pick (.t 40) (.c (.bool true)) (.t 44), none⟩,
    ⟨some 46, .mv (.t 45), none⟩,
    ⟨some 47, .mv (.t 7), some (46, false)⟩,
    ⟨some 48, .call 71 [.t 47], some (46, false)⟩,
    ⟨some 49, .mv (.t 6), some (46, false)⟩,
    ⟨some 50, .bin .neq (.t 48) (.t 49), some (46, false)⟩,
    ⟨some 51, .pick (.t 46) (.c (.bool true)) (.t 50), none⟩] [] [7, 51])
  (.cond (.t 51)
  (.seq (.reg false [⟨some 4, .mv (.c (.int .i64 (-1))), none⟩] [] [4])
  .ret)
  .skip))
  (.seq (.reg false [⟨some 52, .mv (.t 7), none⟩,
    ⟨some 4, .mv (.t 52), none⟩] [] [4])
  .ret))))))), [(4, none)]⟩
theorem impl_reader_figures_ok : okFn Tryz.prog 50 impl_reader_figures = true := by kernel_rfl
def impl_inRange : IFn := ⟨15, (.seq (.reg false [⟨some 6, .mv (.c (.bool false)), none⟩] [] [0, 1, 2])
  (.seq (.reg false [⟨some 7, .mv (.t 0), none⟩,
    ⟨some 8, .mv (.t 1), none⟩,
    ⟨some 9, .bin .geq (.t 7) (.t 8), none⟩,
    ⟨some 10, .mv (.t 9), none⟩,
    ⟨some 11, .mv (.t 0), some (10, true)⟩,
    ⟨some 12, .mv (.t 2), some (10, true)⟩,
    ⟨some 13, .bin .leq (.t 11) (.t 12), some (10, true)⟩,
    ⟨some 14, .pick (.t 10) (.t 13) (.c (.bool false)), none⟩,
    ⟨some 6, .mv (.t 14), none⟩] [] [6])
  .ret)), [(6, none)]⟩
theorem impl_inRange_ok : okFn Tryz.prog 51 impl_inRange = true := by kernel_rfl
def impl_reader_fail : IFn := ⟨20, (.seq (.reg false [⟨some 6, .mv (.c (.int .i64 0)), none⟩] [] [0, 1, 2])
  (.seq (.seq (.reg false [⟨some 7, .mv (.t 0), none⟩,
    ⟨some 8, .nck (.t 7), none⟩,
    ⟨some 9, .fad 2 (.t 8), none⟩,
    ⟨some 10, .ld none (.t 9), none⟩,
    ⟨some 11, .bin .eql (.t 10) (.c (.int .i64 0)), none⟩] [] [0, 1, 2, 11])
  (.cond (.t 11)
  (.reg false [⟨some 12, .mv (.t 0), none⟩,
    ⟨some 13, .mv (.t 0), none⟩,
    ⟨some 14, .mv (.t 1), none⟩,
    ⟨some 15, .mv (.t 2), none⟩,
    ⟨some 16, .nck (.t 12), none⟩,
    ⟨some 17, .fad 2 (.t 16), none⟩,
    ⟨none, .st 1 (.t 17) (.t 14), none⟩,
    ⟨some 18, .nck (.t 13), none⟩,
    ⟨some 19, .fad 1 (.t 18), none⟩,
    ⟨none, .st 1 (.t 19) (.t 15), none⟩] [] [])
  .skip))
  (.seq (.reg false [⟨some 6, .mv (.c (.int .i64 (-1))), none⟩] [] [6])
  .ret))), [(6, none)]⟩
theorem impl_reader_fail_ok : okFn Tryz.prog 52 impl_reader_fail = true := by kernel_rfl
def impl_reader_number : IFn := ⟨15, (.seq (.reg false [⟨some 4, .mv (.c (.int .i64 0)), none⟩] [] [0, 1])
  (.seq (.reg false [⟨some 6, .mv (.t 0), none⟩,
    ⟨some 7, .call 50 [.t 6, .c (.int .i64 9)], none⟩,
    ⟨some 5, .mv (.t 7), none⟩] [] [0, 1, 5])
  (.seq (.seq (.reg false [⟨some 8, .mv (.t 5), none⟩,
    ⟨some 9, .call 51 [.t 8, .c (.int .i64 0), .c (.int .i64 199)], none⟩,
    ⟨some 10, .not (.t 9), none⟩] [] [0, 1, 5, 10])
  (.cond (.t 10)
  (.seq (.reg false [⟨some 11, .mv (.t 0), none⟩,
    ⟨some 12, .mv (.t 1), none⟩,
    ⟨some 13, .call 52 [.t 11, .c (.int .i64 4), .t 12], none⟩,
    ⟨some 4, .mv (.t 13), none⟩] [] [4])
  .ret)
  .skip))
  (.seq (.reg false [⟨some 14, .mv (.t 5), none⟩,
    ⟨some 4, .mv (.t 14), none⟩] [] [4])
  .ret)))), [(4, none)]⟩
theorem impl_reader_number_ok : okFn Tryz.prog 53 impl_reader_number = true := by kernel_rfl
def impl_IsPublic : IFn := ⟨5, (.seq (.reg false [⟨some 2, .mv (.c (.bool false)), none⟩] [] [0])
  (.seq (.reg false [⟨some 3, .mv (.t 0), none⟩,
    ⟨some 4, .call 51 [.t 3, .c (.int .i64 0), .c (.int .i64 49)], none⟩,
    ⟨some 2, .mv (.t 4), none⟩] [] [2])
  .ret)), [(2, none)]⟩
theorem impl_IsPublic_ok : okFn Tryz.prog 54 impl_IsPublic = true := by kernel_rfl
def impl_reader_orFull : IFn := ⟨14, (.seq (.reg false [⟨some 4, .mv (.c (.int .i64 0)), none⟩] [] [0, 1])
  (.seq (.seq (.reg false [⟨some 5, .mv (.t 1), none⟩,
    ⟨some 6, .bin .lss (.t 5) (.c (.int .i64 0)), none⟩] [] [0, 1, 6])
  (.cond (.t 6)
  (.seq (.reg false [⟨some 7, .mv (.t 0), none⟩,
    ⟨some 8, .mv (.t 0), none⟩,
    ⟨some 9, .nck (.t 8), none⟩,
    ⟨some 10, .fad 1 (.t 9), none⟩,
    ⟨some 11, .ld none (.t 10), none⟩,
    ⟨some 12, .call 52 [.t 7, .c (.int .i64 5), .t 11], none⟩,
    ⟨some 4, .mv (.t 12), none⟩] [] [4])
  .ret)
  .skip))
  (.seq (.reg false [⟨some 13, .mv (.t 1), none⟩,
    ⟨some 4, .mv (.t 13), none⟩] [] [4])
  .ret))), [(4, none)]⟩
theorem impl_reader_orFull_ok : okFn Tryz.prog 55 impl_reader_orFull = true := by kernel_rfl
def impl_Pool_name : IFn := ⟨8, (.seq (.reg false [⟨some 4, .mv (.c (.int .i64 0)), none⟩] [] [0, 1])
  (.seq (.reg false [⟨some 5, .mv (.t 0), none⟩,
    ⟨some 6, .mv (.t 1), none⟩,
    ⟨some 7, .call 58 [.t 5, .c (.int .i64 1), .t 6, .c (.int .i64 0)], none⟩,
    ⟨some 4, .mv (.t 7), none⟩] [] [4])
  .ret)), [(4, none)]⟩
theorem impl_Pool_name_ok : okFn Tryz.prog 56 impl_Pool_name = true := by kernel_rfl
def impl_Pool_raise : IFn := ⟨39, (.seq (.reg false [⟨some 6, .mv (.c (.int .i64 0)), none⟩] [] [0, 1, 2])
  (.seq (.seq (.reg false [⟨some 7, .mv (.t 0), none⟩,
    ⟨some 8, .mv (.t 1), none⟩,
    ⟨some 9, .call 48 [.t 7, .t 8], none⟩,
    ⟨some 10, .not (.t 9), none⟩,
    ⟨some 11, .mv (.t 10), none⟩,
    ⟨some 12, .mv (.t 0), some (11, false)⟩,
    ⟨some 13, .mv (.t 2), some (11, false)⟩,
    ⟨some 14, .call 48 [.t 12, .t 13], some (11, false)⟩,
    ⟨some 15, .not (.t 14), some (11, false)⟩,
    ⟨some 16, .pick (.t 11) (.c (.bool true)) (.t 15), none⟩,
    ⟨some 17, .mv (.t 16), none⟩,
    ⟨some 18, .mv (.t 0), some (17, false)⟩,
    ⟨some 19, .nck (.t 18), some (17, false)⟩,
    ⟨some 20, .fad 0 (.t 19), some (17, false)⟩,
    ⟨some 21, .ld none (.t 20), some (17, false)⟩,
    ⟨some 22, .mv (.t 1), some (17, false)⟩,
    ⟨some 23, .iad 3 (.t 21) (.t 22), some (17, false)⟩,
    ⟨some 24, .fad 0 (.t 23), some (17, false)⟩,
    ⟨some 25, .ld none (.t 24), some (17, false)⟩,
    ⟨some 26, .bin .neq (.t 25) (.c (.int .i64 7)), some (17, false)⟩,
    ⟨some 27, .pick (.t 17) (.c (.bool true)) (.t 26), none⟩] [] [0, 1, 2, 27])
  (.cond (.t 27)
  (.seq (.reg false [⟨some 6, .mv (.c (.int .i64 (-1))), none⟩] [] [6])
  .ret)
  .skip))
  (.seq (.reg false [⟨some 28, .mv (.t 0), none⟩,
    ⟨some 29, .mv (.t 2), none⟩,
    ⟨some 30, .mv (.t 0), none⟩,
    ⟨some 31, .nck (.t 30), none⟩,
    ⟨some 32, .fad 0 (.t 31), none⟩,
    ⟨some 33, .ld none (.t 32), none⟩,
    ⟨some 34, .mv (.t 1), none⟩,
    ⟨some 35, .iad 3 (.t 33) (.t 34), none⟩,
    ⟨some 36, .fad 1 (.t 35), none⟩,
    ⟨some 37, .ld none (.t 36), none⟩,
    ⟨some 38, .call 58 [.t 28, .c (.int .i64 8), .t 29, .t 37], none⟩,
    ⟨some 6, .mv (.t 38), none⟩] [] [6])
  .ret))), [(6, none)]⟩
theorem impl_Pool_raise_ok : okFn Tryz.prog 57 impl_Pool_raise = true := by kernel_rfl
def impl_Pool_add : IFn := ⟨61, (.seq (.reg false [⟨some 8, .mv (.c (.int .i64 0)), none⟩] [] [0, 1, 2, 3])
  (.seq (.reg false [⟨some 11, .mv (.t 1), none⟩,
    ⟨some 12, .mv (.t 2), none⟩,
    ⟨some 13, .mv (.t 3), none⟩,
    ⟨some 14, .build [.int .i64 0, .int .i64 0, .int .i64 0] [(0, 1, .t 11), (1, 1, .t 12), (2, 1, .t 13)], none⟩,
    ⟨some 9, .new [.int .i64 0, .int .i64 0, .int .i64 0], none⟩,
    ⟨none, .st 3 (.t 9) (.t 14), none⟩] [] [0, 1, 2, 3, 9])
  (.seq (.seq (.reg false [⟨some 15, .mv (.t 1), none⟩,
    ⟨some 16, .bin .eql (.t 15) (.c (.int .i64 8)), none⟩] [] [0, 2, 3, 9, 16])
  (.cond (.t 16)
  (.reg false [⟨some 17, .mv (.t 2), none⟩,
    ⟨some 18, .mv (.t 3), none⟩,
    ⟨some 19, .mm false (.t 17) [.t 18], none⟩,
    ⟨some 20, .mv (.t 2), none⟩,
    ⟨some 21, .mv (.t 3), none⟩,
    ⟨some 22, .mm true (.t 20) [.t 21], none⟩,
    ⟨some 23, .fad 1 (.t 9), none⟩,
    ⟨none, .st 1 (.t 23) (.t 19), none⟩,
    ⟨some 24, .fad 2 (.t 9), none⟩,
    ⟨none, .st 1 (.t 24) (.t 22), none⟩] [] [0, 9])
  .skip))
  (.seq (.seq (.reg true [⟨some 25, .ld (some 3) (.t 9), none⟩,
    ⟨some 26, .mv (.t 0), none⟩,
    ⟨some 27, .nck (.t 26), none⟩,
    ⟨some 28, .fad 0 (.t 27), none⟩,
    ⟨some 29, .ld none (.t 28), none⟩,
    ⟨some 30, .len false (.t 29), none⟩,
    ⟨some 31, .call 67 [.t 25, .t 30], none⟩,
    ⟨some 32, .not (.t 31), none⟩] [0, 0, 2, 6, 14, 30, 63, 127] [0, 9, 32])
  (.cond (.t 32)
  (.seq (.reg false [⟨some 8, .mv (.c (.int .i64 (-1))), none⟩] [] [8])
  .ret)
  .skip))
  (.seq (.seq (.reg false [⟨some 33, .mv (.t 0), none⟩,
    ⟨some 34, .ld (some 3) (.t 9), none⟩,
    ⟨some 35, .call 72 [.t 33, .t 34], none⟩,
    ⟨some 10, .mv (.t 35), none⟩] [] [0, 9, 10])
  (.seq (.reg false [⟨some 36, .mv (.t 10), none⟩,
    ⟨some 37, .bin .geq (.t 36) (.c (.int .i64 0)), none⟩] [] [0, 9, 10, 37])
  (.cond (.t 37)
  (.seq (.reg false [⟨some 38, .mv (.t 10), none⟩,
    ⟨some 8, .mv (.t 38), none⟩] [] [8])
  .ret)
  .skip)))
  (.seq (.seq (.reg false [⟨some 39, .mv (.t 0), none⟩,
    ⟨some 40, .nck (.t 39), none⟩,
    ⟨some 41, .fad 0 (.t 40), none⟩,
    ⟨some 42, .ld none (.t 41), none⟩,
    ⟨some 43, .len false (.t 42), none⟩,
    ⟨some 44, .bin .geq (.t 43) (.c (.int .i64 500)), none⟩] [] [0, 9, 44])
  (.cond (.t 44)
  (.seq (.reg false [⟨some 8, .mv (.c (.int .i64 (-1))), none⟩] [] [8])
  .ret)
  .skip))
  (.seq (.reg true [⟨some 45, .mv (.t 0), none⟩,
    ⟨some 46, .mv (.t 0), none⟩,
    ⟨some 47, .nck (.t 46), none⟩,
    ⟨some 48, .fad 0 (.t 47), none⟩,
    ⟨some 49, .ld none (.t 48), none⟩,
    ⟨some 50, .ld (some 3) (.t 9), none⟩,
    ⟨some 51, .bsl 3 1 [.int .i64 0, .int .i64 0, .int .i64 0] [(0, 3, .t 50)], none⟩,
    ⟨some 52, .app 3 24 (.t 49) (.t 51), none⟩,
    ⟨some 53, .nck (.t 45), none⟩,
    ⟨some 54, .fad 0 (.t 53), none⟩,
    ⟨none, .st 1 (.t 54) (.t 52), none⟩] [0, 0, 2, 6, 14, 0, 32, 126, 255, 511, 1023] [0])
  (.seq (.reg false [⟨some 55, .mv (.t 0), none⟩,
    ⟨some 56, .nck (.t 55), none⟩,
    ⟨some 57, .fad 0 (.t 56), none⟩,
    ⟨some 58, .ld none (.t 57), none⟩,
    ⟨some 59, .len false (.t 58), none⟩,
    ⟨some 60, .bin .sub (.t 59) (.c (.int .i64 1)), none⟩,
    ⟨some 8, .mv (.t 60), none⟩] [] [8])
  .ret)))))))), [(8, none)]⟩
theorem impl_Pool_add_ok : okFn Tryz.prog 58 impl_Pool_add = true := by kernel_rfl
def impl_kindOf : IFn := ⟨16, (.seq (.reg false [⟨some 2, .mv (.c (.int .i64 0)), none⟩] [] [0])
  (.seq (.seq (.reg false [⟨some 3, .mv (.t 0), none⟩] [] [3])
  (.block 0 (.seq (.reg false [⟨some 5, .bin .eql (.t 3) (.c (.int .u8 40)), none⟩,
    ⟨some 4, .mv (.t 5), none⟩] [] [3, 4])
  (.cond (.t 4)
  (.seq (.reg false [⟨some 2, .mv (.c (.int .i64 2)), none⟩] [] [2])
  .ret)
  (.seq (.reg false [⟨some 7, .bin .eql (.t 3) (.c (.int .u8 123)), none⟩,
    ⟨some 6, .mv (.t 7), none⟩] [] [3, 6])
  (.cond (.t 6)
  (.seq (.reg false [⟨some 2, .mv (.c (.int .i64 3)), none⟩] [] [2])
  .ret)
  (.seq (.reg false [⟨some 9, .bin .eql (.t 3) (.c (.int .u8 91)), none⟩,
    ⟨some 8, .mv (.t 9), none⟩] [] [3, 8])
  (.cond (.t 8)
  (.seq (.reg false [⟨some 2, .mv (.c (.int .i64 4)), none⟩] [] [2])
  .ret)
  (.seq (.reg false [⟨some 11, .bin .eql (.t 3) (.c (.int .u8 35)), none⟩,
    ⟨some 10, .mv (.t 11), none⟩] [] [3, 10])
  (.cond (.t 10)
  (.seq (.reg false [⟨some 2, .mv (.c (.int .i64 5)), none⟩] [] [2])
  .ret)
  (.seq (.reg false [⟨some 13, .bin .eql (.t 3) (.c (.int .u8 107)), none⟩,
    ⟨some 12, .mv (.t 13), none⟩] [] [3, 12])
  (.cond (.t 12)
  (.seq (.reg false [⟨some 2, .mv (.c (.int .i64 6)), none⟩] [] [2])
  .ret)
  (.seq (.reg false [⟨some 15, .bin .eql (.t 3) (.c (.int .u8 94)), none⟩,
    ⟨some 14, .mv (.t 15), none⟩] [] [14])
  (.cond (.t 14)
  (.seq (.reg false [⟨some 2, .mv (.c (.int .i64 7)), none⟩] [] [2])
  .ret)
  .skip))))))))))))))
  (.seq (.reg false [⟨some 2, .mv (.c (.int .i64 8)), none⟩] [] [2])
  .ret))), [(2, none)]⟩
theorem impl_kindOf_ok : okFn Tryz.prog 59 impl_kindOf = true := by kernel_rfl
def impl_reader_read : IFn := ⟨135, (.seq (.reg false [⟨some 2, .mv (.c (.int .i64 0)), none⟩] [] [0])
  (.seq (.seq (.reg false [⟨some 5, .mv (.t 0), none⟩,
    ⟨some 6, .nck (.t 5), none⟩,
    ⟨some 7, .fad 2 (.t 6), none⟩,
    ⟨some 8, .ld none (.t 7), none⟩,
    ⟨some 9, .bin .neq (.t 8) (.c (.int .i64 0)), none⟩] [] [0, 9])
  (.cond (.t 9)
  (.seq (.reg false [⟨some 2, .mv (.c (.int .i64 (-1))), none⟩] [] [2])
  .ret)
  .skip))
  (.seq (.reg false [⟨some 10, .mv (.t 0), none⟩,
    ⟨some 11, .call 69 [.t 10], none⟩,
    ⟨some 3, .mv (.t 11), none⟩] [] [0, 3])
  (.seq (.seq (.reg true [⟨some 12, .mv (.t 0), none⟩,
    ⟨some 13, .nck (.t 12), none⟩,
    ⟨some 14, .fad 1 (.t 13), none⟩,
    ⟨some 15, .ld none (.t 14), none⟩,
    ⟨some 16, .mv (.t 0), none⟩,
    ⟨some 17, .nck (.t 16), none⟩,
    ⟨some 18, .fad 0 (.t 17), none⟩,
    ⟨some 19, .ld none (.t 18), none⟩,
    ⟨some 20, .len true (.t 19), none⟩,
    ⟨some 21, .bin .geq (.t 15) (.t 20), none⟩] [0, 1, 3, 7, 0, 16, 48, 112, 240, 511] [0, 3, 21])
  (.cond (.t 21)
  (.seq (.reg false [⟨some 22, .mv (.t 0), none⟩,
    ⟨some 23, .mv (.t 0), none⟩,
    ⟨some 24, .nck (.t 23), none⟩,
    ⟨some 25, .fad 0 (.t 24), none⟩,
    ⟨some 26, .ld none (.t 25), none⟩,
    ⟨some 27, .len true (.t 26), none⟩,
    ⟨some 28, .call 52 [.t 22, .c (.int .i64 2), .t 27], none⟩,
    ⟨some 2, .mv (.t 28), none⟩] [] [2])
  .ret)
  .skip))
  (.seq (.reg false [⟨some 4, .mv (.c (.nil)), none⟩] [] [0, 3])
  (.seq (.block 0 (.seq (.reg false [⟨some 36, .mv (.t 3), none⟩,
    ⟨some 37, .bin .eql (.t 36) (.c (.int .u8 110)), none⟩,
    ⟨some 38, .mv (.t 37), none⟩,
    ⟨some 39, .mv (.t 3), some (38, false)⟩,
    ⟨some 40, .call 27 [.t 39, .c (.str ⟨#[64, 36, 63]⟩)], some (38, false)⟩,
    ⟨some 41, .mv (.t 40), some (38, false)⟩,
    ⟨some 42, .mv (.t 3), some (41, true)⟩,
    ⟨some 43, .mv (.t 0), some (41, true)⟩,
    ⟨some 44, .nck (.t 43), some (41, true)⟩,
    ⟨some 45, .fad 3 (.t 44), some (41, true)⟩,
    ⟨some 46, .ld none (.t 45), some (41, true)⟩,
    ⟨some 47, .call 27 [.t 42, .t 46], some (41, true)⟩,
    ⟨some 48, .pick (.t 41) (.t 47) (.c (.bool false)), some (38, false)⟩,
    ⟨some 49, .pick (.t 38) (.c (.bool true)) (.t 48), none⟩,
    ⟨some 35, .mv (.t 49), none⟩] [] [0, 3, 35])
  (.cond (.t 35)
  (.seq (.reg false [⟨some 50, .mv (.t 0), none⟩,
    ⟨some 51, .nck (.t 50), none⟩,
    ⟨some 52, .fad 4 (.t 51), none⟩,
    ⟨some 53, .ld none (.t 52), none⟩,
    ⟨some 54, .mv (.t 0), none⟩,
    ⟨some 55, .mv (.t 3), none⟩,
    ⟨some 56, .cv (.t 53) [.t 54, .t 55], none⟩,
    ⟨some 2, .mv (.t 56), none⟩] [] [2])
  .ret)
  (.seq (.reg false [⟨some 58, .mv (.t 3), none⟩,
    ⟨some 59, .call 27 [.t 58, .c (.str ⟨#[40, 123, 91]⟩)], none⟩,
    ⟨some 57, .mv (.t 59), none⟩] [] [0, 3, 57])
  (.cond (.t 57)
  (.seq (.reg false [⟨some 60, .mv (.t 0), none⟩,
    ⟨some 61, .nck (.t 60), none⟩,
    ⟨some 62, .fad 1 (.t 61), none⟩,
    ⟨some 63, .ld none (.t 62), none⟩,
    ⟨some 64, .bin .add (.t 63) (.c (.int .i64 1)), none⟩,
    ⟨some 65, .nck (.t 60), none⟩,
    ⟨some 66, .fad 1 (.t 65), none⟩,
    ⟨none, .st 1 (.t 66) (.t 64), none⟩] [] [0, 3])
  (.reg false [⟨some 67, .mv (.t 0), none⟩,
    ⟨some 68, .mv (.t 3), none⟩,
    ⟨some 69, .call 74 [.t 68], none⟩,
    ⟨some 70, .call 73 [.t 67, .t 69], none⟩,
    ⟨some 4, .mv (.t 70), none⟩] [] [0, 3, 4]))
  (.seq (.reg false [⟨some 72, .mv (.t 3), none⟩,
    ⟨some 73, .call 27 [.t 72, .c (.str ⟨#[35, 94]⟩)], none⟩,
    ⟨some 74, .mv (.t 73), none⟩,
    ⟨some 75, .mv (.t 3), some (74, false)⟩,
    ⟨some 76, .call 27 [.t 75, .c (.str ⟨#[60, 62, 33]⟩)], some (74, false)⟩,
    ⟨some 77, .mv (.t 76), some (74, false)⟩,
    ⟨some 78, .mv (.t 3), some (77, true)⟩,
    ⟨some 79, .mv (.t 0), some (77, true)⟩,
    ⟨some 80, .nck (.t 79), some (77, true)⟩,
    ⟨some 81, .fad 3 (.t 80), some (77, true)⟩,
    ⟨some 82, .ld none (.t 81), some (77, true)⟩,
    ⟨some 83, .call 27 [.t 78, .t 82], some (77, true)⟩,
    ⟨some 84, .pick (.t 77) (.t 83) (.c (.bool false)), some (74, false)⟩,
    ⟨some 85, .pick (.t 74) (.c (.bool true)) (.t 84), none⟩,
    ⟨some 71, .mv (.t 85), none⟩] [] [0, 3, 71])
  (.cond (.t 71)
  (.seq (.reg false [⟨some 86, .mv (.t 0), none⟩,
    ⟨some 87, .nck (.t 86), none⟩,
    ⟨some 88, .fad 1 (.t 87), none⟩,
    ⟨some 89, .ld none (.t 88), none⟩,
    ⟨some 90, .bin .add (.t 89) (.c (.int .i64 1)), none⟩,
    ⟨some 91, .nck (.t 86), none⟩,
    ⟨some 92, .fad 1 (.t 91), none⟩,
    ⟨none, .st 1 (.t 92) (.t 90), none⟩] [] [0, 3])
  (.reg false [⟨some 93, .mv (.t 0), none⟩,
    ⟨some 94, .call 60 [.t 93], none⟩,
    ⟨some 95, .bsl 1 1 [.int .i64 0] [(0, 1, .t 94)], none⟩,
    ⟨some 4, .mv (.t 95), none⟩] [] [0, 3, 4]))
  (.seq (.reg false [⟨some 97, .mv (.t 3), none⟩,
    ⟨some 98, .call 27 [.t 97, .c (.str ⟨#[107, 42]⟩)], none⟩,
    ⟨some 99, .mv (.t 98), none⟩,
    ⟨some 100, .mv (.t 3), some (99, false)⟩,
    ⟨some 101, .call 27 [.t 100, .c (.str ⟨#[111, 120]⟩)], some (99, false)⟩,
    ⟨some 102, .mv (.t 101), some (99, false)⟩,
    ⟨some 103, .mv (.t 3), some (102, true)⟩,
    ⟨some 104, .mv (.t 0), some (102, true)⟩,
    ⟨some 105, .nck (.t 104), some (102, true)⟩,
    ⟨some 106, .fad 3 (.t 105), some (102, true)⟩,
    ⟨some 107, .ld none (.t 106), some (102, true)⟩,
    ⟨some 108, .call 27 [.t 103, .t 107], some (102, true)⟩,
    ⟨some 109, .pick (.t 102) (.t 108) (.c (.bool false)), some (99, false)⟩,
    ⟨some 110, .pick (.t 99) (.c (.bool true)) (.t 109), none⟩,
    ⟨some 96, .mv (.t 110), none⟩] [] [0, 3, 96])
  (.cond (.t 96)
  (.seq (.reg false [⟨some 111, .mv (.t 0), none⟩,
    ⟨some 112, .nck (.t 111), none⟩,
    ⟨some 113, .fad 1 (.t 112), none⟩,
    ⟨some 114, .ld none (.t 113), none⟩,
    ⟨some 115, .bin .add (.t 114) (.c (.int .i64 1)), none⟩,
    ⟨some 116, .nck (.t 111), none⟩,
    ⟨some 117, .fad 1 (.t 116), none⟩,
    ⟨none, .st 1 (.t 117) (.t 115), none⟩] [] [0, 3])
  (.seq (.reg false [⟨some 118, .mv (.t 0), none⟩,
    ⟨some 119, .call 75 [.t 118, .c (.int .u8 40)], none⟩] [] [0, 3])
  (.reg false [⟨some 120, .mv (.t 0), none⟩,
    ⟨some 121, .call 73 [.t 120, .c (.int .u8 41)], none⟩,
    ⟨some 4, .mv (.t 121), none⟩] [] [0, 3, 4])))
  (.seq (.reg false [⟨some 29, .mv (.t 0), none⟩,
    ⟨some 30, .mv (.t 0), none⟩,
    ⟨some 31, .nck (.t 30), none⟩,
    ⟨some 32, .fad 1 (.t 31), none⟩,
    ⟨some 33, .ld none (.t 32), none⟩,
    ⟨some 34, .call 52 [.t 29, .c (.int .i64 3), .t 33], none⟩,
    ⟨some 2, .mv (.t 34), none⟩] [] [2])
  .ret))))))))))
  (.seq (.seq (.reg false [⟨some 122, .mv (.t 0), none⟩,
    ⟨some 123, .nck (.t 122), none⟩,
    ⟨some 124, .fad 2 (.t 123), none⟩,
    ⟨some 125, .ld none (.t 124), none⟩,
    ⟨some 126, .bin .neq (.t 125) (.c (.int .i64 0)), none⟩] [] [0, 3, 4, 126])
  (.cond (.t 126)
  (.seq (.reg false [⟨some 2, .mv (.c (.int .i64 (-1))), none⟩] [] [2])
  .ret)
  .skip))
  (.seq (.reg false [⟨some 127, .mv (.t 0), none⟩,
    ⟨some 128, .nck (.t 127), none⟩,
    ⟨some 129, .fad 5 (.t 128), none⟩,
    ⟨some 130, .ld none (.t 129), none⟩,
    ⟨some 131, .mv (.t 0), none⟩,
    ⟨some 132, .mv (.t 3), none⟩,
    ⟨some 133, .mv (.t 4), none⟩,
    ⟨some 134, .cv (.t 130) [.t 131, .t 132, .t 133], none⟩,
    ⟨some 2, .mv (.t 134), none⟩] [] [2])
  .ret)))))))), [(2, none)]⟩
theorem impl_reader_read_ok : okFn Tryz.prog 60 impl_reader_read = true := by kernel_rfl
def laws_eqNode : IFn := ⟨20, (.seq (.reg false [⟨some 2, .box (.t 0), none⟩,
    ⟨some 3, .box (.t 1), none⟩,
    ⟨some 4, .mv (.c (.bool false)), none⟩] [] [2, 3])
  (.seq (.seq (.reg false [⟨some 5, .fad 0 (.t 2), none⟩,
    ⟨some 6, .ld none (.t 5), none⟩,
    ⟨some 7, .fad 0 (.t 3), none⟩,
    ⟨some 8, .ld none (.t 7), none⟩,
    ⟨some 9, .bin .neq (.t 6) (.t 8), none⟩] [] [2, 3, 9])
  (.cond (.t 9)
  (.seq (.reg false [⟨some 4, .mv (.c (.bool false)), none⟩] [] [4])
  .ret)
  .skip))
  (.seq (.seq (.reg false [⟨some 10, .fad 1 (.t 2), none⟩,
    ⟨some 11, .ld none (.t 10), none⟩,
    ⟨some 12, .fad 1 (.t 3), none⟩,
    ⟨some 13, .ld none (.t 12), none⟩,
    ⟨some 14, .bin .neq (.t 11) (.t 13), none⟩] [] [2, 3, 14])
  (.cond (.t 14)
  (.seq (.reg false [⟨some 4, .mv (.c (.bool false)), none⟩] [] [4])
  .ret)
  .skip))
  (.seq (.seq (.reg false [⟨some 15, .fad 2 (.t 2), none⟩,
    ⟨some 16, .ld none (.t 15), none⟩,
    ⟨some 17, .fad 2 (.t 3), none⟩,
    ⟨some 18, .ld none (.t 17), none⟩,
    ⟨some 19, .bin .neq (.t 16) (.t 18), none⟩] [] [19])
  (.cond (.t 19)
  (.seq (.reg false [⟨some 4, .mv (.c (.bool false)), none⟩] [] [4])
  .ret)
  .skip))
  (.seq (.reg false [⟨some 4, .mv (.c (.bool true)), none⟩] [] [4])
  .ret))))), [(4, none)]⟩
theorem laws_eqNode_ok : okFn Tryz.prog 61 laws_eqNode = true := by kernel_rfl
def spec_l1Parts : IFn := ⟨15, (.seq (.reg false [⟨some 2, .mv (.c (.int .i64 0)), none⟩] [] [0])
  (.seq (.seq (.reg false [⟨some 3, .mv (.t 0), none⟩] [] [3])
  (.block 0 (.seq (.reg false [⟨some 5, .bin .eql (.t 3) (.c (.int .i64 1)), none⟩,
    ⟨some 4, .mv (.t 5), none⟩] [] [3, 4])
  (.cond (.t 4)
  (.seq (.reg false [⟨some 2, .mv (.c (.int .i64 0)), none⟩] [] [2])
  .ret)
  (.seq (.seq (.reg false [⟨some 7, .bin .eql (.t 3) (.c (.int .i64 5)), none⟩,
    ⟨some 6, .mv (.t 7), none⟩] [] [3, 6])
  (.cond (.t 6)
  .skip
  (.reg false [⟨some 8, .bin .eql (.t 3) (.c (.int .i64 7)), none⟩,
    ⟨some 6, .mv (.t 8), none⟩] [] [3, 6])))
  (.cond (.t 6)
  (.seq (.reg false [⟨some 2, .mv (.c (.int .i64 1)), none⟩] [] [2])
  .ret)
  (.seq (.seq (.reg false [⟨some 10, .bin .eql (.t 3) (.c (.int .i64 2)), none⟩,
    ⟨some 9, .mv (.t 10), none⟩] [] [3, 9])
  (.cond (.t 9)
  .skip
  (.seq (.reg false [⟨some 11, .bin .eql (.t 3) (.c (.int .i64 3)), none⟩,
    ⟨some 9, .mv (.t 11), none⟩] [] [3, 9])
  (.cond (.t 9)
  .skip
  (.seq (.reg false [⟨some 12, .bin .eql (.t 3) (.c (.int .i64 4)), none⟩,
    ⟨some 9, .mv (.t 12), none⟩] [] [3, 9])
  (.cond (.t 9)
  .skip
  (.seq (.reg false [⟨some 13, .bin .eql (.t 3) (.c (.int .i64 6)), none⟩,
    ⟨some 9, .mv (.t 13), none⟩] [] [3, 9])
  (.cond (.t 9)
  .skip
  (.reg false [⟨some 14, .bin .eql (.t 3) (.c (.int .i64 8)), none⟩,
    ⟨some 9, .mv (.t 14), none⟩] [] [9])))))))))
  (.cond (.t 9)
  (.seq (.reg false [⟨some 2, .mv (.c (.int .i64 2)), none⟩] [] [2])
  .ret)
  .skip))))))))
  (.seq (.reg false [⟨some 2, .mv (.c (.int .i64 (-1))), none⟩] [] [2])
  .ret))), [(2, none)]⟩
theorem spec_l1Parts_ok : okFn Tryz.prog 62 spec_l1Parts = true := by kernel_rfl
def spec_l1In : IFn := ⟨15, (.seq (.reg false [⟨some 6, .mv (.c (.bool false)), none⟩] [] [0, 1, 2])
  (.seq (.reg false [⟨some 7, .mv (.t 0), none⟩,
    ⟨some 8, .mv (.t 1), none⟩,
    ⟨some 9, .bin .geq (.t 7) (.t 8), none⟩,
    ⟨some 10, .mv (.t 9), none⟩,
    ⟨some 11, .mv (.t 0), some (10, true)⟩,
    ⟨some 12, .mv (.t 2), some (10, true)⟩,
    ⟨some 13, .bin .leq (.t 11) (.t 12), some (10, true)⟩,
    ⟨some 14, .pick (.t 10) (.t 13) (.c (.bool false)), none⟩,
    ⟨some 6, .mv (.t 14), none⟩] [] [6])
  .ret)), [(6, none)]⟩
theorem spec_l1In_ok : okFn Tryz.prog 63 spec_l1In = true := by kernel_rfl
def spec_l1Has : IFn := ⟨11, (.seq (.reg false [⟨some 2, .box (.t 0), none⟩,
    ⟨some 4, .mv (.c (.bool false)), none⟩] [] [1, 2])
  (.seq (.reg false [⟨some 5, .mv (.t 1), none⟩,
    ⟨some 6, .fad 0 (.t 2), none⟩,
    ⟨some 7, .ld none (.t 6), none⟩,
    ⟨some 8, .len false (.t 7), none⟩,
    ⟨some 9, .bin .sub (.t 8) (.c (.int .i64 1)), none⟩,
    ⟨some 10, .call 63 [.t 5, .c (.int .i64 0), .t 9], none⟩,
    ⟨some 4, .mv (.t 10), none⟩] [] [4])
  .ret)), [(4, none)]⟩
theorem spec_l1Has_ok : okFn Tryz.prog 64 spec_l1Has = true := by kernel_rfl
def spec_l4Want : IFn := ⟨24, (.seq (.reg false [⟨some 6, .mv (.c (.int .i64 0)), none⟩,
    ⟨some 7, .mv (.c (.int .i64 0)), none⟩] [] [0, 1, 2])
  (.seq (.block 0 (.seq (.reg false [⟨some 9, .mv (.t 1), none⟩,
    ⟨some 10, .mv (.t 0), none⟩,
    ⟨some 11, .len true (.t 10), none⟩,
    ⟨some 12, .bin .geq (.t 9) (.t 11), none⟩,
    ⟨some 8, .mv (.t 12), none⟩] [] [0, 1, 2, 8])
  (.cond (.t 8)
  (.seq (.reg false [⟨some 13, .mv (.t 0), none⟩,
    ⟨some 14, .len true (.t 13), none⟩,
    ⟨some 6, .mv (.t 14), none⟩,
    ⟨some 7, .mv (.c (.int .i64 2)), none⟩] [] [6, 7])
  .ret)
  (.seq (.reg false [⟨some 16, .mv (.t 0), none⟩,
    ⟨some 17, .mv (.t 1), none⟩,
    ⟨some 18, .idxs (.t 16) (.t 17), none⟩,
    ⟨some 19, .mv (.t 2), none⟩,
    ⟨some 20, .bin .neq (.t 18) (.t 19), none⟩,
    ⟨some 15, .mv (.t 20), none⟩] [] [1, 15])
  (.cond (.t 15)
  (.seq (.reg false [⟨some 21, .mv (.t 1), none⟩,
    ⟨some 6, .mv (.t 21), none⟩,
    ⟨some 7, .mv (.c (.int .i64 3)), none⟩] [] [6, 7])
  .ret)
  .skip)))))
  (.seq (.reg false [⟨some 22, .mv (.t 1), none⟩,
    ⟨some 23, .bin .add (.t 22) (.c (.int .i64 1)), none⟩,
    ⟨some 6, .mv (.t 23), none⟩,
    ⟨some 7, .mv (.c (.int .i64 0)), none⟩] [] [6, 7])
  .ret))), [(6, none), (7, none)]⟩
theorem spec_l4Want_ok : okFn Tryz.prog 65 spec_l4Want = true := by kernel_rfl
def spec_l3Raise : IFn := ⟨40, (.seq (.reg false [⟨some 3, .box (.t 0), none⟩,
    ⟨some 6, .new [.nil], none⟩,
    ⟨some 7, .mv (.c (.int .i64 0)), none⟩] [] [1, 2, 3, 6])
  (.seq (.seq (.reg false [⟨some 8, .ld (some 1) (.t 3), none⟩,
    ⟨some 9, .mv (.t 1), none⟩,
    ⟨some 10, .call 64 [.t 8, .t 9], none⟩,
    ⟨some 11, .not (.t 10), none⟩,
    ⟨some 12, .mv (.t 11), none⟩,
    ⟨some 13, .ld (some 1) (.t 3), some (12, false)⟩,
    ⟨some 14, .mv (.t 2), some (12, false)⟩,
    ⟨some 15, .call 64 [.t 13, .t 14], some (12, false)⟩,
    ⟨some 16, .not (.t 15), some (12, false)⟩,
    ⟨some 17, .pick (.t 12) (.c (.bool true)) (.t 16), none⟩,
    ⟨some 18, .mv (.t 17), none⟩,
    ⟨some 19, .fad 0 (.t 3), some (18, false)⟩,
    ⟨some 20, .ld none (.t 19), some (18, false)⟩,
    ⟨some 21, .mv (.t 1), some (18, false)⟩,
    ⟨some 22, .iad 3 (.t 20) (.t 21), some (18, false)⟩,
    ⟨some 23, .fad 0 (.t 22), some (18, false)⟩,
    ⟨some 24, .ld none (.t 23), some (18, false)⟩,
    ⟨some 25, .bin .neq (.t 24) (.c (.int .i64 7)), some (18, false)⟩,
    ⟨some 26, .pick (.t 18) (.c (.bool true)) (.t 25), none⟩] [] [1, 2, 3, 6, 26])
  (.cond (.t 26)
  (.seq (.reg false [⟨some 27, .ld (some 1) (.t 3), none⟩,
    ⟨none, .st 1 (.t 6) (.t 27), none⟩,
    ⟨some 7, .mv (.c (.int .i64 (-1))), none⟩] [] [6, 7])
  .ret)
  .skip))
  (.seq (.reg true [⟨some 28, .ld (some 1) (.t 3), none⟩,
    ⟨some 29, .mv (.t 2), none⟩,
    ⟨some 30, .fad 0 (.t 3), none⟩,
    ⟨some 31, .ld none (.t 30), none⟩,
    ⟨some 32, .mv (.t 1), none⟩,
    ⟨some 33, .iad 3 (.t 31) (.t 32), none⟩,
    ⟨some 34, .fad 1 (.t 33), none⟩,
    ⟨some 35, .ld none (.t 34), none⟩,
    ⟨some 36, .build [.int .i64 0, .int .i64 0, .int .i64 0] [(0, 1, .c (.int .i64 8)), (1, 1, .t 29), (2, 1, .t 35)], none⟩,
    ⟨some 37, .call 45 [.t 28, .t 36], none⟩,
    ⟨some 38, .ext (.t 37) 0, none⟩,
    ⟨some 39, .ext (.t 37) 1, none⟩,
    ⟨none, .st 1 (.t 6) (.t 38), none⟩,
    ⟨some 7, .mv (.t 39), none⟩] [0, 0, 0, 4, 0, 28, 60, 124, 254, 511, 1023, 1023, 4095, 8191] [6, 7])
  .ret))), [(6, some (some 1)), (7, none)]⟩
theorem spec_l3Raise_ok : okFn Tryz.prog 66 spec_l3Raise = true := by kernel_rfl
def impl_nodeOk : IFn := ⟨56, (.seq (.reg false [⟨some 2, .box (.t 0), none⟩,
    ⟨some 4, .mv (.c (.bool false)), none⟩] [] [1, 2])
  (.seq (.seq (.reg false [⟨some 5, .fad 0 (.t 2), none⟩,
    ⟨some 6, .ld none (.t 5), none⟩,
    ⟨some 7, .call 76 [.t 6], none⟩] [] [1, 2, 7])
  (.block 0 (.seq (.reg false [⟨some 9, .bin .eql (.t 7) (.c (.int .i64 0)), none⟩,
    ⟨some 8, .mv (.t 9), none⟩] [] [1, 2, 7, 8])
  (.cond (.t 8)
  (.seq (.reg false [⟨some 10, .fad 1 (.t 2), none⟩,
    ⟨some 11, .ld none (.t 10), none⟩,
    ⟨some 12, .call 51 [.t 11, .c (.int .i64 0), .c (.int .i64 199)], none⟩,
    ⟨some 13, .mv (.t 12), none⟩,
    ⟨some 14, .fad 2 (.t 2), some (13, true)⟩,
    ⟨some 15, .ld none (.t 14), some (13, true)⟩,
    ⟨some 16, .bin .eql (.t 15) (.c (.int .i64 0)), some (13, true)⟩,
    ⟨some 17, .pick (.t 13) (.t 16) (.c (.bool false)), none⟩,
    ⟨some 4, .mv (.t 17), none⟩] [] [4])
  .ret)
  (.seq (.reg false [⟨some 19, .bin .eql (.t 7) (.c (.int .i64 1)), none⟩,
    ⟨some 18, .mv (.t 19), none⟩] [] [1, 2, 7, 18])
  (.cond (.t 18)
  (.seq (.reg false [⟨some 20, .fad 1 (.t 2), none⟩,
    ⟨some 21, .ld none (.t 20), none⟩,
    ⟨some 22, .mv (.t 1), none⟩,
    ⟨some 23, .bin .sub (.t 22) (.c (.int .i64 1)), none⟩,
    ⟨some 24, .call 51 [.t 21, .c (.int .i64 0), .t 23], none⟩,
    ⟨some 25, .mv (.t 24), none⟩,
    ⟨some 26, .fad 2 (.t 2), some (25, true)⟩,
    ⟨some 27, .ld none (.t 26), some (25, true)⟩,
    ⟨some 28, .bin .eql (.t 27) (.c (.int .i64 0)), some (25, true)⟩,
    ⟨some 29, .pick (.t 25) (.t 28) (.c (.bool false)), none⟩,
    ⟨some 4, .mv (.t 29), none⟩] [] [4])
  .ret)
  (.seq (.reg false [⟨some 31, .bin .eql (.t 7) (.c (.int .i64 2)), none⟩,
    ⟨some 30, .mv (.t 31), none⟩] [] [1, 2, 30])
  (.cond (.t 30)
  (.seq (.reg false [⟨some 32, .fad 1 (.t 2), none⟩,
    ⟨some 33, .ld none (.t 32), none⟩,
    ⟨some 34, .mv (.t 1), none⟩,
    ⟨some 35, .bin .sub (.t 34) (.c (.int .i64 1)), none⟩,
    ⟨some 36, .call 51 [.t 33, .c (.int .i64 0), .t 35], none⟩,
    ⟨some 37, .mv (.t 36), none⟩,
    ⟨some 38, .fad 2 (.t 2), some (37, true)⟩,
    ⟨some 39, .ld none (.t 38), some (37, true)⟩,
    ⟨some 40, .mv (.t 1), some (37, true)⟩,
    ⟨some 41, .bin .sub (.t 40) (.c (.int .i64 1)), some (37, true)⟩,
    ⟨some 42, .call 51 [.t 39, .c (.int .i64 0), .t 41], some (37, true)⟩,
    ⟨some 43, .pick (.t 37) (.t 42) (.c (.bool false)), none⟩,
    ⟨some 44, .mv (.t 43), none⟩,
    ⟨some 45, .fad 0 (.t 2), some (44, true)⟩,
    ⟨some 46, .ld none (.t 45), some (44, true)⟩,
    ⟨some 47, .bin .neq (.t 46) (.c (.int .i64 8)), some (44, true)⟩,
    ⟨some 48, .mv (.t 47), some (44, true)⟩,
    ⟨some 49, .fad 1 (.t 2), some (48, false)⟩,
    ⟨some 50, .ld none (.t 49), some (48, false)⟩,
    ⟨some 51, .fad 2 (.t 2), some (48, false)⟩,
    ⟨some 52, .ld none (.t 51), some (48, false)⟩,
    ⟨some 53, .bin .leq (.t 50) (.t 52), some (48, false)⟩,
    ⟨some 54, .pick (.t 48) (.c (.bool true)) (.t 53), some (44, true)⟩,
    ⟨some 55, .pick (.t 44) (.t 54) (.c (.bool false)), none⟩,
    ⟨some 4, .mv (.t 55), none⟩] [] [4])
  .ret)
  .skip))))))))
  (.seq (.reg false [⟨some 4, .mv (.c (.bool false)), none⟩] [] [4])
  .ret))), [(4, none)]⟩
theorem impl_nodeOk_ok : okFn Tryz.prog 67 impl_nodeOk = true := by kernel_rfl
def impl_isFigure : IFn := ⟨9, (.seq (.reg false [⟨some 2, .mv (.c (.bool false)), none⟩] [] [0])
  (.seq (.reg false [⟨some 3, .mv (.t 0), none⟩,
    ⟨some 4, .bin .geq (.t 3) (.c (.int .u8 48)), none⟩,
    ⟨some 5, .mv (.t 4), none⟩,
    ⟨some 6, .mv (.t 0), some (5, true)⟩,
    ⟨some 7, .bin .leq (.t 6) (.c (.int .u8 57)), some (5, true)⟩,
    ⟨some 8, .pick (.t 5) (.t 7) (.c (.bool false)), none⟩,
    ⟨some 2, .mv (.t 8), none⟩] [] [2])
  .ret)), [(2, none)]⟩
theorem impl_isFigure_ok : okFn Tryz.prog 68 impl_isFigure = true := by kernel_rfl
def impl_reader_peek : IFn := ⟨22, (.seq (.reg false [⟨some 2, .mv (.c (.int .u8 0)), none⟩] [] [0])
  (.seq (.seq (.reg true [⟨some 3, .mv (.t 0), none⟩,
    ⟨some 4, .nck (.t 3), none⟩,
    ⟨some 5, .fad 1 (.t 4), none⟩,
    ⟨some 6, .ld none (.t 5), none⟩,
    ⟨some 7, .mv (.t 0), none⟩,
    ⟨some 8, .nck (.t 7), none⟩,
    ⟨some 9, .fad 0 (.t 8), none⟩,
    ⟨some 10, .ld none (.t 9), none⟩,
    ⟨some 11, .len true (.t 10), none⟩,
    ⟨some 12, .bin .geq (.t 6) (.t 11), none⟩] [0, 1, 3, 7, 0, 16, 48, 112, 240, 511] [0, 12])
  (.cond (.t 12)
  (.seq (.reg false [⟨some 2, .mv (.c (.int .u8 0)), none⟩] [] [2])
  .ret)
  .skip))
  (.seq (.reg true [⟨some 13, .mv (.t 0), none⟩,
    ⟨some 14, .nck (.t 13), none⟩,
    ⟨some 15, .fad 0 (.t 14), none⟩,
    ⟨some 16, .ld none (.t 15), none⟩,
    ⟨some 17, .mv (.t 0), none⟩,
    ⟨some 18, .nck (.t 17), none⟩,
    ⟨some 19, .fad 1 (.t 18), none⟩,
    ⟨some 20, .ld none (.t 19), none⟩,
    ⟨some 21, .idxs (.t 16) (.t 20), none⟩,
    ⟨some 2, .mv (.t 21), none⟩] [0, 1, 3, 7, 0, 16, 48, 112, 255, 511] [2])
  .ret))), [(2, none)]⟩
theorem impl_reader_peek_ok : okFn Tryz.prog 69 impl_reader_peek = true := by kernel_rfl
def impl_Pool_find : IFn := ⟨11, (.seq (.reg false [⟨some 3, .box (.t 1), none⟩,
    ⟨some 4, .mv (.c (.int .i64 0)), none⟩] [] [0, 3])
  (.seq (.reg true [⟨some 5, .mv (.t 0), none⟩,
    ⟨some 6, .nck (.t 5), none⟩,
    ⟨some 7, .fad 0 (.t 6), none⟩,
    ⟨some 8, .ld none (.t 7), none⟩,
    ⟨some 9, .ld (some 3) (.t 3), none⟩,
    ⟨some 10, .call 80 [.t 8, .t 9], none⟩,
    ⟨some 4, .mv (.t 10), none⟩] [0, 1, 3, 7, 0, 31, 63] [4])
  .ret)), [(4, none)]⟩
theorem impl_Pool_find_ok : okFn Tryz.prog 72 impl_Pool_find = true := by kernel_rfl
def impl_reader_two : IFn := ⟨19, (.seq (.reg false [⟨some 4, .mv (.c (.nil)), none⟩] [] [0, 1])
  (.seq (.reg false [⟨some 7, .mv (.t 0), none⟩,
    ⟨some 8, .call 60 [.t 7], none⟩,
    ⟨some 5, .mv (.t 8), none⟩] [] [0, 1, 5])
  (.seq (.reg false [⟨some 9, .mv (.t 0), none⟩,
    ⟨some 10, .call 75 [.t 9, .c (.int .u8 44)], none⟩] [] [0, 1, 5])
  (.seq (.reg false [⟨some 11, .mv (.t 0), none⟩,
    ⟨some 12, .call 60 [.t 11], none⟩,
    ⟨some 6, .mv (.t 12), none⟩] [] [0, 1, 5, 6])
  (.seq (.reg false [⟨some 13, .mv (.t 0), none⟩,
    ⟨some 14, .mv (.t 1), none⟩,
    ⟨some 15, .call 75 [.t 13, .t 14], none⟩] [] [5, 6])
  (.seq (.reg false [⟨some 16, .mv (.t 5), none⟩,
    ⟨some 17, .mv (.t 6), none⟩,
    ⟨some 18, .bsl 1 2 [.int .i64 0] [(0, 1, .t 16), (1, 1, .t 17)], none⟩,
    ⟨some 4, .mv (.t 18), none⟩] [] [4])
  .ret)))))), [(4, none)]⟩
theorem impl_reader_two_ok : okFn Tryz.prog 73 impl_reader_two = true := by kernel_rfl
def impl_closing : IFn := ⟨8, (.seq (.reg false [⟨some 2, .mv (.c (.int .u8 0)), none⟩] [] [0])
  (.seq (.seq (.reg false [⟨some 3, .mv (.t 0), none⟩] [] [3])
  (.block 0 (.seq (.reg false [⟨some 5, .bin .eql (.t 3) (.c (.int .u8 123)), none⟩,
    ⟨some 4, .mv (.t 5), none⟩] [] [3, 4])
  (.cond (.t 4)
  (.seq (.reg false [⟨some 2, .mv (.c (.int .u8 125)), none⟩] [] [2])
  .ret)
  (.seq (.reg false [⟨some 7, .bin .eql (.t 3) (.c (.int .u8 91)), none⟩,
    ⟨some 6, .mv (.t 7), none⟩] [] [6])
  (.cond (.t 6)
  (.seq (.reg false [⟨some 2, .mv (.c (.int .u8 93)), none⟩] [] [2])
  .ret)
  .skip))))))
  (.seq (.reg false [⟨some 2, .mv (.c (.int .u8 41)), none⟩] [] [2])
  .ret))), [(2, none)]⟩
theorem impl_closing_ok : okFn Tryz.prog 74 impl_closing = true := by kernel_rfl
def impl_reader_take : IFn := ⟨53, (.block 0 (.seq (.reg false [⟨some 12, .mv (.t 0), none⟩,
    ⟨some 13, .nck (.t 12), none⟩,
    ⟨some 14, .fad 2 (.t 13), none⟩,
    ⟨some 15, .ld none (.t 14), none⟩,
    ⟨some 16, .bin .neq (.t 15) (.c (.int .i64 0)), none⟩,
    ⟨some 11, .mv (.t 16), none⟩] [] [0, 1, 11])
  (.cond (.t 11)
  .skip
  (.seq (.reg true [⟨some 18, .mv (.t 0), none⟩,
    ⟨some 19, .nck (.t 18), none⟩,
    ⟨some 20, .fad 1 (.t 19), none⟩,
    ⟨some 21, .ld none (.t 20), none⟩,
    ⟨some 22, .mv (.t 0), none⟩,
    ⟨some 23, .nck (.t 22), none⟩,
    ⟨some 24, .fad 0 (.t 23), none⟩,
    ⟨some 25, .ld none (.t 24), none⟩,
    ⟨some 26, .len true (.t 25), none⟩,
    ⟨some 27, .bin .geq (.t 21) (.t 26), none⟩,
    ⟨some 17, .mv (.t 27), none⟩] [0, 1, 3, 7, 0, 16, 48, 112, 240, 511, 1023] [0, 1, 17])
  (.cond (.t 17)
  (.reg false [⟨some 28, .mv (.t 0), none⟩,
    ⟨some 29, .mv (.t 0), none⟩,
    ⟨some 30, .nck (.t 29), none⟩,
    ⟨some 31, .fad 0 (.t 30), none⟩,
    ⟨some 32, .ld none (.t 31), none⟩,
    ⟨some 33, .len true (.t 32), none⟩,
    ⟨some 34, .call 52 [.t 28, .c (.int .i64 2), .t 33], none⟩] [] [])
  (.seq (.reg true [⟨some 36, .mv (.t 0), none⟩,
    ⟨some 37, .nck (.t 36), none⟩,
    ⟨some 38, .fad 0 (.t 37), none⟩,
    ⟨some 39, .ld none (.t 38), none⟩,
    ⟨some 40, .mv (.t 0), none⟩,
    ⟨some 41, .nck (.t 40), none⟩,
    ⟨some 42, .fad 1 (.t 41), none⟩,
    ⟨some 43, .ld none (.t 42), none⟩,
    ⟨some 44, .idxs (.t 39) (.t 43), none⟩,
    ⟨some 45, .mv (.t 1), none⟩,
    ⟨some 46, .bin .neq (.t 44) (.t 45), none⟩,
    ⟨some 35, .mv (.t 46), none⟩] [0, 1, 3, 7, 0, 16, 48, 112, 255, 0, 1023, 2047] [0, 35])
  (.cond (.t 35)
  (.reg false [⟨some 47, .mv (.t 0), none⟩,
    ⟨some 48, .mv (.t 0), none⟩,
    ⟨some 49, .nck (.t 48), none⟩,
    ⟨some 50, .fad 1 (.t 49), none⟩,
    ⟨some 51, .ld none (.t 50), none⟩,
    ⟨some 52, .call 52 [.t 47, .c (.int .i64 3), .t 51], none⟩] [] [])
  (.reg false [⟨some 4, .mv (.t 0), none⟩,
    ⟨some 5, .nck (.t 4), none⟩,
    ⟨some 6, .fad 1 (.t 5), none⟩,
    ⟨some 7, .ld none (.t 6), none⟩,
    ⟨some 8, .bin .add (.t 7) (.c (.int .i64 1)), none⟩,
    ⟨some 9, .nck (.t 4), none⟩,
    ⟨some 10, .fad 1 (.t 9), none⟩,
    ⟨none, .st 1 (.t 10) (.t 8), none⟩] [] [])))))))), []⟩
theorem impl_reader_take_ok : okFn Tryz.prog 75 impl_reader_take = true := by kernel_rfl
def impl_count : IFn := ⟨15, (.seq (.reg false [⟨some 2, .mv (.c (.int .i64 0)), none⟩] [] [0])
  (.seq (.seq (.reg false [⟨some 3, .mv (.t 0), none⟩] [] [3])
  (.block 0 (.seq (.reg false [⟨some 5, .bin .eql (.t 3) (.c (.int .i64 1)), none⟩,
    ⟨some 4, .mv (.t 5), none⟩] [] [3, 4])
  (.cond (.t 4)
  (.seq (.reg false [⟨some 2, .mv (.c (.int .i64 0)), none⟩] [] [2])
  .ret)
  (.seq (.seq (.reg false [⟨some 7, .bin .eql (.t 3) (.c (.int .i64 5)), none⟩,
    ⟨some 6, .mv (.t 7), none⟩] [] [3, 6])
  (.cond (.t 6)
  .skip
  (.reg false [⟨some 8, .bin .eql (.t 3) (.c (.int .i64 7)), none⟩,
    ⟨some 6, .mv (.t 8), none⟩] [] [3, 6])))
  (.cond (.t 6)
  (.seq (.reg false [⟨some 2, .mv (.c (.int .i64 1)), none⟩] [] [2])
  .ret)
  (.seq (.seq (.reg false [⟨some 10, .bin .eql (.t 3) (.c (.int .i64 2)), none⟩,
    ⟨some 9, .mv (.t 10), none⟩] [] [3, 9])
  (.cond (.t 9)
  .skip
  (.seq (.reg false [⟨some 11, .bin .eql (.t 3) (.c (.int .i64 3)), none⟩,
    ⟨some 9, .mv (.t 11), none⟩] [] [3, 9])
  (.cond (.t 9)
  .skip
  (.seq (.reg false [⟨some 12, .bin .eql (.t 3) (.c (.int .i64 4)), none⟩,
    ⟨some 9, .mv (.t 12), none⟩] [] [3, 9])
  (.cond (.t 9)
  .skip
  (.seq (.reg false [⟨some 13, .bin .eql (.t 3) (.c (.int .i64 6)), none⟩,
    ⟨some 9, .mv (.t 13), none⟩] [] [3, 9])
  (.cond (.t 9)
  .skip
  (.reg false [⟨some 14, .bin .eql (.t 3) (.c (.int .i64 8)), none⟩,
    ⟨some 9, .mv (.t 14), none⟩] [] [9])))))))))
  (.cond (.t 9)
  (.seq (.reg false [⟨some 2, .mv (.c (.int .i64 2)), none⟩] [] [2])
  .ret)
  .skip))))))))
  (.seq (.reg false [⟨some 2, .mv (.c (.int .i64 (-1))), none⟩] [] [2])
  .ret))), [(2, none)]⟩
theorem impl_count_ok : okFn Tryz.prog 76 impl_count = true := by kernel_rfl
def slices_Index_Node : IFn := ⟨19, (.seq (.reg false [⟨some 3, .box (.t 1), none⟩,
    ⟨some 4, .mv (.c (.int .i64 0)), none⟩] [] [0, 3])
  (.seq (.seq (.reg false [⟨some 6, .mv (.t 0), none⟩,
    ⟨some 7, .len false (.t 6), none⟩,
    ⟨some 8, .mv (.c (.int .i64 0)), none⟩] [] [0, 3, 7, 8])
  (.block 0 (.loop (.seq (.reg false [⟨some 9, .bin .lss (.t 8) (.t 7), none⟩] [] [0, 3, 7, 8, 9])
  (.seq (.cond (.t 9)
  .skip
  (.exit 0))
  (.seq (.block 1 (.seq (.reg false [⟨some 10, .mv (.t 8), none⟩,
    ⟨some 5, .mv (.t 10), none⟩] [] [0, 3, 5, 7, 8])
  (.seq (.reg true [⟨some 11, .ld (some 3) (.t 3), none⟩,
    ⟨some 12, .mv (.t 0), none⟩,
    ⟨some 13, .mv (.t 5), none⟩,
    ⟨some 14, .iad 3 (.t 12) (.t 13), none⟩,
    ⟨some 15, .ld (some 3) (.t 14), none⟩,
    ⟨some 16, .eqs false [1, 1, 1] (.t 11) (.t 15), none⟩] [0, 0, 0, 6, 14, 31] [0, 3, 5, 7, 8, 16])
  (.cond (.t 16)
  (.seq (.reg false [⟨some 17, .mv (.t 5), none⟩,
    ⟨some 4, .mv (.t 17), none⟩] [] [4])
  .ret)
  .skip))))
  (.reg false [⟨some 18, .bin .add (.t 8) (.c (.int .i64 1)), none⟩,
    ⟨some 8, .mv (.t 18), none⟩] [] [0, 3, 7, 8])))))))
  (.seq (.reg false [⟨some 4, .mv (.c (.int .i64 (-1))), none⟩] [] [4])
  .ret))), [(4, none)]⟩
theorem slices_Index_Node_ok : okFn Tryz.prog 80 slices_Index_Node = true := by kernel_rfl
end Go.Proofs.YtealijdcolmchaaGreatDoor.I
