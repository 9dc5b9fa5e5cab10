/- The functions of this seat told by trees. Printed by a program of this repository (mkir.py). Conditions: none. -/
import Derived.Test.YtoegiepfcdkjaaaDoorXSymQ
import Derived.Test.YtoegiepfcdkjaaaDoorProg
import Derived.KernelRfl
set_option maxRecDepth 100000
set_option linter.unusedVariables false
namespace Go.Proofs.YtoegiepfcdkjaaaDoor.I
open Go.Sym
def laws_FnParsed : IFn := ⟨118, (.seq (.reg false [⟨some 2, .mv (.c (.bool false)), none⟩] [] [0])
  (.seq (.seq (.reg false [⟨some 18, .mv (.t 0), none⟩,
    ⟨some 19, .call 13 [.t 18], none⟩] [] [0, 19])
  (.cond (.t 19)
  (.seq (.reg false [⟨some 2, .mv (.c (.bool true)), none⟩] [] [2])
  .ret)
  .skip))
  (.seq (.reg false [⟨some 21, .mv (.t 0), none⟩,
    ⟨some 22, .call 18 [.t 21], none⟩,
    ⟨some 20, .mv (.t 22), none⟩,
    ⟨some 23, .ext (.t 20) 0, none⟩,
    ⟨some 24, .ext (.t 20) 1, none⟩,
    ⟨some 3, .new [.nil], none⟩,
    ⟨none, .st 1 (.t 3) (.t 23), none⟩,
    ⟨some 4, .mv (.t 24), none⟩] [] [3, 4])
  (.seq (.reg false [⟨some 26, .ld (some 1) (.t 3), none⟩,
    ⟨some 27, .mv (.t 4), none⟩,
    ⟨some 28, .call 9 [.t 26, .t 27], none⟩,
    ⟨some 25, .mv (.t 28), none⟩,
    ⟨some 29, .ext (.t 25) 0, none⟩,
    ⟨some 30, .ext (.t 25) 1, none⟩,
    ⟨some 31, .ext (.t 25) 2, none⟩,
    ⟨some 32, .ext (.t 25) 3, none⟩,
    ⟨some 5, .new [.nil], none⟩,
    ⟨none, .st 1 (.t 5) (.t 29), none⟩,
    ⟨some 6, .mv (.t 30), none⟩,
    ⟨some 7, .mv (.t 31), none⟩,
    ⟨some 8, .mv (.t 32), none⟩] [] [3, 4, 5, 6, 7, 8])
  (.seq (.reg false [⟨some 34, .ld (some 1) (.t 3), none⟩,
    ⟨some 35, .mv (.t 4), none⟩,
    ⟨some 36, .call 7 [.t 34, .t 35], none⟩,
    ⟨some 33, .mv (.t 36), none⟩,
    ⟨some 37, .ext (.t 33) 0, none⟩,
    ⟨some 38, .ext (.t 33) 1, none⟩,
    ⟨some 39, .ext (.t 33) 2, none⟩,
    ⟨some 40, .ext (.t 33) 3, none⟩,
    ⟨some 9, .new [.nil], none⟩,
    ⟨none, .st 1 (.t 9) (.t 37), none⟩,
    ⟨some 10, .mv (.t 38), none⟩,
    ⟨some 11, .mv (.t 39), none⟩,
    ⟨some 12, .mv (.t 40), none⟩] [] [3, 4, 5, 6, 7, 8, 10, 11, 12])
  (.seq (.seq (.reg false [⟨some 41, .mv (.t 8), none⟩,
    ⟨some 42, .mv (.t 12), none⟩,
    ⟨some 43, .bin .neq (.t 41) (.t 42), none⟩,
    ⟨some 44, .mv (.t 43), none⟩,
    ⟨some 45, .mv (.t 7), some (44, false)⟩,
    ⟨some 46, .mv (.t 11), some (44, false)⟩,
    ⟨some 47, .bin .neq (.t 45) (.t 46), some (44, false)⟩,
    ⟨some 48, .pick (.t 44) (.c (.bool true)) (.t 47), none⟩,
    ⟨some 49, .mv (.t 48), none⟩,
    ⟨some 50, .mv (.t 6), some (49, false)⟩,
    ⟨some 51, .mv (.t 10), some (49, false)⟩,
    ⟨some 52, .bin .neq (.t 50) (.t 51), some (49, false)⟩,
    ⟨some 53, .pick (.t 49) (.c (.bool true)) (.t 52), none⟩,
    ⟨some 54, .mv (.t 53), none⟩,
    ⟨some 55, .mv (.t 7), some (54, false)⟩,
    ⟨some 56, .bin .lss (.t 55) (.c (.int .i64 0)), some (54, false)⟩,
    ⟨some 57, .pick (.t 54) (.c (.bool true)) (.t 56), none⟩,
    ⟨some 58, .mv (.t 57), none⟩,
    ⟨some 59, .mv (.t 7), some (58, false)⟩,
    ⟨some 60, .mv (.t 4), some (58, false)⟩,
    ⟨some 61, .len true (.t 60), some (58, false)⟩,
    ⟨some 62, .bin .gtr (.t 59) (.t 61), some (58, false)⟩,
    ⟨some 63, .pick (.t 58) (.c (.bool true)) (.t 62), none⟩] [] [3, 4, 5, 6, 8, 63])
  (.cond (.t 63)
  (.seq (.reg false [⟨some 2, .mv (.c (.bool false)), none⟩] [] [2])
  .ret)
  .skip))
  (.seq (.seq (.reg false [⟨some 64, .mv (.t 8), none⟩,
    ⟨some 65, .bin .neq (.t 64) (.c (.int .i64 0)), none⟩] [] [3, 4, 5, 6, 65])
  (.cond (.t 65)
  (.seq (.reg false [⟨some 66, .mv (.t 6), none⟩,
    ⟨some 67, .bin .eql (.t 66) (.c (.int .i64 (-1))), none⟩,
    ⟨some 68, .mv (.t 67), none⟩,
    ⟨some 69, .fad 0 (.t 5), some (68, true)⟩,
    ⟨some 70, .ld none (.t 69), some (68, true)⟩,
    ⟨some 71, .len false (.t 70), some (68, true)⟩,
    ⟨some 72, .fad 0 (.t 3), some (68, true)⟩,
    ⟨some 73, .ld none (.t 72), some (68, true)⟩,
    ⟨some 74, .len false (.t 73), some (68, true)⟩,
    ⟨some 75, .bin .eql (.t 71) (.t 74), some (68, true)⟩,
    ⟨some 76, .mv (.t 75), some (68, true)⟩,
    ⟨some 77, .fad 0 (.t 5), some (76, false)⟩,
    ⟨some 78, .ld none (.t 77), some (76, false)⟩,
    ⟨some 79, .len false (.t 78), some (76, false)⟩,
    ⟨some 80, .bin .eql (.t 79) (.c (.int .i64 0)), some (76, false)⟩,
    ⟨some 81, .pick (.t 76) (.c (.bool true)) (.t 80), some (68, true)⟩,
    ⟨some 82, .pick (.t 68) (.t 81) (.c (.bool false)), none⟩,
    ⟨some 2, .mv (.t 82), none⟩] [] [2])
  .ret)
  .skip))
  (.seq (.reg false [⟨some 83, .ld (some 1) (.t 5), none⟩,
    ⟨some 84, .mv (.t 6), none⟩,
    ⟨some 85, .call 15 [.t 83, .t 84], none⟩,
    ⟨some 13, .mv (.t 85), none⟩] [] [4, 5, 6, 13])
  (.seq (.seq (.reg false [⟨some 86, .mv (.t 13), none⟩,
    ⟨some 87, .bin .eql (.t 86) (.c (.str ⟨#[]⟩)), none⟩] [] [4, 5, 6, 13, 87])
  (.cond (.t 87)
  (.seq (.reg false [⟨some 88, .ld (some 1) (.t 5), none⟩,
    ⟨some 89, .mv (.t 6), none⟩,
    ⟨some 90, .call 17 [.t 88, .t 89], none⟩,
    ⟨some 91, .bin .gtr (.t 90) (.c (.int .i64 1000)), none⟩,
    ⟨some 2, .mv (.t 91), none⟩] [] [2])
  .ret)
  .skip))
  (.seq (.reg false [⟨some 93, .ld (some 1) (.t 5), none⟩,
    ⟨some 94, .mv (.t 13), none⟩,
    ⟨some 95, .call 9 [.t 93, .t 94], none⟩,
    ⟨some 92, .mv (.t 95), none⟩,
    ⟨some 96, .ext (.t 92) 0, none⟩,
    ⟨some 97, .ext (.t 92) 1, none⟩,
    ⟨some 98, .ext (.t 92) 2, none⟩,
    ⟨some 99, .ext (.t 92) 3, none⟩,
    ⟨some 14, .new [.nil], none⟩,
    ⟨none, .st 1 (.t 14) (.t 96), none⟩,
    ⟨some 15, .mv (.t 97), none⟩,
    ⟨some 16, .mv (.t 98), none⟩,
    ⟨some 17, .mv (.t 99), none⟩] [] [4, 5, 6, 13, 15, 17])
  (.seq (.reg false [⟨some 100, .mv (.t 17), none⟩,
    ⟨some 101, .bin .eql (.t 100) (.c (.int .i64 0)), none⟩,
    ⟨some 102, .mv (.t 101), none⟩,
    ⟨some 103, .mv (.t 15), some (102, true)⟩,
    ⟨some 104, .mv (.t 6), some (102, true)⟩,
    ⟨some 105, .bin .eql (.t 103) (.t 104), some (102, true)⟩,
    ⟨some 106, .pick (.t 102) (.t 105) (.c (.bool false)), none⟩,
    ⟨some 107, .mv (.t 106), none⟩,
    ⟨some 108, .ld (some 1) (.t 5), some (107, true)⟩,
    ⟨some 109, .call 19 [.t 108], some (107, true)⟩,
    ⟨some 110, .pick (.t 107) (.t 109) (.c (.bool false)), none⟩,
    ⟨some 111, .mv (.t 110), none⟩,
    ⟨some 112, .mv (.t 13), some (111, true)⟩,
    ⟨some 113, .len true (.t 112), some (111, true)⟩,
    ⟨some 114, .mv (.t 4), some (111, true)⟩,
    ⟨some 115, .len true (.t 114), some (111, true)⟩,
    ⟨some 116, .bin .eql (.t 113) (.t 115), some (111, true)⟩,
    ⟨some 117, .pick (.t 111) (.t 116) (.c (.bool false)), none⟩,
    ⟨some 2, .mv (.t 117), none⟩] [] [2])
  .ret))))))))))), [(2, none)]⟩
theorem laws_FnParsed_ok : okFn Tryd.prog 5 laws_FnParsed = true := by kernel_rfl
def laws_szPool : IFn := ⟨12, (.seq (.reg false [⟨some 2, .box (.t 0), none⟩,
    ⟨some 4, .mv (.c (.int .i64 0)), none⟩] [] [1, 2])
  (.seq (.reg false [⟨some 5, .fad 0 (.t 2), none⟩,
    ⟨some 6, .ld none (.t 5), none⟩,
    ⟨some 7, .mv (.t 1), none⟩,
    ⟨some 8, .call 20 [.t 6, .t 7], none⟩,
    ⟨some 1, .mv (.t 8), none⟩] [] [1])
  (.seq (.seq (.reg false [⟨some 9, .mv (.t 1), none⟩,
    ⟨some 10, .bin .lss (.t 9) (.c (.int .i64 0)), none⟩] [] [1, 10])
  (.cond (.t 10)
  (.seq (.reg false [⟨some 4, .mv (.c (.int .i64 (-1))), none⟩] [] [4])
  .ret)
  .skip))
  (.seq (.reg false [⟨some 11, .mv (.t 1), none⟩,
    ⟨some 4, .mv (.t 11), none⟩] [] [4])
  .ret)))), [(4, none)]⟩
theorem laws_szPool_ok : okFn Tryd.prog 6 laws_szPool = true := by kernel_rfl
def spec_TermParse : IFn := ⟨53, (.seq (.reg false [⟨some 2, .box (.t 0), none⟩,
    ⟨some 4, .new [.nil], none⟩,
    ⟨some 5, .mv (.c (.int .i64 0)), none⟩,
    ⟨some 6, .mv (.c (.int .i64 0)), none⟩,
    ⟨some 7, .mv (.c (.int .i64 0)), none⟩] [] [1, 2, 4])
  (.seq (.reg false [⟨some 14, .ld (some 1) (.t 2), none⟩,
    ⟨some 15, .call 21 [.t 14], none⟩,
    ⟨some 8, .mv (.t 15), none⟩] [] [1, 2, 4, 8])
  (.seq (.reg false [⟨some 16, .build [.nil] [], none⟩,
    ⟨some 9, .new [.nil], none⟩,
    ⟨none, .st 1 (.t 9) (.t 16), none⟩] [] [1, 2, 4, 8, 9])
  (.seq (.seq (.reg false [⟨some 17, .mv (.t 8), none⟩] [] [1, 2, 4, 8, 9, 17])
  (.cond (.t 17)
  (.reg false [⟨some 18, .ld (some 1) (.t 2), none⟩,
    ⟨some 19, .call 22 [.t 18], none⟩,
    ⟨none, .st 1 (.t 9) (.t 19), none⟩] [] [1, 2, 4, 8, 9])
  .skip))
  (.seq (.block 0 (.seq (.reg false [⟨some 21, .mv (.t 1), none⟩,
    ⟨some 22, .len true (.t 21), none⟩,
    ⟨some 23, .bin .gtr (.t 22) (.c (.int .i64 2000)), none⟩,
    ⟨some 20, .mv (.t 23), none⟩] [] [1, 2, 4, 8, 9, 20])
  (.cond (.t 20)
  (.seq (.reg false [⟨some 24, .ld (some 1) (.t 9), none⟩,
    ⟨none, .st 1 (.t 4) (.t 24), none⟩,
    ⟨some 5, .mv (.c (.int .i64 (-1))), none⟩,
    ⟨some 6, .mv (.c (.int .i64 0)), none⟩,
    ⟨some 7, .mv (.c (.int .i64 1)), none⟩] [] [4, 5, 6, 7])
  .ret)
  (.seq (.reg false [⟨some 26, .mv (.t 8), none⟩,
    ⟨some 27, .not (.t 26), none⟩,
    ⟨some 25, .mv (.t 27), none⟩] [] [1, 2, 4, 9, 25])
  (.cond (.t 25)
  (.seq (.reg false [⟨some 28, .ld (some 1) (.t 9), none⟩,
    ⟨none, .st 1 (.t 4) (.t 28), none⟩,
    ⟨some 5, .mv (.c (.int .i64 (-1))), none⟩,
    ⟨some 6, .mv (.c (.int .i64 0)), none⟩,
    ⟨some 7, .mv (.c (.int .i64 5)), none⟩] [] [4, 5, 6, 7])
  .ret)
  .skip)))))
  (.seq (.reg false [⟨some 30, .ld (some 1) (.t 2), none⟩,
    ⟨some 31, .mv (.t 1), none⟩,
    ⟨some 32, .call 23 [.t 30, .t 31, .c (.int .i64 0)], none⟩,
    ⟨some 29, .mv (.t 32), none⟩,
    ⟨some 33, .ext (.t 29) 0, none⟩,
    ⟨some 34, .ext (.t 29) 1, none⟩,
    ⟨some 35, .ext (.t 29) 2, none⟩,
    ⟨some 36, .ext (.t 29) 3, none⟩,
    ⟨some 10, .new [.nil], none⟩,
    ⟨none, .st 1 (.t 10) (.t 33), none⟩,
    ⟨some 11, .mv (.t 34), none⟩,
    ⟨some 12, .mv (.t 35), none⟩,
    ⟨some 13, .mv (.t 36), none⟩] [] [1, 4, 9, 10, 11, 12, 13])
  (.seq (.seq (.reg false [⟨some 37, .mv (.t 13), none⟩,
    ⟨some 38, .bin .neq (.t 37) (.c (.int .i64 0)), none⟩] [] [1, 4, 9, 10, 11, 12, 13, 38])
  (.cond (.t 38)
  (.seq (.reg false [⟨some 39, .ld (some 1) (.t 9), none⟩,
    ⟨some 40, .mv (.t 12), none⟩,
    ⟨some 41, .mv (.t 13), none⟩,
    ⟨none, .st 1 (.t 4) (.t 39), none⟩,
    ⟨some 5, .mv (.c (.int .i64 (-1))), none⟩,
    ⟨some 6, .mv (.t 40), none⟩,
    ⟨some 7, .mv (.t 41), none⟩] [] [4, 5, 6, 7])
  .ret)
  .skip))
  (.seq (.seq (.reg false [⟨some 42, .mv (.t 12), none⟩,
    ⟨some 43, .mv (.t 1), none⟩,
    ⟨some 44, .len true (.t 43), none⟩,
    ⟨some 45, .bin .lss (.t 42) (.t 44), none⟩] [] [4, 9, 10, 11, 12, 13, 45])
  (.cond (.t 45)
  (.seq (.reg false [⟨some 46, .ld (some 1) (.t 9), none⟩,
    ⟨some 47, .mv (.t 12), none⟩,
    ⟨none, .st 1 (.t 4) (.t 46), none⟩,
    ⟨some 5, .mv (.c (.int .i64 (-1))), none⟩,
    ⟨some 6, .mv (.t 47), none⟩,
    ⟨some 7, .mv (.c (.int .i64 6)), none⟩] [] [4, 5, 6, 7])
  .ret)
  .skip))
  (.seq (.reg false [⟨some 48, .ld (some 1) (.t 10), none⟩,
    ⟨some 49, .call 22 [.t 48], none⟩,
    ⟨some 50, .mv (.t 11), none⟩,
    ⟨some 51, .mv (.t 12), none⟩,
    ⟨some 52, .mv (.t 13), none⟩,
    ⟨none, .st 1 (.t 4) (.t 49), none⟩,
    ⟨some 5, .mv (.t 50), none⟩,
    ⟨some 6, .mv (.t 51), none⟩,
    ⟨some 7, .mv (.t 52), none⟩] [] [4, 5, 6, 7])
  .ret))))))))), [(4, some (some 1)), (5, none), (6, none), (7, none)]⟩
theorem spec_TermParse_ok : okFn Tryd.prog 7 spec_TermParse = true := by kernel_rfl
def laws_toPool : IFn := ⟨9, (.seq (.reg false [⟨some 1, .box (.t 0), none⟩,
    ⟨some 2, .new [.nil], none⟩] [] [1, 2])
  (.seq (.reg false [⟨some 3, .new [.nil], none⟩] [] [1, 2, 3])
  (.seq (.reg false [⟨some 4, .fad 0 (.t 1), none⟩,
    ⟨some 5, .ld none (.t 4), none⟩,
    ⟨some 6, .call 24 [.t 5], none⟩,
    ⟨some 7, .fad 0 (.t 3), none⟩,
    ⟨none, .st 1 (.t 7) (.t 6), none⟩] [] [2, 3])
  (.seq (.reg false [⟨some 8, .ld (some 1) (.t 3), none⟩,
    ⟨none, .st 1 (.t 2) (.t 8), none⟩] [] [2])
  .ret)))), [(2, some (some 1))]⟩
theorem laws_toPool_ok : okFn Tryd.prog 8 laws_toPool = true := by kernel_rfl
def impl_TermParse : IFn := ⟨56, (.seq (.reg false [⟨some 2, .box (.t 0), none⟩,
    ⟨some 4, .new [.nil], none⟩,
    ⟨some 5, .mv (.c (.int .i64 0)), none⟩,
    ⟨some 6, .mv (.c (.int .i64 0)), none⟩,
    ⟨some 7, .mv (.c (.int .i64 0)), none⟩] [] [1, 2, 4])
  (.seq (.block 0 (.seq (.reg false [⟨some 12, .mv (.t 1), none⟩,
    ⟨some 13, .len true (.t 12), none⟩,
    ⟨some 14, .bin .gtr (.t 13) (.c (.int .i64 2000)), none⟩,
    ⟨some 11, .mv (.t 14), none⟩] [] [1, 2, 4, 11])
  (.cond (.t 11)
  (.seq (.reg false [⟨some 15, .ld (some 1) (.t 2), none⟩,
    ⟨some 16, .call 25 [.t 15], none⟩,
    ⟨none, .st 1 (.t 4) (.t 16), none⟩,
    ⟨some 5, .mv (.c (.int .i64 (-1))), none⟩,
    ⟨some 6, .mv (.c (.int .i64 0)), none⟩,
    ⟨some 7, .mv (.c (.int .i64 1)), none⟩] [] [4, 5, 6, 7])
  .ret)
  (.seq (.reg false [⟨some 18, .ld (some 1) (.t 2), none⟩,
    ⟨some 19, .call 19 [.t 18], none⟩,
    ⟨some 20, .not (.t 19), none⟩,
    ⟨some 17, .mv (.t 20), none⟩] [] [1, 2, 4, 17])
  (.cond (.t 17)
  (.seq (.reg false [⟨some 21, .build [.nil] [], none⟩,
    ⟨none, .st 1 (.t 4) (.t 21), none⟩,
    ⟨some 5, .mv (.c (.int .i64 (-1))), none⟩,
    ⟨some 6, .mv (.c (.int .i64 0)), none⟩,
    ⟨some 7, .mv (.c (.int .i64 5)), none⟩] [] [4, 5, 6, 7])
  .ret)
  .skip)))))
  (.seq (.reg false [⟨some 22, .ld (some 1) (.t 2), none⟩,
    ⟨some 23, .call 26 [.t 22], none⟩,
    ⟨some 8, .new [.nil], none⟩,
    ⟨none, .st 1 (.t 8) (.t 23), none⟩] [] [1, 2, 4, 8])
  (.seq (.reg false [⟨some 24, .mv (.t 1), none⟩,
    ⟨some 25, .build [.str ⟨#[]⟩, .int .i64 0, .int .i64 0, .str ⟨#[]⟩, .nilf, .nilf] [(0, 1, .t 24)], none⟩,
    ⟨some 26, .box (.t 25), none⟩,
    ⟨some 9, .mv (.t 26), none⟩] [] [1, 2, 4, 8, 9])
  (.seq (.reg false [⟨some 27, .mv (.t 9), none⟩,
    ⟨some 28, .mkf 27 [.t 8], none⟩,
    ⟨some 29, .nck (.t 27), none⟩,
    ⟨some 30, .fad 4 (.t 29), none⟩,
    ⟨none, .st 1 (.t 30) (.t 28), none⟩] [] [1, 2, 4, 8, 9])
  (.seq (.reg false [⟨some 31, .mv (.t 9), none⟩,
    ⟨some 32, .mkf 31 [.t 8], none⟩,
    ⟨some 33, .nck (.t 31), none⟩,
    ⟨some 34, .fad 5 (.t 33), none⟩,
    ⟨none, .st 1 (.t 34) (.t 32), none⟩] [] [1, 2, 4, 8, 9])
  (.seq (.reg false [⟨some 35, .mv (.t 9), none⟩,
    ⟨some 36, .call 33 [.t 35, .c (.int .i64 2000)], none⟩,
    ⟨some 10, .mv (.t 36), none⟩] [] [1, 2, 4, 8, 9, 10])
  (.seq (.seq (.reg false [⟨some 37, .mv (.t 9), none⟩,
    ⟨some 38, .nck (.t 37), none⟩,
    ⟨some 39, .fad 2 (.t 38), none⟩,
    ⟨some 40, .ld none (.t 39), none⟩,
    ⟨some 41, .bin .neq (.t 40) (.c (.int .i64 0)), none⟩] [] [1, 2, 4, 8, 9, 10, 41])
  (.cond (.t 41)
  (.seq (.reg true [⟨some 42, .ld (some 1) (.t 2), none⟩,
    ⟨some 43, .call 26 [.t 42], none⟩,
    ⟨some 44, .mv (.t 9), none⟩,
    ⟨some 45, .nck (.t 44), none⟩,
    ⟨some 46, .fad 1 (.t 45), none⟩,
    ⟨some 47, .ld none (.t 46), none⟩,
    ⟨some 48, .mv (.t 9), none⟩,
    ⟨some 49, .nck (.t 48), none⟩,
    ⟨some 50, .fad 2 (.t 49), none⟩,
    ⟨some 51, .ld none (.t 50), none⟩,
    ⟨none, .st 1 (.t 4) (.t 43), none⟩,
    ⟨some 5, .mv (.c (.int .i64 (-1))), none⟩,
    ⟨some 6, .mv (.t 47), none⟩,
    ⟨some 7, .mv (.t 51), none⟩] [0, 1, 0, 4, 12, 28, 0, 64, 192, 448, 3, 1027, 3135, 8191] [4, 5, 6, 7])
  .ret)
  .skip))
  (.seq (.reg false [⟨some 52, .ld (some 1) (.t 8), none⟩,
    ⟨some 53, .mv (.t 10), none⟩,
    ⟨some 54, .mv (.t 1), none⟩,
    ⟨some 55, .len true (.t 54), none⟩,
    ⟨none, .st 1 (.t 4) (.t 52), none⟩,
    ⟨some 5, .mv (.t 53), none⟩,
    ⟨some 6, .mv (.t 55), none⟩,
    ⟨some 7, .mv (.c (.int .i64 0)), none⟩] [] [4, 5, 6, 7])
  .ret))))))))), [(4, some (some 1)), (5, none), (6, none), (7, none)]⟩
theorem impl_TermParse_ok : okFn Tryd.prog 9 impl_TermParse = true := by kernel_rfl
def laws_eqPool : IFn := ⟨11, (.seq (.reg false [⟨some 2, .box (.t 0), none⟩,
    ⟨some 3, .box (.t 1), none⟩,
    ⟨some 4, .mv (.c (.bool false)), none⟩] [] [2, 3])
  (.seq (.seq (.reg false [⟨some 5, .fad 0 (.t 2), none⟩,
    ⟨some 6, .ld none (.t 5), none⟩,
    ⟨some 7, .fad 0 (.t 3), none⟩,
    ⟨some 8, .ld none (.t 7), none⟩,
    ⟨some 9, .call 34 [.t 6, .t 8], none⟩,
    ⟨some 10, .not (.t 9), none⟩] [] [10])
  (.cond (.t 10)
  (.seq (.reg false [⟨some 4, .mv (.c (.bool false)), none⟩] [] [4])
  .ret)
  .skip))
  (.seq (.reg false [⟨some 4, .mv (.c (.bool true)), none⟩] [] [4])
  .ret))), [(4, none)]⟩
theorem laws_eqPool_ok : okFn Tryd.prog 10 laws_eqPool = true := by kernel_rfl
def laws_big : IFn := ⟨6, (.seq (.reg false [⟨some 2, .mv (.c (.bool false)), none⟩] [] [0])
  (.seq (.reg false [⟨some 3, .mv (.t 0), none⟩,
    ⟨some 4, .len false (.t 3), none⟩,
    ⟨some 5, .bin .gtr (.t 4) (.c (.int .i64 1048576)), none⟩,
    ⟨some 2, .mv (.t 5), none⟩] [] [2])
  .ret)), [(2, none)]⟩
theorem laws_big_ok : okFn Tryd.prog 13 laws_big = true := by kernel_rfl
def spec_DrawTermPrint : IFn := ⟨13, (.seq (.reg false [⟨some 2, .new [.nil], none⟩,
    ⟨some 3, .mv (.c (.int .i64 0)), none⟩] [] [0, 2])
  (.seq (.reg false [⟨some 7, .mv (.t 0), none⟩,
    ⟨some 8, .call 37 [.t 7], none⟩,
    ⟨some 6, .mv (.t 8), none⟩,
    ⟨some 9, .ext (.t 6) 0, none⟩,
    ⟨some 10, .ext (.t 6) 1, none⟩,
    ⟨some 4, .new [.nil], none⟩,
    ⟨none, .st 1 (.t 4) (.t 9), none⟩,
    ⟨some 5, .mv (.t 10), none⟩] [] [2, 4, 5])
  (.seq (.reg false [⟨some 11, .ld (some 1) (.t 4), none⟩,
    ⟨some 12, .mv (.t 5), none⟩,
    ⟨none, .st 1 (.t 2) (.t 11), none⟩,
    ⟨some 3, .mv (.t 12), none⟩] [] [2, 3])
  .ret))), [(2, some (some 1)), (3, none)]⟩
theorem spec_DrawTermPrint_ok : okFn Tryd.prog 14 spec_DrawTermPrint = true := by kernel_rfl
def impl_TermPrint : IFn := ⟨12, (.seq (.reg false [⟨some 2, .box (.t 0), none⟩,
    ⟨some 4, .mv (.c (.str ⟨#[]⟩)), none⟩] [] [1, 2])
  (.seq (.seq (.reg false [⟨some 5, .ld (some 1) (.t 2), none⟩,
    ⟨some 6, .mv (.t 1), none⟩,
    ⟨some 7, .call 17 [.t 5, .t 6], none⟩,
    ⟨some 8, .call 38 [.t 7, .c (.int .i64 1), .c (.int .i64 1000)], none⟩,
    ⟨some 9, .not (.t 8), none⟩] [] [1, 2, 9])
  (.cond (.t 9)
  (.seq (.reg false [⟨some 4, .mv (.c (.str ⟨#[]⟩)), none⟩] [] [4])
  .ret)
  .skip))
  (.seq (.reg false [⟨some 10, .mv (.t 1), none⟩,
    ⟨some 11, .call 39 [.t 2, .t 10], none⟩,
    ⟨some 4, .mv (.t 11), none⟩] [] [4])
  .ret))), [(4, none)]⟩
theorem impl_TermPrint_ok : okFn Tryd.prog 15 impl_TermPrint = true := by kernel_rfl
def spec_TermPrint : IFn := ⟨13, (.seq (.reg false [⟨some 2, .box (.t 0), none⟩,
    ⟨some 4, .mv (.c (.str ⟨#[]⟩)), none⟩] [] [1, 2])
  (.seq (.seq (.reg false [⟨some 5, .ld (some 1) (.t 2), none⟩,
    ⟨some 6, .mv (.t 1), none⟩,
    ⟨some 7, .call 41 [.t 5, .t 6], none⟩,
    ⟨some 8, .call 40 [.t 7, .c (.int .i64 1), .c (.int .i64 1000)], none⟩,
    ⟨some 9, .not (.t 8), none⟩] [] [1, 2, 9])
  (.cond (.t 9)
  (.seq (.reg false [⟨some 4, .mv (.c (.str ⟨#[]⟩)), none⟩] [] [4])
  .ret)
  .skip))
  (.seq (.reg false [⟨some 10, .ld (some 1) (.t 2), none⟩,
    ⟨some 11, .mv (.t 1), none⟩,
    ⟨some 12, .call 42 [.t 10, .t 11], none⟩,
    ⟨some 4, .mv (.t 12), none⟩] [] [4])
  .ret))), [(4, none)]⟩
theorem spec_TermPrint_ok : okFn Tryd.prog 16 spec_TermPrint = true := by kernel_rfl
def impl_TermSize : IFn := ⟨15, (.seq (.reg false [⟨some 2, .box (.t 0), none⟩,
    ⟨some 4, .mv (.c (.int .i64 0)), none⟩] [] [1, 2])
  (.seq (.seq (.reg false [⟨some 5, .mv (.t 1), none⟩,
    ⟨some 6, .call 43 [.t 2, .t 5], none⟩,
    ⟨some 7, .not (.t 6), none⟩,
    ⟨some 8, .mv (.t 7), none⟩,
    ⟨some 9, .ld (some 1) (.t 2), some (8, false)⟩,
    ⟨some 10, .call 19 [.t 9], some (8, false)⟩,
    ⟨some 11, .not (.t 10), some (8, false)⟩,
    ⟨some 12, .pick (.t 8) (.c (.bool true)) (.t 11), none⟩] [] [1, 2, 12])
  (.cond (.t 12)
  (.seq (.reg false [⟨some 4, .mv (.c (.int .i64 0)), none⟩] [] [4])
  .ret)
  .skip))
  (.seq (.reg false [⟨some 13, .mv (.t 1), none⟩,
    ⟨some 14, .call 44 [.t 2, .t 13], none⟩,
    ⟨some 4, .mv (.t 14), none⟩] [] [4])
  .ret))), [(4, none)]⟩
theorem impl_TermSize_ok : okFn Tryd.prog 17 impl_TermSize = true := by kernel_rfl
def spec_DrawTermParse : IFn := ⟨33, (.seq (.reg false [⟨some 2, .new [.nil], none⟩,
    ⟨some 3, .mv (.c (.str ⟨#[]⟩)), none⟩] [] [0, 2])
  (.seq (.reg false [⟨some 7, .mv (.t 0), none⟩,
    ⟨some 8, .call 45 [.t 7], none⟩,
    ⟨some 4, .mv (.t 8), none⟩] [] [2, 4])
  (.seq (.reg false [⟨some 9, .mv (.t 4), none⟩,
    ⟨some 10, .call 46 [.t 9], none⟩,
    ⟨some 5, .new [.nil], none⟩,
    ⟨none, .st 1 (.t 5) (.t 10), none⟩] [] [2, 4, 5])
  (.seq (.reg false [⟨some 11, .mv (.t 4), none⟩,
    ⟨some 12, .call 47 [.t 11], none⟩,
    ⟨some 6, .mv (.t 12), none⟩] [] [2, 4, 5, 6])
  (.seq (.seq (.reg false [⟨some 13, .mv (.t 4), none⟩,
    ⟨some 14, .call 48 [.t 13, .c (.int .i64 2)], none⟩] [] [2, 4, 5, 6, 14])
  (.cond (.t 14)
  (.reg false [⟨some 15, .mv (.t 4), none⟩,
    ⟨some 16, .mv (.t 6), none⟩,
    ⟨some 17, .bsl 1 17 [.str ⟨#[]⟩] [(0, 1, .c (.str ⟨#[110]⟩)), (1, 1, .c (.str ⟨#[48]⟩)), (2, 1, .c (.str ⟨#[40]⟩)), (3, 1, .c (.str ⟨#[41]⟩)), (4, 1, .c (.str ⟨#[44]⟩)), (5, 1, .c (.str ⟨#[123]⟩)), (6, 1, .c (.str ⟨#[125]⟩)), (7, 1, .c (.str ⟨#[91]⟩)), (8, 1, .c (.str ⟨#[93]⟩)), (9, 1, .c (.str ⟨#[35]⟩)), (10, 1, .c (.str ⟨#[94]⟩)), (11, 1, .c (.str ⟨#[107]⟩)), (12, 1, .c (.str ⟨#[42]⟩)), (13, 1, .c (.str ⟨#[110, 50, 48, 48]⟩)), (14, 1, .c (.str ⟨#[110, 48, 53]⟩)), (15, 1, .c (.str ⟨#[57]⟩)), (16, 1, .c (.str ⟨#[32]⟩))], none⟩,
    ⟨some 18, .call 49 [.t 15, .t 16, .t 17], none⟩,
    ⟨some 6, .mv (.t 18), none⟩] [] [2, 4, 5, 6])
  .skip))
  (.seq (.seq (.reg false [⟨some 19, .mv (.t 4), none⟩,
    ⟨some 20, .call 48 [.t 19, .c (.int .i64 60)], none⟩] [] [2, 4, 5, 6, 20])
  (.cond (.t 20)
  (.seq (.reg false [⟨some 6, .mv (.c (.str ⟨#[]⟩)), none⟩] [] [2, 4, 5, 6])
  (.seq (.block 0 (.loop (.seq (.seq (.reg false [⟨some 21, .mv (.t 6), none⟩,
    ⟨some 22, .len true (.t 21), none⟩,
    ⟨some 23, .mv (.t 4), none⟩,
    ⟨some 24, .call 50 [.t 23, .c (.int .i64 2)], none⟩,
    ⟨some 25, .bin .add (.c (.int .i64 1998)) (.t 24), none⟩,
    ⟨some 26, .bin .lss (.t 22) (.t 25), none⟩] [] [2, 4, 5, 6, 26])
  (.cond (.t 26)
  .skip
  (.exit 0)))
  (.block 1 (.reg false [⟨some 27, .mv (.t 6), none⟩,
    ⟨some 28, .bin .add (.t 27) (.c (.str ⟨#[35]⟩)), none⟩,
    ⟨some 6, .mv (.t 28), none⟩] [] [2, 4, 5, 6])))))
  (.reg false [⟨some 29, .mv (.t 6), none⟩,
    ⟨some 30, .bin .add (.t 29) (.c (.str ⟨#[110, 53]⟩)), none⟩,
    ⟨some 6, .mv (.t 30), none⟩] [] [2, 5, 6])))
  .skip))
  (.seq (.reg false [⟨some 31, .ld (some 1) (.t 5), none⟩,
    ⟨some 32, .mv (.t 6), none⟩,
    ⟨none, .st 1 (.t 2) (.t 31), none⟩,
    ⟨some 3, .mv (.t 32), none⟩] [] [2, 3])
  .ret))))))), [(2, some (some 1)), (3, none)]⟩
theorem spec_DrawTermParse_ok : okFn Tryd.prog 18 spec_DrawTermParse = true := by kernel_rfl
def impl_PoolOk : IFn := ⟨36, (.seq (.reg false [⟨some 1, .box (.t 0), none⟩,
    ⟨some 2, .mv (.c (.bool false)), none⟩] [] [1])
  (.seq (.seq (.reg false [⟨some 6, .fad 0 (.t 1), none⟩,
    ⟨some 7, .ld none (.t 6), none⟩,
    ⟨some 8, .len false (.t 7), none⟩,
    ⟨some 9, .bin .gtr (.t 8) (.c (.int .i64 500)), none⟩] [] [1, 9])
  (.cond (.t 9)
  (.seq (.reg false [⟨some 2, .mv (.c (.bool false)), none⟩] [] [2])
  .ret)
  .skip))
  (.seq (.reg false [⟨some 10, .mkm true, none⟩,
    ⟨some 3, .mv (.t 10), none⟩] [] [1, 3])
  (.seq (.seq (.reg false [⟨some 11, .fad 0 (.t 1), none⟩,
    ⟨some 12, .ld none (.t 11), none⟩,
    ⟨some 13, .len false (.t 12), none⟩,
    ⟨some 14, .mv (.c (.int .i64 0)), none⟩] [] [3, 12, 13, 14])
  (.block 0 (.loop (.seq (.reg false [⟨some 15, .bin .lss (.t 14) (.t 13), none⟩] [] [3, 12, 13, 14, 15])
  (.seq (.cond (.t 15)
  .skip
  (.exit 0))
  (.seq (.block 1 (.seq (.reg false [⟨some 16, .mv (.t 14), none⟩,
    ⟨some 17, .iad 3 (.t 12) (.t 14), none⟩,
    ⟨some 18, .ld (some 3) (.t 17), none⟩,
    ⟨some 5, .new [.int .i64 0, .int .i64 0, .int .i64 0], none⟩,
    ⟨some 4, .mv (.t 16), none⟩,
    ⟨none, .st 3 (.t 5) (.t 18), none⟩] [] [3, 4, 5, 12, 13, 14])
  (.seq (.reg true [⟨some 19, .mv (.t 3), none⟩,
    ⟨some 20, .ld (some 3) (.t 5), none⟩,
    ⟨some 21, .mlk true (.t 19) (.t 20), none⟩,
    ⟨some 22, .bin .add (.t 21) (.c (.int .i64 1)), none⟩,
    ⟨some 23, .men true (.t 19) (.t 20), none⟩,
    ⟨some 24, .ext (.t 23) 1, none⟩,
    ⟨none, .mst true (.t 19) (.t 24) (.t 22), none⟩] [0, 0, 3, 7, 3, 19, 63] [3, 4, 5, 12, 13, 14])
  (.seq (.reg false [⟨some 25, .mv (.t 3), none⟩,
    ⟨some 26, .ld (some 3) (.t 5), none⟩,
    ⟨some 27, .mlk true (.t 25) (.t 26), none⟩,
    ⟨some 28, .bin .gtr (.t 27) (.c (.int .i64 1)), none⟩,
    ⟨some 29, .mv (.t 28), none⟩,
    ⟨some 30, .ld (some 3) (.t 5), some (29, false)⟩,
    ⟨some 31, .mv (.t 4), some (29, false)⟩,
    ⟨some 32, .call 51 [.t 30, .t 31], some (29, false)⟩,
    ⟨some 33, .not (.t 32), some (29, false)⟩,
    ⟨some 34, .pick (.t 29) (.c (.bool true)) (.t 33), none⟩] [] [3, 12, 13, 14, 34])
  (.cond (.t 34)
  (.seq (.reg false [⟨some 2, .mv (.c (.bool false)), none⟩] [] [2])
  .ret)
  .skip)))))
  (.reg false [⟨some 35, .bin .add (.t 14) (.c (.int .i64 1)), none⟩,
    ⟨some 14, .mv (.t 35), none⟩] [] [3, 12, 13, 14])))))))
  (.seq (.reg false [⟨some 2, .mv (.c (.bool true)), none⟩] [] [2])
  .ret))))), [(2, none)]⟩
theorem impl_PoolOk_ok : okFn Tryd.prog 19 impl_PoolOk = true := by kernel_rfl
def laws_szNodeS : IFn := ⟨12, (.seq (.reg false [⟨some 4, .mv (.c (.int .i64 0)), none⟩] [] [0, 1])
  (.seq (.reg false [⟨some 5, .mv (.t 1), none⟩,
    ⟨some 6, .mv (.t 0), none⟩,
    ⟨some 7, .len false (.t 6), none⟩,
    ⟨some 8, .bin .sub (.t 5) (.t 7), none⟩,
    ⟨some 1, .mv (.t 8), none⟩] [] [1])
  (.seq (.seq (.reg false [⟨some 9, .mv (.t 1), none⟩,
    ⟨some 10, .bin .lss (.t 9) (.c (.int .i64 0)), none⟩] [] [1, 10])
  (.cond (.t 10)
  (.seq (.reg false [⟨some 4, .mv (.c (.int .i64 (-1))), none⟩] [] [4])
  .ret)
  .skip))
  (.seq (.reg false [⟨some 11, .mv (.t 1), none⟩,
    ⟨some 4, .mv (.t 11), none⟩] [] [4])
  .ret)))), [(4, none)]⟩
theorem laws_szNodeS_ok : okFn Tryd.prog 20 laws_szNodeS = true := by kernel_rfl
def spec_PoolOk : IFn := ⟨34, (.seq (.reg false [⟨some 1, .box (.t 0), none⟩,
    ⟨some 2, .mv (.c (.bool false)), none⟩] [] [1])
  (.seq (.seq (.reg false [⟨some 4, .fad 0 (.t 1), none⟩,
    ⟨some 5, .ld none (.t 4), none⟩,
    ⟨some 6, .len false (.t 5), none⟩,
    ⟨some 7, .bin .gtr (.t 6) (.c (.int .i64 500)), none⟩] [] [1, 7])
  (.cond (.t 7)
  (.seq (.reg false [⟨some 2, .mv (.c (.bool false)), none⟩] [] [2])
  .ret)
  .skip))
  (.seq (.seq (.reg false [⟨some 3, .mv (.c (.int .i64 0)), none⟩] [] [1, 3])
  (.block 0 (.loop (.seq (.seq (.reg false [⟨some 8, .mv (.t 3), none⟩,
    ⟨some 9, .fad 0 (.t 1), none⟩,
    ⟨some 10, .ld none (.t 9), none⟩,
    ⟨some 11, .len false (.t 10), none⟩,
    ⟨some 12, .bin .lss (.t 8) (.t 11), none⟩] [] [1, 3, 12])
  (.cond (.t 12)
  .skip
  (.exit 0)))
  (.seq (.block 1 (.seq (.reg true [⟨some 15, .fad 0 (.t 1), none⟩,
    ⟨some 16, .ld none (.t 15), none⟩,
    ⟨some 17, .mv (.t 3), none⟩,
    ⟨some 18, .iad 3 (.t 16) (.t 17), none⟩,
    ⟨some 19, .ld (some 3) (.t 18), none⟩,
    ⟨some 20, .mv (.t 3), none⟩,
    ⟨some 21, .call 52 [.t 19, .t 20], none⟩,
    ⟨some 22, .not (.t 21), none⟩,
    ⟨some 23, .mv (.t 22), none⟩,
    ⟨some 24, .ld (some 1) (.t 1), some (23, false)⟩,
    ⟨some 25, .fad 0 (.t 1), some (23, false)⟩,
    ⟨some 26, .ld none (.t 25), some (23, false)⟩,
    ⟨some 27, .mv (.t 3), some (23, false)⟩,
    ⟨some 28, .iad 3 (.t 26) (.t 27), some (23, false)⟩,
    ⟨some 29, .ld (some 3) (.t 28), some (23, false)⟩,
    ⟨some 30, .call 53 [.t 24, .t 29], some (23, false)⟩,
    ⟨some 31, .mv (.t 3), some (23, false)⟩,
    ⟨some 32, .bin .neq (.t 30) (.t 31), some (23, false)⟩,
    ⟨some 33, .pick (.t 23) (.c (.bool true)) (.t 32), none⟩] [0, 1, 0, 7, 15, 0, 63, 127, 255, 511, 511, 1535, 511, 7679, 15871, 32767, 511, 131071, 262143] [1, 3, 33])
  (.cond (.t 33)
  (.seq (.reg false [⟨some 2, .mv (.c (.bool false)), none⟩] [] [2])
  .ret)
  .skip)))
  (.reg false [⟨some 13, .mv (.t 3), none⟩,
    ⟨some 14, .bin .add (.t 13) (.c (.int .i64 1)), none⟩,
    ⟨some 3, .mv (.t 14), none⟩] [] [1, 3]))))))
  (.seq (.reg false [⟨some 2, .mv (.c (.bool true)), none⟩] [] [2])
  .ret)))), [(2, none)]⟩
theorem spec_PoolOk_ok : okFn Tryd.prog 21 spec_PoolOk = true := by kernel_rfl
def spec_l1Copy : IFn := ⟨8, (.seq (.reg false [⟨some 1, .box (.t 0), none⟩,
    ⟨some 2, .new [.nil], none⟩] [] [1, 2])
  (.seq (.reg false [⟨some 3, .bsl 3 0 [.int .i64 0, .int .i64 0, .int .i64 0] [], none⟩,
    ⟨some 4, .fad 0 (.t 1), none⟩,
    ⟨some 5, .ld none (.t 4), none⟩,
    ⟨some 6, .app 3 24 (.t 3) (.t 5), none⟩,
    ⟨some 7, .build [.nil] [(0, 1, .t 6)], none⟩,
    ⟨none, .st 1 (.t 2) (.t 7), none⟩] [] [2])
  .ret)), [(2, some (some 1))]⟩
theorem spec_l1Copy_ok : okFn Tryd.prog 22 spec_l1Copy = true := by kernel_rfl
def spec_l4Parse : IFn := ⟨155, (.seq (.reg false [⟨some 3, .box (.t 0), none⟩,
    ⟨some 6, .new [.nil], none⟩,
    ⟨some 7, .mv (.c (.int .i64 0)), none⟩,
    ⟨some 8, .mv (.c (.int .i64 0)), none⟩,
    ⟨some 9, .mv (.c (.int .i64 0)), none⟩] [] [1, 2, 3, 6])
  (.seq (.seq (.reg false [⟨some 23, .mv (.t 2), none⟩,
    ⟨some 24, .mv (.t 1), none⟩,
    ⟨some 25, .len true (.t 24), none⟩,
    ⟨some 26, .bin .geq (.t 23) (.t 25), none⟩] [] [1, 2, 3, 6, 26])
  (.cond (.t 26)
  (.seq (.reg false [⟨some 27, .ld (some 1) (.t 3), none⟩,
    ⟨some 28, .mv (.t 1), none⟩,
    ⟨some 29, .len true (.t 28), none⟩,
    ⟨none, .st 1 (.t 6) (.t 27), none⟩,
    ⟨some 7, .mv (.c (.int .i64 (-1))), none⟩,
    ⟨some 8, .mv (.t 29), none⟩,
    ⟨some 9, .mv (.c (.int .i64 2)), none⟩] [] [6, 7, 8, 9])
  .ret)
  .skip))
  (.seq (.seq (.reg false [⟨some 30, .mv (.t 1), none⟩,
    ⟨some 31, .mv (.t 2), none⟩,
    ⟨some 32, .idxs (.t 30) (.t 31), none⟩,
    ⟨some 33, .bin .eql (.t 32) (.c (.int .u8 110)), none⟩] [] [1, 2, 3, 6, 33])
  (.cond (.t 33)
  (.seq (.reg false [⟨some 35, .mv (.t 1), none⟩,
    ⟨some 36, .mv (.t 2), none⟩,
    ⟨some 37, .bin .add (.t 36) (.c (.int .i64 1)), none⟩,
    ⟨some 38, .call 54 [.t 35, .t 37], none⟩,
    ⟨some 34, .mv (.t 38), none⟩,
    ⟨some 39, .ext (.t 34) 0, none⟩,
    ⟨some 40, .ext (.t 34) 1, none⟩,
    ⟨some 41, .ext (.t 34) 2, none⟩,
    ⟨some 10, .mv (.t 39), none⟩,
    ⟨some 11, .mv (.t 40), none⟩,
    ⟨some 12, .mv (.t 41), none⟩] [] [2, 3, 6, 10, 11, 12])
  (.seq (.seq (.reg false [⟨some 42, .mv (.t 12), none⟩,
    ⟨some 43, .not (.t 42), none⟩] [] [2, 3, 6, 10, 11, 43])
  (.cond (.t 43)
  (.seq (.reg false [⟨some 44, .ld (some 1) (.t 3), none⟩,
    ⟨some 45, .mv (.t 2), none⟩,
    ⟨none, .st 1 (.t 6) (.t 44), none⟩,
    ⟨some 7, .mv (.c (.int .i64 (-1))), none⟩,
    ⟨some 8, .mv (.t 45), none⟩,
    ⟨some 9, .mv (.c (.int .i64 4)), none⟩] [] [6, 7, 8, 9])
  .ret)
  .skip))
  (.seq (.reg false [⟨some 47, .ld (some 1) (.t 3), none⟩,
    ⟨some 48, .mv (.t 10), none⟩,
    ⟨some 49, .call 55 [.t 47, .t 48], none⟩,
    ⟨some 46, .mv (.t 49), none⟩,
    ⟨some 50, .ext (.t 46) 0, none⟩,
    ⟨some 51, .ext (.t 46) 1, none⟩,
    ⟨some 13, .new [.nil], none⟩,
    ⟨none, .st 1 (.t 13) (.t 50), none⟩,
    ⟨some 14, .mv (.t 51), none⟩] [] [3, 6, 11, 13, 14])
  (.seq (.seq (.reg false [⟨some 52, .mv (.t 14), none⟩,
    ⟨some 53, .bin .lss (.t 52) (.c (.int .i64 0)), none⟩] [] [3, 6, 11, 13, 14, 53])
  (.cond (.t 53)
  (.seq (.reg false [⟨some 54, .ld (some 1) (.t 3), none⟩,
    ⟨some 55, .mv (.t 11), none⟩,
    ⟨none, .st 1 (.t 6) (.t 54), none⟩,
    ⟨some 7, .mv (.c (.int .i64 (-1))), none⟩,
    ⟨some 8, .mv (.t 55), none⟩,
    ⟨some 9, .mv (.c (.int .i64 5)), none⟩] [] [6, 7, 8, 9])
  .ret)
  .skip))
  (.seq (.reg false [⟨some 56, .ld (some 1) (.t 13), none⟩,
    ⟨some 57, .mv (.t 14), none⟩,
    ⟨some 58, .mv (.t 11), none⟩,
    ⟨none, .st 1 (.t 6) (.t 56), none⟩,
    ⟨some 7, .mv (.t 57), none⟩,
    ⟨some 8, .mv (.t 58), none⟩,
    ⟨some 9, .mv (.c (.int .i64 0)), none⟩] [] [6, 7, 8, 9])
  .ret)))))
  .skip))
  (.seq (.reg false [⟨some 60, .mv (.t 1), none⟩,
    ⟨some 61, .mv (.t 2), none⟩,
    ⟨some 62, .call 56 [.t 60, .t 61], none⟩,
    ⟨some 59, .mv (.t 62), none⟩,
    ⟨some 63, .ext (.t 59) 0, none⟩,
    ⟨some 64, .ext (.t 59) 1, none⟩,
    ⟨some 65, .ext (.t 59) 2, none⟩,
    ⟨some 15, .mv (.t 63), none⟩,
    ⟨some 16, .mv (.t 64), none⟩,
    ⟨some 17, .mv (.t 65), none⟩] [] [1, 2, 3, 6, 15, 16, 17])
  (.seq (.seq (.reg false [⟨some 66, .mv (.t 15), none⟩,
    ⟨some 67, .bin .eql (.t 66) (.c (.int .i64 0)), none⟩] [] [1, 2, 3, 6, 15, 16, 17, 67])
  (.cond (.t 67)
  (.seq (.reg false [⟨some 68, .ld (some 1) (.t 3), none⟩,
    ⟨some 69, .mv (.t 2), none⟩,
    ⟨none, .st 1 (.t 6) (.t 68), none⟩,
    ⟨some 7, .mv (.c (.int .i64 (-1))), none⟩,
    ⟨some 8, .mv (.t 69), none⟩,
    ⟨some 9, .mv (.c (.int .i64 3)), none⟩] [] [6, 7, 8, 9])
  .ret)
  .skip))
  (.seq (.reg false [⟨some 70, .mv (.t 2), none⟩,
    ⟨some 71, .bin .add (.t 70) (.c (.int .i64 1)), none⟩,
    ⟨some 18, .mv (.t 71), none⟩] [] [1, 3, 6, 15, 16, 17, 18])
  (.seq (.reg false [⟨some 19, .mv (.c (.int .i64 0)), none⟩] [] [1, 3, 6, 15, 16, 17, 18, 19])
  (.seq (.seq (.reg false [⟨some 72, .mv (.t 16), none⟩,
    ⟨some 73, .bin .eql (.t 72) (.c (.int .i64 2)), none⟩] [] [1, 3, 6, 15, 17, 18, 19, 73])
  (.cond (.t 73)
  (.reg false [⟨some 75, .mv (.t 1), none⟩,
    ⟨some 76, .mv (.t 18), none⟩,
    ⟨some 77, .call 57 [.t 75, .t 76, .c (.int .u8 40)], none⟩,
    ⟨some 74, .mv (.t 77), none⟩,
    ⟨some 78, .ext (.t 74) 0, none⟩,
    ⟨some 79, .ext (.t 74) 1, none⟩,
    ⟨some 18, .mv (.t 78), none⟩,
    ⟨some 19, .mv (.t 79), none⟩] [] [1, 3, 6, 15, 17, 18, 19])
  .skip))
  (.seq (.seq (.reg false [⟨some 80, .mv (.t 19), none⟩,
    ⟨some 81, .bin .neq (.t 80) (.c (.int .i64 0)), none⟩] [] [1, 3, 6, 15, 17, 18, 19, 81])
  (.cond (.t 81)
  (.seq (.reg false [⟨some 82, .ld (some 1) (.t 3), none⟩,
    ⟨some 83, .mv (.t 18), none⟩,
    ⟨some 84, .mv (.t 19), none⟩,
    ⟨none, .st 1 (.t 6) (.t 82), none⟩,
    ⟨some 7, .mv (.c (.int .i64 (-1))), none⟩,
    ⟨some 8, .mv (.t 83), none⟩,
    ⟨some 9, .mv (.t 84), none⟩] [] [6, 7, 8, 9])
  .ret)
  .skip))
  (.seq (.reg false [⟨some 85, .mv (.t 15), none⟩,
    ⟨some 86, .build [.int .i64 0, .int .i64 0, .int .i64 0] [(0, 1, .t 85)], none⟩,
    ⟨some 20, .new [.int .i64 0, .int .i64 0, .int .i64 0], none⟩,
    ⟨none, .st 3 (.t 20) (.t 86), none⟩] [] [1, 3, 6, 17, 18, 20])
  (.seq (.reg false [⟨some 88, .ld (some 1) (.t 3), none⟩,
    ⟨some 89, .mv (.t 1), none⟩,
    ⟨some 90, .mv (.t 18), none⟩,
    ⟨some 91, .call 23 [.t 88, .t 89, .t 90], none⟩,
    ⟨some 87, .mv (.t 91), none⟩,
    ⟨some 92, .ext (.t 87) 0, none⟩,
    ⟨some 93, .ext (.t 87) 1, none⟩,
    ⟨some 94, .ext (.t 87) 2, none⟩,
    ⟨some 95, .ext (.t 87) 3, none⟩,
    ⟨none, .st 1 (.t 3) (.t 92), none⟩,
    ⟨some 96, .fad 1 (.t 20), none⟩,
    ⟨none, .st 1 (.t 96) (.t 93), none⟩,
    ⟨some 18, .mv (.t 94), none⟩,
    ⟨some 19, .mv (.t 95), none⟩] [] [1, 3, 6, 17, 18, 19, 20])
  (.seq (.seq (.reg false [⟨some 97, .mv (.t 19), none⟩,
    ⟨some 98, .bin .neq (.t 97) (.c (.int .i64 0)), none⟩] [] [1, 3, 6, 17, 18, 19, 20, 98])
  (.cond (.t 98)
  (.seq (.reg false [⟨some 99, .ld (some 1) (.t 3), none⟩,
    ⟨some 100, .mv (.t 18), none⟩,
    ⟨some 101, .mv (.t 19), none⟩,
    ⟨none, .st 1 (.t 6) (.t 99), none⟩,
    ⟨some 7, .mv (.c (.int .i64 (-1))), none⟩,
    ⟨some 8, .mv (.t 100), none⟩,
    ⟨some 9, .mv (.t 101), none⟩] [] [6, 7, 8, 9])
  .ret)
  .skip))
  (.seq (.seq (.reg false [⟨some 102, .mv (.t 17), none⟩,
    ⟨some 103, .bin .gtr (.t 102) (.c (.int .u8 0)), none⟩] [] [1, 3, 6, 17, 18, 20, 103])
  (.cond (.t 103)
  (.seq (.reg false [⟨some 105, .mv (.t 1), none⟩,
    ⟨some 106, .mv (.t 18), none⟩,
    ⟨some 107, .call 57 [.t 105, .t 106, .c (.int .u8 44)], none⟩,
    ⟨some 104, .mv (.t 107), none⟩,
    ⟨some 108, .ext (.t 104) 0, none⟩,
    ⟨some 109, .ext (.t 104) 1, none⟩,
    ⟨some 18, .mv (.t 108), none⟩,
    ⟨some 19, .mv (.t 109), none⟩] [] [1, 3, 6, 17, 18, 19, 20])
  (.seq (.seq (.reg false [⟨some 110, .mv (.t 19), none⟩,
    ⟨some 111, .bin .neq (.t 110) (.c (.int .i64 0)), none⟩] [] [1, 3, 6, 17, 18, 19, 20, 111])
  (.cond (.t 111)
  (.seq (.reg false [⟨some 112, .ld (some 1) (.t 3), none⟩,
    ⟨some 113, .mv (.t 18), none⟩,
    ⟨some 114, .mv (.t 19), none⟩,
    ⟨none, .st 1 (.t 6) (.t 112), none⟩,
    ⟨some 7, .mv (.c (.int .i64 (-1))), none⟩,
    ⟨some 8, .mv (.t 113), none⟩,
    ⟨some 9, .mv (.t 114), none⟩] [] [6, 7, 8, 9])
  .ret)
  .skip))
  (.seq (.reg false [⟨some 116, .ld (some 1) (.t 3), none⟩,
    ⟨some 117, .mv (.t 1), none⟩,
    ⟨some 118, .mv (.t 18), none⟩,
    ⟨some 119, .call 23 [.t 116, .t 117, .t 118], none⟩,
    ⟨some 115, .mv (.t 119), none⟩,
    ⟨some 120, .ext (.t 115) 0, none⟩,
    ⟨some 121, .ext (.t 115) 1, none⟩,
    ⟨some 122, .ext (.t 115) 2, none⟩,
    ⟨some 123, .ext (.t 115) 3, none⟩,
    ⟨none, .st 1 (.t 3) (.t 120), none⟩,
    ⟨some 124, .fad 2 (.t 20), none⟩,
    ⟨none, .st 1 (.t 124) (.t 121), none⟩,
    ⟨some 18, .mv (.t 122), none⟩,
    ⟨some 19, .mv (.t 123), none⟩] [] [1, 3, 6, 17, 18, 19, 20])
  (.seq (.seq (.reg false [⟨some 125, .mv (.t 19), none⟩,
    ⟨some 126, .bin .neq (.t 125) (.c (.int .i64 0)), none⟩] [] [1, 3, 6, 17, 18, 19, 20, 126])
  (.cond (.t 126)
  (.seq (.reg false [⟨some 127, .ld (some 1) (.t 3), none⟩,
    ⟨some 128, .mv (.t 18), none⟩,
    ⟨some 129, .mv (.t 19), none⟩,
    ⟨none, .st 1 (.t 6) (.t 127), none⟩,
    ⟨some 7, .mv (.c (.int .i64 (-1))), none⟩,
    ⟨some 8, .mv (.t 128), none⟩,
    ⟨some 9, .mv (.t 129), none⟩] [] [6, 7, 8, 9])
  .ret)
  .skip))
  (.seq (.reg false [⟨some 131, .mv (.t 1), none⟩,
    ⟨some 132, .mv (.t 18), none⟩,
    ⟨some 133, .mv (.t 17), none⟩,
    ⟨some 134, .call 57 [.t 131, .t 132, .t 133], none⟩,
    ⟨some 130, .mv (.t 134), none⟩,
    ⟨some 135, .ext (.t 130) 0, none⟩,
    ⟨some 136, .ext (.t 130) 1, none⟩,
    ⟨some 18, .mv (.t 135), none⟩,
    ⟨some 19, .mv (.t 136), none⟩] [] [3, 6, 18, 19, 20])
  (.seq (.reg false [⟨some 137, .mv (.t 19), none⟩,
    ⟨some 138, .bin .neq (.t 137) (.c (.int .i64 0)), none⟩] [] [3, 6, 18, 19, 20, 138])
  (.cond (.t 138)
  (.seq (.reg false [⟨some 139, .ld (some 1) (.t 3), none⟩,
    ⟨some 140, .mv (.t 18), none⟩,
    ⟨some 141, .mv (.t 19), none⟩,
    ⟨none, .st 1 (.t 6) (.t 139), none⟩,
    ⟨some 7, .mv (.c (.int .i64 (-1))), none⟩,
    ⟨some 8, .mv (.t 140), none⟩,
    ⟨some 9, .mv (.t 141), none⟩] [] [6, 7, 8, 9])
  .ret)
  .skip)))))))
  .skip))
  (.seq (.reg false [⟨some 143, .ld (some 1) (.t 3), none⟩,
    ⟨some 144, .ld (some 3) (.t 20), none⟩,
    ⟨some 145, .call 58 [.t 143, .t 144], none⟩,
    ⟨some 142, .mv (.t 145), none⟩,
    ⟨some 146, .ext (.t 142) 0, none⟩,
    ⟨some 147, .ext (.t 142) 1, none⟩,
    ⟨some 21, .new [.nil], none⟩,
    ⟨none, .st 1 (.t 21) (.t 146), none⟩,
    ⟨some 22, .mv (.t 147), none⟩] [] [3, 6, 18, 21, 22])
  (.seq (.seq (.reg false [⟨some 148, .mv (.t 22), none⟩,
    ⟨some 149, .bin .lss (.t 148) (.c (.int .i64 0)), none⟩] [] [3, 6, 18, 21, 22, 149])
  (.cond (.t 149)
  (.seq (.reg false [⟨some 150, .ld (some 1) (.t 3), none⟩,
    ⟨some 151, .mv (.t 18), none⟩,
    ⟨none, .st 1 (.t 6) (.t 150), none⟩,
    ⟨some 7, .mv (.c (.int .i64 (-1))), none⟩,
    ⟨some 8, .mv (.t 151), none⟩,
    ⟨some 9, .mv (.c (.int .i64 5)), none⟩] [] [6, 7, 8, 9])
  .ret)
  .skip))
  (.seq (.reg false [⟨some 152, .ld (some 1) (.t 21), none⟩,
    ⟨some 153, .mv (.t 22), none⟩,
    ⟨some 154, .mv (.t 18), none⟩,
    ⟨none, .st 1 (.t 6) (.t 152), none⟩,
    ⟨some 7, .mv (.t 153), none⟩,
    ⟨some 8, .mv (.t 154), none⟩,
    ⟨some 9, .mv (.c (.int .i64 0)), none⟩] [] [6, 7, 8, 9])
  .ret)))))))))))))))), [(6, some (some 1)), (7, none), (8, none), (9, none)]⟩
theorem spec_l4Parse_ok : okFn Tryd.prog 23 spec_l4Parse = true := by kernel_rfl
def laws_toNodeS : IFn := ⟨23, (.seq (.reg false [⟨some 2, .mv (.c (.nil)), none⟩] [] [0])
  (.seq (.reg false [⟨some 5, .mv (.t 0), none⟩,
    ⟨some 6, .len false (.t 5), none⟩,
    ⟨some 7, .mk 3 24 [.int .i64 0, .int .i64 0, .int .i64 0] (.t 6) (.t 6), none⟩,
    ⟨some 3, .mv (.t 7), none⟩] [] [0, 3])
  (.seq (.seq (.reg false [⟨some 4, .mv (.c (.int .i64 0)), none⟩] [] [0, 3, 4])
  (.block 0 (.loop (.seq (.seq (.reg false [⟨some 8, .mv (.t 4), none⟩,
    ⟨some 9, .mv (.t 0), none⟩,
    ⟨some 10, .len false (.t 9), none⟩,
    ⟨some 11, .bin .lss (.t 8) (.t 10), none⟩] [] [0, 3, 4, 11])
  (.cond (.t 11)
  .skip
  (.exit 0)))
  (.seq (.block 1 (.reg false [⟨some 14, .mv (.t 3), none⟩,
    ⟨some 15, .mv (.t 4), none⟩,
    ⟨some 16, .mv (.t 0), none⟩,
    ⟨some 17, .mv (.t 4), none⟩,
    ⟨some 18, .iad 3 (.t 16) (.t 17), none⟩,
    ⟨some 19, .ld (some 3) (.t 18), none⟩,
    ⟨some 20, .call 59 [.t 19], none⟩,
    ⟨some 21, .iad 3 (.t 14) (.t 15), none⟩,
    ⟨none, .st 3 (.t 21) (.t 20), none⟩] [] [0, 3, 4]))
  (.reg false [⟨some 12, .mv (.t 4), none⟩,
    ⟨some 13, .bin .add (.t 12) (.c (.int .i64 1)), none⟩,
    ⟨some 4, .mv (.t 13), none⟩] [] [0, 3, 4]))))))
  (.seq (.reg false [⟨some 22, .mv (.t 3), none⟩,
    ⟨some 2, .mv (.t 22), none⟩] [] [2])
  .ret)))), [(2, none)]⟩
theorem laws_toNodeS_ok : okFn Tryd.prog 24 laws_toNodeS = true := by kernel_rfl
def impl_orEmpty : IFn := ⟨9, (.seq (.reg false [⟨some 1, .box (.t 0), none⟩,
    ⟨some 2, .new [.nil], none⟩] [] [1, 2])
  (.seq (.seq (.reg false [⟨some 3, .ld (some 1) (.t 1), none⟩,
    ⟨some 4, .call 19 [.t 3], none⟩,
    ⟨some 5, .not (.t 4), none⟩] [] [1, 2, 5])
  (.cond (.t 5)
  (.seq (.reg false [⟨some 6, .build [.nil] [], none⟩,
    ⟨none, .st 1 (.t 2) (.t 6), none⟩] [] [2])
  .ret)
  .skip))
  (.seq (.reg false [⟨some 7, .ld (some 1) (.t 1), none⟩,
    ⟨some 8, .call 26 [.t 7], none⟩,
    ⟨none, .st 1 (.t 2) (.t 8), none⟩] [] [2])
  .ret))), [(2, some (some 1))]⟩
theorem impl_orEmpty_ok : okFn Tryd.prog 25 impl_orEmpty = true := by kernel_rfl
def impl_copyPool : IFn := ⟨7, (.seq (.reg false [⟨some 1, .box (.t 0), none⟩,
    ⟨some 2, .new [.nil], none⟩] [] [1, 2])
  (.seq (.reg false [⟨some 3, .fad 0 (.t 1), none⟩,
    ⟨some 4, .ld none (.t 3), none⟩,
    ⟨some 5, .call 60 [.t 4], none⟩,
    ⟨some 6, .build [.nil] [(0, 1, .t 5)], none⟩,
    ⟨none, .st 1 (.t 2) (.t 6), none⟩] [] [2])
  .ret)), [(2, some (some 1))]⟩
theorem impl_copyPool_ok : okFn Tryd.prog 26 impl_copyPool = true := by kernel_rfl
def impl_TermParse_1 : IFn := ⟨31, (.seq (.reg false [⟨some 5, .mv (.c (.int .i64 0)), none⟩] [] [0, 2])
  (.seq (.reg false [⟨some 8, .mv (.t 0), none⟩,
    ⟨some 9, .nck (.t 8), none⟩,
    ⟨some 10, .fad 1 (.t 9), none⟩,
    ⟨some 11, .ld none (.t 10), none⟩,
    ⟨some 6, .mv (.t 11), none⟩] [] [0, 2, 6])
  (.seq (.reg false [⟨some 12, .mv (.t 0), none⟩,
    ⟨some 13, .nck (.t 12), none⟩,
    ⟨some 14, .fad 1 (.t 13), none⟩,
    ⟨some 15, .ld none (.t 14), none⟩,
    ⟨some 16, .bin .add (.t 15) (.c (.int .i64 1)), none⟩,
    ⟨some 17, .nck (.t 12), none⟩,
    ⟨some 18, .fad 1 (.t 17), none⟩,
    ⟨none, .st 1 (.t 18) (.t 16), none⟩] [] [0, 2, 6])
  (.seq (.reg false [⟨some 19, .mv (.t 0), none⟩,
    ⟨some 20, .mv (.t 6), none⟩,
    ⟨some 21, .call 28 [.t 19, .t 20], none⟩,
    ⟨some 7, .mv (.t 21), none⟩] [] [0, 2, 7])
  (.seq (.seq (.reg false [⟨some 22, .mv (.t 0), none⟩,
    ⟨some 23, .nck (.t 22), none⟩,
    ⟨some 24, .fad 2 (.t 23), none⟩,
    ⟨some 25, .ld none (.t 24), none⟩,
    ⟨some 26, .bin .neq (.t 25) (.c (.int .i64 0)), none⟩] [] [0, 2, 7, 26])
  (.cond (.t 26)
  (.seq (.reg false [⟨some 5, .mv (.c (.int .i64 (-1))), none⟩] [] [5])
  .ret)
  .skip))
  (.seq (.reg false [⟨some 27, .mv (.t 0), none⟩,
    ⟨some 28, .mv (.t 7), none⟩,
    ⟨some 29, .call 30 [.t 2, .t 28], none⟩,
    ⟨some 30, .call 29 [.t 27, .t 29], none⟩,
    ⟨some 5, .mv (.t 30), none⟩] [] [5])
  .ret)))))), [(5, none)]⟩
theorem impl_TermParse_1_ok : okFn Tryd.prog 27 impl_TermParse_1 = true := by kernel_rfl
def impl_reader_number : IFn := ⟨15, (.seq (.reg false [⟨some 4, .mv (.c (.int .i64 0)), none⟩] [] [0, 1])
  (.seq (.reg false [⟨some 6, .mv (.t 0), none⟩,
    ⟨some 7, .call 61 [.t 6, .c (.int .i64 9)], none⟩,
    ⟨some 5, .mv (.t 7), none⟩] [] [0, 1, 5])
  (.seq (.seq (.reg false [⟨some 8, .mv (.t 5), none⟩,
    ⟨some 9, .call 38 [.t 8, .c (.int .i64 0), .c (.int .i64 199)], none⟩,
    ⟨some 10, .not (.t 9), none⟩] [] [0, 1, 5, 10])
  (.cond (.t 10)
  (.seq (.reg false [⟨some 11, .mv (.t 0), none⟩,
    ⟨some 12, .mv (.t 1), none⟩,
    ⟨some 13, .call 62 [.t 11, .c (.int .i64 4), .t 12], none⟩,
    ⟨some 4, .mv (.t 13), none⟩] [] [4])
  .ret)
  .skip))
  (.seq (.reg false [⟨some 14, .mv (.t 5), none⟩,
    ⟨some 4, .mv (.t 14), none⟩] [] [4])
  .ret)))), [(4, none)]⟩
theorem impl_reader_number_ok : okFn Tryd.prog 28 impl_reader_number = true := by kernel_rfl
def impl_reader_orFull : IFn := ⟨14, (.seq (.reg false [⟨some 4, .mv (.c (.int .i64 0)), none⟩] [] [0, 1])
  (.seq (.seq (.reg false [⟨some 5, .mv (.t 1), none⟩,
    ⟨some 6, .bin .lss (.t 5) (.c (.int .i64 0)), none⟩] [] [0, 1, 6])
  (.cond (.t 6)
  (.seq (.reg false [⟨some 7, .mv (.t 0), none⟩,
    ⟨some 8, .mv (.t 0), none⟩,
    ⟨some 9, .nck (.t 8), none⟩,
    ⟨some 10, .fad 1 (.t 9), none⟩,
    ⟨some 11, .ld none (.t 10), none⟩,
    ⟨some 12, .call 62 [.t 7, .c (.int .i64 5), .t 11], none⟩,
    ⟨some 4, .mv (.t 12), none⟩] [] [4])
  .ret)
  .skip))
  (.seq (.reg false [⟨some 13, .mv (.t 1), none⟩,
    ⟨some 4, .mv (.t 13), none⟩] [] [4])
  .ret))), [(4, none)]⟩
theorem impl_reader_orFull_ok : okFn Tryd.prog 29 impl_reader_orFull = true := by kernel_rfl
def impl_Pool_name : IFn := ⟨8, (.seq (.reg false [⟨some 4, .mv (.c (.int .i64 0)), none⟩] [] [0, 1])
  (.seq (.reg false [⟨some 5, .mv (.t 0), none⟩,
    ⟨some 6, .mv (.t 1), none⟩,
    ⟨some 7, .call 63 [.t 5, .c (.int .i64 1), .t 6, .c (.int .i64 0)], none⟩,
    ⟨some 4, .mv (.t 7), none⟩] [] [4])
  .ret)), [(4, none)]⟩
theorem impl_Pool_name_ok : okFn Tryd.prog 30 impl_Pool_name = true := by kernel_rfl
def impl_TermParse_2 : IFn := ⟨12, (.seq (.reg false [⟨some 7, .mv (.c (.int .i64 0)), none⟩] [] [0, 1, 2, 3])
  (.seq (.reg false [⟨some 8, .mv (.t 0), none⟩,
    ⟨some 9, .mv (.t 1), none⟩,
    ⟨some 10, .mv (.t 2), none⟩,
    ⟨some 11, .call 32 [.t 8, .t 3, .t 9, .t 10], none⟩,
    ⟨some 7, .mv (.t 11), none⟩] [] [7])
  .ret)), [(7, none)]⟩
theorem impl_TermParse_2_ok : okFn Tryd.prog 31 impl_TermParse_2 = true := by kernel_rfl
def impl_reader_added : IFn := ⟨26, (.seq (.reg false [⟨some 8, .mv (.c (.int .i64 0)), none⟩] [] [0, 1, 2, 3])
  (.seq (.reg false [⟨some 9, .mv (.c (.int .i64 0)), none⟩] [] [0, 1, 2, 3, 9])
  (.seq (.seq (.reg false [⟨some 10, .mv (.t 3), none⟩,
    ⟨some 11, .len false (.t 10), none⟩,
    ⟨some 12, .bin .gtr (.t 11) (.c (.int .i64 1)), none⟩] [] [0, 1, 2, 3, 9, 12])
  (.cond (.t 12)
  (.reg false [⟨some 13, .mv (.t 3), none⟩,
    ⟨some 14, .iad 1 (.t 13) (.c (.int .i64 1)), none⟩,
    ⟨some 15, .ld none (.t 14), none⟩,
    ⟨some 9, .mv (.t 15), none⟩] [] [0, 1, 2, 3, 9])
  .skip))
  (.seq (.reg true [⟨some 16, .mv (.t 0), none⟩,
    ⟨some 17, .mv (.t 1), none⟩,
    ⟨some 18, .mv (.t 2), none⟩,
    ⟨some 19, .call 64 [.t 18], none⟩,
    ⟨some 20, .mv (.t 3), none⟩,
    ⟨some 21, .iad 1 (.t 20) (.c (.int .i64 0)), none⟩,
    ⟨some 22, .ld none (.t 21), none⟩,
    ⟨some 23, .mv (.t 9), none⟩,
    ⟨some 24, .call 63 [.t 17, .t 19, .t 22, .t 23], none⟩,
    ⟨some 25, .call 29 [.t 16, .t 24], none⟩,
    ⟨some 8, .mv (.t 25), none⟩] [0, 0, 0, 4, 0, 16, 48, 0, 254, 511, 1023] [8])
  .ret)))), [(8, none)]⟩
theorem impl_reader_added_ok : okFn Tryd.prog 32 impl_reader_added = true := by kernel_rfl
def impl_reader_all : IFn := ⟨41, (.seq (.reg false [⟨some 4, .mv (.c (.int .i64 0)), none⟩] [] [0, 1])
  (.seq (.seq (.reg false [⟨some 6, .mv (.t 0), none⟩,
    ⟨some 7, .nck (.t 6), none⟩,
    ⟨some 8, .fad 0 (.t 7), none⟩,
    ⟨some 9, .ld none (.t 8), none⟩,
    ⟨some 10, .len true (.t 9), none⟩,
    ⟨some 11, .mv (.t 1), none⟩,
    ⟨some 12, .bin .gtr (.t 10) (.t 11), none⟩] [] [0, 12])
  (.cond (.t 12)
  (.seq (.reg false [⟨some 13, .mv (.t 0), none⟩,
    ⟨some 14, .call 62 [.t 13, .c (.int .i64 1), .c (.int .i64 0)], none⟩,
    ⟨some 4, .mv (.t 14), none⟩] [] [4])
  .ret)
  .skip))
  (.seq (.reg false [⟨some 15, .mv (.t 0), none⟩,
    ⟨some 16, .call 65 [.t 15], none⟩,
    ⟨some 5, .mv (.t 16), none⟩] [] [0, 5])
  (.seq (.seq (.reg true [⟨some 17, .mv (.t 0), none⟩,
    ⟨some 18, .nck (.t 17), none⟩,
    ⟨some 19, .fad 2 (.t 18), none⟩,
    ⟨some 20, .ld none (.t 19), none⟩,
    ⟨some 21, .bin .eql (.t 20) (.c (.int .i64 0)), none⟩,
    ⟨some 22, .mv (.t 21), none⟩,
    ⟨some 23, .mv (.t 0), some (22, true)⟩,
    ⟨some 24, .nck (.t 23), some (22, true)⟩,
    ⟨some 25, .fad 1 (.t 24), some (22, true)⟩,
    ⟨some 26, .ld none (.t 25), some (22, true)⟩,
    ⟨some 27, .mv (.t 0), some (22, true)⟩,
    ⟨some 28, .nck (.t 27), some (22, true)⟩,
    ⟨some 29, .fad 0 (.t 28), some (22, true)⟩,
    ⟨some 30, .ld none (.t 29), some (22, true)⟩,
    ⟨some 31, .len true (.t 30), some (22, true)⟩,
    ⟨some 32, .bin .lss (.t 26) (.t 31), some (22, true)⟩,
    ⟨some 33, .pick (.t 22) (.t 32) (.c (.bool false)), none⟩] [0, 1, 3, 7, 15, 31, 63, 127, 255, 511, 63, 1087, 3135, 7231, 15423, 32767, 65535] [0, 5, 33])
  (.cond (.t 33)
  (.seq (.reg false [⟨some 34, .mv (.t 0), none⟩,
    ⟨some 35, .mv (.t 0), none⟩,
    ⟨some 36, .nck (.t 35), none⟩,
    ⟨some 37, .fad 1 (.t 36), none⟩,
    ⟨some 38, .ld none (.t 37), none⟩,
    ⟨some 39, .call 62 [.t 34, .c (.int .i64 6), .t 38], none⟩,
    ⟨some 4, .mv (.t 39), none⟩] [] [4])
  .ret)
  .skip))
  (.seq (.reg false [⟨some 40, .mv (.t 5), none⟩,
    ⟨some 4, .mv (.t 40), none⟩] [] [4])
  .ret))))), [(4, none)]⟩
theorem impl_reader_all_ok : okFn Tryd.prog 33 impl_reader_all = true := by kernel_rfl
def laws_eqNodeS : IFn := ⟨27, (.seq (.reg false [⟨some 4, .mv (.c (.bool false)), none⟩] [] [0, 1])
  (.seq (.seq (.reg false [⟨some 6, .mv (.t 0), none⟩,
    ⟨some 7, .len false (.t 6), none⟩,
    ⟨some 8, .mv (.t 1), none⟩,
    ⟨some 9, .len false (.t 8), none⟩,
    ⟨some 10, .bin .neq (.t 7) (.t 9), none⟩] [] [0, 1, 10])
  (.cond (.t 10)
  (.seq (.reg false [⟨some 4, .mv (.c (.bool false)), none⟩] [] [4])
  .ret)
  .skip))
  (.seq (.seq (.reg false [⟨some 5, .mv (.c (.int .i64 0)), none⟩] [] [0, 1, 5])
  (.block 0 (.loop (.seq (.seq (.reg false [⟨some 11, .mv (.t 5), none⟩,
    ⟨some 12, .mv (.t 0), none⟩,
    ⟨some 13, .len false (.t 12), none⟩,
    ⟨some 14, .bin .lss (.t 11) (.t 13), none⟩] [] [0, 1, 5, 14])
  (.cond (.t 14)
  .skip
  (.exit 0)))
  (.seq (.block 1 (.seq (.reg true [⟨some 17, .mv (.t 0), none⟩,
    ⟨some 18, .mv (.t 5), none⟩,
    ⟨some 19, .iad 3 (.t 17) (.t 18), none⟩,
    ⟨some 20, .ld (some 3) (.t 19), none⟩,
    ⟨some 21, .mv (.t 1), none⟩,
    ⟨some 22, .mv (.t 5), none⟩,
    ⟨some 23, .iad 3 (.t 21) (.t 22), none⟩,
    ⟨some 24, .ld (some 3) (.t 23), none⟩,
    ⟨some 25, .call 66 [.t 20, .t 24], none⟩,
    ⟨some 26, .not (.t 25), none⟩] [0, 0, 3, 7, 0, 0, 48, 112, 255, 511] [0, 1, 5, 26])
  (.cond (.t 26)
  (.seq (.reg false [⟨some 4, .mv (.c (.bool false)), none⟩] [] [4])
  .ret)
  .skip)))
  (.reg false [⟨some 15, .mv (.t 5), none⟩,
    ⟨some 16, .bin .add (.t 15) (.c (.int .i64 1)), none⟩,
    ⟨some 5, .mv (.t 16), none⟩] [] [0, 1, 5]))))))
  (.seq (.reg false [⟨some 4, .mv (.c (.bool true)), none⟩] [] [4])
  .ret)))), [(4, none)]⟩
theorem laws_eqNodeS_ok : okFn Tryd.prog 34 laws_eqNodeS = true := by kernel_rfl
def spec_DrawTermSize : IFn := ⟨54, (.seq (.reg false [⟨some 2, .new [.nil], none⟩,
    ⟨some 3, .mv (.c (.int .i64 0)), none⟩] [] [0, 2])
  (.seq (.reg false [⟨some 10, .mv (.t 0), none⟩,
    ⟨some 11, .call 67 [.t 10], none⟩,
    ⟨some 9, .mv (.t 11), none⟩,
    ⟨some 12, .ext (.t 9) 0, none⟩,
    ⟨some 13, .ext (.t 9) 1, none⟩,
    ⟨some 4, .new [.nil], none⟩,
    ⟨none, .st 1 (.t 4) (.t 12), none⟩,
    ⟨some 5, .mv (.t 13), none⟩] [] [0, 2, 4, 5])
  (.seq (.reg false [⟨some 14, .mv (.t 0), none⟩,
    ⟨some 15, .call 45 [.t 14], none⟩,
    ⟨some 6, .mv (.t 15), none⟩] [] [2, 4, 5, 6])
  (.seq (.seq (.reg false [⟨some 16, .mv (.t 6), none⟩,
    ⟨some 17, .call 48 [.t 16, .c (.int .i64 9)], none⟩,
    ⟨some 18, .mv (.t 17), none⟩,
    ⟨some 19, .ld (some 1) (.t 4), some (18, true)⟩,
    ⟨some 20, .call 21 [.t 19], some (18, true)⟩,
    ⟨some 21, .pick (.t 18) (.t 20) (.c (.bool false)), none⟩] [] [2, 4, 5, 6, 21])
  (.cond (.t 21)
  (.seq (.reg false [⟨some 7, .mv (.c (.int .i64 (-1))), none⟩] [] [2, 4, 6])
  (.seq (.reg false [⟨some 23, .ld (some 1) (.t 4), none⟩,
    ⟨some 24, .build [.int .i64 0, .int .i64 0, .int .i64 0] [(0, 1, .c (.int .i64 1)), (1, 1, .c (.int .i64 7))], none⟩,
    ⟨some 25, .call 58 [.t 23, .t 24], none⟩,
    ⟨some 22, .mv (.t 25), none⟩,
    ⟨some 26, .ext (.t 22) 0, none⟩,
    ⟨some 27, .ext (.t 22) 1, none⟩,
    ⟨none, .st 1 (.t 4) (.t 26), none⟩,
    ⟨some 7, .mv (.t 27), none⟩] [] [2, 4, 6, 7])
  (.seq (.seq (.reg false [⟨some 8, .mv (.c (.int .i64 0)), none⟩] [] [2, 4, 6, 7, 8])
  (.block 0 (.loop (.seq (.seq (.reg false [⟨some 28, .mv (.t 8), none⟩,
    ⟨some 29, .mv (.t 6), none⟩,
    ⟨some 30, .call 50 [.t 29, .c (.int .i64 3)], none⟩,
    ⟨some 31, .bin .add (.c (.int .i64 10)) (.t 30), none⟩,
    ⟨some 32, .bin .lss (.t 28) (.t 31), none⟩,
    ⟨some 33, .mv (.t 32), none⟩,
    ⟨some 34, .mv (.t 7), some (33, true)⟩,
    ⟨some 35, .bin .geq (.t 34) (.c (.int .i64 0)), some (33, true)⟩,
    ⟨some 36, .pick (.t 33) (.t 35) (.c (.bool false)), none⟩] [] [2, 4, 6, 7, 8, 36])
  (.cond (.t 36)
  .skip
  (.exit 0)))
  (.seq (.block 1 (.reg false [⟨some 40, .ld (some 1) (.t 4), none⟩,
    ⟨some 41, .mv (.t 7), none⟩,
    ⟨some 42, .mv (.t 7), none⟩,
    ⟨some 43, .build [.int .i64 0, .int .i64 0, .int .i64 0] [(0, 1, .c (.int .i64 2)), (1, 1, .t 41), (2, 1, .t 42)], none⟩,
    ⟨some 44, .call 58 [.t 40, .t 43], none⟩,
    ⟨some 39, .mv (.t 44), none⟩,
    ⟨some 45, .ext (.t 39) 0, none⟩,
    ⟨some 46, .ext (.t 39) 1, none⟩,
    ⟨none, .st 1 (.t 4) (.t 45), none⟩,
    ⟨some 7, .mv (.t 46), none⟩] [] [2, 4, 6, 7, 8]))
  (.reg false [⟨some 37, .mv (.t 8), none⟩,
    ⟨some 38, .bin .add (.t 37) (.c (.int .i64 1)), none⟩,
    ⟨some 8, .mv (.t 38), none⟩] [] [2, 4, 6, 7, 8]))))))
  (.seq (.reg true [⟨some 47, .ld (some 1) (.t 4), none⟩,
    ⟨some 48, .fad 0 (.t 4), none⟩,
    ⟨some 49, .ld none (.t 48), none⟩,
    ⟨some 50, .len false (.t 49), none⟩,
    ⟨some 51, .bin .sub (.t 50) (.c (.int .i64 1)), none⟩,
    ⟨none, .st 1 (.t 2) (.t 47), none⟩,
    ⟨some 3, .mv (.t 51), none⟩] [0, 0, 2, 6, 14, 1, 63] [2, 3])
  .ret))))
  .skip))
  (.seq (.reg false [⟨some 52, .ld (some 1) (.t 4), none⟩,
    ⟨some 53, .mv (.t 5), none⟩,
    ⟨none, .st 1 (.t 2) (.t 52), none⟩,
    ⟨some 3, .mv (.t 53), none⟩] [] [2, 3])
  .ret))))), [(2, some (some 1)), (3, none)]⟩
theorem spec_DrawTermSize_ok : okFn Tryd.prog 37 spec_DrawTermSize = true := by kernel_rfl
def impl_inRange : IFn := ⟨15, (.seq (.reg false [⟨some 6, .mv (.c (.bool false)), none⟩] [] [0, 1, 2])
  (.seq (.reg false [⟨some 7, .mv (.t 0), none⟩,
    ⟨some 8, .mv (.t 1), none⟩,
    ⟨some 9, .bin .geq (.t 7) (.t 8), none⟩,
    ⟨some 10, .mv (.t 9), none⟩,
    ⟨some 11, .mv (.t 0), some (10, true)⟩,
    ⟨some 12, .mv (.t 2), some (10, true)⟩,
    ⟨some 13, .bin .leq (.t 11) (.t 12), some (10, true)⟩,
    ⟨some 14, .pick (.t 10) (.t 13) (.c (.bool false)), none⟩,
    ⟨some 6, .mv (.t 14), none⟩] [] [6])
  .ret)), [(6, none)]⟩
theorem impl_inRange_ok : okFn Tryd.prog 38 impl_inRange = true := by kernel_rfl
def impl_Pool_print : IFn := ⟨42, (.seq (.reg false [⟨some 4, .mv (.c (.str ⟨#[]⟩)), none⟩] [] [0, 1])
  (.seq (.reg false [⟨some 9, .mv (.t 0), none⟩,
    ⟨some 10, .nck (.t 9), none⟩,
    ⟨some 11, .fad 0 (.t 10), none⟩,
    ⟨some 12, .ld none (.t 11), none⟩,
    ⟨some 13, .mv (.t 1), none⟩,
    ⟨some 14, .iad 3 (.t 12) (.t 13), none⟩,
    ⟨some 15, .ld (some 3) (.t 14), none⟩,
    ⟨some 5, .new [.int .i64 0, .int .i64 0, .int .i64 0], none⟩,
    ⟨none, .st 3 (.t 5) (.t 15), none⟩] [] [0, 1, 5])
  (.seq (.seq (.reg false [⟨some 16, .fad 0 (.t 5), none⟩,
    ⟨some 17, .ld none (.t 16), none⟩,
    ⟨some 18, .bin .eql (.t 17) (.c (.int .i64 1)), none⟩] [] [0, 1, 5, 18])
  (.cond (.t 18)
  (.seq (.reg false [⟨some 19, .fad 1 (.t 5), none⟩,
    ⟨some 20, .ld none (.t 19), none⟩,
    ⟨some 21, .call 68 [.t 20], none⟩,
    ⟨some 22, .bin .add (.c (.str ⟨#[110]⟩)) (.t 21), none⟩,
    ⟨some 4, .mv (.t 22), none⟩] [] [4])
  .ret)
  .skip))
  (.seq (.reg false [⟨some 6, .mv (.c (.nil)), none⟩] [] [0, 1, 5, 6])
  (.seq (.seq (.reg false [⟨some 23, .mv (.t 0), none⟩,
    ⟨some 24, .mv (.t 1), none⟩,
    ⟨some 25, .call 69 [.t 23, .t 24], none⟩,
    ⟨some 26, .len false (.t 25), none⟩,
    ⟨some 27, .mv (.c (.int .i64 0)), none⟩] [] [0, 5, 6, 25, 26, 27])
  (.block 0 (.loop (.seq (.reg false [⟨some 28, .bin .lss (.t 27) (.t 26), none⟩] [] [0, 5, 6, 25, 26, 27, 28])
  (.seq (.cond (.t 28)
  .skip
  (.exit 0))
  (.seq (.block 1 (.seq (.reg false [⟨some 29, .iad 1 (.t 25) (.t 27), none⟩,
    ⟨some 30, .ld none (.t 29), none⟩,
    ⟨some 8, .mv (.t 30), none⟩] [] [0, 5, 6, 8, 25, 26, 27])
  (.reg false [⟨some 31, .mv (.t 6), none⟩,
    ⟨some 32, .mv (.t 0), none⟩,
    ⟨some 33, .mv (.t 8), none⟩,
    ⟨some 34, .call 39 [.t 32, .t 33], none⟩,
    ⟨some 35, .bsl 1 1 [.str ⟨#[]⟩] [(0, 1, .t 34)], none⟩,
    ⟨some 36, .app 1 16 (.t 31) (.t 35), none⟩,
    ⟨some 6, .mv (.t 36), none⟩] [] [0, 5, 6, 25, 26, 27])))
  (.reg false [⟨some 37, .bin .add (.t 27) (.c (.int .i64 1)), none⟩,
    ⟨some 27, .mv (.t 37), none⟩] [] [0, 5, 6, 25, 26, 27])))))))
  (.seq (.reg false [⟨some 38, .fad 0 (.t 5), none⟩,
    ⟨some 39, .ld none (.t 38), none⟩,
    ⟨some 40, .mv (.t 6), none⟩,
    ⟨some 41, .call 70 [.t 39, .t 40], none⟩,
    ⟨some 4, .mv (.t 41), none⟩] [] [4])
  .ret)))))), [(4, none)]⟩
theorem impl_Pool_print_ok : okFn Tryd.prog 39 impl_Pool_print = true := by kernel_rfl
def spec_l1In : IFn := ⟨15, (.seq (.reg false [⟨some 6, .mv (.c (.bool false)), none⟩] [] [0, 1, 2])
  (.seq (.reg false [⟨some 7, .mv (.t 0), none⟩,
    ⟨some 8, .mv (.t 1), none⟩,
    ⟨some 9, .bin .geq (.t 7) (.t 8), none⟩,
    ⟨some 10, .mv (.t 9), none⟩,
    ⟨some 11, .mv (.t 0), some (10, true)⟩,
    ⟨some 12, .mv (.t 2), some (10, true)⟩,
    ⟨some 13, .bin .leq (.t 11) (.t 12), some (10, true)⟩,
    ⟨some 14, .pick (.t 10) (.t 13) (.c (.bool false)), none⟩,
    ⟨some 6, .mv (.t 14), none⟩] [] [6])
  .ret)), [(6, none)]⟩
theorem spec_l1In_ok : okFn Tryd.prog 40 spec_l1In = true := by kernel_rfl
def spec_TermSize : IFn := ⟨19, (.seq (.reg false [⟨some 2, .box (.t 0), none⟩,
    ⟨some 4, .mv (.c (.int .i64 0)), none⟩] [] [1, 2])
  (.seq (.seq (.reg false [⟨some 5, .ld (some 1) (.t 2), none⟩,
    ⟨some 6, .call 21 [.t 5], none⟩,
    ⟨some 7, .not (.t 6), none⟩,
    ⟨some 8, .mv (.t 7), none⟩,
    ⟨some 9, .ld (some 1) (.t 2), some (8, false)⟩,
    ⟨some 10, .mv (.t 1), some (8, false)⟩,
    ⟨some 11, .call 71 [.t 9, .t 10], some (8, false)⟩,
    ⟨some 12, .not (.t 11), some (8, false)⟩,
    ⟨some 13, .pick (.t 8) (.c (.bool true)) (.t 12), none⟩] [] [1, 2, 13])
  (.cond (.t 13)
  (.seq (.reg false [⟨some 4, .mv (.c (.int .i64 0)), none⟩] [] [4])
  .ret)
  .skip))
  (.seq (.reg false [⟨some 14, .ld (some 1) (.t 2), none⟩,
    ⟨some 15, .call 72 [.t 14], none⟩,
    ⟨some 16, .mv (.t 1), none⟩,
    ⟨some 17, .iad 1 (.t 15) (.t 16), none⟩,
    ⟨some 18, .ld none (.t 17), none⟩,
    ⟨some 4, .mv (.t 18), none⟩] [] [4])
  .ret))), [(4, none)]⟩
theorem spec_TermSize_ok : okFn Tryd.prog 41 spec_TermSize = true := by kernel_rfl
def spec_l4Print : IFn := ⟨69, (.seq (.reg false [⟨some 2, .box (.t 0), none⟩,
    ⟨some 4, .mv (.c (.str ⟨#[]⟩)), none⟩] [] [1, 2])
  (.seq (.reg false [⟨some 7, .fad 0 (.t 2), none⟩,
    ⟨some 8, .ld none (.t 7), none⟩,
    ⟨some 9, .mv (.t 1), none⟩,
    ⟨some 10, .iad 3 (.t 8) (.t 9), none⟩,
    ⟨some 11, .ld (some 3) (.t 10), none⟩,
    ⟨some 5, .new [.int .i64 0, .int .i64 0, .int .i64 0], none⟩,
    ⟨none, .st 3 (.t 5) (.t 11), none⟩] [] [2, 5])
  (.seq (.seq (.reg false [⟨some 12, .fad 0 (.t 5), none⟩,
    ⟨some 13, .ld none (.t 12), none⟩] [] [2, 5, 13])
  (.block 0 (.seq (.reg false [⟨some 15, .bin .eql (.t 13) (.c (.int .i64 1)), none⟩,
    ⟨some 14, .mv (.t 15), none⟩] [] [2, 5, 13, 14])
  (.cond (.t 14)
  (.seq (.reg false [⟨some 16, .fad 1 (.t 5), none⟩,
    ⟨some 17, .ld none (.t 16), none⟩,
    ⟨some 18, .call 73 [.t 17], none⟩,
    ⟨some 19, .bin .add (.c (.str ⟨#[110]⟩)) (.t 18), none⟩,
    ⟨some 4, .mv (.t 19), none⟩] [] [4])
  .ret)
  (.seq (.reg false [⟨some 21, .bin .eql (.t 13) (.c (.int .i64 5)), none⟩,
    ⟨some 20, .mv (.t 21), none⟩] [] [2, 5, 13, 20])
  (.cond (.t 20)
  (.seq (.reg false [⟨some 22, .ld (some 1) (.t 2), none⟩,
    ⟨some 23, .fad 1 (.t 5), none⟩,
    ⟨some 24, .ld none (.t 23), none⟩,
    ⟨some 25, .call 42 [.t 22, .t 24], none⟩,
    ⟨some 26, .bin .add (.c (.str ⟨#[35]⟩)) (.t 25), none⟩,
    ⟨some 4, .mv (.t 26), none⟩] [] [4])
  .ret)
  (.seq (.reg false [⟨some 28, .bin .eql (.t 13) (.c (.int .i64 7)), none⟩,
    ⟨some 27, .mv (.t 28), none⟩] [] [2, 5, 27])
  (.cond (.t 27)
  (.seq (.reg false [⟨some 29, .ld (some 1) (.t 2), none⟩,
    ⟨some 30, .fad 1 (.t 5), none⟩,
    ⟨some 31, .ld none (.t 30), none⟩,
    ⟨some 32, .call 42 [.t 29, .t 31], none⟩,
    ⟨some 33, .bin .add (.c (.str ⟨#[94]⟩)) (.t 32), none⟩,
    ⟨some 4, .mv (.t 33), none⟩] [] [4])
  .ret)
  .skip))))))))
  (.seq (.reg true [⟨some 34, .ld (some 1) (.t 2), none⟩,
    ⟨some 35, .fad 1 (.t 5), none⟩,
    ⟨some 36, .ld none (.t 35), none⟩,
    ⟨some 37, .call 42 [.t 34, .t 36], none⟩,
    ⟨some 38, .bin .add (.t 37) (.c (.str ⟨#[44]⟩)), none⟩,
    ⟨some 39, .ld (some 1) (.t 2), none⟩,
    ⟨some 40, .fad 2 (.t 5), none⟩,
    ⟨some 41, .ld none (.t 40), none⟩,
    ⟨some 42, .call 42 [.t 39, .t 41], none⟩,
    ⟨some 43, .bin .add (.t 38) (.t 42), none⟩,
    ⟨some 6, .mv (.t 43), none⟩] [0, 0, 2, 7, 15, 0, 0, 64, 239, 511, 1023] [5, 6])
  (.seq (.seq (.reg false [⟨some 44, .fad 0 (.t 5), none⟩,
    ⟨some 45, .ld none (.t 44), none⟩] [] [6, 45])
  (.block 1 (.seq (.reg false [⟨some 47, .bin .eql (.t 45) (.c (.int .i64 2)), none⟩,
    ⟨some 46, .mv (.t 47), none⟩] [] [6, 45, 46])
  (.cond (.t 46)
  (.seq (.reg false [⟨some 48, .mv (.t 6), none⟩,
    ⟨some 49, .bin .add (.c (.str ⟨#[40]⟩)) (.t 48), none⟩,
    ⟨some 50, .bin .add (.t 49) (.c (.str ⟨#[41]⟩)), none⟩,
    ⟨some 4, .mv (.t 50), none⟩] [] [4])
  .ret)
  (.seq (.reg false [⟨some 52, .bin .eql (.t 45) (.c (.int .i64 3)), none⟩,
    ⟨some 51, .mv (.t 52), none⟩] [] [6, 45, 51])
  (.cond (.t 51)
  (.seq (.reg false [⟨some 53, .mv (.t 6), none⟩,
    ⟨some 54, .bin .add (.c (.str ⟨#[123]⟩)) (.t 53), none⟩,
    ⟨some 55, .bin .add (.t 54) (.c (.str ⟨#[125]⟩)), none⟩,
    ⟨some 4, .mv (.t 55), none⟩] [] [4])
  .ret)
  (.seq (.reg false [⟨some 57, .bin .eql (.t 45) (.c (.int .i64 4)), none⟩,
    ⟨some 56, .mv (.t 57), none⟩] [] [6, 45, 56])
  (.cond (.t 56)
  (.seq (.reg false [⟨some 58, .mv (.t 6), none⟩,
    ⟨some 59, .bin .add (.c (.str ⟨#[91]⟩)) (.t 58), none⟩,
    ⟨some 60, .bin .add (.t 59) (.c (.str ⟨#[93]⟩)), none⟩,
    ⟨some 4, .mv (.t 60), none⟩] [] [4])
  .ret)
  (.seq (.reg false [⟨some 62, .bin .eql (.t 45) (.c (.int .i64 6)), none⟩,
    ⟨some 61, .mv (.t 62), none⟩] [] [6, 61])
  (.cond (.t 61)
  (.seq (.reg false [⟨some 63, .mv (.t 6), none⟩,
    ⟨some 64, .bin .add (.c (.str ⟨#[107, 40]⟩)) (.t 63), none⟩,
    ⟨some 65, .bin .add (.t 64) (.c (.str ⟨#[41]⟩)), none⟩,
    ⟨some 4, .mv (.t 65), none⟩] [] [4])
  .ret)
  .skip))))))))))
  (.seq (.reg false [⟨some 66, .mv (.t 6), none⟩,
    ⟨some 67, .bin .add (.c (.str ⟨#[42, 40]⟩)) (.t 66), none⟩,
    ⟨some 68, .bin .add (.t 67) (.c (.str ⟨#[41]⟩)), none⟩,
    ⟨some 4, .mv (.t 68), none⟩] [] [4])
  .ret)))))), [(4, none)]⟩
theorem spec_l4Print_ok : okFn Tryd.prog 42 spec_l4Print = true := by kernel_rfl
def impl_Pool_isTerm : IFn := ⟨13, (.seq (.reg false [⟨some 4, .mv (.c (.bool false)), none⟩] [] [0, 1])
  (.seq (.reg false [⟨some 5, .mv (.t 1), none⟩,
    ⟨some 6, .mv (.t 0), none⟩,
    ⟨some 7, .nck (.t 6), none⟩,
    ⟨some 8, .fad 0 (.t 7), none⟩,
    ⟨some 9, .ld none (.t 8), none⟩,
    ⟨some 10, .len false (.t 9), none⟩,
    ⟨some 11, .bin .sub (.t 10) (.c (.int .i64 1)), none⟩,
    ⟨some 12, .call 38 [.t 5, .c (.int .i64 0), .t 11], none⟩,
    ⟨some 4, .mv (.t 12), none⟩] [] [4])
  .ret)), [(4, none)]⟩
theorem impl_Pool_isTerm_ok : okFn Tryd.prog 43 impl_Pool_isTerm = true := by kernel_rfl
def impl_Pool_size : IFn := ⟨47, (.seq (.reg false [⟨some 4, .mv (.c (.int .i64 0)), none⟩] [] [0, 1])
  (.seq (.reg false [⟨some 9, .mv (.t 1), none⟩,
    ⟨some 10, .bin .add (.t 9) (.c (.int .i64 1)), none⟩,
    ⟨some 11, .mk 1 8 [.int .i64 0] (.t 10) (.t 10), none⟩,
    ⟨some 5, .mv (.t 11), none⟩] [] [0, 1, 5])
  (.seq (.seq (.reg false [⟨some 12, .mv (.t 5), none⟩,
    ⟨some 13, .len false (.t 12), none⟩,
    ⟨some 14, .mv (.c (.int .i64 0)), none⟩] [] [0, 1, 5, 13, 14])
  (.block 0 (.loop (.seq (.reg false [⟨some 15, .bin .lss (.t 14) (.t 13), none⟩] [] [0, 1, 5, 13, 14, 15])
  (.seq (.cond (.t 15)
  .skip
  (.exit 0))
  (.seq (.block 1 (.seq (.reg false [⟨some 16, .mv (.t 14), none⟩,
    ⟨some 6, .mv (.t 16), none⟩] [] [0, 1, 5, 6, 13, 14])
  (.seq (.reg false [⟨some 17, .mv (.t 5), none⟩,
    ⟨some 18, .mv (.t 6), none⟩,
    ⟨some 19, .iad 1 (.t 17) (.t 18), none⟩,
    ⟨none, .st 1 (.t 19) (.c (.int .i64 1)), none⟩] [] [0, 1, 5, 6, 13, 14])
  (.seq (.reg false [⟨some 20, .mv (.t 0), none⟩,
    ⟨some 21, .mv (.t 6), none⟩,
    ⟨some 22, .call 69 [.t 20, .t 21], none⟩,
    ⟨some 23, .len false (.t 22), none⟩,
    ⟨some 24, .mv (.c (.int .i64 0)), none⟩] [] [0, 1, 5, 6, 13, 14, 22, 23, 24])
  (.block 2 (.loop (.seq (.reg false [⟨some 25, .bin .lss (.t 24) (.t 23), none⟩] [] [0, 1, 5, 6, 13, 14, 22, 23, 24, 25])
  (.seq (.cond (.t 25)
  .skip
  (.exit 2))
  (.seq (.block 3 (.seq (.reg false [⟨some 26, .iad 1 (.t 22) (.t 24), none⟩,
    ⟨some 27, .ld none (.t 26), none⟩,
    ⟨some 8, .mv (.t 27), none⟩] [] [0, 1, 5, 6, 8, 13, 14, 22, 23, 24])
  (.reg true [⟨some 28, .mv (.t 5), none⟩,
    ⟨some 29, .mv (.t 6), none⟩,
    ⟨some 30, .mv (.t 5), none⟩,
    ⟨some 31, .mv (.t 6), none⟩,
    ⟨some 32, .iad 1 (.t 30) (.t 31), none⟩,
    ⟨some 33, .ld none (.t 32), none⟩,
    ⟨some 34, .mv (.t 5), none⟩,
    ⟨some 35, .mv (.t 8), none⟩,
    ⟨some 36, .iad 1 (.t 34) (.t 35), none⟩,
    ⟨some 37, .ld none (.t 36), none⟩,
    ⟨some 38, .bin .add (.t 33) (.t 37), none⟩,
    ⟨some 39, .mm false (.t 38) [.c (.int .i64 1001)], none⟩,
    ⟨some 40, .iad 1 (.t 28) (.t 29), none⟩,
    ⟨none, .st 1 (.t 40) (.t 39), none⟩] [0, 0, 0, 0, 12, 28, 0, 0, 192, 448, 1020, 2044, 4095, 8191] [0, 1, 5, 6, 13, 14, 22, 23, 24])))
  (.reg false [⟨some 41, .bin .add (.t 24) (.c (.int .i64 1)), none⟩,
    ⟨some 24, .mv (.t 41), none⟩] [] [0, 1, 5, 6, 13, 14, 22, 23, 24]))))))))))
  (.reg false [⟨some 42, .bin .add (.t 14) (.c (.int .i64 1)), none⟩,
    ⟨some 14, .mv (.t 42), none⟩] [] [0, 1, 5, 13, 14])))))))
  (.seq (.reg false [⟨some 43, .mv (.t 5), none⟩,
    ⟨some 44, .mv (.t 1), none⟩,
    ⟨some 45, .iad 1 (.t 43) (.t 44), none⟩,
    ⟨some 46, .ld none (.t 45), none⟩,
    ⟨some 4, .mv (.t 46), none⟩] [] [4])
  .ret)))), [(4, none)]⟩
theorem impl_Pool_size_ok : okFn Tryd.prog 44 impl_Pool_size = true := by kernel_rfl
def spec_l1New : IFn := ⟨32, (.seq (.reg false [⟨some 2, .mv (.c (.nilp)), none⟩] [] [0])
  (.seq (.reg false [⟨some 5, .mv (.t 0), none⟩,
    ⟨some 6, .len false (.t 5), none⟩,
    ⟨some 7, .bin .add (.c (.int .i64 12241)) (.t 6), none⟩,
    ⟨some 3, .mv (.t 7), none⟩] [] [0, 3])
  (.seq (.seq (.reg false [⟨some 4, .mv (.c (.int .i64 0)), none⟩] [] [0, 3, 4])
  (.block 0 (.loop (.seq (.seq (.reg false [⟨some 8, .mv (.t 4), none⟩,
    ⟨some 9, .mv (.t 0), none⟩,
    ⟨some 10, .len false (.t 9), none⟩,
    ⟨some 11, .bin .lss (.t 8) (.t 10), none⟩,
    ⟨some 12, .mv (.t 11), none⟩,
    ⟨some 13, .mv (.t 4), some (12, true)⟩,
    ⟨some 14, .bin .lss (.t 13) (.c (.int .i64 4000)), some (12, true)⟩,
    ⟨some 15, .pick (.t 12) (.t 14) (.c (.bool false)), none⟩] [] [0, 3, 4, 15])
  (.cond (.t 15)
  .skip
  (.exit 0)))
  (.seq (.block 1 (.reg false [⟨some 18, .mv (.t 3), none⟩,
    ⟨some 19, .bin .mul (.t 18) (.c (.int .i64 131)), none⟩,
    ⟨some 20, .mv (.t 0), none⟩,
    ⟨some 21, .mv (.t 4), none⟩,
    ⟨some 22, .iad 1 (.t 20) (.t 21), none⟩,
    ⟨some 23, .ld none (.t 22), none⟩,
    ⟨some 24, .conv .i64 (.t 23), none⟩,
    ⟨some 25, .bin .add (.t 19) (.t 24), none⟩,
    ⟨some 26, .bin .add (.t 25) (.c (.int .i64 7)), none⟩,
    ⟨some 27, .bin .and (.t 26) (.c (.int .i64 1073741823)), none⟩,
    ⟨some 3, .mv (.t 27), none⟩] [] [0, 3, 4]))
  (.reg false [⟨some 16, .mv (.t 4), none⟩,
    ⟨some 17, .bin .add (.t 16) (.c (.int .i64 1)), none⟩,
    ⟨some 4, .mv (.t 17), none⟩] [] [0, 3, 4]))))))
  (.seq (.reg false [⟨some 28, .mv (.t 0), none⟩,
    ⟨some 29, .mv (.t 3), none⟩,
    ⟨some 30, .build [.nil, .int .i64 0, .int .i64 0] [(0, 1, .t 28), (2, 1, .t 29)], none⟩,
    ⟨some 31, .box (.t 30), none⟩,
    ⟨some 2, .mv (.t 31), none⟩] [] [2])
  .ret)))), [(2, none)]⟩
theorem spec_l1New_ok : okFn Tryd.prog 45 spec_l1New = true := by kernel_rfl
def spec_l1DrawAny : IFn := ⟨63, (.seq (.reg false [⟨some 2, .new [.nil], none⟩] [] [0, 2])
  (.seq (.reg false [⟨some 4, .mv (.t 0), none⟩,
    ⟨some 5, .call 74 [.t 4, .c (.int .i64 24)], none⟩,
    ⟨some 3, .new [.nil], none⟩,
    ⟨none, .st 1 (.t 3) (.t 5), none⟩] [] [0, 2, 3])
  (.seq (.seq (.reg false [⟨some 6, .mv (.t 0), none⟩,
    ⟨some 7, .call 50 [.t 6, .c (.int .i64 25)], none⟩] [] [0, 2, 3, 7])
  (.block 0 (.seq (.reg false [⟨some 9, .bin .eql (.t 7) (.c (.int .i64 0)), none⟩,
    ⟨some 8, .mv (.t 9), none⟩] [] [0, 2, 3, 7, 8])
  (.cond (.t 8)
  (.reg false [⟨some 10, .ld (some 1) (.t 3), none⟩,
    ⟨some 11, .call 22 [.t 10], none⟩,
    ⟨some 12, .fld 0 none (.t 11), none⟩,
    ⟨some 13, .mv (.t 0), none⟩,
    ⟨some 14, .call 75 [.t 13, .c (.int .i64 3)], none⟩,
    ⟨some 15, .bsl 3 1 [.int .i64 0, .int .i64 0, .int .i64 0] [(0, 3, .t 14)], none⟩,
    ⟨some 16, .app 3 24 (.t 12) (.t 15), none⟩,
    ⟨some 17, .fad 0 (.t 3), none⟩,
    ⟨none, .st 1 (.t 17) (.t 16), none⟩] [] [0, 2, 3])
  (.seq (.reg false [⟨some 19, .bin .eql (.t 7) (.c (.int .i64 1)), none⟩,
    ⟨some 18, .mv (.t 19), none⟩] [] [0, 2, 3, 18])
  (.cond (.t 18)
  (.reg false [⟨some 20, .ld (some 1) (.t 3), none⟩,
    ⟨some 21, .call 22 [.t 20], none⟩,
    ⟨some 22, .fld 0 none (.t 21), none⟩,
    ⟨some 23, .mv (.t 0), none⟩,
    ⟨some 24, .call 50 [.t 23, .c (.int .i64 10)], none⟩,
    ⟨some 25, .mv (.t 0), none⟩,
    ⟨some 26, .call 50 [.t 25, .c (.int .i64 30)], none⟩,
    ⟨some 27, .bin .sub (.t 26) (.c (.int .i64 1)), none⟩,
    ⟨some 28, .mv (.t 0), none⟩,
    ⟨some 29, .call 50 [.t 28, .c (.int .i64 30)], none⟩,
    ⟨some 30, .bin .sub (.t 29) (.c (.int .i64 1)), none⟩,
    ⟨some 31, .build [.int .i64 0, .int .i64 0, .int .i64 0] [(0, 1, .t 24), (1, 1, .t 27), (2, 1, .t 30)], none⟩,
    ⟨some 32, .bsl 3 1 [.int .i64 0, .int .i64 0, .int .i64 0] [(0, 3, .t 31)], none⟩,
    ⟨some 33, .app 3 24 (.t 22) (.t 32), none⟩,
    ⟨some 34, .fad 0 (.t 3), none⟩,
    ⟨none, .st 1 (.t 34) (.t 33), none⟩] [] [0, 2, 3])
  .skip))))))
  (.seq (.seq (.reg false [⟨some 35, .mv (.t 0), none⟩,
    ⟨some 36, .call 48 [.t 35, .c (.int .i64 80)], none⟩] [] [2, 3, 36])
  (.cond (.t 36)
  (.seq (.reg false [⟨some 37, .build [.nil] [], none⟩,
    ⟨none, .st 1 (.t 3) (.t 37), none⟩] [] [2, 3])
  (.block 1 (.loop (.seq (.seq (.reg false [⟨some 38, .fad 0 (.t 3), none⟩,
    ⟨some 39, .ld none (.t 38), none⟩,
    ⟨some 40, .len false (.t 39), none⟩,
    ⟨some 41, .bin .lss (.t 40) (.c (.int .i64 500)), none⟩] [] [2, 3, 41])
  (.cond (.t 41)
  .skip
  (.exit 1)))
  (.block 2 (.seq (.reg false [⟨some 43, .ld (some 1) (.t 3), none⟩,
    ⟨some 44, .fad 0 (.t 3), none⟩,
    ⟨some 45, .ld none (.t 44), none⟩,
    ⟨some 46, .len false (.t 45), none⟩,
    ⟨some 47, .bin .rem (.t 46) (.c (.int .i64 200)), none⟩,
    ⟨some 48, .build [.int .i64 0, .int .i64 0, .int .i64 0] [(0, 1, .c (.int .i64 1)), (1, 1, .t 47)], none⟩,
    ⟨some 49, .call 58 [.t 43, .t 48], none⟩,
    ⟨some 42, .mv (.t 49), none⟩,
    ⟨some 50, .ext (.t 42) 0, none⟩,
    ⟨some 51, .ext (.t 42) 1, none⟩,
    ⟨none, .st 1 (.t 3) (.t 50), none⟩] [] [2, 3])
  (.reg false [⟨some 53, .ld (some 1) (.t 3), none⟩,
    ⟨some 54, .fad 0 (.t 3), none⟩,
    ⟨some 55, .ld none (.t 54), none⟩,
    ⟨some 56, .len false (.t 55), none⟩,
    ⟨some 57, .bin .sub (.t 56) (.c (.int .i64 1)), none⟩,
    ⟨some 58, .build [.int .i64 0, .int .i64 0, .int .i64 0] [(0, 1, .c (.int .i64 5)), (1, 1, .t 57)], none⟩,
    ⟨some 59, .call 58 [.t 53, .t 58], none⟩,
    ⟨some 52, .mv (.t 59), none⟩,
    ⟨some 60, .ext (.t 52) 0, none⟩,
    ⟨some 61, .ext (.t 52) 1, none⟩,
    ⟨none, .st 1 (.t 3) (.t 60), none⟩] [] [2, 3])))))))
  .skip))
  (.seq (.reg false [⟨some 62, .ld (some 1) (.t 3), none⟩,
    ⟨none, .st 1 (.t 2) (.t 62), none⟩] [] [2])
  .ret))))), [(2, some (some 1))]⟩
theorem spec_l1DrawAny_ok : okFn Tryd.prog 46 spec_l1DrawAny = true := by kernel_rfl
def spec_l4DrawText : IFn := ⟨26, (.seq (.reg false [⟨some 2, .mv (.c (.str ⟨#[]⟩)), none⟩] [] [0])
  (.seq (.reg false [⟨some 5, .mv (.t 0), none⟩,
    ⟨some 6, .call 74 [.t 5, .c (.int .i64 16)], none⟩,
    ⟨some 3, .new [.nil], none⟩,
    ⟨none, .st 1 (.t 3) (.t 6), none⟩] [] [0, 3])
  (.seq (.seq (.reg false [⟨some 7, .fad 0 (.t 3), none⟩,
    ⟨some 8, .ld none (.t 7), none⟩,
    ⟨some 9, .len false (.t 8), none⟩,
    ⟨some 10, .bin .eql (.t 9) (.c (.int .i64 0)), none⟩] [] [0, 3, 10])
  (.cond (.t 10)
  (.seq (.reg false [⟨some 2, .mv (.c (.str ⟨#[110, 53]⟩)), none⟩] [] [2])
  .ret)
  .skip))
  (.seq (.reg false [⟨some 11, .mv (.t 0), none⟩,
    ⟨some 12, .fad 0 (.t 3), none⟩,
    ⟨some 13, .ld none (.t 12), none⟩,
    ⟨some 14, .len false (.t 13), none⟩,
    ⟨some 15, .call 76 [.t 11, .t 14], none⟩,
    ⟨some 4, .mv (.t 15), none⟩] [] [3, 4])
  (.seq (.seq (.reg false [⟨some 16, .ld (some 1) (.t 3), none⟩,
    ⟨some 17, .call 72 [.t 16], none⟩,
    ⟨some 18, .mv (.t 4), none⟩,
    ⟨some 19, .iad 1 (.t 17) (.t 18), none⟩,
    ⟨some 20, .ld none (.t 19), none⟩,
    ⟨some 21, .call 40 [.t 20, .c (.int .i64 1), .c (.int .i64 60)], none⟩,
    ⟨some 22, .not (.t 21), none⟩] [] [3, 4, 22])
  (.cond (.t 22)
  (.reg false [⟨some 4, .mv (.c (.int .i64 0)), none⟩] [] [3, 4])
  .skip))
  (.seq (.reg false [⟨some 23, .ld (some 1) (.t 3), none⟩,
    ⟨some 24, .mv (.t 4), none⟩,
    ⟨some 25, .call 42 [.t 23, .t 24], none⟩,
    ⟨some 2, .mv (.t 25), none⟩] [] [2])
  .ret)))))), [(2, none)]⟩
theorem spec_l4DrawText_ok : okFn Tryd.prog 47 spec_l4DrawText = true := by kernel_rfl
def spec_l1Once : IFn := ⟨9, (.seq (.reg false [⟨some 4, .mv (.c (.bool false)), none⟩] [] [0, 1])
  (.seq (.reg false [⟨some 5, .mv (.t 0), none⟩,
    ⟨some 6, .mv (.t 1), none⟩,
    ⟨some 7, .call 50 [.t 5, .t 6], none⟩,
    ⟨some 8, .bin .eql (.t 7) (.c (.int .i64 0)), none⟩,
    ⟨some 4, .mv (.t 8), none⟩] [] [4])
  .ret)), [(4, none)]⟩
theorem spec_l1Once_ok : okFn Tryd.prog 48 spec_l1Once = true := by kernel_rfl
def spec_l4Dent : IFn := ⟨48, (.seq (.reg false [⟨some 6, .mv (.c (.str ⟨#[]⟩)), none⟩] [] [0, 1, 2])
  (.seq (.reg false [⟨some 8, .mv (.t 0), none⟩,
    ⟨some 9, .mv (.t 1), none⟩,
    ⟨some 10, .len true (.t 9), none⟩,
    ⟨some 11, .bin .add (.t 10) (.c (.int .i64 1)), none⟩,
    ⟨some 12, .call 50 [.t 8, .t 11], none⟩,
    ⟨some 7, .mv (.t 12), none⟩] [] [0, 1, 2, 7])
  (.seq (.seq (.reg false [⟨some 13, .mv (.t 0), none⟩,
    ⟨some 14, .call 50 [.t 13, .c (.int .i64 3)], none⟩] [] [0, 1, 2, 7, 14])
  (.block 0 (.seq (.reg false [⟨some 16, .bin .eql (.t 14) (.c (.int .i64 0)), none⟩,
    ⟨some 15, .mv (.t 16), none⟩] [] [0, 1, 2, 7, 14, 15])
  (.cond (.t 15)
  (.seq (.reg false [⟨some 17, .mv (.t 1), none⟩,
    ⟨some 18, .mv (.t 7), none⟩,
    ⟨some 19, .sls (.t 17) none (some (.t 18)), none⟩,
    ⟨some 6, .mv (.t 19), none⟩] [] [6])
  .ret)
  (.seq (.reg false [⟨some 21, .bin .eql (.t 14) (.c (.int .i64 1)), none⟩,
    ⟨some 20, .mv (.t 21), none⟩] [] [0, 1, 2, 7, 20])
  (.cond (.t 20)
  (.seq (.reg true [⟨some 22, .mv (.t 1), none⟩,
    ⟨some 23, .mv (.t 7), none⟩,
    ⟨some 24, .sls (.t 22) none (some (.t 23)), none⟩,
    ⟨some 25, .mv (.t 0), none⟩,
    ⟨some 26, .mv (.t 2), none⟩,
    ⟨some 27, .call 77 [.t 25, .t 26], none⟩,
    ⟨some 28, .bin .add (.t 24) (.t 27), none⟩,
    ⟨some 29, .mv (.t 1), none⟩,
    ⟨some 30, .mv (.t 7), none⟩,
    ⟨some 31, .bin .add (.t 30) (.c (.int .i64 1)), none⟩,
    ⟨some 32, .mv (.t 1), none⟩,
    ⟨some 33, .len true (.t 32), none⟩,
    ⟨some 34, .call 78 [.t 31, .t 33], none⟩,
    ⟨some 35, .sls (.t 29) (some (.t 34)) none, none⟩,
    ⟨some 36, .bin .add (.t 28) (.t 35), none⟩,
    ⟨some 6, .mv (.t 36), none⟩] [0, 0, 3, 0, 0, 24, 63, 0, 0, 256, 0, 1024, 3896, 8120, 16383, 32767] [6])
  .ret)
  .skip))))))
  (.seq (.reg true [⟨some 37, .mv (.t 1), none⟩,
    ⟨some 38, .mv (.t 7), none⟩,
    ⟨some 39, .sls (.t 37) none (some (.t 38)), none⟩,
    ⟨some 40, .mv (.t 0), none⟩,
    ⟨some 41, .mv (.t 2), none⟩,
    ⟨some 42, .call 77 [.t 40, .t 41], none⟩,
    ⟨some 43, .bin .add (.t 39) (.t 42), none⟩,
    ⟨some 44, .mv (.t 1), none⟩,
    ⟨some 45, .mv (.t 7), none⟩,
    ⟨some 46, .sls (.t 44) (some (.t 45)) none, none⟩,
    ⟨some 47, .bin .add (.t 43) (.t 46), none⟩,
    ⟨some 6, .mv (.t 47), none⟩] [0, 0, 3, 0, 0, 24, 63, 0, 0, 384, 1023, 2047] [6])
  .ret)))), [(6, none)]⟩
theorem spec_l4Dent_ok : okFn Tryd.prog 49 spec_l4Dent = true := by kernel_rfl
def spec_l1Below : IFn := ⟨37, (.seq (.reg false [⟨some 4, .mv (.c (.int .i64 0)), none⟩] [] [0, 1])
  (.seq (.seq (.reg false [⟨some 9, .mv (.t 1), none⟩,
    ⟨some 10, .bin .leq (.t 9) (.c (.int .i64 0)), none⟩] [] [0, 1, 10])
  (.cond (.t 10)
  (.seq (.reg false [⟨some 4, .mv (.c (.int .i64 0)), none⟩] [] [4])
  .ret)
  .skip))
  (.seq (.seq (.reg false [⟨some 11, .mv (.t 1), none⟩,
    ⟨some 12, .bin .leq (.t 11) (.c (.int .i64 256)), none⟩] [] [0, 1, 12])
  (.cond (.t 12)
  (.seq (.reg false [⟨some 13, .mv (.t 0), none⟩,
    ⟨some 14, .call 79 [.t 13], none⟩,
    ⟨some 15, .mv (.t 1), none⟩,
    ⟨some 16, .bin .rem (.t 14) (.t 15), none⟩,
    ⟨some 4, .mv (.t 16), none⟩] [] [4])
  .ret)
  .skip))
  (.seq (.reg false [⟨some 17, .mv (.t 0), none⟩,
    ⟨some 18, .call 79 [.t 17], none⟩,
    ⟨some 5, .mv (.t 18), none⟩] [] [0, 1, 5])
  (.seq (.reg false [⟨some 19, .mv (.t 0), none⟩,
    ⟨some 20, .call 79 [.t 19], none⟩,
    ⟨some 6, .mv (.t 20), none⟩] [] [0, 1, 5, 6])
  (.seq (.reg false [⟨some 21, .mv (.t 0), none⟩,
    ⟨some 22, .call 79 [.t 21], none⟩,
    ⟨some 7, .mv (.t 22), none⟩] [] [0, 1, 5, 6, 7])
  (.seq (.reg false [⟨some 23, .mv (.t 0), none⟩,
    ⟨some 24, .call 79 [.t 23], none⟩,
    ⟨some 8, .mv (.t 24), none⟩] [] [1, 5, 6, 7, 8])
  (.seq (.reg false [⟨some 25, .mv (.t 5), none⟩,
    ⟨some 26, .bin .mul (.t 25) (.c (.int .i64 16777216)), none⟩,
    ⟨some 27, .mv (.t 6), none⟩,
    ⟨some 28, .bin .mul (.t 27) (.c (.int .i64 65536)), none⟩,
    ⟨some 29, .bin .add (.t 26) (.t 28), none⟩,
    ⟨some 30, .mv (.t 7), none⟩,
    ⟨some 31, .bin .mul (.t 30) (.c (.int .i64 256)), none⟩,
    ⟨some 32, .bin .add (.t 29) (.t 31), none⟩,
    ⟨some 33, .mv (.t 8), none⟩,
    ⟨some 34, .bin .add (.t 32) (.t 33), none⟩,
    ⟨some 35, .mv (.t 1), none⟩,
    ⟨some 36, .bin .rem (.t 34) (.t 35), none⟩,
    ⟨some 4, .mv (.t 36), none⟩] [] [4])
  .ret)))))))), [(4, none)]⟩
theorem spec_l1Below_ok : okFn Tryd.prog 50 spec_l1Below = true := by kernel_rfl
def impl_nodeOk : IFn := ⟨56, (.seq (.reg false [⟨some 2, .box (.t 0), none⟩,
    ⟨some 4, .mv (.c (.bool false)), none⟩] [] [1, 2])
  (.seq (.seq (.reg false [⟨some 5, .fad 0 (.t 2), none⟩,
    ⟨some 6, .ld none (.t 5), none⟩,
    ⟨some 7, .call 80 [.t 6], none⟩] [] [1, 2, 7])
  (.block 0 (.seq (.reg false [⟨some 9, .bin .eql (.t 7) (.c (.int .i64 0)), none⟩,
    ⟨some 8, .mv (.t 9), none⟩] [] [1, 2, 7, 8])
  (.cond (.t 8)
  (.seq (.reg false [⟨some 10, .fad 1 (.t 2), none⟩,
    ⟨some 11, .ld none (.t 10), none⟩,
    ⟨some 12, .call 38 [.t 11, .c (.int .i64 0), .c (.int .i64 199)], none⟩,
    ⟨some 13, .mv (.t 12), none⟩,
    ⟨some 14, .fad 2 (.t 2), some (13, true)⟩,
    ⟨some 15, .ld none (.t 14), some (13, true)⟩,
    ⟨some 16, .bin .eql (.t 15) (.c (.int .i64 0)), some (13, true)⟩,
    ⟨some 17, .pick (.t 13) (.t 16) (.c (.bool false)), none⟩,
    ⟨some 4, .mv (.t 17), none⟩] [] [4])
  .ret)
  (.seq (.reg false [⟨some 19, .bin .eql (.t 7) (.c (.int .i64 1)), none⟩,
    ⟨some 18, .mv (.t 19), none⟩] [] [1, 2, 7, 18])
  (.cond (.t 18)
  (.seq (.reg false [⟨some 20, .fad 1 (.t 2), none⟩,
    ⟨some 21, .ld none (.t 20), none⟩,
    ⟨some 22, .mv (.t 1), none⟩,
    ⟨some 23, .bin .sub (.t 22) (.c (.int .i64 1)), none⟩,
    ⟨some 24, .call 38 [.t 21, .c (.int .i64 0), .t 23], none⟩,
    ⟨some 25, .mv (.t 24), none⟩,
    ⟨some 26, .fad 2 (.t 2), some (25, true)⟩,
    ⟨some 27, .ld none (.t 26), some (25, true)⟩,
    ⟨some 28, .bin .eql (.t 27) (.c (.int .i64 0)), some (25, true)⟩,
    ⟨some 29, .pick (.t 25) (.t 28) (.c (.bool false)), none⟩,
    ⟨some 4, .mv (.t 29), none⟩] [] [4])
  .ret)
  (.seq (.reg false [⟨some 31, .bin .eql (.t 7) (.c (.int .i64 2)), none⟩,
    ⟨some 30, .mv (.t 31), none⟩] [] [1, 2, 30])
  (.cond (.t 30)
  (.seq (.reg false [⟨some 32, .fad 1 (.t 2), none⟩,
    ⟨some 33, .ld none (.t 32), none⟩,
    ⟨some 34, .mv (.t 1), none⟩,
    ⟨some 35, .bin .sub (.t 34) (.c (.int .i64 1)), none⟩,
    ⟨some 36, .call 38 [.t 33, .c (.int .i64 0), .t 35], none⟩,
    ⟨some 37, .mv (.t 36), none⟩,
    ⟨some 38, .fad 2 (.t 2), some (37, true)⟩,
    ⟨some 39, .ld none (.t 38), some (37, true)⟩,
    ⟨some 40, .mv (.t 1), some (37, true)⟩,
    ⟨some 41, .bin .sub (.t 40) (.c (.int .i64 1)), some (37, true)⟩,
    ⟨some 42, .call 38 [.t 39, .c (.int .i64 0), .t 41], some (37, true)⟩,
    ⟨some 43, .pick (.t 37) (.t 42) (.c (.bool false)), none⟩,
    ⟨some 44, .mv (.t 43), none⟩,
    ⟨some 45, .fad 0 (.t 2), some (44, true)⟩,
    ⟨some 46, .ld none (.t 45), some (44, true)⟩,
    ⟨some 47, .bin .neq (.t 46) (.c (.int .i64 8)), some (44, true)⟩,
    ⟨some 48, .mv (.t 47), some (44, true)⟩,
    ⟨some 49, .fad 1 (.t 2), some (48, false)⟩,
    ⟨some 50, .ld none (.t 49), some (48, false)⟩,
    ⟨some 51, .fad 2 (.t 2), some (48, false)⟩,
    ⟨some 52, .ld none (.t 51), some (48, false)⟩,
    ⟨some 53, .bin .leq (.t 50) (.t 52), some (48, false)⟩,
    ⟨some 54, .pick (.t 48) (.c (.bool true)) (.t 53), some (44, true)⟩,
    ⟨some 55, .pick (.t 44) (.t 54) (.c (.bool false)), none⟩,
    ⟨some 4, .mv (.t 55), none⟩] [] [4])
  .ret)
  .skip))))))))
  (.seq (.reg false [⟨some 4, .mv (.c (.bool false)), none⟩] [] [4])
  .ret))), [(4, none)]⟩
theorem impl_nodeOk_ok : okFn Tryd.prog 51 impl_nodeOk = true := by kernel_rfl
def spec_l1Right : IFn := ⟨56, (.seq (.reg false [⟨some 2, .box (.t 0), none⟩,
    ⟨some 4, .mv (.c (.bool false)), none⟩] [] [1, 2])
  (.seq (.seq (.reg false [⟨some 5, .fad 0 (.t 2), none⟩,
    ⟨some 6, .ld none (.t 5), none⟩,
    ⟨some 7, .call 81 [.t 6], none⟩] [] [1, 2, 7])
  (.block 0 (.seq (.reg false [⟨some 9, .bin .eql (.t 7) (.c (.int .i64 0)), none⟩,
    ⟨some 8, .mv (.t 9), none⟩] [] [1, 2, 7, 8])
  (.cond (.t 8)
  (.seq (.reg false [⟨some 10, .fad 1 (.t 2), none⟩,
    ⟨some 11, .ld none (.t 10), none⟩,
    ⟨some 12, .call 40 [.t 11, .c (.int .i64 0), .c (.int .i64 199)], none⟩,
    ⟨some 13, .mv (.t 12), none⟩,
    ⟨some 14, .fad 2 (.t 2), some (13, true)⟩,
    ⟨some 15, .ld none (.t 14), some (13, true)⟩,
    ⟨some 16, .bin .eql (.t 15) (.c (.int .i64 0)), some (13, true)⟩,
    ⟨some 17, .pick (.t 13) (.t 16) (.c (.bool false)), none⟩,
    ⟨some 4, .mv (.t 17), none⟩] [] [4])
  .ret)
  (.seq (.reg false [⟨some 19, .bin .eql (.t 7) (.c (.int .i64 1)), none⟩,
    ⟨some 18, .mv (.t 19), none⟩] [] [1, 2, 7, 18])
  (.cond (.t 18)
  (.seq (.reg false [⟨some 20, .fad 1 (.t 2), none⟩,
    ⟨some 21, .ld none (.t 20), none⟩,
    ⟨some 22, .mv (.t 1), none⟩,
    ⟨some 23, .bin .sub (.t 22) (.c (.int .i64 1)), none⟩,
    ⟨some 24, .call 40 [.t 21, .c (.int .i64 0), .t 23], none⟩,
    ⟨some 25, .mv (.t 24), none⟩,
    ⟨some 26, .fad 2 (.t 2), some (25, true)⟩,
    ⟨some 27, .ld none (.t 26), some (25, true)⟩,
    ⟨some 28, .bin .eql (.t 27) (.c (.int .i64 0)), some (25, true)⟩,
    ⟨some 29, .pick (.t 25) (.t 28) (.c (.bool false)), none⟩,
    ⟨some 4, .mv (.t 29), none⟩] [] [4])
  .ret)
  (.seq (.reg false [⟨some 31, .bin .eql (.t 7) (.c (.int .i64 2)), none⟩,
    ⟨some 30, .mv (.t 31), none⟩] [] [1, 2, 30])
  (.cond (.t 30)
  (.seq (.reg false [⟨some 32, .fad 1 (.t 2), none⟩,
    ⟨some 33, .ld none (.t 32), none⟩,
    ⟨some 34, .mv (.t 1), none⟩,
    ⟨some 35, .bin .sub (.t 34) (.c (.int .i64 1)), none⟩,
    ⟨some 36, .call 40 [.t 33, .c (.int .i64 0), .t 35], none⟩,
    ⟨some 37, .mv (.t 36), none⟩,
    ⟨some 38, .fad 2 (.t 2), some (37, true)⟩,
    ⟨some 39, .ld none (.t 38), some (37, true)⟩,
    ⟨some 40, .mv (.t 1), some (37, true)⟩,
    ⟨some 41, .bin .sub (.t 40) (.c (.int .i64 1)), some (37, true)⟩,
    ⟨some 42, .call 40 [.t 39, .c (.int .i64 0), .t 41], some (37, true)⟩,
    ⟨some 43, .pick (.t 37) (.t 42) (.c (.bool false)), none⟩,
    ⟨some 44, .mv (.t 43), none⟩,
    ⟨some 45, .fad 0 (.t 2), some (44, true)⟩,
    ⟨some 46, .ld none (.t 45), some (44, true)⟩,
    ⟨some 47, .bin .neq (.t 46) (.c (.int .i64 8)), some (44, true)⟩,
    ⟨some 48, .mv (.t 47), some (44, true)⟩,
    ⟨some 49, .fad 1 (.t 2), some (48, false)⟩,
    ⟨some 50, .ld none (.t 49), some (48, false)⟩,
    ⟨some 51, .fad 2 (.t 2), some (48, false)⟩,
    ⟨some 52, .ld none (.t 51), some (48, false)⟩,
    ⟨some 53, .bin .leq (.t 50) (.t 52), some (48, false)⟩,
    ⟨some 54, .pick (.t 48) (.c (.bool true)) (.t 53), some (44, true)⟩,
    ⟨some 55, .pick (.t 44) (.t 54) (.c (.bool false)), none⟩,
    ⟨some 4, .mv (.t 55), none⟩] [] [4])
  .ret)
  .skip))))))))
  (.seq (.reg false [⟨some 4, .mv (.c (.bool false)), none⟩] [] [4])
  .ret))), [(4, none)]⟩
theorem spec_l1Right_ok : okFn Tryd.prog 52 spec_l1Right = true := by kernel_rfl
def spec_l1Find : IFn := ⟨21, (.seq (.reg false [⟨some 2, .box (.t 0), none⟩,
    ⟨some 3, .box (.t 1), none⟩,
    ⟨some 4, .mv (.c (.int .i64 0)), none⟩] [] [2, 3])
  (.seq (.seq (.reg false [⟨some 5, .mv (.c (.int .i64 0)), none⟩] [] [2, 3, 5])
  (.block 0 (.loop (.seq (.seq (.reg false [⟨some 6, .mv (.t 5), none⟩,
    ⟨some 7, .fad 0 (.t 2), none⟩,
    ⟨some 8, .ld none (.t 7), none⟩,
    ⟨some 9, .len false (.t 8), none⟩,
    ⟨some 10, .bin .lss (.t 6) (.t 9), none⟩] [] [2, 3, 5, 10])
  (.cond (.t 10)
  .skip
  (.exit 0)))
  (.seq (.block 1 (.seq (.reg true [⟨some 13, .fad 0 (.t 2), none⟩,
    ⟨some 14, .ld none (.t 13), none⟩,
    ⟨some 15, .mv (.t 5), none⟩,
    ⟨some 16, .iad 3 (.t 14) (.t 15), none⟩,
    ⟨some 17, .ld (some 3) (.t 16), none⟩,
    ⟨some 18, .ld (some 3) (.t 3), none⟩,
    ⟨some 19, .eqs false [1, 1, 1] (.t 17) (.t 18), none⟩] [0, 1, 0, 7, 15, 0, 63] [2, 3, 5, 19])
  (.cond (.t 19)
  (.seq (.reg false [⟨some 20, .mv (.t 5), none⟩,
    ⟨some 4, .mv (.t 20), none⟩] [] [4])
  .ret)
  .skip)))
  (.reg false [⟨some 11, .mv (.t 5), none⟩,
    ⟨some 12, .bin .add (.t 11) (.c (.int .i64 1)), none⟩,
    ⟨some 5, .mv (.t 12), none⟩] [] [2, 3, 5]))))))
  (.seq (.reg false [⟨some 4, .mv (.c (.int .i64 (-1))), none⟩] [] [4])
  .ret))), [(4, none)]⟩
theorem spec_l1Find_ok : okFn Tryd.prog 53 spec_l1Find = true := by kernel_rfl
def spec_l4Name : IFn := ⟨69, (.seq (.reg false [⟨some 4, .mv (.c (.int .i64 0)), none⟩,
    ⟨some 5, .mv (.c (.int .i64 0)), none⟩,
    ⟨some 6, .mv (.c (.bool false)), none⟩] [] [0, 1])
  (.seq (.reg false [⟨some 9, .mv (.t 1), none⟩,
    ⟨some 7, .mv (.t 9), none⟩] [] [0, 1, 7])
  (.seq (.reg false [⟨some 8, .mv (.c (.int .i64 0)), none⟩] [] [0, 1, 7, 8])
  (.seq (.block 0 (.loop (.seq (.seq (.reg false [⟨some 10, .mv (.t 1), none⟩,
    ⟨some 11, .mv (.t 0), none⟩,
    ⟨some 12, .len true (.t 11), none⟩,
    ⟨some 13, .bin .lss (.t 10) (.t 12), none⟩,
    ⟨some 14, .mv (.t 13), none⟩,
    ⟨some 15, .mv (.t 0), some (14, true)⟩,
    ⟨some 16, .mv (.t 1), some (14, true)⟩,
    ⟨some 17, .idxs (.t 15) (.t 16), some (14, true)⟩,
    ⟨some 18, .bin .geq (.t 17) (.c (.int .u8 48)), some (14, true)⟩,
    ⟨some 19, .pick (.t 14) (.t 18) (.c (.bool false)), none⟩,
    ⟨some 20, .mv (.t 19), none⟩,
    ⟨some 21, .mv (.t 0), some (20, true)⟩,
    ⟨some 22, .mv (.t 1), some (20, true)⟩,
    ⟨some 23, .idxs (.t 21) (.t 22), some (20, true)⟩,
    ⟨some 24, .bin .leq (.t 23) (.c (.int .u8 57)), some (20, true)⟩,
    ⟨some 25, .pick (.t 20) (.t 24) (.c (.bool false)), none⟩,
    ⟨some 26, .mv (.t 25), none⟩,
    ⟨some 27, .mv (.t 1), some (26, true)⟩,
    ⟨some 28, .mv (.t 7), some (26, true)⟩,
    ⟨some 29, .bin .sub (.t 27) (.t 28), some (26, true)⟩,
    ⟨some 30, .bin .lss (.t 29) (.c (.int .i64 4)), some (26, true)⟩,
    ⟨some 31, .pick (.t 26) (.t 30) (.c (.bool false)), none⟩] [] [0, 1, 7, 8, 31])
  (.cond (.t 31)
  .skip
  (.exit 0)))
  (.block 1 (.seq (.reg false [⟨some 32, .mv (.t 8), none⟩,
    ⟨some 33, .bin .mul (.c (.int .i64 10)) (.t 32), none⟩,
    ⟨some 34, .mv (.t 0), none⟩,
    ⟨some 35, .mv (.t 1), none⟩,
    ⟨some 36, .idxs (.t 34) (.t 35), none⟩,
    ⟨some 37, .conv .i64 (.t 36), none⟩,
    ⟨some 38, .bin .add (.t 33) (.t 37), none⟩,
    ⟨some 39, .bin .sub (.t 38) (.c (.int .i64 48)), none⟩,
    ⟨some 8, .mv (.t 39), none⟩] [] [0, 1, 7, 8])
  (.reg false [⟨some 40, .mv (.t 1), none⟩,
    ⟨some 41, .bin .add (.t 40) (.c (.int .i64 1)), none⟩,
    ⟨some 1, .mv (.t 41), none⟩] [] [0, 1, 7, 8]))))))
  (.seq (.seq (.reg false [⟨some 42, .mv (.t 1), none⟩,
    ⟨some 43, .mv (.t 7), none⟩,
    ⟨some 44, .bin .eql (.t 42) (.t 43), none⟩,
    ⟨some 45, .mv (.t 44), none⟩,
    ⟨some 46, .mv (.t 1), some (45, false)⟩,
    ⟨some 47, .mv (.t 7), some (45, false)⟩,
    ⟨some 48, .bin .sub (.t 46) (.t 47), some (45, false)⟩,
    ⟨some 49, .bin .gtr (.t 48) (.c (.int .i64 3)), some (45, false)⟩,
    ⟨some 50, .pick (.t 45) (.c (.bool true)) (.t 49), none⟩,
    ⟨some 51, .mv (.t 50), none⟩,
    ⟨some 52, .mv (.t 0), some (51, false)⟩,
    ⟨some 53, .mv (.t 7), some (51, false)⟩,
    ⟨some 54, .idxs (.t 52) (.t 53), some (51, false)⟩,
    ⟨some 55, .bin .eql (.t 54) (.c (.int .u8 48)), some (51, false)⟩,
    ⟨some 56, .mv (.t 55), some (51, false)⟩,
    ⟨some 57, .mv (.t 1), some (56, true)⟩,
    ⟨some 58, .mv (.t 7), some (56, true)⟩,
    ⟨some 59, .bin .sub (.t 57) (.t 58), some (56, true)⟩,
    ⟨some 60, .bin .gtr (.t 59) (.c (.int .i64 1)), some (56, true)⟩,
    ⟨some 61, .pick (.t 56) (.t 60) (.c (.bool false)), some (51, false)⟩,
    ⟨some 62, .pick (.t 51) (.c (.bool true)) (.t 61), none⟩,
    ⟨some 63, .mv (.t 62), none⟩,
    ⟨some 64, .mv (.t 8), some (63, false)⟩,
    ⟨some 65, .bin .geq (.t 64) (.c (.int .i64 200)), some (63, false)⟩,
    ⟨some 66, .pick (.t 63) (.c (.bool true)) (.t 65), none⟩] [] [1, 8, 66])
  (.cond (.t 66)
  (.seq (.reg false [⟨some 4, .mv (.c (.int .i64 0)), none⟩,
    ⟨some 5, .mv (.c (.int .i64 0)), none⟩,
    ⟨some 6, .mv (.c (.bool false)), none⟩] [] [4, 5, 6])
  .ret)
  .skip))
  (.seq (.reg false [⟨some 67, .mv (.t 8), none⟩,
    ⟨some 68, .mv (.t 1), none⟩,
    ⟨some 4, .mv (.t 67), none⟩,
    ⟨some 5, .mv (.t 68), none⟩,
    ⟨some 6, .mv (.c (.bool true)), none⟩] [] [4, 5, 6])
  .ret)))))), [(4, none), (5, none), (6, none)]⟩
theorem spec_l4Name_ok : okFn Tryd.prog 54 spec_l4Name = true := by kernel_rfl
def spec_l2Name : IFn := ⟨12, (.seq (.reg false [⟨some 2, .box (.t 0), none⟩,
    ⟨some 4, .new [.nil], none⟩,
    ⟨some 5, .mv (.c (.int .i64 0)), none⟩] [] [1, 2, 4])
  (.seq (.reg false [⟨some 6, .ld (some 1) (.t 2), none⟩,
    ⟨some 7, .mv (.t 1), none⟩,
    ⟨some 8, .build [.int .i64 0, .int .i64 0, .int .i64 0] [(0, 1, .c (.int .i64 1)), (1, 1, .t 7)], none⟩,
    ⟨some 9, .call 58 [.t 6, .t 8], none⟩,
    ⟨some 10, .ext (.t 9) 0, none⟩,
    ⟨some 11, .ext (.t 9) 1, none⟩,
    ⟨none, .st 1 (.t 4) (.t 10), none⟩,
    ⟨some 5, .mv (.t 11), none⟩] [] [4, 5])
  .ret)), [(4, some (some 1)), (5, none)]⟩
theorem spec_l2Name_ok : okFn Tryd.prog 55 spec_l2Name = true := by kernel_rfl
def spec_l4Kind : IFn := ⟨24, (.seq (.reg false [⟨some 4, .mv (.c (.int .i64 0)), none⟩,
    ⟨some 5, .mv (.c (.int .i64 0)), none⟩,
    ⟨some 6, .mv (.c (.int .u8 0)), none⟩] [] [0, 1])
  (.seq (.seq (.reg false [⟨some 7, .mv (.t 0), none⟩,
    ⟨some 8, .mv (.t 1), none⟩,
    ⟨some 9, .idxs (.t 7) (.t 8), none⟩] [] [9])
  (.block 0 (.seq (.reg false [⟨some 11, .bin .eql (.t 9) (.c (.int .u8 40)), none⟩,
    ⟨some 10, .mv (.t 11), none⟩] [] [9, 10])
  (.cond (.t 10)
  (.seq (.reg false [⟨some 4, .mv (.c (.int .i64 2)), none⟩,
    ⟨some 5, .mv (.c (.int .i64 1)), none⟩,
    ⟨some 6, .mv (.c (.int .u8 41)), none⟩] [] [4, 5, 6])
  .ret)
  (.seq (.reg false [⟨some 13, .bin .eql (.t 9) (.c (.int .u8 123)), none⟩,
    ⟨some 12, .mv (.t 13), none⟩] [] [9, 12])
  (.cond (.t 12)
  (.seq (.reg false [⟨some 4, .mv (.c (.int .i64 3)), none⟩,
    ⟨some 5, .mv (.c (.int .i64 1)), none⟩,
    ⟨some 6, .mv (.c (.int .u8 125)), none⟩] [] [4, 5, 6])
  .ret)
  (.seq (.reg false [⟨some 15, .bin .eql (.t 9) (.c (.int .u8 91)), none⟩,
    ⟨some 14, .mv (.t 15), none⟩] [] [9, 14])
  (.cond (.t 14)
  (.seq (.reg false [⟨some 4, .mv (.c (.int .i64 4)), none⟩,
    ⟨some 5, .mv (.c (.int .i64 1)), none⟩,
    ⟨some 6, .mv (.c (.int .u8 93)), none⟩] [] [4, 5, 6])
  .ret)
  (.seq (.reg false [⟨some 17, .bin .eql (.t 9) (.c (.int .u8 35)), none⟩,
    ⟨some 16, .mv (.t 17), none⟩] [] [9, 16])
  (.cond (.t 16)
  (.seq (.reg false [⟨some 4, .mv (.c (.int .i64 5)), none⟩,
    ⟨some 5, .mv (.c (.int .i64 1)), none⟩,
    ⟨some 6, .mv (.c (.int .u8 0)), none⟩] [] [4, 5, 6])
  .ret)
  (.seq (.reg false [⟨some 19, .bin .eql (.t 9) (.c (.int .u8 94)), none⟩,
    ⟨some 18, .mv (.t 19), none⟩] [] [9, 18])
  (.cond (.t 18)
  (.seq (.reg false [⟨some 4, .mv (.c (.int .i64 7)), none⟩,
    ⟨some 5, .mv (.c (.int .i64 1)), none⟩,
    ⟨some 6, .mv (.c (.int .u8 0)), none⟩] [] [4, 5, 6])
  .ret)
  (.seq (.reg false [⟨some 21, .bin .eql (.t 9) (.c (.int .u8 107)), none⟩,
    ⟨some 20, .mv (.t 21), none⟩] [] [9, 20])
  (.cond (.t 20)
  (.seq (.reg false [⟨some 4, .mv (.c (.int .i64 6)), none⟩,
    ⟨some 5, .mv (.c (.int .i64 2)), none⟩,
    ⟨some 6, .mv (.c (.int .u8 41)), none⟩] [] [4, 5, 6])
  .ret)
  (.seq (.reg false [⟨some 23, .bin .eql (.t 9) (.c (.int .u8 42)), none⟩,
    ⟨some 22, .mv (.t 23), none⟩] [] [22])
  (.cond (.t 22)
  (.seq (.reg false [⟨some 4, .mv (.c (.int .i64 8)), none⟩,
    ⟨some 5, .mv (.c (.int .i64 2)), none⟩,
    ⟨some 6, .mv (.c (.int .u8 41)), none⟩] [] [4, 5, 6])
  .ret)
  .skip))))))))))))))))
  (.seq (.reg false [⟨some 4, .mv (.c (.int .i64 0)), none⟩,
    ⟨some 5, .mv (.c (.int .i64 0)), none⟩,
    ⟨some 6, .mv (.c (.int .u8 0)), none⟩] [] [4, 5, 6])
  .ret))), [(4, none), (5, none), (6, none)]⟩
theorem spec_l4Kind_ok : okFn Tryd.prog 56 spec_l4Kind = true := by kernel_rfl
def spec_l4Want : IFn := ⟨24, (.seq (.reg false [⟨some 6, .mv (.c (.int .i64 0)), none⟩,
    ⟨some 7, .mv (.c (.int .i64 0)), none⟩] [] [0, 1, 2])
  (.seq (.block 0 (.seq (.reg false [⟨some 9, .mv (.t 1), none⟩,
    ⟨some 10, .mv (.t 0), none⟩,
    ⟨some 11, .len true (.t 10), none⟩,
    ⟨some 12, .bin .geq (.t 9) (.t 11), none⟩,
    ⟨some 8, .mv (.t 12), none⟩] [] [0, 1, 2, 8])
  (.cond (.t 8)
  (.seq (.reg false [⟨some 13, .mv (.t 0), none⟩,
    ⟨some 14, .len true (.t 13), none⟩,
    ⟨some 6, .mv (.t 14), none⟩,
    ⟨some 7, .mv (.c (.int .i64 2)), none⟩] [] [6, 7])
  .ret)
  (.seq (.reg false [⟨some 16, .mv (.t 0), none⟩,
    ⟨some 17, .mv (.t 1), none⟩,
    ⟨some 18, .idxs (.t 16) (.t 17), none⟩,
    ⟨some 19, .mv (.t 2), none⟩,
    ⟨some 20, .bin .neq (.t 18) (.t 19), none⟩,
    ⟨some 15, .mv (.t 20), none⟩] [] [1, 15])
  (.cond (.t 15)
  (.seq (.reg false [⟨some 21, .mv (.t 1), none⟩,
    ⟨some 6, .mv (.t 21), none⟩,
    ⟨some 7, .mv (.c (.int .i64 3)), none⟩] [] [6, 7])
  .ret)
  .skip)))))
  (.seq (.reg false [⟨some 22, .mv (.t 1), none⟩,
    ⟨some 23, .bin .add (.t 22) (.c (.int .i64 1)), none⟩,
    ⟨some 6, .mv (.t 23), none⟩,
    ⟨some 7, .mv (.c (.int .i64 0)), none⟩] [] [6, 7])
  .ret))), [(6, none), (7, none)]⟩
theorem spec_l4Want_ok : okFn Tryd.prog 57 spec_l4Want = true := by kernel_rfl
def spec_l1Add : IFn := ⟨57, (.seq (.reg false [⟨some 2, .box (.t 0), none⟩,
    ⟨some 3, .box (.t 1), none⟩,
    ⟨some 4, .new [.nil], none⟩,
    ⟨some 5, .mv (.c (.int .i64 0)), none⟩] [] [2, 3, 4])
  (.seq (.seq (.reg false [⟨some 8, .fad 0 (.t 3), none⟩,
    ⟨some 9, .ld none (.t 8), none⟩,
    ⟨some 10, .bin .eql (.t 9) (.c (.int .i64 8)), none⟩,
    ⟨some 11, .mv (.t 10), none⟩,
    ⟨some 12, .fad 1 (.t 3), some (11, true)⟩,
    ⟨some 13, .ld none (.t 12), some (11, true)⟩,
    ⟨some 14, .fad 2 (.t 3), some (11, true)⟩,
    ⟨some 15, .ld none (.t 14), some (11, true)⟩,
    ⟨some 16, .bin .gtr (.t 13) (.t 15), some (11, true)⟩,
    ⟨some 17, .pick (.t 11) (.t 16) (.c (.bool false)), none⟩] [] [2, 3, 4, 17])
  (.cond (.t 17)
  (.reg false [⟨some 18, .fad 0 (.t 3), none⟩,
    ⟨some 19, .ld none (.t 18), none⟩,
    ⟨some 20, .fad 2 (.t 3), none⟩,
    ⟨some 21, .ld none (.t 20), none⟩,
    ⟨some 22, .fad 1 (.t 3), none⟩,
    ⟨some 23, .ld none (.t 22), none⟩,
    ⟨some 24, .build [.int .i64 0, .int .i64 0, .int .i64 0] [(0, 1, .t 19), (1, 1, .t 21), (2, 1, .t 23)], none⟩,
    ⟨none, .st 3 (.t 3) (.t 24), none⟩] [] [2, 3, 4])
  .skip))
  (.seq (.reg false [⟨some 25, .ld (some 1) (.t 2), none⟩,
    ⟨some 26, .ld (some 3) (.t 3), none⟩,
    ⟨some 27, .call 53 [.t 25, .t 26], none⟩,
    ⟨some 6, .mv (.t 27), none⟩] [] [2, 3, 4, 6])
  (.seq (.seq (.reg false [⟨some 28, .mv (.t 6), none⟩,
    ⟨some 29, .bin .geq (.t 28) (.c (.int .i64 0)), none⟩] [] [2, 3, 4, 6, 29])
  (.cond (.t 29)
  (.seq (.reg false [⟨some 30, .ld (some 1) (.t 2), none⟩,
    ⟨some 31, .mv (.t 6), none⟩,
    ⟨none, .st 1 (.t 4) (.t 30), none⟩,
    ⟨some 5, .mv (.t 31), none⟩] [] [4, 5])
  .ret)
  .skip))
  (.seq (.seq (.reg false [⟨some 32, .ld (some 3) (.t 3), none⟩,
    ⟨some 33, .fad 0 (.t 2), none⟩,
    ⟨some 34, .ld none (.t 33), none⟩,
    ⟨some 35, .len false (.t 34), none⟩,
    ⟨some 36, .call 52 [.t 32, .t 35], none⟩,
    ⟨some 37, .not (.t 36), none⟩,
    ⟨some 38, .mv (.t 37), none⟩,
    ⟨some 39, .fad 0 (.t 2), some (38, false)⟩,
    ⟨some 40, .ld none (.t 39), some (38, false)⟩,
    ⟨some 41, .len false (.t 40), some (38, false)⟩,
    ⟨some 42, .bin .eql (.t 41) (.c (.int .i64 500)), some (38, false)⟩,
    ⟨some 43, .pick (.t 38) (.c (.bool true)) (.t 42), none⟩] [] [2, 3, 4, 43])
  (.cond (.t 43)
  (.seq (.reg false [⟨some 44, .ld (some 1) (.t 2), none⟩,
    ⟨none, .st 1 (.t 4) (.t 44), none⟩,
    ⟨some 5, .mv (.c (.int .i64 (-1))), none⟩] [] [4, 5])
  .ret)
  .skip))
  (.seq (.reg false [⟨some 45, .ld (some 1) (.t 2), none⟩,
    ⟨some 46, .call 22 [.t 45], none⟩,
    ⟨some 7, .new [.nil], none⟩,
    ⟨none, .st 1 (.t 7) (.t 46), none⟩] [] [2, 3, 4, 7])
  (.seq (.reg false [⟨some 47, .fad 0 (.t 7), none⟩,
    ⟨some 48, .ld none (.t 47), none⟩,
    ⟨some 49, .ld (some 3) (.t 3), none⟩,
    ⟨some 50, .bsl 3 1 [.int .i64 0, .int .i64 0, .int .i64 0] [(0, 3, .t 49)], none⟩,
    ⟨some 51, .app 3 24 (.t 48) (.t 50), none⟩,
    ⟨some 52, .fad 0 (.t 7), none⟩,
    ⟨none, .st 1 (.t 52) (.t 51), none⟩] [] [2, 4, 7])
  (.seq (.reg true [⟨some 53, .ld (some 1) (.t 7), none⟩,
    ⟨some 54, .fad 0 (.t 2), none⟩,
    ⟨some 55, .ld none (.t 54), none⟩,
    ⟨some 56, .len false (.t 55), none⟩,
    ⟨none, .st 1 (.t 4) (.t 53), none⟩,
    ⟨some 5, .mv (.t 56), none⟩] [0, 0, 2, 6, 1, 31] [4, 5])
  .ret)))))))), [(4, some (some 1)), (5, none)]⟩
theorem spec_l1Add_ok : okFn Tryd.prog 58 spec_l1Add = true := by kernel_rfl
def laws_toNode : IFn := ⟨14, (.seq (.reg false [⟨some 1, .box (.t 0), none⟩,
    ⟨some 2, .new [.int .i64 0, .int .i64 0, .int .i64 0], none⟩] [] [1, 2])
  (.seq (.reg false [⟨some 3, .new [.int .i64 0, .int .i64 0, .int .i64 0], none⟩] [] [1, 2, 3])
  (.seq (.reg false [⟨some 4, .fad 0 (.t 1), none⟩,
    ⟨some 5, .ld none (.t 4), none⟩,
    ⟨some 6, .fad 0 (.t 3), none⟩,
    ⟨none, .st 1 (.t 6) (.t 5), none⟩] [] [1, 2, 3])
  (.seq (.reg false [⟨some 7, .fad 1 (.t 1), none⟩,
    ⟨some 8, .ld none (.t 7), none⟩,
    ⟨some 9, .fad 1 (.t 3), none⟩,
    ⟨none, .st 1 (.t 9) (.t 8), none⟩] [] [1, 2, 3])
  (.seq (.reg false [⟨some 10, .fad 2 (.t 1), none⟩,
    ⟨some 11, .ld none (.t 10), none⟩,
    ⟨some 12, .fad 2 (.t 3), none⟩,
    ⟨none, .st 1 (.t 12) (.t 11), none⟩] [] [2, 3])
  (.seq (.reg false [⟨some 13, .ld (some 3) (.t 3), none⟩,
    ⟨none, .st 3 (.t 2) (.t 13), none⟩] [] [2])
  .ret)))))), [(2, some (some 3))]⟩
theorem laws_toNode_ok : okFn Tryd.prog 59 laws_toNode = true := by kernel_rfl
def slices_Clone_Node : IFn := ⟨8, (.seq (.reg false [⟨some 2, .mv (.c (.nil)), none⟩] [] [0])
  (.seq (.seq (.reg false [⟨some 3, .mv (.t 0), none⟩,
    ⟨some 4, .isn false (.t 3), none⟩] [] [0, 4])
  (.cond (.t 4)
  (.seq (.reg false [⟨some 2, .mv (.c (.nil)), none⟩] [] [2])
  .ret)
  .skip))
  (.seq (.reg false [⟨some 5, .bsl 3 0 [.int .i64 0, .int .i64 0, .int .i64 0] [], none⟩,
    ⟨some 6, .mv (.t 0), none⟩,
    ⟨some 7, .app 3 24 (.t 5) (.t 6), none⟩,
    ⟨some 2, .mv (.t 7), none⟩] [] [2])
  .ret))), [(2, none)]⟩
theorem slices_Clone_Node_ok : okFn Tryd.prog 60 slices_Clone_Node = true := by kernel_rfl
def impl_reader_figures : IFn := ⟨53, (.seq (.reg false [⟨some 4, .mv (.c (.int .i64 0)), none⟩] [] [0, 1])
  (.seq (.reg false [⟨some 9, .mv (.t 0), none⟩,
    ⟨some 10, .nck (.t 9), none⟩,
    ⟨some 11, .fad 1 (.t 10), none⟩,
    ⟨some 12, .ld none (.t 11), none⟩,
    ⟨some 5, .mv (.t 12), none⟩] [] [0, 1, 5])
  (.seq (.block 0 (.loop (.seq (.seq (.reg false [⟨some 13, .mv (.t 0), none⟩,
    ⟨some 14, .call 83 [.t 13], none⟩,
    ⟨some 15, .call 82 [.t 14], none⟩] [] [0, 1, 5, 15])
  (.cond (.t 15)
  .skip
  (.exit 0)))
  (.block 1 (.reg false [⟨some 16, .mv (.t 0), none⟩,
    ⟨some 17, .nck (.t 16), none⟩,
    ⟨some 18, .fad 1 (.t 17), none⟩,
    ⟨some 19, .ld none (.t 18), none⟩,
    ⟨some 20, .bin .add (.t 19) (.c (.int .i64 1)), none⟩,
    ⟨some 21, .nck (.t 16), none⟩,
    ⟨some 22, .fad 1 (.t 21), none⟩,
    ⟨none, .st 1 (.t 22) (.t 20), none⟩] [] [0, 1, 5])))))
  (.seq (.reg true [⟨some 23, .mv (.t 0), none⟩,
    ⟨some 24, .nck (.t 23), none⟩,
    ⟨some 25, .fad 0 (.t 24), none⟩,
    ⟨some 26, .ld none (.t 25), none⟩,
    ⟨some 27, .mv (.t 5), none⟩,
    ⟨some 28, .mv (.t 0), none⟩,
    ⟨some 29, .nck (.t 28), none⟩,
    ⟨some 30, .fad 1 (.t 29), none⟩,
    ⟨some 31, .ld none (.t 30), none⟩,
    ⟨some 32, .sls (.t 26) (some (.t 27)) (some (.t 31)), none⟩,
    ⟨some 6, .mv (.t 32), none⟩] [0, 1, 3, 7, 0, 0, 32, 96, 224, 511, 1023] [1, 6])
  (.seq (.reg false [⟨some 34, .mv (.t 6), none⟩,
    ⟨some 35, .call 84 [.t 34], none⟩,
    ⟨some 33, .mv (.t 35), none⟩,
    ⟨some 36, .ext (.t 33) 0, none⟩,
    ⟨some 37, .ext (.t 33) 1, none⟩,
    ⟨some 7, .mv (.t 36), none⟩,
    ⟨some 8, .mv (.t 37), none⟩] [] [1, 6, 7, 8])
  (.seq (.seq (.reg false [⟨some 38, .mv (.t 8), none⟩,
    ⟨some 39, .ise true (.t 38), none⟩,
    ⟨some 40, .mv (.t 39), none⟩,
    ⟨some 41, .mv (.t 6), some (40, false)⟩,
    ⟨some 42, .len true (.t 41), some (40, false)⟩,
    ⟨some 43, .mv (.t 1), some (40, false)⟩,
    ⟨some 44, .bin .gtr (.t 42) (.t 43), some (40, false)⟩,
    ⟨some 45, .pick (.t 40) (.c (.bool true)) (.t 44), none⟩,
    ⟨some 46, .mv (.t 45), none⟩,
    ⟨some 47, .mv (.t 7), some (46, false)⟩,
    ⟨some 48, .call 68 [.t 47], some (46, false)⟩,
    ⟨some 49, .mv (.t 6), some (46, false)⟩,
    ⟨some 50, .bin .neq (.t 48) (.t 49), some (46, false)⟩,
    ⟨some 51, .pick (.t 46) (.c (.bool true)) (.t 50), none⟩] [] [7, 51])
  (.cond (.t 51)
  (.seq (.reg false [⟨some 4, .mv (.c (.int .i64 (-1))), none⟩] [] [4])
  .ret)
  .skip))
  (.seq (.reg false [⟨some 52, .mv (.t 7), none⟩,
    ⟨some 4, .mv (.t 52), none⟩] [] [4])
  .ret))))))), [(4, none)]⟩
theorem impl_reader_figures_ok : okFn Tryd.prog 61 impl_reader_figures = true := by kernel_rfl
def impl_reader_fail : IFn := ⟨20, (.seq (.reg false [⟨some 6, .mv (.c (.int .i64 0)), none⟩] [] [0, 1, 2])
  (.seq (.seq (.reg false [⟨some 7, .mv (.t 0), none⟩,
    ⟨some 8, .nck (.t 7), none⟩,
    ⟨some 9, .fad 2 (.t 8), none⟩,
    ⟨some 10, .ld none (.t 9), none⟩,
    ⟨some 11, .bin .eql (.t 10) (.c (.int .i64 0)), none⟩] [] [0, 1, 2, 11])
  (.cond (.t 11)
  (.reg false [⟨some 12, .mv (.t 0), none⟩,
    ⟨some 13, .mv (.t 0), none⟩,
    ⟨some 14, .mv (.t 1), none⟩,
    ⟨some 15, .mv (.t 2), none⟩,
    ⟨some 16, .nck (.t 12), none⟩,
    ⟨some 17, .fad 2 (.t 16), none⟩,
    ⟨none, .st 1 (.t 17) (.t 14), none⟩,
    ⟨some 18, .nck (.t 13), none⟩,
    ⟨some 19, .fad 1 (.t 18), none⟩,
    ⟨none, .st 1 (.t 19) (.t 15), none⟩] [] [])
  .skip))
  (.seq (.reg false [⟨some 6, .mv (.c (.int .i64 (-1))), none⟩] [] [6])
  .ret))), [(6, none)]⟩
theorem impl_reader_fail_ok : okFn Tryd.prog 62 impl_reader_fail = true := by kernel_rfl
def impl_Pool_add : IFn := ⟨61, (.seq (.reg false [⟨some 8, .mv (.c (.int .i64 0)), none⟩] [] [0, 1, 2, 3])
  (.seq (.reg false [⟨some 11, .mv (.t 1), none⟩,
    ⟨some 12, .mv (.t 2), none⟩,
    ⟨some 13, .mv (.t 3), none⟩,
    ⟨some 14, .build [.int .i64 0, .int .i64 0, .int .i64 0] [(0, 1, .t 11), (1, 1, .t 12), (2, 1, .t 13)], none⟩,
    ⟨some 9, .new [.int .i64 0, .int .i64 0, .int .i64 0], none⟩,
    ⟨none, .st 3 (.t 9) (.t 14), none⟩] [] [0, 1, 2, 3, 9])
  (.seq (.seq (.reg false [⟨some 15, .mv (.t 1), none⟩,
    ⟨some 16, .bin .eql (.t 15) (.c (.int .i64 8)), none⟩] [] [0, 2, 3, 9, 16])
  (.cond (.t 16)
  (.reg false [⟨some 17, .mv (.t 2), none⟩,
    ⟨some 18, .mv (.t 3), none⟩,
    ⟨some 19, .mm false (.t 17) [.t 18], none⟩,
    ⟨some 20, .mv (.t 2), none⟩,
    ⟨some 21, .mv (.t 3), none⟩,
    ⟨some 22, .mm true (.t 20) [.t 21], none⟩,
    ⟨some 23, .fad 1 (.t 9), none⟩,
    ⟨none, .st 1 (.t 23) (.t 19), none⟩,
    ⟨some 24, .fad 2 (.t 9), none⟩,
    ⟨none, .st 1 (.t 24) (.t 22), none⟩] [] [0, 9])
  .skip))
  (.seq (.seq (.reg true [⟨some 25, .ld (some 3) (.t 9), none⟩,
    ⟨some 26, .mv (.t 0), none⟩,
    ⟨some 27, .nck (.t 26), none⟩,
    ⟨some 28, .fad 0 (.t 27), none⟩,
    ⟨some 29, .ld none (.t 28), none⟩,
    ⟨some 30, .len false (.t 29), none⟩,
    ⟨some 31, .call 51 [.t 25, .t 30], none⟩,
    ⟨some 32, .not (.t 31), none⟩] [0, 0, 2, 6, 14, 30, 63, 127] [0, 9, 32])
  (.cond (.t 32)
  (.seq (.reg false [⟨some 8, .mv (.c (.int .i64 (-1))), none⟩] [] [8])
  .ret)
  .skip))
  (.seq (.seq (.reg false [⟨some 33, .mv (.t 0), none⟩,
    ⟨some 34, .ld (some 3) (.t 9), none⟩,
    ⟨some 35, .call 85 [.t 33, .t 34], none⟩,
    ⟨some 10, .mv (.t 35), none⟩] [] [0, 9, 10])
  (.seq (.reg false [⟨some 36, .mv (.t 10), none⟩,
    ⟨some 37, .bin .geq (.t 36) (.c (.int .i64 0)), none⟩] [] [0, 9, 10, 37])
  (.cond (.t 37)
  (.seq (.reg false [⟨some 38, .mv (.t 10), none⟩,
    ⟨some 8, .mv (.t 38), none⟩] [] [8])
  .ret)
  .skip)))
  (.seq (.seq (.reg false [⟨some 39, .mv (.t 0), none⟩,
    ⟨some 40, .nck (.t 39), none⟩,
    ⟨some 41, .fad 0 (.t 40), none⟩,
    ⟨some 42, .ld none (.t 41), none⟩,
    ⟨some 43, .len false (.t 42), none⟩,
    ⟨some 44, .bin .geq (.t 43) (.c (.int .i64 500)), none⟩] [] [0, 9, 44])
  (.cond (.t 44)
  (.seq (.reg false [⟨some 8, .mv (.c (.int .i64 (-1))), none⟩] [] [8])
  .ret)
  .skip))
  (.seq (.reg true [⟨some 45, .mv (.t 0), none⟩,
    ⟨some 46, .mv (.t 0), none⟩,
    ⟨some 47, .nck (.t 46), none⟩,
    ⟨some 48, .fad 0 (.t 47), none⟩,
    ⟨some 49, .ld none (.t 48), none⟩,
    ⟨some 50, .ld (some 3) (.t 9), none⟩,
    ⟨some 51, .bsl 3 1 [.int .i64 0, .int .i64 0, .int .i64 0] [(0, 3, .t 50)], none⟩,
    ⟨some 52, .app 3 24 (.t 49) (.t 51), none⟩,
    ⟨some 53, .nck (.t 45), none⟩,
    ⟨some 54, .fad 0 (.t 53), none⟩,
    ⟨none, .st 1 (.t 54) (.t 52), none⟩] [0, 0, 2, 6, 14, 0, 32, 126, 255, 511, 1023] [0])
  (.seq (.reg false [⟨some 55, .mv (.t 0), none⟩,
    ⟨some 56, .nck (.t 55), none⟩,
    ⟨some 57, .fad 0 (.t 56), none⟩,
    ⟨some 58, .ld none (.t 57), none⟩,
    ⟨some 59, .len false (.t 58), none⟩,
    ⟨some 60, .bin .sub (.t 59) (.c (.int .i64 1)), none⟩,
    ⟨some 8, .mv (.t 60), none⟩] [] [8])
  .ret)))))))), [(8, none)]⟩
theorem impl_Pool_add_ok : okFn Tryd.prog 63 impl_Pool_add = true := by kernel_rfl
def impl_kindOf : IFn := ⟨16, (.seq (.reg false [⟨some 2, .mv (.c (.int .i64 0)), none⟩] [] [0])
  (.seq (.seq (.reg false [⟨some 3, .mv (.t 0), none⟩] [] [3])
  (.block 0 (.seq (.reg false [⟨some 5, .bin .eql (.t 3) (.c (.int .u8 40)), none⟩,
    ⟨some 4, .mv (.t 5), none⟩] [] [3, 4])
  (.cond (.t 4)
  (.seq (.reg false [⟨some 2, .mv (.c (.int .i64 2)), none⟩] [] [2])
  .ret)
  (.seq (.reg false [⟨some 7, .bin .eql (.t 3) (.c (.int .u8 123)), none⟩,
    ⟨some 6, .mv (.t 7), none⟩] [] [3, 6])
  (.cond (.t 6)
  (.seq (.reg false [⟨some 2, .mv (.c (.int .i64 3)), none⟩] [] [2])
  .ret)
  (.seq (.reg false [⟨some 9, .bin .eql (.t 3) (.c (.int .u8 91)), none⟩,
    ⟨some 8, .mv (.t 9), none⟩] [] [3, 8])
  (.cond (.t 8)
  (.seq (.reg false [⟨some 2, .mv (.c (.int .i64 4)), none⟩] [] [2])
  .ret)
  (.seq (.reg false [⟨some 11, .bin .eql (.t 3) (.c (.int .u8 35)), none⟩,
    ⟨some 10, .mv (.t 11), none⟩] [] [3, 10])
  (.cond (.t 10)
  (.seq (.reg false [⟨some 2, .mv (.c (.int .i64 5)), none⟩] [] [2])
  .ret)
  (.seq (.reg false [⟨some 13, .bin .eql (.t 3) (.c (.int .u8 107)), none⟩,
    ⟨some 12, .mv (.t 13), none⟩] [] [3, 12])
  (.cond (.t 12)
  (.seq (.reg false [⟨some 2, .mv (.c (.int .i64 6)), none⟩] [] [2])
  .ret)
  (.seq (.reg false [⟨some 15, .bin .eql (.t 3) (.c (.int .u8 94)), none⟩,
    ⟨some 14, .mv (.t 15), none⟩] [] [14])
  (.cond (.t 14)
  (.seq (.reg false [⟨some 2, .mv (.c (.int .i64 7)), none⟩] [] [2])
  .ret)
  .skip))))))))))))))
  (.seq (.reg false [⟨some 2, .mv (.c (.int .i64 8)), none⟩] [] [2])
  .ret))), [(2, none)]⟩
theorem impl_kindOf_ok : okFn Tryd.prog 64 impl_kindOf = true := by kernel_rfl
def impl_reader_read : IFn := ⟨135, (.seq (.reg false [⟨some 2, .mv (.c (.int .i64 0)), none⟩] [] [0])
  (.seq (.seq (.reg false [⟨some 5, .mv (.t 0), none⟩,
    ⟨some 6, .nck (.t 5), none⟩,
    ⟨some 7, .fad 2 (.t 6), none⟩,
    ⟨some 8, .ld none (.t 7), none⟩,
    ⟨some 9, .bin .neq (.t 8) (.c (.int .i64 0)), none⟩] [] [0, 9])
  (.cond (.t 9)
  (.seq (.reg false [⟨some 2, .mv (.c (.int .i64 (-1))), none⟩] [] [2])
  .ret)
  .skip))
  (.seq (.reg false [⟨some 10, .mv (.t 0), none⟩,
    ⟨some 11, .call 83 [.t 10], none⟩,
    ⟨some 3, .mv (.t 11), none⟩] [] [0, 3])
  (.seq (.seq (.reg true [⟨some 12, .mv (.t 0), none⟩,
    ⟨some 13, .nck (.t 12), none⟩,
    ⟨some 14, .fad 1 (.t 13), none⟩,
    ⟨some 15, .ld none (.t 14), none⟩,
    ⟨some 16, .mv (.t 0), none⟩,
    ⟨some 17, .nck (.t 16), none⟩,
    ⟨some 18, .fad 0 (.t 17), none⟩,
    ⟨some 19, .ld none (.t 18), none⟩,
    ⟨some 20, .len true (.t 19), none⟩,
    ⟨some 21, .bin .geq (.t 15) (.t 20), none⟩] [0, 1, 3, 7, 0, 16, 48, 112, 240, 511] [0, 3, 21])
  (.cond (.t 21)
  (.seq (.reg false [⟨some 22, .mv (.t 0), none⟩,
    ⟨some 23, .mv (.t 0), none⟩,
    ⟨some 24, .nck (.t 23), none⟩,
    ⟨some 25, .fad 0 (.t 24), none⟩,
    ⟨some 26, .ld none (.t 25), none⟩,
    ⟨some 27, .len true (.t 26), none⟩,
    ⟨some 28, .call 62 [.t 22, .c (.int .i64 2), .t 27], none⟩,
    ⟨some 2, .mv (.t 28), none⟩] [] [2])
  .ret)
  .skip))
  (.seq (.reg false [⟨some 4, .mv (.c (.nil)), none⟩] [] [0, 3])
  (.seq (.block 0 (.seq (.reg false [⟨some 36, .mv (.t 3), none⟩,
    ⟨some 37, .bin .eql (.t 36) (.c (.int .u8 110)), none⟩,
    ⟨some 38, .mv (.t 37), none⟩,
    ⟨some 39, .mv (.t 3), some (38, false)⟩,
    ⟨some 40, .call 86 [.t 39, .c (.str ⟨#[64, 36, 63]⟩)], some (38, false)⟩,
    ⟨some 41, .mv (.t 40), some (38, false)⟩,
    ⟨some 42, .mv (.t 3), some (41, true)⟩,
    ⟨some 43, .mv (.t 0), some (41, true)⟩,
    ⟨some 44, .nck (.t 43), some (41, true)⟩,
    ⟨some 45, .fad 3 (.t 44), some (41, true)⟩,
    ⟨some 46, .ld none (.t 45), some (41, true)⟩,
    ⟨some 47, .call 86 [.t 42, .t 46], some (41, true)⟩,
    ⟨some 48, .pick (.t 41) (.t 47) (.c (.bool false)), some (38, false)⟩,
    ⟨some 49, .pick (.t 38) (.c (.bool true)) (.t 48), none⟩,
    ⟨some 35, .mv (.t 49), none⟩] [] [0, 3, 35])
  (.cond (.t 35)
  (.seq (.reg false [⟨some 50, .mv (.t 0), none⟩,
    ⟨some 51, .nck (.t 50), none⟩,
    ⟨some 52, .fad 4 (.t 51), none⟩,
    ⟨some 53, .ld none (.t 52), none⟩,
    ⟨some 54, .mv (.t 0), none⟩,
    ⟨some 55, .mv (.t 3), none⟩,
    ⟨some 56, .cv (.t 53) [.t 54, .t 55], none⟩,
    ⟨some 2, .mv (.t 56), none⟩] [] [2])
  .ret)
  (.seq (.reg false [⟨some 58, .mv (.t 3), none⟩,
    ⟨some 59, .call 86 [.t 58, .c (.str ⟨#[40, 123, 91]⟩)], none⟩,
    ⟨some 57, .mv (.t 59), none⟩] [] [0, 3, 57])
  (.cond (.t 57)
  (.seq (.reg false [⟨some 60, .mv (.t 0), none⟩,
    ⟨some 61, .nck (.t 60), none⟩,
    ⟨some 62, .fad 1 (.t 61), none⟩,
    ⟨some 63, .ld none (.t 62), none⟩,
    ⟨some 64, .bin .add (.t 63) (.c (.int .i64 1)), none⟩,
    ⟨some 65, .nck (.t 60), none⟩,
    ⟨some 66, .fad 1 (.t 65), none⟩,
    ⟨none, .st 1 (.t 66) (.t 64), none⟩] [] [0, 3])
  (.reg false [⟨some 67, .mv (.t 0), none⟩,
    ⟨some 68, .mv (.t 3), none⟩,
    ⟨some 69, .call 88 [.t 68], none⟩,
    ⟨some 70, .call 87 [.t 67, .t 69], none⟩,
    ⟨some 4, .mv (.t 70), none⟩] [] [0, 3, 4]))
  (.seq (.reg false [⟨some 72, .mv (.t 3), none⟩,
    ⟨some 73, .call 86 [.t 72, .c (.str ⟨#[35, 94]⟩)], none⟩,
    ⟨some 74, .mv (.t 73), none⟩,
    ⟨some 75, .mv (.t 3), some (74, false)⟩,
    ⟨some 76, .call 86 [.t 75, .c (.str ⟨#[60, 62, 33]⟩)], some (74, false)⟩,
    ⟨some 77, .mv (.t 76), some (74, false)⟩,
    ⟨some 78, .mv (.t 3), some (77, true)⟩,
    ⟨some 79, .mv (.t 0), some (77, true)⟩,
    ⟨some 80, .nck (.t 79), some (77, true)⟩,
    ⟨some 81, .fad 3 (.t 80), some (77, true)⟩,
    ⟨some 82, .ld none (.t 81), some (77, true)⟩,
    ⟨some 83, .call 86 [.t 78, .t 82], some (77, true)⟩,
    ⟨some 84, .pick (.t 77) (.t 83) (.c (.bool false)), some (74, false)⟩,
    ⟨some 85, .pick (.t 74) (.c (.bool true)) (.t 84), none⟩,
    ⟨some 71, .mv (.t 85), none⟩] [] [0, 3, 71])
  (.cond (.t 71)
  (.seq (.reg false [⟨some 86, .mv (.t 0), none⟩,
    ⟨some 87, .nck (.t 86), none⟩,
    ⟨some 88, .fad 1 (.t 87), none⟩,
    ⟨some 89, .ld none (.t 88), none⟩,
    ⟨some 90, .bin .add (.t 89) (.c (.int .i64 1)), none⟩,
    ⟨some 91, .nck (.t 86), none⟩,
    ⟨some 92, .fad 1 (.t 91), none⟩,
    ⟨none, .st 1 (.t 92) (.t 90), none⟩] [] [0, 3])
  (.reg false [⟨some 93, .mv (.t 0), none⟩,
    ⟨some 94, .call 65 [.t 93], none⟩,
    ⟨some 95, .bsl 1 1 [.int .i64 0] [(0, 1, .t 94)], none⟩,
    ⟨some 4, .mv (.t 95), none⟩] [] [0, 3, 4]))
  (.seq (.reg false [⟨some 97, .mv (.t 3), none⟩,
    ⟨some 98, .call 86 [.t 97, .c (.str ⟨#[107, 42]⟩)], none⟩,
    ⟨some 99, .mv (.t 98), none⟩,
    ⟨some 100, .mv (.t 3), some (99, false)⟩,
    ⟨some 101, .call 86 [.t 100, .c (.str ⟨#[111, 120]⟩)], some (99, false)⟩,
    ⟨some 102, .mv (.t 101), some (99, false)⟩,
    ⟨some 103, .mv (.t 3), some (102, true)⟩,
    ⟨some 104, .mv (.t 0), some (102, true)⟩,
    ⟨some 105, .nck (.t 104), some (102, true)⟩,
    ⟨some 106, .fad 3 (.t 105), some (102, true)⟩,
    ⟨some 107, .ld none (.t 106), some (102, true)⟩,
    ⟨some 108, .call 86 [.t 103, .t 107], some (102, true)⟩,
    ⟨some 109, .pick (.t 102) (.t 108) (.c (.bool false)), some (99, false)⟩,
    ⟨some 110, .pick (.t 99) (.c (.bool true)) (.t 109), none⟩,
    ⟨some 96, .mv (.t 110), none⟩] [] [0, 3, 96])
  (.cond (.t 96)
  (.seq (.reg false [⟨some 111, .mv (.t 0), none⟩,
    ⟨some 112, .nck (.t 111), none⟩,
    ⟨some 113, .fad 1 (.t 112), none⟩,
    ⟨some 114, .ld none (.t 113), none⟩,
    ⟨some 115, .bin .add (.t 114) (.c (.int .i64 1)), none⟩,
    ⟨some 116, .nck (.t 111), none⟩,
    ⟨some 117, .fad 1 (.t 116), none⟩,
    ⟨none, .st 1 (.t 117) (.t 115), none⟩] [] [0, 3])
  (.seq (.reg false [⟨some 118, .mv (.t 0), none⟩,
    ⟨some 119, .call 89 [.t 118, .c (.int .u8 40)], none⟩] [] [0, 3])
  (.reg false [⟨some 120, .mv (.t 0), none⟩,
    ⟨some 121, .call 87 [.t 120, .c (.int .u8 41)], none⟩,
    ⟨some 4, .mv (.t 121), none⟩] [] [0, 3, 4])))
  (.seq (.reg false [⟨some 29, .mv (.t 0), none⟩,
    ⟨some 30, .mv (.t 0), none⟩,
    ⟨some 31, .nck (.t 30), none⟩,
    ⟨some 32, .fad 1 (.t 31), none⟩,
    ⟨some 33, .ld none (.t 32), none⟩,
    ⟨some 34, .call 62 [.t 29, .c (.int .i64 3), .t 33], none⟩,
    ⟨some 2, .mv (.t 34), none⟩] [] [2])
  .ret))))))))))
  (.seq (.seq (.reg false [⟨some 122, .mv (.t 0), none⟩,
    ⟨some 123, .nck (.t 122), none⟩,
    ⟨some 124, .fad 2 (.t 123), none⟩,
    ⟨some 125, .ld none (.t 124), none⟩,
    ⟨some 126, .bin .neq (.t 125) (.c (.int .i64 0)), none⟩] [] [0, 3, 4, 126])
  (.cond (.t 126)
  (.seq (.reg false [⟨some 2, .mv (.c (.int .i64 (-1))), none⟩] [] [2])
  .ret)
  .skip))
  (.seq (.reg false [⟨some 127, .mv (.t 0), none⟩,
    ⟨some 128, .nck (.t 127), none⟩,
    ⟨some 129, .fad 5 (.t 128), none⟩,
    ⟨some 130, .ld none (.t 129), none⟩,
    ⟨some 131, .mv (.t 0), none⟩,
    ⟨some 132, .mv (.t 3), none⟩,
    ⟨some 133, .mv (.t 4), none⟩,
    ⟨some 134, .cv (.t 130) [.t 131, .t 132, .t 133], none⟩,
    ⟨some 2, .mv (.t 134), none⟩] [] [2])
  .ret)))))))), [(2, none)]⟩
theorem impl_reader_read_ok : okFn Tryd.prog 65 impl_reader_read = true := by kernel_rfl
def laws_eqNode : IFn := ⟨20, (.seq (.reg false [⟨some 2, .box (.t 0), none⟩,
    ⟨some 3, .box (.t 1), none⟩,
    ⟨some 4, .mv (.c (.bool false)), none⟩] [] [2, 3])
  (.seq (.seq (.reg false [⟨some 5, .fad 0 (.t 2), none⟩,
    ⟨some 6, .ld none (.t 5), none⟩,
    ⟨some 7, .fad 0 (.t 3), none⟩,
    ⟨some 8, .ld none (.t 7), none⟩,
    ⟨some 9, .bin .neq (.t 6) (.t 8), none⟩] [] [2, 3, 9])
  (.cond (.t 9)
  (.seq (.reg false [⟨some 4, .mv (.c (.bool false)), none⟩] [] [4])
  .ret)
  .skip))
  (.seq (.seq (.reg false [⟨some 10, .fad 1 (.t 2), none⟩,
    ⟨some 11, .ld none (.t 10), none⟩,
    ⟨some 12, .fad 1 (.t 3), none⟩,
    ⟨some 13, .ld none (.t 12), none⟩,
    ⟨some 14, .bin .neq (.t 11) (.t 13), none⟩] [] [2, 3, 14])
  (.cond (.t 14)
  (.seq (.reg false [⟨some 4, .mv (.c (.bool false)), none⟩] [] [4])
  .ret)
  .skip))
  (.seq (.seq (.reg false [⟨some 15, .fad 2 (.t 2), none⟩,
    ⟨some 16, .ld none (.t 15), none⟩,
    ⟨some 17, .fad 2 (.t 3), none⟩,
    ⟨some 18, .ld none (.t 17), none⟩,
    ⟨some 19, .bin .neq (.t 16) (.t 18), none⟩] [] [19])
  (.cond (.t 19)
  (.seq (.reg false [⟨some 4, .mv (.c (.bool false)), none⟩] [] [4])
  .ret)
  .skip))
  (.seq (.reg false [⟨some 4, .mv (.c (.bool true)), none⟩] [] [4])
  .ret))))), [(4, none)]⟩
theorem laws_eqNode_ok : okFn Tryd.prog 66 laws_eqNode = true := by kernel_rfl
def spec_l1DrawBoth : IFn := ⟨14, (.seq (.reg false [⟨some 2, .new [.nil], none⟩,
    ⟨some 3, .mv (.c (.int .i64 0)), none⟩] [] [0, 2])
  (.seq (.reg false [⟨some 6, .mv (.t 0), none⟩,
    ⟨some 7, .call 45 [.t 6], none⟩,
    ⟨some 4, .mv (.t 7), none⟩] [] [2, 4])
  (.seq (.reg false [⟨some 8, .mv (.t 4), none⟩,
    ⟨some 9, .call 46 [.t 8], none⟩,
    ⟨some 5, .new [.nil], none⟩,
    ⟨none, .st 1 (.t 5) (.t 9), none⟩] [] [2, 4, 5])
  (.seq (.reg true [⟨some 10, .ld (some 1) (.t 5), none⟩,
    ⟨some 11, .mv (.t 4), none⟩,
    ⟨some 12, .ld (some 1) (.t 5), none⟩,
    ⟨some 13, .call 90 [.t 11, .t 12], none⟩,
    ⟨none, .st 1 (.t 2) (.t 10), none⟩,
    ⟨some 3, .mv (.t 13), none⟩] [0, 0, 0, 6, 15, 31] [2, 3])
  .ret)))), [(2, some (some 1)), (3, none)]⟩
theorem spec_l1DrawBoth_ok : okFn Tryd.prog 67 spec_l1DrawBoth = true := by kernel_rfl
def impl_Pool_parts : IFn := ⟨28, (.seq (.reg false [⟨some 4, .mv (.c (.nil)), none⟩] [] [0, 1])
  (.seq (.reg false [⟨some 6, .mv (.t 0), none⟩,
    ⟨some 7, .nck (.t 6), none⟩,
    ⟨some 8, .fad 0 (.t 7), none⟩,
    ⟨some 9, .ld none (.t 8), none⟩,
    ⟨some 10, .mv (.t 1), none⟩,
    ⟨some 11, .iad 3 (.t 9) (.t 10), none⟩,
    ⟨some 12, .ld (some 3) (.t 11), none⟩,
    ⟨some 5, .new [.int .i64 0, .int .i64 0, .int .i64 0], none⟩,
    ⟨none, .st 3 (.t 5) (.t 12), none⟩] [] [5])
  (.seq (.seq (.reg false [⟨some 13, .fad 0 (.t 5), none⟩,
    ⟨some 14, .ld none (.t 13), none⟩,
    ⟨some 15, .call 80 [.t 14], none⟩] [] [5, 15])
  (.block 0 (.seq (.reg false [⟨some 17, .bin .eql (.t 15) (.c (.int .i64 1)), none⟩,
    ⟨some 16, .mv (.t 17), none⟩] [] [5, 15, 16])
  (.cond (.t 16)
  (.seq (.reg false [⟨some 18, .fad 1 (.t 5), none⟩,
    ⟨some 19, .ld none (.t 18), none⟩,
    ⟨some 20, .bsl 1 1 [.int .i64 0] [(0, 1, .t 19)], none⟩,
    ⟨some 4, .mv (.t 20), none⟩] [] [4])
  .ret)
  (.seq (.reg false [⟨some 22, .bin .eql (.t 15) (.c (.int .i64 2)), none⟩,
    ⟨some 21, .mv (.t 22), none⟩] [] [5, 21])
  (.cond (.t 21)
  (.seq (.reg false [⟨some 23, .fad 1 (.t 5), none⟩,
    ⟨some 24, .ld none (.t 23), none⟩,
    ⟨some 25, .fad 2 (.t 5), none⟩,
    ⟨some 26, .ld none (.t 25), none⟩,
    ⟨some 27, .bsl 1 2 [.int .i64 0] [(0, 1, .t 24), (1, 1, .t 26)], none⟩,
    ⟨some 4, .mv (.t 27), none⟩] [] [4])
  .ret)
  .skip))))))
  (.seq (.reg false [⟨some 4, .mv (.c (.nil)), none⟩] [] [4])
  .ret)))), [(4, none)]⟩
theorem impl_Pool_parts_ok : okFn Tryd.prog 69 impl_Pool_parts = true := by kernel_rfl
def impl_joined : IFn := ⟨34, (.seq (.reg false [⟨some 4, .mv (.c (.str ⟨#[]⟩)), none⟩] [] [0, 1])
  (.seq (.reg false [⟨some 8, .mv (.t 0), none⟩,
    ⟨some 9, .call 92 [.t 8], none⟩,
    ⟨some 7, .mv (.t 9), none⟩,
    ⟨some 10, .ext (.t 7) 0, none⟩,
    ⟨some 11, .ext (.t 7) 1, none⟩,
    ⟨some 5, .mv (.t 10), none⟩,
    ⟨some 6, .mv (.t 11), none⟩] [] [1, 5, 6])
  (.seq (.seq (.reg false [⟨some 12, .mv (.t 1), none⟩,
    ⟨some 13, .len false (.t 12), none⟩,
    ⟨some 14, .bin .eql (.t 13) (.c (.int .i64 1)), none⟩] [] [1, 5, 6, 14])
  (.cond (.t 14)
  (.seq (.reg false [⟨some 15, .mv (.t 5), none⟩,
    ⟨some 16, .mv (.t 1), none⟩,
    ⟨some 17, .iad 1 (.t 16) (.c (.int .i64 0)), none⟩,
    ⟨some 18, .ld none (.t 17), none⟩,
    ⟨some 19, .bin .add (.t 15) (.t 18), none⟩,
    ⟨some 20, .mv (.t 6), none⟩,
    ⟨some 21, .bin .add (.t 19) (.t 20), none⟩,
    ⟨some 4, .mv (.t 21), none⟩] [] [4])
  .ret)
  .skip))
  (.seq (.reg true [⟨some 22, .mv (.t 5), none⟩,
    ⟨some 23, .mv (.t 1), none⟩,
    ⟨some 24, .iad 1 (.t 23) (.c (.int .i64 0)), none⟩,
    ⟨some 25, .ld none (.t 24), none⟩,
    ⟨some 26, .bin .add (.t 22) (.t 25), none⟩,
    ⟨some 27, .bin .add (.t 26) (.c (.str ⟨#[44]⟩)), none⟩,
    ⟨some 28, .mv (.t 1), none⟩,
    ⟨some 29, .iad 1 (.t 28) (.c (.int .i64 1)), none⟩,
    ⟨some 30, .ld none (.t 29), none⟩,
    ⟨some 31, .bin .add (.t 27) (.t 30), none⟩,
    ⟨some 32, .mv (.t 6), none⟩,
    ⟨some 33, .bin .add (.t 31) (.t 32), none⟩,
    ⟨some 4, .mv (.t 33), none⟩] [0, 0, 2, 6, 15, 31, 0, 64, 192, 511, 0, 2047, 4095] [4])
  .ret)))), [(4, none)]⟩
theorem impl_joined_ok : okFn Tryd.prog 70 impl_joined = true := by kernel_rfl
def spec_l1Has : IFn := ⟨11, (.seq (.reg false [⟨some 2, .box (.t 0), none⟩,
    ⟨some 4, .mv (.c (.bool false)), none⟩] [] [1, 2])
  (.seq (.reg false [⟨some 5, .mv (.t 1), none⟩,
    ⟨some 6, .fad 0 (.t 2), none⟩,
    ⟨some 7, .ld none (.t 6), none⟩,
    ⟨some 8, .len false (.t 7), none⟩,
    ⟨some 9, .bin .sub (.t 8) (.c (.int .i64 1)), none⟩,
    ⟨some 10, .call 40 [.t 5, .c (.int .i64 0), .t 9], none⟩,
    ⟨some 4, .mv (.t 10), none⟩] [] [4])
  .ret)), [(4, none)]⟩
theorem spec_l1Has_ok : okFn Tryd.prog 71 spec_l1Has = true := by kernel_rfl
def spec_l1Sizes : IFn := ⟨40, (.seq (.reg false [⟨some 1, .box (.t 0), none⟩,
    ⟨some 2, .mv (.c (.nil)), none⟩] [] [1])
  (.seq (.reg false [⟨some 8, .bsl 1 0 [.int .i64 0] [], none⟩,
    ⟨some 3, .mv (.t 8), none⟩] [] [1, 3])
  (.seq (.seq (.reg false [⟨some 4, .mv (.c (.int .i64 0)), none⟩] [] [1, 3, 4])
  (.block 0 (.loop (.seq (.seq (.reg false [⟨some 9, .mv (.t 4), none⟩,
    ⟨some 10, .fad 0 (.t 1), none⟩,
    ⟨some 11, .ld none (.t 10), none⟩,
    ⟨some 12, .len false (.t 11), none⟩,
    ⟨some 13, .bin .lss (.t 9) (.t 12), none⟩] [] [1, 3, 4, 13])
  (.cond (.t 13)
  .skip
  (.exit 0)))
  (.seq (.block 1 (.seq (.reg false [⟨some 5, .mv (.c (.int .i64 1)), none⟩] [] [1, 3, 4, 5])
  (.seq (.reg false [⟨some 16, .ld (some 1) (.t 1), none⟩,
    ⟨some 17, .mv (.t 4), none⟩,
    ⟨some 18, .call 93 [.t 16, .t 17], none⟩,
    ⟨some 6, .mv (.t 18), none⟩] [] [1, 3, 4, 5, 6])
  (.seq (.seq (.reg false [⟨some 7, .mv (.c (.int .i64 0)), none⟩] [] [1, 3, 4, 5, 6, 7])
  (.block 2 (.loop (.seq (.seq (.reg false [⟨some 19, .mv (.t 7), none⟩,
    ⟨some 20, .mv (.t 6), none⟩,
    ⟨some 21, .len false (.t 20), none⟩,
    ⟨some 22, .bin .lss (.t 19) (.t 21), none⟩] [] [1, 3, 4, 5, 6, 7, 22])
  (.cond (.t 22)
  .skip
  (.exit 2)))
  (.seq (.block 3 (.reg false [⟨some 25, .mv (.t 5), none⟩,
    ⟨some 26, .mv (.t 3), none⟩,
    ⟨some 27, .mv (.t 6), none⟩,
    ⟨some 28, .mv (.t 7), none⟩,
    ⟨some 29, .iad 1 (.t 27) (.t 28), none⟩,
    ⟨some 30, .ld none (.t 29), none⟩,
    ⟨some 31, .iad 1 (.t 26) (.t 30), none⟩,
    ⟨some 32, .ld none (.t 31), none⟩,
    ⟨some 33, .bin .add (.t 25) (.t 32), none⟩,
    ⟨some 34, .call 78 [.t 33, .c (.int .i64 1001)], none⟩,
    ⟨some 5, .mv (.t 34), none⟩] [] [1, 3, 4, 5, 6, 7]))
  (.reg false [⟨some 23, .mv (.t 7), none⟩,
    ⟨some 24, .bin .add (.t 23) (.c (.int .i64 1)), none⟩,
    ⟨some 7, .mv (.t 24), none⟩] [] [1, 3, 4, 5, 6, 7]))))))
  (.reg false [⟨some 35, .mv (.t 3), none⟩,
    ⟨some 36, .mv (.t 5), none⟩,
    ⟨some 37, .bsl 1 1 [.int .i64 0] [(0, 1, .t 36)], none⟩,
    ⟨some 38, .app 1 8 (.t 35) (.t 37), none⟩,
    ⟨some 3, .mv (.t 38), none⟩] [] [1, 3, 4])))))
  (.reg false [⟨some 14, .mv (.t 4), none⟩,
    ⟨some 15, .bin .add (.t 14) (.c (.int .i64 1)), none⟩,
    ⟨some 4, .mv (.t 15), none⟩] [] [1, 3, 4]))))))
  (.seq (.reg false [⟨some 39, .mv (.t 3), none⟩,
    ⟨some 2, .mv (.t 39), none⟩] [] [2])
  .ret)))), [(2, none)]⟩
theorem spec_l1Sizes_ok : okFn Tryd.prog 72 spec_l1Sizes = true := by kernel_rfl
def spec_l4Num : IFn := ⟨19, (.seq (.reg false [⟨some 2, .mv (.c (.str ⟨#[]⟩)), none⟩] [] [0])
  (.seq (.seq (.reg false [⟨some 4, .mv (.t 0), none⟩,
    ⟨some 5, .bin .leq (.t 4) (.c (.int .i64 0)), none⟩] [] [0, 5])
  (.cond (.t 5)
  (.seq (.reg false [⟨some 2, .mv (.c (.str ⟨#[48]⟩)), none⟩] [] [2])
  .ret)
  .skip))
  (.seq (.reg false [⟨some 3, .mv (.c (.str ⟨#[]⟩)), none⟩] [] [0, 3])
  (.seq (.block 0 (.loop (.seq (.seq (.reg false [⟨some 6, .mv (.t 0), none⟩,
    ⟨some 7, .bin .gtr (.t 6) (.c (.int .i64 0)), none⟩] [] [0, 3, 7])
  (.cond (.t 7)
  .skip
  (.exit 0)))
  (.block 1 (.seq (.reg false [⟨some 8, .mv (.t 0), none⟩,
    ⟨some 9, .bin .rem (.t 8) (.c (.int .i64 10)), none⟩,
    ⟨some 10, .bin .add (.c (.int .i64 48)) (.t 9), none⟩,
    ⟨some 11, .conv .u8 (.t 10), none⟩,
    ⟨some 12, .bsl 1 1 [.int .u8 0] [(0, 1, .t 11)], none⟩,
    ⟨some 13, .b2s (.t 12), none⟩,
    ⟨some 14, .mv (.t 3), none⟩,
    ⟨some 15, .bin .add (.t 13) (.t 14), none⟩,
    ⟨some 3, .mv (.t 15), none⟩] [] [0, 3])
  (.reg false [⟨some 16, .mv (.t 0), none⟩,
    ⟨some 17, .bin .quo (.t 16) (.c (.int .i64 10)), none⟩,
    ⟨some 0, .mv (.t 17), none⟩] [] [0, 3]))))))
  (.seq (.reg false [⟨some 18, .mv (.t 3), none⟩,
    ⟨some 2, .mv (.t 18), none⟩] [] [2])
  .ret))))), [(2, none)]⟩
theorem spec_l4Num_ok : okFn Tryd.prog 73 spec_l4Num = true := by kernel_rfl
def spec_l1DrawPool : IFn := ⟨29, (.seq (.reg false [⟨some 4, .new [.nil], none⟩] [] [0, 1, 4])
  (.seq (.reg false [⟨some 8, .build [.nil] [], none⟩,
    ⟨some 5, .new [.nil], none⟩,
    ⟨none, .st 1 (.t 5) (.t 8), none⟩] [] [0, 1, 4, 5])
  (.seq (.reg false [⟨some 9, .mv (.t 0), none⟩,
    ⟨some 10, .mv (.t 1), none⟩,
    ⟨some 11, .bin .add (.t 10) (.c (.int .i64 1)), none⟩,
    ⟨some 12, .call 50 [.t 9, .t 11], none⟩,
    ⟨some 6, .mv (.t 12), none⟩] [] [0, 4, 5, 6])
  (.seq (.seq (.reg false [⟨some 7, .mv (.c (.int .i64 0)), none⟩] [] [0, 4, 5, 6, 7])
  (.block 0 (.loop (.seq (.seq (.reg false [⟨some 13, .mv (.t 7), none⟩,
    ⟨some 14, .mv (.t 6), none⟩,
    ⟨some 15, .bin .lss (.t 13) (.t 14), none⟩] [] [0, 4, 5, 6, 7, 15])
  (.cond (.t 15)
  .skip
  (.exit 0)))
  (.seq (.block 1 (.reg true [⟨some 19, .ld (some 1) (.t 5), none⟩,
    ⟨some 20, .mv (.t 0), none⟩,
    ⟨some 21, .fad 0 (.t 5), none⟩,
    ⟨some 22, .ld none (.t 21), none⟩,
    ⟨some 23, .len false (.t 22), none⟩,
    ⟨some 24, .call 75 [.t 20, .t 23], none⟩,
    ⟨some 25, .call 58 [.t 19, .t 24], none⟩,
    ⟨some 18, .mv (.t 25), none⟩,
    ⟨some 26, .ext (.t 18) 0, none⟩,
    ⟨some 27, .ext (.t 18) 1, none⟩,
    ⟨none, .st 1 (.t 5) (.t 26), none⟩] [0, 0, 0, 4, 12, 30, 63, 127, 255, 255, 511] [0, 4, 5, 6, 7]))
  (.reg false [⟨some 16, .mv (.t 7), none⟩,
    ⟨some 17, .bin .add (.t 16) (.c (.int .i64 1)), none⟩,
    ⟨some 7, .mv (.t 17), none⟩] [] [0, 4, 5, 6, 7]))))))
  (.seq (.reg false [⟨some 28, .ld (some 1) (.t 5), none⟩,
    ⟨none, .st 1 (.t 4) (.t 28), none⟩] [] [4])
  .ret))))), [(4, some (some 1))]⟩
theorem spec_l1DrawPool_ok : okFn Tryd.prog 74 spec_l1DrawPool = true := by kernel_rfl
def spec_l1DrawNode : IFn := ⟨32, (.seq (.reg false [⟨some 4, .new [.int .i64 0, .int .i64 0, .int .i64 0], none⟩] [] [0, 1, 4])
  (.seq (.seq (.reg false [⟨some 6, .mv (.t 1), none⟩,
    ⟨some 7, .bin .eql (.t 6) (.c (.int .i64 0)), none⟩,
    ⟨some 8, .mv (.t 7), none⟩,
    ⟨some 9, .mv (.t 0), some (8, false)⟩,
    ⟨some 10, .call 48 [.t 9, .c (.int .i64 4)], some (8, false)⟩,
    ⟨some 11, .pick (.t 8) (.c (.bool true)) (.t 10), none⟩] [] [0, 1, 4, 11])
  (.cond (.t 11)
  (.seq (.reg false [⟨some 12, .mv (.t 0), none⟩,
    ⟨some 13, .bsl 1 13 [.int .i64 0] [(0, 1, .c (.int .i64 0)), (1, 1, .c (.int .i64 1)), (2, 1, .c (.int .i64 5)), (3, 1, .c (.int .i64 6)), (4, 1, .c (.int .i64 50)), (5, 1, .c (.int .i64 51)), (6, 1, .c (.int .i64 62)), (7, 1, .c (.int .i64 90)), (8, 1, .c (.int .i64 91)), (9, 1, .c (.int .i64 100)), (10, 1, .c (.int .i64 101)), (11, 1, .c (.int .i64 102)), (12, 1, .c (.int .i64 199))], none⟩,
    ⟨some 14, .call 94 [.t 12, .t 13], none⟩,
    ⟨some 15, .build [.int .i64 0, .int .i64 0, .int .i64 0] [(0, 1, .c (.int .i64 1)), (1, 1, .t 14)], none⟩,
    ⟨none, .st 3 (.t 4) (.t 15), none⟩] [] [4])
  .ret)
  .skip))
  (.seq (.reg false [⟨some 16, .mv (.t 0), none⟩,
    ⟨some 17, .call 76 [.t 16, .c (.int .i64 7)], none⟩,
    ⟨some 18, .bin .add (.c (.int .i64 2)) (.t 17), none⟩,
    ⟨some 19, .mv (.t 0), none⟩,
    ⟨some 20, .mv (.t 1), none⟩,
    ⟨some 21, .call 76 [.t 19, .t 20], none⟩,
    ⟨some 22, .build [.int .i64 0, .int .i64 0, .int .i64 0] [(0, 1, .t 18), (1, 1, .t 21)], none⟩,
    ⟨some 5, .new [.int .i64 0, .int .i64 0, .int .i64 0], none⟩,
    ⟨none, .st 3 (.t 5) (.t 22), none⟩] [] [0, 1, 4, 5])
  (.seq (.seq (.reg false [⟨some 23, .fad 0 (.t 5), none⟩,
    ⟨some 24, .ld none (.t 23), none⟩,
    ⟨some 25, .call 81 [.t 24], none⟩,
    ⟨some 26, .bin .eql (.t 25) (.c (.int .i64 2)), none⟩] [] [0, 1, 4, 5, 26])
  (.cond (.t 26)
  (.reg false [⟨some 27, .mv (.t 0), none⟩,
    ⟨some 28, .mv (.t 1), none⟩,
    ⟨some 29, .call 76 [.t 27, .t 28], none⟩,
    ⟨some 30, .fad 2 (.t 5), none⟩,
    ⟨none, .st 1 (.t 30) (.t 29), none⟩] [] [4, 5])
  .skip))
  (.seq (.reg false [⟨some 31, .ld (some 3) (.t 5), none⟩,
    ⟨none, .st 3 (.t 4) (.t 31), none⟩] [] [4])
  .ret))))), [(4, some (some 3))]⟩
theorem spec_l1DrawNode_ok : okFn Tryd.prog 75 spec_l1DrawNode = true := by kernel_rfl
def spec_l1Draw : IFn := ⟨19, (.seq (.reg false [⟨some 4, .mv (.c (.int .i64 0)), none⟩] [] [0, 1])
  (.seq (.seq (.reg false [⟨some 5, .mv (.t 1), none⟩,
    ⟨some 6, .bin .gtr (.t 5) (.c (.int .i64 6)), none⟩,
    ⟨some 7, .mv (.t 6), none⟩,
    ⟨some 8, .mv (.t 0), some (7, true)⟩,
    ⟨some 9, .call 48 [.t 8, .c (.int .i64 2)], some (7, true)⟩,
    ⟨some 10, .pick (.t 7) (.t 9) (.c (.bool false)), none⟩] [] [0, 1, 10])
  (.cond (.t 10)
  (.seq (.reg false [⟨some 11, .mv (.t 1), none⟩,
    ⟨some 12, .bin .sub (.t 11) (.c (.int .i64 1)), none⟩,
    ⟨some 13, .mv (.t 0), none⟩,
    ⟨some 14, .call 50 [.t 13, .c (.int .i64 6)], none⟩,
    ⟨some 15, .bin .sub (.t 12) (.t 14), none⟩,
    ⟨some 4, .mv (.t 15), none⟩] [] [4])
  .ret)
  .skip))
  (.seq (.reg false [⟨some 16, .mv (.t 0), none⟩,
    ⟨some 17, .mv (.t 1), none⟩,
    ⟨some 18, .call 50 [.t 16, .t 17], none⟩,
    ⟨some 4, .mv (.t 18), none⟩] [] [4])
  .ret))), [(4, none)]⟩
theorem spec_l1Draw_ok : okFn Tryd.prog 76 spec_l1Draw = true := by kernel_rfl
def spec_l1Pick : IFn := ⟨12, (.seq (.reg false [⟨some 4, .mv (.c (.str ⟨#[]⟩)), none⟩] [] [0, 1])
  (.seq (.reg false [⟨some 5, .mv (.t 1), none⟩,
    ⟨some 6, .mv (.t 0), none⟩,
    ⟨some 7, .mv (.t 1), none⟩,
    ⟨some 8, .len false (.t 7), none⟩,
    ⟨some 9, .call 50 [.t 6, .t 8], none⟩,
    ⟨some 10, .iad 1 (.t 5) (.t 9), none⟩,
    ⟨some 11, .ld none (.t 10), none⟩,
    ⟨some 4, .mv (.t 11), none⟩] [] [4])
  .ret)), [(4, none)]⟩
theorem spec_l1Pick_ok : okFn Tryd.prog 77 spec_l1Pick = true := by kernel_rfl
def spec_l1Min : IFn := ⟨10, (.seq (.reg false [⟨some 4, .mv (.c (.int .i64 0)), none⟩] [] [0, 1])
  (.seq (.seq (.reg false [⟨some 5, .mv (.t 0), none⟩,
    ⟨some 6, .mv (.t 1), none⟩,
    ⟨some 7, .bin .lss (.t 5) (.t 6), none⟩] [] [0, 1, 7])
  (.cond (.t 7)
  (.seq (.reg false [⟨some 8, .mv (.t 0), none⟩,
    ⟨some 4, .mv (.t 8), none⟩] [] [4])
  .ret)
  .skip))
  (.seq (.reg false [⟨some 9, .mv (.t 1), none⟩,
    ⟨some 4, .mv (.t 9), none⟩] [] [4])
  .ret))), [(4, none)]⟩
theorem spec_l1Min_ok : okFn Tryd.prog 78 spec_l1Min = true := by kernel_rfl
def spec_l1Byte : IFn := ⟨58, (.seq (.reg false [⟨some 2, .mv (.c (.int .i64 0)), none⟩] [] [0])
  (.seq (.reg false [⟨some 4, .mv (.t 0), none⟩,
    ⟨some 5, .mv (.t 0), none⟩,
    ⟨some 6, .nck (.t 5), none⟩,
    ⟨some 7, .fad 2 (.t 6), none⟩,
    ⟨some 8, .ld none (.t 7), none⟩,
    ⟨some 9, .bin .mul (.t 8) (.c (.int .i64 6364136223846793005)), none⟩,
    ⟨some 10, .bin .add (.t 9) (.c (.int .i64 1442695040888963407)), none⟩,
    ⟨some 11, .nck (.t 4), none⟩,
    ⟨some 12, .fad 2 (.t 11), none⟩,
    ⟨none, .st 1 (.t 12) (.t 10), none⟩] [] [0])
  (.seq (.reg true [⟨some 13, .mv (.t 0), none⟩,
    ⟨some 14, .nck (.t 13), none⟩,
    ⟨some 15, .fad 2 (.t 14), none⟩,
    ⟨some 16, .ld none (.t 15), none⟩,
    ⟨some 17, .bin .shr (.t 16) (.c (.int .u64 33)), none⟩,
    ⟨some 18, .mv (.t 0), none⟩,
    ⟨some 19, .nck (.t 18), none⟩,
    ⟨some 20, .fad 2 (.t 19), none⟩,
    ⟨some 21, .ld none (.t 20), none⟩,
    ⟨some 22, .bin .shr (.t 21) (.c (.int .u64 45)), none⟩,
    ⟨some 23, .bin .xor (.t 17) (.t 22), none⟩,
    ⟨some 24, .bin .and (.t 23) (.c (.int .i64 255)), none⟩,
    ⟨some 3, .mv (.t 24), none⟩] [0, 1, 3, 7, 15, 0, 32, 96, 224, 480, 1023, 2047, 4095] [0, 3])
  (.seq (.seq (.reg true [⟨some 25, .mv (.t 0), none⟩,
    ⟨some 26, .nck (.t 25), none⟩,
    ⟨some 27, .fad 1 (.t 26), none⟩,
    ⟨some 28, .ld none (.t 27), none⟩,
    ⟨some 29, .mv (.t 0), none⟩,
    ⟨some 30, .nck (.t 29), none⟩,
    ⟨some 31, .fad 0 (.t 30), none⟩,
    ⟨some 32, .ld none (.t 31), none⟩,
    ⟨some 33, .len false (.t 32), none⟩,
    ⟨some 34, .bin .lss (.t 28) (.t 33), none⟩] [0, 1, 3, 7, 0, 16, 48, 112, 240, 511] [0, 3, 34])
  (.cond (.t 34)
  (.seq (.reg true [⟨some 35, .mv (.t 3), none⟩,
    ⟨some 36, .mv (.t 0), none⟩,
    ⟨some 37, .nck (.t 36), none⟩,
    ⟨some 38, .fad 0 (.t 37), none⟩,
    ⟨some 39, .ld none (.t 38), none⟩,
    ⟨some 40, .mv (.t 0), none⟩,
    ⟨some 41, .nck (.t 40), none⟩,
    ⟨some 42, .fad 1 (.t 41), none⟩,
    ⟨some 43, .ld none (.t 42), none⟩,
    ⟨some 44, .iad 1 (.t 39) (.t 43), none⟩,
    ⟨some 45, .ld none (.t 44), none⟩,
    ⟨some 46, .conv .i64 (.t 45), none⟩,
    ⟨some 47, .bin .add (.t 35) (.t 46), none⟩,
    ⟨some 48, .bin .and (.t 47) (.c (.int .i64 255)), none⟩,
    ⟨some 3, .mv (.t 48), none⟩] [0, 0, 2, 6, 14, 0, 32, 96, 224, 510, 1022, 2046, 4095, 8191, 16383] [0, 3])
  (.reg false [⟨some 49, .mv (.t 0), none⟩,
    ⟨some 50, .mv (.t 0), none⟩,
    ⟨some 51, .nck (.t 50), none⟩,
    ⟨some 52, .fad 1 (.t 51), none⟩,
    ⟨some 53, .ld none (.t 52), none⟩,
    ⟨some 54, .bin .add (.t 53) (.c (.int .i64 1)), none⟩,
    ⟨some 55, .nck (.t 49), none⟩,
    ⟨some 56, .fad 1 (.t 55), none⟩,
    ⟨none, .st 1 (.t 56) (.t 54), none⟩] [] [3]))
  .skip))
  (.seq (.reg false [⟨some 57, .mv (.t 3), none⟩,
    ⟨some 2, .mv (.t 57), none⟩] [] [2])
  .ret))))), [(2, none)]⟩
theorem spec_l1Byte_ok : okFn Tryd.prog 79 spec_l1Byte = true := by kernel_rfl
def impl_count : IFn := ⟨15, (.seq (.reg false [⟨some 2, .mv (.c (.int .i64 0)), none⟩] [] [0])
  (.seq (.seq (.reg false [⟨some 3, .mv (.t 0), none⟩] [] [3])
  (.block 0 (.seq (.reg false [⟨some 5, .bin .eql (.t 3) (.c (.int .i64 1)), none⟩,
    ⟨some 4, .mv (.t 5), none⟩] [] [3, 4])
  (.cond (.t 4)
  (.seq (.reg false [⟨some 2, .mv (.c (.int .i64 0)), none⟩] [] [2])
  .ret)
  (.seq (.seq (.reg false [⟨some 7, .bin .eql (.t 3) (.c (.int .i64 5)), none⟩,
    ⟨some 6, .mv (.t 7), none⟩] [] [3, 6])
  (.cond (.t 6)
  .skip
  (.reg false [⟨some 8, .bin .eql (.t 3) (.c (.int .i64 7)), none⟩,
    ⟨some 6, .mv (.t 8), none⟩] [] [3, 6])))
  (.cond (.t 6)
  (.seq (.reg false [⟨some 2, .mv (.c (.int .i64 1)), none⟩] [] [2])
  .ret)
  (.seq (.seq (.reg false [⟨some 10, .bin .eql (.t 3) (.c (.int .i64 2)), none⟩,
    ⟨some 9, .mv (.t 10), none⟩] [] [3, 9])
  (.cond (.t 9)
  .skip
  (.seq (.reg false [⟨some 11, .bin .eql (.t 3) (.c (.int .i64 3)), none⟩,
    ⟨some 9, .mv (.t 11), none⟩] [] [3, 9])
  (.cond (.t 9)
  .skip
  (.seq (.reg false [⟨some 12, .bin .eql (.t 3) (.c (.int .i64 4)), none⟩,
    ⟨some 9, .mv (.t 12), none⟩] [] [3, 9])
  (.cond (.t 9)
  .skip
  (.seq (.reg false [⟨some 13, .bin .eql (.t 3) (.c (.int .i64 6)), none⟩,
    ⟨some 9, .mv (.t 13), none⟩] [] [3, 9])
  (.cond (.t 9)
  .skip
  (.reg false [⟨some 14, .bin .eql (.t 3) (.c (.int .i64 8)), none⟩,
    ⟨some 9, .mv (.t 14), none⟩] [] [9])))))))))
  (.cond (.t 9)
  (.seq (.reg false [⟨some 2, .mv (.c (.int .i64 2)), none⟩] [] [2])
  .ret)
  .skip))))))))
  (.seq (.reg false [⟨some 2, .mv (.c (.int .i64 (-1))), none⟩] [] [2])
  .ret))), [(2, none)]⟩
theorem impl_count_ok : okFn Tryd.prog 80 impl_count = true := by kernel_rfl
def spec_l1Parts : IFn := ⟨15, (.seq (.reg false [⟨some 2, .mv (.c (.int .i64 0)), none⟩] [] [0])
  (.seq (.seq (.reg false [⟨some 3, .mv (.t 0), none⟩] [] [3])
  (.block 0 (.seq (.reg false [⟨some 5, .bin .eql (.t 3) (.c (.int .i64 1)), none⟩,
    ⟨some 4, .mv (.t 5), none⟩] [] [3, 4])
  (.cond (.t 4)
  (.seq (.reg false [⟨some 2, .mv (.c (.int .i64 0)), none⟩] [] [2])
  .ret)
  (.seq (.seq (.reg false [⟨some 7, .bin .eql (.t 3) (.c (.int .i64 5)), none⟩,
    ⟨some 6, .mv (.t 7), none⟩] [] [3, 6])
  (.cond (.t 6)
  .skip
  (.reg false [⟨some 8, .bin .eql (.t 3) (.c (.int .i64 7)), none⟩,
    ⟨some 6, .mv (.t 8), none⟩] [] [3, 6])))
  (.cond (.t 6)
  (.seq (.reg false [⟨some 2, .mv (.c (.int .i64 1)), none⟩] [] [2])
  .ret)
  (.seq (.seq (.reg false [⟨some 10, .bin .eql (.t 3) (.c (.int .i64 2)), none⟩,
    ⟨some 9, .mv (.t 10), none⟩] [] [3, 9])
  (.cond (.t 9)
  .skip
  (.seq (.reg false [⟨some 11, .bin .eql (.t 3) (.c (.int .i64 3)), none⟩,
    ⟨some 9, .mv (.t 11), none⟩] [] [3, 9])
  (.cond (.t 9)
  .skip
  (.seq (.reg false [⟨some 12, .bin .eql (.t 3) (.c (.int .i64 4)), none⟩,
    ⟨some 9, .mv (.t 12), none⟩] [] [3, 9])
  (.cond (.t 9)
  .skip
  (.seq (.reg false [⟨some 13, .bin .eql (.t 3) (.c (.int .i64 6)), none⟩,
    ⟨some 9, .mv (.t 13), none⟩] [] [3, 9])
  (.cond (.t 9)
  .skip
  (.reg false [⟨some 14, .bin .eql (.t 3) (.c (.int .i64 8)), none⟩,
    ⟨some 9, .mv (.t 14), none⟩] [] [9])))))))))
  (.cond (.t 9)
  (.seq (.reg false [⟨some 2, .mv (.c (.int .i64 2)), none⟩] [] [2])
  .ret)
  .skip))))))))
  (.seq (.reg false [⟨some 2, .mv (.c (.int .i64 (-1))), none⟩] [] [2])
  .ret))), [(2, none)]⟩
theorem spec_l1Parts_ok : okFn Tryd.prog 81 spec_l1Parts = true := by kernel_rfl
def impl_isFigure : IFn := ⟨9, (.seq (.reg false [⟨some 2, .mv (.c (.bool false)), none⟩] [] [0])
  (.seq (.reg false [⟨some 3, .mv (.t 0), none⟩,
    ⟨some 4, .bin .geq (.t 3) (.c (.int .u8 48)), none⟩,
    ⟨some 5, .mv (.t 4), none⟩,
    ⟨some 6, .mv (.t 0), some (5, true)⟩,
    ⟨some 7, .bin .leq (.t 6) (.c (.int .u8 57)), some (5, true)⟩,
    ⟨some 8, .pick (.t 5) (.t 7) (.c (.bool false)), none⟩,
    ⟨some 2, .mv (.t 8), none⟩] [] [2])
  .ret)), [(2, none)]⟩
theorem impl_isFigure_ok : okFn Tryd.prog 82 impl_isFigure = true := by kernel_rfl
def impl_reader_peek : IFn := ⟨22, (.seq (.reg false [⟨some 2, .mv (.c (.int .u8 0)), none⟩] [] [0])
  (.seq (.seq (.reg true [⟨some 3, .mv (.t 0), none⟩,
    ⟨some 4, .nck (.t 3), none⟩,
    ⟨some 5, .fad 1 (.t 4), none⟩,
    ⟨some 6, .ld none (.t 5), none⟩,
    ⟨some 7, .mv (.t 0), none⟩,
    ⟨some 8, .nck (.t 7), none⟩,
    ⟨some 9, .fad 0 (.t 8), none⟩,
    ⟨some 10, .ld none (.t 9), none⟩,
    ⟨some 11, .len true (.t 10), none⟩,
    ⟨some 12, .bin .geq (.t 6) (.t 11), none⟩] [0, 1, 3, 7, 0, 16, 48, 112, 240, 511] [0, 12])
  (.cond (.t 12)
  (.seq (.reg false [⟨some 2, .mv (.c (.int .u8 0)), none⟩] [] [2])
  .ret)
  .skip))
  (.seq (.reg true [⟨some 13, .mv (.t 0), none⟩,
    ⟨some 14, .nck (.t 13), none⟩,
    ⟨some 15, .fad 0 (.t 14), none⟩,
    ⟨some 16, .ld none (.t 15), none⟩,
    ⟨some 17, .mv (.t 0), none⟩,
    ⟨some 18, .nck (.t 17), none⟩,
    ⟨some 19, .fad 1 (.t 18), none⟩,
    ⟨some 20, .ld none (.t 19), none⟩,
    ⟨some 21, .idxs (.t 16) (.t 20), none⟩,
    ⟨some 2, .mv (.t 21), none⟩] [0, 1, 3, 7, 0, 16, 48, 112, 255, 511] [2])
  .ret))), [(2, none)]⟩
theorem impl_reader_peek_ok : okFn Tryd.prog 83 impl_reader_peek = true := by kernel_rfl
def impl_Pool_find : IFn := ⟨11, (.seq (.reg false [⟨some 3, .box (.t 1), none⟩,
    ⟨some 4, .mv (.c (.int .i64 0)), none⟩] [] [0, 3])
  (.seq (.reg true [⟨some 5, .mv (.t 0), none⟩,
    ⟨some 6, .nck (.t 5), none⟩,
    ⟨some 7, .fad 0 (.t 6), none⟩,
    ⟨some 8, .ld none (.t 7), none⟩,
    ⟨some 9, .ld (some 3) (.t 3), none⟩,
    ⟨some 10, .call 97 [.t 8, .t 9], none⟩,
    ⟨some 4, .mv (.t 10), none⟩] [0, 1, 3, 7, 0, 31, 63] [4])
  .ret)), [(4, none)]⟩
theorem impl_Pool_find_ok : okFn Tryd.prog 85 impl_Pool_find = true := by kernel_rfl
def impl_isOneOf : IFn := ⟨17, (.seq (.reg false [⟨some 4, .mv (.c (.bool false)), none⟩] [] [0, 1])
  (.seq (.seq (.reg false [⟨some 5, .mv (.c (.int .i64 0)), none⟩] [] [0, 1, 5])
  (.block 0 (.loop (.seq (.seq (.reg false [⟨some 6, .mv (.t 5), none⟩,
    ⟨some 7, .mv (.t 1), none⟩,
    ⟨some 8, .len true (.t 7), none⟩,
    ⟨some 9, .bin .lss (.t 6) (.t 8), none⟩] [] [0, 1, 5, 9])
  (.cond (.t 9)
  .skip
  (.exit 0)))
  (.seq (.block 1 (.seq (.reg false [⟨some 12, .mv (.t 1), none⟩,
    ⟨some 13, .mv (.t 5), none⟩,
    ⟨some 14, .idxs (.t 12) (.t 13), none⟩,
    ⟨some 15, .mv (.t 0), none⟩,
    ⟨some 16, .bin .eql (.t 14) (.t 15), none⟩] [] [0, 1, 5, 16])
  (.cond (.t 16)
  (.seq (.reg false [⟨some 4, .mv (.c (.bool true)), none⟩] [] [4])
  .ret)
  .skip)))
  (.reg false [⟨some 10, .mv (.t 5), none⟩,
    ⟨some 11, .bin .add (.t 10) (.c (.int .i64 1)), none⟩,
    ⟨some 5, .mv (.t 11), none⟩] [] [0, 1, 5]))))))
  (.seq (.reg false [⟨some 4, .mv (.c (.bool false)), none⟩] [] [4])
  .ret))), [(4, none)]⟩
theorem impl_isOneOf_ok : okFn Tryd.prog 86 impl_isOneOf = true := by kernel_rfl
def impl_reader_two : IFn := ⟨19, (.seq (.reg false [⟨some 4, .mv (.c (.nil)), none⟩] [] [0, 1])
  (.seq (.reg false [⟨some 7, .mv (.t 0), none⟩,
    ⟨some 8, .call 65 [.t 7], none⟩,
    ⟨some 5, .mv (.t 8), none⟩] [] [0, 1, 5])
  (.seq (.reg false [⟨some 9, .mv (.t 0), none⟩,
    ⟨some 10, .call 89 [.t 9, .c (.int .u8 44)], none⟩] [] [0, 1, 5])
  (.seq (.reg false [⟨some 11, .mv (.t 0), none⟩,
    ⟨some 12, .call 65 [.t 11], none⟩,
    ⟨some 6, .mv (.t 12), none⟩] [] [0, 1, 5, 6])
  (.seq (.reg false [⟨some 13, .mv (.t 0), none⟩,
    ⟨some 14, .mv (.t 1), none⟩,
    ⟨some 15, .call 89 [.t 13, .t 14], none⟩] [] [5, 6])
  (.seq (.reg false [⟨some 16, .mv (.t 5), none⟩,
    ⟨some 17, .mv (.t 6), none⟩,
    ⟨some 18, .bsl 1 2 [.int .i64 0] [(0, 1, .t 16), (1, 1, .t 17)], none⟩,
    ⟨some 4, .mv (.t 18), none⟩] [] [4])
  .ret)))))), [(4, none)]⟩
theorem impl_reader_two_ok : okFn Tryd.prog 87 impl_reader_two = true := by kernel_rfl
def impl_closing : IFn := ⟨8, (.seq (.reg false [⟨some 2, .mv (.c (.int .u8 0)), none⟩] [] [0])
  (.seq (.seq (.reg false [⟨some 3, .mv (.t 0), none⟩] [] [3])
  (.block 0 (.seq (.reg false [⟨some 5, .bin .eql (.t 3) (.c (.int .u8 123)), none⟩,
    ⟨some 4, .mv (.t 5), none⟩] [] [3, 4])
  (.cond (.t 4)
  (.seq (.reg false [⟨some 2, .mv (.c (.int .u8 125)), none⟩] [] [2])
  .ret)
  (.seq (.reg false [⟨some 7, .bin .eql (.t 3) (.c (.int .u8 91)), none⟩,
    ⟨some 6, .mv (.t 7), none⟩] [] [6])
  (.cond (.t 6)
  (.seq (.reg false [⟨some 2, .mv (.c (.int .u8 93)), none⟩] [] [2])
  .ret)
  .skip))))))
  (.seq (.reg false [⟨some 2, .mv (.c (.int .u8 41)), none⟩] [] [2])
  .ret))), [(2, none)]⟩
theorem impl_closing_ok : okFn Tryd.prog 88 impl_closing = true := by kernel_rfl
def impl_reader_take : IFn := ⟨53, (.block 0 (.seq (.reg false [⟨some 12, .mv (.t 0), none⟩,
    ⟨some 13, .nck (.t 12), none⟩,
    ⟨some 14, .fad 2 (.t 13), none⟩,
    ⟨some 15, .ld none (.t 14), none⟩,
    ⟨some 16, .bin .neq (.t 15) (.c (.int .i64 0)), none⟩,
    ⟨some 11, .mv (.t 16), none⟩] [] [0, 1, 11])
  (.cond (.t 11)
  .skip
  (.seq (.reg true [⟨some 18, .mv (.t 0), none⟩,
    ⟨some 19, .nck (.t 18), none⟩,
    ⟨some 20, .fad 1 (.t 19), none⟩,
    ⟨some 21, .ld none (.t 20), none⟩,
    ⟨some 22, .mv (.t 0), none⟩,
    ⟨some 23, .nck (.t 22), none⟩,
    ⟨some 24, .fad 0 (.t 23), none⟩,
    ⟨some 25, .ld none (.t 24), none⟩,
    ⟨some 26, .len true (.t 25), none⟩,
    ⟨some 27, .bin .geq (.t 21) (.t 26), none⟩,
    ⟨some 17, .mv (.t 27), none⟩] [0, 1, 3, 7, 0, 16, 48, 112, 240, 511, 1023] [0, 1, 17])
  (.cond (.t 17)
  (.reg false [⟨some 28, .mv (.t 0), none⟩,
    ⟨some 29, .mv (.t 0), none⟩,
    ⟨some 30, .nck (.t 29), none⟩,
    ⟨some 31, .fad 0 (.t 30), none⟩,
    ⟨some 32, .ld none (.t 31), none⟩,
    ⟨some 33, .len true (.t 32), none⟩,
    ⟨some 34, .call 62 [.t 28, .c (.int .i64 2), .t 33], none⟩] [] [])
  (.seq (.reg true [⟨some 36, .mv (.t 0), none⟩,
    ⟨some 37, .nck (.t 36), none⟩,
    ⟨some 38, .fad 0 (.t 37), none⟩,
    ⟨some 39, .ld none (.t 38), none⟩,
    ⟨some 40, .mv (.t 0), none⟩,
    ⟨some 41, .nck (.t 40), none⟩,
    ⟨some 42, .fad 1 (.t 41), none⟩,
    ⟨some 43, .ld none (.t 42), none⟩,
    ⟨some 44, .idxs (.t 39) (.t 43), none⟩,
    ⟨some 45, .mv (.t 1), none⟩,
    ⟨some 46, .bin .neq (.t 44) (.t 45), none⟩,
    ⟨some 35, .mv (.t 46), none⟩] [0, 1, 3, 7, 0, 16, 48, 112, 255, 0, 1023, 2047] [0, 35])
  (.cond (.t 35)
  (.reg false [⟨some 47, .mv (.t 0), none⟩,
    ⟨some 48, .mv (.t 0), none⟩,
    ⟨some 49, .nck (.t 48), none⟩,
    ⟨some 50, .fad 1 (.t 49), none⟩,
    ⟨some 51, .ld none (.t 50), none⟩,
    ⟨some 52, .call 62 [.t 47, .c (.int .i64 3), .t 51], none⟩] [] [])
  (.reg false [⟨some 4, .mv (.t 0), none⟩,
    ⟨some 5, .nck (.t 4), none⟩,
    ⟨some 6, .fad 1 (.t 5), none⟩,
    ⟨some 7, .ld none (.t 6), none⟩,
    ⟨some 8, .bin .add (.t 7) (.c (.int .i64 1)), none⟩,
    ⟨some 9, .nck (.t 4), none⟩,
    ⟨some 10, .fad 1 (.t 9), none⟩,
    ⟨none, .st 1 (.t 10) (.t 8), none⟩] [] [])))))))), []⟩
theorem impl_reader_take_ok : okFn Tryd.prog 89 impl_reader_take = true := by kernel_rfl
def spec_l1DrawTerm : IFn := ⟨19, (.seq (.reg false [⟨some 3, .box (.t 1), none⟩,
    ⟨some 4, .mv (.c (.int .i64 0)), none⟩] [] [0, 3])
  (.seq (.seq (.reg false [⟨some 5, .mv (.t 0), none⟩,
    ⟨some 6, .call 48 [.t 5, .c (.int .i64 25)], none⟩] [] [0, 3, 6])
  (.cond (.t 6)
  (.seq (.reg false [⟨some 7, .mv (.t 0), none⟩,
    ⟨some 8, .fad 0 (.t 3), none⟩,
    ⟨some 9, .ld none (.t 8), none⟩,
    ⟨some 10, .len false (.t 9), none⟩,
    ⟨some 11, .bsl 1 2 [.int .i64 0] [(0, 1, .c (.int .i64 (-1))), (1, 1, .t 10)], none⟩,
    ⟨some 12, .call 94 [.t 7, .t 11], none⟩,
    ⟨some 4, .mv (.t 12), none⟩] [] [4])
  .ret)
  .skip))
  (.seq (.reg false [⟨some 13, .mv (.t 0), none⟩,
    ⟨some 14, .fad 0 (.t 3), none⟩,
    ⟨some 15, .ld none (.t 14), none⟩,
    ⟨some 16, .len false (.t 15), none⟩,
    ⟨some 17, .call 98 [.t 16, .c (.int .i64 1)], none⟩,
    ⟨some 18, .call 76 [.t 13, .t 17], none⟩,
    ⟨some 4, .mv (.t 18), none⟩] [] [4])
  .ret))), [(4, none)]⟩
theorem spec_l1DrawTerm_ok : okFn Tryd.prog 90 spec_l1DrawTerm = true := by kernel_rfl
def impl_signsOf : IFn := ⟨17, (.seq (.reg false [⟨some 2, .mv (.c (.str ⟨#[]⟩)), none⟩,
    ⟨some 3, .mv (.c (.str ⟨#[]⟩)), none⟩] [] [0])
  (.seq (.seq (.reg false [⟨some 4, .mv (.t 0), none⟩] [] [4])
  (.block 0 (.seq (.reg false [⟨some 6, .bin .eql (.t 4) (.c (.int .i64 2)), none⟩,
    ⟨some 5, .mv (.t 6), none⟩] [] [4, 5])
  (.cond (.t 5)
  (.seq (.reg false [⟨some 2, .mv (.c (.str ⟨#[40]⟩)), none⟩,
    ⟨some 3, .mv (.c (.str ⟨#[41]⟩)), none⟩] [] [2, 3])
  .ret)
  (.seq (.reg false [⟨some 8, .bin .eql (.t 4) (.c (.int .i64 3)), none⟩,
    ⟨some 7, .mv (.t 8), none⟩] [] [4, 7])
  (.cond (.t 7)
  (.seq (.reg false [⟨some 2, .mv (.c (.str ⟨#[123]⟩)), none⟩,
    ⟨some 3, .mv (.c (.str ⟨#[125]⟩)), none⟩] [] [2, 3])
  .ret)
  (.seq (.reg false [⟨some 10, .bin .eql (.t 4) (.c (.int .i64 4)), none⟩,
    ⟨some 9, .mv (.t 10), none⟩] [] [4, 9])
  (.cond (.t 9)
  (.seq (.reg false [⟨some 2, .mv (.c (.str ⟨#[91]⟩)), none⟩,
    ⟨some 3, .mv (.c (.str ⟨#[93]⟩)), none⟩] [] [2, 3])
  .ret)
  (.seq (.reg false [⟨some 12, .bin .eql (.t 4) (.c (.int .i64 5)), none⟩,
    ⟨some 11, .mv (.t 12), none⟩] [] [4, 11])
  (.cond (.t 11)
  (.seq (.reg false [⟨some 2, .mv (.c (.str ⟨#[35]⟩)), none⟩,
    ⟨some 3, .mv (.c (.str ⟨#[]⟩)), none⟩] [] [2, 3])
  .ret)
  (.seq (.reg false [⟨some 14, .bin .eql (.t 4) (.c (.int .i64 6)), none⟩,
    ⟨some 13, .mv (.t 14), none⟩] [] [4, 13])
  (.cond (.t 13)
  (.seq (.reg false [⟨some 2, .mv (.c (.str ⟨#[107, 40]⟩)), none⟩,
    ⟨some 3, .mv (.c (.str ⟨#[41]⟩)), none⟩] [] [2, 3])
  .ret)
  (.seq (.reg false [⟨some 16, .bin .eql (.t 4) (.c (.int .i64 7)), none⟩,
    ⟨some 15, .mv (.t 16), none⟩] [] [15])
  (.cond (.t 15)
  (.seq (.reg false [⟨some 2, .mv (.c (.str ⟨#[94]⟩)), none⟩,
    ⟨some 3, .mv (.c (.str ⟨#[]⟩)), none⟩] [] [2, 3])
  .ret)
  .skip))))))))))))))
  (.seq (.reg false [⟨some 2, .mv (.c (.str ⟨#[42, 40]⟩)), none⟩,
    ⟨some 3, .mv (.c (.str ⟨#[41]⟩)), none⟩] [] [2, 3])
  .ret))), [(2, none), (3, none)]⟩
theorem impl_signsOf_ok : okFn Tryd.prog 92 impl_signsOf = true := by kernel_rfl
def spec_l1PartsOf : IFn := ⟨27, (.seq (.reg false [⟨some 2, .box (.t 0), none⟩,
    ⟨some 4, .mv (.c (.nil)), none⟩] [] [1, 2])
  (.seq (.reg false [⟨some 6, .fad 0 (.t 2), none⟩,
    ⟨some 7, .ld none (.t 6), none⟩,
    ⟨some 8, .mv (.t 1), none⟩,
    ⟨some 9, .iad 3 (.t 7) (.t 8), none⟩,
    ⟨some 10, .ld (some 3) (.t 9), none⟩,
    ⟨some 5, .new [.int .i64 0, .int .i64 0, .int .i64 0], none⟩,
    ⟨none, .st 3 (.t 5) (.t 10), none⟩] [] [5])
  (.seq (.seq (.reg false [⟨some 11, .fad 0 (.t 5), none⟩,
    ⟨some 12, .ld none (.t 11), none⟩,
    ⟨some 13, .call 81 [.t 12], none⟩] [] [5, 13])
  (.block 0 (.seq (.reg false [⟨some 15, .bin .eql (.t 13) (.c (.int .i64 1)), none⟩,
    ⟨some 14, .mv (.t 15), none⟩] [] [5, 13, 14])
  (.cond (.t 14)
  (.seq (.reg false [⟨some 16, .fad 1 (.t 5), none⟩,
    ⟨some 17, .ld none (.t 16), none⟩,
    ⟨some 18, .bsl 1 1 [.int .i64 0] [(0, 1, .t 17)], none⟩,
    ⟨some 4, .mv (.t 18), none⟩] [] [4])
  .ret)
  (.seq (.reg false [⟨some 20, .bin .eql (.t 13) (.c (.int .i64 2)), none⟩,
    ⟨some 19, .mv (.t 20), none⟩] [] [5, 19])
  (.cond (.t 19)
  (.seq (.reg false [⟨some 21, .fad 1 (.t 5), none⟩,
    ⟨some 22, .ld none (.t 21), none⟩,
    ⟨some 23, .fad 2 (.t 5), none⟩,
    ⟨some 24, .ld none (.t 23), none⟩,
    ⟨some 25, .bsl 1 2 [.int .i64 0] [(0, 1, .t 22), (1, 1, .t 24)], none⟩,
    ⟨some 4, .mv (.t 25), none⟩] [] [4])
  .ret)
  .skip))))))
  (.seq (.reg false [⟨some 26, .bsl 1 0 [.int .i64 0] [], none⟩,
    ⟨some 4, .mv (.t 26), none⟩] [] [4])
  .ret)))), [(4, none)]⟩
theorem spec_l1PartsOf_ok : okFn Tryd.prog 93 spec_l1PartsOf = true := by kernel_rfl
def spec_l1PickInt : IFn := ⟨12, (.seq (.reg false [⟨some 4, .mv (.c (.int .i64 0)), none⟩] [] [0, 1])
  (.seq (.reg false [⟨some 5, .mv (.t 1), none⟩,
    ⟨some 6, .mv (.t 0), none⟩,
    ⟨some 7, .mv (.t 1), none⟩,
    ⟨some 8, .len false (.t 7), none⟩,
    ⟨some 9, .call 50 [.t 6, .t 8], none⟩,
    ⟨some 10, .iad 1 (.t 5) (.t 9), none⟩,
    ⟨some 11, .ld none (.t 10), none⟩,
    ⟨some 4, .mv (.t 11), none⟩] [] [4])
  .ret)), [(4, none)]⟩
theorem spec_l1PickInt_ok : okFn Tryd.prog 94 spec_l1PickInt = true := by kernel_rfl
def slices_Index_Node : IFn := ⟨19, (.seq (.reg false [⟨some 3, .box (.t 1), none⟩,
    ⟨some 4, .mv (.c (.int .i64 0)), none⟩] [] [0, 3])
  (.seq (.seq (.reg false [⟨some 6, .mv (.t 0), none⟩,
    ⟨some 7, .len false (.t 6), none⟩,
    ⟨some 8, .mv (.c (.int .i64 0)), none⟩] [] [0, 3, 7, 8])
  (.block 0 (.loop (.seq (.reg false [⟨some 9, .bin .lss (.t 8) (.t 7), none⟩] [] [0, 3, 7, 8, 9])
  (.seq (.cond (.t 9)
  .skip
  (.exit 0))
  (.seq (.block 1 (.seq (.reg false [⟨some 10, .mv (.t 8), none⟩,
    ⟨some 5, .mv (.t 10), none⟩] [] [0, 3, 5, 7, 8])
  (.seq (.reg true [⟨some 11, .ld (some 3) (.t 3), none⟩,
    ⟨some 12, .mv (.t 0), none⟩,
    ⟨some 13, .mv (.t 5), none⟩,
    ⟨some 14, .iad 3 (.t 12) (.t 13), none⟩,
    ⟨some 15, .ld (some 3) (.t 14), none⟩,
    ⟨some 16, .eqs false [1, 1, 1] (.t 11) (.t 15), none⟩] [0, 0, 0, 6, 14, 31] [0, 3, 5, 7, 8, 16])
  (.cond (.t 16)
  (.seq (.reg false [⟨some 17, .mv (.t 5), none⟩,
    ⟨some 4, .mv (.t 17), none⟩] [] [4])
  .ret)
  .skip))))
  (.reg false [⟨some 18, .bin .add (.t 8) (.c (.int .i64 1)), none⟩,
    ⟨some 8, .mv (.t 18), none⟩] [] [0, 3, 7, 8])))))))
  (.seq (.reg false [⟨some 4, .mv (.c (.int .i64 (-1))), none⟩] [] [4])
  .ret))), [(4, none)]⟩
theorem slices_Index_Node_ok : okFn Tryd.prog 97 slices_Index_Node = true := by kernel_rfl
def spec_l1Max : IFn := ⟨10, (.seq (.reg false [⟨some 4, .mv (.c (.int .i64 0)), none⟩] [] [0, 1])
  (.seq (.seq (.reg false [⟨some 5, .mv (.t 0), none⟩,
    ⟨some 6, .mv (.t 1), none⟩,
    ⟨some 7, .bin .gtr (.t 5) (.t 6), none⟩] [] [0, 1, 7])
  (.cond (.t 7)
  (.seq (.reg false [⟨some 8, .mv (.t 0), none⟩,
    ⟨some 4, .mv (.t 8), none⟩] [] [4])
  .ret)
  .skip))
  (.seq (.reg false [⟨some 9, .mv (.t 1), none⟩,
    ⟨some 4, .mv (.t 9), none⟩] [] [4])
  .ret))), [(4, none)]⟩
theorem spec_l1Max_ok : okFn Tryd.prog 98 spec_l1Max = true := by kernel_rfl
end Go.Proofs.YtoegiepfcdkjaaaDoor.I
