/- The functions of this seat told by trees. Printed by a program of this repository (mkir.py). Conditions: none. -/
import Derived.Test.YtijileoflejgpaaDoorXSymQ
import Derived.Test.YtijileoflejgpaaDoorProg
import Derived.KernelRfl
set_option maxRecDepth 100000
set_option linter.unusedVariables false
namespace Go.Proofs.YtijileoflejgpaaDoor.I
open Go.Sym
def laws_FnExactRecipeOf : IFn := ⟨74, (.seq (.reg false [⟨some 3, .box (.t 0), none⟩,
    ⟨some 6, .mv (.c (.bool false)), none⟩] [] [1, 2, 3])
  (.seq (.seq (.reg false [⟨some 15, .mv (.t 1), none⟩,
    ⟨some 16, .len false (.t 15), none⟩,
    ⟨some 17, .bin .gtr (.t 16) (.c (.int .i64 1048576)), none⟩] [] [1, 2, 3, 17])
  (.cond (.t 17)
  (.seq (.reg false [⟨some 6, .mv (.c (.bool true)), none⟩] [] [6])
  .ret)
  .skip))
  (.seq (.reg false [⟨some 7, .mv (.c (.int .i64 1048576)), none⟩] [] [1, 2, 3, 7])
  (.seq (.reg false [⟨some 18, .ld (some 1) (.t 3), none⟩,
    ⟨some 19, .mv (.t 7), none⟩,
    ⟨some 20, .call 4 [.t 18, .t 19], none⟩,
    ⟨some 7, .mv (.t 20), none⟩] [] [1, 2, 3, 7])
  (.seq (.seq (.reg false [⟨some 21, .mv (.t 7), none⟩,
    ⟨some 22, .bin .lss (.t 21) (.c (.int .i64 0)), none⟩] [] [1, 2, 3, 7, 22])
  (.cond (.t 22)
  (.seq (.reg false [⟨some 6, .mv (.c (.bool true)), none⟩] [] [6])
  .ret)
  .skip))
  (.seq (.reg false [⟨some 23, .mv (.t 2), none⟩,
    ⟨some 24, .mv (.t 7), none⟩,
    ⟨some 25, .call 5 [.t 23, .t 24], none⟩,
    ⟨some 7, .mv (.t 25), none⟩] [] [1, 2, 3, 7])
  (.seq (.seq (.reg false [⟨some 26, .mv (.t 7), none⟩,
    ⟨some 27, .bin .lss (.t 26) (.c (.int .i64 0)), none⟩] [] [1, 2, 3, 27])
  (.cond (.t 27)
  (.seq (.reg false [⟨some 6, .mv (.c (.bool true)), none⟩] [] [6])
  .ret)
  .skip))
  (.seq (.reg false [⟨some 29, .ld (some 1) (.t 3), none⟩,
    ⟨some 30, .call 7 [.t 29], none⟩,
    ⟨some 31, .mv (.t 1), none⟩,
    ⟨some 32, .call 8 [.t 31], none⟩,
    ⟨some 33, .mv (.t 2), none⟩,
    ⟨some 34, .call 9 [.t 33], none⟩,
    ⟨some 35, .call 6 [.t 30, .t 32, .t 34], none⟩,
    ⟨some 28, .mv (.t 35), none⟩,
    ⟨some 36, .ext (.t 28) 0, none⟩,
    ⟨some 37, .ext (.t 28) 1, none⟩,
    ⟨some 8, .mv (.t 36), none⟩,
    ⟨some 9, .mv (.t 37), none⟩] [] [1, 2, 3, 8, 9])
  (.seq (.reg false [⟨some 38, .ld (some 1) (.t 3), none⟩,
    ⟨some 39, .call 7 [.t 38], none⟩,
    ⟨some 10, .new [.nil], none⟩,
    ⟨none, .st 1 (.t 10) (.t 39), none⟩] [] [1, 2, 3, 8, 9, 10])
  (.seq (.reg false [⟨some 40, .mv (.t 1), none⟩,
    ⟨some 41, .call 8 [.t 40], none⟩,
    ⟨some 11, .mv (.t 41), none⟩] [] [1, 2, 3, 8, 9, 10, 11])
  (.seq (.reg false [⟨some 42, .mv (.t 2), none⟩,
    ⟨some 43, .call 9 [.t 42], none⟩,
    ⟨some 12, .mv (.t 43), none⟩] [] [1, 2, 3, 8, 9, 10, 11, 12])
  (.seq (.reg false [⟨some 45, .ld (some 1) (.t 10), none⟩,
    ⟨some 46, .mv (.t 11), none⟩,
    ⟨some 47, .mv (.t 12), none⟩,
    ⟨some 48, .call 10 [.t 45, .t 46, .t 47], none⟩,
    ⟨some 44, .mv (.t 48), none⟩,
    ⟨some 49, .ext (.t 44) 0, none⟩,
    ⟨some 50, .ext (.t 44) 1, none⟩,
    ⟨some 13, .mv (.t 49), none⟩,
    ⟨some 14, .mv (.t 50), none⟩] [] [1, 2, 3, 8, 9, 10, 11, 12, 13, 14])
  (.seq (.seq (.reg false [⟨some 51, .mv (.t 13), none⟩,
    ⟨some 52, .mv (.t 8), none⟩,
    ⟨some 53, .bin .neq (.t 51) (.t 52), none⟩,
    ⟨some 54, .mv (.t 53), none⟩,
    ⟨some 55, .mv (.t 14), some (54, false)⟩,
    ⟨some 56, .mv (.t 9), some (54, false)⟩,
    ⟨some 57, .eqb true (.t 55) (.t 56), some (54, false)⟩,
    ⟨some 58, .pick (.t 54) (.c (.bool true)) (.t 57), none⟩] [] [1, 2, 3, 10, 11, 12, 58])
  (.cond (.t 58)
  (.seq (.reg false [⟨some 6, .mv (.c (.bool false)), none⟩] [] [6])
  .ret)
  .skip))
  (.seq (.seq (.reg true [⟨some 59, .ld (some 1) (.t 10), none⟩,
    ⟨some 60, .ld (some 1) (.t 3), none⟩,
    ⟨some 61, .call 7 [.t 60], none⟩,
    ⟨some 62, .call 11 [.t 59, .t 61], none⟩,
    ⟨some 63, .not (.t 62), none⟩] [0, 0, 2, 7, 15] [1, 2, 11, 12, 63])
  (.cond (.t 63)
  (.seq (.reg false [⟨some 6, .mv (.c (.bool false)), none⟩] [] [6])
  .ret)
  .skip))
  (.seq (.seq (.reg false [⟨some 64, .mv (.t 11), none⟩,
    ⟨some 65, .mv (.t 1), none⟩,
    ⟨some 66, .call 8 [.t 65], none⟩,
    ⟨some 67, .call 12 [.t 64, .t 66], none⟩,
    ⟨some 68, .not (.t 67), none⟩] [] [2, 12, 68])
  (.cond (.t 68)
  (.seq (.reg false [⟨some 6, .mv (.c (.bool false)), none⟩] [] [6])
  .ret)
  .skip))
  (.seq (.seq (.reg false [⟨some 69, .mv (.t 12), none⟩,
    ⟨some 70, .mv (.t 2), none⟩,
    ⟨some 71, .call 9 [.t 70], none⟩,
    ⟨some 72, .call 13 [.t 69, .t 71], none⟩,
    ⟨some 73, .not (.t 72), none⟩] [] [73])
  (.cond (.t 73)
  (.seq (.reg false [⟨some 6, .mv (.c (.bool false)), none⟩] [] [6])
  .ret)
  .skip))
  (.seq (.reg false [⟨some 6, .mv (.c (.bool true)), none⟩] [] [6])
  .ret))))))))))))))))), [(6, none)]⟩
theorem laws_FnExactRecipeOf_ok : okFn Tryd.prog 3 laws_FnExactRecipeOf = true := by kernel_rfl
def laws_szPool : IFn := ⟨12, (.seq (.reg false [⟨some 2, .box (.t 0), none⟩,
    ⟨some 4, .mv (.c (.int .i64 0)), none⟩] [] [1, 2])
  (.seq (.reg false [⟨some 5, .fad 0 (.t 2), none⟩,
    ⟨some 6, .ld none (.t 5), none⟩,
    ⟨some 7, .mv (.t 1), none⟩,
    ⟨some 8, .call 14 [.t 6, .t 7], none⟩,
    ⟨some 1, .mv (.t 8), none⟩] [] [1])
  (.seq (.seq (.reg false [⟨some 9, .mv (.t 1), none⟩,
    ⟨some 10, .bin .lss (.t 9) (.c (.int .i64 0)), none⟩] [] [1, 10])
  (.cond (.t 10)
  (.seq (.reg false [⟨some 4, .mv (.c (.int .i64 (-1))), none⟩] [] [4])
  .ret)
  .skip))
  (.seq (.reg false [⟨some 11, .mv (.t 1), none⟩,
    ⟨some 4, .mv (.t 11), none⟩] [] [4])
  .ret)))), [(4, none)]⟩
theorem laws_szPool_ok : okFn Tryd.prog 4 laws_szPool = true := by kernel_rfl
def laws_szStepS : IFn := ⟨12, (.seq (.reg false [⟨some 4, .mv (.c (.int .i64 0)), none⟩] [] [0, 1])
  (.seq (.reg false [⟨some 5, .mv (.t 1), none⟩,
    ⟨some 6, .mv (.t 0), none⟩,
    ⟨some 7, .len false (.t 6), none⟩,
    ⟨some 8, .bin .sub (.t 5) (.t 7), none⟩,
    ⟨some 1, .mv (.t 8), none⟩] [] [1])
  (.seq (.seq (.reg false [⟨some 9, .mv (.t 1), none⟩,
    ⟨some 10, .bin .lss (.t 9) (.c (.int .i64 0)), none⟩] [] [1, 10])
  (.cond (.t 10)
  (.seq (.reg false [⟨some 4, .mv (.c (.int .i64 (-1))), none⟩] [] [4])
  .ret)
  .skip))
  (.seq (.reg false [⟨some 11, .mv (.t 1), none⟩,
    ⟨some 4, .mv (.t 11), none⟩] [] [4])
  .ret)))), [(4, none)]⟩
theorem laws_szStepS_ok : okFn Tryd.prog 5 laws_szStepS = true := by kernel_rfl
def spec_RecipeOf : IFn := ⟨57, (.seq (.reg false [⟨some 3, .box (.t 0), none⟩,
    ⟨some 6, .mv (.c (.str ⟨#[]⟩)), none⟩,
    ⟨some 7, .mv (.c (.bool false)), none⟩] [] [1, 2, 3])
  (.seq (.seq (.reg false [⟨some 12, .mv (.t 2), none⟩,
    ⟨some 13, .len false (.t 12), none⟩,
    ⟨some 14, .bin .eql (.t 13) (.c (.int .i64 0)), none⟩,
    ⟨some 15, .mv (.t 14), none⟩,
    ⟨some 16, .ld (some 1) (.t 3), some (15, false)⟩,
    ⟨some 17, .mv (.t 1), some (15, false)⟩,
    ⟨some 18, .mv (.t 2), some (15, false)⟩,
    ⟨some 19, .call 15 [.t 16, .t 17, .t 18], some (15, false)⟩,
    ⟨some 20, .not (.t 19), some (15, false)⟩,
    ⟨some 21, .pick (.t 15) (.c (.bool true)) (.t 20), none⟩] [] [1, 2, 3, 21])
  (.cond (.t 21)
  (.seq (.reg false [⟨some 6, .mv (.c (.str ⟨#[]⟩)), none⟩,
    ⟨some 7, .mv (.c (.bool false)), none⟩] [] [6, 7])
  .ret)
  .skip))
  (.seq (.reg false [⟨some 22, .bsl 1 0 [.str ⟨#[]⟩] [], none⟩,
    ⟨some 8, .mv (.t 22), none⟩] [] [1, 2, 3, 8])
  (.seq (.seq (.reg false [⟨some 9, .mv (.c (.int .i64 0)), none⟩] [] [1, 2, 3, 8, 9])
  (.block 0 (.loop (.seq (.seq (.reg false [⟨some 23, .mv (.t 9), none⟩,
    ⟨some 24, .mv (.t 2), none⟩,
    ⟨some 25, .len false (.t 24), none⟩,
    ⟨some 26, .bin .lss (.t 23) (.t 25), none⟩] [] [1, 2, 3, 8, 9, 26])
  (.cond (.t 26)
  .skip
  (.exit 0)))
  (.seq (.block 1 (.seq (.reg true [⟨some 29, .ld (some 1) (.t 3), none⟩,
    ⟨some 30, .mv (.t 1), none⟩,
    ⟨some 31, .mv (.t 2), none⟩,
    ⟨some 32, .mv (.t 9), none⟩,
    ⟨some 33, .iad 4 (.t 31) (.t 32), none⟩,
    ⟨some 34, .ld (some 4) (.t 33), none⟩,
    ⟨some 35, .mv (.t 8), none⟩,
    ⟨some 36, .call 16 [.t 29, .t 30, .t 34, .t 35], none⟩,
    ⟨some 10, .mv (.t 36), none⟩] [0, 0, 0, 0, 12, 28, 0, 127, 255] [1, 2, 3, 8, 9, 10])
  (.seq (.seq (.reg false [⟨some 37, .mv (.t 10), none⟩,
    ⟨some 38, .len true (.t 37), none⟩,
    ⟨some 39, .bin .gtr (.t 38) (.c (.int .i64 2000)), none⟩] [] [1, 2, 3, 8, 9, 10, 39])
  (.cond (.t 39)
  (.reg false [⟨some 40, .mv (.t 10), none⟩,
    ⟨some 41, .sls (.t 40) none (some (.c (.int .i64 2000))), none⟩,
    ⟨some 42, .bin .add (.t 41) (.c (.str ⟨#[46]⟩)), none⟩,
    ⟨some 10, .mv (.t 42), none⟩] [] [1, 2, 3, 8, 9, 10])
  .skip))
  (.reg false [⟨some 43, .mv (.t 8), none⟩,
    ⟨some 44, .mv (.t 10), none⟩,
    ⟨some 45, .bsl 1 1 [.str ⟨#[]⟩] [(0, 1, .t 44)], none⟩,
    ⟨some 46, .app 1 16 (.t 43) (.t 45), none⟩,
    ⟨some 8, .mv (.t 46), none⟩] [] [1, 2, 3, 8, 9]))))
  (.reg false [⟨some 27, .mv (.t 9), none⟩,
    ⟨some 28, .bin .add (.t 27) (.c (.int .i64 1)), none⟩,
    ⟨some 9, .mv (.t 28), none⟩] [] [1, 2, 3, 8, 9]))))))
  (.seq (.reg false [⟨some 47, .mv (.t 8), none⟩,
    ⟨some 48, .mv (.t 8), none⟩,
    ⟨some 49, .len false (.t 48), none⟩,
    ⟨some 50, .bin .sub (.t 49) (.c (.int .i64 1)), none⟩,
    ⟨some 51, .iad 1 (.t 47) (.t 50), none⟩,
    ⟨some 52, .ld none (.t 51), none⟩,
    ⟨some 11, .mv (.t 52), none⟩] [] [11])
  (.seq (.seq (.reg false [⟨some 53, .mv (.t 11), none⟩,
    ⟨some 54, .len true (.t 53), none⟩,
    ⟨some 55, .bin .gtr (.t 54) (.c (.int .i64 2000)), none⟩] [] [11, 55])
  (.cond (.t 55)
  (.seq (.reg false [⟨some 6, .mv (.c (.str ⟨#[]⟩)), none⟩,
    ⟨some 7, .mv (.c (.bool false)), none⟩] [] [6, 7])
  .ret)
  .skip))
  (.seq (.reg false [⟨some 56, .mv (.t 11), none⟩,
    ⟨some 6, .mv (.t 56), none⟩,
    ⟨some 7, .mv (.c (.bool true)), none⟩] [] [6, 7])
  .ret))))))), [(6, none), (7, none)]⟩
theorem spec_RecipeOf_ok : okFn Tryd.prog 6 spec_RecipeOf = true := by kernel_rfl
def laws_toPool : IFn := ⟨9, (.seq (.reg false [⟨some 1, .box (.t 0), none⟩,
    ⟨some 2, .new [.nil], none⟩] [] [1, 2])
  (.seq (.reg false [⟨some 3, .new [.nil], none⟩] [] [1, 2, 3])
  (.seq (.reg false [⟨some 4, .fad 0 (.t 1), none⟩,
    ⟨some 5, .ld none (.t 4), none⟩,
    ⟨some 6, .call 17 [.t 5], none⟩,
    ⟨some 7, .fad 0 (.t 3), none⟩,
    ⟨none, .st 1 (.t 7) (.t 6), none⟩] [] [2, 3])
  (.seq (.reg false [⟨some 8, .ld (some 1) (.t 3), none⟩,
    ⟨none, .st 1 (.t 2) (.t 8), none⟩] [] [2])
  .ret)))), [(2, some (some 1))]⟩
theorem laws_toPool_ok : okFn Tryd.prog 7 laws_toPool = true := by kernel_rfl
def laws_toIntS : IFn := ⟨22, (.seq (.reg false [⟨some 2, .mv (.c (.nil)), none⟩] [] [0])
  (.seq (.reg false [⟨some 5, .mv (.t 0), none⟩,
    ⟨some 6, .len false (.t 5), none⟩,
    ⟨some 7, .mk 1 8 [.int .i64 0] (.t 6) (.t 6), none⟩,
    ⟨some 3, .mv (.t 7), none⟩] [] [0, 3])
  (.seq (.seq (.reg false [⟨some 4, .mv (.c (.int .i64 0)), none⟩] [] [0, 3, 4])
  (.block 0 (.loop (.seq (.seq (.reg false [⟨some 8, .mv (.t 4), none⟩,
    ⟨some 9, .mv (.t 0), none⟩,
    ⟨some 10, .len false (.t 9), none⟩,
    ⟨some 11, .bin .lss (.t 8) (.t 10), none⟩] [] [0, 3, 4, 11])
  (.cond (.t 11)
  .skip
  (.exit 0)))
  (.seq (.block 1 (.reg false [⟨some 14, .mv (.t 3), none⟩,
    ⟨some 15, .mv (.t 4), none⟩,
    ⟨some 16, .mv (.t 0), none⟩,
    ⟨some 17, .mv (.t 4), none⟩,
    ⟨some 18, .iad 1 (.t 16) (.t 17), none⟩,
    ⟨some 19, .ld none (.t 18), none⟩,
    ⟨some 20, .iad 1 (.t 14) (.t 15), none⟩,
    ⟨none, .st 1 (.t 20) (.t 19), none⟩] [] [0, 3, 4]))
  (.reg false [⟨some 12, .mv (.t 4), none⟩,
    ⟨some 13, .bin .add (.t 12) (.c (.int .i64 1)), none⟩,
    ⟨some 4, .mv (.t 13), none⟩] [] [0, 3, 4]))))))
  (.seq (.reg false [⟨some 21, .mv (.t 3), none⟩,
    ⟨some 2, .mv (.t 21), none⟩] [] [2])
  .ret)))), [(2, none)]⟩
theorem laws_toIntS_ok : okFn Tryd.prog 8 laws_toIntS = true := by kernel_rfl
def laws_toStepS : IFn := ⟨23, (.seq (.reg false [⟨some 2, .mv (.c (.nil)), none⟩] [] [0])
  (.seq (.reg false [⟨some 5, .mv (.t 0), none⟩,
    ⟨some 6, .len false (.t 5), none⟩,
    ⟨some 7, .mk 4 32 [.int .i64 0, .int .i64 0, .int .i64 0, .int .i64 0] (.t 6) (.t 6), none⟩,
    ⟨some 3, .mv (.t 7), none⟩] [] [0, 3])
  (.seq (.seq (.reg false [⟨some 4, .mv (.c (.int .i64 0)), none⟩] [] [0, 3, 4])
  (.block 0 (.loop (.seq (.seq (.reg false [⟨some 8, .mv (.t 4), none⟩,
    ⟨some 9, .mv (.t 0), none⟩,
    ⟨some 10, .len false (.t 9), none⟩,
    ⟨some 11, .bin .lss (.t 8) (.t 10), none⟩] [] [0, 3, 4, 11])
  (.cond (.t 11)
  .skip
  (.exit 0)))
  (.seq (.block 1 (.reg false [⟨some 14, .mv (.t 3), none⟩,
    ⟨some 15, .mv (.t 4), none⟩,
    ⟨some 16, .mv (.t 0), none⟩,
    ⟨some 17, .mv (.t 4), none⟩,
    ⟨some 18, .iad 4 (.t 16) (.t 17), none⟩,
    ⟨some 19, .ld (some 4) (.t 18), none⟩,
    ⟨some 20, .call 18 [.t 19], none⟩,
    ⟨some 21, .iad 4 (.t 14) (.t 15), none⟩,
    ⟨none, .st 4 (.t 21) (.t 20), none⟩] [] [0, 3, 4]))
  (.reg false [⟨some 12, .mv (.t 4), none⟩,
    ⟨some 13, .bin .add (.t 12) (.c (.int .i64 1)), none⟩,
    ⟨some 4, .mv (.t 13), none⟩] [] [0, 3, 4]))))))
  (.seq (.reg false [⟨some 22, .mv (.t 3), none⟩,
    ⟨some 2, .mv (.t 22), none⟩] [] [2])
  .ret)))), [(2, none)]⟩
theorem laws_toStepS_ok : okFn Tryd.prog 9 laws_toStepS = true := by kernel_rfl
def impl_RecipeOf : IFn := ⟨103, (.seq (.reg false [⟨some 3, .box (.t 0), none⟩,
    ⟨some 6, .mv (.c (.str ⟨#[]⟩)), none⟩,
    ⟨some 7, .mv (.c (.bool false)), none⟩] [] [1, 2, 3])
  (.seq (.reg false [⟨some 15, .mv (.t 2), none⟩,
    ⟨some 16, .len false (.t 15), none⟩,
    ⟨some 17, .bin .sub (.t 16) (.c (.int .i64 1)), none⟩,
    ⟨some 8, .mv (.t 17), none⟩] [] [1, 2, 3, 8])
  (.seq (.seq (.reg true [⟨some 18, .mv (.t 8), none⟩,
    ⟨some 19, .bin .lss (.t 18) (.c (.int .i64 0)), none⟩,
    ⟨some 20, .mv (.t 19), none⟩,
    ⟨some 21, .ld (some 1) (.t 3), some (20, false)⟩,
    ⟨some 22, .mv (.t 1), some (20, false)⟩,
    ⟨some 23, .mv (.t 2), some (20, false)⟩,
    ⟨some 24, .mv (.t 2), some (20, false)⟩,
    ⟨some 25, .mv (.t 8), some (20, false)⟩,
    ⟨some 26, .iad 4 (.t 24) (.t 25), some (20, false)⟩,
    ⟨some 27, .fad 1 (.t 26), some (20, false)⟩,
    ⟨some 28, .ld none (.t 27), some (20, false)⟩,
    ⟨some 29, .call 19 [.t 21, .t 22, .t 23, .t 28], some (20, false)⟩,
    ⟨some 30, .not (.t 29), some (20, false)⟩,
    ⟨some 31, .pick (.t 20) (.c (.bool true)) (.t 30), none⟩] [0, 1, 3, 7, 7, 7, 7, 7, 199, 455, 967, 2047, 4095, 8191] [1, 2, 3, 8, 31])
  (.cond (.t 31)
  (.seq (.reg false [⟨some 6, .mv (.c (.str ⟨#[]⟩)), none⟩,
    ⟨some 7, .mv (.c (.bool false)), none⟩] [] [6, 7])
  .ret)
  .skip))
  (.seq (.reg false [⟨some 32, .mv (.t 2), none⟩,
    ⟨some 33, .len false (.t 32), none⟩,
    ⟨some 34, .mk 1 16 [.str ⟨#[]⟩] (.t 33) (.t 33), none⟩,
    ⟨some 9, .mv (.t 34), none⟩] [] [1, 2, 3, 8, 9])
  (.seq (.reg false [⟨some 35, .mv (.t 2), none⟩,
    ⟨some 36, .len false (.t 35), none⟩,
    ⟨some 37, .mk 1 1 [.bool false] (.t 36) (.t 36), none⟩,
    ⟨some 10, .mv (.t 37), none⟩] [] [1, 2, 3, 8, 9, 10])
  (.seq (.seq (.reg false [⟨some 38, .mv (.t 2), none⟩,
    ⟨some 39, .len false (.t 38), none⟩,
    ⟨some 40, .mv (.c (.int .i64 0)), none⟩] [] [1, 3, 8, 9, 10, 38, 39, 40])
  (.block 0 (.loop (.seq (.reg false [⟨some 41, .bin .lss (.t 40) (.t 39), none⟩] [] [1, 3, 8, 9, 10, 38, 39, 40, 41])
  (.seq (.cond (.t 41)
  .skip
  (.exit 0))
  (.seq (.block 1 (.seq (.reg false [⟨some 42, .mv (.t 40), none⟩,
    ⟨some 43, .iad 4 (.t 38) (.t 40), none⟩,
    ⟨some 44, .ld (some 4) (.t 43), none⟩,
    ⟨some 12, .new [.int .i64 0, .int .i64 0, .int .i64 0, .int .i64 0], none⟩,
    ⟨some 11, .mv (.t 42), none⟩,
    ⟨none, .st 4 (.t 12) (.t 44), none⟩] [] [1, 3, 8, 9, 10, 11, 12, 38, 39, 40])
  (.seq (.reg false [⟨some 45, .ld (some 4) (.t 12), none⟩,
    ⟨some 46, .call 20 [.t 3, .t 45], none⟩,
    ⟨some 13, .mv (.t 46), none⟩] [] [1, 3, 8, 9, 10, 11, 12, 13, 38, 39, 40])
  (.seq (.reg false [⟨some 47, .mv (.t 10), none⟩,
    ⟨some 48, .mv (.t 11), none⟩,
    ⟨some 49, .mv (.t 13), none⟩,
    ⟨some 50, .bin .gtr (.t 49) (.c (.int .i64 0)), none⟩,
    ⟨some 51, .mv (.t 50), none⟩,
    ⟨some 52, .mv (.t 10), some (51, true)⟩,
    ⟨some 53, .fad 2 (.t 12), some (51, true)⟩,
    ⟨some 54, .ld none (.t 53), some (51, true)⟩,
    ⟨some 55, .iad 1 (.t 52) (.t 54), some (51, true)⟩,
    ⟨some 56, .ld none (.t 55), some (51, true)⟩,
    ⟨some 57, .pick (.t 51) (.t 56) (.c (.bool false)), none⟩,
    ⟨some 58, .mv (.t 57), none⟩,
    ⟨some 59, .mv (.t 13), some (58, false)⟩,
    ⟨some 60, .bin .gtr (.t 59) (.c (.int .i64 1)), some (58, false)⟩,
    ⟨some 61, .mv (.t 60), some (58, false)⟩,
    ⟨some 62, .mv (.t 10), some (61, true)⟩,
    ⟨some 63, .fad 3 (.t 12), some (61, true)⟩,
    ⟨some 64, .ld none (.t 63), some (61, true)⟩,
    ⟨some 65, .iad 1 (.t 62) (.t 64), some (61, true)⟩,
    ⟨some 66, .ld none (.t 65), some (61, true)⟩,
    ⟨some 67, .pick (.t 61) (.t 66) (.c (.bool false)), some (58, false)⟩,
    ⟨some 68, .pick (.t 58) (.c (.bool true)) (.t 67), none⟩,
    ⟨some 69, .iad 1 (.t 47) (.t 48), none⟩,
    ⟨none, .st 1 (.t 69) (.t 68), none⟩] [] [1, 3, 8, 9, 10, 11, 12, 38, 39, 40])
  (.seq (.seq (.reg false [⟨some 70, .mv (.t 10), none⟩,
    ⟨some 71, .mv (.t 11), none⟩,
    ⟨some 72, .iad 1 (.t 70) (.t 71), none⟩,
    ⟨some 73, .ld none (.t 72), none⟩] [] [1, 3, 8, 9, 10, 11, 12, 38, 39, 40, 73])
  (.cond (.t 73)
  (.exit 1)
  .skip))
  (.seq (.reg false [⟨some 74, .mv (.t 1), none⟩,
    ⟨some 75, .ld (some 4) (.t 12), none⟩,
    ⟨some 76, .mv (.t 9), none⟩,
    ⟨some 77, .call 21 [.t 3, .t 74, .t 75, .t 76], none⟩,
    ⟨some 14, .mv (.t 77), none⟩] [] [1, 3, 8, 9, 10, 11, 14, 38, 39, 40])
  (.seq (.reg false [⟨some 78, .mv (.t 10), none⟩,
    ⟨some 79, .mv (.t 11), none⟩,
    ⟨some 80, .mv (.t 14), none⟩,
    ⟨some 81, .len true (.t 80), none⟩,
    ⟨some 82, .bin .gtr (.t 81) (.c (.int .i64 2000)), none⟩,
    ⟨some 83, .iad 1 (.t 78) (.t 79), none⟩,
    ⟨none, .st 1 (.t 83) (.t 82), none⟩] [] [1, 3, 8, 9, 10, 11, 14, 38, 39, 40])
  (.seq (.reg false [⟨some 84, .mv (.t 10), none⟩,
    ⟨some 85, .mv (.t 11), none⟩,
    ⟨some 86, .iad 1 (.t 84) (.t 85), none⟩,
    ⟨some 87, .ld none (.t 86), none⟩,
    ⟨some 88, .not (.t 87), none⟩] [] [1, 3, 8, 9, 10, 11, 14, 38, 39, 40, 88])
  (.cond (.t 88)
  (.reg false [⟨some 89, .mv (.t 9), none⟩,
    ⟨some 90, .mv (.t 11), none⟩,
    ⟨some 91, .mv (.t 14), none⟩,
    ⟨some 92, .iad 1 (.t 89) (.t 90), none⟩,
    ⟨none, .st 1 (.t 92) (.t 91), none⟩] [] [1, 3, 8, 9, 10, 38, 39, 40])
  .skip)))))))))
  (.reg false [⟨some 93, .bin .add (.t 40) (.c (.int .i64 1)), none⟩,
    ⟨some 40, .mv (.t 93), none⟩] [] [1, 3, 8, 9, 10, 38, 39, 40])))))))
  (.seq (.reg true [⟨some 94, .mv (.t 9), none⟩,
    ⟨some 95, .mv (.t 8), none⟩,
    ⟨some 96, .iad 1 (.t 94) (.t 95), none⟩,
    ⟨some 97, .ld none (.t 96), none⟩,
    ⟨some 98, .mv (.t 10), none⟩,
    ⟨some 99, .mv (.t 8), none⟩,
    ⟨some 100, .iad 1 (.t 98) (.t 99), none⟩,
    ⟨some 101, .ld none (.t 100), none⟩,
    ⟨some 102, .not (.t 101), none⟩,
    ⟨some 6, .mv (.t 97), none⟩,
    ⟨some 7, .mv (.t 102), none⟩] [0, 0, 3, 7, 0, 0, 48, 112, 240, 15, 1023] [6, 7])
  .ret))))))), [(6, none), (7, none)]⟩
theorem impl_RecipeOf_ok : okFn Tryd.prog 10 impl_RecipeOf = true := by kernel_rfl
def laws_eqPool : IFn := ⟨11, (.seq (.reg false [⟨some 2, .box (.t 0), none⟩,
    ⟨some 3, .box (.t 1), none⟩,
    ⟨some 4, .mv (.c (.bool false)), none⟩] [] [2, 3])
  (.seq (.seq (.reg false [⟨some 5, .fad 0 (.t 2), none⟩,
    ⟨some 6, .ld none (.t 5), none⟩,
    ⟨some 7, .fad 0 (.t 3), none⟩,
    ⟨some 8, .ld none (.t 7), none⟩,
    ⟨some 9, .call 22 [.t 6, .t 8], none⟩,
    ⟨some 10, .not (.t 9), none⟩] [] [10])
  (.cond (.t 10)
  (.seq (.reg false [⟨some 4, .mv (.c (.bool false)), none⟩] [] [4])
  .ret)
  .skip))
  (.seq (.reg false [⟨some 4, .mv (.c (.bool true)), none⟩] [] [4])
  .ret))), [(4, none)]⟩
theorem laws_eqPool_ok : okFn Tryd.prog 11 laws_eqPool = true := by kernel_rfl
def laws_eqIntS : IFn := ⟨26, (.seq (.reg false [⟨some 4, .mv (.c (.bool false)), none⟩] [] [0, 1])
  (.seq (.seq (.reg false [⟨some 6, .mv (.t 0), none⟩,
    ⟨some 7, .len false (.t 6), none⟩,
    ⟨some 8, .mv (.t 1), none⟩,
    ⟨some 9, .len false (.t 8), none⟩,
    ⟨some 10, .bin .neq (.t 7) (.t 9), none⟩] [] [0, 1, 10])
  (.cond (.t 10)
  (.seq (.reg false [⟨some 4, .mv (.c (.bool false)), none⟩] [] [4])
  .ret)
  .skip))
  (.seq (.seq (.reg false [⟨some 5, .mv (.c (.int .i64 0)), none⟩] [] [0, 1, 5])
  (.block 0 (.loop (.seq (.seq (.reg false [⟨some 11, .mv (.t 5), none⟩,
    ⟨some 12, .mv (.t 0), none⟩,
    ⟨some 13, .len false (.t 12), none⟩,
    ⟨some 14, .bin .lss (.t 11) (.t 13), none⟩] [] [0, 1, 5, 14])
  (.cond (.t 14)
  .skip
  (.exit 0)))
  (.seq (.block 1 (.seq (.reg true [⟨some 17, .mv (.t 0), none⟩,
    ⟨some 18, .mv (.t 5), none⟩,
    ⟨some 19, .iad 1 (.t 17) (.t 18), none⟩,
    ⟨some 20, .ld none (.t 19), none⟩,
    ⟨some 21, .mv (.t 1), none⟩,
    ⟨some 22, .mv (.t 5), none⟩,
    ⟨some 23, .iad 1 (.t 21) (.t 22), none⟩,
    ⟨some 24, .ld none (.t 23), none⟩,
    ⟨some 25, .bin .neq (.t 20) (.t 24), none⟩] [0, 0, 3, 7, 0, 0, 48, 112, 255] [0, 1, 5, 25])
  (.cond (.t 25)
  (.seq (.reg false [⟨some 4, .mv (.c (.bool false)), none⟩] [] [4])
  .ret)
  .skip)))
  (.reg false [⟨some 15, .mv (.t 5), none⟩,
    ⟨some 16, .bin .add (.t 15) (.c (.int .i64 1)), none⟩,
    ⟨some 5, .mv (.t 16), none⟩] [] [0, 1, 5]))))))
  (.seq (.reg false [⟨some 4, .mv (.c (.bool true)), none⟩] [] [4])
  .ret)))), [(4, none)]⟩
theorem laws_eqIntS_ok : okFn Tryd.prog 12 laws_eqIntS = true := by kernel_rfl
def laws_eqStepS : IFn := ⟨27, (.seq (.reg false [⟨some 4, .mv (.c (.bool false)), none⟩] [] [0, 1])
  (.seq (.seq (.reg false [⟨some 6, .mv (.t 0), none⟩,
    ⟨some 7, .len false (.t 6), none⟩,
    ⟨some 8, .mv (.t 1), none⟩,
    ⟨some 9, .len false (.t 8), none⟩,
    ⟨some 10, .bin .neq (.t 7) (.t 9), none⟩] [] [0, 1, 10])
  (.cond (.t 10)
  (.seq (.reg false [⟨some 4, .mv (.c (.bool false)), none⟩] [] [4])
  .ret)
  .skip))
  (.seq (.seq (.reg false [⟨some 5, .mv (.c (.int .i64 0)), none⟩] [] [0, 1, 5])
  (.block 0 (.loop (.seq (.seq (.reg false [⟨some 11, .mv (.t 5), none⟩,
    ⟨some 12, .mv (.t 0), none⟩,
    ⟨some 13, .len false (.t 12), none⟩,
    ⟨some 14, .bin .lss (.t 11) (.t 13), none⟩] [] [0, 1, 5, 14])
  (.cond (.t 14)
  .skip
  (.exit 0)))
  (.seq (.block 1 (.seq (.reg true [⟨some 17, .mv (.t 0), none⟩,
    ⟨some 18, .mv (.t 5), none⟩,
    ⟨some 19, .iad 4 (.t 17) (.t 18), none⟩,
    ⟨some 20, .ld (some 4) (.t 19), none⟩,
    ⟨some 21, .mv (.t 1), none⟩,
    ⟨some 22, .mv (.t 5), none⟩,
    ⟨some 23, .iad 4 (.t 21) (.t 22), none⟩,
    ⟨some 24, .ld (some 4) (.t 23), none⟩,
    ⟨some 25, .call 23 [.t 20, .t 24], none⟩,
    ⟨some 26, .not (.t 25), none⟩] [0, 0, 3, 7, 0, 0, 48, 112, 255, 511] [0, 1, 5, 26])
  (.cond (.t 26)
  (.seq (.reg false [⟨some 4, .mv (.c (.bool false)), none⟩] [] [4])
  .ret)
  .skip)))
  (.reg false [⟨some 15, .mv (.t 5), none⟩,
    ⟨some 16, .bin .add (.t 15) (.c (.int .i64 1)), none⟩,
    ⟨some 5, .mv (.t 16), none⟩] [] [0, 1, 5]))))))
  (.seq (.reg false [⟨some 4, .mv (.c (.bool true)), none⟩] [] [4])
  .ret)))), [(4, none)]⟩
theorem laws_eqStepS_ok : okFn Tryd.prog 13 laws_eqStepS = true := by kernel_rfl
def laws_szNodeS : IFn := ⟨12, (.seq (.reg false [⟨some 4, .mv (.c (.int .i64 0)), none⟩] [] [0, 1])
  (.seq (.reg false [⟨some 5, .mv (.t 1), none⟩,
    ⟨some 6, .mv (.t 0), none⟩,
    ⟨some 7, .len false (.t 6), none⟩,
    ⟨some 8, .bin .sub (.t 5) (.t 7), none⟩,
    ⟨some 1, .mv (.t 8), none⟩] [] [1])
  (.seq (.seq (.reg false [⟨some 9, .mv (.t 1), none⟩,
    ⟨some 10, .bin .lss (.t 9) (.c (.int .i64 0)), none⟩] [] [1, 10])
  (.cond (.t 10)
  (.seq (.reg false [⟨some 4, .mv (.c (.int .i64 (-1))), none⟩] [] [4])
  .ret)
  .skip))
  (.seq (.reg false [⟨some 11, .mv (.t 1), none⟩,
    ⟨some 4, .mv (.t 11), none⟩] [] [4])
  .ret)))), [(4, none)]⟩
theorem laws_szNodeS_ok : okFn Tryd.prog 14 laws_szNodeS = true := by kernel_rfl
def spec_l9Proof : IFn := ⟨64, (.seq (.reg false [⟨some 3, .box (.t 0), none⟩,
    ⟨some 6, .mv (.c (.bool false)), none⟩] [] [1, 2, 3])
  (.seq (.seq (.reg false [⟨some 10, .ld (some 1) (.t 3), none⟩,
    ⟨some 11, .mv (.t 1), none⟩,
    ⟨some 12, .call 24 [.t 10, .t 11], none⟩,
    ⟨some 13, .not (.t 12), none⟩,
    ⟨some 14, .mv (.t 13), none⟩,
    ⟨some 15, .mv (.t 2), some (14, false)⟩,
    ⟨some 16, .len false (.t 15), some (14, false)⟩,
    ⟨some 17, .bin .gtr (.t 16) (.c (.int .i64 500)), some (14, false)⟩,
    ⟨some 18, .pick (.t 14) (.c (.bool true)) (.t 17), none⟩] [] [1, 2, 3, 18])
  (.cond (.t 18)
  (.seq (.reg false [⟨some 6, .mv (.c (.bool false)), none⟩] [] [6])
  .ret)
  .skip))
  (.seq (.seq (.reg false [⟨some 7, .mv (.c (.int .i64 0)), none⟩] [] [1, 2, 3, 7])
  (.block 0 (.loop (.seq (.seq (.reg false [⟨some 19, .mv (.t 7), none⟩,
    ⟨some 20, .mv (.t 2), none⟩,
    ⟨some 21, .len false (.t 20), none⟩,
    ⟨some 22, .bin .lss (.t 19) (.t 21), none⟩] [] [1, 2, 3, 7, 22])
  (.cond (.t 22)
  .skip
  (.exit 0)))
  (.seq (.block 1 (.seq (.reg false [⟨some 25, .mv (.t 2), none⟩,
    ⟨some 26, .mv (.t 7), none⟩,
    ⟨some 27, .iad 4 (.t 25) (.t 26), none⟩,
    ⟨some 28, .ld (some 4) (.t 27), none⟩,
    ⟨some 8, .new [.int .i64 0, .int .i64 0, .int .i64 0, .int .i64 0], none⟩,
    ⟨none, .st 4 (.t 8) (.t 28), none⟩] [] [1, 2, 3, 7, 8])
  (.seq (.seq (.reg true [⟨some 29, .ld (some 1) (.t 3), none⟩,
    ⟨some 30, .fad 1 (.t 8), none⟩,
    ⟨some 31, .ld none (.t 30), none⟩,
    ⟨some 32, .call 25 [.t 29, .t 31], none⟩,
    ⟨some 33, .not (.t 32), none⟩,
    ⟨some 34, .mv (.t 33), none⟩,
    ⟨some 35, .ld (some 1) (.t 3), some (34, false)⟩,
    ⟨some 36, .mv (.t 1), some (34, false)⟩,
    ⟨some 37, .ld (some 4) (.t 8), some (34, false)⟩,
    ⟨some 38, .mv (.t 2), some (34, false)⟩,
    ⟨some 39, .mv (.t 7), some (34, false)⟩,
    ⟨some 40, .fad 2 (.t 8), some (34, false)⟩,
    ⟨some 41, .ld none (.t 40), some (34, false)⟩,
    ⟨some 42, .call 27 [.t 38, .t 39, .t 41], some (34, false)⟩,
    ⟨some 43, .mv (.t 2), some (34, false)⟩,
    ⟨some 44, .mv (.t 7), some (34, false)⟩,
    ⟨some 45, .fad 3 (.t 8), some (34, false)⟩,
    ⟨some 46, .ld none (.t 45), some (34, false)⟩,
    ⟨some 47, .call 27 [.t 43, .t 44, .t 46], some (34, false)⟩,
    ⟨some 48, .call 26 [.t 35, .t 36, .t 37, .t 42, .t 47], some (34, false)⟩,
    ⟨some 49, .not (.t 48), some (34, false)⟩,
    ⟨some 50, .pick (.t 34) (.c (.bool true)) (.t 49), none⟩] [0, 0, 2, 7, 15, 31, 63, 63, 63, 63, 63, 63, 2111, 7743, 63, 63, 63, 65599, 261695, 524287, 1048575, 2097151] [1, 2, 3, 7, 8, 50])
  (.cond (.t 50)
  (.seq (.reg false [⟨some 6, .mv (.c (.bool false)), none⟩] [] [6])
  .ret)
  .skip))
  (.seq (.reg false [⟨some 9, .mv (.c (.int .i64 0)), none⟩] [] [1, 2, 3, 7, 8, 9])
  (.block 2 (.loop (.seq (.seq (.reg false [⟨some 51, .mv (.t 9), none⟩,
    ⟨some 52, .mv (.t 7), none⟩,
    ⟨some 53, .bin .lss (.t 51) (.t 52), none⟩] [] [1, 2, 3, 7, 8, 9, 53])
  (.cond (.t 53)
  .skip
  (.exit 2)))
  (.seq (.block 3 (.seq (.reg true [⟨some 56, .mv (.t 2), none⟩,
    ⟨some 57, .mv (.t 9), none⟩,
    ⟨some 58, .iad 4 (.t 56) (.t 57), none⟩,
    ⟨some 59, .fad 1 (.t 58), none⟩,
    ⟨some 60, .ld none (.t 59), none⟩,
    ⟨some 61, .fad 1 (.t 8), none⟩,
    ⟨some 62, .ld none (.t 61), none⟩,
    ⟨some 63, .bin .eql (.t 60) (.t 62), none⟩] [0, 0, 3, 7, 15, 0, 32, 127] [1, 2, 3, 7, 8, 9, 63])
  (.cond (.t 63)
  (.seq (.reg false [⟨some 6, .mv (.c (.bool false)), none⟩] [] [6])
  .ret)
  .skip)))
  (.reg false [⟨some 54, .mv (.t 9), none⟩,
    ⟨some 55, .bin .add (.t 54) (.c (.int .i64 1)), none⟩,
    ⟨some 9, .mv (.t 55), none⟩] [] [1, 2, 3, 7, 8, 9])))))))))
  (.reg false [⟨some 23, .mv (.t 7), none⟩,
    ⟨some 24, .bin .add (.t 23) (.c (.int .i64 1)), none⟩,
    ⟨some 7, .mv (.t 24), none⟩] [] [1, 2, 3, 7]))))))
  (.seq (.reg false [⟨some 6, .mv (.c (.bool true)), none⟩] [] [6])
  .ret)))), [(6, none)]⟩
theorem spec_l9Proof_ok : okFn Tryd.prog 15 spec_l9Proof = true := by kernel_rfl
def spec_l10Text : IFn := ⟨129, (.seq (.reg false [⟨some 4, .box (.t 0), none⟩,
    ⟨some 6, .box (.t 2), none⟩,
    ⟨some 8, .mv (.c (.str ⟨#[]⟩)), none⟩] [] [1, 3, 4, 6])
  (.seq (.seq (.reg false [⟨some 13, .fad 0 (.t 6), none⟩,
    ⟨some 14, .ld none (.t 13), none⟩] [] [1, 3, 4, 6, 14])
  (.block 0 (.seq (.reg false [⟨some 16, .bin .eql (.t 14) (.c (.int .i64 1)), none⟩,
    ⟨some 15, .mv (.t 16), none⟩] [] [1, 3, 4, 6, 14, 15])
  (.cond (.t 15)
  (.seq (.reg false [⟨some 9, .mv (.c (.int .i64 0)), none⟩] [] [1, 6, 9])
  (.seq (.block 1 (.loop (.seq (.seq (.reg true [⟨some 17, .mv (.t 1), none⟩,
    ⟨some 18, .mv (.t 9), none⟩,
    ⟨some 19, .iad 1 (.t 17) (.t 18), none⟩,
    ⟨some 20, .ld none (.t 19), none⟩,
    ⟨some 21, .fad 1 (.t 6), none⟩,
    ⟨some 22, .ld none (.t 21), none⟩,
    ⟨some 23, .bin .neq (.t 20) (.t 22), none⟩] [0, 0, 3, 7, 0, 16, 63] [1, 6, 9, 23])
  (.cond (.t 23)
  .skip
  (.exit 1)))
  (.block 2 (.reg false [⟨some 24, .mv (.t 9), none⟩,
    ⟨some 25, .bin .add (.t 24) (.c (.int .i64 1)), none⟩,
    ⟨some 9, .mv (.t 25), none⟩] [] [1, 6, 9])))))
  (.seq (.reg false [⟨some 26, .mv (.t 9), none⟩,
    ⟨some 27, .call 28 [.t 26], none⟩,
    ⟨some 28, .bin .add (.c (.str ⟨#[64]⟩)) (.t 27), none⟩,
    ⟨some 8, .mv (.t 28), none⟩] [] [8])
  .ret)))
  (.seq (.reg false [⟨some 30, .bin .eql (.t 14) (.c (.int .i64 2)), none⟩,
    ⟨some 29, .mv (.t 30), none⟩] [] [3, 4, 6, 14, 29])
  (.cond (.t 29)
  (.seq (.reg false [⟨some 31, .ld (some 1) (.t 4), none⟩,
    ⟨some 32, .fad 1 (.t 6), none⟩,
    ⟨some 33, .ld none (.t 32), none⟩,
    ⟨some 34, .call 29 [.t 31, .t 33], none⟩,
    ⟨some 8, .mv (.t 34), none⟩] [] [8])
  .ret)
  (.seq (.reg false [⟨some 36, .bin .eql (.t 14) (.c (.int .i64 4)), none⟩,
    ⟨some 35, .mv (.t 36), none⟩] [] [3, 4, 6, 14, 35])
  (.cond (.t 35)
  (.seq (.reg true [⟨some 37, .mv (.t 3), none⟩,
    ⟨some 38, .fad 2 (.t 6), none⟩,
    ⟨some 39, .ld none (.t 38), none⟩,
    ⟨some 40, .iad 1 (.t 37) (.t 39), none⟩,
    ⟨some 41, .ld none (.t 40), none⟩,
    ⟨some 42, .bin .add (.c (.str ⟨#[120, 40]⟩)) (.t 41), none⟩,
    ⟨some 43, .bin .add (.t 42) (.c (.str ⟨#[44]⟩)), none⟩,
    ⟨some 44, .mv (.t 3), none⟩,
    ⟨some 45, .fad 3 (.t 6), none⟩,
    ⟨some 46, .ld none (.t 45), none⟩,
    ⟨some 47, .iad 1 (.t 44) (.t 46), none⟩,
    ⟨some 48, .ld none (.t 47), none⟩,
    ⟨some 49, .bin .add (.t 43) (.t 48), none⟩,
    ⟨some 50, .bin .add (.t 49) (.c (.str ⟨#[41]⟩)), none⟩,
    ⟨some 8, .mv (.t 50), none⟩] [0, 0, 2, 7, 15, 31, 63, 0, 0, 256, 896, 1920, 4095, 8191, 16383] [8])
  .ret)
  (.seq (.reg false [⟨some 52, .bin .eql (.t 14) (.c (.int .i64 5)), none⟩,
    ⟨some 51, .mv (.t 52), none⟩] [] [3, 4, 6, 14, 51])
  (.cond (.t 51)
  (.seq (.reg false [⟨some 53, .mv (.t 3), none⟩,
    ⟨some 54, .fad 2 (.t 6), none⟩,
    ⟨some 55, .ld none (.t 54), none⟩,
    ⟨some 56, .iad 1 (.t 53) (.t 55), none⟩,
    ⟨some 57, .ld none (.t 56), none⟩,
    ⟨some 58, .bin .add (.c (.str ⟨#[60]⟩)) (.t 57), none⟩,
    ⟨some 8, .mv (.t 58), none⟩] [] [8])
  .ret)
  (.seq (.reg false [⟨some 60, .bin .eql (.t 14) (.c (.int .i64 6)), none⟩,
    ⟨some 59, .mv (.t 60), none⟩] [] [3, 4, 6, 14, 59])
  (.cond (.t 59)
  (.seq (.reg false [⟨some 61, .mv (.t 3), none⟩,
    ⟨some 62, .fad 2 (.t 6), none⟩,
    ⟨some 63, .ld none (.t 62), none⟩,
    ⟨some 64, .iad 1 (.t 61) (.t 63), none⟩,
    ⟨some 65, .ld none (.t 64), none⟩,
    ⟨some 66, .bin .add (.c (.str ⟨#[62]⟩)) (.t 65), none⟩,
    ⟨some 8, .mv (.t 66), none⟩] [] [8])
  .ret)
  (.seq (.reg false [⟨some 68, .bin .eql (.t 14) (.c (.int .i64 8)), none⟩,
    ⟨some 67, .mv (.t 68), none⟩] [] [3, 4, 6, 14, 67])
  (.cond (.t 67)
  (.seq (.reg false [⟨some 69, .mv (.t 3), none⟩,
    ⟨some 70, .fad 2 (.t 6), none⟩,
    ⟨some 71, .ld none (.t 70), none⟩,
    ⟨some 72, .iad 1 (.t 69) (.t 71), none⟩,
    ⟨some 73, .ld none (.t 72), none⟩,
    ⟨some 74, .bin .add (.c (.str ⟨#[33]⟩)) (.t 73), none⟩,
    ⟨some 8, .mv (.t 74), none⟩] [] [8])
  .ret)
  (.seq (.reg false [⟨some 76, .bin .eql (.t 14) (.c (.int .i64 7)), none⟩,
    ⟨some 75, .mv (.t 76), none⟩] [] [3, 4, 6, 75])
  (.cond (.t 75)
  (.seq (.reg true [⟨some 77, .mv (.t 3), none⟩,
    ⟨some 78, .fad 2 (.t 6), none⟩,
    ⟨some 79, .ld none (.t 78), none⟩,
    ⟨some 80, .iad 1 (.t 77) (.t 79), none⟩,
    ⟨some 81, .ld none (.t 80), none⟩,
    ⟨some 82, .bin .add (.c (.str ⟨#[111, 40]⟩)) (.t 81), none⟩,
    ⟨some 83, .bin .add (.t 82) (.c (.str ⟨#[44]⟩)), none⟩,
    ⟨some 84, .mv (.t 3), none⟩,
    ⟨some 85, .fad 3 (.t 6), none⟩,
    ⟨some 86, .ld none (.t 85), none⟩,
    ⟨some 87, .iad 1 (.t 84) (.t 86), none⟩,
    ⟨some 88, .ld none (.t 87), none⟩,
    ⟨some 89, .bin .add (.t 83) (.t 88), none⟩,
    ⟨some 90, .bin .add (.t 89) (.c (.str ⟨#[41]⟩)), none⟩,
    ⟨some 8, .mv (.t 90), none⟩] [0, 0, 2, 7, 15, 31, 63, 0, 0, 256, 896, 1920, 4095, 8191, 16383] [8])
  .ret)
  .skip))))))))))))))))
  (.seq (.reg false [⟨some 91, .fad 0 (.t 4), none⟩,
    ⟨some 92, .ld none (.t 91), none⟩,
    ⟨some 93, .fad 1 (.t 6), none⟩,
    ⟨some 94, .ld none (.t 93), none⟩,
    ⟨some 95, .iad 3 (.t 92) (.t 94), none⟩,
    ⟨some 96, .fad 0 (.t 95), none⟩,
    ⟨some 97, .ld none (.t 96), none⟩,
    ⟨some 10, .mv (.t 97), none⟩] [] [3, 6, 10])
  (.seq (.reg false [⟨some 99, .mv (.t 10), none⟩,
    ⟨some 100, .call 30 [.t 99], none⟩,
    ⟨some 98, .mv (.t 100), none⟩,
    ⟨some 101, .ext (.t 98) 0, none⟩,
    ⟨some 102, .ext (.t 98) 1, none⟩,
    ⟨some 11, .mv (.t 101), none⟩,
    ⟨some 12, .mv (.t 102), none⟩] [] [3, 6, 10, 11, 12])
  (.seq (.seq (.reg false [⟨some 103, .mv (.t 10), none⟩,
    ⟨some 104, .call 31 [.t 103], none⟩,
    ⟨some 105, .bin .eql (.t 104) (.c (.int .i64 1)), none⟩] [] [3, 6, 11, 12, 105])
  (.cond (.t 105)
  (.seq (.reg false [⟨some 106, .mv (.t 11), none⟩,
    ⟨some 107, .mv (.t 3), none⟩,
    ⟨some 108, .fad 2 (.t 6), none⟩,
    ⟨some 109, .ld none (.t 108), none⟩,
    ⟨some 110, .iad 1 (.t 107) (.t 109), none⟩,
    ⟨some 111, .ld none (.t 110), none⟩,
    ⟨some 112, .bin .add (.t 106) (.t 111), none⟩,
    ⟨some 8, .mv (.t 112), none⟩] [] [8])
  .ret)
  .skip))
  (.seq (.reg true [⟨some 113, .mv (.t 11), none⟩,
    ⟨some 114, .mv (.t 3), none⟩,
    ⟨some 115, .fad 2 (.t 6), none⟩,
    ⟨some 116, .ld none (.t 115), none⟩,
    ⟨some 117, .iad 1 (.t 114) (.t 116), none⟩,
    ⟨some 118, .ld none (.t 117), none⟩,
    ⟨some 119, .bin .add (.t 113) (.t 118), none⟩,
    ⟨some 120, .bin .add (.t 119) (.c (.str ⟨#[44]⟩)), none⟩,
    ⟨some 121, .mv (.t 3), none⟩,
    ⟨some 122, .fad 3 (.t 6), none⟩,
    ⟨some 123, .ld none (.t 122), none⟩,
    ⟨some 124, .iad 1 (.t 121) (.t 123), none⟩,
    ⟨some 125, .ld none (.t 124), none⟩,
    ⟨some 126, .bin .add (.t 120) (.t 125), none⟩,
    ⟨some 127, .mv (.t 12), none⟩,
    ⟨some 128, .bin .add (.t 126) (.t 127), none⟩,
    ⟨some 8, .mv (.t 128), none⟩] [0, 0, 0, 4, 14, 30, 63, 127, 0, 0, 512, 1792, 3840, 8191, 0, 32767, 65535] [8])
  .ret)))))), [(8, none)]⟩
theorem spec_l10Text_ok : okFn Tryd.prog 16 spec_l10Text = true := by kernel_rfl
def laws_toNodeS : IFn := ⟨23, (.seq (.reg false [⟨some 2, .mv (.c (.nil)), none⟩] [] [0])
  (.seq (.reg false [⟨some 5, .mv (.t 0), none⟩,
    ⟨some 6, .len false (.t 5), none⟩,
    ⟨some 7, .mk 3 24 [.int .i64 0, .int .i64 0, .int .i64 0] (.t 6) (.t 6), none⟩,
    ⟨some 3, .mv (.t 7), none⟩] [] [0, 3])
  (.seq (.seq (.reg false [⟨some 4, .mv (.c (.int .i64 0)), none⟩] [] [0, 3, 4])
  (.block 0 (.loop (.seq (.seq (.reg false [⟨some 8, .mv (.t 4), none⟩,
    ⟨some 9, .mv (.t 0), none⟩,
    ⟨some 10, .len false (.t 9), none⟩,
    ⟨some 11, .bin .lss (.t 8) (.t 10), none⟩] [] [0, 3, 4, 11])
  (.cond (.t 11)
  .skip
  (.exit 0)))
  (.seq (.block 1 (.reg false [⟨some 14, .mv (.t 3), none⟩,
    ⟨some 15, .mv (.t 4), none⟩,
    ⟨some 16, .mv (.t 0), none⟩,
    ⟨some 17, .mv (.t 4), none⟩,
    ⟨some 18, .iad 3 (.t 16) (.t 17), none⟩,
    ⟨some 19, .ld (some 3) (.t 18), none⟩,
    ⟨some 20, .call 32 [.t 19], none⟩,
    ⟨some 21, .iad 3 (.t 14) (.t 15), none⟩,
    ⟨none, .st 3 (.t 21) (.t 20), none⟩] [] [0, 3, 4]))
  (.reg false [⟨some 12, .mv (.t 4), none⟩,
    ⟨some 13, .bin .add (.t 12) (.c (.int .i64 1)), none⟩,
    ⟨some 4, .mv (.t 13), none⟩] [] [0, 3, 4]))))))
  (.seq (.reg false [⟨some 22, .mv (.t 3), none⟩,
    ⟨some 2, .mv (.t 22), none⟩] [] [2])
  .ret)))), [(2, none)]⟩
theorem laws_toNodeS_ok : okFn Tryd.prog 17 laws_toNodeS = true := by kernel_rfl
def laws_toStep : IFn := ⟨17, (.seq (.reg false [⟨some 1, .box (.t 0), none⟩,
    ⟨some 2, .new [.int .i64 0, .int .i64 0, .int .i64 0, .int .i64 0], none⟩] [] [1, 2])
  (.seq (.reg false [⟨some 3, .new [.int .i64 0, .int .i64 0, .int .i64 0, .int .i64 0], none⟩] [] [1, 2, 3])
  (.seq (.reg false [⟨some 4, .fad 0 (.t 1), none⟩,
    ⟨some 5, .ld none (.t 4), none⟩,
    ⟨some 6, .fad 0 (.t 3), none⟩,
    ⟨none, .st 1 (.t 6) (.t 5), none⟩] [] [1, 2, 3])
  (.seq (.reg false [⟨some 7, .fad 1 (.t 1), none⟩,
    ⟨some 8, .ld none (.t 7), none⟩,
    ⟨some 9, .fad 1 (.t 3), none⟩,
    ⟨none, .st 1 (.t 9) (.t 8), none⟩] [] [1, 2, 3])
  (.seq (.reg false [⟨some 10, .fad 2 (.t 1), none⟩,
    ⟨some 11, .ld none (.t 10), none⟩,
    ⟨some 12, .fad 2 (.t 3), none⟩,
    ⟨none, .st 1 (.t 12) (.t 11), none⟩] [] [1, 2, 3])
  (.seq (.reg false [⟨some 13, .fad 3 (.t 1), none⟩,
    ⟨some 14, .ld none (.t 13), none⟩,
    ⟨some 15, .fad 3 (.t 3), none⟩,
    ⟨none, .st 1 (.t 15) (.t 14), none⟩] [] [2, 3])
  (.seq (.reg false [⟨some 16, .ld (some 4) (.t 3), none⟩,
    ⟨none, .st 4 (.t 2) (.t 16), none⟩] [] [2])
  .ret))))))), [(2, some (some 4))]⟩
theorem laws_toStep_ok : okFn Tryd.prog 18 laws_toStep = true := by kernel_rfl
def impl_ProofCheck : IFn := ⟨33, (.seq (.reg false [⟨some 4, .box (.t 0), none⟩,
    ⟨some 8, .mv (.c (.bool false)), none⟩] [] [1, 2, 3, 4])
  (.seq (.reg false [⟨some 9, .mv (.t 2), none⟩,
    ⟨some 10, .len false (.t 9), none⟩,
    ⟨some 11, .bin .gtr (.t 10) (.c (.int .i64 0)), none⟩,
    ⟨some 12, .mv (.t 11), none⟩,
    ⟨some 13, .mv (.t 2), some (12, true)⟩,
    ⟨some 14, .mv (.t 2), some (12, true)⟩,
    ⟨some 15, .len false (.t 14), some (12, true)⟩,
    ⟨some 16, .bin .sub (.t 15) (.c (.int .i64 1)), some (12, true)⟩,
    ⟨some 17, .iad 4 (.t 13) (.t 16), some (12, true)⟩,
    ⟨some 18, .fad 1 (.t 17), some (12, true)⟩,
    ⟨some 19, .ld none (.t 18), some (12, true)⟩,
    ⟨some 20, .mv (.t 3), some (12, true)⟩,
    ⟨some 21, .bin .eql (.t 19) (.t 20), some (12, true)⟩,
    ⟨some 22, .pick (.t 12) (.t 21) (.c (.bool false)), none⟩,
    ⟨some 23, .mv (.t 22), none⟩,
    ⟨some 24, .ld (some 1) (.t 4), some (23, true)⟩,
    ⟨some 25, .mv (.t 1), some (23, true)⟩,
    ⟨some 26, .call 33 [.t 24, .t 25], some (23, true)⟩,
    ⟨some 27, .pick (.t 23) (.t 26) (.c (.bool false)), none⟩,
    ⟨some 28, .mv (.t 27), none⟩,
    ⟨some 29, .mv (.t 1), some (28, true)⟩,
    ⟨some 30, .mv (.t 2), some (28, true)⟩,
    ⟨some 31, .call 34 [.t 4, .t 29, .t 30], some (28, true)⟩,
    ⟨some 32, .pick (.t 28) (.t 31) (.c (.bool false)), none⟩,
    ⟨some 8, .mv (.t 32), none⟩] [] [8])
  .ret)), [(8, none)]⟩
theorem impl_ProofCheck_ok : okFn Tryd.prog 19 impl_ProofCheck = true := by kernel_rfl
def impl_Pool_needs : IFn := ⟨24, (.seq (.reg false [⟨some 3, .box (.t 1), none⟩,
    ⟨some 4, .mv (.c (.int .i64 0)), none⟩] [] [0, 3])
  (.seq (.seq (.reg false [⟨some 5, .fad 0 (.t 3), none⟩,
    ⟨some 6, .ld none (.t 5), none⟩] [] [0, 3, 6])
  (.block 0 (.seq (.seq (.reg false [⟨some 8, .bin .eql (.t 6) (.c (.int .i64 1)), none⟩,
    ⟨some 7, .mv (.t 8), none⟩] [] [0, 3, 6, 7])
  (.cond (.t 7)
  .skip
  (.reg false [⟨some 9, .bin .eql (.t 6) (.c (.int .i64 2)), none⟩,
    ⟨some 7, .mv (.t 9), none⟩] [] [0, 3, 6, 7])))
  (.cond (.t 7)
  (.seq (.reg false [⟨some 4, .mv (.c (.int .i64 0)), none⟩] [] [4])
  .ret)
  (.seq (.reg false [⟨some 11, .bin .eql (.t 6) (.c (.int .i64 3)), none⟩,
    ⟨some 10, .mv (.t 11), none⟩] [] [0, 3, 6, 10])
  (.cond (.t 10)
  (.seq (.reg false [⟨some 12, .mv (.t 0), none⟩,
    ⟨some 13, .fad 1 (.t 3), none⟩,
    ⟨some 14, .ld none (.t 13), none⟩,
    ⟨some 15, .call 35 [.t 12, .t 14], none⟩,
    ⟨some 16, .len false (.t 15), none⟩,
    ⟨some 4, .mv (.t 16), none⟩] [] [4])
  .ret)
  (.seq (.seq (.reg false [⟨some 18, .bin .eql (.t 6) (.c (.int .i64 4)), none⟩,
    ⟨some 17, .mv (.t 18), none⟩] [] [6, 17])
  (.cond (.t 17)
  .skip
  (.reg false [⟨some 19, .bin .eql (.t 6) (.c (.int .i64 7)), none⟩,
    ⟨some 17, .mv (.t 19), none⟩] [] [6, 17])))
  (.cond (.t 17)
  (.seq (.reg false [⟨some 4, .mv (.c (.int .i64 2)), none⟩] [] [4])
  .ret)
  (.seq (.seq (.reg false [⟨some 21, .bin .eql (.t 6) (.c (.int .i64 5)), none⟩,
    ⟨some 20, .mv (.t 21), none⟩] [] [6, 20])
  (.cond (.t 20)
  .skip
  (.seq (.reg false [⟨some 22, .bin .eql (.t 6) (.c (.int .i64 6)), none⟩,
    ⟨some 20, .mv (.t 22), none⟩] [] [6, 20])
  (.cond (.t 20)
  .skip
  (.reg false [⟨some 23, .bin .eql (.t 6) (.c (.int .i64 8)), none⟩,
    ⟨some 20, .mv (.t 23), none⟩] [] [20])))))
  (.cond (.t 20)
  (.seq (.reg false [⟨some 4, .mv (.c (.int .i64 1)), none⟩] [] [4])
  .ret)
  .skip))))))))))
  (.seq (.reg false [⟨some 4, .mv (.c (.int .i64 (-1))), none⟩] [] [4])
  .ret))), [(4, none)]⟩
theorem impl_Pool_needs_ok : okFn Tryd.prog 20 impl_Pool_needs = true := by kernel_rfl
def impl_Pool_recipe : IFn := ⟨111, (.seq (.reg false [⟨some 6, .box (.t 2), none⟩,
    ⟨some 8, .mv (.c (.str ⟨#[]⟩)), none⟩] [] [0, 1, 3, 6])
  (.seq (.seq (.reg false [⟨some 10, .fad 0 (.t 6), none⟩,
    ⟨some 11, .ld none (.t 10), none⟩] [] [0, 1, 3, 6, 11])
  (.block 0 (.seq (.reg false [⟨some 13, .bin .eql (.t 11) (.c (.int .i64 1)), none⟩,
    ⟨some 12, .mv (.t 13), none⟩] [] [0, 1, 3, 6, 11, 12])
  (.cond (.t 12)
  (.seq (.reg false [⟨some 14, .mv (.t 1), none⟩,
    ⟨some 15, .fad 1 (.t 6), none⟩,
    ⟨some 16, .ld none (.t 15), none⟩,
    ⟨some 17, .call 37 [.t 14, .t 16], none⟩,
    ⟨some 18, .call 36 [.t 17], none⟩,
    ⟨some 19, .bin .add (.c (.str ⟨#[64]⟩)) (.t 18), none⟩,
    ⟨some 8, .mv (.t 19), none⟩] [] [8])
  .ret)
  (.seq (.reg false [⟨some 21, .bin .eql (.t 11) (.c (.int .i64 2)), none⟩,
    ⟨some 20, .mv (.t 21), none⟩] [] [0, 3, 6, 11, 20])
  (.cond (.t 20)
  (.seq (.reg false [⟨some 22, .mv (.t 0), none⟩,
    ⟨some 23, .fad 1 (.t 6), none⟩,
    ⟨some 24, .ld none (.t 23), none⟩,
    ⟨some 25, .call 38 [.t 22, .t 24], none⟩,
    ⟨some 8, .mv (.t 25), none⟩] [] [8])
  .ret)
  (.seq (.reg false [⟨some 27, .bin .eql (.t 11) (.c (.int .i64 3)), none⟩,
    ⟨some 26, .mv (.t 27), none⟩] [] [0, 3, 6, 11, 26])
  (.cond (.t 26)
  (.seq (.reg false [⟨some 28, .mv (.t 3), none⟩,
    ⟨some 29, .fad 2 (.t 6), none⟩,
    ⟨some 30, .ld none (.t 29), none⟩,
    ⟨some 31, .iad 1 (.t 28) (.t 30), none⟩,
    ⟨some 32, .ld none (.t 31), none⟩,
    ⟨some 33, .bsl 1 1 [.str ⟨#[]⟩] [(0, 1, .t 32)], none⟩,
    ⟨some 9, .mv (.t 33), none⟩] [] [0, 3, 6, 9])
  (.seq (.seq (.reg false [⟨some 34, .mv (.t 0), none⟩,
    ⟨some 35, .ld (some 4) (.t 6), none⟩,
    ⟨some 36, .call 20 [.t 34, .t 35], none⟩,
    ⟨some 37, .bin .eql (.t 36) (.c (.int .i64 2)), none⟩] [] [0, 3, 6, 9, 37])
  (.cond (.t 37)
  (.reg false [⟨some 38, .mv (.t 9), none⟩,
    ⟨some 39, .mv (.t 3), none⟩,
    ⟨some 40, .fad 3 (.t 6), none⟩,
    ⟨some 41, .ld none (.t 40), none⟩,
    ⟨some 42, .iad 1 (.t 39) (.t 41), none⟩,
    ⟨some 43, .ld none (.t 42), none⟩,
    ⟨some 44, .bsl 1 1 [.str ⟨#[]⟩] [(0, 1, .t 43)], none⟩,
    ⟨some 45, .app 1 16 (.t 38) (.t 44), none⟩,
    ⟨some 9, .mv (.t 45), none⟩] [] [0, 6, 9])
  .skip))
  (.seq (.reg true [⟨some 46, .mv (.t 0), none⟩,
    ⟨some 47, .nck (.t 46), none⟩,
    ⟨some 48, .fad 0 (.t 47), none⟩,
    ⟨some 49, .ld none (.t 48), none⟩,
    ⟨some 50, .fad 1 (.t 6), none⟩,
    ⟨some 51, .ld none (.t 50), none⟩,
    ⟨some 52, .iad 3 (.t 49) (.t 51), none⟩,
    ⟨some 53, .fad 0 (.t 52), none⟩,
    ⟨some 54, .ld none (.t 53), none⟩,
    ⟨some 55, .mv (.t 9), none⟩,
    ⟨some 56, .call 39 [.t 54, .t 55], none⟩,
    ⟨some 8, .mv (.t 56), none⟩] [0, 1, 3, 7, 0, 16, 63, 127, 255, 0, 1023, 2047] [8])
  .ret)))
  (.seq (.reg false [⟨some 58, .bin .eql (.t 11) (.c (.int .i64 4)), none⟩,
    ⟨some 57, .mv (.t 58), none⟩] [] [3, 6, 11, 57])
  (.cond (.t 57)
  (.seq (.reg true [⟨some 59, .mv (.t 3), none⟩,
    ⟨some 60, .fad 2 (.t 6), none⟩,
    ⟨some 61, .ld none (.t 60), none⟩,
    ⟨some 62, .iad 1 (.t 59) (.t 61), none⟩,
    ⟨some 63, .ld none (.t 62), none⟩,
    ⟨some 64, .bin .add (.c (.str ⟨#[120, 40]⟩)) (.t 63), none⟩,
    ⟨some 65, .bin .add (.t 64) (.c (.str ⟨#[44]⟩)), none⟩,
    ⟨some 66, .mv (.t 3), none⟩,
    ⟨some 67, .fad 3 (.t 6), none⟩,
    ⟨some 68, .ld none (.t 67), none⟩,
    ⟨some 69, .iad 1 (.t 66) (.t 68), none⟩,
    ⟨some 70, .ld none (.t 69), none⟩,
    ⟨some 71, .bin .add (.t 65) (.t 70), none⟩,
    ⟨some 72, .bin .add (.t 71) (.c (.str ⟨#[41]⟩)), none⟩,
    ⟨some 8, .mv (.t 72), none⟩] [0, 0, 2, 7, 15, 31, 63, 0, 0, 256, 896, 1920, 4095, 8191, 16383] [8])
  .ret)
  (.seq (.reg false [⟨some 74, .bin .eql (.t 11) (.c (.int .i64 5)), none⟩,
    ⟨some 73, .mv (.t 74), none⟩] [] [3, 6, 11, 73])
  (.cond (.t 73)
  (.seq (.reg false [⟨some 75, .mv (.t 3), none⟩,
    ⟨some 76, .fad 2 (.t 6), none⟩,
    ⟨some 77, .ld none (.t 76), none⟩,
    ⟨some 78, .iad 1 (.t 75) (.t 77), none⟩,
    ⟨some 79, .ld none (.t 78), none⟩,
    ⟨some 80, .bin .add (.c (.str ⟨#[60]⟩)) (.t 79), none⟩,
    ⟨some 8, .mv (.t 80), none⟩] [] [8])
  .ret)
  (.seq (.reg false [⟨some 82, .bin .eql (.t 11) (.c (.int .i64 6)), none⟩,
    ⟨some 81, .mv (.t 82), none⟩] [] [3, 6, 11, 81])
  (.cond (.t 81)
  (.seq (.reg false [⟨some 83, .mv (.t 3), none⟩,
    ⟨some 84, .fad 2 (.t 6), none⟩,
    ⟨some 85, .ld none (.t 84), none⟩,
    ⟨some 86, .iad 1 (.t 83) (.t 85), none⟩,
    ⟨some 87, .ld none (.t 86), none⟩,
    ⟨some 88, .bin .add (.c (.str ⟨#[62]⟩)) (.t 87), none⟩,
    ⟨some 8, .mv (.t 88), none⟩] [] [8])
  .ret)
  (.seq (.reg false [⟨some 90, .bin .eql (.t 11) (.c (.int .i64 7)), none⟩,
    ⟨some 89, .mv (.t 90), none⟩] [] [3, 6, 89])
  (.cond (.t 89)
  (.seq (.reg true [⟨some 91, .mv (.t 3), none⟩,
    ⟨some 92, .fad 2 (.t 6), none⟩,
    ⟨some 93, .ld none (.t 92), none⟩,
    ⟨some 94, .iad 1 (.t 91) (.t 93), none⟩,
    ⟨some 95, .ld none (.t 94), none⟩,
    ⟨some 96, .bin .add (.c (.str ⟨#[111, 40]⟩)) (.t 95), none⟩,
    ⟨some 97, .bin .add (.t 96) (.c (.str ⟨#[44]⟩)), none⟩,
    ⟨some 98, .mv (.t 3), none⟩,
    ⟨some 99, .fad 3 (.t 6), none⟩,
    ⟨some 100, .ld none (.t 99), none⟩,
    ⟨some 101, .iad 1 (.t 98) (.t 100), none⟩,
    ⟨some 102, .ld none (.t 101), none⟩,
    ⟨some 103, .bin .add (.t 97) (.t 102), none⟩,
    ⟨some 104, .bin .add (.t 103) (.c (.str ⟨#[41]⟩)), none⟩,
    ⟨some 8, .mv (.t 104), none⟩] [0, 0, 2, 7, 15, 31, 63, 0, 0, 256, 896, 1920, 4095, 8191, 16383] [8])
  .ret)
  .skip))))))))))))))))
  (.seq (.reg false [⟨some 105, .mv (.t 3), none⟩,
    ⟨some 106, .fad 2 (.t 6), none⟩,
    ⟨some 107, .ld none (.t 106), none⟩,
    ⟨some 108, .iad 1 (.t 105) (.t 107), none⟩,
    ⟨some 109, .ld none (.t 108), none⟩,
    ⟨some 110, .bin .add (.c (.str ⟨#[33]⟩)) (.t 109), none⟩,
    ⟨some 8, .mv (.t 110), none⟩] [] [8])
  .ret))), [(8, none)]⟩
theorem impl_Pool_recipe_ok : okFn Tryd.prog 21 impl_Pool_recipe = true := by kernel_rfl
def laws_eqNodeS : IFn := ⟨27, (.seq (.reg false [⟨some 4, .mv (.c (.bool false)), none⟩] [] [0, 1])
  (.seq (.seq (.reg false [⟨some 6, .mv (.t 0), none⟩,
    ⟨some 7, .len false (.t 6), none⟩,
    ⟨some 8, .mv (.t 1), none⟩,
    ⟨some 9, .len false (.t 8), none⟩,
    ⟨some 10, .bin .neq (.t 7) (.t 9), none⟩] [] [0, 1, 10])
  (.cond (.t 10)
  (.seq (.reg false [⟨some 4, .mv (.c (.bool false)), none⟩] [] [4])
  .ret)
  .skip))
  (.seq (.seq (.reg false [⟨some 5, .mv (.c (.int .i64 0)), none⟩] [] [0, 1, 5])
  (.block 0 (.loop (.seq (.seq (.reg false [⟨some 11, .mv (.t 5), none⟩,
    ⟨some 12, .mv (.t 0), none⟩,
    ⟨some 13, .len false (.t 12), none⟩,
    ⟨some 14, .bin .lss (.t 11) (.t 13), none⟩] [] [0, 1, 5, 14])
  (.cond (.t 14)
  .skip
  (.exit 0)))
  (.seq (.block 1 (.seq (.reg true [⟨some 17, .mv (.t 0), none⟩,
    ⟨some 18, .mv (.t 5), none⟩,
    ⟨some 19, .iad 3 (.t 17) (.t 18), none⟩,
    ⟨some 20, .ld (some 3) (.t 19), none⟩,
    ⟨some 21, .mv (.t 1), none⟩,
    ⟨some 22, .mv (.t 5), none⟩,
    ⟨some 23, .iad 3 (.t 21) (.t 22), none⟩,
    ⟨some 24, .ld (some 3) (.t 23), none⟩,
    ⟨some 25, .call 40 [.t 20, .t 24], none⟩,
    ⟨some 26, .not (.t 25), none⟩] [0, 0, 3, 7, 0, 0, 48, 112, 255, 511] [0, 1, 5, 26])
  (.cond (.t 26)
  (.seq (.reg false [⟨some 4, .mv (.c (.bool false)), none⟩] [] [4])
  .ret)
  .skip)))
  (.reg false [⟨some 15, .mv (.t 5), none⟩,
    ⟨some 16, .bin .add (.t 15) (.c (.int .i64 1)), none⟩,
    ⟨some 5, .mv (.t 16), none⟩] [] [0, 1, 5]))))))
  (.seq (.reg false [⟨some 4, .mv (.c (.bool true)), none⟩] [] [4])
  .ret)))), [(4, none)]⟩
theorem laws_eqNodeS_ok : okFn Tryd.prog 22 laws_eqNodeS = true := by kernel_rfl
def laws_eqStep : IFn := ⟨25, (.seq (.reg false [⟨some 2, .box (.t 0), none⟩,
    ⟨some 3, .box (.t 1), none⟩,
    ⟨some 4, .mv (.c (.bool false)), none⟩] [] [2, 3])
  (.seq (.seq (.reg false [⟨some 5, .fad 0 (.t 2), none⟩,
    ⟨some 6, .ld none (.t 5), none⟩,
    ⟨some 7, .fad 0 (.t 3), none⟩,
    ⟨some 8, .ld none (.t 7), none⟩,
    ⟨some 9, .bin .neq (.t 6) (.t 8), none⟩] [] [2, 3, 9])
  (.cond (.t 9)
  (.seq (.reg false [⟨some 4, .mv (.c (.bool false)), none⟩] [] [4])
  .ret)
  .skip))
  (.seq (.seq (.reg false [⟨some 10, .fad 1 (.t 2), none⟩,
    ⟨some 11, .ld none (.t 10), none⟩,
    ⟨some 12, .fad 1 (.t 3), none⟩,
    ⟨some 13, .ld none (.t 12), none⟩,
    ⟨some 14, .bin .neq (.t 11) (.t 13), none⟩] [] [2, 3, 14])
  (.cond (.t 14)
  (.seq (.reg false [⟨some 4, .mv (.c (.bool false)), none⟩] [] [4])
  .ret)
  .skip))
  (.seq (.seq (.reg false [⟨some 15, .fad 2 (.t 2), none⟩,
    ⟨some 16, .ld none (.t 15), none⟩,
    ⟨some 17, .fad 2 (.t 3), none⟩,
    ⟨some 18, .ld none (.t 17), none⟩,
    ⟨some 19, .bin .neq (.t 16) (.t 18), none⟩] [] [2, 3, 19])
  (.cond (.t 19)
  (.seq (.reg false [⟨some 4, .mv (.c (.bool false)), none⟩] [] [4])
  .ret)
  .skip))
  (.seq (.seq (.reg false [⟨some 20, .fad 3 (.t 2), none⟩,
    ⟨some 21, .ld none (.t 20), none⟩,
    ⟨some 22, .fad 3 (.t 3), none⟩,
    ⟨some 23, .ld none (.t 22), none⟩,
    ⟨some 24, .bin .neq (.t 21) (.t 23), none⟩] [] [24])
  (.cond (.t 24)
  (.seq (.reg false [⟨some 4, .mv (.c (.bool false)), none⟩] [] [4])
  .ret)
  .skip))
  (.seq (.reg false [⟨some 4, .mv (.c (.bool true)), none⟩] [] [4])
  .ret)))))), [(4, none)]⟩
theorem laws_eqStep_ok : okFn Tryd.prog 23 laws_eqStep = true := by kernel_rfl
def spec_KnowOk : IFn := ⟨12, (.seq (.reg false [⟨some 2, .box (.t 0), none⟩,
    ⟨some 4, .mv (.c (.bool false)), none⟩] [] [1, 2])
  (.seq (.reg false [⟨some 5, .ld (some 1) (.t 2), none⟩,
    ⟨some 6, .call 41 [.t 5], none⟩,
    ⟨some 7, .mv (.t 6), none⟩,
    ⟨some 8, .ld (some 1) (.t 2), some (7, true)⟩,
    ⟨some 9, .mv (.t 1), some (7, true)⟩,
    ⟨some 10, .call 42 [.t 8, .t 9], some (7, true)⟩,
    ⟨some 11, .pick (.t 7) (.t 10) (.c (.bool false)), none⟩,
    ⟨some 4, .mv (.t 11), none⟩] [] [4])
  .ret)), [(4, none)]⟩
theorem spec_KnowOk_ok : okFn Tryd.prog 24 spec_KnowOk = true := by kernel_rfl
def spec_l1Has : IFn := ⟨11, (.seq (.reg false [⟨some 2, .box (.t 0), none⟩,
    ⟨some 4, .mv (.c (.bool false)), none⟩] [] [1, 2])
  (.seq (.reg false [⟨some 5, .mv (.t 1), none⟩,
    ⟨some 6, .fad 0 (.t 2), none⟩,
    ⟨some 7, .ld none (.t 6), none⟩,
    ⟨some 8, .len false (.t 7), none⟩,
    ⟨some 9, .bin .sub (.t 8) (.c (.int .i64 1)), none⟩,
    ⟨some 10, .call 43 [.t 5, .c (.int .i64 0), .t 9], none⟩,
    ⟨some 4, .mv (.t 10), none⟩] [] [4])
  .ret)), [(4, none)]⟩
theorem spec_l1Has_ok : okFn Tryd.prog 25 spec_l1Has = true := by kernel_rfl
def spec_l9Holds : IFn := ⟨227, (.seq (.reg false [⟨some 5, .box (.t 0), none⟩,
    ⟨some 7, .box (.t 2), none⟩,
    ⟨some 10, .mv (.c (.bool false)), none⟩] [] [1, 3, 4, 5, 7])
  (.seq (.reg false [⟨some 14, .fad 0 (.t 5), none⟩,
    ⟨some 15, .ld none (.t 14), none⟩,
    ⟨some 16, .fad 1 (.t 7), none⟩,
    ⟨some 17, .ld none (.t 16), none⟩,
    ⟨some 18, .iad 3 (.t 15) (.t 17), none⟩,
    ⟨some 19, .ld (some 3) (.t 18), none⟩,
    ⟨some 11, .new [.int .i64 0, .int .i64 0, .int .i64 0], none⟩,
    ⟨none, .st 3 (.t 11) (.t 19), none⟩] [] [1, 3, 4, 5, 7, 11])
  (.seq (.reg false [⟨some 20, .ld (some 1) (.t 5), none⟩,
    ⟨some 21, .ld (some 4) (.t 7), none⟩,
    ⟨some 22, .call 44 [.t 20, .t 21], none⟩,
    ⟨some 12, .mv (.t 22), none⟩] [] [1, 3, 4, 5, 7, 11, 12])
  (.seq (.seq (.reg false [⟨some 23, .mv (.t 12), none⟩,
    ⟨some 24, .bin .lss (.t 23) (.c (.int .i64 0)), none⟩,
    ⟨some 25, .mv (.t 24), none⟩,
    ⟨some 26, .mv (.t 12), some (25, false)⟩,
    ⟨some 27, .bin .gtr (.t 26) (.c (.int .i64 0)), some (25, false)⟩,
    ⟨some 28, .mv (.t 27), some (25, false)⟩,
    ⟨some 29, .mv (.t 3), some (28, true)⟩,
    ⟨some 30, .bin .lss (.t 29) (.c (.int .i64 0)), some (28, true)⟩,
    ⟨some 31, .pick (.t 28) (.t 30) (.c (.bool false)), some (25, false)⟩,
    ⟨some 32, .pick (.t 25) (.c (.bool true)) (.t 31), none⟩,
    ⟨some 33, .mv (.t 32), none⟩,
    ⟨some 34, .mv (.t 12), some (33, false)⟩,
    ⟨some 35, .bin .gtr (.t 34) (.c (.int .i64 1)), some (33, false)⟩,
    ⟨some 36, .mv (.t 35), some (33, false)⟩,
    ⟨some 37, .mv (.t 4), some (36, true)⟩,
    ⟨some 38, .bin .lss (.t 37) (.c (.int .i64 0)), some (36, true)⟩,
    ⟨some 39, .pick (.t 36) (.t 38) (.c (.bool false)), some (33, false)⟩,
    ⟨some 40, .pick (.t 33) (.c (.bool true)) (.t 39), none⟩,
    ⟨some 41, .mv (.t 40), none⟩,
    ⟨some 42, .mv (.t 12), some (41, false)⟩,
    ⟨some 43, .bin .lss (.t 42) (.c (.int .i64 1)), some (41, false)⟩,
    ⟨some 44, .mv (.t 43), some (41, false)⟩,
    ⟨some 45, .fad 2 (.t 7), some (44, true)⟩,
    ⟨some 46, .ld none (.t 45), some (44, true)⟩,
    ⟨some 47, .bin .neq (.t 46) (.c (.int .i64 0)), some (44, true)⟩,
    ⟨some 48, .pick (.t 44) (.t 47) (.c (.bool false)), some (41, false)⟩,
    ⟨some 49, .pick (.t 41) (.c (.bool true)) (.t 48), none⟩,
    ⟨some 50, .mv (.t 49), none⟩,
    ⟨some 51, .mv (.t 12), some (50, false)⟩,
    ⟨some 52, .bin .lss (.t 51) (.c (.int .i64 2)), some (50, false)⟩,
    ⟨some 53, .mv (.t 52), some (50, false)⟩,
    ⟨some 54, .fad 3 (.t 7), some (53, true)⟩,
    ⟨some 55, .ld none (.t 54), some (53, true)⟩,
    ⟨some 56, .bin .neq (.t 55) (.c (.int .i64 0)), some (53, true)⟩,
    ⟨some 57, .pick (.t 53) (.t 56) (.c (.bool false)), some (50, false)⟩,
    ⟨some 58, .pick (.t 50) (.c (.bool true)) (.t 57), none⟩] [] [1, 3, 4, 5, 7, 11, 12, 58])
  (.cond (.t 58)
  (.seq (.reg false [⟨some 10, .mv (.c (.bool false)), none⟩] [] [10])
  .ret)
  .skip))
  (.seq (.seq (.reg false [⟨some 59, .fad 0 (.t 7), none⟩,
    ⟨some 60, .ld none (.t 59), none⟩] [] [1, 3, 4, 5, 7, 11, 12, 60])
  (.block 0 (.seq (.reg false [⟨some 62, .bin .eql (.t 60) (.c (.int .i64 1)), none⟩,
    ⟨some 61, .mv (.t 62), none⟩] [] [1, 3, 4, 5, 7, 11, 12, 60, 61])
  (.cond (.t 61)
  (.seq (.reg false [⟨some 63, .mv (.t 1), none⟩,
    ⟨some 64, .fad 1 (.t 7), none⟩,
    ⟨some 65, .ld none (.t 64), none⟩,
    ⟨some 66, .call 45 [.t 63, .t 65], none⟩,
    ⟨some 10, .mv (.t 66), none⟩] [] [10])
  .ret)
  (.seq (.reg false [⟨some 68, .bin .eql (.t 60) (.c (.int .i64 2)), none⟩,
    ⟨some 67, .mv (.t 68), none⟩] [] [3, 4, 5, 7, 11, 12, 60, 67])
  (.cond (.t 67)
  (.seq (.reg false [⟨some 69, .fad 0 (.t 11), none⟩,
    ⟨some 70, .ld none (.t 69), none⟩,
    ⟨some 71, .bin .eql (.t 70) (.c (.int .i64 1)), none⟩,
    ⟨some 72, .mv (.t 71), none⟩,
    ⟨some 73, .fad 1 (.t 11), some (72, true)⟩,
    ⟨some 74, .ld none (.t 73), some (72, true)⟩,
    ⟨some 75, .call 46 [.t 74], some (72, true)⟩,
    ⟨some 76, .pick (.t 72) (.t 75) (.c (.bool false)), none⟩,
    ⟨some 10, .mv (.t 76), none⟩] [] [10])
  .ret)
  (.seq (.reg false [⟨some 78, .bin .eql (.t 60) (.c (.int .i64 3)), none⟩,
    ⟨some 77, .mv (.t 78), none⟩] [] [3, 4, 5, 7, 11, 12, 60, 77])
  (.cond (.t 77)
  (.seq (.reg false [⟨some 79, .fad 0 (.t 11), none⟩,
    ⟨some 80, .ld none (.t 79), none⟩,
    ⟨some 81, .bin .neq (.t 80) (.c (.int .i64 1)), none⟩,
    ⟨some 82, .mv (.t 81), none⟩,
    ⟨some 83, .mv (.t 3), some (82, true)⟩,
    ⟨some 84, .fad 1 (.t 11), some (82, true)⟩,
    ⟨some 85, .ld none (.t 84), some (82, true)⟩,
    ⟨some 86, .bin .eql (.t 83) (.t 85), some (82, true)⟩,
    ⟨some 87, .pick (.t 82) (.t 86) (.c (.bool false)), none⟩,
    ⟨some 88, .mv (.t 87), none⟩,
    ⟨some 89, .mv (.t 12), some (88, true)⟩,
    ⟨some 90, .bin .lss (.t 89) (.c (.int .i64 2)), some (88, true)⟩,
    ⟨some 91, .mv (.t 90), some (88, true)⟩,
    ⟨some 92, .mv (.t 4), some (91, false)⟩,
    ⟨some 93, .fad 2 (.t 11), some (91, false)⟩,
    ⟨some 94, .ld none (.t 93), some (91, false)⟩,
    ⟨some 95, .bin .eql (.t 92) (.t 94), some (91, false)⟩,
    ⟨some 96, .pick (.t 91) (.c (.bool true)) (.t 95), some (88, true)⟩,
    ⟨some 97, .pick (.t 88) (.t 96) (.c (.bool false)), none⟩,
    ⟨some 10, .mv (.t 97), none⟩] [] [10])
  .ret)
  (.seq (.reg false [⟨some 99, .bin .eql (.t 60) (.c (.int .i64 4)), none⟩,
    ⟨some 98, .mv (.t 99), none⟩] [] [3, 4, 5, 7, 11, 60, 98])
  (.cond (.t 98)
  (.seq (.reg false [⟨some 100, .fad 0 (.t 5), none⟩,
    ⟨some 101, .ld none (.t 100), none⟩,
    ⟨some 102, .mv (.t 4), none⟩,
    ⟨some 103, .iad 3 (.t 101) (.t 102), none⟩,
    ⟨some 104, .ld (some 3) (.t 103), none⟩,
    ⟨some 13, .new [.int .i64 0, .int .i64 0, .int .i64 0], none⟩,
    ⟨none, .st 3 (.t 13) (.t 104), none⟩] [] [3, 11, 13])
  (.seq (.reg false [⟨some 105, .fad 0 (.t 11), none⟩,
    ⟨some 106, .ld none (.t 105), none⟩,
    ⟨some 107, .bin .eql (.t 106) (.c (.int .i64 8)), none⟩,
    ⟨some 108, .mv (.t 107), none⟩,
    ⟨some 109, .fad 0 (.t 13), some (108, true)⟩,
    ⟨some 110, .ld none (.t 109), some (108, true)⟩,
    ⟨some 111, .bin .eql (.t 110) (.c (.int .i64 7)), some (108, true)⟩,
    ⟨some 112, .pick (.t 108) (.t 111) (.c (.bool false)), none⟩,
    ⟨some 113, .mv (.t 112), none⟩,
    ⟨some 114, .mv (.t 3), some (113, true)⟩,
    ⟨some 115, .fad 1 (.t 11), some (113, true)⟩,
    ⟨some 116, .ld none (.t 115), some (113, true)⟩,
    ⟨some 117, .bin .eql (.t 114) (.t 116), some (113, true)⟩,
    ⟨some 118, .mv (.t 117), some (113, true)⟩,
    ⟨some 119, .fad 1 (.t 13), some (118, true)⟩,
    ⟨some 120, .ld none (.t 119), some (118, true)⟩,
    ⟨some 121, .fad 2 (.t 11), some (118, true)⟩,
    ⟨some 122, .ld none (.t 121), some (118, true)⟩,
    ⟨some 123, .bin .eql (.t 120) (.t 122), some (118, true)⟩,
    ⟨some 124, .pick (.t 118) (.t 123) (.c (.bool false)), some (113, true)⟩,
    ⟨some 125, .mv (.t 124), some (113, true)⟩,
    ⟨some 126, .mv (.t 3), some (125, false)⟩,
    ⟨some 127, .fad 2 (.t 11), some (125, false)⟩,
    ⟨some 128, .ld none (.t 127), some (125, false)⟩,
    ⟨some 129, .bin .eql (.t 126) (.t 128), some (125, false)⟩,
    ⟨some 130, .mv (.t 129), some (125, false)⟩,
    ⟨some 131, .fad 1 (.t 13), some (130, true)⟩,
    ⟨some 132, .ld none (.t 131), some (130, true)⟩,
    ⟨some 133, .fad 1 (.t 11), some (130, true)⟩,
    ⟨some 134, .ld none (.t 133), some (130, true)⟩,
    ⟨some 135, .bin .eql (.t 132) (.t 134), some (130, true)⟩,
    ⟨some 136, .pick (.t 130) (.t 135) (.c (.bool false)), some (125, false)⟩,
    ⟨some 137, .pick (.t 125) (.c (.bool true)) (.t 136), some (113, true)⟩,
    ⟨some 138, .pick (.t 113) (.t 137) (.c (.bool false)), none⟩,
    ⟨some 10, .mv (.t 138), none⟩] [] [10])
  .ret))
  (.seq (.reg false [⟨some 140, .bin .eql (.t 60) (.c (.int .i64 5)), none⟩,
    ⟨some 139, .mv (.t 140), none⟩] [] [3, 4, 5, 7, 60, 139])
  (.cond (.t 139)
  (.seq (.reg true [⟨some 141, .fad 0 (.t 5), none⟩,
    ⟨some 142, .ld none (.t 141), none⟩,
    ⟨some 143, .mv (.t 3), none⟩,
    ⟨some 144, .iad 3 (.t 142) (.t 143), none⟩,
    ⟨some 145, .fad 0 (.t 144), none⟩,
    ⟨some 146, .ld none (.t 145), none⟩,
    ⟨some 147, .bin .eql (.t 146) (.c (.int .i64 2)), none⟩,
    ⟨some 148, .mv (.t 147), none⟩,
    ⟨some 149, .fad 0 (.t 5), some (148, true)⟩,
    ⟨some 150, .ld none (.t 149), some (148, true)⟩,
    ⟨some 151, .mv (.t 3), some (148, true)⟩,
    ⟨some 152, .iad 3 (.t 150) (.t 151), some (148, true)⟩,
    ⟨some 153, .fad 1 (.t 152), some (148, true)⟩,
    ⟨some 154, .ld none (.t 153), some (148, true)⟩,
    ⟨some 155, .fad 1 (.t 7), some (148, true)⟩,
    ⟨some 156, .ld none (.t 155), some (148, true)⟩,
    ⟨some 157, .bin .eql (.t 154) (.t 156), some (148, true)⟩,
    ⟨some 158, .pick (.t 148) (.t 157) (.c (.bool false)), none⟩,
    ⟨some 10, .mv (.t 158), none⟩] [0, 1, 0, 7, 15, 31, 63, 127, 255, 511, 255, 2047, 4095, 8191, 255, 16639, 65535, 131071, 262143] [10])
  .ret)
  (.seq (.reg false [⟨some 160, .bin .eql (.t 60) (.c (.int .i64 6)), none⟩,
    ⟨some 159, .mv (.t 160), none⟩] [] [3, 4, 5, 7, 60, 159])
  (.cond (.t 159)
  (.seq (.reg true [⟨some 161, .fad 0 (.t 5), none⟩,
    ⟨some 162, .ld none (.t 161), none⟩,
    ⟨some 163, .mv (.t 3), none⟩,
    ⟨some 164, .iad 3 (.t 162) (.t 163), none⟩,
    ⟨some 165, .fad 0 (.t 164), none⟩,
    ⟨some 166, .ld none (.t 165), none⟩,
    ⟨some 167, .bin .eql (.t 166) (.c (.int .i64 2)), none⟩,
    ⟨some 168, .mv (.t 167), none⟩,
    ⟨some 169, .fad 0 (.t 5), some (168, true)⟩,
    ⟨some 170, .ld none (.t 169), some (168, true)⟩,
    ⟨some 171, .mv (.t 3), some (168, true)⟩,
    ⟨some 172, .iad 3 (.t 170) (.t 171), some (168, true)⟩,
    ⟨some 173, .fad 2 (.t 172), some (168, true)⟩,
    ⟨some 174, .ld none (.t 173), some (168, true)⟩,
    ⟨some 175, .fad 1 (.t 7), some (168, true)⟩,
    ⟨some 176, .ld none (.t 175), some (168, true)⟩,
    ⟨some 177, .bin .eql (.t 174) (.t 176), some (168, true)⟩,
    ⟨some 178, .pick (.t 168) (.t 177) (.c (.bool false)), none⟩,
    ⟨some 10, .mv (.t 178), none⟩] [0, 1, 0, 7, 15, 31, 63, 127, 255, 511, 255, 2047, 4095, 8191, 255, 16639, 65535, 131071, 262143] [10])
  .ret)
  (.seq (.reg false [⟨some 180, .bin .eql (.t 60) (.c (.int .i64 7)), none⟩,
    ⟨some 179, .mv (.t 180), none⟩] [] [3, 4, 5, 7, 179])
  (.cond (.t 179)
  (.seq (.reg true [⟨some 181, .fad 0 (.t 5), none⟩,
    ⟨some 182, .ld none (.t 181), none⟩,
    ⟨some 183, .mv (.t 3), none⟩,
    ⟨some 184, .iad 3 (.t 182) (.t 183), none⟩,
    ⟨some 185, .fad 0 (.t 184), none⟩,
    ⟨some 186, .ld none (.t 185), none⟩,
    ⟨some 187, .bin .eql (.t 186) (.c (.int .i64 3)), none⟩,
    ⟨some 188, .mv (.t 187), none⟩,
    ⟨some 189, .fad 0 (.t 5), some (188, true)⟩,
    ⟨some 190, .ld none (.t 189), some (188, true)⟩,
    ⟨some 191, .mv (.t 3), some (188, true)⟩,
    ⟨some 192, .iad 3 (.t 190) (.t 191), some (188, true)⟩,
    ⟨some 193, .fad 1 (.t 192), some (188, true)⟩,
    ⟨some 194, .ld none (.t 193), some (188, true)⟩,
    ⟨some 195, .fad 1 (.t 7), some (188, true)⟩,
    ⟨some 196, .ld none (.t 195), some (188, true)⟩,
    ⟨some 197, .bin .eql (.t 194) (.t 196), some (188, true)⟩,
    ⟨some 198, .pick (.t 188) (.t 197) (.c (.bool false)), none⟩,
    ⟨some 199, .mv (.t 198), none⟩,
    ⟨some 200, .fad 0 (.t 5), some (199, true)⟩,
    ⟨some 201, .ld none (.t 200), some (199, true)⟩,
    ⟨some 202, .mv (.t 3), some (199, true)⟩,
    ⟨some 203, .iad 3 (.t 201) (.t 202), some (199, true)⟩,
    ⟨some 204, .fad 2 (.t 203), some (199, true)⟩,
    ⟨some 205, .ld none (.t 204), some (199, true)⟩,
    ⟨some 206, .mv (.t 4), some (199, true)⟩,
    ⟨some 207, .bin .eql (.t 205) (.t 206), some (199, true)⟩,
    ⟨some 208, .pick (.t 199) (.t 207) (.c (.bool false)), none⟩,
    ⟨some 10, .mv (.t 208), none⟩] [0, 1, 0, 7, 15, 31, 63, 127, 255, 511, 255, 2047, 4095, 8191, 255, 16639, 65535, 131071, 262143, 524287, 1048575, 524287, 4194303, 8388607, 16777215, 524287, 67108863, 134217727, 268435455] [10])
  .ret)
  .skip))))))))))))))))
  (.seq (.reg true [⟨some 209, .fad 0 (.t 5), none⟩,
    ⟨some 210, .ld none (.t 209), none⟩,
    ⟨some 211, .mv (.t 3), none⟩,
    ⟨some 212, .iad 3 (.t 210) (.t 211), none⟩,
    ⟨some 213, .fad 0 (.t 212), none⟩,
    ⟨some 214, .ld none (.t 213), none⟩,
    ⟨some 215, .bin .eql (.t 214) (.c (.int .i64 4)), none⟩,
    ⟨some 216, .mv (.t 215), none⟩,
    ⟨some 217, .fad 0 (.t 5), some (216, true)⟩,
    ⟨some 218, .ld none (.t 217), some (216, true)⟩,
    ⟨some 219, .mv (.t 3), some (216, true)⟩,
    ⟨some 220, .iad 3 (.t 218) (.t 219), some (216, true)⟩,
    ⟨some 221, .fad 1 (.t 220), some (216, true)⟩,
    ⟨some 222, .ld none (.t 221), some (216, true)⟩,
    ⟨some 223, .fad 1 (.t 7), some (216, true)⟩,
    ⟨some 224, .ld none (.t 223), some (216, true)⟩,
    ⟨some 225, .bin .eql (.t 222) (.t 224), some (216, true)⟩,
    ⟨some 226, .pick (.t 216) (.t 225) (.c (.bool false)), none⟩,
    ⟨some 10, .mv (.t 226), none⟩] [0, 1, 0, 7, 15, 31, 63, 127, 255, 511, 255, 2047, 4095, 8191, 255, 16639, 65535, 131071, 262143] [10])
  .ret)))))), [(10, none)]⟩
theorem spec_l9Holds_ok : okFn Tryd.prog 26 spec_l9Holds = true := by kernel_rfl
def spec_l9Term : IFn := ⟨17, (.seq (.reg false [⟨some 6, .mv (.c (.int .i64 0)), none⟩] [] [0, 1, 2])
  (.seq (.seq (.reg false [⟨some 7, .mv (.t 2), none⟩,
    ⟨some 8, .mv (.t 1), none⟩,
    ⟨some 9, .bin .sub (.t 8) (.c (.int .i64 1)), none⟩,
    ⟨some 10, .call 43 [.t 7, .c (.int .i64 0), .t 9], none⟩,
    ⟨some 11, .not (.t 10), none⟩] [] [0, 2, 11])
  (.cond (.t 11)
  (.seq (.reg false [⟨some 6, .mv (.c (.int .i64 (-1))), none⟩] [] [6])
  .ret)
  .skip))
  (.seq (.reg false [⟨some 12, .mv (.t 0), none⟩,
    ⟨some 13, .mv (.t 2), none⟩,
    ⟨some 14, .iad 4 (.t 12) (.t 13), none⟩,
    ⟨some 15, .fad 1 (.t 14), none⟩,
    ⟨some 16, .ld none (.t 15), none⟩,
    ⟨some 6, .mv (.t 16), none⟩] [] [6])
  .ret))), [(6, none)]⟩
theorem spec_l9Term_ok : okFn Tryd.prog 27 spec_l9Term = true := by kernel_rfl
def spec_l4Num : IFn := ⟨19, (.seq (.reg false [⟨some 2, .mv (.c (.str ⟨#[]⟩)), none⟩] [] [0])
  (.seq (.seq (.reg false [⟨some 4, .mv (.t 0), none⟩,
    ⟨some 5, .bin .leq (.t 4) (.c (.int .i64 0)), none⟩] [] [0, 5])
  (.cond (.t 5)
  (.seq (.reg false [⟨some 2, .mv (.c (.str ⟨#[48]⟩)), none⟩] [] [2])
  .ret)
  .skip))
  (.seq (.reg false [⟨some 3, .mv (.c (.str ⟨#[]⟩)), none⟩] [] [0, 3])
  (.seq (.block 0 (.loop (.seq (.seq (.reg false [⟨some 6, .mv (.t 0), none⟩,
    ⟨some 7, .bin .gtr (.t 6) (.c (.int .i64 0)), none⟩] [] [0, 3, 7])
  (.cond (.t 7)
  .skip
  (.exit 0)))
  (.block 1 (.seq (.reg false [⟨some 8, .mv (.t 0), none⟩,
    ⟨some 9, .bin .rem (.t 8) (.c (.int .i64 10)), none⟩,
    ⟨some 10, .bin .add (.c (.int .i64 48)) (.t 9), none⟩,
    ⟨some 11, .conv .u8 (.t 10), none⟩,
    ⟨some 12, .bsl 1 1 [.int .u8 0] [(0, 1, .t 11)], none⟩,
    ⟨some 13, .b2s (.t 12), none⟩,
    ⟨some 14, .mv (.t 3), none⟩,
    ⟨some 15, .bin .add (.t 13) (.t 14), none⟩,
    ⟨some 3, .mv (.t 15), none⟩] [] [0, 3])
  (.reg false [⟨some 16, .mv (.t 0), none⟩,
    ⟨some 17, .bin .quo (.t 16) (.c (.int .i64 10)), none⟩,
    ⟨some 0, .mv (.t 17), none⟩] [] [0, 3]))))))
  (.seq (.reg false [⟨some 18, .mv (.t 3), none⟩,
    ⟨some 2, .mv (.t 18), none⟩] [] [2])
  .ret))))), [(2, none)]⟩
theorem spec_l4Num_ok : okFn Tryd.prog 28 spec_l4Num = true := by kernel_rfl
def spec_l4Print : IFn := ⟨69, (.seq (.reg false [⟨some 2, .box (.t 0), none⟩,
    ⟨some 4, .mv (.c (.str ⟨#[]⟩)), none⟩] [] [1, 2])
  (.seq (.reg false [⟨some 7, .fad 0 (.t 2), none⟩,
    ⟨some 8, .ld none (.t 7), none⟩,
    ⟨some 9, .mv (.t 1), none⟩,
    ⟨some 10, .iad 3 (.t 8) (.t 9), none⟩,
    ⟨some 11, .ld (some 3) (.t 10), none⟩,
    ⟨some 5, .new [.int .i64 0, .int .i64 0, .int .i64 0], none⟩,
    ⟨none, .st 3 (.t 5) (.t 11), none⟩] [] [2, 5])
  (.seq (.seq (.reg false [⟨some 12, .fad 0 (.t 5), none⟩,
    ⟨some 13, .ld none (.t 12), none⟩] [] [2, 5, 13])
  (.block 0 (.seq (.reg false [⟨some 15, .bin .eql (.t 13) (.c (.int .i64 1)), none⟩,
    ⟨some 14, .mv (.t 15), none⟩] [] [2, 5, 13, 14])
  (.cond (.t 14)
  (.seq (.reg false [⟨some 16, .fad 1 (.t 5), none⟩,
    ⟨some 17, .ld none (.t 16), none⟩,
    ⟨some 18, .call 28 [.t 17], none⟩,
    ⟨some 19, .bin .add (.c (.str ⟨#[110]⟩)) (.t 18), none⟩,
    ⟨some 4, .mv (.t 19), none⟩] [] [4])
  .ret)
  (.seq (.reg false [⟨some 21, .bin .eql (.t 13) (.c (.int .i64 5)), none⟩,
    ⟨some 20, .mv (.t 21), none⟩] [] [2, 5, 13, 20])
  (.cond (.t 20)
  (.seq (.reg false [⟨some 22, .ld (some 1) (.t 2), none⟩,
    ⟨some 23, .fad 1 (.t 5), none⟩,
    ⟨some 24, .ld none (.t 23), none⟩,
    ⟨some 25, .call 29 [.t 22, .t 24], none⟩,
    ⟨some 26, .bin .add (.c (.str ⟨#[35]⟩)) (.t 25), none⟩,
    ⟨some 4, .mv (.t 26), none⟩] [] [4])
  .ret)
  (.seq (.reg false [⟨some 28, .bin .eql (.t 13) (.c (.int .i64 7)), none⟩,
    ⟨some 27, .mv (.t 28), none⟩] [] [2, 5, 27])
  (.cond (.t 27)
  (.seq (.reg false [⟨some 29, .ld (some 1) (.t 2), none⟩,
    ⟨some 30, .fad 1 (.t 5), none⟩,
    ⟨some 31, .ld none (.t 30), none⟩,
    ⟨some 32, .call 29 [.t 29, .t 31], none⟩,
    ⟨some 33, .bin .add (.c (.str ⟨#[94]⟩)) (.t 32), none⟩,
    ⟨some 4, .mv (.t 33), none⟩] [] [4])
  .ret)
  .skip))))))))
  (.seq (.reg true [⟨some 34, .ld (some 1) (.t 2), none⟩,
    ⟨some 35, .fad 1 (.t 5), none⟩,
    ⟨some 36, .ld none (.t 35), none⟩,
    ⟨some 37, .call 29 [.t 34, .t 36], none⟩,
    ⟨some 38, .bin .add (.t 37) (.c (.str ⟨#[44]⟩)), none⟩,
    ⟨some 39, .ld (some 1) (.t 2), none⟩,
    ⟨some 40, .fad 2 (.t 5), none⟩,
    ⟨some 41, .ld none (.t 40), none⟩,
    ⟨some 42, .call 29 [.t 39, .t 41], none⟩,
    ⟨some 43, .bin .add (.t 38) (.t 42), none⟩,
    ⟨some 6, .mv (.t 43), none⟩] [0, 0, 2, 7, 15, 0, 0, 64, 239, 511, 1023] [5, 6])
  (.seq (.seq (.reg false [⟨some 44, .fad 0 (.t 5), none⟩,
    ⟨some 45, .ld none (.t 44), none⟩] [] [6, 45])
  (.block 1 (.seq (.reg false [⟨some 47, .bin .eql (.t 45) (.c (.int .i64 2)), none⟩,
    ⟨some 46, .mv (.t 47), none⟩] [] [6, 45, 46])
  (.cond (.t 46)
  (.seq (.reg false [⟨some 48, .mv (.t 6), none⟩,
    ⟨some 49, .bin .add (.c (.str ⟨#[40]⟩)) (.t 48), none⟩,
    ⟨some 50, .bin .add (.t 49) (.c (.str ⟨#[41]⟩)), none⟩,
    ⟨some 4, .mv (.t 50), none⟩] [] [4])
  .ret)
  (.seq (.reg false [⟨some 52, .bin .eql (.t 45) (.c (.int .i64 3)), none⟩,
    ⟨some 51, .mv (.t 52), none⟩] [] [6, 45, 51])
  (.cond (.t 51)
  (.seq (.reg false [⟨some 53, .mv (.t 6), none⟩,
    ⟨some 54, .bin .add (.c (.str ⟨#[123]⟩)) (.t 53), none⟩,
    ⟨some 55, .bin .add (.t 54) (.c (.str ⟨#[125]⟩)), none⟩,
    ⟨some 4, .mv (.t 55), none⟩] [] [4])
  .ret)
  (.seq (.reg false [⟨some 57, .bin .eql (.t 45) (.c (.int .i64 4)), none⟩,
    ⟨some 56, .mv (.t 57), none⟩] [] [6, 45, 56])
  (.cond (.t 56)
  (.seq (.reg false [⟨some 58, .mv (.t 6), none⟩,
    ⟨some 59, .bin .add (.c (.str ⟨#[91]⟩)) (.t 58), none⟩,
    ⟨some 60, .bin .add (.t 59) (.c (.str ⟨#[93]⟩)), none⟩,
    ⟨some 4, .mv (.t 60), none⟩] [] [4])
  .ret)
  (.seq (.reg false [⟨some 62, .bin .eql (.t 45) (.c (.int .i64 6)), none⟩,
    ⟨some 61, .mv (.t 62), none⟩] [] [6, 61])
  (.cond (.t 61)
  (.seq (.reg false [⟨some 63, .mv (.t 6), none⟩,
    ⟨some 64, .bin .add (.c (.str ⟨#[107, 40]⟩)) (.t 63), none⟩,
    ⟨some 65, .bin .add (.t 64) (.c (.str ⟨#[41]⟩)), none⟩,
    ⟨some 4, .mv (.t 65), none⟩] [] [4])
  .ret)
  .skip))))))))))
  (.seq (.reg false [⟨some 66, .mv (.t 6), none⟩,
    ⟨some 67, .bin .add (.c (.str ⟨#[42, 40]⟩)) (.t 66), none⟩,
    ⟨some 68, .bin .add (.t 67) (.c (.str ⟨#[41]⟩)), none⟩,
    ⟨some 4, .mv (.t 68), none⟩] [] [4])
  .ret)))))), [(4, none)]⟩
theorem spec_l4Print_ok : okFn Tryd.prog 29 spec_l4Print = true := by kernel_rfl
def spec_l10Signs : IFn := ⟨17, (.seq (.reg false [⟨some 2, .mv (.c (.str ⟨#[]⟩)), none⟩,
    ⟨some 3, .mv (.c (.str ⟨#[]⟩)), none⟩] [] [0])
  (.seq (.seq (.reg false [⟨some 4, .mv (.t 0), none⟩] [] [4])
  (.block 0 (.seq (.reg false [⟨some 6, .bin .eql (.t 4) (.c (.int .i64 2)), none⟩,
    ⟨some 5, .mv (.t 6), none⟩] [] [4, 5])
  (.cond (.t 5)
  (.seq (.reg false [⟨some 2, .mv (.c (.str ⟨#[40]⟩)), none⟩,
    ⟨some 3, .mv (.c (.str ⟨#[41]⟩)), none⟩] [] [2, 3])
  .ret)
  (.seq (.reg false [⟨some 8, .bin .eql (.t 4) (.c (.int .i64 3)), none⟩,
    ⟨some 7, .mv (.t 8), none⟩] [] [4, 7])
  (.cond (.t 7)
  (.seq (.reg false [⟨some 2, .mv (.c (.str ⟨#[123]⟩)), none⟩,
    ⟨some 3, .mv (.c (.str ⟨#[125]⟩)), none⟩] [] [2, 3])
  .ret)
  (.seq (.reg false [⟨some 10, .bin .eql (.t 4) (.c (.int .i64 4)), none⟩,
    ⟨some 9, .mv (.t 10), none⟩] [] [4, 9])
  (.cond (.t 9)
  (.seq (.reg false [⟨some 2, .mv (.c (.str ⟨#[91]⟩)), none⟩,
    ⟨some 3, .mv (.c (.str ⟨#[93]⟩)), none⟩] [] [2, 3])
  .ret)
  (.seq (.reg false [⟨some 12, .bin .eql (.t 4) (.c (.int .i64 5)), none⟩,
    ⟨some 11, .mv (.t 12), none⟩] [] [4, 11])
  (.cond (.t 11)
  (.seq (.reg false [⟨some 2, .mv (.c (.str ⟨#[35]⟩)), none⟩,
    ⟨some 3, .mv (.c (.str ⟨#[]⟩)), none⟩] [] [2, 3])
  .ret)
  (.seq (.reg false [⟨some 14, .bin .eql (.t 4) (.c (.int .i64 6)), none⟩,
    ⟨some 13, .mv (.t 14), none⟩] [] [4, 13])
  (.cond (.t 13)
  (.seq (.reg false [⟨some 2, .mv (.c (.str ⟨#[107, 40]⟩)), none⟩,
    ⟨some 3, .mv (.c (.str ⟨#[41]⟩)), none⟩] [] [2, 3])
  .ret)
  (.seq (.reg false [⟨some 16, .bin .eql (.t 4) (.c (.int .i64 7)), none⟩,
    ⟨some 15, .mv (.t 16), none⟩] [] [15])
  (.cond (.t 15)
  (.seq (.reg false [⟨some 2, .mv (.c (.str ⟨#[94]⟩)), none⟩,
    ⟨some 3, .mv (.c (.str ⟨#[]⟩)), none⟩] [] [2, 3])
  .ret)
  .skip))))))))))))))
  (.seq (.reg false [⟨some 2, .mv (.c (.str ⟨#[42, 40]⟩)), none⟩,
    ⟨some 3, .mv (.c (.str ⟨#[41]⟩)), none⟩] [] [2, 3])
  .ret))), [(2, none), (3, none)]⟩
theorem spec_l10Signs_ok : okFn Tryd.prog 30 spec_l10Signs = true := by kernel_rfl
def spec_l1Parts : IFn := ⟨15, (.seq (.reg false [⟨some 2, .mv (.c (.int .i64 0)), none⟩] [] [0])
  (.seq (.seq (.reg false [⟨some 3, .mv (.t 0), none⟩] [] [3])
  (.block 0 (.seq (.reg false [⟨some 5, .bin .eql (.t 3) (.c (.int .i64 1)), none⟩,
    ⟨some 4, .mv (.t 5), none⟩] [] [3, 4])
  (.cond (.t 4)
  (.seq (.reg false [⟨some 2, .mv (.c (.int .i64 0)), none⟩] [] [2])
  .ret)
  (.seq (.seq (.reg false [⟨some 7, .bin .eql (.t 3) (.c (.int .i64 5)), none⟩,
    ⟨some 6, .mv (.t 7), none⟩] [] [3, 6])
  (.cond (.t 6)
  .skip
  (.reg false [⟨some 8, .bin .eql (.t 3) (.c (.int .i64 7)), none⟩,
    ⟨some 6, .mv (.t 8), none⟩] [] [3, 6])))
  (.cond (.t 6)
  (.seq (.reg false [⟨some 2, .mv (.c (.int .i64 1)), none⟩] [] [2])
  .ret)
  (.seq (.seq (.reg false [⟨some 10, .bin .eql (.t 3) (.c (.int .i64 2)), none⟩,
    ⟨some 9, .mv (.t 10), none⟩] [] [3, 9])
  (.cond (.t 9)
  .skip
  (.seq (.reg false [⟨some 11, .bin .eql (.t 3) (.c (.int .i64 3)), none⟩,
    ⟨some 9, .mv (.t 11), none⟩] [] [3, 9])
  (.cond (.t 9)
  .skip
  (.seq (.reg false [⟨some 12, .bin .eql (.t 3) (.c (.int .i64 4)), none⟩,
    ⟨some 9, .mv (.t 12), none⟩] [] [3, 9])
  (.cond (.t 9)
  .skip
  (.seq (.reg false [⟨some 13, .bin .eql (.t 3) (.c (.int .i64 6)), none⟩,
    ⟨some 9, .mv (.t 13), none⟩] [] [3, 9])
  (.cond (.t 9)
  .skip
  (.reg false [⟨some 14, .bin .eql (.t 3) (.c (.int .i64 8)), none⟩,
    ⟨some 9, .mv (.t 14), none⟩] [] [9])))))))))
  (.cond (.t 9)
  (.seq (.reg false [⟨some 2, .mv (.c (.int .i64 2)), none⟩] [] [2])
  .ret)
  .skip))))))))
  (.seq (.reg false [⟨some 2, .mv (.c (.int .i64 (-1))), none⟩] [] [2])
  .ret))), [(2, none)]⟩
theorem spec_l1Parts_ok : okFn Tryd.prog 31 spec_l1Parts = true := by kernel_rfl
def laws_toNode : IFn := ⟨14, (.seq (.reg false [⟨some 1, .box (.t 0), none⟩,
    ⟨some 2, .new [.int .i64 0, .int .i64 0, .int .i64 0], none⟩] [] [1, 2])
  (.seq (.reg false [⟨some 3, .new [.int .i64 0, .int .i64 0, .int .i64 0], none⟩] [] [1, 2, 3])
  (.seq (.reg false [⟨some 4, .fad 0 (.t 1), none⟩,
    ⟨some 5, .ld none (.t 4), none⟩,
    ⟨some 6, .fad 0 (.t 3), none⟩,
    ⟨none, .st 1 (.t 6) (.t 5), none⟩] [] [1, 2, 3])
  (.seq (.reg false [⟨some 7, .fad 1 (.t 1), none⟩,
    ⟨some 8, .ld none (.t 7), none⟩,
    ⟨some 9, .fad 1 (.t 3), none⟩,
    ⟨none, .st 1 (.t 9) (.t 8), none⟩] [] [1, 2, 3])
  (.seq (.reg false [⟨some 10, .fad 2 (.t 1), none⟩,
    ⟨some 11, .ld none (.t 10), none⟩,
    ⟨some 12, .fad 2 (.t 3), none⟩,
    ⟨none, .st 1 (.t 12) (.t 11), none⟩] [] [2, 3])
  (.seq (.reg false [⟨some 13, .ld (some 3) (.t 3), none⟩,
    ⟨none, .st 3 (.t 2) (.t 13), none⟩] [] [2])
  .ret)))))), [(2, some (some 3))]⟩
theorem laws_toNode_ok : okFn Tryd.prog 32 laws_toNode = true := by kernel_rfl
def impl_KnowOk : IFn := ⟨38, (.seq (.reg false [⟨some 2, .box (.t 0), none⟩,
    ⟨some 4, .mv (.c (.bool false)), none⟩] [] [1, 2])
  (.seq (.seq (.reg false [⟨some 7, .mv (.t 1), none⟩,
    ⟨some 8, .len false (.t 7), none⟩,
    ⟨some 9, .mv (.c (.int .i64 0)), none⟩] [] [1, 2, 7, 8, 9])
  (.block 0 (.loop (.seq (.reg false [⟨some 10, .bin .lss (.t 9) (.t 8), none⟩] [] [1, 2, 7, 8, 9, 10])
  (.seq (.cond (.t 10)
  .skip
  (.exit 0))
  (.seq (.block 1 (.seq (.reg false [⟨some 11, .mv (.t 9), none⟩,
    ⟨some 12, .iad 1 (.t 7) (.t 9), none⟩,
    ⟨some 13, .ld none (.t 12), none⟩,
    ⟨some 5, .mv (.t 11), none⟩,
    ⟨some 6, .mv (.t 13), none⟩] [] [1, 2, 5, 6, 7, 8, 9])
  (.seq (.reg false [⟨some 14, .mv (.t 6), none⟩,
    ⟨some 15, .call 47 [.t 2, .t 14], none⟩,
    ⟨some 16, .not (.t 15), none⟩,
    ⟨some 17, .mv (.t 16), none⟩,
    ⟨some 18, .mv (.t 5), some (17, false)⟩,
    ⟨some 19, .bin .gtr (.t 18) (.c (.int .i64 0)), some (17, false)⟩,
    ⟨some 20, .mv (.t 19), some (17, false)⟩,
    ⟨some 21, .mv (.t 6), some (20, true)⟩,
    ⟨some 22, .mv (.t 1), some (20, true)⟩,
    ⟨some 23, .mv (.t 5), some (20, true)⟩,
    ⟨some 24, .bin .sub (.t 23) (.c (.int .i64 1)), some (20, true)⟩,
    ⟨some 25, .iad 1 (.t 22) (.t 24), some (20, true)⟩,
    ⟨some 26, .ld none (.t 25), some (20, true)⟩,
    ⟨some 27, .bin .leq (.t 21) (.t 26), some (20, true)⟩,
    ⟨some 28, .pick (.t 20) (.t 27) (.c (.bool false)), some (17, false)⟩,
    ⟨some 29, .pick (.t 17) (.c (.bool true)) (.t 28), none⟩] [] [1, 2, 7, 8, 9, 29])
  (.cond (.t 29)
  (.seq (.reg false [⟨some 4, .mv (.c (.bool false)), none⟩] [] [4])
  .ret)
  .skip))))
  (.reg false [⟨some 30, .bin .add (.t 9) (.c (.int .i64 1)), none⟩,
    ⟨some 9, .mv (.t 30), none⟩] [] [1, 2, 7, 8, 9])))))))
  (.seq (.reg false [⟨some 31, .mv (.t 1), none⟩,
    ⟨some 32, .len false (.t 31), none⟩,
    ⟨some 33, .bin .leq (.t 32) (.c (.int .i64 200)), none⟩,
    ⟨some 34, .mv (.t 33), none⟩,
    ⟨some 35, .ld (some 1) (.t 2), some (34, true)⟩,
    ⟨some 36, .call 48 [.t 35], some (34, true)⟩,
    ⟨some 37, .pick (.t 34) (.t 36) (.c (.bool false)), none⟩,
    ⟨some 4, .mv (.t 37), none⟩] [] [4])
  .ret))), [(4, none)]⟩
theorem impl_KnowOk_ok : okFn Tryd.prog 33 impl_KnowOk = true := by kernel_rfl
def impl_Pool_isProof : IFn := ⟨43, (.seq (.reg false [⟨some 6, .mv (.c (.bool false)), none⟩] [] [0, 1, 2])
  (.seq (.seq (.reg false [⟨some 10, .mv (.t 2), none⟩,
    ⟨some 11, .len false (.t 10), none⟩,
    ⟨some 12, .call 49 [.t 11, .c (.int .i64 1), .c (.int .i64 500)], none⟩,
    ⟨some 13, .not (.t 12), none⟩] [] [0, 1, 2, 13])
  (.cond (.t 13)
  (.seq (.reg false [⟨some 6, .mv (.c (.bool false)), none⟩] [] [6])
  .ret)
  .skip))
  (.seq (.reg false [⟨some 14, .mkm false, none⟩,
    ⟨some 7, .mv (.t 14), none⟩] [] [0, 1, 2, 7])
  (.seq (.seq (.reg false [⟨some 15, .mv (.t 2), none⟩,
    ⟨some 16, .len false (.t 15), none⟩,
    ⟨some 17, .mv (.c (.int .i64 0)), none⟩] [] [0, 1, 2, 7, 15, 16, 17])
  (.block 0 (.loop (.seq (.reg false [⟨some 18, .bin .lss (.t 17) (.t 16), none⟩] [] [0, 1, 2, 7, 15, 16, 17, 18])
  (.seq (.cond (.t 18)
  .skip
  (.exit 0))
  (.seq (.block 1 (.seq (.reg false [⟨some 19, .mv (.t 17), none⟩,
    ⟨some 20, .iad 4 (.t 15) (.t 17), none⟩,
    ⟨some 21, .ld (some 4) (.t 20), none⟩,
    ⟨some 9, .new [.int .i64 0, .int .i64 0, .int .i64 0, .int .i64 0], none⟩,
    ⟨some 8, .mv (.t 19), none⟩,
    ⟨none, .st 4 (.t 9) (.t 21), none⟩] [] [0, 1, 2, 7, 8, 9, 15, 16, 17])
  (.seq (.reg false [⟨some 22, .mv (.t 7), none⟩,
    ⟨some 23, .fad 1 (.t 9), none⟩,
    ⟨some 24, .ld none (.t 23), none⟩,
    ⟨some 25, .mlk false (.t 22) (.t 24), none⟩,
    ⟨some 26, .bin .add (.t 25) (.c (.int .i64 1)), none⟩,
    ⟨none, .mup false (.t 22) (.t 24) (.t 26), none⟩] [] [0, 1, 2, 7, 8, 9, 15, 16, 17])
  (.seq (.reg true [⟨some 27, .mv (.t 7), none⟩,
    ⟨some 28, .fad 1 (.t 9), none⟩,
    ⟨some 29, .ld none (.t 28), none⟩,
    ⟨some 30, .mlk false (.t 27) (.t 29), none⟩,
    ⟨some 31, .bin .gtr (.t 30) (.c (.int .i64 1)), none⟩,
    ⟨some 32, .mv (.t 31), none⟩,
    ⟨some 33, .mv (.t 0), some (32, false)⟩,
    ⟨some 34, .mv (.t 1), some (32, false)⟩,
    ⟨some 35, .mv (.t 2), some (32, false)⟩,
    ⟨some 36, .mv (.t 8), some (32, false)⟩,
    ⟨some 37, .slc 4 (.t 35) none (some (.t 36)) none, some (32, false)⟩,
    ⟨some 38, .ld (some 4) (.t 9), some (32, false)⟩,
    ⟨some 39, .call 50 [.t 33, .t 34, .t 37, .t 38], some (32, false)⟩,
    ⟨some 40, .not (.t 39), some (32, false)⟩,
    ⟨some 41, .pick (.t 32) (.c (.bool true)) (.t 40), none⟩] [0, 0, 2, 7, 15, 31, 63, 63, 63, 63, 831, 63, 4095, 8191, 16383] [0, 1, 2, 7, 15, 16, 17, 41])
  (.cond (.t 41)
  (.seq (.reg false [⟨some 6, .mv (.c (.bool false)), none⟩] [] [6])
  .ret)
  .skip)))))
  (.reg false [⟨some 42, .bin .add (.t 17) (.c (.int .i64 1)), none⟩,
    ⟨some 17, .mv (.t 42), none⟩] [] [0, 1, 2, 7, 15, 16, 17])))))))
  (.seq (.reg false [⟨some 6, .mv (.c (.bool true)), none⟩] [] [6])
  .ret))))), [(6, none)]⟩
theorem impl_Pool_isProof_ok : okFn Tryd.prog 34 impl_Pool_isProof = true := by kernel_rfl
def impl_Pool_parts : IFn := ⟨28, (.seq (.reg false [⟨some 4, .mv (.c (.nil)), none⟩] [] [0, 1])
  (.seq (.reg false [⟨some 6, .mv (.t 0), none⟩,
    ⟨some 7, .nck (.t 6), none⟩,
    ⟨some 8, .fad 0 (.t 7), none⟩,
    ⟨some 9, .ld none (.t 8), none⟩,
    ⟨some 10, .mv (.t 1), none⟩,
    ⟨some 11, .iad 3 (.t 9) (.t 10), none⟩,
    ⟨some 12, .ld (some 3) (.t 11), none⟩,
    ⟨some 5, .new [.int .i64 0, .int .i64 0, .int .i64 0], none⟩,
    ⟨none, .st 3 (.t 5) (.t 12), none⟩] [] [5])
  (.seq (.seq (.reg false [⟨some 13, .fad 0 (.t 5), none⟩,
    ⟨some 14, .ld none (.t 13), none⟩,
    ⟨some 15, .call 51 [.t 14], none⟩] [] [5, 15])
  (.block 0 (.seq (.reg false [⟨some 17, .bin .eql (.t 15) (.c (.int .i64 1)), none⟩,
    ⟨some 16, .mv (.t 17), none⟩] [] [5, 15, 16])
  (.cond (.t 16)
  (.seq (.reg false [⟨some 18, .fad 1 (.t 5), none⟩,
    ⟨some 19, .ld none (.t 18), none⟩,
    ⟨some 20, .bsl 1 1 [.int .i64 0] [(0, 1, .t 19)], none⟩,
    ⟨some 4, .mv (.t 20), none⟩] [] [4])
  .ret)
  (.seq (.reg false [⟨some 22, .bin .eql (.t 15) (.c (.int .i64 2)), none⟩,
    ⟨some 21, .mv (.t 22), none⟩] [] [5, 21])
  (.cond (.t 21)
  (.seq (.reg false [⟨some 23, .fad 1 (.t 5), none⟩,
    ⟨some 24, .ld none (.t 23), none⟩,
    ⟨some 25, .fad 2 (.t 5), none⟩,
    ⟨some 26, .ld none (.t 25), none⟩,
    ⟨some 27, .bsl 1 2 [.int .i64 0] [(0, 1, .t 24), (1, 1, .t 26)], none⟩,
    ⟨some 4, .mv (.t 27), none⟩] [] [4])
  .ret)
  .skip))))))
  (.seq (.reg false [⟨some 4, .mv (.c (.nil)), none⟩] [] [4])
  .ret)))), [(4, none)]⟩
theorem impl_Pool_parts_ok : okFn Tryd.prog 35 impl_Pool_parts = true := by kernel_rfl
def slices_Index_int : IFn := ⟨19, (.seq (.reg false [⟨some 4, .mv (.c (.int .i64 0)), none⟩] [] [0, 1])
  (.seq (.seq (.reg false [⟨some 6, .mv (.t 0), none⟩,
    ⟨some 7, .len false (.t 6), none⟩,
    ⟨some 8, .mv (.c (.int .i64 0)), none⟩] [] [0, 1, 7, 8])
  (.block 0 (.loop (.seq (.reg false [⟨some 9, .bin .lss (.t 8) (.t 7), none⟩] [] [0, 1, 7, 8, 9])
  (.seq (.cond (.t 9)
  .skip
  (.exit 0))
  (.seq (.block 1 (.seq (.reg false [⟨some 10, .mv (.t 8), none⟩,
    ⟨some 5, .mv (.t 10), none⟩] [] [0, 1, 5, 7, 8])
  (.seq (.reg false [⟨some 11, .mv (.t 1), none⟩,
    ⟨some 12, .mv (.t 0), none⟩,
    ⟨some 13, .mv (.t 5), none⟩,
    ⟨some 14, .iad 1 (.t 12) (.t 13), none⟩,
    ⟨some 15, .ld none (.t 14), none⟩,
    ⟨some 16, .bin .eql (.t 11) (.t 15), none⟩] [] [0, 1, 5, 7, 8, 16])
  (.cond (.t 16)
  (.seq (.reg false [⟨some 17, .mv (.t 5), none⟩,
    ⟨some 4, .mv (.t 17), none⟩] [] [4])
  .ret)
  .skip))))
  (.reg false [⟨some 18, .bin .add (.t 8) (.c (.int .i64 1)), none⟩,
    ⟨some 8, .mv (.t 18), none⟩] [] [0, 1, 7, 8])))))))
  (.seq (.reg false [⟨some 4, .mv (.c (.int .i64 (-1))), none⟩] [] [4])
  .ret))), [(4, none)]⟩
theorem slices_Index_int_ok : okFn Tryd.prog 37 slices_Index_int = true := by kernel_rfl
def impl_Pool_print : IFn := ⟨42, (.seq (.reg false [⟨some 4, .mv (.c (.str ⟨#[]⟩)), none⟩] [] [0, 1])
  (.seq (.reg false [⟨some 9, .mv (.t 0), none⟩,
    ⟨some 10, .nck (.t 9), none⟩,
    ⟨some 11, .fad 0 (.t 10), none⟩,
    ⟨some 12, .ld none (.t 11), none⟩,
    ⟨some 13, .mv (.t 1), none⟩,
    ⟨some 14, .iad 3 (.t 12) (.t 13), none⟩,
    ⟨some 15, .ld (some 3) (.t 14), none⟩,
    ⟨some 5, .new [.int .i64 0, .int .i64 0, .int .i64 0], none⟩,
    ⟨none, .st 3 (.t 5) (.t 15), none⟩] [] [0, 1, 5])
  (.seq (.seq (.reg false [⟨some 16, .fad 0 (.t 5), none⟩,
    ⟨some 17, .ld none (.t 16), none⟩,
    ⟨some 18, .bin .eql (.t 17) (.c (.int .i64 1)), none⟩] [] [0, 1, 5, 18])
  (.cond (.t 18)
  (.seq (.reg false [⟨some 19, .fad 1 (.t 5), none⟩,
    ⟨some 20, .ld none (.t 19), none⟩,
    ⟨some 21, .call 36 [.t 20], none⟩,
    ⟨some 22, .bin .add (.c (.str ⟨#[110]⟩)) (.t 21), none⟩,
    ⟨some 4, .mv (.t 22), none⟩] [] [4])
  .ret)
  .skip))
  (.seq (.reg false [⟨some 6, .mv (.c (.nil)), none⟩] [] [0, 1, 5, 6])
  (.seq (.seq (.reg false [⟨some 23, .mv (.t 0), none⟩,
    ⟨some 24, .mv (.t 1), none⟩,
    ⟨some 25, .call 35 [.t 23, .t 24], none⟩,
    ⟨some 26, .len false (.t 25), none⟩,
    ⟨some 27, .mv (.c (.int .i64 0)), none⟩] [] [0, 5, 6, 25, 26, 27])
  (.block 0 (.loop (.seq (.reg false [⟨some 28, .bin .lss (.t 27) (.t 26), none⟩] [] [0, 5, 6, 25, 26, 27, 28])
  (.seq (.cond (.t 28)
  .skip
  (.exit 0))
  (.seq (.block 1 (.seq (.reg false [⟨some 29, .iad 1 (.t 25) (.t 27), none⟩,
    ⟨some 30, .ld none (.t 29), none⟩,
    ⟨some 8, .mv (.t 30), none⟩] [] [0, 5, 6, 8, 25, 26, 27])
  (.reg false [⟨some 31, .mv (.t 6), none⟩,
    ⟨some 32, .mv (.t 0), none⟩,
    ⟨some 33, .mv (.t 8), none⟩,
    ⟨some 34, .call 38 [.t 32, .t 33], none⟩,
    ⟨some 35, .bsl 1 1 [.str ⟨#[]⟩] [(0, 1, .t 34)], none⟩,
    ⟨some 36, .app 1 16 (.t 31) (.t 35), none⟩,
    ⟨some 6, .mv (.t 36), none⟩] [] [0, 5, 6, 25, 26, 27])))
  (.reg false [⟨some 37, .bin .add (.t 27) (.c (.int .i64 1)), none⟩,
    ⟨some 27, .mv (.t 37), none⟩] [] [0, 5, 6, 25, 26, 27])))))))
  (.seq (.reg false [⟨some 38, .fad 0 (.t 5), none⟩,
    ⟨some 39, .ld none (.t 38), none⟩,
    ⟨some 40, .mv (.t 6), none⟩,
    ⟨some 41, .call 39 [.t 39, .t 40], none⟩,
    ⟨some 4, .mv (.t 41), none⟩] [] [4])
  .ret)))))), [(4, none)]⟩
theorem impl_Pool_print_ok : okFn Tryd.prog 38 impl_Pool_print = true := by kernel_rfl
def impl_joined : IFn := ⟨34, (.seq (.reg false [⟨some 4, .mv (.c (.str ⟨#[]⟩)), none⟩] [] [0, 1])
  (.seq (.reg false [⟨some 8, .mv (.t 0), none⟩,
    ⟨some 9, .call 53 [.t 8], none⟩,
    ⟨some 7, .mv (.t 9), none⟩,
    ⟨some 10, .ext (.t 7) 0, none⟩,
    ⟨some 11, .ext (.t 7) 1, none⟩,
    ⟨some 5, .mv (.t 10), none⟩,
    ⟨some 6, .mv (.t 11), none⟩] [] [1, 5, 6])
  (.seq (.seq (.reg false [⟨some 12, .mv (.t 1), none⟩,
    ⟨some 13, .len false (.t 12), none⟩,
    ⟨some 14, .bin .eql (.t 13) (.c (.int .i64 1)), none⟩] [] [1, 5, 6, 14])
  (.cond (.t 14)
  (.seq (.reg false [⟨some 15, .mv (.t 5), none⟩,
    ⟨some 16, .mv (.t 1), none⟩,
    ⟨some 17, .iad 1 (.t 16) (.c (.int .i64 0)), none⟩,
    ⟨some 18, .ld none (.t 17), none⟩,
    ⟨some 19, .bin .add (.t 15) (.t 18), none⟩,
    ⟨some 20, .mv (.t 6), none⟩,
    ⟨some 21, .bin .add (.t 19) (.t 20), none⟩,
    ⟨some 4, .mv (.t 21), none⟩] [] [4])
  .ret)
  .skip))
  (.seq (.reg true [⟨some 22, .mv (.t 5), none⟩,
    ⟨some 23, .mv (.t 1), none⟩,
    ⟨some 24, .iad 1 (.t 23) (.c (.int .i64 0)), none⟩,
    ⟨some 25, .ld none (.t 24), none⟩,
    ⟨some 26, .bin .add (.t 22) (.t 25), none⟩,
    ⟨some 27, .bin .add (.t 26) (.c (.str ⟨#[44]⟩)), none⟩,
    ⟨some 28, .mv (.t 1), none⟩,
    ⟨some 29, .iad 1 (.t 28) (.c (.int .i64 1)), none⟩,
    ⟨some 30, .ld none (.t 29), none⟩,
    ⟨some 31, .bin .add (.t 27) (.t 30), none⟩,
    ⟨some 32, .mv (.t 6), none⟩,
    ⟨some 33, .bin .add (.t 31) (.t 32), none⟩,
    ⟨some 4, .mv (.t 33), none⟩] [0, 0, 2, 6, 15, 31, 0, 64, 192, 511, 0, 2047, 4095] [4])
  .ret)))), [(4, none)]⟩
theorem impl_joined_ok : okFn Tryd.prog 39 impl_joined = true := by kernel_rfl
def laws_eqNode : IFn := ⟨20, (.seq (.reg false [⟨some 2, .box (.t 0), none⟩,
    ⟨some 3, .box (.t 1), none⟩,
    ⟨some 4, .mv (.c (.bool false)), none⟩] [] [2, 3])
  (.seq (.seq (.reg false [⟨some 5, .fad 0 (.t 2), none⟩,
    ⟨some 6, .ld none (.t 5), none⟩,
    ⟨some 7, .fad 0 (.t 3), none⟩,
    ⟨some 8, .ld none (.t 7), none⟩,
    ⟨some 9, .bin .neq (.t 6) (.t 8), none⟩] [] [2, 3, 9])
  (.cond (.t 9)
  (.seq (.reg false [⟨some 4, .mv (.c (.bool false)), none⟩] [] [4])
  .ret)
  .skip))
  (.seq (.seq (.reg false [⟨some 10, .fad 1 (.t 2), none⟩,
    ⟨some 11, .ld none (.t 10), none⟩,
    ⟨some 12, .fad 1 (.t 3), none⟩,
    ⟨some 13, .ld none (.t 12), none⟩,
    ⟨some 14, .bin .neq (.t 11) (.t 13), none⟩] [] [2, 3, 14])
  (.cond (.t 14)
  (.seq (.reg false [⟨some 4, .mv (.c (.bool false)), none⟩] [] [4])
  .ret)
  .skip))
  (.seq (.seq (.reg false [⟨some 15, .fad 2 (.t 2), none⟩,
    ⟨some 16, .ld none (.t 15), none⟩,
    ⟨some 17, .fad 2 (.t 3), none⟩,
    ⟨some 18, .ld none (.t 17), none⟩,
    ⟨some 19, .bin .neq (.t 16) (.t 18), none⟩] [] [19])
  (.cond (.t 19)
  (.seq (.reg false [⟨some 4, .mv (.c (.bool false)), none⟩] [] [4])
  .ret)
  .skip))
  (.seq (.reg false [⟨some 4, .mv (.c (.bool true)), none⟩] [] [4])
  .ret))))), [(4, none)]⟩
theorem laws_eqNode_ok : okFn Tryd.prog 40 laws_eqNode = true := by kernel_rfl
def spec_PoolOk : IFn := ⟨34, (.seq (.reg false [⟨some 1, .box (.t 0), none⟩,
    ⟨some 2, .mv (.c (.bool false)), none⟩] [] [1])
  (.seq (.seq (.reg false [⟨some 4, .fad 0 (.t 1), none⟩,
    ⟨some 5, .ld none (.t 4), none⟩,
    ⟨some 6, .len false (.t 5), none⟩,
    ⟨some 7, .bin .gtr (.t 6) (.c (.int .i64 500)), none⟩] [] [1, 7])
  (.cond (.t 7)
  (.seq (.reg false [⟨some 2, .mv (.c (.bool false)), none⟩] [] [2])
  .ret)
  .skip))
  (.seq (.seq (.reg false [⟨some 3, .mv (.c (.int .i64 0)), none⟩] [] [1, 3])
  (.block 0 (.loop (.seq (.seq (.reg false [⟨some 8, .mv (.t 3), none⟩,
    ⟨some 9, .fad 0 (.t 1), none⟩,
    ⟨some 10, .ld none (.t 9), none⟩,
    ⟨some 11, .len false (.t 10), none⟩,
    ⟨some 12, .bin .lss (.t 8) (.t 11), none⟩] [] [1, 3, 12])
  (.cond (.t 12)
  .skip
  (.exit 0)))
  (.seq (.block 1 (.seq (.reg true [⟨some 15, .fad 0 (.t 1), none⟩,
    ⟨some 16, .ld none (.t 15), none⟩,
    ⟨some 17, .mv (.t 3), none⟩,
    ⟨some 18, .iad 3 (.t 16) (.t 17), none⟩,
    ⟨some 19, .ld (some 3) (.t 18), none⟩,
    ⟨some 20, .mv (.t 3), none⟩,
    ⟨some 21, .call 54 [.t 19, .t 20], none⟩,
    ⟨some 22, .not (.t 21), none⟩,
    ⟨some 23, .mv (.t 22), none⟩,
    ⟨some 24, .ld (some 1) (.t 1), some (23, false)⟩,
    ⟨some 25, .fad 0 (.t 1), some (23, false)⟩,
    ⟨some 26, .ld none (.t 25), some (23, false)⟩,
    ⟨some 27, .mv (.t 3), some (23, false)⟩,
    ⟨some 28, .iad 3 (.t 26) (.t 27), some (23, false)⟩,
    ⟨some 29, .ld (some 3) (.t 28), some (23, false)⟩,
    ⟨some 30, .call 55 [.t 24, .t 29], some (23, false)⟩,
    ⟨some 31, .mv (.t 3), some (23, false)⟩,
    ⟨some 32, .bin .neq (.t 30) (.t 31), some (23, false)⟩,
    ⟨some 33, .pick (.t 23) (.c (.bool true)) (.t 32), none⟩] [0, 1, 0, 7, 15, 0, 63, 127, 255, 511, 511, 1535, 511, 7679, 15871, 32767, 511, 131071, 262143] [1, 3, 33])
  (.cond (.t 33)
  (.seq (.reg false [⟨some 2, .mv (.c (.bool false)), none⟩] [] [2])
  .ret)
  .skip)))
  (.reg false [⟨some 13, .mv (.t 3), none⟩,
    ⟨some 14, .bin .add (.t 13) (.c (.int .i64 1)), none⟩,
    ⟨some 3, .mv (.t 14), none⟩] [] [1, 3]))))))
  (.seq (.reg false [⟨some 2, .mv (.c (.bool true)), none⟩] [] [2])
  .ret)))), [(2, none)]⟩
theorem spec_PoolOk_ok : okFn Tryd.prog 41 spec_PoolOk = true := by kernel_rfl
def spec_l6Know : IFn := ⟨38, (.seq (.reg false [⟨some 2, .box (.t 0), none⟩,
    ⟨some 4, .mv (.c (.bool false)), none⟩] [] [1, 2])
  (.seq (.seq (.reg false [⟨some 6, .mv (.t 1), none⟩,
    ⟨some 7, .len false (.t 6), none⟩,
    ⟨some 8, .bin .gtr (.t 7) (.c (.int .i64 200)), none⟩] [] [1, 2, 8])
  (.cond (.t 8)
  (.seq (.reg false [⟨some 4, .mv (.c (.bool false)), none⟩] [] [4])
  .ret)
  .skip))
  (.seq (.seq (.reg false [⟨some 5, .mv (.c (.int .i64 0)), none⟩] [] [1, 2, 5])
  (.block 0 (.loop (.seq (.seq (.reg false [⟨some 9, .mv (.t 5), none⟩,
    ⟨some 10, .mv (.t 1), none⟩,
    ⟨some 11, .len false (.t 10), none⟩,
    ⟨some 12, .bin .lss (.t 9) (.t 11), none⟩] [] [1, 2, 5, 12])
  (.cond (.t 12)
  .skip
  (.exit 0)))
  (.seq (.block 1 (.seq (.reg true [⟨some 15, .ld (some 1) (.t 2), none⟩,
    ⟨some 16, .mv (.t 1), none⟩,
    ⟨some 17, .mv (.t 5), none⟩,
    ⟨some 18, .iad 1 (.t 16) (.t 17), none⟩,
    ⟨some 19, .ld none (.t 18), none⟩,
    ⟨some 20, .call 25 [.t 15, .t 19], none⟩,
    ⟨some 21, .not (.t 20), none⟩,
    ⟨some 22, .mv (.t 21), none⟩,
    ⟨some 23, .mv (.t 5), some (22, false)⟩,
    ⟨some 24, .bin .gtr (.t 23) (.c (.int .i64 0)), some (22, false)⟩,
    ⟨some 25, .mv (.t 24), some (22, false)⟩,
    ⟨some 26, .mv (.t 1), some (25, true)⟩,
    ⟨some 27, .mv (.t 5), some (25, true)⟩,
    ⟨some 28, .bin .sub (.t 27) (.c (.int .i64 1)), some (25, true)⟩,
    ⟨some 29, .iad 1 (.t 26) (.t 28), some (25, true)⟩,
    ⟨some 30, .ld none (.t 29), some (25, true)⟩,
    ⟨some 31, .mv (.t 1), some (25, true)⟩,
    ⟨some 32, .mv (.t 5), some (25, true)⟩,
    ⟨some 33, .iad 1 (.t 31) (.t 32), some (25, true)⟩,
    ⟨some 34, .ld none (.t 33), some (25, true)⟩,
    ⟨some 35, .bin .geq (.t 30) (.t 34), some (25, true)⟩,
    ⟨some 36, .pick (.t 25) (.t 35) (.c (.bool false)), some (22, false)⟩,
    ⟨some 37, .pick (.t 22) (.c (.bool true)) (.t 36), none⟩] [0, 0, 0, 6, 14, 31, 63, 127, 255, 511, 1023, 2047, 2047, 6143, 16383, 32767, 2047, 2047, 198655, 460799, 1048575, 2097151, 4194303] [1, 2, 5, 37])
  (.cond (.t 37)
  (.seq (.reg false [⟨some 4, .mv (.c (.bool false)), none⟩] [] [4])
  .ret)
  .skip)))
  (.reg false [⟨some 13, .mv (.t 5), none⟩,
    ⟨some 14, .bin .add (.t 13) (.c (.int .i64 1)), none⟩,
    ⟨some 5, .mv (.t 14), none⟩] [] [1, 2, 5]))))))
  (.seq (.reg false [⟨some 4, .mv (.c (.bool true)), none⟩] [] [4])
  .ret)))), [(4, none)]⟩
theorem spec_l6Know_ok : okFn Tryd.prog 42 spec_l6Know = true := by kernel_rfl
def spec_l1In : IFn := ⟨15, (.seq (.reg false [⟨some 6, .mv (.c (.bool false)), none⟩] [] [0, 1, 2])
  (.seq (.reg false [⟨some 7, .mv (.t 0), none⟩,
    ⟨some 8, .mv (.t 1), none⟩,
    ⟨some 9, .bin .geq (.t 7) (.t 8), none⟩,
    ⟨some 10, .mv (.t 9), none⟩,
    ⟨some 11, .mv (.t 0), some (10, true)⟩,
    ⟨some 12, .mv (.t 2), some (10, true)⟩,
    ⟨some 13, .bin .leq (.t 11) (.t 12), some (10, true)⟩,
    ⟨some 14, .pick (.t 10) (.t 13) (.c (.bool false)), none⟩,
    ⟨some 6, .mv (.t 14), none⟩] [] [6])
  .ret)), [(6, none)]⟩
theorem spec_l1In_ok : okFn Tryd.prog 43 spec_l1In = true := by kernel_rfl
def spec_l9Needs : IFn := ⟨27, (.seq (.reg false [⟨some 2, .box (.t 0), none⟩,
    ⟨some 3, .box (.t 1), none⟩,
    ⟨some 4, .mv (.c (.int .i64 0)), none⟩] [] [2, 3])
  (.seq (.seq (.reg false [⟨some 5, .fad 0 (.t 3), none⟩,
    ⟨some 6, .ld none (.t 5), none⟩] [] [2, 3, 6])
  (.block 0 (.seq (.seq (.reg false [⟨some 8, .bin .eql (.t 6) (.c (.int .i64 1)), none⟩,
    ⟨some 7, .mv (.t 8), none⟩] [] [2, 3, 6, 7])
  (.cond (.t 7)
  .skip
  (.reg false [⟨some 9, .bin .eql (.t 6) (.c (.int .i64 2)), none⟩,
    ⟨some 7, .mv (.t 9), none⟩] [] [2, 3, 6, 7])))
  (.cond (.t 7)
  (.seq (.reg false [⟨some 4, .mv (.c (.int .i64 0)), none⟩] [] [4])
  .ret)
  (.seq (.reg false [⟨some 11, .bin .eql (.t 6) (.c (.int .i64 3)), none⟩,
    ⟨some 10, .mv (.t 11), none⟩] [] [2, 3, 6, 10])
  (.cond (.t 10)
  (.seq (.reg false [⟨some 12, .fad 0 (.t 2), none⟩,
    ⟨some 13, .ld none (.t 12), none⟩,
    ⟨some 14, .fad 1 (.t 3), none⟩,
    ⟨some 15, .ld none (.t 14), none⟩,
    ⟨some 16, .iad 3 (.t 13) (.t 15), none⟩,
    ⟨some 17, .fad 0 (.t 16), none⟩,
    ⟨some 18, .ld none (.t 17), none⟩,
    ⟨some 19, .call 31 [.t 18], none⟩,
    ⟨some 4, .mv (.t 19), none⟩] [] [4])
  .ret)
  (.seq (.seq (.reg false [⟨some 21, .bin .eql (.t 6) (.c (.int .i64 4)), none⟩,
    ⟨some 20, .mv (.t 21), none⟩] [] [6, 20])
  (.cond (.t 20)
  .skip
  (.reg false [⟨some 22, .bin .eql (.t 6) (.c (.int .i64 7)), none⟩,
    ⟨some 20, .mv (.t 22), none⟩] [] [6, 20])))
  (.cond (.t 20)
  (.seq (.reg false [⟨some 4, .mv (.c (.int .i64 2)), none⟩] [] [4])
  .ret)
  (.seq (.seq (.reg false [⟨some 24, .bin .eql (.t 6) (.c (.int .i64 5)), none⟩,
    ⟨some 23, .mv (.t 24), none⟩] [] [6, 23])
  (.cond (.t 23)
  .skip
  (.seq (.reg false [⟨some 25, .bin .eql (.t 6) (.c (.int .i64 6)), none⟩,
    ⟨some 23, .mv (.t 25), none⟩] [] [6, 23])
  (.cond (.t 23)
  .skip
  (.reg false [⟨some 26, .bin .eql (.t 6) (.c (.int .i64 8)), none⟩,
    ⟨some 23, .mv (.t 26), none⟩] [] [23])))))
  (.cond (.t 23)
  (.seq (.reg false [⟨some 4, .mv (.c (.int .i64 1)), none⟩] [] [4])
  .ret)
  .skip))))))))))
  (.seq (.reg false [⟨some 4, .mv (.c (.int .i64 (-1))), none⟩] [] [4])
  .ret))), [(4, none)]⟩
theorem spec_l9Needs_ok : okFn Tryd.prog 44 spec_l9Needs = true := by kernel_rfl
def spec_KnowHas : IFn := ⟨18, (.seq (.reg false [⟨some 4, .mv (.c (.bool false)), none⟩] [] [0, 1])
  (.seq (.seq (.reg false [⟨some 5, .mv (.c (.int .i64 0)), none⟩] [] [0, 1, 5])
  (.block 0 (.loop (.seq (.seq (.reg false [⟨some 6, .mv (.t 5), none⟩,
    ⟨some 7, .mv (.t 0), none⟩,
    ⟨some 8, .len false (.t 7), none⟩,
    ⟨some 9, .bin .lss (.t 6) (.t 8), none⟩] [] [0, 1, 5, 9])
  (.cond (.t 9)
  .skip
  (.exit 0)))
  (.seq (.block 1 (.seq (.reg false [⟨some 12, .mv (.t 0), none⟩,
    ⟨some 13, .mv (.t 5), none⟩,
    ⟨some 14, .iad 1 (.t 12) (.t 13), none⟩,
    ⟨some 15, .ld none (.t 14), none⟩,
    ⟨some 16, .mv (.t 1), none⟩,
    ⟨some 17, .bin .eql (.t 15) (.t 16), none⟩] [] [0, 1, 5, 17])
  (.cond (.t 17)
  (.seq (.reg false [⟨some 4, .mv (.c (.bool true)), none⟩] [] [4])
  .ret)
  .skip)))
  (.reg false [⟨some 10, .mv (.t 5), none⟩,
    ⟨some 11, .bin .add (.t 10) (.c (.int .i64 1)), none⟩,
    ⟨some 5, .mv (.t 11), none⟩] [] [0, 1, 5]))))))
  (.seq (.reg false [⟨some 4, .mv (.c (.bool false)), none⟩] [] [4])
  .ret))), [(4, none)]⟩
theorem spec_KnowHas_ok : okFn Tryd.prog 45 spec_KnowHas = true := by kernel_rfl
def spec_IsPublic : IFn := ⟨5, (.seq (.reg false [⟨some 2, .mv (.c (.bool false)), none⟩] [] [0])
  (.seq (.reg false [⟨some 3, .mv (.t 0), none⟩,
    ⟨some 4, .call 43 [.t 3, .c (.int .i64 0), .c (.int .i64 49)], none⟩,
    ⟨some 2, .mv (.t 4), none⟩] [] [2])
  .ret)), [(2, none)]⟩
theorem spec_IsPublic_ok : okFn Tryd.prog 46 spec_IsPublic = true := by kernel_rfl
def impl_Pool_isTerm : IFn := ⟨13, (.seq (.reg false [⟨some 4, .mv (.c (.bool false)), none⟩] [] [0, 1])
  (.seq (.reg false [⟨some 5, .mv (.t 1), none⟩,
    ⟨some 6, .mv (.t 0), none⟩,
    ⟨some 7, .nck (.t 6), none⟩,
    ⟨some 8, .fad 0 (.t 7), none⟩,
    ⟨some 9, .ld none (.t 8), none⟩,
    ⟨some 10, .len false (.t 9), none⟩,
    ⟨some 11, .bin .sub (.t 10) (.c (.int .i64 1)), none⟩,
    ⟨some 12, .call 49 [.t 5, .c (.int .i64 0), .t 11], none⟩,
    ⟨some 4, .mv (.t 12), none⟩] [] [4])
  .ret)), [(4, none)]⟩
theorem impl_Pool_isTerm_ok : okFn Tryd.prog 47 impl_Pool_isTerm = true := by kernel_rfl
def impl_PoolOk : IFn := ⟨36, (.seq (.reg false [⟨some 1, .box (.t 0), none⟩,
    ⟨some 2, .mv (.c (.bool false)), none⟩] [] [1])
  (.seq (.seq (.reg false [⟨some 6, .fad 0 (.t 1), none⟩,
    ⟨some 7, .ld none (.t 6), none⟩,
    ⟨some 8, .len false (.t 7), none⟩,
    ⟨some 9, .bin .gtr (.t 8) (.c (.int .i64 500)), none⟩] [] [1, 9])
  (.cond (.t 9)
  (.seq (.reg false [⟨some 2, .mv (.c (.bool false)), none⟩] [] [2])
  .ret)
  .skip))
  (.seq (.reg false [⟨some 10, .mkm true, none⟩,
    ⟨some 3, .mv (.t 10), none⟩] [] [1, 3])
  (.seq (.seq (.reg false [⟨some 11, .fad 0 (.t 1), none⟩,
    ⟨some 12, .ld none (.t 11), none⟩,
    ⟨some 13, .len false (.t 12), none⟩,
    ⟨some 14, .mv (.c (.int .i64 0)), none⟩] [] [3, 12, 13, 14])
  (.block 0 (.loop (.seq (.reg false [⟨some 15, .bin .lss (.t 14) (.t 13), none⟩] [] [3, 12, 13, 14, 15])
  (.seq (.cond (.t 15)
  .skip
  (.exit 0))
  (.seq (.block 1 (.seq (.reg false [⟨some 16, .mv (.t 14), none⟩,
    ⟨some 17, .iad 3 (.t 12) (.t 14), none⟩,
    ⟨some 18, .ld (some 3) (.t 17), none⟩,
    ⟨some 5, .new [.int .i64 0, .int .i64 0, .int .i64 0], none⟩,
    ⟨some 4, .mv (.t 16), none⟩,
    ⟨none, .st 3 (.t 5) (.t 18), none⟩] [] [3, 4, 5, 12, 13, 14])
  (.seq (.reg true [⟨some 19, .mv (.t 3), none⟩,
    ⟨some 20, .ld (some 3) (.t 5), none⟩,
    ⟨some 21, .mlk true (.t 19) (.t 20), none⟩,
    ⟨some 22, .bin .add (.t 21) (.c (.int .i64 1)), none⟩,
    ⟨some 23, .men true (.t 19) (.t 20), none⟩,
    ⟨some 24, .ext (.t 23) 1, none⟩,
    ⟨none, .mst true (.t 19) (.t 24) (.t 22), none⟩] [0, 0, 3, 7, 3, 19, 63] [3, 4, 5, 12, 13, 14])
  (.seq (.reg false [⟨some 25, .mv (.t 3), none⟩,
    ⟨some 26, .ld (some 3) (.t 5), none⟩,
    ⟨some 27, .mlk true (.t 25) (.t 26), none⟩,
    ⟨some 28, .bin .gtr (.t 27) (.c (.int .i64 1)), none⟩,
    ⟨some 29, .mv (.t 28), none⟩,
    ⟨some 30, .ld (some 3) (.t 5), some (29, false)⟩,
    ⟨some 31, .mv (.t 4), some (29, false)⟩,
    ⟨some 32, .call 56 [.t 30, .t 31], some (29, false)⟩,
    ⟨some 33, .not (.t 32), some (29, false)⟩,
    ⟨some 34, .pick (.t 29) (.c (.bool true)) (.t 33), none⟩] [] [3, 12, 13, 14, 34])
  (.cond (.t 34)
  (.seq (.reg false [⟨some 2, .mv (.c (.bool false)), none⟩] [] [2])
  .ret)
  .skip)))))
  (.reg false [⟨some 35, .bin .add (.t 14) (.c (.int .i64 1)), none⟩,
    ⟨some 14, .mv (.t 35), none⟩] [] [3, 12, 13, 14])))))))
  (.seq (.reg false [⟨some 2, .mv (.c (.bool true)), none⟩] [] [2])
  .ret))))), [(2, none)]⟩
theorem impl_PoolOk_ok : okFn Tryd.prog 48 impl_PoolOk = true := by kernel_rfl
def impl_inRange : IFn := ⟨15, (.seq (.reg false [⟨some 6, .mv (.c (.bool false)), none⟩] [] [0, 1, 2])
  (.seq (.reg false [⟨some 7, .mv (.t 0), none⟩,
    ⟨some 8, .mv (.t 1), none⟩,
    ⟨some 9, .bin .geq (.t 7) (.t 8), none⟩,
    ⟨some 10, .mv (.t 9), none⟩,
    ⟨some 11, .mv (.t 0), some (10, true)⟩,
    ⟨some 12, .mv (.t 2), some (10, true)⟩,
    ⟨some 13, .bin .leq (.t 11) (.t 12), some (10, true)⟩,
    ⟨some 14, .pick (.t 10) (.t 13) (.c (.bool false)), none⟩,
    ⟨some 6, .mv (.t 14), none⟩] [] [6])
  .ret)), [(6, none)]⟩
theorem impl_inRange_ok : okFn Tryd.prog 49 impl_inRange = true := by kernel_rfl
def impl_Pool_holds : IFn := ⟨211, (.seq (.reg false [⟨some 7, .box (.t 3), none⟩,
    ⟨some 8, .mv (.c (.bool false)), none⟩] [] [0, 1, 2, 7])
  (.seq (.seq (.reg false [⟨some 15, .mv (.t 0), none⟩,
    ⟨some 16, .fad 1 (.t 7), none⟩,
    ⟨some 17, .ld none (.t 16), none⟩,
    ⟨some 18, .call 47 [.t 15, .t 17], none⟩,
    ⟨some 19, .not (.t 18), none⟩] [] [0, 1, 2, 7, 19])
  (.cond (.t 19)
  (.seq (.reg false [⟨some 8, .mv (.c (.bool false)), none⟩] [] [8])
  .ret)
  .skip))
  (.seq (.reg false [⟨some 21, .mv (.t 0), none⟩,
    ⟨some 22, .mv (.t 2), none⟩,
    ⟨some 23, .ld (some 4) (.t 7), none⟩,
    ⟨some 24, .call 57 [.t 21, .t 22, .t 23], none⟩,
    ⟨some 20, .mv (.t 24), none⟩,
    ⟨some 25, .ext (.t 20) 0, none⟩,
    ⟨some 26, .ext (.t 20) 1, none⟩,
    ⟨some 27, .ext (.t 20) 2, none⟩,
    ⟨some 9, .mv (.t 25), none⟩,
    ⟨some 10, .mv (.t 26), none⟩,
    ⟨some 11, .mv (.t 27), none⟩] [] [0, 1, 7, 9, 10, 11])
  (.seq (.seq (.reg false [⟨some 28, .mv (.t 11), none⟩,
    ⟨some 29, .not (.t 28), none⟩] [] [0, 1, 7, 9, 10, 29])
  (.cond (.t 29)
  (.seq (.reg false [⟨some 8, .mv (.c (.bool false)), none⟩] [] [8])
  .ret)
  .skip))
  (.seq (.reg true [⟨some 30, .mv (.t 0), none⟩,
    ⟨some 31, .nck (.t 30), none⟩,
    ⟨some 32, .fad 0 (.t 31), none⟩,
    ⟨some 33, .ld none (.t 32), none⟩,
    ⟨some 34, .fad 1 (.t 7), none⟩,
    ⟨some 35, .ld none (.t 34), none⟩,
    ⟨some 36, .iad 3 (.t 33) (.t 35), none⟩,
    ⟨some 37, .ld (some 3) (.t 36), none⟩,
    ⟨some 12, .new [.int .i64 0, .int .i64 0, .int .i64 0], none⟩,
    ⟨none, .st 3 (.t 12) (.t 37), none⟩] [0, 1, 3, 7, 0, 16, 63, 127, 0, 511] [0, 1, 7, 9, 10, 12])
  (.seq (.seq (.reg false [⟨some 38, .fad 0 (.t 7), none⟩,
    ⟨some 39, .ld none (.t 38), none⟩] [] [0, 1, 7, 9, 10, 12, 39])
  (.block 0 (.seq (.reg false [⟨some 41, .bin .eql (.t 39) (.c (.int .i64 1)), none⟩,
    ⟨some 40, .mv (.t 41), none⟩] [] [0, 1, 7, 9, 10, 12, 39, 40])
  (.cond (.t 40)
  (.seq (.reg false [⟨some 42, .mv (.t 1), none⟩,
    ⟨some 43, .fad 1 (.t 7), none⟩,
    ⟨some 44, .ld none (.t 43), none⟩,
    ⟨some 45, .call 58 [.t 42, .t 44], none⟩,
    ⟨some 8, .mv (.t 45), none⟩] [] [8])
  .ret)
  (.seq (.reg false [⟨some 47, .bin .eql (.t 39) (.c (.int .i64 2)), none⟩,
    ⟨some 46, .mv (.t 47), none⟩] [] [0, 7, 9, 10, 12, 39, 46])
  (.cond (.t 46)
  (.seq (.reg false [⟨some 48, .fad 0 (.t 12), none⟩,
    ⟨some 49, .ld none (.t 48), none⟩,
    ⟨some 50, .bin .eql (.t 49) (.c (.int .i64 1)), none⟩,
    ⟨some 51, .mv (.t 50), none⟩,
    ⟨some 52, .fad 1 (.t 12), some (51, true)⟩,
    ⟨some 53, .ld none (.t 52), some (51, true)⟩,
    ⟨some 54, .call 59 [.t 53], some (51, true)⟩,
    ⟨some 55, .pick (.t 51) (.t 54) (.c (.bool false)), none⟩,
    ⟨some 8, .mv (.t 55), none⟩] [] [8])
  .ret)
  (.seq (.reg false [⟨some 57, .bin .eql (.t 39) (.c (.int .i64 3)), none⟩,
    ⟨some 56, .mv (.t 57), none⟩] [] [0, 7, 9, 10, 12, 39, 56])
  (.cond (.t 56)
  (.seq (.reg false [⟨some 58, .mv (.t 0), none⟩,
    ⟨some 59, .fad 1 (.t 7), none⟩,
    ⟨some 60, .ld none (.t 59), none⟩,
    ⟨some 61, .call 35 [.t 58, .t 60], none⟩,
    ⟨some 13, .mv (.t 61), none⟩] [] [9, 10, 13])
  (.seq (.reg false [⟨some 62, .mv (.t 13), none⟩,
    ⟨some 63, .len false (.t 62), none⟩,
    ⟨some 64, .bin .gtr (.t 63) (.c (.int .i64 0)), none⟩,
    ⟨some 65, .mv (.t 64), none⟩,
    ⟨some 66, .mv (.t 13), some (65, true)⟩,
    ⟨some 67, .iad 1 (.t 66) (.c (.int .i64 0)), some (65, true)⟩,
    ⟨some 68, .ld none (.t 67), some (65, true)⟩,
    ⟨some 69, .mv (.t 9), some (65, true)⟩,
    ⟨some 70, .bin .eql (.t 68) (.t 69), some (65, true)⟩,
    ⟨some 71, .pick (.t 65) (.t 70) (.c (.bool false)), none⟩,
    ⟨some 72, .mv (.t 71), none⟩,
    ⟨some 73, .mv (.t 13), some (72, true)⟩,
    ⟨some 74, .len false (.t 73), some (72, true)⟩,
    ⟨some 75, .bin .eql (.t 74) (.c (.int .i64 1)), some (72, true)⟩,
    ⟨some 76, .mv (.t 75), some (72, true)⟩,
    ⟨some 77, .mv (.t 13), some (76, false)⟩,
    ⟨some 78, .iad 1 (.t 77) (.c (.int .i64 1)), some (76, false)⟩,
    ⟨some 79, .ld none (.t 78), some (76, false)⟩,
    ⟨some 80, .mv (.t 10), some (76, false)⟩,
    ⟨some 81, .bin .eql (.t 79) (.t 80), some (76, false)⟩,
    ⟨some 82, .pick (.t 76) (.c (.bool true)) (.t 81), some (72, true)⟩,
    ⟨some 83, .pick (.t 72) (.t 82) (.c (.bool false)), none⟩,
    ⟨some 8, .mv (.t 83), none⟩] [] [8])
  .ret))
  (.seq (.reg false [⟨some 85, .bin .eql (.t 39) (.c (.int .i64 4)), none⟩,
    ⟨some 84, .mv (.t 85), none⟩] [] [0, 7, 9, 10, 12, 39, 84])
  (.cond (.t 84)
  (.seq (.reg false [⟨some 86, .mv (.t 0), none⟩,
    ⟨some 87, .nck (.t 86), none⟩,
    ⟨some 88, .fad 0 (.t 87), none⟩,
    ⟨some 89, .ld none (.t 88), none⟩,
    ⟨some 90, .mv (.t 10), none⟩,
    ⟨some 91, .iad 3 (.t 89) (.t 90), none⟩,
    ⟨some 92, .ld (some 3) (.t 91), none⟩,
    ⟨some 14, .new [.int .i64 0, .int .i64 0, .int .i64 0], none⟩,
    ⟨none, .st 3 (.t 14) (.t 92), none⟩] [] [9, 12, 14])
  (.seq (.reg false [⟨some 93, .fad 0 (.t 12), none⟩,
    ⟨some 94, .ld none (.t 93), none⟩,
    ⟨some 95, .bin .eql (.t 94) (.c (.int .i64 8)), none⟩,
    ⟨some 96, .mv (.t 95), none⟩,
    ⟨some 97, .fad 0 (.t 14), some (96, true)⟩,
    ⟨some 98, .ld none (.t 97), some (96, true)⟩,
    ⟨some 99, .bin .eql (.t 98) (.c (.int .i64 7)), some (96, true)⟩,
    ⟨some 100, .pick (.t 96) (.t 99) (.c (.bool false)), none⟩,
    ⟨some 101, .mv (.t 100), none⟩,
    ⟨some 102, .mv (.t 9), some (101, true)⟩,
    ⟨some 103, .fad 1 (.t 12), some (101, true)⟩,
    ⟨some 104, .ld none (.t 103), some (101, true)⟩,
    ⟨some 105, .bin .eql (.t 102) (.t 104), some (101, true)⟩,
    ⟨some 106, .mv (.t 105), some (101, true)⟩,
    ⟨some 107, .fad 1 (.t 14), some (106, true)⟩,
    ⟨some 108, .ld none (.t 107), some (106, true)⟩,
    ⟨some 109, .fad 2 (.t 12), some (106, true)⟩,
    ⟨some 110, .ld none (.t 109), some (106, true)⟩,
    ⟨some 111, .bin .eql (.t 108) (.t 110), some (106, true)⟩,
    ⟨some 112, .pick (.t 106) (.t 111) (.c (.bool false)), some (101, true)⟩,
    ⟨some 113, .mv (.t 112), some (101, true)⟩,
    ⟨some 114, .mv (.t 9), some (113, false)⟩,
    ⟨some 115, .fad 2 (.t 12), some (113, false)⟩,
    ⟨some 116, .ld none (.t 115), some (113, false)⟩,
    ⟨some 117, .bin .eql (.t 114) (.t 116), some (113, false)⟩,
    ⟨some 118, .mv (.t 117), some (113, false)⟩,
    ⟨some 119, .fad 1 (.t 14), some (118, true)⟩,
    ⟨some 120, .ld none (.t 119), some (118, true)⟩,
    ⟨some 121, .fad 1 (.t 12), some (118, true)⟩,
    ⟨some 122, .ld none (.t 121), some (118, true)⟩,
    ⟨some 123, .bin .eql (.t 120) (.t 122), some (118, true)⟩,
    ⟨some 124, .pick (.t 118) (.t 123) (.c (.bool false)), some (113, false)⟩,
    ⟨some 125, .pick (.t 113) (.c (.bool true)) (.t 124), some (101, true)⟩,
    ⟨some 126, .pick (.t 101) (.t 125) (.c (.bool false)), none⟩,
    ⟨some 8, .mv (.t 126), none⟩] [] [8])
  .ret))
  (.seq (.reg false [⟨some 128, .bin .eql (.t 39) (.c (.int .i64 7)), none⟩,
    ⟨some 127, .mv (.t 128), none⟩] [] [0, 7, 9, 10, 39, 127])
  (.cond (.t 127)
  (.seq (.reg true [⟨some 129, .mv (.t 0), none⟩,
    ⟨some 130, .nck (.t 129), none⟩,
    ⟨some 131, .fad 0 (.t 130), none⟩,
    ⟨some 132, .ld none (.t 131), none⟩,
    ⟨some 133, .mv (.t 9), none⟩,
    ⟨some 134, .iad 3 (.t 132) (.t 133), none⟩,
    ⟨some 135, .ld (some 3) (.t 134), none⟩,
    ⟨some 136, .fad 1 (.t 7), none⟩,
    ⟨some 137, .ld none (.t 136), none⟩,
    ⟨some 138, .mv (.t 10), none⟩,
    ⟨some 139, .build [.int .i64 0, .int .i64 0, .int .i64 0] [(0, 1, .c (.int .i64 3)), (1, 1, .t 137), (2, 1, .t 138)], none⟩,
    ⟨some 140, .eqs false [1, 1, 1] (.t 135) (.t 139), none⟩,
    ⟨some 8, .mv (.t 140), none⟩] [0, 1, 3, 7, 0, 31, 63, 0, 128, 0, 896, 2047, 4095] [8])
  .ret)
  (.seq (.reg false [⟨some 142, .bin .eql (.t 39) (.c (.int .i64 5)), none⟩,
    ⟨some 141, .mv (.t 142), none⟩] [] [0, 7, 9, 39, 141])
  (.cond (.t 141)
  (.seq (.reg true [⟨some 143, .mv (.t 0), none⟩,
    ⟨some 144, .nck (.t 143), none⟩,
    ⟨some 145, .fad 0 (.t 144), none⟩,
    ⟨some 146, .ld none (.t 145), none⟩,
    ⟨some 147, .mv (.t 9), none⟩,
    ⟨some 148, .iad 3 (.t 146) (.t 147), none⟩,
    ⟨some 149, .fad 0 (.t 148), none⟩,
    ⟨some 150, .ld none (.t 149), none⟩,
    ⟨some 151, .bin .eql (.t 150) (.c (.int .i64 2)), none⟩,
    ⟨some 152, .mv (.t 151), none⟩,
    ⟨some 153, .mv (.t 0), some (152, true)⟩,
    ⟨some 154, .nck (.t 153), some (152, true)⟩,
    ⟨some 155, .fad 0 (.t 154), some (152, true)⟩,
    ⟨some 156, .ld none (.t 155), some (152, true)⟩,
    ⟨some 157, .mv (.t 9), some (152, true)⟩,
    ⟨some 158, .iad 3 (.t 156) (.t 157), some (152, true)⟩,
    ⟨some 159, .fad 1 (.t 158), some (152, true)⟩,
    ⟨some 160, .ld none (.t 159), some (152, true)⟩,
    ⟨some 161, .fad 1 (.t 7), some (152, true)⟩,
    ⟨some 162, .ld none (.t 161), some (152, true)⟩,
    ⟨some 163, .bin .eql (.t 160) (.t 162), some (152, true)⟩,
    ⟨some 164, .pick (.t 152) (.t 163) (.c (.bool false)), none⟩,
    ⟨some 8, .mv (.t 164), none⟩] [0, 1, 3, 7, 0, 31, 63, 127, 255, 511, 1023, 2047, 4095, 8191, 1023, 32767, 65535, 131071, 1023, 263167, 1048575, 2097151, 4194303] [8])
  .ret)
  (.seq (.reg false [⟨some 166, .bin .eql (.t 39) (.c (.int .i64 6)), none⟩,
    ⟨some 165, .mv (.t 166), none⟩] [] [0, 7, 9, 165])
  (.cond (.t 165)
  (.seq (.reg true [⟨some 167, .mv (.t 0), none⟩,
    ⟨some 168, .nck (.t 167), none⟩,
    ⟨some 169, .fad 0 (.t 168), none⟩,
    ⟨some 170, .ld none (.t 169), none⟩,
    ⟨some 171, .mv (.t 9), none⟩,
    ⟨some 172, .iad 3 (.t 170) (.t 171), none⟩,
    ⟨some 173, .fad 0 (.t 172), none⟩,
    ⟨some 174, .ld none (.t 173), none⟩,
    ⟨some 175, .bin .eql (.t 174) (.c (.int .i64 2)), none⟩,
    ⟨some 176, .mv (.t 175), none⟩,
    ⟨some 177, .mv (.t 0), some (176, true)⟩,
    ⟨some 178, .nck (.t 177), some (176, true)⟩,
    ⟨some 179, .fad 0 (.t 178), some (176, true)⟩,
    ⟨some 180, .ld none (.t 179), some (176, true)⟩,
    ⟨some 181, .mv (.t 9), some (176, true)⟩,
    ⟨some 182, .iad 3 (.t 180) (.t 181), some (176, true)⟩,
    ⟨some 183, .fad 2 (.t 182), some (176, true)⟩,
    ⟨some 184, .ld none (.t 183), some (176, true)⟩,
    ⟨some 185, .fad 1 (.t 7), some (176, true)⟩,
    ⟨some 186, .ld none (.t 185), some (176, true)⟩,
    ⟨some 187, .bin .eql (.t 184) (.t 186), some (176, true)⟩,
    ⟨some 188, .pick (.t 176) (.t 187) (.c (.bool false)), none⟩,
    ⟨some 8, .mv (.t 188), none⟩] [0, 1, 3, 7, 0, 31, 63, 127, 255, 511, 1023, 2047, 4095, 8191, 1023, 32767, 65535, 131071, 1023, 263167, 1048575, 2097151, 4194303] [8])
  .ret)
  .skip))))))))))))))))
  (.seq (.reg true [⟨some 189, .mv (.t 0), none⟩,
    ⟨some 190, .nck (.t 189), none⟩,
    ⟨some 191, .fad 0 (.t 190), none⟩,
    ⟨some 192, .ld none (.t 191), none⟩,
    ⟨some 193, .mv (.t 9), none⟩,
    ⟨some 194, .iad 3 (.t 192) (.t 193), none⟩,
    ⟨some 195, .fad 0 (.t 194), none⟩,
    ⟨some 196, .ld none (.t 195), none⟩,
    ⟨some 197, .bin .eql (.t 196) (.c (.int .i64 4)), none⟩,
    ⟨some 198, .mv (.t 197), none⟩,
    ⟨some 199, .mv (.t 0), some (198, true)⟩,
    ⟨some 200, .nck (.t 199), some (198, true)⟩,
    ⟨some 201, .fad 0 (.t 200), some (198, true)⟩,
    ⟨some 202, .ld none (.t 201), some (198, true)⟩,
    ⟨some 203, .mv (.t 9), some (198, true)⟩,
    ⟨some 204, .iad 3 (.t 202) (.t 203), some (198, true)⟩,
    ⟨some 205, .fad 1 (.t 204), some (198, true)⟩,
    ⟨some 206, .ld none (.t 205), some (198, true)⟩,
    ⟨some 207, .fad 1 (.t 7), some (198, true)⟩,
    ⟨some 208, .ld none (.t 207), some (198, true)⟩,
    ⟨some 209, .bin .eql (.t 206) (.t 208), some (198, true)⟩,
    ⟨some 210, .pick (.t 198) (.t 209) (.c (.bool false)), none⟩,
    ⟨some 8, .mv (.t 210), none⟩] [0, 1, 3, 7, 0, 31, 63, 127, 255, 511, 1023, 2047, 4095, 8191, 1023, 32767, 65535, 131071, 1023, 263167, 1048575, 2097151, 4194303] [8])
  .ret))))))), [(8, none)]⟩
theorem impl_Pool_holds_ok : okFn Tryd.prog 50 impl_Pool_holds = true := by kernel_rfl
def impl_count : IFn := ⟨15, (.seq (.reg false [⟨some 2, .mv (.c (.int .i64 0)), none⟩] [] [0])
  (.seq (.seq (.reg false [⟨some 3, .mv (.t 0), none⟩] [] [3])
  (.block 0 (.seq (.reg false [⟨some 5, .bin .eql (.t 3) (.c (.int .i64 1)), none⟩,
    ⟨some 4, .mv (.t 5), none⟩] [] [3, 4])
  (.cond (.t 4)
  (.seq (.reg false [⟨some 2, .mv (.c (.int .i64 0)), none⟩] [] [2])
  .ret)
  (.seq (.seq (.reg false [⟨some 7, .bin .eql (.t 3) (.c (.int .i64 5)), none⟩,
    ⟨some 6, .mv (.t 7), none⟩] [] [3, 6])
  (.cond (.t 6)
  .skip
  (.reg false [⟨some 8, .bin .eql (.t 3) (.c (.int .i64 7)), none⟩,
    ⟨some 6, .mv (.t 8), none⟩] [] [3, 6])))
  (.cond (.t 6)
  (.seq (.reg false [⟨some 2, .mv (.c (.int .i64 1)), none⟩] [] [2])
  .ret)
  (.seq (.seq (.reg false [⟨some 10, .bin .eql (.t 3) (.c (.int .i64 2)), none⟩,
    ⟨some 9, .mv (.t 10), none⟩] [] [3, 9])
  (.cond (.t 9)
  .skip
  (.seq (.reg false [⟨some 11, .bin .eql (.t 3) (.c (.int .i64 3)), none⟩,
    ⟨some 9, .mv (.t 11), none⟩] [] [3, 9])
  (.cond (.t 9)
  .skip
  (.seq (.reg false [⟨some 12, .bin .eql (.t 3) (.c (.int .i64 4)), none⟩,
    ⟨some 9, .mv (.t 12), none⟩] [] [3, 9])
  (.cond (.t 9)
  .skip
  (.seq (.reg false [⟨some 13, .bin .eql (.t 3) (.c (.int .i64 6)), none⟩,
    ⟨some 9, .mv (.t 13), none⟩] [] [3, 9])
  (.cond (.t 9)
  .skip
  (.reg false [⟨some 14, .bin .eql (.t 3) (.c (.int .i64 8)), none⟩,
    ⟨some 9, .mv (.t 14), none⟩] [] [9])))))))))
  (.cond (.t 9)
  (.seq (.reg false [⟨some 2, .mv (.c (.int .i64 2)), none⟩] [] [2])
  .ret)
  .skip))))))))
  (.seq (.reg false [⟨some 2, .mv (.c (.int .i64 (-1))), none⟩] [] [2])
  .ret))), [(2, none)]⟩
theorem impl_count_ok : okFn Tryd.prog 51 impl_count = true := by kernel_rfl
def impl_signsOf : IFn := ⟨17, (.seq (.reg false [⟨some 2, .mv (.c (.str ⟨#[]⟩)), none⟩,
    ⟨some 3, .mv (.c (.str ⟨#[]⟩)), none⟩] [] [0])
  (.seq (.seq (.reg false [⟨some 4, .mv (.t 0), none⟩] [] [4])
  (.block 0 (.seq (.reg false [⟨some 6, .bin .eql (.t 4) (.c (.int .i64 2)), none⟩,
    ⟨some 5, .mv (.t 6), none⟩] [] [4, 5])
  (.cond (.t 5)
  (.seq (.reg false [⟨some 2, .mv (.c (.str ⟨#[40]⟩)), none⟩,
    ⟨some 3, .mv (.c (.str ⟨#[41]⟩)), none⟩] [] [2, 3])
  .ret)
  (.seq (.reg false [⟨some 8, .bin .eql (.t 4) (.c (.int .i64 3)), none⟩,
    ⟨some 7, .mv (.t 8), none⟩] [] [4, 7])
  (.cond (.t 7)
  (.seq (.reg false [⟨some 2, .mv (.c (.str ⟨#[123]⟩)), none⟩,
    ⟨some 3, .mv (.c (.str ⟨#[125]⟩)), none⟩] [] [2, 3])
  .ret)
  (.seq (.reg false [⟨some 10, .bin .eql (.t 4) (.c (.int .i64 4)), none⟩,
    ⟨some 9, .mv (.t 10), none⟩] [] [4, 9])
  (.cond (.t 9)
  (.seq (.reg false [⟨some 2, .mv (.c (.str ⟨#[91]⟩)), none⟩,
    ⟨some 3, .mv (.c (.str ⟨#[93]⟩)), none⟩] [] [2, 3])
  .ret)
  (.seq (.reg false [⟨some 12, .bin .eql (.t 4) (.c (.int .i64 5)), none⟩,
    ⟨some 11, .mv (.t 12), none⟩] [] [4, 11])
  (.cond (.t 11)
  (.seq (.reg false [⟨some 2, .mv (.c (.str ⟨#[35]⟩)), none⟩,
    ⟨some 3, .mv (.c (.str ⟨#[]⟩)), none⟩] [] [2, 3])
  .ret)
  (.seq (.reg false [⟨some 14, .bin .eql (.t 4) (.c (.int .i64 6)), none⟩,
    ⟨some 13, .mv (.t 14), none⟩] [] [4, 13])
  (.cond (.t 13)
  (.seq (.reg false [⟨some 2, .mv (.c (.str ⟨#[107, 40]⟩)), none⟩,
    ⟨some 3, .mv (.c (.str ⟨#[41]⟩)), none⟩] [] [2, 3])
  .ret)
  (.seq (.reg false [⟨some 16, .bin .eql (.t 4) (.c (.int .i64 7)), none⟩,
    ⟨some 15, .mv (.t 16), none⟩] [] [15])
  (.cond (.t 15)
  (.seq (.reg false [⟨some 2, .mv (.c (.str ⟨#[94]⟩)), none⟩,
    ⟨some 3, .mv (.c (.str ⟨#[]⟩)), none⟩] [] [2, 3])
  .ret)
  .skip))))))))))))))
  (.seq (.reg false [⟨some 2, .mv (.c (.str ⟨#[42, 40]⟩)), none⟩,
    ⟨some 3, .mv (.c (.str ⟨#[41]⟩)), none⟩] [] [2, 3])
  .ret))), [(2, none), (3, none)]⟩
theorem impl_signsOf_ok : okFn Tryd.prog 53 impl_signsOf = true := by kernel_rfl
def spec_l1Right : IFn := ⟨56, (.seq (.reg false [⟨some 2, .box (.t 0), none⟩,
    ⟨some 4, .mv (.c (.bool false)), none⟩] [] [1, 2])
  (.seq (.seq (.reg false [⟨some 5, .fad 0 (.t 2), none⟩,
    ⟨some 6, .ld none (.t 5), none⟩,
    ⟨some 7, .call 31 [.t 6], none⟩] [] [1, 2, 7])
  (.block 0 (.seq (.reg false [⟨some 9, .bin .eql (.t 7) (.c (.int .i64 0)), none⟩,
    ⟨some 8, .mv (.t 9), none⟩] [] [1, 2, 7, 8])
  (.cond (.t 8)
  (.seq (.reg false [⟨some 10, .fad 1 (.t 2), none⟩,
    ⟨some 11, .ld none (.t 10), none⟩,
    ⟨some 12, .call 43 [.t 11, .c (.int .i64 0), .c (.int .i64 199)], none⟩,
    ⟨some 13, .mv (.t 12), none⟩,
    ⟨some 14, .fad 2 (.t 2), some (13, true)⟩,
    ⟨some 15, .ld none (.t 14), some (13, true)⟩,
    ⟨some 16, .bin .eql (.t 15) (.c (.int .i64 0)), some (13, true)⟩,
    ⟨some 17, .pick (.t 13) (.t 16) (.c (.bool false)), none⟩,
    ⟨some 4, .mv (.t 17), none⟩] [] [4])
  .ret)
  (.seq (.reg false [⟨some 19, .bin .eql (.t 7) (.c (.int .i64 1)), none⟩,
    ⟨some 18, .mv (.t 19), none⟩] [] [1, 2, 7, 18])
  (.cond (.t 18)
  (.seq (.reg false [⟨some 20, .fad 1 (.t 2), none⟩,
    ⟨some 21, .ld none (.t 20), none⟩,
    ⟨some 22, .mv (.t 1), none⟩,
    ⟨some 23, .bin .sub (.t 22) (.c (.int .i64 1)), none⟩,
    ⟨some 24, .call 43 [.t 21, .c (.int .i64 0), .t 23], none⟩,
    ⟨some 25, .mv (.t 24), none⟩,
    ⟨some 26, .fad 2 (.t 2), some (25, true)⟩,
    ⟨some 27, .ld none (.t 26), some (25, true)⟩,
    ⟨some 28, .bin .eql (.t 27) (.c (.int .i64 0)), some (25, true)⟩,
    ⟨some 29, .pick (.t 25) (.t 28) (.c (.bool false)), none⟩,
    ⟨some 4, .mv (.t 29), none⟩] [] [4])
  .ret)
  (.seq (.reg false [⟨some 31, .bin .eql (.t 7) (.c (.int .i64 2)), none⟩,
    ⟨some 30, .mv (.t 31), none⟩] [] [1, 2, 30])
  (.cond (.t 30)
  (.seq (.reg false [⟨some 32, .fad 1 (.t 2), none⟩,
    ⟨some 33, .ld none (.t 32), none⟩,
    ⟨some 34, .mv (.t 1), none⟩,
    ⟨some 35, .bin .sub (.t 34) (.c (.int .i64 1)), none⟩,
    ⟨some 36, .call 43 [.t 33, .c (.int .i64 0), .t 35], none⟩,
    ⟨some 37, .mv (.t 36), none⟩,
    ⟨some 38, .fad 2 (.t 2), some (37, true)⟩,
    ⟨some 39, .ld none (.t 38), some (37, true)⟩,
    ⟨some 40, .mv (.t 1), some (37, true)⟩,
    ⟨some 41, .bin .sub (.t 40) (.c (.int .i64 1)), some (37, true)⟩,
    ⟨some 42, .call 43 [.t 39, .c (.int .i64 0), .t 41], some (37, true)⟩,
    ⟨some 43, .pick (.t 37) (.t 42) (.c (.bool false)), none⟩,
    ⟨some 44, .mv (.t 43), none⟩,
    ⟨some 45, .fad 0 (.t 2), some (44, true)⟩,
    ⟨some 46, .ld none (.t 45), some (44, true)⟩,
    ⟨some 47, .bin .neq (.t 46) (.c (.int .i64 8)), some (44, true)⟩,
    ⟨some 48, .mv (.t 47), some (44, true)⟩,
    ⟨some 49, .fad 1 (.t 2), some (48, false)⟩,
    ⟨some 50, .ld none (.t 49), some (48, false)⟩,
    ⟨some 51, .fad 2 (.t 2), some (48, false)⟩,
    ⟨some 52, .ld none (.t 51), some (48, false)⟩,
    ⟨some 53, .bin .leq (.t 50) (.t 52), some (48, false)⟩,
    ⟨some 54, .pick (.t 48) (.c (.bool true)) (.t 53), some (44, true)⟩,
    ⟨some 55, .pick (.t 44) (.t 54) (.c (.bool false)), none⟩,
    ⟨some 4, .mv (.t 55), none⟩] [] [4])
  .ret)
  .skip))))))))
  (.seq (.reg false [⟨some 4, .mv (.c (.bool false)), none⟩] [] [4])
  .ret))), [(4, none)]⟩
theorem spec_l1Right_ok : okFn Tryd.prog 54 spec_l1Right = true := by kernel_rfl
def spec_l1Find : IFn := ⟨21, (.seq (.reg false [⟨some 2, .box (.t 0), none⟩,
    ⟨some 3, .box (.t 1), none⟩,
    ⟨some 4, .mv (.c (.int .i64 0)), none⟩] [] [2, 3])
  (.seq (.seq (.reg false [⟨some 5, .mv (.c (.int .i64 0)), none⟩] [] [2, 3, 5])
  (.block 0 (.loop (.seq (.seq (.reg false [⟨some 6, .mv (.t 5), none⟩,
    ⟨some 7, .fad 0 (.t 2), none⟩,
    ⟨some 8, .ld none (.t 7), none⟩,
    ⟨some 9, .len false (.t 8), none⟩,
    ⟨some 10, .bin .lss (.t 6) (.t 9), none⟩] [] [2, 3, 5, 10])
  (.cond (.t 10)
  .skip
  (.exit 0)))
  (.seq (.block 1 (.seq (.reg true [⟨some 13, .fad 0 (.t 2), none⟩,
    ⟨some 14, .ld none (.t 13), none⟩,
    ⟨some 15, .mv (.t 5), none⟩,
    ⟨some 16, .iad 3 (.t 14) (.t 15), none⟩,
    ⟨some 17, .ld (some 3) (.t 16), none⟩,
    ⟨some 18, .ld (some 3) (.t 3), none⟩,
    ⟨some 19, .eqs false [1, 1, 1] (.t 17) (.t 18), none⟩] [0, 1, 0, 7, 15, 0, 63] [2, 3, 5, 19])
  (.cond (.t 19)
  (.seq (.reg false [⟨some 20, .mv (.t 5), none⟩,
    ⟨some 4, .mv (.t 20), none⟩] [] [4])
  .ret)
  .skip)))
  (.reg false [⟨some 11, .mv (.t 5), none⟩,
    ⟨some 12, .bin .add (.t 11) (.c (.int .i64 1)), none⟩,
    ⟨some 5, .mv (.t 12), none⟩] [] [2, 3, 5]))))))
  (.seq (.reg false [⟨some 4, .mv (.c (.int .i64 (-1))), none⟩] [] [4])
  .ret))), [(4, none)]⟩
theorem spec_l1Find_ok : okFn Tryd.prog 55 spec_l1Find = true := by kernel_rfl
def impl_nodeOk : IFn := ⟨56, (.seq (.reg false [⟨some 2, .box (.t 0), none⟩,
    ⟨some 4, .mv (.c (.bool false)), none⟩] [] [1, 2])
  (.seq (.seq (.reg false [⟨some 5, .fad 0 (.t 2), none⟩,
    ⟨some 6, .ld none (.t 5), none⟩,
    ⟨some 7, .call 51 [.t 6], none⟩] [] [1, 2, 7])
  (.block 0 (.seq (.reg false [⟨some 9, .bin .eql (.t 7) (.c (.int .i64 0)), none⟩,
    ⟨some 8, .mv (.t 9), none⟩] [] [1, 2, 7, 8])
  (.cond (.t 8)
  (.seq (.reg false [⟨some 10, .fad 1 (.t 2), none⟩,
    ⟨some 11, .ld none (.t 10), none⟩,
    ⟨some 12, .call 49 [.t 11, .c (.int .i64 0), .c (.int .i64 199)], none⟩,
    ⟨some 13, .mv (.t 12), none⟩,
    ⟨some 14, .fad 2 (.t 2), some (13, true)⟩,
    ⟨some 15, .ld none (.t 14), some (13, true)⟩,
    ⟨some 16, .bin .eql (.t 15) (.c (.int .i64 0)), some (13, true)⟩,
    ⟨some 17, .pick (.t 13) (.t 16) (.c (.bool false)), none⟩,
    ⟨some 4, .mv (.t 17), none⟩] [] [4])
  .ret)
  (.seq (.reg false [⟨some 19, .bin .eql (.t 7) (.c (.int .i64 1)), none⟩,
    ⟨some 18, .mv (.t 19), none⟩] [] [1, 2, 7, 18])
  (.cond (.t 18)
  (.seq (.reg false [⟨some 20, .fad 1 (.t 2), none⟩,
    ⟨some 21, .ld none (.t 20), none⟩,
    ⟨some 22, .mv (.t 1), none⟩,
    ⟨some 23, .bin .sub (.t 22) (.c (.int .i64 1)), none⟩,
    ⟨some 24, .call 49 [.t 21, .c (.int .i64 0), .t 23], none⟩,
    ⟨some 25, .mv (.t 24), none⟩,
    ⟨some 26, .fad 2 (.t 2), some (25, true)⟩,
    ⟨some 27, .ld none (.t 26), some (25, true)⟩,
    ⟨some 28, .bin .eql (.t 27) (.c (.int .i64 0)), some (25, true)⟩,
    ⟨some 29, .pick (.t 25) (.t 28) (.c (.bool false)), none⟩,
    ⟨some 4, .mv (.t 29), none⟩] [] [4])
  .ret)
  (.seq (.reg false [⟨some 31, .bin .eql (.t 7) (.c (.int .i64 2)), none⟩,
    ⟨some 30, .mv (.t 31), none⟩] [] [1, 2, 30])
  (.cond (.t 30)
  (.seq (.reg false [⟨some 32, .fad 1 (.t 2), none⟩,
    ⟨some 33, .ld none (.t 32), none⟩,
    ⟨some 34, .mv (.t 1), none⟩,
    ⟨some 35, .bin .sub (.t 34) (.c (.int .i64 1)), none⟩,
    ⟨some 36, .call 49 [.t 33, .c (.int .i64 0), .t 35], none⟩,
    ⟨some 37, .mv (.t 36), none⟩,
    ⟨some 38, .fad 2 (.t 2), some (37, true)⟩,
    ⟨some 39, .ld none (.t 38), some (37, true)⟩,
    ⟨some 40, .mv (.t 1), some (37, true)⟩,
    ⟨some 41, .bin .sub (.t 40) (.c (.int .i64 1)), some (37, true)⟩,
    ⟨some 42, .call 49 [.t 39, .c (.int .i64 0), .t 41], some (37, true)⟩,
    ⟨some 43, .pick (.t 37) (.t 42) (.c (.bool false)), none⟩,
    ⟨some 44, .mv (.t 43), none⟩,
    ⟨some 45, .fad 0 (.t 2), some (44, true)⟩,
    ⟨some 46, .ld none (.t 45), some (44, true)⟩,
    ⟨some 47, .bin .neq (.t 46) (.c (.int .i64 8)), some (44, true)⟩,
    ⟨some 48, .mv (.t 47), some (44, true)⟩,
    ⟨some 49, .fad 1 (.t 2), some (48, false)⟩,
    ⟨some 50, .ld none (.t 49), some (48, false)⟩,
    ⟨some 51, .fad 2 (.t 2), some (48, false)⟩,
    ⟨some 52, .ld none (.t 51), some (48, false)⟩,
    ⟨some 53, .bin .leq (.t 50) (.t 52), some (48, false)⟩,
    ⟨some 54, .pick (.t 48) (.c (.bool true)) (.t 53), some (44, true)⟩,
    ⟨some 55, .pick (.t 44) (.t 54) (.c (.bool false)), none⟩,
    ⟨some 4, .mv (.t 55), none⟩] [] [4])
  .ret)
  .skip))))))))
  (.seq (.reg false [⟨some 4, .mv (.c (.bool false)), none⟩] [] [4])
  .ret))), [(4, none)]⟩
theorem impl_nodeOk_ok : okFn Tryd.prog 56 impl_nodeOk = true := by kernel_rfl
def impl_Pool_terms : IFn := ⟨67, (.seq (.reg false [⟨some 5, .box (.t 2), none⟩,
    ⟨some 6, .mv (.c (.int .i64 0)), none⟩,
    ⟨some 7, .mv (.c (.int .i64 0)), none⟩,
    ⟨some 8, .mv (.c (.bool false)), none⟩] [] [0, 1, 5])
  (.seq (.reg false [⟨some 12, .mv (.t 0), none⟩,
    ⟨some 13, .ld (some 4) (.t 5), none⟩,
    ⟨some 14, .call 20 [.t 12, .t 13], none⟩,
    ⟨some 9, .mv (.t 14), none⟩] [] [1, 5, 9])
  (.seq (.seq (.reg false [⟨some 15, .mv (.t 9), none⟩,
    ⟨some 16, .bin .lss (.t 15) (.c (.int .i64 0)), none⟩,
    ⟨some 17, .mv (.t 16), none⟩,
    ⟨some 18, .mv (.t 9), some (17, false)⟩,
    ⟨some 19, .bin .lss (.t 18) (.c (.int .i64 1)), some (17, false)⟩,
    ⟨some 20, .mv (.t 19), some (17, false)⟩,
    ⟨some 21, .fad 2 (.t 5), some (20, true)⟩,
    ⟨some 22, .ld none (.t 21), some (20, true)⟩,
    ⟨some 23, .bin .neq (.t 22) (.c (.int .i64 0)), some (20, true)⟩,
    ⟨some 24, .pick (.t 20) (.t 23) (.c (.bool false)), some (17, false)⟩,
    ⟨some 25, .pick (.t 17) (.c (.bool true)) (.t 24), none⟩,
    ⟨some 26, .mv (.t 25), none⟩,
    ⟨some 27, .mv (.t 9), some (26, false)⟩,
    ⟨some 28, .bin .lss (.t 27) (.c (.int .i64 2)), some (26, false)⟩,
    ⟨some 29, .mv (.t 28), some (26, false)⟩,
    ⟨some 30, .fad 3 (.t 5), some (29, true)⟩,
    ⟨some 31, .ld none (.t 30), some (29, true)⟩,
    ⟨some 32, .bin .neq (.t 31) (.c (.int .i64 0)), some (29, true)⟩,
    ⟨some 33, .pick (.t 29) (.t 32) (.c (.bool false)), some (26, false)⟩,
    ⟨some 34, .pick (.t 26) (.c (.bool true)) (.t 33), none⟩] [] [1, 5, 9, 34])
  (.cond (.t 34)
  (.seq (.reg false [⟨some 6, .mv (.c (.int .i64 0)), none⟩,
    ⟨some 7, .mv (.c (.int .i64 0)), none⟩,
    ⟨some 8, .mv (.c (.bool false)), none⟩] [] [6, 7, 8])
  .ret)
  .skip))
  (.seq (.reg false [⟨some 10, .mv (.c (.int .i64 (-1))), none⟩,
    ⟨some 11, .mv (.c (.int .i64 (-1))), none⟩] [] [1, 5, 9, 10, 11])
  (.seq (.seq (.reg false [⟨some 35, .mv (.t 9), none⟩,
    ⟨some 36, .bin .gtr (.t 35) (.c (.int .i64 0)), none⟩] [] [1, 5, 9, 10, 11, 36])
  (.cond (.t 36)
  (.seq (.seq (.reg false [⟨some 37, .fad 2 (.t 5), none⟩,
    ⟨some 38, .ld none (.t 37), none⟩,
    ⟨some 39, .mv (.t 1), none⟩,
    ⟨some 40, .len false (.t 39), none⟩,
    ⟨some 41, .bin .sub (.t 40) (.c (.int .i64 1)), none⟩,
    ⟨some 42, .call 49 [.t 38, .c (.int .i64 0), .t 41], none⟩,
    ⟨some 43, .not (.t 42), none⟩] [] [1, 5, 9, 11, 43])
  (.cond (.t 43)
  (.seq (.reg false [⟨some 6, .mv (.c (.int .i64 0)), none⟩,
    ⟨some 7, .mv (.c (.int .i64 0)), none⟩,
    ⟨some 8, .mv (.c (.bool false)), none⟩] [] [6, 7, 8])
  .ret)
  .skip))
  (.reg false [⟨some 44, .mv (.t 1), none⟩,
    ⟨some 45, .fad 2 (.t 5), none⟩,
    ⟨some 46, .ld none (.t 45), none⟩,
    ⟨some 47, .iad 4 (.t 44) (.t 46), none⟩,
    ⟨some 48, .fad 1 (.t 47), none⟩,
    ⟨some 49, .ld none (.t 48), none⟩,
    ⟨some 10, .mv (.t 49), none⟩] [] [1, 5, 9, 10, 11]))
  .skip))
  (.seq (.seq (.reg false [⟨some 50, .mv (.t 9), none⟩,
    ⟨some 51, .bin .gtr (.t 50) (.c (.int .i64 1)), none⟩] [] [1, 5, 10, 11, 51])
  (.cond (.t 51)
  (.seq (.seq (.reg false [⟨some 52, .fad 3 (.t 5), none⟩,
    ⟨some 53, .ld none (.t 52), none⟩,
    ⟨some 54, .mv (.t 1), none⟩,
    ⟨some 55, .len false (.t 54), none⟩,
    ⟨some 56, .bin .sub (.t 55) (.c (.int .i64 1)), none⟩,
    ⟨some 57, .call 49 [.t 53, .c (.int .i64 0), .t 56], none⟩,
    ⟨some 58, .not (.t 57), none⟩] [] [1, 5, 10, 58])
  (.cond (.t 58)
  (.seq (.reg false [⟨some 6, .mv (.c (.int .i64 0)), none⟩,
    ⟨some 7, .mv (.c (.int .i64 0)), none⟩,
    ⟨some 8, .mv (.c (.bool false)), none⟩] [] [6, 7, 8])
  .ret)
  .skip))
  (.reg false [⟨some 59, .mv (.t 1), none⟩,
    ⟨some 60, .fad 3 (.t 5), none⟩,
    ⟨some 61, .ld none (.t 60), none⟩,
    ⟨some 62, .iad 4 (.t 59) (.t 61), none⟩,
    ⟨some 63, .fad 1 (.t 62), none⟩,
    ⟨some 64, .ld none (.t 63), none⟩,
    ⟨some 11, .mv (.t 64), none⟩] [] [10, 11]))
  .skip))
  (.seq (.reg false [⟨some 65, .mv (.t 10), none⟩,
    ⟨some 66, .mv (.t 11), none⟩,
    ⟨some 6, .mv (.t 65), none⟩,
    ⟨some 7, .mv (.t 66), none⟩,
    ⟨some 8, .mv (.c (.bool true)), none⟩] [] [6, 7, 8])
  .ret))))))), [(6, none), (7, none), (8, none)]⟩
theorem impl_Pool_terms_ok : okFn Tryd.prog 57 impl_Pool_terms = true := by kernel_rfl
def slices_Contains_int : IFn := ⟨9, (.seq (.reg false [⟨some 4, .mv (.c (.bool false)), none⟩] [] [0, 1])
  (.seq (.reg false [⟨some 5, .mv (.t 0), none⟩,
    ⟨some 6, .mv (.t 1), none⟩,
    ⟨some 7, .call 37 [.t 5, .t 6], none⟩,
    ⟨some 8, .bin .geq (.t 7) (.c (.int .i64 0)), none⟩,
    ⟨some 4, .mv (.t 8), none⟩] [] [4])
  .ret)), [(4, none)]⟩
theorem slices_Contains_int_ok : okFn Tryd.prog 58 slices_Contains_int = true := by kernel_rfl
def impl_IsPublic : IFn := ⟨5, (.seq (.reg false [⟨some 2, .mv (.c (.bool false)), none⟩] [] [0])
  (.seq (.reg false [⟨some 3, .mv (.t 0), none⟩,
    ⟨some 4, .call 49 [.t 3, .c (.int .i64 0), .c (.int .i64 49)], none⟩,
    ⟨some 2, .mv (.t 4), none⟩] [] [2])
  .ret)), [(2, none)]⟩
theorem impl_IsPublic_ok : okFn Tryd.prog 59 impl_IsPublic = true := by kernel_rfl
end Go.Proofs.YtijileoflejgpaaDoor.I
