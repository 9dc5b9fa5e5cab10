/- The functions of this seat told by trees. Printed by a program of this repository (mkir.py). Conditions: none. -/
import Derived.Test.YtfbfebaajdihiaaXSymQ
import Derived.Test.YtfbfebaajdihiaaProg
import Derived.KernelRfl
set_option maxRecDepth 100000
set_option linter.unusedVariables false
namespace Go.Proofs.Ytfbfebaajdihiaa.I
open Go.Sym
def laws_FnSealed : IFn := ⟨129, (.seq (.reg false [⟨some 2, .mv (.c (.bool false)), none⟩] [] [0])
  (.seq (.seq (.reg false [⟨some 15, .mv (.t 0), none⟩,
    ⟨some 16, .call 26 [.t 15], none⟩] [] [0, 16])
  (.cond (.t 16)
  (.seq (.reg false [⟨some 2, .mv (.c (.bool true)), none⟩] [] [2])
  .ret)
  .skip))
  (.seq (.reg false [⟨some 18, .mv (.t 0), none⟩,
    ⟨some 19, .call 37 [.t 18], none⟩,
    ⟨some 17, .mv (.t 19), none⟩,
    ⟨some 20, .ext (.t 17) 0, none⟩,
    ⟨some 21, .ext (.t 17) 1, none⟩,
    ⟨some 22, .ext (.t 17) 2, none⟩,
    ⟨some 3, .new [.nil], none⟩,
    ⟨none, .st 1 (.t 3) (.t 20), none⟩,
    ⟨some 4, .mv (.t 21), none⟩,
    ⟨some 5, .mv (.t 22), none⟩] [] [3, 4, 5])
  (.seq (.seq (.reg false [⟨some 23, .ld (some 1) (.t 3), none⟩,
    ⟨some 24, .mv (.t 4), none⟩,
    ⟨some 25, .call 29 [.t 23, .t 24], none⟩,
    ⟨some 26, .not (.t 25), none⟩,
    ⟨some 27, .mv (.t 26), none⟩,
    ⟨some 28, .mv (.t 4), some (27, false)⟩,
    ⟨some 29, .len false (.t 28), some (27, false)⟩,
    ⟨some 30, .bin .gtr (.t 29) (.c (.int .i64 197)), some (27, false)⟩,
    ⟨some 31, .pick (.t 27) (.c (.bool true)) (.t 30), none⟩,
    ⟨some 32, .mv (.t 31), none⟩,
    ⟨some 33, .mv (.t 5), some (32, false)⟩,
    ⟨some 34, .bin .lss (.t 33) (.c (.int .i64 0)), some (32, false)⟩,
    ⟨some 35, .pick (.t 32) (.c (.bool true)) (.t 34), none⟩,
    ⟨some 36, .mv (.t 35), none⟩,
    ⟨some 37, .mv (.t 5), some (36, false)⟩,
    ⟨some 38, .fad 0 (.t 3), some (36, false)⟩,
    ⟨some 39, .ld none (.t 38), some (36, false)⟩,
    ⟨some 40, .len false (.t 39), some (36, false)⟩,
    ⟨some 41, .bin .geq (.t 37) (.t 40), some (36, false)⟩,
    ⟨some 42, .pick (.t 36) (.c (.bool true)) (.t 41), none⟩] [] [3, 4, 5, 42])
  (.cond (.t 42)
  (.seq (.reg true [⟨some 43, .ld (some 1) (.t 3), none⟩,
    ⟨some 44, .mv (.t 4), none⟩,
    ⟨some 45, .mv (.t 5), none⟩,
    ⟨some 46, .call 38 [.t 43, .t 44, .t 45], none⟩,
    ⟨some 47, .ld (some 1) (.t 3), none⟩,
    ⟨some 48, .mv (.t 4), none⟩,
    ⟨some 49, .mv (.t 5), none⟩,
    ⟨some 50, .call 39 [.t 47, .t 48, .t 49], none⟩,
    ⟨some 51, .eqb false (.t 46) (.t 50), none⟩,
    ⟨some 2, .mv (.t 51), none⟩] [0, 0, 0, 7, 0, 0, 0, 127, 255, 511] [2])
  .ret)
  .skip))
  (.seq (.reg false [⟨some 53, .ld (some 1) (.t 3), none⟩,
    ⟨some 54, .call 41 [.t 53, .c (.int .i64 178)], none⟩,
    ⟨some 52, .mv (.t 54), none⟩,
    ⟨some 55, .ext (.t 52) 0, none⟩,
    ⟨some 56, .ext (.t 52) 1, none⟩,
    ⟨some 6, .new [.nil], none⟩,
    ⟨none, .st 1 (.t 6) (.t 55), none⟩,
    ⟨some 7, .mv (.t 56), none⟩] [] [3, 4, 5, 6, 7])
  (.seq (.reg false [⟨some 58, .ld (some 1) (.t 3), none⟩,
    ⟨some 59, .call 42 [.t 58, .c (.int .i64 178)], none⟩,
    ⟨some 57, .mv (.t 59), none⟩,
    ⟨some 60, .ext (.t 57) 0, none⟩,
    ⟨some 61, .ext (.t 57) 1, none⟩,
    ⟨some 8, .new [.nil], none⟩,
    ⟨none, .st 1 (.t 8) (.t 60), none⟩,
    ⟨some 9, .mv (.t 61), none⟩] [] [3, 4, 5, 6, 7, 9])
  (.seq (.seq (.reg false [⟨some 62, .mv (.t 7), none⟩,
    ⟨some 63, .mv (.t 9), none⟩,
    ⟨some 64, .bin .neq (.t 62) (.t 63), none⟩,
    ⟨some 65, .mv (.t 64), none⟩,
    ⟨some 66, .ld (some 1) (.t 3), some (65, false)⟩,
    ⟨some 67, .mv (.t 4), some (65, false)⟩,
    ⟨some 68, .call 36 [.t 66, .t 67], some (65, false)⟩,
    ⟨some 69, .not (.t 68), some (65, false)⟩,
    ⟨some 70, .pick (.t 65) (.c (.bool true)) (.t 69), none⟩] [] [3, 4, 5, 6, 7, 70])
  (.cond (.t 70)
  (.seq (.reg false [⟨some 2, .mv (.c (.bool false)), none⟩] [] [2])
  .ret)
  .skip))
  (.seq (.reg false [⟨some 72, .ld (some 1) (.t 6), none⟩,
    ⟨some 73, .mv (.t 5), none⟩,
    ⟨some 74, .mv (.t 7), none⟩,
    ⟨some 75, .call 43 [.t 72, .t 73, .t 74], none⟩,
    ⟨some 71, .mv (.t 75), none⟩,
    ⟨some 76, .ext (.t 71) 0, none⟩,
    ⟨some 77, .ext (.t 71) 1, none⟩,
    ⟨none, .st 1 (.t 6) (.t 76), none⟩,
    ⟨some 10, .mv (.t 77), none⟩] [] [3, 4, 5, 6, 7, 10])
  (.seq (.seq (.reg false [⟨some 78, .mv (.t 7), none⟩,
    ⟨some 79, .fad 0 (.t 3), none⟩,
    ⟨some 80, .ld none (.t 79), none⟩,
    ⟨some 81, .len false (.t 80), none⟩,
    ⟨some 82, .bin .lss (.t 78) (.t 81), none⟩,
    ⟨some 83, .mv (.t 82), none⟩,
    ⟨some 84, .mv (.t 10), some (83, false)⟩,
    ⟨some 85, .bin .lss (.t 84) (.c (.int .i64 0)), some (83, false)⟩,
    ⟨some 86, .pick (.t 83) (.c (.bool true)) (.t 85), none⟩] [] [3, 4, 5, 6, 7, 10, 86])
  (.cond (.t 86)
  (.seq (.reg false [⟨some 2, .mv (.c (.bool true)), none⟩] [] [2])
  .ret)
  .skip))
  (.seq (.reg false [⟨some 88, .ld (some 1) (.t 6), none⟩,
    ⟨some 89, .mv (.t 4), none⟩,
    ⟨some 90, .mv (.t 10), none⟩,
    ⟨some 91, .call 40 [.t 88, .t 89, .t 90], none⟩,
    ⟨some 87, .mv (.t 91), none⟩,
    ⟨some 92, .ext (.t 87) 0, none⟩,
    ⟨some 93, .ext (.t 87) 1, none⟩,
    ⟨some 11, .mv (.t 92), none⟩,
    ⟨some 12, .mv (.t 93), none⟩] [] [3, 4, 5, 6, 7, 10, 11])
  (.seq (.reg false [⟨some 95, .ld (some 1) (.t 6), none⟩,
    ⟨some 96, .mv (.t 11), none⟩,
    ⟨some 97, .mv (.t 7), none⟩,
    ⟨some 98, .call 40 [.t 95, .t 96, .t 97], none⟩,
    ⟨some 94, .mv (.t 98), none⟩,
    ⟨some 99, .ext (.t 94) 0, none⟩,
    ⟨some 100, .ext (.t 94) 1, none⟩,
    ⟨some 13, .mv (.t 99), none⟩,
    ⟨some 14, .mv (.t 100), none⟩] [] [3, 4, 5, 6, 7, 10, 11, 13])
  (.seq (.reg true [⟨some 101, .ld (some 1) (.t 6), none⟩,
    ⟨some 102, .mv (.t 11), none⟩,
    ⟨some 103, .mv (.t 10), none⟩,
    ⟨some 104, .call 38 [.t 101, .t 102, .t 103], none⟩,
    ⟨some 105, .mv (.t 104), none⟩,
    ⟨some 106, .ld (some 1) (.t 6), some (105, true)⟩,
    ⟨some 107, .mv (.t 11), some (105, true)⟩,
    ⟨some 108, .mv (.t 5), some (105, true)⟩,
    ⟨some 109, .call 38 [.t 106, .t 107, .t 108], some (105, true)⟩,
    ⟨some 110, .ld (some 1) (.t 3), some (105, true)⟩,
    ⟨some 111, .mv (.t 4), some (105, true)⟩,
    ⟨some 112, .mv (.t 5), some (105, true)⟩,
    ⟨some 113, .call 38 [.t 110, .t 111, .t 112], some (105, true)⟩,
    ⟨some 114, .eqb false (.t 109) (.t 113), some (105, true)⟩,
    ⟨some 115, .pick (.t 105) (.t 114) (.c (.bool false)), none⟩,
    ⟨some 116, .mv (.t 115), none⟩,
    ⟨some 117, .ld (some 1) (.t 6), some (116, true)⟩,
    ⟨some 118, .mv (.t 13), some (116, true)⟩,
    ⟨some 119, .mv (.t 5), some (116, true)⟩,
    ⟨some 120, .call 38 [.t 117, .t 118, .t 119], some (116, true)⟩,
    ⟨some 121, .pick (.t 116) (.t 120) (.c (.bool false)), none⟩,
    ⟨some 122, .mv (.t 121), none⟩,
    ⟨some 123, .ld (some 1) (.t 6), some (122, true)⟩,
    ⟨some 124, .mv (.t 11), some (122, true)⟩,
    ⟨some 125, .mv (.t 7), some (122, true)⟩,
    ⟨some 126, .call 38 [.t 123, .t 124, .t 125], some (122, true)⟩,
    ⟨some 127, .not (.t 126), some (122, true)⟩,
    ⟨some 128, .pick (.t 122) (.t 127) (.c (.bool false)), none⟩,
    ⟨some 2, .mv (.t 128), none⟩] [0, 0, 0, 7, 15, 31, 31, 31, 255, 31, 31, 31, 4095, 8191, 16383, 32767, 65535, 65535, 65535, 524287, 1048575, 2097151, 4194303, 4194303, 4194303, 33554431, 67108863, 134217727, 268435455] [2])
  .ret)))))))))))), [(2, none)]⟩
theorem laws_FnSealed_ok : okFn Try.prog 10 laws_FnSealed = true := by kernel_rfl
def laws_szPool : IFn := ⟨12, (.seq (.reg false [⟨some 2, .box (.t 0), none⟩,
    ⟨some 4, .mv (.c (.int .i64 0)), none⟩] [] [1, 2])
  (.seq (.reg false [⟨some 5, .fad 0 (.t 2), none⟩,
    ⟨some 6, .ld none (.t 5), none⟩,
    ⟨some 7, .mv (.t 1), none⟩,
    ⟨some 8, .call 45 [.t 6, .t 7], none⟩,
    ⟨some 1, .mv (.t 8), none⟩] [] [1])
  (.seq (.seq (.reg false [⟨some 9, .mv (.t 1), none⟩,
    ⟨some 10, .bin .lss (.t 9) (.c (.int .i64 0)), none⟩] [] [1, 10])
  (.cond (.t 10)
  (.seq (.reg false [⟨some 4, .mv (.c (.int .i64 (-1))), none⟩] [] [4])
  .ret)
  .skip))
  (.seq (.reg false [⟨some 11, .mv (.t 1), none⟩,
    ⟨some 4, .mv (.t 11), none⟩] [] [4])
  .ret)))), [(4, none)]⟩
theorem laws_szPool_ok : okFn Try.prog 12 laws_szPool = true := by kernel_rfl
def spec_OpenOnce : IFn := ⟨24, (.seq (.reg false [⟨some 2, .box (.t 0), none⟩,
    ⟨some 4, .mv (.c (.nil)), none⟩] [] [1, 2])
  (.seq (.seq (.reg false [⟨some 7, .ld (some 1) (.t 2), none⟩,
    ⟨some 8, .mv (.t 1), none⟩,
    ⟨some 9, .call 29 [.t 7, .t 8], none⟩,
    ⟨some 10, .not (.t 9), none⟩] [] [1, 2, 10])
  (.cond (.t 10)
  (.seq (.reg false [⟨some 11, .bsl 1 0 [.int .i64 0] [], none⟩,
    ⟨some 4, .mv (.t 11), none⟩] [] [4])
  .ret)
  .skip))
  (.seq (.reg false [⟨some 13, .ld (some 1) (.t 2), none⟩,
    ⟨some 14, .mv (.t 1), none⟩,
    ⟨some 15, .call 46 [.t 13, .t 14], none⟩,
    ⟨some 12, .mv (.t 15), none⟩,
    ⟨some 16, .ext (.t 12) 0, none⟩,
    ⟨some 17, .ext (.t 12) 1, none⟩,
    ⟨some 5, .mv (.t 16), none⟩,
    ⟨some 6, .mv (.t 17), none⟩] [] [1, 5, 6])
  (.seq (.seq (.reg false [⟨some 18, .mv (.t 6), none⟩,
    ⟨some 19, .not (.t 18), none⟩] [] [1, 5, 19])
  (.cond (.t 19)
  (.seq (.reg false [⟨some 20, .bsl 1 0 [.int .i64 0] [], none⟩,
    ⟨some 21, .mv (.t 1), none⟩,
    ⟨some 22, .app 1 8 (.t 20) (.t 21), none⟩,
    ⟨some 4, .mv (.t 22), none⟩] [] [4])
  .ret)
  .skip))
  (.seq (.reg false [⟨some 23, .mv (.t 5), none⟩,
    ⟨some 4, .mv (.t 23), none⟩] [] [4])
  .ret))))), [(4, none)]⟩
theorem spec_OpenOnce_ok : okFn Try.prog 13 spec_OpenOnce = true := by kernel_rfl
def laws_toPool : IFn := ⟨9, (.seq (.reg false [⟨some 1, .box (.t 0), none⟩,
    ⟨some 2, .new [.nil], none⟩] [] [1, 2])
  (.seq (.reg false [⟨some 3, .new [.nil], none⟩] [] [1, 2, 3])
  (.seq (.reg false [⟨some 4, .fad 0 (.t 1), none⟩,
    ⟨some 5, .ld none (.t 4), none⟩,
    ⟨some 6, .call 47 [.t 5], none⟩,
    ⟨some 7, .fad 0 (.t 3), none⟩,
    ⟨none, .st 1 (.t 7) (.t 6), none⟩] [] [2, 3])
  (.seq (.reg false [⟨some 8, .ld (some 1) (.t 3), none⟩,
    ⟨none, .st 1 (.t 2) (.t 8), none⟩] [] [2])
  .ret)))), [(2, some (some 1))]⟩
theorem laws_toPool_ok : okFn Try.prog 14 laws_toPool = true := by kernel_rfl
def laws_toIntS : IFn := ⟨22, (.seq (.reg false [⟨some 2, .mv (.c (.nil)), none⟩] [] [0])
  (.seq (.reg false [⟨some 5, .mv (.t 0), none⟩,
    ⟨some 6, .len false (.t 5), none⟩,
    ⟨some 7, .mk 1 8 [.int .i64 0] (.t 6) (.t 6), none⟩,
    ⟨some 3, .mv (.t 7), none⟩] [] [0, 3])
  (.seq (.seq (.reg false [⟨some 4, .mv (.c (.int .i64 0)), none⟩] [] [0, 3, 4])
  (.block 0 (.loop (.seq (.seq (.reg false [⟨some 8, .mv (.t 4), none⟩,
    ⟨some 9, .mv (.t 0), none⟩,
    ⟨some 10, .len false (.t 9), none⟩,
    ⟨some 11, .bin .lss (.t 8) (.t 10), none⟩] [] [0, 3, 4, 11])
  (.cond (.t 11)
  .skip
  (.exit 0)))
  (.seq (.block 1 (.reg false [⟨some 14, .mv (.t 3), none⟩,
    ⟨some 15, .mv (.t 4), none⟩,
    ⟨some 16, .mv (.t 0), none⟩,
    ⟨some 17, .mv (.t 4), none⟩,
    ⟨some 18, .iad 1 (.t 16) (.t 17), none⟩,
    ⟨some 19, .ld none (.t 18), none⟩,
    ⟨some 20, .iad 1 (.t 14) (.t 15), none⟩,
    ⟨none, .st 1 (.t 20) (.t 19), none⟩] [] [0, 3, 4]))
  (.reg false [⟨some 12, .mv (.t 4), none⟩,
    ⟨some 13, .bin .add (.t 12) (.c (.int .i64 1)), none⟩,
    ⟨some 4, .mv (.t 13), none⟩] [] [0, 3, 4]))))))
  (.seq (.reg false [⟨some 21, .mv (.t 3), none⟩,
    ⟨some 2, .mv (.t 21), none⟩] [] [2])
  .ret)))), [(2, none)]⟩
theorem laws_toIntS_ok : okFn Try.prog 15 laws_toIntS = true := by kernel_rfl
def impl_OpenOnce : IFn := ⟨11, (.seq (.reg false [⟨some 2, .box (.t 0), none⟩,
    ⟨some 4, .mv (.c (.nil)), none⟩] [] [1, 2])
  (.seq (.seq (.reg false [⟨some 5, .ld (some 1) (.t 2), none⟩,
    ⟨some 6, .mv (.t 1), none⟩,
    ⟨some 7, .call 36 [.t 5, .t 6], none⟩,
    ⟨some 8, .not (.t 7), none⟩] [] [1, 2, 8])
  (.cond (.t 8)
  (.seq (.reg false [⟨some 4, .mv (.c (.nil)), none⟩] [] [4])
  .ret)
  .skip))
  (.seq (.reg false [⟨some 9, .mv (.t 1), none⟩,
    ⟨some 10, .call 48 [.t 2, .t 9], none⟩,
    ⟨some 4, .mv (.t 10), none⟩] [] [4])
  .ret))), [(4, none)]⟩
theorem impl_OpenOnce_ok : okFn Try.prog 16 impl_OpenOnce = true := by kernel_rfl
def laws_eqIntS : IFn := ⟨26, (.seq (.reg false [⟨some 4, .mv (.c (.bool false)), none⟩] [] [0, 1])
  (.seq (.seq (.reg false [⟨some 6, .mv (.t 0), none⟩,
    ⟨some 7, .len false (.t 6), none⟩,
    ⟨some 8, .mv (.t 1), none⟩,
    ⟨some 9, .len false (.t 8), none⟩,
    ⟨some 10, .bin .neq (.t 7) (.t 9), none⟩] [] [0, 1, 10])
  (.cond (.t 10)
  (.seq (.reg false [⟨some 4, .mv (.c (.bool false)), none⟩] [] [4])
  .ret)
  .skip))
  (.seq (.seq (.reg false [⟨some 5, .mv (.c (.int .i64 0)), none⟩] [] [0, 1, 5])
  (.block 0 (.loop (.seq (.seq (.reg false [⟨some 11, .mv (.t 5), none⟩,
    ⟨some 12, .mv (.t 0), none⟩,
    ⟨some 13, .len false (.t 12), none⟩,
    ⟨some 14, .bin .lss (.t 11) (.t 13), none⟩] [] [0, 1, 5, 14])
  (.cond (.t 14)
  .skip
  (.exit 0)))
  (.seq (.block 1 (.seq (.reg true [⟨some 17, .mv (.t 0), none⟩,
    ⟨some 18, .mv (.t 5), none⟩,
    ⟨some 19, .iad 1 (.t 17) (.t 18), none⟩,
    ⟨some 20, .ld none (.t 19), none⟩,
    ⟨some 21, .mv (.t 1), none⟩,
    ⟨some 22, .mv (.t 5), none⟩,
    ⟨some 23, .iad 1 (.t 21) (.t 22), none⟩,
    ⟨some 24, .ld none (.t 23), none⟩,
    ⟨some 25, .bin .neq (.t 20) (.t 24), none⟩] [0, 0, 3, 7, 0, 0, 48, 112, 255] [0, 1, 5, 25])
  (.cond (.t 25)
  (.seq (.reg false [⟨some 4, .mv (.c (.bool false)), none⟩] [] [4])
  .ret)
  .skip)))
  (.reg false [⟨some 15, .mv (.t 5), none⟩,
    ⟨some 16, .bin .add (.t 15) (.c (.int .i64 1)), none⟩,
    ⟨some 5, .mv (.t 16), none⟩] [] [0, 1, 5]))))))
  (.seq (.reg false [⟨some 4, .mv (.c (.bool true)), none⟩] [] [4])
  .ret)))), [(4, none)]⟩
theorem laws_eqIntS_ok : okFn Try.prog 17 laws_eqIntS = true := by kernel_rfl
def laws_eqPool : IFn := ⟨11, (.seq (.reg false [⟨some 2, .box (.t 0), none⟩,
    ⟨some 3, .box (.t 1), none⟩,
    ⟨some 4, .mv (.c (.bool false)), none⟩] [] [2, 3])
  (.seq (.seq (.reg false [⟨some 5, .fad 0 (.t 2), none⟩,
    ⟨some 6, .ld none (.t 5), none⟩,
    ⟨some 7, .fad 0 (.t 3), none⟩,
    ⟨some 8, .ld none (.t 7), none⟩,
    ⟨some 9, .call 49 [.t 6, .t 8], none⟩,
    ⟨some 10, .not (.t 9), none⟩] [] [10])
  (.cond (.t 10)
  (.seq (.reg false [⟨some 4, .mv (.c (.bool false)), none⟩] [] [4])
  .ret)
  .skip))
  (.seq (.reg false [⟨some 4, .mv (.c (.bool true)), none⟩] [] [4])
  .ret))), [(4, none)]⟩
theorem laws_eqPool_ok : okFn Try.prog 18 laws_eqPool = true := by kernel_rfl
def spec_OpenAll : IFn := ⟨21, (.seq (.reg false [⟨some 2, .box (.t 0), none⟩,
    ⟨some 4, .mv (.c (.nil)), none⟩,
    ⟨some 5, .mv (.c (.int .i64 0)), none⟩] [] [1, 2])
  (.seq (.seq (.reg false [⟨some 8, .ld (some 1) (.t 2), none⟩,
    ⟨some 9, .mv (.t 1), none⟩,
    ⟨some 10, .call 29 [.t 8, .t 9], none⟩,
    ⟨some 11, .not (.t 10), none⟩] [] [1, 2, 11])
  (.cond (.t 11)
  (.seq (.reg false [⟨some 12, .bsl 1 0 [.int .i64 0] [], none⟩,
    ⟨some 4, .mv (.t 12), none⟩,
    ⟨some 5, .mv (.c (.int .i64 0)), none⟩] [] [4, 5])
  .ret)
  .skip))
  (.seq (.reg false [⟨some 14, .ld (some 1) (.t 2), none⟩,
    ⟨some 15, .mv (.t 1), none⟩,
    ⟨some 16, .call 51 [.t 14, .t 15], none⟩,
    ⟨some 13, .mv (.t 16), none⟩,
    ⟨some 17, .ext (.t 13) 0, none⟩,
    ⟨some 18, .ext (.t 13) 1, none⟩,
    ⟨some 6, .mv (.t 17), none⟩,
    ⟨some 7, .mv (.t 18), none⟩] [] [6, 7])
  (.seq (.reg false [⟨some 19, .mv (.t 6), none⟩,
    ⟨some 20, .mv (.t 7), none⟩,
    ⟨some 4, .mv (.t 19), none⟩,
    ⟨some 5, .mv (.t 20), none⟩] [] [4, 5])
  .ret)))), [(4, none), (5, none)]⟩
theorem spec_OpenAll_ok : okFn Try.prog 22 spec_OpenAll = true := by kernel_rfl
def impl_OpenAll : IFn := ⟨14, (.seq (.reg false [⟨some 2, .box (.t 0), none⟩,
    ⟨some 4, .mv (.c (.nil)), none⟩,
    ⟨some 5, .mv (.c (.int .i64 0)), none⟩] [] [1, 2])
  (.seq (.seq (.reg false [⟨some 6, .ld (some 1) (.t 2), none⟩,
    ⟨some 7, .mv (.t 1), none⟩,
    ⟨some 8, .call 36 [.t 6, .t 7], none⟩,
    ⟨some 9, .not (.t 8), none⟩] [] [1, 2, 9])
  (.cond (.t 9)
  (.seq (.reg false [⟨some 4, .mv (.c (.nil)), none⟩,
    ⟨some 5, .mv (.c (.int .i64 0)), none⟩] [] [4, 5])
  .ret)
  .skip))
  (.seq (.reg false [⟨some 10, .mv (.t 1), none⟩,
    ⟨some 11, .call 52 [.t 2, .t 10], none⟩,
    ⟨some 12, .ext (.t 11) 0, none⟩,
    ⟨some 13, .ext (.t 11) 1, none⟩,
    ⟨some 4, .mv (.t 12), none⟩,
    ⟨some 5, .mv (.t 13), none⟩] [] [4, 5])
  .ret))), [(4, none), (5, none)]⟩
theorem impl_OpenAll_ok : okFn Try.prog 23 impl_OpenAll = true := by kernel_rfl
def spec_DerivesList : IFn := ⟨21, (.seq (.reg false [⟨some 2, .box (.t 0), none⟩,
    ⟨some 4, .mv (.c (.nil)), none⟩] [] [1, 2])
  (.seq (.seq (.reg false [⟨some 7, .ld (some 1) (.t 2), none⟩,
    ⟨some 8, .mv (.t 1), none⟩,
    ⟨some 9, .call 29 [.t 7, .t 8], none⟩,
    ⟨some 10, .not (.t 9), none⟩] [] [1, 2, 10])
  (.cond (.t 10)
  (.seq (.reg false [⟨some 11, .bsl 1 0 [.int .i64 0] [], none⟩,
    ⟨some 4, .mv (.t 11), none⟩] [] [4])
  .ret)
  .skip))
  (.seq (.reg false [⟨some 13, .ld (some 1) (.t 2), none⟩,
    ⟨some 14, .mv (.t 1), none⟩,
    ⟨some 15, .call 51 [.t 13, .t 14], none⟩,
    ⟨some 12, .mv (.t 15), none⟩,
    ⟨some 16, .ext (.t 12) 0, none⟩,
    ⟨some 17, .ext (.t 12) 1, none⟩,
    ⟨some 5, .mv (.t 16), none⟩,
    ⟨some 6, .mv (.t 17), none⟩] [] [2, 5])
  (.seq (.reg false [⟨some 18, .ld (some 1) (.t 2), none⟩,
    ⟨some 19, .mv (.t 5), none⟩,
    ⟨some 20, .call 53 [.t 18, .t 19], none⟩,
    ⟨some 4, .mv (.t 20), none⟩] [] [4])
  .ret)))), [(4, none)]⟩
theorem spec_DerivesList_ok : okFn Try.prog 24 spec_DerivesList = true := by kernel_rfl
def impl_DerivesList : IFn := ⟨19, (.seq (.reg false [⟨some 2, .box (.t 0), none⟩,
    ⟨some 4, .mv (.c (.nil)), none⟩] [] [1, 2])
  (.seq (.seq (.reg false [⟨some 7, .ld (some 1) (.t 2), none⟩,
    ⟨some 8, .mv (.t 1), none⟩,
    ⟨some 9, .call 36 [.t 7, .t 8], none⟩,
    ⟨some 10, .not (.t 9), none⟩] [] [1, 2, 10])
  (.cond (.t 10)
  (.seq (.reg false [⟨some 4, .mv (.c (.nil)), none⟩] [] [4])
  .ret)
  .skip))
  (.seq (.reg false [⟨some 12, .mv (.t 1), none⟩,
    ⟨some 13, .call 52 [.t 2, .t 12], none⟩,
    ⟨some 11, .mv (.t 13), none⟩,
    ⟨some 14, .ext (.t 11) 0, none⟩,
    ⟨some 15, .ext (.t 11) 1, none⟩,
    ⟨some 5, .mv (.t 14), none⟩,
    ⟨some 6, .mv (.t 15), none⟩] [] [2, 5])
  (.seq (.reg false [⟨some 16, .ld (some 1) (.t 2), none⟩,
    ⟨some 17, .mv (.t 5), none⟩,
    ⟨some 18, .call 34 [.t 16, .t 17], none⟩,
    ⟨some 4, .mv (.t 18), none⟩] [] [4])
  .ret)))), [(4, none)]⟩
theorem impl_DerivesList_ok : okFn Try.prog 25 impl_DerivesList = true := by kernel_rfl
def laws_big : IFn := ⟨6, (.seq (.reg false [⟨some 2, .mv (.c (.bool false)), none⟩] [] [0])
  (.seq (.reg false [⟨some 3, .mv (.t 0), none⟩,
    ⟨some 4, .len false (.t 3), none⟩,
    ⟨some 5, .bin .gtr (.t 4) (.c (.int .i64 1048576)), none⟩,
    ⟨some 2, .mv (.t 5), none⟩] [] [2])
  .ret)), [(2, none)]⟩
theorem laws_big_ok : okFn Try.prog 26 laws_big = true := by kernel_rfl
def spec_DrawOpenOnce : IFn := ⟨15, (.seq (.reg false [⟨some 2, .new [.nil], none⟩,
    ⟨some 3, .mv (.c (.nil)), none⟩] [] [0, 2])
  (.seq (.reg false [⟨some 8, .mv (.t 0), none⟩,
    ⟨some 9, .call 54 [.t 8], none⟩,
    ⟨some 7, .mv (.t 9), none⟩,
    ⟨some 10, .ext (.t 7) 0, none⟩,
    ⟨some 11, .ext (.t 7) 1, none⟩,
    ⟨some 12, .ext (.t 7) 2, none⟩,
    ⟨some 4, .new [.nil], none⟩,
    ⟨none, .st 1 (.t 4) (.t 10), none⟩,
    ⟨some 5, .mv (.t 11), none⟩,
    ⟨some 6, .mv (.t 12), none⟩] [] [2, 4, 5])
  (.seq (.reg false [⟨some 13, .ld (some 1) (.t 4), none⟩,
    ⟨some 14, .mv (.t 5), none⟩,
    ⟨none, .st 1 (.t 2) (.t 13), none⟩,
    ⟨some 3, .mv (.t 14), none⟩] [] [2, 3])
  .ret))), [(2, some (some 1)), (3, none)]⟩
theorem spec_DrawOpenOnce_ok : okFn Try.prog 27 spec_DrawOpenOnce = true := by kernel_rfl
def laws_sameInts : IFn := ⟨26, (.seq (.reg false [⟨some 4, .mv (.c (.bool false)), none⟩] [] [0, 1])
  (.seq (.seq (.reg false [⟨some 6, .mv (.t 0), none⟩,
    ⟨some 7, .len false (.t 6), none⟩,
    ⟨some 8, .mv (.t 1), none⟩,
    ⟨some 9, .len false (.t 8), none⟩,
    ⟨some 10, .bin .neq (.t 7) (.t 9), none⟩] [] [0, 1, 10])
  (.cond (.t 10)
  (.seq (.reg false [⟨some 4, .mv (.c (.bool false)), none⟩] [] [4])
  .ret)
  .skip))
  (.seq (.seq (.reg false [⟨some 5, .mv (.c (.int .i64 0)), none⟩] [] [0, 1, 5])
  (.block 0 (.loop (.seq (.seq (.reg false [⟨some 11, .mv (.t 5), none⟩,
    ⟨some 12, .mv (.t 0), none⟩,
    ⟨some 13, .len false (.t 12), none⟩,
    ⟨some 14, .bin .lss (.t 11) (.t 13), none⟩] [] [0, 1, 5, 14])
  (.cond (.t 14)
  .skip
  (.exit 0)))
  (.seq (.block 1 (.seq (.reg true [⟨some 17, .mv (.t 0), none⟩,
    ⟨some 18, .mv (.t 5), none⟩,
    ⟨some 19, .iad 1 (.t 17) (.t 18), none⟩,
    ⟨some 20, .ld none (.t 19), none⟩,
    ⟨some 21, .mv (.t 1), none⟩,
    ⟨some 22, .mv (.t 5), none⟩,
    ⟨some 23, .iad 1 (.t 21) (.t 22), none⟩,
    ⟨some 24, .ld none (.t 23), none⟩,
    ⟨some 25, .bin .neq (.t 20) (.t 24), none⟩] [0, 0, 3, 7, 0, 0, 48, 112, 255] [0, 1, 5, 25])
  (.cond (.t 25)
  (.seq (.reg false [⟨some 4, .mv (.c (.bool false)), none⟩] [] [4])
  .ret)
  .skip)))
  (.reg false [⟨some 15, .mv (.t 5), none⟩,
    ⟨some 16, .bin .add (.t 15) (.c (.int .i64 1)), none⟩,
    ⟨some 5, .mv (.t 16), none⟩] [] [0, 1, 5]))))))
  (.seq (.reg false [⟨some 4, .mv (.c (.bool true)), none⟩] [] [4])
  .ret)))), [(4, none)]⟩
theorem laws_sameInts_ok : okFn Try.prog 28 laws_sameInts = true := by kernel_rfl
def spec_KnowOk : IFn := ⟨12, (.seq (.reg false [⟨some 2, .box (.t 0), none⟩,
    ⟨some 4, .mv (.c (.bool false)), none⟩] [] [1, 2])
  (.seq (.reg false [⟨some 5, .ld (some 1) (.t 2), none⟩,
    ⟨some 6, .call 55 [.t 5], none⟩,
    ⟨some 7, .mv (.t 6), none⟩,
    ⟨some 8, .ld (some 1) (.t 2), some (7, true)⟩,
    ⟨some 9, .mv (.t 1), some (7, true)⟩,
    ⟨some 10, .call 56 [.t 8, .t 9], some (7, true)⟩,
    ⟨some 11, .pick (.t 7) (.t 10) (.c (.bool false)), none⟩,
    ⟨some 4, .mv (.t 11), none⟩] [] [4])
  .ret)), [(4, none)]⟩
theorem spec_KnowOk_ok : okFn Try.prog 29 spec_KnowOk = true := by kernel_rfl
def impl_KnowHas : IFn := ⟨8, (.seq (.reg false [⟨some 4, .mv (.c (.bool false)), none⟩] [] [0, 1])
  (.seq (.reg false [⟨some 5, .mv (.t 0), none⟩,
    ⟨some 6, .mv (.t 1), none⟩,
    ⟨some 7, .call 57 [.t 5, .t 6], none⟩,
    ⟨some 4, .mv (.t 7), none⟩] [] [4])
  .ret)), [(4, none)]⟩
theorem impl_KnowHas_ok : okFn Try.prog 30 impl_KnowHas = true := by kernel_rfl
def spec_DrawOpenAll : IFn := ⟨15, (.seq (.reg false [⟨some 2, .new [.nil], none⟩,
    ⟨some 3, .mv (.c (.nil)), none⟩] [] [0, 2])
  (.seq (.reg false [⟨some 8, .mv (.t 0), none⟩,
    ⟨some 9, .call 54 [.t 8], none⟩,
    ⟨some 7, .mv (.t 9), none⟩,
    ⟨some 10, .ext (.t 7) 0, none⟩,
    ⟨some 11, .ext (.t 7) 1, none⟩,
    ⟨some 12, .ext (.t 7) 2, none⟩,
    ⟨some 4, .new [.nil], none⟩,
    ⟨none, .st 1 (.t 4) (.t 10), none⟩,
    ⟨some 5, .mv (.t 11), none⟩,
    ⟨some 6, .mv (.t 12), none⟩] [] [2, 4, 5])
  (.seq (.reg false [⟨some 13, .ld (some 1) (.t 4), none⟩,
    ⟨some 14, .mv (.t 5), none⟩,
    ⟨none, .st 1 (.t 2) (.t 13), none⟩,
    ⟨some 3, .mv (.t 14), none⟩] [] [2, 3])
  .ret))), [(2, some (some 1)), (3, none)]⟩
theorem spec_DrawOpenAll_ok : okFn Try.prog 31 spec_DrawOpenAll = true := by kernel_rfl
def spec_DrawDerivesList : IFn := ⟨15, (.seq (.reg false [⟨some 2, .new [.nil], none⟩,
    ⟨some 3, .mv (.c (.nil)), none⟩] [] [0, 2])
  (.seq (.reg false [⟨some 8, .mv (.t 0), none⟩,
    ⟨some 9, .call 54 [.t 8], none⟩,
    ⟨some 7, .mv (.t 9), none⟩,
    ⟨some 10, .ext (.t 7) 0, none⟩,
    ⟨some 11, .ext (.t 7) 1, none⟩,
    ⟨some 12, .ext (.t 7) 2, none⟩,
    ⟨some 4, .new [.nil], none⟩,
    ⟨none, .st 1 (.t 4) (.t 10), none⟩,
    ⟨some 5, .mv (.t 11), none⟩,
    ⟨some 6, .mv (.t 12), none⟩] [] [2, 4, 5])
  (.seq (.reg false [⟨some 13, .ld (some 1) (.t 4), none⟩,
    ⟨some 14, .mv (.t 5), none⟩,
    ⟨none, .st 1 (.t 2) (.t 13), none⟩,
    ⟨some 3, .mv (.t 14), none⟩] [] [2, 3])
  .ret))), [(2, some (some 1)), (3, none)]⟩
theorem spec_DrawDerivesList_ok : okFn Try.prog 33 spec_DrawDerivesList = true := by kernel_rfl
def impl_MakesList : IFn := ⟨24, (.seq (.reg false [⟨some 2, .box (.t 0), none⟩,
    ⟨some 4, .mv (.c (.nil)), none⟩] [] [1, 2])
  (.seq (.reg false [⟨some 5, .mv (.c (.nil)), none⟩] [] [1, 2, 5])
  (.seq (.seq (.reg false [⟨some 8, .ld (some 1) (.t 2), none⟩,
    ⟨some 9, .mv (.t 1), none⟩,
    ⟨some 10, .call 59 [.t 8, .t 9], none⟩,
    ⟨some 11, .len false (.t 10), none⟩,
    ⟨some 12, .mv (.c (.int .i64 0)), none⟩] [] [5, 10, 11, 12])
  (.block 0 (.loop (.seq (.reg false [⟨some 13, .bin .lss (.t 12) (.t 11), none⟩] [] [5, 10, 11, 12, 13])
  (.seq (.cond (.t 13)
  .skip
  (.exit 0))
  (.seq (.block 1 (.seq (.reg false [⟨some 14, .mv (.t 12), none⟩,
    ⟨some 15, .iad 1 (.t 10) (.t 12), none⟩,
    ⟨some 16, .ld none (.t 15), none⟩,
    ⟨some 6, .mv (.t 14), none⟩,
    ⟨some 7, .mv (.t 16), none⟩] [] [5, 6, 7, 10, 11, 12])
  (.seq (.reg false [⟨some 17, .mv (.t 7), none⟩] [] [5, 6, 10, 11, 12, 17])
  (.cond (.t 17)
  (.reg false [⟨some 18, .mv (.t 5), none⟩,
    ⟨some 19, .mv (.t 6), none⟩,
    ⟨some 20, .bsl 1 1 [.int .i64 0] [(0, 1, .t 19)], none⟩,
    ⟨some 21, .app 1 8 (.t 18) (.t 20), none⟩,
    ⟨some 5, .mv (.t 21), none⟩] [] [5, 10, 11, 12])
  .skip))))
  (.reg false [⟨some 22, .bin .add (.t 12) (.c (.int .i64 1)), none⟩,
    ⟨some 12, .mv (.t 22), none⟩] [] [5, 10, 11, 12])))))))
  (.seq (.reg false [⟨some 23, .mv (.t 5), none⟩,
    ⟨some 4, .mv (.t 23), none⟩] [] [4])
  .ret)))), [(4, none)]⟩
theorem impl_MakesList_ok : okFn Try.prog 34 impl_MakesList = true := by kernel_rfl
def laws_within : IFn := ⟨18, (.seq (.reg false [⟨some 4, .mv (.c (.bool false)), none⟩] [] [0, 1])
  (.seq (.seq (.reg false [⟨some 5, .mv (.c (.int .i64 0)), none⟩] [] [0, 1, 5])
  (.block 0 (.loop (.seq (.seq (.reg false [⟨some 6, .mv (.t 5), none⟩,
    ⟨some 7, .mv (.t 0), none⟩,
    ⟨some 8, .len false (.t 7), none⟩,
    ⟨some 9, .bin .lss (.t 6) (.t 8), none⟩] [] [0, 1, 5, 9])
  (.cond (.t 9)
  .skip
  (.exit 0)))
  (.seq (.block 1 (.seq (.reg false [⟨some 12, .mv (.t 0), none⟩,
    ⟨some 13, .mv (.t 5), none⟩,
    ⟨some 14, .iad 1 (.t 12) (.t 13), none⟩,
    ⟨some 15, .ld none (.t 14), none⟩,
    ⟨some 16, .mv (.t 1), none⟩,
    ⟨some 17, .bin .eql (.t 15) (.t 16), none⟩] [] [0, 1, 5, 17])
  (.cond (.t 17)
  (.seq (.reg false [⟨some 4, .mv (.c (.bool true)), none⟩] [] [4])
  .ret)
  .skip)))
  (.reg false [⟨some 10, .mv (.t 5), none⟩,
    ⟨some 11, .bin .add (.t 10) (.c (.int .i64 1)), none⟩,
    ⟨some 5, .mv (.t 11), none⟩] [] [0, 1, 5]))))))
  (.seq (.reg false [⟨some 4, .mv (.c (.bool false)), none⟩] [] [4])
  .ret))), [(4, none)]⟩
theorem laws_within_ok : okFn Try.prog 35 laws_within = true := by kernel_rfl
def impl_KnowOk : IFn := ⟨38, (.seq (.reg false [⟨some 2, .box (.t 0), none⟩,
    ⟨some 4, .mv (.c (.bool false)), none⟩] [] [1, 2])
  (.seq (.seq (.reg false [⟨some 7, .mv (.t 1), none⟩,
    ⟨some 8, .len false (.t 7), none⟩,
    ⟨some 9, .mv (.c (.int .i64 0)), none⟩] [] [1, 2, 7, 8, 9])
  (.block 0 (.loop (.seq (.reg false [⟨some 10, .bin .lss (.t 9) (.t 8), none⟩] [] [1, 2, 7, 8, 9, 10])
  (.seq (.cond (.t 10)
  .skip
  (.exit 0))
  (.seq (.block 1 (.seq (.reg false [⟨some 11, .mv (.t 9), none⟩,
    ⟨some 12, .iad 1 (.t 7) (.t 9), none⟩,
    ⟨some 13, .ld none (.t 12), none⟩,
    ⟨some 5, .mv (.t 11), none⟩,
    ⟨some 6, .mv (.t 13), none⟩] [] [1, 2, 5, 6, 7, 8, 9])
  (.seq (.reg false [⟨some 14, .mv (.t 6), none⟩,
    ⟨some 15, .call 60 [.t 2, .t 14], none⟩,
    ⟨some 16, .not (.t 15), none⟩,
    ⟨some 17, .mv (.t 16), none⟩,
    ⟨some 18, .mv (.t 5), some (17, false)⟩,
    ⟨some 19, .bin .gtr (.t 18) (.c (.int .i64 0)), some (17, false)⟩,
    ⟨some 20, .mv (.t 19), some (17, false)⟩,
    ⟨some 21, .mv (.t 6), some (20, true)⟩,
    ⟨some 22, .mv (.t 1), some (20, true)⟩,
    ⟨some 23, .mv (.t 5), some (20, true)⟩,
    ⟨some 24, .bin .sub (.t 23) (.c (.int .i64 1)), some (20, true)⟩,
    ⟨some 25, .iad 1 (.t 22) (.t 24), some (20, true)⟩,
    ⟨some 26, .ld none (.t 25), some (20, true)⟩,
    ⟨some 27, .bin .leq (.t 21) (.t 26), some (20, true)⟩,
    ⟨some 28, .pick (.t 20) (.t 27) (.c (.bool false)), some (17, false)⟩,
    ⟨some 29, .pick (.t 17) (.c (.bool true)) (.t 28), none⟩] [] [1, 2, 7, 8, 9, 29])
  (.cond (.t 29)
  (.seq (.reg false [⟨some 4, .mv (.c (.bool false)), none⟩] [] [4])
  .ret)
  .skip))))
  (.reg false [⟨some 30, .bin .add (.t 9) (.c (.int .i64 1)), none⟩,
    ⟨some 9, .mv (.t 30), none⟩] [] [1, 2, 7, 8, 9])))))))
  (.seq (.reg false [⟨some 31, .mv (.t 1), none⟩,
    ⟨some 32, .len false (.t 31), none⟩,
    ⟨some 33, .bin .leq (.t 32) (.c (.int .i64 200)), none⟩,
    ⟨some 34, .mv (.t 33), none⟩,
    ⟨some 35, .ld (some 1) (.t 2), some (34, true)⟩,
    ⟨some 36, .call 61 [.t 35], some (34, true)⟩,
    ⟨some 37, .pick (.t 34) (.t 36) (.c (.bool false)), none⟩,
    ⟨some 4, .mv (.t 37), none⟩] [] [4])
  .ret))), [(4, none)]⟩
theorem impl_KnowOk_ok : okFn Try.prog 36 impl_KnowOk = true := by kernel_rfl
def spec_DrawDerives : IFn := ⟨17, (.seq (.reg false [⟨some 2, .new [.nil], none⟩,
    ⟨some 3, .mv (.c (.nil)), none⟩,
    ⟨some 4, .mv (.c (.int .i64 0)), none⟩] [] [0, 2])
  (.seq (.reg false [⟨some 9, .mv (.t 0), none⟩,
    ⟨some 10, .call 54 [.t 9], none⟩,
    ⟨some 8, .mv (.t 10), none⟩,
    ⟨some 11, .ext (.t 8) 0, none⟩,
    ⟨some 12, .ext (.t 8) 1, none⟩,
    ⟨some 13, .ext (.t 8) 2, none⟩,
    ⟨some 5, .new [.nil], none⟩,
    ⟨none, .st 1 (.t 5) (.t 11), none⟩,
    ⟨some 6, .mv (.t 12), none⟩,
    ⟨some 7, .mv (.t 13), none⟩] [] [2, 5, 6, 7])
  (.seq (.reg false [⟨some 14, .ld (some 1) (.t 5), none⟩,
    ⟨some 15, .mv (.t 6), none⟩,
    ⟨some 16, .mv (.t 7), none⟩,
    ⟨none, .st 1 (.t 2) (.t 14), none⟩,
    ⟨some 3, .mv (.t 15), none⟩,
    ⟨some 4, .mv (.t 16), none⟩] [] [2, 3, 4])
  .ret))), [(2, some (some 1)), (3, none), (4, none)]⟩
theorem spec_DrawDerives_ok : okFn Try.prog 37 spec_DrawDerives = true := by kernel_rfl
def impl_Derives : IFn := ⟨21, (.seq (.reg false [⟨some 3, .box (.t 0), none⟩,
    ⟨some 6, .mv (.c (.bool false)), none⟩] [] [1, 2, 3])
  (.seq (.reg false [⟨some 7, .mv (.t 2), none⟩,
    ⟨some 8, .call 60 [.t 3, .t 7], none⟩,
    ⟨some 9, .mv (.t 8), none⟩,
    ⟨some 10, .ld (some 1) (.t 3), some (9, true)⟩,
    ⟨some 11, .mv (.t 1), some (9, true)⟩,
    ⟨some 12, .call 36 [.t 10, .t 11], some (9, true)⟩,
    ⟨some 13, .pick (.t 9) (.t 12) (.c (.bool false)), none⟩,
    ⟨some 14, .mv (.t 13), none⟩,
    ⟨some 15, .mv (.t 1), some (14, true)⟩,
    ⟨some 16, .call 62 [.t 3, .t 15], some (14, true)⟩,
    ⟨some 17, .mv (.t 2), some (14, true)⟩,
    ⟨some 18, .iad 1 (.t 16) (.t 17), some (14, true)⟩,
    ⟨some 19, .ld none (.t 18), some (14, true)⟩,
    ⟨some 20, .pick (.t 14) (.t 19) (.c (.bool false)), none⟩,
    ⟨some 6, .mv (.t 20), none⟩] [] [6])
  .ret)), [(6, none)]⟩
theorem impl_Derives_ok : okFn Try.prog 38 impl_Derives = true := by kernel_rfl
def spec_Derives : IFn := ⟨23, (.seq (.reg false [⟨some 3, .box (.t 0), none⟩,
    ⟨some 6, .mv (.c (.bool false)), none⟩] [] [1, 2, 3])
  (.seq (.seq (.reg false [⟨some 9, .ld (some 1) (.t 3), none⟩,
    ⟨some 10, .mv (.t 1), none⟩,
    ⟨some 11, .call 29 [.t 9, .t 10], none⟩,
    ⟨some 12, .not (.t 11), none⟩] [] [1, 2, 3, 12])
  (.cond (.t 12)
  (.seq (.reg false [⟨some 6, .mv (.c (.bool false)), none⟩] [] [6])
  .ret)
  .skip))
  (.seq (.reg false [⟨some 14, .ld (some 1) (.t 3), none⟩,
    ⟨some 15, .mv (.t 1), none⟩,
    ⟨some 16, .call 51 [.t 14, .t 15], none⟩,
    ⟨some 13, .mv (.t 16), none⟩,
    ⟨some 17, .ext (.t 13) 0, none⟩,
    ⟨some 18, .ext (.t 13) 1, none⟩,
    ⟨some 7, .mv (.t 17), none⟩,
    ⟨some 8, .mv (.t 18), none⟩] [] [2, 3, 7])
  (.seq (.reg false [⟨some 19, .ld (some 1) (.t 3), none⟩,
    ⟨some 20, .mv (.t 7), none⟩,
    ⟨some 21, .mv (.t 2), none⟩,
    ⟨some 22, .call 63 [.t 19, .t 20, .t 21], none⟩,
    ⟨some 6, .mv (.t 22), none⟩] [] [6])
  .ret)))), [(6, none)]⟩
theorem spec_Derives_ok : okFn Try.prog 39 spec_Derives = true := by kernel_rfl
def impl_KnowPut : IFn := ⟨24, (.seq (.reg false [⟨some 3, .box (.t 0), none⟩,
    ⟨some 6, .mv (.c (.nil)), none⟩,
    ⟨some 7, .mv (.c (.bool false)), none⟩] [] [1, 2, 3])
  (.seq (.seq (.reg false [⟨some 9, .ld (some 1) (.t 3), none⟩,
    ⟨some 10, .mv (.t 1), none⟩,
    ⟨some 11, .call 36 [.t 9, .t 10], none⟩,
    ⟨some 12, .not (.t 11), none⟩] [] [1, 2, 3, 12])
  (.cond (.t 12)
  (.seq (.reg false [⟨some 6, .mv (.c (.nil)), none⟩,
    ⟨some 7, .mv (.c (.bool false)), none⟩] [] [6, 7])
  .ret)
  .skip))
  (.seq (.reg false [⟨some 13, .mv (.t 1), none⟩,
    ⟨some 14, .call 64 [.t 13], none⟩,
    ⟨some 8, .mv (.t 14), none⟩] [] [2, 3, 8])
  (.seq (.seq (.reg false [⟨some 15, .mv (.t 2), none⟩,
    ⟨some 16, .call 60 [.t 3, .t 15], none⟩,
    ⟨some 17, .not (.t 16), none⟩] [] [2, 8, 17])
  (.cond (.t 17)
  (.seq (.reg false [⟨some 18, .mv (.t 8), none⟩,
    ⟨some 6, .mv (.t 18), none⟩,
    ⟨some 7, .mv (.c (.bool false)), none⟩] [] [6, 7])
  .ret)
  .skip))
  (.seq (.reg false [⟨some 19, .mv (.t 8), none⟩,
    ⟨some 20, .mv (.t 2), none⟩,
    ⟨some 21, .call 65 [.t 19, .t 20], none⟩,
    ⟨some 22, .ext (.t 21) 0, none⟩,
    ⟨some 23, .ext (.t 21) 1, none⟩,
    ⟨some 6, .mv (.t 22), none⟩,
    ⟨some 7, .mv (.t 23), none⟩] [] [6, 7])
  .ret))))), [(6, none), (7, none)]⟩
theorem impl_KnowPut_ok : okFn Try.prog 40 impl_KnowPut = true := by kernel_rfl
def impl_NameOf : IFn := ⟨12, (.seq (.reg false [⟨some 2, .box (.t 0), none⟩,
    ⟨some 4, .new [.nil], none⟩,
    ⟨some 5, .mv (.c (.int .i64 0)), none⟩] [] [1, 2, 4])
  (.seq (.reg false [⟨some 6, .ld (some 1) (.t 2), none⟩,
    ⟨some 7, .mv (.t 1), none⟩,
    ⟨some 8, .build [.int .i64 0, .int .i64 0, .int .i64 0] [(0, 1, .c (.int .i64 1)), (1, 1, .t 7)], none⟩,
    ⟨some 9, .call 66 [.t 6, .t 8], none⟩,
    ⟨some 10, .ext (.t 9) 0, none⟩,
    ⟨some 11, .ext (.t 9) 1, none⟩,
    ⟨none, .st 1 (.t 4) (.t 10), none⟩,
    ⟨some 5, .mv (.t 11), none⟩] [] [4, 5])
  .ret)), [(4, some (some 1)), (5, none)]⟩
theorem impl_NameOf_ok : okFn Try.prog 41 impl_NameOf = true := by kernel_rfl
def spec_NameOf : IFn := ⟨12, (.seq (.reg false [⟨some 2, .box (.t 0), none⟩,
    ⟨some 4, .new [.nil], none⟩,
    ⟨some 5, .mv (.c (.int .i64 0)), none⟩] [] [1, 2, 4])
  (.seq (.reg false [⟨some 6, .ld (some 1) (.t 2), none⟩,
    ⟨some 7, .mv (.t 1), none⟩,
    ⟨some 8, .build [.int .i64 0, .int .i64 0, .int .i64 0] [(0, 1, .c (.int .i64 1)), (1, 1, .t 7)], none⟩,
    ⟨some 9, .call 67 [.t 6, .t 8], none⟩,
    ⟨some 10, .ext (.t 9) 0, none⟩,
    ⟨some 11, .ext (.t 9) 1, none⟩,
    ⟨none, .st 1 (.t 4) (.t 10), none⟩,
    ⟨some 5, .mv (.t 11), none⟩] [] [4, 5])
  .ret)), [(4, some (some 1)), (5, none)]⟩
theorem spec_NameOf_ok : okFn Try.prog 42 spec_NameOf = true := by kernel_rfl
def impl_MakeSeal : IFn := ⟨15, (.seq (.reg false [⟨some 3, .box (.t 0), none⟩,
    ⟨some 6, .new [.nil], none⟩,
    ⟨some 7, .mv (.c (.int .i64 0)), none⟩] [] [1, 2, 3, 6])
  (.seq (.reg false [⟨some 8, .ld (some 1) (.t 3), none⟩,
    ⟨some 9, .mv (.t 1), none⟩,
    ⟨some 10, .mv (.t 2), none⟩,
    ⟨some 11, .build [.int .i64 0, .int .i64 0, .int .i64 0] [(0, 1, .c (.int .i64 3)), (1, 1, .t 9), (2, 1, .t 10)], none⟩,
    ⟨some 12, .call 66 [.t 8, .t 11], none⟩,
    ⟨some 13, .ext (.t 12) 0, none⟩,
    ⟨some 14, .ext (.t 12) 1, none⟩,
    ⟨none, .st 1 (.t 6) (.t 13), none⟩,
    ⟨some 7, .mv (.t 14), none⟩] [] [6, 7])
  .ret)), [(6, some (some 1)), (7, none)]⟩
theorem impl_MakeSeal_ok : okFn Try.prog 43 impl_MakeSeal = true := by kernel_rfl
def impl_MakeDigest : IFn := ⟨12, (.seq (.reg false [⟨some 2, .box (.t 0), none⟩,
    ⟨some 4, .new [.nil], none⟩,
    ⟨some 5, .mv (.c (.int .i64 0)), none⟩] [] [1, 2, 4])
  (.seq (.reg false [⟨some 6, .ld (some 1) (.t 2), none⟩,
    ⟨some 7, .mv (.t 1), none⟩,
    ⟨some 8, .build [.int .i64 0, .int .i64 0, .int .i64 0] [(0, 1, .c (.int .i64 5)), (1, 1, .t 7)], none⟩,
    ⟨some 9, .call 66 [.t 6, .t 8], none⟩,
    ⟨some 10, .ext (.t 9) 0, none⟩,
    ⟨some 11, .ext (.t 9) 1, none⟩,
    ⟨none, .st 1 (.t 4) (.t 10), none⟩,
    ⟨some 5, .mv (.t 11), none⟩] [] [4, 5])
  .ret)), [(4, some (some 1)), (5, none)]⟩
theorem impl_MakeDigest_ok : okFn Try.prog 44 impl_MakeDigest = true := by kernel_rfl
def laws_szNodeS : IFn := ⟨12, (.seq (.reg false [⟨some 4, .mv (.c (.int .i64 0)), none⟩] [] [0, 1])
  (.seq (.reg false [⟨some 5, .mv (.t 1), none⟩,
    ⟨some 6, .mv (.t 0), none⟩,
    ⟨some 7, .len false (.t 6), none⟩,
    ⟨some 8, .bin .sub (.t 5) (.t 7), none⟩,
    ⟨some 1, .mv (.t 8), none⟩] [] [1])
  (.seq (.seq (.reg false [⟨some 9, .mv (.t 1), none⟩,
    ⟨some 10, .bin .lss (.t 9) (.c (.int .i64 0)), none⟩] [] [1, 10])
  (.cond (.t 10)
  (.seq (.reg false [⟨some 4, .mv (.c (.int .i64 (-1))), none⟩] [] [4])
  .ret)
  .skip))
  (.seq (.reg false [⟨some 11, .mv (.t 1), none⟩,
    ⟨some 4, .mv (.t 11), none⟩] [] [4])
  .ret)))), [(4, none)]⟩
theorem laws_szNodeS_ok : okFn Try.prog 45 laws_szNodeS = true := by kernel_rfl
def spec_l8Once : IFn := ⟨65, (.seq (.reg false [⟨some 2, .box (.t 0), none⟩,
    ⟨some 4, .mv (.c (.nil)), none⟩,
    ⟨some 5, .mv (.c (.bool false)), none⟩] [] [1, 2])
  (.seq (.reg false [⟨some 10, .ld (some 1) (.t 2), none⟩,
    ⟨some 11, .mv (.t 1), none⟩,
    ⟨some 12, .call 68 [.t 10, .t 11], none⟩,
    ⟨some 6, .mv (.t 12), none⟩] [] [1, 2, 6])
  (.seq (.reg false [⟨some 13, .bsl 1 0 [.int .i64 0] [], none⟩,
    ⟨some 14, .mv (.t 1), none⟩,
    ⟨some 15, .app 1 8 (.t 13) (.t 14), none⟩,
    ⟨some 7, .mv (.t 15), none⟩] [] [1, 2, 6, 7])
  (.seq (.seq (.reg false [⟨some 8, .mv (.c (.int .i64 0)), none⟩] [] [1, 2, 6, 7, 8])
  (.block 0 (.loop (.seq (.seq (.reg false [⟨some 16, .mv (.t 8), none⟩,
    ⟨some 17, .mv (.t 1), none⟩,
    ⟨some 18, .len false (.t 17), none⟩,
    ⟨some 19, .bin .lss (.t 16) (.t 18), none⟩] [] [1, 2, 6, 7, 8, 19])
  (.cond (.t 19)
  .skip
  (.exit 0)))
  (.seq (.block 1 (.seq (.reg true [⟨some 22, .fad 0 (.t 2), none⟩,
    ⟨some 23, .ld none (.t 22), none⟩,
    ⟨some 24, .mv (.t 1), none⟩,
    ⟨some 25, .mv (.t 8), none⟩,
    ⟨some 26, .iad 1 (.t 24) (.t 25), none⟩,
    ⟨some 27, .ld none (.t 26), none⟩,
    ⟨some 28, .iad 3 (.t 23) (.t 27), none⟩,
    ⟨some 29, .ld (some 3) (.t 28), none⟩,
    ⟨some 9, .new [.int .i64 0, .int .i64 0, .int .i64 0], none⟩,
    ⟨none, .st 3 (.t 9) (.t 29), none⟩] [0, 1, 0, 0, 12, 28, 63, 127, 0, 511] [1, 2, 6, 7, 8, 9])
  (.block 2 (.seq (.reg false [⟨some 31, .fad 0 (.t 9), none⟩,
    ⟨some 32, .ld none (.t 31), none⟩,
    ⟨some 33, .bin .eql (.t 32) (.c (.int .i64 2)), none⟩,
    ⟨some 30, .mv (.t 33), none⟩] [] [1, 2, 6, 7, 8, 9, 30])
  (.cond (.t 30)
  (.reg true [⟨some 34, .mv (.t 7), none⟩,
    ⟨some 35, .fad 1 (.t 9), none⟩,
    ⟨some 36, .ld none (.t 35), none⟩,
    ⟨some 37, .call 69 [.t 34, .t 36], none⟩,
    ⟨some 38, .fad 2 (.t 9), none⟩,
    ⟨some 39, .ld none (.t 38), none⟩,
    ⟨some 40, .call 69 [.t 37, .t 39], none⟩,
    ⟨some 7, .mv (.t 40), none⟩] [0, 0, 2, 7, 0, 16, 63, 127] [1, 2, 6, 7, 8])
  (.seq (.reg false [⟨some 42, .fad 0 (.t 9), none⟩,
    ⟨some 43, .ld none (.t 42), none⟩,
    ⟨some 44, .bin .eql (.t 43) (.c (.int .i64 4)), none⟩,
    ⟨some 45, .mv (.t 44), none⟩,
    ⟨some 46, .fad 0 (.t 9), some (45, false)⟩,
    ⟨some 47, .ld none (.t 46), some (45, false)⟩,
    ⟨some 48, .bin .eql (.t 47) (.c (.int .i64 3)), some (45, false)⟩,
    ⟨some 49, .mv (.t 48), some (45, false)⟩,
    ⟨some 50, .mv (.t 6), some (49, true)⟩,
    ⟨some 51, .fad 2 (.t 9), some (49, true)⟩,
    ⟨some 52, .ld none (.t 51), some (49, true)⟩,
    ⟨some 53, .iad 1 (.t 50) (.t 52), some (49, true)⟩,
    ⟨some 54, .ld none (.t 53), some (49, true)⟩,
    ⟨some 55, .pick (.t 49) (.t 54) (.c (.bool false)), some (45, false)⟩,
    ⟨some 56, .pick (.t 45) (.c (.bool true)) (.t 55), none⟩,
    ⟨some 41, .mv (.t 56), none⟩] [] [1, 2, 6, 7, 8, 9, 41])
  (.cond (.t 41)
  (.reg false [⟨some 57, .mv (.t 7), none⟩,
    ⟨some 58, .fad 1 (.t 9), none⟩,
    ⟨some 59, .ld none (.t 58), none⟩,
    ⟨some 60, .call 69 [.t 57, .t 59], none⟩,
    ⟨some 7, .mv (.t 60), none⟩] [] [1, 2, 6, 7, 8])
  .skip)))))))
  (.reg false [⟨some 20, .mv (.t 8), none⟩,
    ⟨some 21, .bin .add (.t 20) (.c (.int .i64 1)), none⟩,
    ⟨some 8, .mv (.t 21), none⟩] [] [1, 2, 6, 7, 8]))))))
  (.seq (.reg false [⟨some 61, .mv (.t 7), none⟩,
    ⟨some 62, .mv (.t 7), none⟩,
    ⟨some 63, .len false (.t 62), none⟩,
    ⟨some 64, .bin .leq (.t 63) (.c (.int .i64 200)), none⟩,
    ⟨some 4, .mv (.t 61), none⟩,
    ⟨some 5, .mv (.t 64), none⟩] [] [4, 5])
  .ret))))), [(4, none), (5, none)]⟩
theorem spec_l8Once_ok : okFn Try.prog 46 spec_l8Once = true := by kernel_rfl
def laws_toNodeS : IFn := ⟨23, (.seq (.reg false [⟨some 2, .mv (.c (.nil)), none⟩] [] [0])
  (.seq (.reg false [⟨some 5, .mv (.t 0), none⟩,
    ⟨some 6, .len false (.t 5), none⟩,
    ⟨some 7, .mk 3 24 [.int .i64 0, .int .i64 0, .int .i64 0] (.t 6) (.t 6), none⟩,
    ⟨some 3, .mv (.t 7), none⟩] [] [0, 3])
  (.seq (.seq (.reg false [⟨some 4, .mv (.c (.int .i64 0)), none⟩] [] [0, 3, 4])
  (.block 0 (.loop (.seq (.seq (.reg false [⟨some 8, .mv (.t 4), none⟩,
    ⟨some 9, .mv (.t 0), none⟩,
    ⟨some 10, .len false (.t 9), none⟩,
    ⟨some 11, .bin .lss (.t 8) (.t 10), none⟩] [] [0, 3, 4, 11])
  (.cond (.t 11)
  .skip
  (.exit 0)))
  (.seq (.block 1 (.reg false [⟨some 14, .mv (.t 3), none⟩,
    ⟨some 15, .mv (.t 4), none⟩,
    ⟨some 16, .mv (.t 0), none⟩,
    ⟨some 17, .mv (.t 4), none⟩,
    ⟨some 18, .iad 3 (.t 16) (.t 17), none⟩,
    ⟨some 19, .ld (some 3) (.t 18), none⟩,
    ⟨some 20, .call 70 [.t 19], none⟩,
    ⟨some 21, .iad 3 (.t 14) (.t 15), none⟩,
    ⟨none, .st 3 (.t 21) (.t 20), none⟩] [] [0, 3, 4]))
  (.reg false [⟨some 12, .mv (.t 4), none⟩,
    ⟨some 13, .bin .add (.t 12) (.c (.int .i64 1)), none⟩,
    ⟨some 4, .mv (.t 13), none⟩] [] [0, 3, 4]))))))
  (.seq (.reg false [⟨some 22, .mv (.t 3), none⟩,
    ⟨some 2, .mv (.t 22), none⟩] [] [2])
  .ret)))), [(2, none)]⟩
theorem laws_toNodeS_ok : okFn Try.prog 47 laws_toNodeS = true := by kernel_rfl
def impl_Pool_openOnce : IFn := ⟨72, (.seq (.reg false [⟨some 4, .mv (.c (.nil)), none⟩] [] [0, 1])
  (.seq (.reg false [⟨some 10, .mv (.t 0), none⟩,
    ⟨some 11, .mv (.t 1), none⟩,
    ⟨some 12, .call 71 [.t 10, .t 11], none⟩,
    ⟨some 5, .mv (.t 12), none⟩] [] [0, 1, 5])
  (.seq (.reg false [⟨some 13, .mv (.t 1), none⟩,
    ⟨some 14, .call 64 [.t 13], none⟩,
    ⟨some 6, .mv (.t 14), none⟩] [] [0, 1, 5, 6])
  (.seq (.seq (.reg false [⟨some 15, .mv (.t 1), none⟩,
    ⟨some 16, .len false (.t 15), none⟩,
    ⟨some 17, .mv (.c (.int .i64 0)), none⟩] [] [0, 1, 5, 6, 15, 16, 17])
  (.block 0 (.loop (.seq (.reg false [⟨some 18, .bin .lss (.t 17) (.t 16), none⟩] [] [0, 1, 5, 6, 15, 16, 17, 18])
  (.seq (.cond (.t 18)
  .skip
  (.exit 0))
  (.seq (.block 1 (.seq (.reg false [⟨some 19, .iad 1 (.t 15) (.t 17), none⟩,
    ⟨some 20, .ld none (.t 19), none⟩,
    ⟨some 8, .mv (.t 20), none⟩] [] [0, 1, 5, 6, 8, 15, 16, 17])
  (.seq (.reg false [⟨some 21, .mv (.t 0), none⟩,
    ⟨some 22, .nck (.t 21), none⟩,
    ⟨some 23, .fad 0 (.t 22), none⟩,
    ⟨some 24, .ld none (.t 23), none⟩,
    ⟨some 25, .mv (.t 8), none⟩,
    ⟨some 26, .iad 3 (.t 24) (.t 25), none⟩,
    ⟨some 27, .ld (some 3) (.t 26), none⟩,
    ⟨some 9, .new [.int .i64 0, .int .i64 0, .int .i64 0], none⟩,
    ⟨none, .st 3 (.t 9) (.t 27), none⟩] [] [0, 1, 5, 6, 9, 15, 16, 17])
  (.block 2 (.seq (.reg false [⟨some 29, .fad 0 (.t 9), none⟩,
    ⟨some 30, .ld none (.t 29), none⟩,
    ⟨some 31, .bin .eql (.t 30) (.c (.int .i64 2)), none⟩,
    ⟨some 28, .mv (.t 31), none⟩] [] [0, 1, 5, 6, 9, 15, 16, 17, 28])
  (.cond (.t 28)
  (.reg false [⟨some 32, .mv (.t 6), none⟩,
    ⟨some 33, .fad 1 (.t 9), none⟩,
    ⟨some 34, .ld none (.t 33), none⟩,
    ⟨some 35, .fad 2 (.t 9), none⟩,
    ⟨some 36, .ld none (.t 35), none⟩,
    ⟨some 37, .bsl 1 2 [.int .i64 0] [(0, 1, .t 34), (1, 1, .t 36)], none⟩,
    ⟨some 38, .app 1 8 (.t 32) (.t 37), none⟩,
    ⟨some 6, .mv (.t 38), none⟩] [] [0, 1, 5, 6, 15, 16, 17])
  (.seq (.reg false [⟨some 40, .fad 0 (.t 9), none⟩,
    ⟨some 41, .ld none (.t 40), none⟩,
    ⟨some 42, .bin .eql (.t 41) (.c (.int .i64 4)), none⟩,
    ⟨some 43, .mv (.t 42), none⟩,
    ⟨some 44, .fad 0 (.t 9), some (43, false)⟩,
    ⟨some 45, .ld none (.t 44), some (43, false)⟩,
    ⟨some 46, .bin .eql (.t 45) (.c (.int .i64 3)), some (43, false)⟩,
    ⟨some 47, .mv (.t 46), some (43, false)⟩,
    ⟨some 48, .mv (.t 5), some (47, true)⟩,
    ⟨some 49, .fad 2 (.t 9), some (47, true)⟩,
    ⟨some 50, .ld none (.t 49), some (47, true)⟩,
    ⟨some 51, .iad 1 (.t 48) (.t 50), some (47, true)⟩,
    ⟨some 52, .ld none (.t 51), some (47, true)⟩,
    ⟨some 53, .pick (.t 47) (.t 52) (.c (.bool false)), some (43, false)⟩,
    ⟨some 54, .pick (.t 43) (.c (.bool true)) (.t 53), none⟩,
    ⟨some 39, .mv (.t 54), none⟩] [] [0, 1, 5, 6, 9, 15, 16, 17, 39])
  (.cond (.t 39)
  (.reg false [⟨some 55, .mv (.t 6), none⟩,
    ⟨some 56, .fad 1 (.t 9), none⟩,
    ⟨some 57, .ld none (.t 56), none⟩,
    ⟨some 58, .bsl 1 1 [.int .i64 0] [(0, 1, .t 57)], none⟩,
    ⟨some 59, .app 1 8 (.t 55) (.t 58), none⟩,
    ⟨some 6, .mv (.t 59), none⟩] [] [0, 1, 5, 6, 15, 16, 17])
  .skip))))))))
  (.reg false [⟨some 60, .bin .add (.t 17) (.c (.int .i64 1)), none⟩,
    ⟨some 17, .mv (.t 60), none⟩] [] [0, 1, 5, 6, 15, 16, 17])))))))
  (.seq (.reg false [⟨some 61, .mv (.t 6), none⟩,
    ⟨some 62, .call 72 [.t 61], none⟩] [] [1, 6])
  (.seq (.reg false [⟨some 63, .mv (.t 6), none⟩,
    ⟨some 64, .call 74 [.t 63], none⟩,
    ⟨some 65, .call 73 [.t 64], none⟩,
    ⟨some 6, .mv (.t 65), none⟩] [] [1, 6])
  (.seq (.seq (.reg false [⟨some 66, .mv (.t 6), none⟩,
    ⟨some 67, .len false (.t 66), none⟩,
    ⟨some 68, .bin .gtr (.t 67) (.c (.int .i64 200)), none⟩] [] [1, 6, 68])
  (.cond (.t 68)
  (.seq (.reg false [⟨some 69, .mv (.t 1), none⟩,
    ⟨some 70, .call 64 [.t 69], none⟩,
    ⟨some 4, .mv (.t 70), none⟩] [] [4])
  .ret)
  .skip))
  (.seq (.reg false [⟨some 71, .mv (.t 6), none⟩,
    ⟨some 4, .mv (.t 71), none⟩] [] [4])
  .ret)))))))), [(4, none)]⟩
theorem impl_Pool_openOnce_ok : okFn Try.prog 48 impl_Pool_openOnce = true := by kernel_rfl
def laws_eqNodeS : IFn := ⟨27, (.seq (.reg false [⟨some 4, .mv (.c (.bool false)), none⟩] [] [0, 1])
  (.seq (.seq (.reg false [⟨some 6, .mv (.t 0), none⟩,
    ⟨some 7, .len false (.t 6), none⟩,
    ⟨some 8, .mv (.t 1), none⟩,
    ⟨some 9, .len false (.t 8), none⟩,
    ⟨some 10, .bin .neq (.t 7) (.t 9), none⟩] [] [0, 1, 10])
  (.cond (.t 10)
  (.seq (.reg false [⟨some 4, .mv (.c (.bool false)), none⟩] [] [4])
  .ret)
  .skip))
  (.seq (.seq (.reg false [⟨some 5, .mv (.c (.int .i64 0)), none⟩] [] [0, 1, 5])
  (.block 0 (.loop (.seq (.seq (.reg false [⟨some 11, .mv (.t 5), none⟩,
    ⟨some 12, .mv (.t 0), none⟩,
    ⟨some 13, .len false (.t 12), none⟩,
    ⟨some 14, .bin .lss (.t 11) (.t 13), none⟩] [] [0, 1, 5, 14])
  (.cond (.t 14)
  .skip
  (.exit 0)))
  (.seq (.block 1 (.seq (.reg true [⟨some 17, .mv (.t 0), none⟩,
    ⟨some 18, .mv (.t 5), none⟩,
    ⟨some 19, .iad 3 (.t 17) (.t 18), none⟩,
    ⟨some 20, .ld (some 3) (.t 19), none⟩,
    ⟨some 21, .mv (.t 1), none⟩,
    ⟨some 22, .mv (.t 5), none⟩,
    ⟨some 23, .iad 3 (.t 21) (.t 22), none⟩,
    ⟨some 24, .ld (some 3) (.t 23), none⟩,
    ⟨some 25, .call 75 [.t 20, .t 24], none⟩,
    ⟨some 26, .not (.t 25), none⟩] [0, 0, 3, 7, 0, 0, 48, 112, 255, 511] [0, 1, 5, 26])
  (.cond (.t 26)
  (.seq (.reg false [⟨some 4, .mv (.c (.bool false)), none⟩] [] [4])
  .ret)
  .skip)))
  (.reg false [⟨some 15, .mv (.t 5), none⟩,
    ⟨some 16, .bin .add (.t 15) (.c (.int .i64 1)), none⟩,
    ⟨some 5, .mv (.t 16), none⟩] [] [0, 1, 5]))))))
  (.seq (.reg false [⟨some 4, .mv (.c (.bool true)), none⟩] [] [4])
  .ret)))), [(4, none)]⟩
theorem laws_eqNodeS_ok : okFn Try.prog 49 laws_eqNodeS = true := by kernel_rfl
def spec_l8All : IFn := ⟨33, (.seq (.reg false [⟨some 2, .box (.t 0), none⟩,
    ⟨some 4, .mv (.c (.nil)), none⟩,
    ⟨some 5, .mv (.c (.int .i64 0)), none⟩] [] [1, 2])
  (.seq (.reg false [⟨some 10, .bsl 1 0 [.int .i64 0] [], none⟩,
    ⟨some 11, .mv (.t 1), none⟩,
    ⟨some 12, .app 1 8 (.t 10) (.t 11), none⟩,
    ⟨some 6, .mv (.t 12), none⟩] [] [2, 6])
  (.seq (.reg false [⟨some 7, .mv (.c (.int .i64 0)), none⟩] [] [2, 6, 7])
  (.block 0 (.loop (.block 1 (.seq (.reg false [⟨some 14, .ld (some 1) (.t 2), none⟩,
    ⟨some 15, .mv (.t 6), none⟩,
    ⟨some 16, .call 46 [.t 14, .t 15], none⟩,
    ⟨some 13, .mv (.t 16), none⟩,
    ⟨some 17, .ext (.t 13) 0, none⟩,
    ⟨some 18, .ext (.t 13) 1, none⟩,
    ⟨some 8, .mv (.t 17), none⟩,
    ⟨some 9, .mv (.t 18), none⟩] [] [2, 6, 7, 8, 9])
  (.seq (.seq (.reg false [⟨some 19, .mv (.t 9), none⟩,
    ⟨some 20, .not (.t 19), none⟩,
    ⟨some 21, .mv (.t 20), none⟩,
    ⟨some 22, .mv (.t 8), some (21, false)⟩,
    ⟨some 23, .len false (.t 22), some (21, false)⟩,
    ⟨some 24, .mv (.t 6), some (21, false)⟩,
    ⟨some 25, .len false (.t 24), some (21, false)⟩,
    ⟨some 26, .bin .eql (.t 23) (.t 25), some (21, false)⟩,
    ⟨some 27, .pick (.t 21) (.c (.bool true)) (.t 26), none⟩] [] [2, 6, 7, 8, 27])
  (.cond (.t 27)
  (.seq (.reg false [⟨some 28, .mv (.t 6), none⟩,
    ⟨some 29, .mv (.t 7), none⟩,
    ⟨some 4, .mv (.t 28), none⟩,
    ⟨some 5, .mv (.t 29), none⟩] [] [4, 5])
  .ret)
  .skip))
  (.seq (.reg false [⟨some 30, .mv (.t 8), none⟩,
    ⟨some 6, .mv (.t 30), none⟩] [] [2, 6, 7])
  (.reg false [⟨some 31, .mv (.t 7), none⟩,
    ⟨some 32, .bin .add (.t 31) (.c (.int .i64 1)), none⟩,
    ⟨some 7, .mv (.t 32), none⟩] [] [2, 6, 7])))))))))), [(4, none), (5, none)]⟩
theorem spec_l8All_ok : okFn Try.prog 51 spec_l8All = true := by kernel_rfl
def impl_Pool_openAll : IFn := ⟨21, (.seq (.reg false [⟨some 4, .mv (.c (.nil)), none⟩,
    ⟨some 5, .mv (.c (.int .i64 0)), none⟩] [] [0, 1])
  (.seq (.reg false [⟨some 6, .mv (.c (.int .i64 0)), none⟩] [] [0, 1, 6])
  (.block 0 (.loop (.block 1 (.seq (.reg false [⟨some 8, .mv (.t 0), none⟩,
    ⟨some 9, .mv (.t 1), none⟩,
    ⟨some 10, .call 48 [.t 8, .t 9], none⟩,
    ⟨some 7, .mv (.t 10), none⟩] [] [0, 1, 6, 7])
  (.seq (.seq (.reg false [⟨some 11, .mv (.t 7), none⟩,
    ⟨some 12, .len false (.t 11), none⟩,
    ⟨some 13, .mv (.t 1), none⟩,
    ⟨some 14, .len false (.t 13), none⟩,
    ⟨some 15, .bin .eql (.t 12) (.t 14), none⟩] [] [0, 6, 7, 15])
  (.cond (.t 15)
  (.seq (.reg false [⟨some 16, .mv (.t 7), none⟩,
    ⟨some 17, .mv (.t 6), none⟩,
    ⟨some 4, .mv (.t 16), none⟩,
    ⟨some 5, .mv (.t 17), none⟩] [] [4, 5])
  .ret)
  .skip))
  (.seq (.reg false [⟨some 18, .mv (.t 7), none⟩,
    ⟨some 1, .mv (.t 18), none⟩] [] [0, 1, 6])
  (.reg false [⟨some 19, .mv (.t 6), none⟩,
    ⟨some 20, .bin .add (.t 19) (.c (.int .i64 1)), none⟩,
    ⟨some 6, .mv (.t 20), none⟩] [] [0, 1, 6]))))))))), [(4, none), (5, none)]⟩
theorem impl_Pool_openAll_ok : okFn Try.prog 52 impl_Pool_openAll = true := by kernel_rfl
def spec_MakesList : IFn := ⟨9, (.seq (.reg false [⟨some 2, .box (.t 0), none⟩,
    ⟨some 4, .mv (.c (.nil)), none⟩] [] [1, 2])
  (.seq (.reg false [⟨some 5, .ld (some 1) (.t 2), none⟩,
    ⟨some 6, .mv (.t 1), none⟩,
    ⟨some 7, .call 77 [.t 5, .t 6], none⟩,
    ⟨some 8, .call 76 [.t 7], none⟩,
    ⟨some 4, .mv (.t 8), none⟩] [] [4])
  .ret)), [(4, none)]⟩
theorem spec_MakesList_ok : okFn Try.prog 53 spec_MakesList = true := by kernel_rfl
def spec_l6Draw : IFn := ⟨20, (.seq (.reg false [⟨some 2, .new [.nil], none⟩,
    ⟨some 3, .mv (.c (.nil)), none⟩,
    ⟨some 4, .mv (.c (.int .i64 0)), none⟩] [] [0, 2])
  (.seq (.reg false [⟨some 8, .mv (.t 0), none⟩,
    ⟨some 9, .call 78 [.t 8], none⟩,
    ⟨some 5, .mv (.t 9), none⟩] [] [2, 5])
  (.seq (.reg false [⟨some 10, .mv (.t 5), none⟩,
    ⟨some 11, .call 79 [.t 10], none⟩,
    ⟨some 6, .new [.nil], none⟩,
    ⟨none, .st 1 (.t 6) (.t 11), none⟩] [] [2, 5, 6])
  (.seq (.reg false [⟨some 12, .mv (.t 5), none⟩,
    ⟨some 13, .ld (some 1) (.t 6), none⟩,
    ⟨some 14, .call 80 [.t 12, .t 13], none⟩,
    ⟨some 7, .mv (.t 14), none⟩] [] [2, 5, 6, 7])
  (.seq (.reg true [⟨some 15, .ld (some 1) (.t 6), none⟩,
    ⟨some 16, .mv (.t 7), none⟩,
    ⟨some 17, .mv (.t 5), none⟩,
    ⟨some 18, .ld (some 1) (.t 6), none⟩,
    ⟨some 19, .call 81 [.t 17, .t 18], none⟩,
    ⟨none, .st 1 (.t 2) (.t 15), none⟩,
    ⟨some 3, .mv (.t 16), none⟩,
    ⟨some 4, .mv (.t 19), none⟩] [0, 0, 0, 0, 12, 29, 63, 127] [2, 3, 4])
  .ret))))), [(2, some (some 1)), (3, none), (4, none)]⟩
theorem spec_l6Draw_ok : okFn Try.prog 54 spec_l6Draw = true := by kernel_rfl
def spec_PoolOk : IFn := ⟨34, (.seq (.reg false [⟨some 1, .box (.t 0), none⟩,
    ⟨some 2, .mv (.c (.bool false)), none⟩] [] [1])
  (.seq (.seq (.reg false [⟨some 4, .fad 0 (.t 1), none⟩,
    ⟨some 5, .ld none (.t 4), none⟩,
    ⟨some 6, .len false (.t 5), none⟩,
    ⟨some 7, .bin .gtr (.t 6) (.c (.int .i64 500)), none⟩] [] [1, 7])
  (.cond (.t 7)
  (.seq (.reg false [⟨some 2, .mv (.c (.bool false)), none⟩] [] [2])
  .ret)
  .skip))
  (.seq (.seq (.reg false [⟨some 3, .mv (.c (.int .i64 0)), none⟩] [] [1, 3])
  (.block 0 (.loop (.seq (.seq (.reg false [⟨some 8, .mv (.t 3), none⟩,
    ⟨some 9, .fad 0 (.t 1), none⟩,
    ⟨some 10, .ld none (.t 9), none⟩,
    ⟨some 11, .len false (.t 10), none⟩,
    ⟨some 12, .bin .lss (.t 8) (.t 11), none⟩] [] [1, 3, 12])
  (.cond (.t 12)
  .skip
  (.exit 0)))
  (.seq (.block 1 (.seq (.reg true [⟨some 15, .fad 0 (.t 1), none⟩,
    ⟨some 16, .ld none (.t 15), none⟩,
    ⟨some 17, .mv (.t 3), none⟩,
    ⟨some 18, .iad 3 (.t 16) (.t 17), none⟩,
    ⟨some 19, .ld (some 3) (.t 18), none⟩,
    ⟨some 20, .mv (.t 3), none⟩,
    ⟨some 21, .call 82 [.t 19, .t 20], none⟩,
    ⟨some 22, .not (.t 21), none⟩,
    ⟨some 23, .mv (.t 22), none⟩,
    ⟨some 24, .ld (some 1) (.t 1), some (23, false)⟩,
    ⟨some 25, .fad 0 (.t 1), some (23, false)⟩,
    ⟨some 26, .ld none (.t 25), some (23, false)⟩,
    ⟨some 27, .mv (.t 3), some (23, false)⟩,
    ⟨some 28, .iad 3 (.t 26) (.t 27), some (23, false)⟩,
    ⟨some 29, .ld (some 3) (.t 28), some (23, false)⟩,
    ⟨some 30, .call 83 [.t 24, .t 29], some (23, false)⟩,
    ⟨some 31, .mv (.t 3), some (23, false)⟩,
    ⟨some 32, .bin .neq (.t 30) (.t 31), some (23, false)⟩,
    ⟨some 33, .pick (.t 23) (.c (.bool true)) (.t 32), none⟩] [0, 1, 0, 7, 15, 0, 63, 127, 255, 511, 511, 1535, 511, 7679, 15871, 32767, 511, 131071, 262143] [1, 3, 33])
  (.cond (.t 33)
  (.seq (.reg false [⟨some 2, .mv (.c (.bool false)), none⟩] [] [2])
  .ret)
  .skip)))
  (.reg false [⟨some 13, .mv (.t 3), none⟩,
    ⟨some 14, .bin .add (.t 13) (.c (.int .i64 1)), none⟩,
    ⟨some 3, .mv (.t 14), none⟩] [] [1, 3]))))))
  (.seq (.reg false [⟨some 2, .mv (.c (.bool true)), none⟩] [] [2])
  .ret)))), [(2, none)]⟩
theorem spec_PoolOk_ok : okFn Try.prog 55 spec_PoolOk = true := by kernel_rfl
def spec_l6Know : IFn := ⟨38, (.seq (.reg false [⟨some 2, .box (.t 0), none⟩,
    ⟨some 4, .mv (.c (.bool false)), none⟩] [] [1, 2])
  (.seq (.seq (.reg false [⟨some 6, .mv (.t 1), none⟩,
    ⟨some 7, .len false (.t 6), none⟩,
    ⟨some 8, .bin .gtr (.t 7) (.c (.int .i64 200)), none⟩] [] [1, 2, 8])
  (.cond (.t 8)
  (.seq (.reg false [⟨some 4, .mv (.c (.bool false)), none⟩] [] [4])
  .ret)
  .skip))
  (.seq (.seq (.reg false [⟨some 5, .mv (.c (.int .i64 0)), none⟩] [] [1, 2, 5])
  (.block 0 (.loop (.seq (.seq (.reg false [⟨some 9, .mv (.t 5), none⟩,
    ⟨some 10, .mv (.t 1), none⟩,
    ⟨some 11, .len false (.t 10), none⟩,
    ⟨some 12, .bin .lss (.t 9) (.t 11), none⟩] [] [1, 2, 5, 12])
  (.cond (.t 12)
  .skip
  (.exit 0)))
  (.seq (.block 1 (.seq (.reg true [⟨some 15, .ld (some 1) (.t 2), none⟩,
    ⟨some 16, .mv (.t 1), none⟩,
    ⟨some 17, .mv (.t 5), none⟩,
    ⟨some 18, .iad 1 (.t 16) (.t 17), none⟩,
    ⟨some 19, .ld none (.t 18), none⟩,
    ⟨some 20, .call 84 [.t 15, .t 19], none⟩,
    ⟨some 21, .not (.t 20), none⟩,
    ⟨some 22, .mv (.t 21), none⟩,
    ⟨some 23, .mv (.t 5), some (22, false)⟩,
    ⟨some 24, .bin .gtr (.t 23) (.c (.int .i64 0)), some (22, false)⟩,
    ⟨some 25, .mv (.t 24), some (22, false)⟩,
    ⟨some 26, .mv (.t 1), some (25, true)⟩,
    ⟨some 27, .mv (.t 5), some (25, true)⟩,
    ⟨some 28, .bin .sub (.t 27) (.c (.int .i64 1)), some (25, true)⟩,
    ⟨some 29, .iad 1 (.t 26) (.t 28), some (25, true)⟩,
    ⟨some 30, .ld none (.t 29), some (25, true)⟩,
    ⟨some 31, .mv (.t 1), some (25, true)⟩,
    ⟨some 32, .mv (.t 5), some (25, true)⟩,
    ⟨some 33, .iad 1 (.t 31) (.t 32), some (25, true)⟩,
    ⟨some 34, .ld none (.t 33), some (25, true)⟩,
    ⟨some 35, .bin .geq (.t 30) (.t 34), some (25, true)⟩,
    ⟨some 36, .pick (.t 25) (.t 35) (.c (.bool false)), some (22, false)⟩,
    ⟨some 37, .pick (.t 22) (.c (.bool true)) (.t 36), none⟩] [0, 0, 0, 6, 14, 31, 63, 127, 255, 511, 1023, 2047, 2047, 6143, 16383, 32767, 2047, 2047, 198655, 460799, 1048575, 2097151, 4194303] [1, 2, 5, 37])
  (.cond (.t 37)
  (.seq (.reg false [⟨some 4, .mv (.c (.bool false)), none⟩] [] [4])
  .ret)
  .skip)))
  (.reg false [⟨some 13, .mv (.t 5), none⟩,
    ⟨some 14, .bin .add (.t 13) (.c (.int .i64 1)), none⟩,
    ⟨some 5, .mv (.t 14), none⟩] [] [1, 2, 5]))))))
  (.seq (.reg false [⟨some 4, .mv (.c (.bool true)), none⟩] [] [4])
  .ret)))), [(4, none)]⟩
theorem spec_l6Know_ok : okFn Try.prog 56 spec_l6Know = true := by kernel_rfl
def slices_Contains_int : IFn := ⟨9, (.seq (.reg false [⟨some 4, .mv (.c (.bool false)), none⟩] [] [0, 1])
  (.seq (.reg false [⟨some 5, .mv (.t 0), none⟩,
    ⟨some 6, .mv (.t 1), none⟩,
    ⟨some 7, .call 85 [.t 5, .t 6], none⟩,
    ⟨some 8, .bin .geq (.t 7) (.c (.int .i64 0)), none⟩,
    ⟨some 4, .mv (.t 8), none⟩] [] [4])
  .ret)), [(4, none)]⟩
theorem slices_Contains_int_ok : okFn Try.prog 57 slices_Contains_int = true := by kernel_rfl
def impl_MakesAll : IFn := ⟨11, (.seq (.reg false [⟨some 2, .box (.t 0), none⟩,
    ⟨some 4, .mv (.c (.nil)), none⟩] [] [1, 2])
  (.seq (.seq (.reg false [⟨some 5, .ld (some 1) (.t 2), none⟩,
    ⟨some 6, .mv (.t 1), none⟩,
    ⟨some 7, .call 36 [.t 5, .t 6], none⟩,
    ⟨some 8, .not (.t 7), none⟩] [] [1, 2, 8])
  (.cond (.t 8)
  (.seq (.reg false [⟨some 4, .mv (.c (.nil)), none⟩] [] [4])
  .ret)
  .skip))
  (.seq (.reg false [⟨some 9, .mv (.t 1), none⟩,
    ⟨some 10, .call 71 [.t 2, .t 9], none⟩,
    ⟨some 4, .mv (.t 10), none⟩] [] [4])
  .ret))), [(4, none)]⟩
theorem impl_MakesAll_ok : okFn Try.prog 59 impl_MakesAll = true := by kernel_rfl
def impl_Pool_isTerm : IFn := ⟨13, (.seq (.reg false [⟨some 4, .mv (.c (.bool false)), none⟩] [] [0, 1])
  (.seq (.reg false [⟨some 5, .mv (.t 1), none⟩,
    ⟨some 6, .mv (.t 0), none⟩,
    ⟨some 7, .nck (.t 6), none⟩,
    ⟨some 8, .fad 0 (.t 7), none⟩,
    ⟨some 9, .ld none (.t 8), none⟩,
    ⟨some 10, .len false (.t 9), none⟩,
    ⟨some 11, .bin .sub (.t 10) (.c (.int .i64 1)), none⟩,
    ⟨some 12, .call 87 [.t 5, .c (.int .i64 0), .t 11], none⟩,
    ⟨some 4, .mv (.t 12), none⟩] [] [4])
  .ret)), [(4, none)]⟩
theorem impl_Pool_isTerm_ok : okFn Try.prog 60 impl_Pool_isTerm = true := by kernel_rfl
def impl_PoolOk : IFn := ⟨36, (.seq (.reg false [⟨some 1, .box (.t 0), none⟩,
    ⟨some 2, .mv (.c (.bool false)), none⟩] [] [1])
  (.seq (.seq (.reg false [⟨some 6, .fad 0 (.t 1), none⟩,
    ⟨some 7, .ld none (.t 6), none⟩,
    ⟨some 8, .len false (.t 7), none⟩,
    ⟨some 9, .bin .gtr (.t 8) (.c (.int .i64 500)), none⟩] [] [1, 9])
  (.cond (.t 9)
  (.seq (.reg false [⟨some 2, .mv (.c (.bool false)), none⟩] [] [2])
  .ret)
  .skip))
  (.seq (.reg false [⟨some 10, .mkm true, none⟩,
    ⟨some 3, .mv (.t 10), none⟩] [] [1, 3])
  (.seq (.seq (.reg false [⟨some 11, .fad 0 (.t 1), none⟩,
    ⟨some 12, .ld none (.t 11), none⟩,
    ⟨some 13, .len false (.t 12), none⟩,
    ⟨some 14, .mv (.c (.int .i64 0)), none⟩] [] [3, 12, 13, 14])
  (.block 0 (.loop (.seq (.reg false [⟨some 15, .bin .lss (.t 14) (.t 13), none⟩] [] [3, 12, 13, 14, 15])
  (.seq (.cond (.t 15)
  .skip
  (.exit 0))
  (.seq (.block 1 (.seq (.reg false [⟨some 16, .mv (.t 14), none⟩,
    ⟨some 17, .iad 3 (.t 12) (.t 14), none⟩,
    ⟨some 18, .ld (some 3) (.t 17), none⟩,
    ⟨some 5, .new [.int .i64 0, .int .i64 0, .int .i64 0], none⟩,
    ⟨some 4, .mv (.t 16), none⟩,
    ⟨none, .st 3 (.t 5) (.t 18), none⟩] [] [3, 4, 5, 12, 13, 14])
  (.seq (.reg true [⟨some 19, .mv (.t 3), none⟩,
    ⟨some 20, .ld (some 3) (.t 5), none⟩,
    ⟨some 21, .mlk true (.t 19) (.t 20), none⟩,
    ⟨some 22, .bin .add (.t 21) (.c (.int .i64 1)), none⟩,
    ⟨some 23, .men true (.t 19) (.t 20), none⟩,
    ⟨some 24, .ext (.t 23) 1, none⟩,
    ⟨none, .mst true (.t 19) (.t 24) (.t 22), none⟩] [0, 0, 3, 7, 3, 19, 63] [3, 4, 5, 12, 13, 14])
  (.seq (.reg false [⟨some 25, .mv (.t 3), none⟩,
    ⟨some 26, .ld (some 3) (.t 5), none⟩,
    ⟨some 27, .mlk true (.t 25) (.t 26), none⟩,
    ⟨some 28, .bin .gtr (.t 27) (.c (.int .i64 1)), none⟩,
    ⟨some 29, .mv (.t 28), none⟩,
    ⟨some 30, .ld (some 3) (.t 5), some (29, false)⟩,
    ⟨some 31, .mv (.t 4), some (29, false)⟩,
    ⟨some 32, .call 88 [.t 30, .t 31], some (29, false)⟩,
    ⟨some 33, .not (.t 32), some (29, false)⟩,
    ⟨some 34, .pick (.t 29) (.c (.bool true)) (.t 33), none⟩] [] [3, 12, 13, 14, 34])
  (.cond (.t 34)
  (.seq (.reg false [⟨some 2, .mv (.c (.bool false)), none⟩] [] [2])
  .ret)
  .skip)))))
  (.reg false [⟨some 35, .bin .add (.t 14) (.c (.int .i64 1)), none⟩,
    ⟨some 14, .mv (.t 35), none⟩] [] [3, 12, 13, 14])))))))
  (.seq (.reg false [⟨some 2, .mv (.c (.bool true)), none⟩] [] [2])
  .ret))))), [(2, none)]⟩
theorem impl_PoolOk_ok : okFn Try.prog 61 impl_PoolOk = true := by kernel_rfl
def impl_Pool_derives : IFn := ⟨16, (.seq (.reg false [⟨some 4, .mv (.c (.nil)), none⟩] [] [0, 1])
  (.seq (.reg false [⟨some 8, .mv (.t 0), none⟩,
    ⟨some 9, .mv (.t 1), none⟩,
    ⟨some 10, .call 52 [.t 8, .t 9], none⟩,
    ⟨some 7, .mv (.t 10), none⟩,
    ⟨some 11, .ext (.t 7) 0, none⟩,
    ⟨some 12, .ext (.t 7) 1, none⟩,
    ⟨some 5, .mv (.t 11), none⟩,
    ⟨some 6, .mv (.t 12), none⟩] [] [0, 5])
  (.seq (.reg false [⟨some 13, .mv (.t 0), none⟩,
    ⟨some 14, .mv (.t 5), none⟩,
    ⟨some 15, .call 71 [.t 13, .t 14], none⟩,
    ⟨some 4, .mv (.t 15), none⟩] [] [4])
  .ret))), [(4, none)]⟩
theorem impl_Pool_derives_ok : okFn Try.prog 62 impl_Pool_derives = true := by kernel_rfl
def spec_Makes : IFn := ⟨23, (.seq (.reg false [⟨some 3, .box (.t 0), none⟩,
    ⟨some 6, .mv (.c (.bool false)), none⟩] [] [1, 2, 3])
  (.seq (.seq (.reg false [⟨some 7, .ld (some 1) (.t 3), none⟩,
    ⟨some 8, .mv (.t 1), none⟩,
    ⟨some 9, .call 29 [.t 7, .t 8], none⟩,
    ⟨some 10, .not (.t 9), none⟩,
    ⟨some 11, .mv (.t 10), none⟩,
    ⟨some 12, .ld (some 1) (.t 3), some (11, false)⟩,
    ⟨some 13, .mv (.t 2), some (11, false)⟩,
    ⟨some 14, .call 84 [.t 12, .t 13], some (11, false)⟩,
    ⟨some 15, .not (.t 14), some (11, false)⟩,
    ⟨some 16, .pick (.t 11) (.c (.bool true)) (.t 15), none⟩] [] [1, 2, 3, 16])
  (.cond (.t 16)
  (.seq (.reg false [⟨some 6, .mv (.c (.bool false)), none⟩] [] [6])
  .ret)
  .skip))
  (.seq (.reg false [⟨some 17, .ld (some 1) (.t 3), none⟩,
    ⟨some 18, .mv (.t 1), none⟩,
    ⟨some 19, .call 68 [.t 17, .t 18], none⟩,
    ⟨some 20, .mv (.t 2), none⟩,
    ⟨some 21, .iad 1 (.t 19) (.t 20), none⟩,
    ⟨some 22, .ld none (.t 21), none⟩,
    ⟨some 6, .mv (.t 22), none⟩] [] [6])
  .ret))), [(6, none)]⟩
theorem spec_Makes_ok : okFn Try.prog 63 spec_Makes = true := by kernel_rfl
def slices_Clone_int : IFn := ⟨8, (.seq (.reg false [⟨some 2, .mv (.c (.nil)), none⟩] [] [0])
  (.seq (.seq (.reg false [⟨some 3, .mv (.t 0), none⟩,
    ⟨some 4, .isn false (.t 3), none⟩] [] [0, 4])
  (.cond (.t 4)
  (.seq (.reg false [⟨some 2, .mv (.c (.nil)), none⟩] [] [2])
  .ret)
  .skip))
  (.seq (.reg false [⟨some 5, .bsl 1 0 [.int .i64 0] [], none⟩,
    ⟨some 6, .mv (.t 0), none⟩,
    ⟨some 7, .app 1 8 (.t 5) (.t 6), none⟩,
    ⟨some 2, .mv (.t 7), none⟩] [] [2])
  .ret))), [(2, none)]⟩
theorem slices_Clone_int_ok : okFn Try.prog 64 slices_Clone_int = true := by kernel_rfl
def impl_knowPut : IFn := ⟨25, (.seq (.reg false [⟨some 4, .mv (.c (.nil)), none⟩,
    ⟨some 5, .mv (.c (.bool false)), none⟩] [] [0, 1])
  (.seq (.reg false [⟨some 9, .mv (.t 0), none⟩,
    ⟨some 10, .mv (.t 1), none⟩,
    ⟨some 11, .call 89 [.t 9, .t 10], none⟩,
    ⟨some 8, .mv (.t 11), none⟩,
    ⟨some 12, .ext (.t 8) 0, none⟩,
    ⟨some 13, .ext (.t 8) 1, none⟩,
    ⟨some 6, .mv (.t 12), none⟩,
    ⟨some 7, .mv (.t 13), none⟩] [] [0, 1, 6, 7])
  (.seq (.seq (.reg false [⟨some 14, .mv (.t 7), none⟩] [] [0, 1, 6, 14])
  (.cond (.t 14)
  (.seq (.reg false [⟨some 15, .mv (.t 0), none⟩,
    ⟨some 4, .mv (.t 15), none⟩,
    ⟨some 5, .mv (.c (.bool true)), none⟩] [] [4, 5])
  .ret)
  .skip))
  (.seq (.seq (.reg false [⟨some 16, .mv (.t 0), none⟩,
    ⟨some 17, .len false (.t 16), none⟩,
    ⟨some 18, .bin .geq (.t 17) (.c (.int .i64 200)), none⟩] [] [0, 1, 6, 18])
  (.cond (.t 18)
  (.seq (.reg false [⟨some 19, .mv (.t 0), none⟩,
    ⟨some 4, .mv (.t 19), none⟩,
    ⟨some 5, .mv (.c (.bool false)), none⟩] [] [4, 5])
  .ret)
  .skip))
  (.seq (.reg false [⟨some 20, .mv (.t 0), none⟩,
    ⟨some 21, .mv (.t 6), none⟩,
    ⟨some 22, .mv (.t 1), none⟩,
    ⟨some 23, .bsl 1 1 [.int .i64 0] [(0, 1, .t 22)], none⟩,
    ⟨some 24, .call 90 [.t 20, .t 21, .t 23], none⟩,
    ⟨some 4, .mv (.t 24), none⟩,
    ⟨some 5, .mv (.c (.bool true)), none⟩] [] [4, 5])
  .ret))))), [(4, none), (5, none)]⟩
theorem impl_knowPut_ok : okFn Try.prog 65 impl_knowPut = true := by kernel_rfl
def impl_PoolAdd : IFn := ⟨23, (.seq (.reg false [⟨some 2, .box (.t 0), none⟩,
    ⟨some 3, .box (.t 1), none⟩,
    ⟨some 4, .new [.nil], none⟩,
    ⟨some 5, .mv (.c (.int .i64 0)), none⟩] [] [2, 3, 4])
  (.seq (.seq (.reg false [⟨some 8, .ld (some 1) (.t 2), none⟩,
    ⟨some 9, .call 61 [.t 8], none⟩,
    ⟨some 10, .not (.t 9), none⟩] [] [2, 3, 4, 10])
  (.cond (.t 10)
  (.seq (.reg false [⟨some 11, .build [.nil] [], none⟩,
    ⟨none, .st 1 (.t 4) (.t 11), none⟩,
    ⟨some 5, .mv (.c (.int .i64 (-1))), none⟩] [] [4, 5])
  .ret)
  .skip))
  (.seq (.reg false [⟨some 12, .ld (some 1) (.t 2), none⟩,
    ⟨some 13, .call 91 [.t 12], none⟩,
    ⟨some 6, .new [.nil], none⟩,
    ⟨none, .st 1 (.t 6) (.t 13), none⟩] [] [3, 4, 6])
  (.seq (.reg false [⟨some 14, .fad 0 (.t 3), none⟩,
    ⟨some 15, .ld none (.t 14), none⟩,
    ⟨some 16, .fad 1 (.t 3), none⟩,
    ⟨some 17, .ld none (.t 16), none⟩,
    ⟨some 18, .fad 2 (.t 3), none⟩,
    ⟨some 19, .ld none (.t 18), none⟩,
    ⟨some 20, .call 92 [.t 6, .t 15, .t 17, .t 19], none⟩,
    ⟨some 7, .mv (.t 20), none⟩] [] [4, 6, 7])
  (.seq (.reg false [⟨some 21, .ld (some 1) (.t 6), none⟩,
    ⟨some 22, .mv (.t 7), none⟩,
    ⟨none, .st 1 (.t 4) (.t 21), none⟩,
    ⟨some 5, .mv (.t 22), none⟩] [] [4, 5])
  .ret))))), [(4, some (some 1)), (5, none)]⟩
theorem impl_PoolAdd_ok : okFn Try.prog 66 impl_PoolAdd = true := by kernel_rfl
def spec_PoolAdd : IFn := ⟨21, (.seq (.reg false [⟨some 2, .box (.t 0), none⟩,
    ⟨some 3, .box (.t 1), none⟩,
    ⟨some 4, .new [.nil], none⟩,
    ⟨some 5, .mv (.c (.int .i64 0)), none⟩] [] [2, 3, 4])
  (.seq (.seq (.reg false [⟨some 8, .ld (some 1) (.t 2), none⟩,
    ⟨some 9, .call 55 [.t 8], none⟩,
    ⟨some 10, .not (.t 9), none⟩] [] [2, 3, 4, 10])
  (.cond (.t 10)
  (.seq (.reg false [⟨some 11, .build [.nil] [], none⟩,
    ⟨none, .st 1 (.t 4) (.t 11), none⟩,
    ⟨some 5, .mv (.c (.int .i64 (-1))), none⟩] [] [4, 5])
  .ret)
  .skip))
  (.seq (.reg false [⟨some 13, .ld (some 1) (.t 2), none⟩,
    ⟨some 14, .ld (some 3) (.t 3), none⟩,
    ⟨some 15, .call 93 [.t 13, .t 14], none⟩,
    ⟨some 12, .mv (.t 15), none⟩,
    ⟨some 16, .ext (.t 12) 0, none⟩,
    ⟨some 17, .ext (.t 12) 1, none⟩,
    ⟨some 6, .new [.nil], none⟩,
    ⟨none, .st 1 (.t 6) (.t 16), none⟩,
    ⟨some 7, .mv (.t 17), none⟩] [] [4, 6, 7])
  (.seq (.reg false [⟨some 18, .ld (some 1) (.t 6), none⟩,
    ⟨some 19, .call 94 [.t 18], none⟩,
    ⟨some 20, .mv (.t 7), none⟩,
    ⟨none, .st 1 (.t 4) (.t 19), none⟩,
    ⟨some 5, .mv (.t 20), none⟩] [] [4, 5])
  .ret)))), [(4, some (some 1)), (5, none)]⟩
theorem spec_PoolAdd_ok : okFn Try.prog 67 spec_PoolAdd = true := by kernel_rfl
def spec_l7All : IFn := ⟨29, (.seq (.reg false [⟨some 2, .box (.t 0), none⟩,
    ⟨some 4, .mv (.c (.nil)), none⟩] [] [1, 2])
  (.seq (.reg false [⟨some 7, .bsl 1 0 [.bool false] [], none⟩,
    ⟨some 5, .mv (.t 7), none⟩] [] [1, 2, 5])
  (.seq (.seq (.reg false [⟨some 6, .mv (.c (.int .i64 0)), none⟩] [] [1, 2, 5, 6])
  (.block 0 (.loop (.seq (.seq (.reg false [⟨some 8, .mv (.t 6), none⟩,
    ⟨some 9, .fad 0 (.t 2), none⟩,
    ⟨some 10, .ld none (.t 9), none⟩,
    ⟨some 11, .len false (.t 10), none⟩,
    ⟨some 12, .bin .lss (.t 8) (.t 11), none⟩] [] [1, 2, 5, 6, 12])
  (.cond (.t 12)
  .skip
  (.exit 0)))
  (.seq (.block 1 (.reg false [⟨some 15, .mv (.t 5), none⟩,
    ⟨some 16, .mv (.t 1), none⟩,
    ⟨some 17, .mv (.t 6), none⟩,
    ⟨some 18, .call 95 [.t 16, .t 17], none⟩,
    ⟨some 19, .mv (.t 18), none⟩,
    ⟨some 20, .ld (some 1) (.t 2), some (19, false)⟩,
    ⟨some 21, .mv (.t 5), some (19, false)⟩,
    ⟨some 22, .mv (.t 6), some (19, false)⟩,
    ⟨some 23, .mv (.t 1), some (19, false)⟩,
    ⟨some 24, .call 96 [.t 20, .t 21, .t 22, .t 23], some (19, false)⟩,
    ⟨some 25, .pick (.t 19) (.c (.bool true)) (.t 24), none⟩,
    ⟨some 26, .bsl 1 1 [.bool false] [(0, 1, .t 25)], none⟩,
    ⟨some 27, .app 1 1 (.t 15) (.t 26), none⟩,
    ⟨some 5, .mv (.t 27), none⟩] [] [1, 2, 5, 6]))
  (.reg false [⟨some 13, .mv (.t 6), none⟩,
    ⟨some 14, .bin .add (.t 13) (.c (.int .i64 1)), none⟩,
    ⟨some 6, .mv (.t 14), none⟩] [] [1, 2, 5, 6]))))))
  (.seq (.reg false [⟨some 28, .mv (.t 5), none⟩,
    ⟨some 4, .mv (.t 28), none⟩] [] [4])
  .ret)))), [(4, none)]⟩
theorem spec_l7All_ok : okFn Try.prog 68 spec_l7All = true := by kernel_rfl
def spec_l6Put : IFn := ⟨46, (.seq (.reg false [⟨some 4, .mv (.c (.nil)), none⟩] [] [0, 1])
  (.seq (.reg false [⟨some 8, .bsl 1 0 [.int .i64 0] [], none⟩,
    ⟨some 5, .mv (.t 8), none⟩] [] [0, 1, 5])
  (.seq (.reg false [⟨some 9, .mv (.t 0), none⟩,
    ⟨some 10, .mv (.t 1), none⟩,
    ⟨some 11, .call 95 [.t 9, .t 10], none⟩,
    ⟨some 6, .mv (.t 11), none⟩] [] [0, 1, 5, 6])
  (.seq (.seq (.reg false [⟨some 7, .mv (.c (.int .i64 0)), none⟩] [] [0, 1, 5, 6, 7])
  (.block 0 (.loop (.seq (.seq (.reg false [⟨some 12, .mv (.t 7), none⟩,
    ⟨some 13, .mv (.t 0), none⟩,
    ⟨some 14, .len false (.t 13), none⟩,
    ⟨some 15, .bin .lss (.t 12) (.t 14), none⟩] [] [0, 1, 5, 6, 7, 15])
  (.cond (.t 15)
  .skip
  (.exit 0)))
  (.seq (.block 1 (.seq (.seq (.reg false [⟨some 18, .mv (.t 6), none⟩,
    ⟨some 19, .not (.t 18), none⟩,
    ⟨some 20, .mv (.t 19), none⟩,
    ⟨some 21, .mv (.t 0), some (20, true)⟩,
    ⟨some 22, .mv (.t 7), some (20, true)⟩,
    ⟨some 23, .iad 1 (.t 21) (.t 22), some (20, true)⟩,
    ⟨some 24, .ld none (.t 23), some (20, true)⟩,
    ⟨some 25, .mv (.t 1), some (20, true)⟩,
    ⟨some 26, .bin .gtr (.t 24) (.t 25), some (20, true)⟩,
    ⟨some 27, .pick (.t 20) (.t 26) (.c (.bool false)), none⟩] [] [0, 1, 5, 6, 7, 27])
  (.cond (.t 27)
  (.seq (.reg false [⟨some 28, .mv (.t 5), none⟩,
    ⟨some 29, .mv (.t 1), none⟩,
    ⟨some 30, .bsl 1 1 [.int .i64 0] [(0, 1, .t 29)], none⟩,
    ⟨some 31, .app 1 8 (.t 28) (.t 30), none⟩,
    ⟨some 5, .mv (.t 31), none⟩] [] [0, 1, 5, 7])
  (.reg false [⟨some 6, .mv (.c (.bool true)), none⟩] [] [0, 1, 5, 6, 7]))
  .skip))
  (.reg false [⟨some 32, .mv (.t 5), none⟩,
    ⟨some 33, .mv (.t 0), none⟩,
    ⟨some 34, .mv (.t 7), none⟩,
    ⟨some 35, .iad 1 (.t 33) (.t 34), none⟩,
    ⟨some 36, .ld none (.t 35), none⟩,
    ⟨some 37, .bsl 1 1 [.int .i64 0] [(0, 1, .t 36)], none⟩,
    ⟨some 38, .app 1 8 (.t 32) (.t 37), none⟩,
    ⟨some 5, .mv (.t 38), none⟩] [] [0, 1, 5, 6, 7])))
  (.reg false [⟨some 16, .mv (.t 7), none⟩,
    ⟨some 17, .bin .add (.t 16) (.c (.int .i64 1)), none⟩,
    ⟨some 7, .mv (.t 17), none⟩] [] [0, 1, 5, 6, 7]))))))
  (.seq (.seq (.reg false [⟨some 39, .mv (.t 6), none⟩,
    ⟨some 40, .not (.t 39), none⟩] [] [1, 5, 40])
  (.cond (.t 40)
  (.reg false [⟨some 41, .mv (.t 5), none⟩,
    ⟨some 42, .mv (.t 1), none⟩,
    ⟨some 43, .bsl 1 1 [.int .i64 0] [(0, 1, .t 42)], none⟩,
    ⟨some 44, .app 1 8 (.t 41) (.t 43), none⟩,
    ⟨some 5, .mv (.t 44), none⟩] [] [5])
  .skip))
  (.seq (.reg false [⟨some 45, .mv (.t 5), none⟩,
    ⟨some 4, .mv (.t 45), none⟩] [] [4])
  .ret)))))), [(4, none)]⟩
theorem spec_l6Put_ok : okFn Try.prog 69 spec_l6Put = true := by kernel_rfl
def laws_toNode : IFn := ⟨14, (.seq (.reg false [⟨some 1, .box (.t 0), none⟩,
    ⟨some 2, .new [.int .i64 0, .int .i64 0, .int .i64 0], none⟩] [] [1, 2])
  (.seq (.reg false [⟨some 3, .new [.int .i64 0, .int .i64 0, .int .i64 0], none⟩] [] [1, 2, 3])
  (.seq (.reg false [⟨some 4, .fad 0 (.t 1), none⟩,
    ⟨some 5, .ld none (.t 4), none⟩,
    ⟨some 6, .fad 0 (.t 3), none⟩,
    ⟨none, .st 1 (.t 6) (.t 5), none⟩] [] [1, 2, 3])
  (.seq (.reg false [⟨some 7, .fad 1 (.t 1), none⟩,
    ⟨some 8, .ld none (.t 7), none⟩,
    ⟨some 9, .fad 1 (.t 3), none⟩,
    ⟨none, .st 1 (.t 9) (.t 8), none⟩] [] [1, 2, 3])
  (.seq (.reg false [⟨some 10, .fad 2 (.t 1), none⟩,
    ⟨some 11, .ld none (.t 10), none⟩,
    ⟨some 12, .fad 2 (.t 3), none⟩,
    ⟨none, .st 1 (.t 12) (.t 11), none⟩] [] [2, 3])
  (.seq (.reg false [⟨some 13, .ld (some 3) (.t 3), none⟩,
    ⟨none, .st 3 (.t 2) (.t 13), none⟩] [] [2])
  .ret)))))), [(2, some (some 3))]⟩
theorem laws_toNode_ok : okFn Try.prog 70 laws_toNode = true := by kernel_rfl
def impl_Pool_makes : IFn := ⟨48, (.seq (.reg false [⟨some 4, .mv (.c (.nil)), none⟩] [] [0, 1])
  (.seq (.reg false [⟨some 10, .mv (.t 0), none⟩,
    ⟨some 11, .nck (.t 10), none⟩,
    ⟨some 12, .fad 0 (.t 11), none⟩,
    ⟨some 13, .ld none (.t 12), none⟩,
    ⟨some 14, .len false (.t 13), none⟩,
    ⟨some 15, .mk 1 1 [.bool false] (.t 14) (.t 14), none⟩,
    ⟨some 5, .mv (.t 15), none⟩] [] [0, 1, 5])
  (.seq (.seq (.reg false [⟨some 16, .mv (.t 1), none⟩,
    ⟨some 17, .len false (.t 16), none⟩,
    ⟨some 18, .mv (.c (.int .i64 0)), none⟩] [] [0, 5, 16, 17, 18])
  (.block 0 (.loop (.seq (.reg false [⟨some 19, .bin .lss (.t 18) (.t 17), none⟩] [] [0, 5, 16, 17, 18, 19])
  (.seq (.cond (.t 19)
  .skip
  (.exit 0))
  (.seq (.block 1 (.seq (.reg false [⟨some 20, .iad 1 (.t 16) (.t 18), none⟩,
    ⟨some 21, .ld none (.t 20), none⟩,
    ⟨some 7, .mv (.t 21), none⟩] [] [0, 5, 7, 16, 17, 18])
  (.reg false [⟨some 22, .mv (.t 5), none⟩,
    ⟨some 23, .mv (.t 7), none⟩,
    ⟨some 24, .iad 1 (.t 22) (.t 23), none⟩,
    ⟨none, .st 1 (.t 24) (.c (.bool true)), none⟩] [] [0, 5, 16, 17, 18])))
  (.reg false [⟨some 25, .bin .add (.t 18) (.c (.int .i64 1)), none⟩,
    ⟨some 18, .mv (.t 25), none⟩] [] [0, 5, 16, 17, 18])))))))
  (.seq (.seq (.reg false [⟨some 8, .mv (.c (.bool true)), none⟩] [] [0, 5, 8])
  (.block 2 (.loop (.seq (.seq (.reg false [⟨some 26, .mv (.t 8), none⟩] [] [0, 5, 26])
  (.cond (.t 26)
  .skip
  (.exit 2)))
  (.block 3 (.seq (.reg false [⟨some 8, .mv (.c (.bool false)), none⟩] [] [0, 5, 8])
  (.seq (.reg false [⟨some 27, .mv (.t 5), none⟩,
    ⟨some 28, .len false (.t 27), none⟩,
    ⟨some 29, .mv (.c (.int .i64 0)), none⟩] [] [0, 5, 8, 28, 29])
  (.block 4 (.loop (.seq (.reg false [⟨some 30, .bin .lss (.t 29) (.t 28), none⟩] [] [0, 5, 8, 28, 29, 30])
  (.seq (.cond (.t 30)
  .skip
  (.exit 4))
  (.seq (.block 5 (.seq (.reg false [⟨some 31, .mv (.t 29), none⟩,
    ⟨some 9, .mv (.t 31), none⟩] [] [0, 5, 8, 9, 28, 29])
  (.seq (.reg false [⟨some 32, .mv (.t 5), none⟩,
    ⟨some 33, .mv (.t 9), none⟩,
    ⟨some 34, .iad 1 (.t 32) (.t 33), none⟩,
    ⟨some 35, .ld none (.t 34), none⟩,
    ⟨some 36, .not (.t 35), none⟩,
    ⟨some 37, .mv (.t 36), none⟩,
    ⟨some 38, .mv (.t 0), some (37, true)⟩,
    ⟨some 39, .mv (.t 9), some (37, true)⟩,
    ⟨some 40, .mv (.t 5), some (37, true)⟩,
    ⟨some 41, .call 97 [.t 38, .t 39, .t 40], some (37, true)⟩,
    ⟨some 42, .pick (.t 37) (.t 41) (.c (.bool false)), none⟩] [] [0, 5, 8, 9, 28, 29, 42])
  (.cond (.t 42)
  (.seq (.reg false [⟨some 43, .mv (.t 5), none⟩,
    ⟨some 44, .mv (.t 9), none⟩,
    ⟨some 45, .iad 1 (.t 43) (.t 44), none⟩,
    ⟨none, .st 1 (.t 45) (.c (.bool true)), none⟩] [] [0, 5, 28, 29])
  (.reg false [⟨some 8, .mv (.c (.bool true)), none⟩] [] [0, 5, 8, 28, 29]))
  .skip))))
  (.reg false [⟨some 46, .bin .add (.t 29) (.c (.int .i64 1)), none⟩,
    ⟨some 29, .mv (.t 46), none⟩] [] [0, 5, 8, 28, 29])))))))))))))
  (.seq (.reg false [⟨some 47, .mv (.t 5), none⟩,
    ⟨some 4, .mv (.t 47), none⟩] [] [4])
  .ret))))), [(4, none)]⟩
theorem impl_Pool_makes_ok : okFn Try.prog 71 impl_Pool_makes = true := by kernel_rfl
def slices_Sort_int : IFn := ⟨11, (.seq (.reg false [⟨some 3, .mv (.t 0), none⟩,
    ⟨some 4, .len false (.t 3), none⟩,
    ⟨some 2, .mv (.t 4), none⟩] [] [0, 2])
  (.reg false [⟨some 5, .mv (.t 0), none⟩,
    ⟨some 6, .mv (.t 2), none⟩,
    ⟨some 7, .mv (.t 2), none⟩,
    ⟨some 8, .conv .u64 (.t 7), none⟩,
    ⟨some 9, .call 99 [.t 8], none⟩,
    ⟨some 10, .call 98 [.t 5, .c (.int .i64 0), .t 6, .t 9], none⟩] [] [])), []⟩
theorem slices_Sort_int_ok : okFn Try.prog 72 slices_Sort_int = true := by kernel_rfl
def slices_Clip_int : IFn := ⟨9, (.seq (.reg false [⟨some 2, .mv (.c (.nil)), none⟩] [] [0])
  (.seq (.reg false [⟨some 3, .mv (.t 0), none⟩,
    ⟨some 4, .mv (.t 0), none⟩,
    ⟨some 5, .len false (.t 4), none⟩,
    ⟨some 6, .mv (.t 0), none⟩,
    ⟨some 7, .len false (.t 6), none⟩,
    ⟨some 8, .slc 1 (.t 3) none (some (.t 5)) (some (.t 7)), none⟩,
    ⟨some 2, .mv (.t 8), none⟩] [] [2])
  .ret)), [(2, none)]⟩
theorem slices_Clip_int_ok : okFn Try.prog 73 slices_Clip_int = true := by kernel_rfl
def laws_eqNode : IFn := ⟨20, (.seq (.reg false [⟨some 2, .box (.t 0), none⟩,
    ⟨some 3, .box (.t 1), none⟩,
    ⟨some 4, .mv (.c (.bool false)), none⟩] [] [2, 3])
  (.seq (.seq (.reg false [⟨some 5, .fad 0 (.t 2), none⟩,
    ⟨some 6, .ld none (.t 5), none⟩,
    ⟨some 7, .fad 0 (.t 3), none⟩,
    ⟨some 8, .ld none (.t 7), none⟩,
    ⟨some 9, .bin .neq (.t 6) (.t 8), none⟩] [] [2, 3, 9])
  (.cond (.t 9)
  (.seq (.reg false [⟨some 4, .mv (.c (.bool false)), none⟩] [] [4])
  .ret)
  .skip))
  (.seq (.seq (.reg false [⟨some 10, .fad 1 (.t 2), none⟩,
    ⟨some 11, .ld none (.t 10), none⟩,
    ⟨some 12, .fad 1 (.t 3), none⟩,
    ⟨some 13, .ld none (.t 12), none⟩,
    ⟨some 14, .bin .neq (.t 11) (.t 13), none⟩] [] [2, 3, 14])
  (.cond (.t 14)
  (.seq (.reg false [⟨some 4, .mv (.c (.bool false)), none⟩] [] [4])
  .ret)
  .skip))
  (.seq (.seq (.reg false [⟨some 15, .fad 2 (.t 2), none⟩,
    ⟨some 16, .ld none (.t 15), none⟩,
    ⟨some 17, .fad 2 (.t 3), none⟩,
    ⟨some 18, .ld none (.t 17), none⟩,
    ⟨some 19, .bin .neq (.t 16) (.t 18), none⟩] [] [19])
  (.cond (.t 19)
  (.seq (.reg false [⟨some 4, .mv (.c (.bool false)), none⟩] [] [4])
  .ret)
  .skip))
  (.seq (.reg false [⟨some 4, .mv (.c (.bool true)), none⟩] [] [4])
  .ret))))), [(4, none)]⟩
theorem laws_eqNode_ok : okFn Try.prog 75 laws_eqNode = true := by kernel_rfl
def spec_l1List : IFn := ⟨21, (.seq (.reg false [⟨some 2, .mv (.c (.nil)), none⟩] [] [0])
  (.seq (.reg false [⟨some 5, .bsl 1 0 [.int .i64 0] [], none⟩,
    ⟨some 3, .mv (.t 5), none⟩] [] [0, 3])
  (.seq (.seq (.reg false [⟨some 4, .mv (.c (.int .i64 0)), none⟩] [] [0, 3, 4])
  (.block 0 (.loop (.seq (.seq (.reg false [⟨some 6, .mv (.t 4), none⟩,
    ⟨some 7, .mv (.t 0), none⟩,
    ⟨some 8, .len false (.t 7), none⟩,
    ⟨some 9, .bin .lss (.t 6) (.t 8), none⟩] [] [0, 3, 4, 9])
  (.cond (.t 9)
  .skip
  (.exit 0)))
  (.seq (.block 1 (.seq (.reg false [⟨some 12, .mv (.t 0), none⟩,
    ⟨some 13, .mv (.t 4), none⟩,
    ⟨some 14, .iad 1 (.t 12) (.t 13), none⟩,
    ⟨some 15, .ld none (.t 14), none⟩] [] [0, 3, 4, 15])
  (.cond (.t 15)
  (.reg false [⟨some 16, .mv (.t 3), none⟩,
    ⟨some 17, .mv (.t 4), none⟩,
    ⟨some 18, .bsl 1 1 [.int .i64 0] [(0, 1, .t 17)], none⟩,
    ⟨some 19, .app 1 8 (.t 16) (.t 18), none⟩,
    ⟨some 3, .mv (.t 19), none⟩] [] [0, 3, 4])
  .skip)))
  (.reg false [⟨some 10, .mv (.t 4), none⟩,
    ⟨some 11, .bin .add (.t 10) (.c (.int .i64 1)), none⟩,
    ⟨some 4, .mv (.t 11), none⟩] [] [0, 3, 4]))))))
  (.seq (.reg false [⟨some 20, .mv (.t 3), none⟩,
    ⟨some 2, .mv (.t 20), none⟩] [] [2])
  .ret)))), [(2, none)]⟩
theorem spec_l1List_ok : okFn Try.prog 76 spec_l1List = true := by kernel_rfl
def spec_MakesAll : IFn := ⟨13, (.seq (.reg false [⟨some 2, .box (.t 0), none⟩,
    ⟨some 4, .mv (.c (.nil)), none⟩] [] [1, 2])
  (.seq (.seq (.reg false [⟨some 5, .ld (some 1) (.t 2), none⟩,
    ⟨some 6, .mv (.t 1), none⟩,
    ⟨some 7, .call 29 [.t 5, .t 6], none⟩,
    ⟨some 8, .not (.t 7), none⟩] [] [1, 2, 8])
  (.cond (.t 8)
  (.seq (.reg false [⟨some 9, .bsl 1 0 [.bool false] [], none⟩,
    ⟨some 4, .mv (.t 9), none⟩] [] [4])
  .ret)
  .skip))
  (.seq (.reg false [⟨some 10, .ld (some 1) (.t 2), none⟩,
    ⟨some 11, .mv (.t 1), none⟩,
    ⟨some 12, .call 68 [.t 10, .t 11], none⟩,
    ⟨some 4, .mv (.t 12), none⟩] [] [4])
  .ret))), [(4, none)]⟩
theorem spec_MakesAll_ok : okFn Try.prog 77 spec_MakesAll = true := by kernel_rfl
def spec_l1New : IFn := ⟨32, (.seq (.reg false [⟨some 2, .mv (.c (.nilp)), none⟩] [] [0])
  (.seq (.reg false [⟨some 5, .mv (.t 0), none⟩,
    ⟨some 6, .len false (.t 5), none⟩,
    ⟨some 7, .bin .add (.c (.int .i64 12241)) (.t 6), none⟩,
    ⟨some 3, .mv (.t 7), none⟩] [] [0, 3])
  (.seq (.seq (.reg false [⟨some 4, .mv (.c (.int .i64 0)), none⟩] [] [0, 3, 4])
  (.block 0 (.loop (.seq (.seq (.reg false [⟨some 8, .mv (.t 4), none⟩,
    ⟨some 9, .mv (.t 0), none⟩,
    ⟨some 10, .len false (.t 9), none⟩,
    ⟨some 11, .bin .lss (.t 8) (.t 10), none⟩,
    ⟨some 12, .mv (.t 11), none⟩,
    ⟨some 13, .mv (.t 4), some (12, true)⟩,
    ⟨some 14, .bin .lss (.t 13) (.c (.int .i64 4000)), some (12, true)⟩,
    ⟨some 15, .pick (.t 12) (.t 14) (.c (.bool false)), none⟩] [] [0, 3, 4, 15])
  (.cond (.t 15)
  .skip
  (.exit 0)))
  (.seq (.block 1 (.reg false [⟨some 18, .mv (.t 3), none⟩,
    ⟨some 19, .bin .mul (.t 18) (.c (.int .i64 131)), none⟩,
    ⟨some 20, .mv (.t 0), none⟩,
    ⟨some 21, .mv (.t 4), none⟩,
    ⟨some 22, .iad 1 (.t 20) (.t 21), none⟩,
    ⟨some 23, .ld none (.t 22), none⟩,
    ⟨some 24, .conv .i64 (.t 23), none⟩,
    ⟨some 25, .bin .add (.t 19) (.t 24), none⟩,
    ⟨some 26, .bin .add (.t 25) (.c (.int .i64 7)), none⟩,
    ⟨some 27, .bin .and (.t 26) (.c (.int .i64 1073741823)), none⟩,
    ⟨some 3, .mv (.t 27), none⟩] [] [0, 3, 4]))
  (.reg false [⟨some 16, .mv (.t 4), none⟩,
    ⟨some 17, .bin .add (.t 16) (.c (.int .i64 1)), none⟩,
    ⟨some 4, .mv (.t 17), none⟩] [] [0, 3, 4]))))))
  (.seq (.reg false [⟨some 28, .mv (.t 0), none⟩,
    ⟨some 29, .mv (.t 3), none⟩,
    ⟨some 30, .build [.nil, .int .i64 0, .int .i64 0] [(0, 1, .t 28), (2, 1, .t 29)], none⟩,
    ⟨some 31, .box (.t 30), none⟩,
    ⟨some 2, .mv (.t 31), none⟩] [] [2])
  .ret)))), [(2, none)]⟩
theorem spec_l1New_ok : okFn Try.prog 78 spec_l1New = true := by kernel_rfl
def spec_l1DrawAny : IFn := ⟨63, (.seq (.reg false [⟨some 2, .new [.nil], none⟩] [] [0, 2])
  (.seq (.reg false [⟨some 4, .mv (.t 0), none⟩,
    ⟨some 5, .call 100 [.t 4, .c (.int .i64 24)], none⟩,
    ⟨some 3, .new [.nil], none⟩,
    ⟨none, .st 1 (.t 3) (.t 5), none⟩] [] [0, 2, 3])
  (.seq (.seq (.reg false [⟨some 6, .mv (.t 0), none⟩,
    ⟨some 7, .call 101 [.t 6, .c (.int .i64 25)], none⟩] [] [0, 2, 3, 7])
  (.block 0 (.seq (.reg false [⟨some 9, .bin .eql (.t 7) (.c (.int .i64 0)), none⟩,
    ⟨some 8, .mv (.t 9), none⟩] [] [0, 2, 3, 7, 8])
  (.cond (.t 8)
  (.reg false [⟨some 10, .ld (some 1) (.t 3), none⟩,
    ⟨some 11, .call 94 [.t 10], none⟩,
    ⟨some 12, .fld 0 none (.t 11), none⟩,
    ⟨some 13, .mv (.t 0), none⟩,
    ⟨some 14, .call 102 [.t 13, .c (.int .i64 3)], none⟩,
    ⟨some 15, .bsl 3 1 [.int .i64 0, .int .i64 0, .int .i64 0] [(0, 3, .t 14)], none⟩,
    ⟨some 16, .app 3 24 (.t 12) (.t 15), none⟩,
    ⟨some 17, .fad 0 (.t 3), none⟩,
    ⟨none, .st 1 (.t 17) (.t 16), none⟩] [] [0, 2, 3])
  (.seq (.reg false [⟨some 19, .bin .eql (.t 7) (.c (.int .i64 1)), none⟩,
    ⟨some 18, .mv (.t 19), none⟩] [] [0, 2, 3, 18])
  (.cond (.t 18)
  (.reg false [⟨some 20, .ld (some 1) (.t 3), none⟩,
    ⟨some 21, .call 94 [.t 20], none⟩,
    ⟨some 22, .fld 0 none (.t 21), none⟩,
    ⟨some 23, .mv (.t 0), none⟩,
    ⟨some 24, .call 101 [.t 23, .c (.int .i64 10)], none⟩,
    ⟨some 25, .mv (.t 0), none⟩,
    ⟨some 26, .call 101 [.t 25, .c (.int .i64 30)], none⟩,
    ⟨some 27, .bin .sub (.t 26) (.c (.int .i64 1)), none⟩,
    ⟨some 28, .mv (.t 0), none⟩,
    ⟨some 29, .call 101 [.t 28, .c (.int .i64 30)], none⟩,
    ⟨some 30, .bin .sub (.t 29) (.c (.int .i64 1)), none⟩,
    ⟨some 31, .build [.int .i64 0, .int .i64 0, .int .i64 0] [(0, 1, .t 24), (1, 1, .t 27), (2, 1, .t 30)], none⟩,
    ⟨some 32, .bsl 3 1 [.int .i64 0, .int .i64 0, .int .i64 0] [(0, 3, .t 31)], none⟩,
    ⟨some 33, .app 3 24 (.t 22) (.t 32), none⟩,
    ⟨some 34, .fad 0 (.t 3), none⟩,
    ⟨none, .st 1 (.t 34) (.t 33), none⟩] [] [0, 2, 3])
  .skip))))))
  (.seq (.seq (.reg false [⟨some 35, .mv (.t 0), none⟩,
    ⟨some 36, .call 103 [.t 35, .c (.int .i64 80)], none⟩] [] [2, 3, 36])
  (.cond (.t 36)
  (.seq (.reg false [⟨some 37, .build [.nil] [], none⟩,
    ⟨none, .st 1 (.t 3) (.t 37), none⟩] [] [2, 3])
  (.block 1 (.loop (.seq (.seq (.reg false [⟨some 38, .fad 0 (.t 3), none⟩,
    ⟨some 39, .ld none (.t 38), none⟩,
    ⟨some 40, .len false (.t 39), none⟩,
    ⟨some 41, .bin .lss (.t 40) (.c (.int .i64 500)), none⟩] [] [2, 3, 41])
  (.cond (.t 41)
  .skip
  (.exit 1)))
  (.block 2 (.seq (.reg false [⟨some 43, .ld (some 1) (.t 3), none⟩,
    ⟨some 44, .fad 0 (.t 3), none⟩,
    ⟨some 45, .ld none (.t 44), none⟩,
    ⟨some 46, .len false (.t 45), none⟩,
    ⟨some 47, .bin .rem (.t 46) (.c (.int .i64 200)), none⟩,
    ⟨some 48, .build [.int .i64 0, .int .i64 0, .int .i64 0] [(0, 1, .c (.int .i64 1)), (1, 1, .t 47)], none⟩,
    ⟨some 49, .call 93 [.t 43, .t 48], none⟩,
    ⟨some 42, .mv (.t 49), none⟩,
    ⟨some 50, .ext (.t 42) 0, none⟩,
    ⟨some 51, .ext (.t 42) 1, none⟩,
    ⟨none, .st 1 (.t 3) (.t 50), none⟩] [] [2, 3])
  (.reg false [⟨some 53, .ld (some 1) (.t 3), none⟩,
    ⟨some 54, .fad 0 (.t 3), none⟩,
    ⟨some 55, .ld none (.t 54), none⟩,
    ⟨some 56, .len false (.t 55), none⟩,
    ⟨some 57, .bin .sub (.t 56) (.c (.int .i64 1)), none⟩,
    ⟨some 58, .build [.int .i64 0, .int .i64 0, .int .i64 0] [(0, 1, .c (.int .i64 5)), (1, 1, .t 57)], none⟩,
    ⟨some 59, .call 93 [.t 53, .t 58], none⟩,
    ⟨some 52, .mv (.t 59), none⟩,
    ⟨some 60, .ext (.t 52) 0, none⟩,
    ⟨some 61, .ext (.t 52) 1, none⟩,
    ⟨none, .st 1 (.t 3) (.t 60), none⟩] [] [2, 3])))))))
  .skip))
  (.seq (.reg false [⟨some 62, .ld (some 1) (.t 3), none⟩,
    ⟨none, .st 1 (.t 2) (.t 62), none⟩] [] [2])
  .ret))))), [(2, some (some 1))]⟩
theorem spec_l1DrawAny_ok : okFn Try.prog 79 spec_l1DrawAny = true := by kernel_rfl
def spec_l6DrawAny : IFn := ⟨38, (.seq (.reg false [⟨some 3, .box (.t 1), none⟩,
    ⟨some 4, .mv (.c (.nil)), none⟩] [] [0, 3])
  (.seq (.reg false [⟨some 7, .mv (.t 0), none⟩,
    ⟨some 8, .ld (some 1) (.t 3), none⟩,
    ⟨some 9, .call 104 [.t 7, .t 8], none⟩,
    ⟨some 5, .mv (.t 9), none⟩] [] [0, 3, 5])
  (.seq (.seq (.reg false [⟨some 10, .mv (.t 0), none⟩,
    ⟨some 11, .call 101 [.t 10, .c (.int .i64 30)], none⟩] [] [0, 3, 5, 11])
  (.block 0 (.seq (.reg false [⟨some 13, .bin .eql (.t 11) (.c (.int .i64 0)), none⟩,
    ⟨some 12, .mv (.t 13), none⟩] [] [0, 3, 5, 11, 12])
  (.cond (.t 12)
  (.reg false [⟨some 14, .mv (.t 5), none⟩,
    ⟨some 15, .fad 0 (.t 3), none⟩,
    ⟨some 16, .ld none (.t 15), none⟩,
    ⟨some 17, .len false (.t 16), none⟩,
    ⟨some 18, .bsl 1 1 [.int .i64 0] [(0, 1, .t 17)], none⟩,
    ⟨some 19, .app 1 8 (.t 14) (.t 18), none⟩,
    ⟨some 5, .mv (.t 19), none⟩] [] [5])
  (.seq (.reg false [⟨some 21, .bin .eql (.t 11) (.c (.int .i64 1)), none⟩,
    ⟨some 20, .mv (.t 21), none⟩] [] [0, 5, 11, 20])
  (.cond (.t 20)
  (.reg false [⟨some 22, .mv (.t 5), none⟩,
    ⟨some 23, .mv (.t 5), none⟩,
    ⟨some 24, .app 1 8 (.t 22) (.t 23), none⟩,
    ⟨some 5, .mv (.t 24), none⟩] [] [5])
  (.seq (.reg false [⟨some 26, .bin .eql (.t 11) (.c (.int .i64 2)), none⟩,
    ⟨some 25, .mv (.t 26), none⟩] [] [0, 5, 25])
  (.cond (.t 25)
  (.seq (.reg false [⟨some 6, .mv (.c (.int .i64 0)), none⟩] [] [0, 5, 6])
  (.block 1 (.loop (.seq (.seq (.reg false [⟨some 27, .mv (.t 6), none⟩,
    ⟨some 28, .mv (.t 0), none⟩,
    ⟨some 29, .call 101 [.t 28, .c (.int .i64 2)], none⟩,
    ⟨some 30, .bin .add (.c (.int .i64 200)) (.t 29), none⟩,
    ⟨some 31, .bin .lss (.t 27) (.t 30), none⟩] [] [0, 5, 6, 31])
  (.cond (.t 31)
  .skip
  (.exit 1)))
  (.seq (.block 2 (.reg false [⟨some 34, .mv (.t 5), none⟩,
    ⟨some 35, .mv (.t 6), none⟩,
    ⟨some 36, .call 69 [.t 34, .t 35], none⟩,
    ⟨some 5, .mv (.t 36), none⟩] [] [0, 5, 6]))
  (.reg false [⟨some 32, .mv (.t 6), none⟩,
    ⟨some 33, .bin .add (.t 32) (.c (.int .i64 1)), none⟩,
    ⟨some 6, .mv (.t 33), none⟩] [] [0, 5, 6]))))))
  .skip))))))))
  (.seq (.reg false [⟨some 37, .mv (.t 5), none⟩,
    ⟨some 4, .mv (.t 37), none⟩] [] [4])
  .ret)))), [(4, none)]⟩
theorem spec_l6DrawAny_ok : okFn Try.prog 80 spec_l6DrawAny = true := by kernel_rfl
def spec_l1DrawTerm : IFn := ⟨19, (.seq (.reg false [⟨some 3, .box (.t 1), none⟩,
    ⟨some 4, .mv (.c (.int .i64 0)), none⟩] [] [0, 3])
  (.seq (.seq (.reg false [⟨some 5, .mv (.t 0), none⟩,
    ⟨some 6, .call 103 [.t 5, .c (.int .i64 25)], none⟩] [] [0, 3, 6])
  (.cond (.t 6)
  (.seq (.reg false [⟨some 7, .mv (.t 0), none⟩,
    ⟨some 8, .fad 0 (.t 3), none⟩,
    ⟨some 9, .ld none (.t 8), none⟩,
    ⟨some 10, .len false (.t 9), none⟩,
    ⟨some 11, .bsl 1 2 [.int .i64 0] [(0, 1, .c (.int .i64 (-1))), (1, 1, .t 10)], none⟩,
    ⟨some 12, .call 105 [.t 7, .t 11], none⟩,
    ⟨some 4, .mv (.t 12), none⟩] [] [4])
  .ret)
  .skip))
  (.seq (.reg false [⟨some 13, .mv (.t 0), none⟩,
    ⟨some 14, .fad 0 (.t 3), none⟩,
    ⟨some 15, .ld none (.t 14), none⟩,
    ⟨some 16, .len false (.t 15), none⟩,
    ⟨some 17, .call 107 [.t 16, .c (.int .i64 1)], none⟩,
    ⟨some 18, .call 106 [.t 13, .t 17], none⟩,
    ⟨some 4, .mv (.t 18), none⟩] [] [4])
  .ret))), [(4, none)]⟩
theorem spec_l1DrawTerm_ok : okFn Try.prog 81 spec_l1DrawTerm = true := by kernel_rfl
def spec_l1Right : IFn := ⟨56, (.seq (.reg false [⟨some 2, .box (.t 0), none⟩,
    ⟨some 4, .mv (.c (.bool false)), none⟩] [] [1, 2])
  (.seq (.seq (.reg false [⟨some 5, .fad 0 (.t 2), none⟩,
    ⟨some 6, .ld none (.t 5), none⟩,
    ⟨some 7, .call 108 [.t 6], none⟩] [] [1, 2, 7])
  (.block 0 (.seq (.reg false [⟨some 9, .bin .eql (.t 7) (.c (.int .i64 0)), none⟩,
    ⟨some 8, .mv (.t 9), none⟩] [] [1, 2, 7, 8])
  (.cond (.t 8)
  (.seq (.reg false [⟨some 10, .fad 1 (.t 2), none⟩,
    ⟨some 11, .ld none (.t 10), none⟩,
    ⟨some 12, .call 109 [.t 11, .c (.int .i64 0), .c (.int .i64 199)], none⟩,
    ⟨some 13, .mv (.t 12), none⟩,
    ⟨some 14, .fad 2 (.t 2), some (13, true)⟩,
    ⟨some 15, .ld none (.t 14), some (13, true)⟩,
    ⟨some 16, .bin .eql (.t 15) (.c (.int .i64 0)), some (13, true)⟩,
    ⟨some 17, .pick (.t 13) (.t 16) (.c (.bool false)), none⟩,
    ⟨some 4, .mv (.t 17), none⟩] [] [4])
  .ret)
  (.seq (.reg false [⟨some 19, .bin .eql (.t 7) (.c (.int .i64 1)), none⟩,
    ⟨some 18, .mv (.t 19), none⟩] [] [1, 2, 7, 18])
  (.cond (.t 18)
  (.seq (.reg false [⟨some 20, .fad 1 (.t 2), none⟩,
    ⟨some 21, .ld none (.t 20), none⟩,
    ⟨some 22, .mv (.t 1), none⟩,
    ⟨some 23, .bin .sub (.t 22) (.c (.int .i64 1)), none⟩,
    ⟨some 24, .call 109 [.t 21, .c (.int .i64 0), .t 23], none⟩,
    ⟨some 25, .mv (.t 24), none⟩,
    ⟨some 26, .fad 2 (.t 2), some (25, true)⟩,
    ⟨some 27, .ld none (.t 26), some (25, true)⟩,
    ⟨some 28, .bin .eql (.t 27) (.c (.int .i64 0)), some (25, true)⟩,
    ⟨some 29, .pick (.t 25) (.t 28) (.c (.bool false)), none⟩,
    ⟨some 4, .mv (.t 29), none⟩] [] [4])
  .ret)
  (.seq (.reg false [⟨some 31, .bin .eql (.t 7) (.c (.int .i64 2)), none⟩,
    ⟨some 30, .mv (.t 31), none⟩] [] [1, 2, 30])
  (.cond (.t 30)
  (.seq (.reg false [⟨some 32, .fad 1 (.t 2), none⟩,
    ⟨some 33, .ld none (.t 32), none⟩,
    ⟨some 34, .mv (.t 1), none⟩,
    ⟨some 35, .bin .sub (.t 34) (.c (.int .i64 1)), none⟩,
    ⟨some 36, .call 109 [.t 33, .c (.int .i64 0), .t 35], none⟩,
    ⟨some 37, .mv (.t 36), none⟩,
    ⟨some 38, .fad 2 (.t 2), some (37, true)⟩,
    ⟨some 39, .ld none (.t 38), some (37, true)⟩,
    ⟨some 40, .mv (.t 1), some (37, true)⟩,
    ⟨some 41, .bin .sub (.t 40) (.c (.int .i64 1)), some (37, true)⟩,
    ⟨some 42, .call 109 [.t 39, .c (.int .i64 0), .t 41], some (37, true)⟩,
    ⟨some 43, .pick (.t 37) (.t 42) (.c (.bool false)), none⟩,
    ⟨some 44, .mv (.t 43), none⟩,
    ⟨some 45, .fad 0 (.t 2), some (44, true)⟩,
    ⟨some 46, .ld none (.t 45), some (44, true)⟩,
    ⟨some 47, .bin .neq (.t 46) (.c (.int .i64 8)), some (44, true)⟩,
    ⟨some 48, .mv (.t 47), some (44, true)⟩,
    ⟨some 49, .fad 1 (.t 2), some (48, false)⟩,
    ⟨some 50, .ld none (.t 49), some (48, false)⟩,
    ⟨some 51, .fad 2 (.t 2), some (48, false)⟩,
    ⟨some 52, .ld none (.t 51), some (48, false)⟩,
    ⟨some 53, .bin .leq (.t 50) (.t 52), some (48, false)⟩,
    ⟨some 54, .pick (.t 48) (.c (.bool true)) (.t 53), some (44, true)⟩,
    ⟨some 55, .pick (.t 44) (.t 54) (.c (.bool false)), none⟩,
    ⟨some 4, .mv (.t 55), none⟩] [] [4])
  .ret)
  .skip))))))))
  (.seq (.reg false [⟨some 4, .mv (.c (.bool false)), none⟩] [] [4])
  .ret))), [(4, none)]⟩
theorem spec_l1Right_ok : okFn Try.prog 82 spec_l1Right = true := by kernel_rfl
def spec_l1Find : IFn := ⟨21, (.seq (.reg false [⟨some 2, .box (.t 0), none⟩,
    ⟨some 3, .box (.t 1), none⟩,
    ⟨some 4, .mv (.c (.int .i64 0)), none⟩] [] [2, 3])
  (.seq (.seq (.reg false [⟨some 5, .mv (.c (.int .i64 0)), none⟩] [] [2, 3, 5])
  (.block 0 (.loop (.seq (.seq (.reg false [⟨some 6, .mv (.t 5), none⟩,
    ⟨some 7, .fad 0 (.t 2), none⟩,
    ⟨some 8, .ld none (.t 7), none⟩,
    ⟨some 9, .len false (.t 8), none⟩,
    ⟨some 10, .bin .lss (.t 6) (.t 9), none⟩] [] [2, 3, 5, 10])
  (.cond (.t 10)
  .skip
  (.exit 0)))
  (.seq (.block 1 (.seq (.reg true [⟨some 13, .fad 0 (.t 2), none⟩,
    ⟨some 14, .ld none (.t 13), none⟩,
    ⟨some 15, .mv (.t 5), none⟩,
    ⟨some 16, .iad 3 (.t 14) (.t 15), none⟩,
    ⟨some 17, .ld (some 3) (.t 16), none⟩,
    ⟨some 18, .ld (some 3) (.t 3), none⟩,
    ⟨some 19, .eqs false [1, 1, 1] (.t 17) (.t 18), none⟩] [0, 1, 0, 7, 15, 0, 63] [2, 3, 5, 19])
  (.cond (.t 19)
  (.seq (.reg false [⟨some 20, .mv (.t 5), none⟩,
    ⟨some 4, .mv (.t 20), none⟩] [] [4])
  .ret)
  .skip)))
  (.reg false [⟨some 11, .mv (.t 5), none⟩,
    ⟨some 12, .bin .add (.t 11) (.c (.int .i64 1)), none⟩,
    ⟨some 5, .mv (.t 12), none⟩] [] [2, 3, 5]))))))
  (.seq (.reg false [⟨some 4, .mv (.c (.int .i64 (-1))), none⟩] [] [4])
  .ret))), [(4, none)]⟩
theorem spec_l1Find_ok : okFn Try.prog 83 spec_l1Find = true := by kernel_rfl
def spec_l1Has : IFn := ⟨11, (.seq (.reg false [⟨some 2, .box (.t 0), none⟩,
    ⟨some 4, .mv (.c (.bool false)), none⟩] [] [1, 2])
  (.seq (.reg false [⟨some 5, .mv (.t 1), none⟩,
    ⟨some 6, .fad 0 (.t 2), none⟩,
    ⟨some 7, .ld none (.t 6), none⟩,
    ⟨some 8, .len false (.t 7), none⟩,
    ⟨some 9, .bin .sub (.t 8) (.c (.int .i64 1)), none⟩,
    ⟨some 10, .call 109 [.t 5, .c (.int .i64 0), .t 9], none⟩,
    ⟨some 4, .mv (.t 10), none⟩] [] [4])
  .ret)), [(4, none)]⟩
theorem spec_l1Has_ok : okFn Try.prog 84 spec_l1Has = true := by kernel_rfl
def slices_Index_int : IFn := ⟨19, (.seq (.reg false [⟨some 4, .mv (.c (.int .i64 0)), none⟩] [] [0, 1])
  (.seq (.seq (.reg false [⟨some 6, .mv (.t 0), none⟩,
    ⟨some 7, .len false (.t 6), none⟩,
    ⟨some 8, .mv (.c (.int .i64 0)), none⟩] [] [0, 1, 7, 8])
  (.block 0 (.loop (.seq (.reg false [⟨some 9, .bin .lss (.t 8) (.t 7), none⟩] [] [0, 1, 7, 8, 9])
  (.seq (.cond (.t 9)
  .skip
  (.exit 0))
  (.seq (.block 1 (.seq (.reg false [⟨some 10, .mv (.t 8), none⟩,
    ⟨some 5, .mv (.t 10), none⟩] [] [0, 1, 5, 7, 8])
  (.seq (.reg false [⟨some 11, .mv (.t 1), none⟩,
    ⟨some 12, .mv (.t 0), none⟩,
    ⟨some 13, .mv (.t 5), none⟩,
    ⟨some 14, .iad 1 (.t 12) (.t 13), none⟩,
    ⟨some 15, .ld none (.t 14), none⟩,
    ⟨some 16, .bin .eql (.t 11) (.t 15), none⟩] [] [0, 1, 5, 7, 8, 16])
  (.cond (.t 16)
  (.seq (.reg false [⟨some 17, .mv (.t 5), none⟩,
    ⟨some 4, .mv (.t 17), none⟩] [] [4])
  .ret)
  .skip))))
  (.reg false [⟨some 18, .bin .add (.t 8) (.c (.int .i64 1)), none⟩,
    ⟨some 8, .mv (.t 18), none⟩] [] [0, 1, 7, 8])))))))
  (.seq (.reg false [⟨some 4, .mv (.c (.int .i64 (-1))), none⟩] [] [4])
  .ret))), [(4, none)]⟩
theorem slices_Index_int_ok : okFn Try.prog 85 slices_Index_int = true := by kernel_rfl
def impl_inRange : IFn := ⟨15, (.seq (.reg false [⟨some 6, .mv (.c (.bool false)), none⟩] [] [0, 1, 2])
  (.seq (.reg false [⟨some 7, .mv (.t 0), none⟩,
    ⟨some 8, .mv (.t 1), none⟩,
    ⟨some 9, .bin .geq (.t 7) (.t 8), none⟩,
    ⟨some 10, .mv (.t 9), none⟩,
    ⟨some 11, .mv (.t 0), some (10, true)⟩,
    ⟨some 12, .mv (.t 2), some (10, true)⟩,
    ⟨some 13, .bin .leq (.t 11) (.t 12), some (10, true)⟩,
    ⟨some 14, .pick (.t 10) (.t 13) (.c (.bool false)), none⟩,
    ⟨some 6, .mv (.t 14), none⟩] [] [6])
  .ret)), [(6, none)]⟩
theorem impl_inRange_ok : okFn Try.prog 87 impl_inRange = true := by kernel_rfl
def impl_nodeOk : IFn := ⟨56, (.seq (.reg false [⟨some 2, .box (.t 0), none⟩,
    ⟨some 4, .mv (.c (.bool false)), none⟩] [] [1, 2])
  (.seq (.seq (.reg false [⟨some 5, .fad 0 (.t 2), none⟩,
    ⟨some 6, .ld none (.t 5), none⟩,
    ⟨some 7, .call 112 [.t 6], none⟩] [] [1, 2, 7])
  (.block 0 (.seq (.reg false [⟨some 9, .bin .eql (.t 7) (.c (.int .i64 0)), none⟩,
    ⟨some 8, .mv (.t 9), none⟩] [] [1, 2, 7, 8])
  (.cond (.t 8)
  (.seq (.reg false [⟨some 10, .fad 1 (.t 2), none⟩,
    ⟨some 11, .ld none (.t 10), none⟩,
    ⟨some 12, .call 87 [.t 11, .c (.int .i64 0), .c (.int .i64 199)], none⟩,
    ⟨some 13, .mv (.t 12), none⟩,
    ⟨some 14, .fad 2 (.t 2), some (13, true)⟩,
    ⟨some 15, .ld none (.t 14), some (13, true)⟩,
    ⟨some 16, .bin .eql (.t 15) (.c (.int .i64 0)), some (13, true)⟩,
    ⟨some 17, .pick (.t 13) (.t 16) (.c (.bool false)), none⟩,
    ⟨some 4, .mv (.t 17), none⟩] [] [4])
  .ret)
  (.seq (.reg false [⟨some 19, .bin .eql (.t 7) (.c (.int .i64 1)), none⟩,
    ⟨some 18, .mv (.t 19), none⟩] [] [1, 2, 7, 18])
  (.cond (.t 18)
  (.seq (.reg false [⟨some 20, .fad 1 (.t 2), none⟩,
    ⟨some 21, .ld none (.t 20), none⟩,
    ⟨some 22, .mv (.t 1), none⟩,
    ⟨some 23, .bin .sub (.t 22) (.c (.int .i64 1)), none⟩,
    ⟨some 24, .call 87 [.t 21, .c (.int .i64 0), .t 23], none⟩,
    ⟨some 25, .mv (.t 24), none⟩,
    ⟨some 26, .fad 2 (.t 2), some (25, true)⟩,
    ⟨some 27, .ld none (.t 26), some (25, true)⟩,
    ⟨some 28, .bin .eql (.t 27) (.c (.int .i64 0)), some (25, true)⟩,
    ⟨some 29, .pick (.t 25) (.t 28) (.c (.bool false)), none⟩,
    ⟨some 4, .mv (.t 29), none⟩] [] [4])
  .ret)
  (.seq (.reg false [⟨some 31, .bin .eql (.t 7) (.c (.int .i64 2)), none⟩,
    ⟨some 30, .mv (.t 31), none⟩] [] [1, 2, 30])
  (.cond (.t 30)
  (.seq (.reg false [⟨some 32, .fad 1 (.t 2), none⟩,
    ⟨some 33, .ld none (.t 32), none⟩,
    ⟨some 34, .mv (.t 1), none⟩,
    ⟨some 35, .bin .sub (.t 34) (.c (.int .i64 1)), none⟩,
    ⟨some 36, .call 87 [.t 33, .c (.int .i64 0), .t 35], none⟩,
    ⟨some 37, .mv (.t 36), none⟩,
    ⟨some 38, .fad 2 (.t 2), some (37, true)⟩,
    ⟨some 39, .ld none (.t 38), some (37, true)⟩,
    ⟨some 40, .mv (.t 1), some (37, true)⟩,
    ⟨some 41, .bin .sub (.t 40) (.c (.int .i64 1)), some (37, true)⟩,
    ⟨some 42, .call 87 [.t 39, .c (.int .i64 0), .t 41], some (37, true)⟩,
    ⟨some 43, .pick (.t 37) (.t 42) (.c (.bool false)), none⟩,
    ⟨some 44, .mv (.t 43), none⟩,
    ⟨some 45, .fad 0 (.t 2), some (44, true)⟩,
    ⟨some 46, .ld none (.t 45), some (44, true)⟩,
    ⟨some 47, .bin .neq (.t 46) (.c (.int .i64 8)), some (44, true)⟩,
    ⟨some 48, .mv (.t 47), some (44, true)⟩,
    ⟨some 49, .fad 1 (.t 2), some (48, false)⟩,
    ⟨some 50, .ld none (.t 49), some (48, false)⟩,
    ⟨some 51, .fad 2 (.t 2), some (48, false)⟩,
    ⟨some 52, .ld none (.t 51), some (48, false)⟩,
    ⟨some 53, .bin .leq (.t 50) (.t 52), some (48, false)⟩,
    ⟨some 54, .pick (.t 48) (.c (.bool true)) (.t 53), some (44, true)⟩,
    ⟨some 55, .pick (.t 44) (.t 54) (.c (.bool false)), none⟩,
    ⟨some 4, .mv (.t 55), none⟩] [] [4])
  .ret)
  .skip))))))))
  (.seq (.reg false [⟨some 4, .mv (.c (.bool false)), none⟩] [] [4])
  .ret))), [(4, none)]⟩
theorem impl_nodeOk_ok : okFn Try.prog 88 impl_nodeOk = true := by kernel_rfl
def slices_BinarySearch_int : IFn := ⟨54, (.seq (.reg false [⟨some 4, .mv (.c (.int .i64 0)), none⟩,
    ⟨some 5, .mv (.c (.bool false)), none⟩] [] [0, 1])
  (.seq (.reg false [⟨some 10, .mv (.t 0), none⟩,
    ⟨some 11, .len false (.t 10), none⟩,
    ⟨some 6, .mv (.t 11), none⟩] [] [0, 1, 6])
  (.seq (.reg false [⟨some 12, .mv (.t 6), none⟩,
    ⟨some 7, .mv (.c (.int .i64 0)), none⟩,
    ⟨some 8, .mv (.t 12), none⟩] [] [0, 1, 6, 7, 8])
  (.seq (.block 0 (.loop (.seq (.seq (.reg false [⟨some 13, .mv (.t 7), none⟩,
    ⟨some 14, .mv (.t 8), none⟩,
    ⟨some 15, .bin .lss (.t 13) (.t 14), none⟩] [] [0, 1, 6, 7, 8, 15])
  (.cond (.t 15)
  .skip
  (.exit 0)))
  (.block 1 (.seq (.reg false [⟨some 16, .mv (.t 7), none⟩,
    ⟨some 17, .mv (.t 8), none⟩,
    ⟨some 18, .bin .add (.t 16) (.t 17), none⟩,
    ⟨some 19, .conv .u64 (.t 18), none⟩,
    ⟨some 20, .bin .shr (.t 19) (.c (.int .u64 1)), none⟩,
    ⟨some 21, .conv .i64 (.t 20), none⟩,
    ⟨some 9, .mv (.t 21), none⟩] [] [0, 1, 6, 7, 8, 9])
  (.seq (.reg false [⟨some 22, .mv (.t 0), none⟩,
    ⟨some 23, .mv (.t 9), none⟩,
    ⟨some 24, .iad 1 (.t 22) (.t 23), none⟩,
    ⟨some 25, .ld none (.t 24), none⟩,
    ⟨some 26, .mv (.t 1), none⟩,
    ⟨some 27, .call 113 [.t 25, .t 26], none⟩] [] [0, 1, 6, 7, 8, 9, 27])
  (.cond (.t 27)
  (.reg false [⟨some 28, .mv (.t 9), none⟩,
    ⟨some 29, .bin .add (.t 28) (.c (.int .i64 1)), none⟩,
    ⟨some 7, .mv (.t 29), none⟩] [] [0, 1, 6, 7, 8])
  (.reg false [⟨some 30, .mv (.t 9), none⟩,
    ⟨some 8, .mv (.t 30), none⟩] [] [0, 1, 6, 7, 8]))))))))
  (.seq (.reg false [⟨some 31, .mv (.t 7), none⟩,
    ⟨some 32, .mv (.t 7), none⟩,
    ⟨some 33, .mv (.t 6), none⟩,
    ⟨some 34, .bin .lss (.t 32) (.t 33), none⟩,
    ⟨some 35, .mv (.t 34), none⟩,
    ⟨some 36, .mv (.t 0), some (35, true)⟩,
    ⟨some 37, .mv (.t 7), some (35, true)⟩,
    ⟨some 38, .iad 1 (.t 36) (.t 37), some (35, true)⟩,
    ⟨some 39, .ld none (.t 38), some (35, true)⟩,
    ⟨some 40, .mv (.t 1), some (35, true)⟩,
    ⟨some 41, .bin .eql (.t 39) (.t 40), some (35, true)⟩,
    ⟨some 42, .mv (.t 41), some (35, true)⟩,
    ⟨some 43, .mv (.t 0), some (42, false)⟩,
    ⟨some 44, .mv (.t 7), some (42, false)⟩,
    ⟨some 45, .iad 1 (.t 43) (.t 44), some (42, false)⟩,
    ⟨some 46, .ld none (.t 45), some (42, false)⟩,
    ⟨some 47, .call 114 [.t 46], some (42, false)⟩,
    ⟨some 48, .mv (.t 47), some (42, false)⟩,
    ⟨some 49, .mv (.t 1), some (48, true)⟩,
    ⟨some 50, .call 114 [.t 49], some (48, true)⟩,
    ⟨some 51, .pick (.t 48) (.t 50) (.c (.bool false)), some (42, false)⟩,
    ⟨some 52, .pick (.t 42) (.c (.bool true)) (.t 51), some (35, true)⟩,
    ⟨some 53, .pick (.t 35) (.t 52) (.c (.bool false)), none⟩,
    ⟨some 4, .mv (.t 31), none⟩,
    ⟨some 5, .mv (.t 53), none⟩] [] [4, 5])
  .ret))))), [(4, none), (5, none)]⟩
theorem slices_BinarySearch_int_ok : okFn Try.prog 89 slices_BinarySearch_int = true := by kernel_rfl
def impl_copyPool : IFn := ⟨7, (.seq (.reg false [⟨some 1, .box (.t 0), none⟩,
    ⟨some 2, .new [.nil], none⟩] [] [1, 2])
  (.seq (.reg false [⟨some 3, .fad 0 (.t 1), none⟩,
    ⟨some 4, .ld none (.t 3), none⟩,
    ⟨some 5, .call 117 [.t 4], none⟩,
    ⟨some 6, .build [.nil] [(0, 1, .t 5)], none⟩,
    ⟨none, .st 1 (.t 2) (.t 6), none⟩] [] [2])
  .ret)), [(2, some (some 1))]⟩
theorem impl_copyPool_ok : okFn Try.prog 91 impl_copyPool = true := by kernel_rfl
def impl_Pool_add : IFn := ⟨61, (.seq (.reg false [⟨some 8, .mv (.c (.int .i64 0)), none⟩] [] [0, 1, 2, 3])
  (.seq (.reg false [⟨some 11, .mv (.t 1), none⟩,
    ⟨some 12, .mv (.t 2), none⟩,
    ⟨some 13, .mv (.t 3), none⟩,
    ⟨some 14, .build [.int .i64 0, .int .i64 0, .int .i64 0] [(0, 1, .t 11), (1, 1, .t 12), (2, 1, .t 13)], none⟩,
    ⟨some 9, .new [.int .i64 0, .int .i64 0, .int .i64 0], none⟩,
    ⟨none, .st 3 (.t 9) (.t 14), none⟩] [] [0, 1, 2, 3, 9])
  (.seq (.seq (.reg false [⟨some 15, .mv (.t 1), none⟩,
    ⟨some 16, .bin .eql (.t 15) (.c (.int .i64 8)), none⟩] [] [0, 2, 3, 9, 16])
  (.cond (.t 16)
  (.reg false [⟨some 17, .mv (.t 2), none⟩,
    ⟨some 18, .mv (.t 3), none⟩,
    ⟨some 19, .mm false (.t 17) [.t 18], none⟩,
    ⟨some 20, .mv (.t 2), none⟩,
    ⟨some 21, .mv (.t 3), none⟩,
    ⟨some 22, .mm true (.t 20) [.t 21], none⟩,
    ⟨some 23, .fad 1 (.t 9), none⟩,
    ⟨none, .st 1 (.t 23) (.t 19), none⟩,
    ⟨some 24, .fad 2 (.t 9), none⟩,
    ⟨none, .st 1 (.t 24) (.t 22), none⟩] [] [0, 9])
  .skip))
  (.seq (.seq (.reg true [⟨some 25, .ld (some 3) (.t 9), none⟩,
    ⟨some 26, .mv (.t 0), none⟩,
    ⟨some 27, .nck (.t 26), none⟩,
    ⟨some 28, .fad 0 (.t 27), none⟩,
    ⟨some 29, .ld none (.t 28), none⟩,
    ⟨some 30, .len false (.t 29), none⟩,
    ⟨some 31, .call 88 [.t 25, .t 30], none⟩,
    ⟨some 32, .not (.t 31), none⟩] [0, 0, 2, 6, 14, 30, 63, 127] [0, 9, 32])
  (.cond (.t 32)
  (.seq (.reg false [⟨some 8, .mv (.c (.int .i64 (-1))), none⟩] [] [8])
  .ret)
  .skip))
  (.seq (.seq (.reg false [⟨some 33, .mv (.t 0), none⟩,
    ⟨some 34, .ld (some 3) (.t 9), none⟩,
    ⟨some 35, .call 118 [.t 33, .t 34], none⟩,
    ⟨some 10, .mv (.t 35), none⟩] [] [0, 9, 10])
  (.seq (.reg false [⟨some 36, .mv (.t 10), none⟩,
    ⟨some 37, .bin .geq (.t 36) (.c (.int .i64 0)), none⟩] [] [0, 9, 10, 37])
  (.cond (.t 37)
  (.seq (.reg false [⟨some 38, .mv (.t 10), none⟩,
    ⟨some 8, .mv (.t 38), none⟩] [] [8])
  .ret)
  .skip)))
  (.seq (.seq (.reg false [⟨some 39, .mv (.t 0), none⟩,
    ⟨some 40, .nck (.t 39), none⟩,
    ⟨some 41, .fad 0 (.t 40), none⟩,
    ⟨some 42, .ld none (.t 41), none⟩,
    ⟨some 43, .len false (.t 42), none⟩,
    ⟨some 44, .bin .geq (.t 43) (.c (.int .i64 500)), none⟩] [] [0, 9, 44])
  (.cond (.t 44)
  (.seq (.reg false [⟨some 8, .mv (.c (.int .i64 (-1))), none⟩] [] [8])
  .ret)
  .skip))
  (.seq (.reg true [⟨some 45, .mv (.t 0), none⟩,
    ⟨some 46, .mv (.t 0), none⟩,
    ⟨some 47, .nck (.t 46), none⟩,
    ⟨some 48, .fad 0 (.t 47), none⟩,
    ⟨some 49, .ld none (.t 48), none⟩,
    ⟨some 50, .ld (some 3) (.t 9), none⟩,
    ⟨some 51, .bsl 3 1 [.int .i64 0, .int .i64 0, .int .i64 0] [(0, 3, .t 50)], none⟩,
    ⟨some 52, .app 3 24 (.t 49) (.t 51), none⟩,
    ⟨some 53, .nck (.t 45), none⟩,
    ⟨some 54, .fad 0 (.t 53), none⟩,
    ⟨none, .st 1 (.t 54) (.t 52), none⟩] [0, 0, 2, 6, 14, 0, 32, 126, 255, 511, 1023] [0])
  (.seq (.reg false [⟨some 55, .mv (.t 0), none⟩,
    ⟨some 56, .nck (.t 55), none⟩,
    ⟨some 57, .fad 0 (.t 56), none⟩,
    ⟨some 58, .ld none (.t 57), none⟩,
    ⟨some 59, .len false (.t 58), none⟩,
    ⟨some 60, .bin .sub (.t 59) (.c (.int .i64 1)), none⟩,
    ⟨some 8, .mv (.t 60), none⟩] [] [8])
  .ret)))))))), [(8, none)]⟩
theorem impl_Pool_add_ok : okFn Try.prog 92 impl_Pool_add = true := by kernel_rfl
def spec_l1Add : IFn := ⟨57, (.seq (.reg false [⟨some 2, .box (.t 0), none⟩,
    ⟨some 3, .box (.t 1), none⟩,
    ⟨some 4, .new [.nil], none⟩,
    ⟨some 5, .mv (.c (.int .i64 0)), none⟩] [] [2, 3, 4])
  (.seq (.seq (.reg false [⟨some 8, .fad 0 (.t 3), none⟩,
    ⟨some 9, .ld none (.t 8), none⟩,
    ⟨some 10, .bin .eql (.t 9) (.c (.int .i64 8)), none⟩,
    ⟨some 11, .mv (.t 10), none⟩,
    ⟨some 12, .fad 1 (.t 3), some (11, true)⟩,
    ⟨some 13, .ld none (.t 12), some (11, true)⟩,
    ⟨some 14, .fad 2 (.t 3), some (11, true)⟩,
    ⟨some 15, .ld none (.t 14), some (11, true)⟩,
    ⟨some 16, .bin .gtr (.t 13) (.t 15), some (11, true)⟩,
    ⟨some 17, .pick (.t 11) (.t 16) (.c (.bool false)), none⟩] [] [2, 3, 4, 17])
  (.cond (.t 17)
  (.reg false [⟨some 18, .fad 0 (.t 3), none⟩,
    ⟨some 19, .ld none (.t 18), none⟩,
    ⟨some 20, .fad 2 (.t 3), none⟩,
    ⟨some 21, .ld none (.t 20), none⟩,
    ⟨some 22, .fad 1 (.t 3), none⟩,
    ⟨some 23, .ld none (.t 22), none⟩,
    ⟨some 24, .build [.int .i64 0, .int .i64 0, .int .i64 0] [(0, 1, .t 19), (1, 1, .t 21), (2, 1, .t 23)], none⟩,
    ⟨none, .st 3 (.t 3) (.t 24), none⟩] [] [2, 3, 4])
  .skip))
  (.seq (.reg false [⟨some 25, .ld (some 1) (.t 2), none⟩,
    ⟨some 26, .ld (some 3) (.t 3), none⟩,
    ⟨some 27, .call 83 [.t 25, .t 26], none⟩,
    ⟨some 6, .mv (.t 27), none⟩] [] [2, 3, 4, 6])
  (.seq (.seq (.reg false [⟨some 28, .mv (.t 6), none⟩,
    ⟨some 29, .bin .geq (.t 28) (.c (.int .i64 0)), none⟩] [] [2, 3, 4, 6, 29])
  (.cond (.t 29)
  (.seq (.reg false [⟨some 30, .ld (some 1) (.t 2), none⟩,
    ⟨some 31, .mv (.t 6), none⟩,
    ⟨none, .st 1 (.t 4) (.t 30), none⟩,
    ⟨some 5, .mv (.t 31), none⟩] [] [4, 5])
  .ret)
  .skip))
  (.seq (.seq (.reg false [⟨some 32, .ld (some 3) (.t 3), none⟩,
    ⟨some 33, .fad 0 (.t 2), none⟩,
    ⟨some 34, .ld none (.t 33), none⟩,
    ⟨some 35, .len false (.t 34), none⟩,
    ⟨some 36, .call 82 [.t 32, .t 35], none⟩,
    ⟨some 37, .not (.t 36), none⟩,
    ⟨some 38, .mv (.t 37), none⟩,
    ⟨some 39, .fad 0 (.t 2), some (38, false)⟩,
    ⟨some 40, .ld none (.t 39), some (38, false)⟩,
    ⟨some 41, .len false (.t 40), some (38, false)⟩,
    ⟨some 42, .bin .eql (.t 41) (.c (.int .i64 500)), some (38, false)⟩,
    ⟨some 43, .pick (.t 38) (.c (.bool true)) (.t 42), none⟩] [] [2, 3, 4, 43])
  (.cond (.t 43)
  (.seq (.reg false [⟨some 44, .ld (some 1) (.t 2), none⟩,
    ⟨none, .st 1 (.t 4) (.t 44), none⟩,
    ⟨some 5, .mv (.c (.int .i64 (-1))), none⟩] [] [4, 5])
  .ret)
  .skip))
  (.seq (.reg false [⟨some 45, .ld (some 1) (.t 2), none⟩,
    ⟨some 46, .call 94 [.t 45], none⟩,
    ⟨some 7, .new [.nil], none⟩,
    ⟨none, .st 1 (.t 7) (.t 46), none⟩] [] [2, 3, 4, 7])
  (.seq (.reg false [⟨some 47, .fad 0 (.t 7), none⟩,
    ⟨some 48, .ld none (.t 47), none⟩,
    ⟨some 49, .ld (some 3) (.t 3), none⟩,
    ⟨some 50, .bsl 3 1 [.int .i64 0, .int .i64 0, .int .i64 0] [(0, 3, .t 49)], none⟩,
    ⟨some 51, .app 3 24 (.t 48) (.t 50), none⟩,
    ⟨some 52, .fad 0 (.t 7), none⟩,
    ⟨none, .st 1 (.t 52) (.t 51), none⟩] [] [2, 4, 7])
  (.seq (.reg true [⟨some 53, .ld (some 1) (.t 7), none⟩,
    ⟨some 54, .fad 0 (.t 2), none⟩,
    ⟨some 55, .ld none (.t 54), none⟩,
    ⟨some 56, .len false (.t 55), none⟩,
    ⟨none, .st 1 (.t 4) (.t 53), none⟩,
    ⟨some 5, .mv (.t 56), none⟩] [0, 0, 2, 6, 1, 31] [4, 5])
  .ret)))))))), [(4, some (some 1)), (5, none)]⟩
theorem spec_l1Add_ok : okFn Try.prog 93 spec_l1Add = true := by kernel_rfl
def spec_l1Copy : IFn := ⟨8, (.seq (.reg false [⟨some 1, .box (.t 0), none⟩,
    ⟨some 2, .new [.nil], none⟩] [] [1, 2])
  (.seq (.reg false [⟨some 3, .bsl 3 0 [.int .i64 0, .int .i64 0, .int .i64 0] [], none⟩,
    ⟨some 4, .fad 0 (.t 1), none⟩,
    ⟨some 5, .ld none (.t 4), none⟩,
    ⟨some 6, .app 3 24 (.t 3) (.t 5), none⟩,
    ⟨some 7, .build [.nil] [(0, 1, .t 6)], none⟩,
    ⟨none, .st 1 (.t 2) (.t 7), none⟩] [] [2])
  .ret)), [(2, some (some 1))]⟩
theorem spec_l1Copy_ok : okFn Try.prog 94 spec_l1Copy = true := by kernel_rfl
def spec_KnowHas : IFn := ⟨18, (.seq (.reg false [⟨some 4, .mv (.c (.bool false)), none⟩] [] [0, 1])
  (.seq (.seq (.reg false [⟨some 5, .mv (.c (.int .i64 0)), none⟩] [] [0, 1, 5])
  (.block 0 (.loop (.seq (.seq (.reg false [⟨some 6, .mv (.t 5), none⟩,
    ⟨some 7, .mv (.t 0), none⟩,
    ⟨some 8, .len false (.t 7), none⟩,
    ⟨some 9, .bin .lss (.t 6) (.t 8), none⟩] [] [0, 1, 5, 9])
  (.cond (.t 9)
  .skip
  (.exit 0)))
  (.seq (.block 1 (.seq (.reg false [⟨some 12, .mv (.t 0), none⟩,
    ⟨some 13, .mv (.t 5), none⟩,
    ⟨some 14, .iad 1 (.t 12) (.t 13), none⟩,
    ⟨some 15, .ld none (.t 14), none⟩,
    ⟨some 16, .mv (.t 1), none⟩,
    ⟨some 17, .bin .eql (.t 15) (.t 16), none⟩] [] [0, 1, 5, 17])
  (.cond (.t 17)
  (.seq (.reg false [⟨some 4, .mv (.c (.bool true)), none⟩] [] [4])
  .ret)
  .skip)))
  (.reg false [⟨some 10, .mv (.t 5), none⟩,
    ⟨some 11, .bin .add (.t 10) (.c (.int .i64 1)), none⟩,
    ⟨some 5, .mv (.t 11), none⟩] [] [0, 1, 5]))))))
  (.seq (.reg false [⟨some 4, .mv (.c (.bool false)), none⟩] [] [4])
  .ret))), [(4, none)]⟩
theorem spec_KnowHas_ok : okFn Try.prog 95 spec_KnowHas = true := by kernel_rfl
def spec_l7Made : IFn := ⟨77, (.seq (.reg false [⟨some 4, .box (.t 0), none⟩,
    ⟨some 8, .mv (.c (.bool false)), none⟩] [] [1, 2, 3, 4])
  (.seq (.reg false [⟨some 10, .fad 0 (.t 4), none⟩,
    ⟨some 11, .ld none (.t 10), none⟩,
    ⟨some 12, .mv (.t 2), none⟩,
    ⟨some 13, .iad 3 (.t 11) (.t 12), none⟩,
    ⟨some 14, .ld (some 3) (.t 13), none⟩,
    ⟨some 9, .new [.int .i64 0, .int .i64 0, .int .i64 0], none⟩,
    ⟨none, .st 3 (.t 9) (.t 14), none⟩] [] [1, 3, 4, 9])
  (.seq (.block 0 (.seq (.reg false [⟨some 16, .fad 0 (.t 9), none⟩,
    ⟨some 17, .ld none (.t 16), none⟩,
    ⟨some 18, .bin .eql (.t 17) (.c (.int .i64 1)), none⟩,
    ⟨some 15, .mv (.t 18), none⟩] [] [1, 3, 4, 9, 15])
  (.cond (.t 15)
  (.seq (.reg false [⟨some 19, .fad 1 (.t 9), none⟩,
    ⟨some 20, .ld none (.t 19), none⟩,
    ⟨some 21, .call 119 [.t 20], none⟩,
    ⟨some 8, .mv (.t 21), none⟩] [] [8])
  .ret)
  (.seq (.reg false [⟨some 23, .fad 0 (.t 9), none⟩,
    ⟨some 24, .ld none (.t 23), none⟩,
    ⟨some 25, .call 108 [.t 24], none⟩,
    ⟨some 26, .bin .eql (.t 25) (.c (.int .i64 1)), none⟩,
    ⟨some 22, .mv (.t 26), none⟩] [] [1, 3, 4, 9, 22])
  (.cond (.t 22)
  (.seq (.reg false [⟨some 27, .mv (.t 1), none⟩,
    ⟨some 28, .fad 1 (.t 9), none⟩,
    ⟨some 29, .ld none (.t 28), none⟩,
    ⟨some 30, .iad 1 (.t 27) (.t 29), none⟩,
    ⟨some 31, .ld none (.t 30), none⟩,
    ⟨some 8, .mv (.t 31), none⟩] [] [8])
  .ret)
  (.seq (.reg false [⟨some 33, .mv (.t 1), none⟩,
    ⟨some 34, .fad 1 (.t 9), none⟩,
    ⟨some 35, .ld none (.t 34), none⟩,
    ⟨some 36, .iad 1 (.t 33) (.t 35), none⟩,
    ⟨some 37, .ld none (.t 36), none⟩,
    ⟨some 38, .mv (.t 37), none⟩,
    ⟨some 39, .mv (.t 1), some (38, true)⟩,
    ⟨some 40, .fad 2 (.t 9), some (38, true)⟩,
    ⟨some 41, .ld none (.t 40), some (38, true)⟩,
    ⟨some 42, .iad 1 (.t 39) (.t 41), some (38, true)⟩,
    ⟨some 43, .ld none (.t 42), some (38, true)⟩,
    ⟨some 44, .pick (.t 38) (.t 43) (.c (.bool false)), none⟩,
    ⟨some 32, .mv (.t 44), none⟩] [] [1, 3, 4, 9, 32])
  (.cond (.t 32)
  (.seq (.reg false [⟨some 8, .mv (.c (.bool true)), none⟩] [] [8])
  .ret)
  (.seq (.reg false [⟨some 46, .fad 0 (.t 9), none⟩,
    ⟨some 47, .ld none (.t 46), none⟩,
    ⟨some 48, .bin .eql (.t 47) (.c (.int .i64 8)), none⟩,
    ⟨some 45, .mv (.t 48), none⟩] [] [1, 3, 4, 9, 45])
  (.cond (.t 45)
  (.seq (.reg false [⟨some 49, .mv (.t 1), none⟩,
    ⟨some 50, .fad 1 (.t 9), none⟩,
    ⟨some 51, .ld none (.t 50), none⟩,
    ⟨some 52, .iad 1 (.t 49) (.t 51), none⟩,
    ⟨some 53, .ld none (.t 52), none⟩,
    ⟨some 54, .mv (.t 53), none⟩,
    ⟨some 55, .ld (some 1) (.t 4), some (54, true)⟩,
    ⟨some 56, .mv (.t 1), some (54, true)⟩,
    ⟨some 57, .mv (.t 3), some (54, true)⟩,
    ⟨some 58, .fad 2 (.t 9), some (54, true)⟩,
    ⟨some 59, .ld none (.t 58), some (54, true)⟩,
    ⟨some 60, .call 120 [.t 55, .t 56, .t 57, .t 59], some (54, true)⟩,
    ⟨some 61, .pick (.t 54) (.t 60) (.c (.bool false)), none⟩,
    ⟨some 62, .mv (.t 61), none⟩,
    ⟨some 63, .mv (.t 1), some (62, false)⟩,
    ⟨some 64, .fad 2 (.t 9), some (62, false)⟩,
    ⟨some 65, .ld none (.t 64), some (62, false)⟩,
    ⟨some 66, .iad 1 (.t 63) (.t 65), some (62, false)⟩,
    ⟨some 67, .ld none (.t 66), some (62, false)⟩,
    ⟨some 68, .mv (.t 67), some (62, false)⟩,
    ⟨some 69, .ld (some 1) (.t 4), some (68, true)⟩,
    ⟨some 70, .mv (.t 1), some (68, true)⟩,
    ⟨some 71, .mv (.t 3), some (68, true)⟩,
    ⟨some 72, .fad 1 (.t 9), some (68, true)⟩,
    ⟨some 73, .ld none (.t 72), some (68, true)⟩,
    ⟨some 74, .call 120 [.t 69, .t 70, .t 71, .t 73], some (68, true)⟩,
    ⟨some 75, .pick (.t 68) (.t 74) (.c (.bool false)), some (62, false)⟩,
    ⟨some 76, .pick (.t 62) (.c (.bool true)) (.t 75), none⟩,
    ⟨some 8, .mv (.t 76), none⟩] [] [8])
  .ret)
  .skip)))))))))
  (.seq (.reg false [⟨some 8, .mv (.c (.bool false)), none⟩] [] [8])
  .ret)))), [(8, none)]⟩
theorem spec_l7Made_ok : okFn Try.prog 96 spec_l7Made = true := by kernel_rfl
def impl_Pool_canMake : IFn := ⟨75, (.seq (.reg false [⟨some 6, .mv (.c (.bool false)), none⟩] [] [0, 1, 2])
  (.seq (.reg false [⟨some 11, .mv (.t 0), none⟩,
    ⟨some 12, .nck (.t 11), none⟩,
    ⟨some 13, .fad 0 (.t 12), none⟩,
    ⟨some 14, .ld none (.t 13), none⟩,
    ⟨some 15, .mv (.t 1), none⟩,
    ⟨some 16, .iad 3 (.t 14) (.t 15), none⟩,
    ⟨some 17, .ld (some 3) (.t 16), none⟩,
    ⟨some 7, .new [.int .i64 0, .int .i64 0, .int .i64 0], none⟩,
    ⟨none, .st 3 (.t 7) (.t 17), none⟩] [] [0, 1, 2, 7])
  (.seq (.seq (.reg false [⟨some 18, .fad 0 (.t 7), none⟩,
    ⟨some 19, .ld none (.t 18), none⟩,
    ⟨some 20, .bin .eql (.t 19) (.c (.int .i64 1)), none⟩] [] [0, 1, 2, 7, 20])
  (.cond (.t 20)
  (.seq (.reg false [⟨some 21, .fad 1 (.t 7), none⟩,
    ⟨some 22, .ld none (.t 21), none⟩,
    ⟨some 23, .call 121 [.t 22], none⟩,
    ⟨some 6, .mv (.t 23), none⟩] [] [6])
  .ret)
  .skip))
  (.seq (.reg false [⟨some 8, .mv (.c (.bool true)), none⟩] [] [0, 1, 2, 7, 8])
  (.seq (.seq (.reg false [⟨some 24, .mv (.t 0), none⟩,
    ⟨some 25, .mv (.t 1), none⟩,
    ⟨some 26, .call 110 [.t 24, .t 25], none⟩,
    ⟨some 27, .len false (.t 26), none⟩,
    ⟨some 28, .mv (.c (.int .i64 0)), none⟩] [] [0, 2, 7, 8, 26, 27, 28])
  (.block 0 (.loop (.seq (.reg false [⟨some 29, .bin .lss (.t 28) (.t 27), none⟩] [] [0, 2, 7, 8, 26, 27, 28, 29])
  (.seq (.cond (.t 29)
  .skip
  (.exit 0))
  (.seq (.block 1 (.seq (.reg false [⟨some 30, .iad 1 (.t 26) (.t 28), none⟩,
    ⟨some 31, .ld none (.t 30), none⟩,
    ⟨some 10, .mv (.t 31), none⟩] [] [0, 2, 7, 8, 10, 26, 27, 28])
  (.reg false [⟨some 32, .mv (.t 8), none⟩,
    ⟨some 33, .mv (.t 32), none⟩,
    ⟨some 34, .mv (.t 2), some (33, true)⟩,
    ⟨some 35, .mv (.t 10), some (33, true)⟩,
    ⟨some 36, .iad 1 (.t 34) (.t 35), some (33, true)⟩,
    ⟨some 37, .ld none (.t 36), some (33, true)⟩,
    ⟨some 38, .pick (.t 33) (.t 37) (.c (.bool false)), none⟩,
    ⟨some 8, .mv (.t 38), none⟩] [] [0, 2, 7, 8, 26, 27, 28])))
  (.reg false [⟨some 39, .bin .add (.t 28) (.c (.int .i64 1)), none⟩,
    ⟨some 28, .mv (.t 39), none⟩] [] [0, 2, 7, 8, 26, 27, 28])))))))
  (.seq (.seq (.reg false [⟨some 40, .mv (.t 8), none⟩,
    ⟨some 41, .mv (.t 40), none⟩,
    ⟨some 42, .fad 0 (.t 7), some (41, false)⟩,
    ⟨some 43, .ld none (.t 42), some (41, false)⟩,
    ⟨some 44, .bin .neq (.t 43) (.c (.int .i64 8)), some (41, false)⟩,
    ⟨some 45, .pick (.t 41) (.c (.bool true)) (.t 44), none⟩] [] [0, 2, 7, 8, 45])
  (.cond (.t 45)
  (.seq (.reg false [⟨some 46, .mv (.t 8), none⟩,
    ⟨some 6, .mv (.t 46), none⟩] [] [6])
  .ret)
  .skip))
  (.seq (.reg false [⟨some 47, .mv (.t 2), none⟩,
    ⟨some 48, .fad 1 (.t 7), none⟩,
    ⟨some 49, .ld none (.t 48), none⟩,
    ⟨some 50, .iad 1 (.t 47) (.t 49), none⟩,
    ⟨some 51, .ld none (.t 50), none⟩,
    ⟨some 52, .mv (.t 51), none⟩,
    ⟨some 53, .mv (.t 0), some (52, true)⟩,
    ⟨some 54, .fad 2 (.t 7), some (52, true)⟩,
    ⟨some 55, .ld none (.t 54), some (52, true)⟩,
    ⟨some 56, .build [.int .i64 0, .int .i64 0, .int .i64 0] [(0, 1, .c (.int .i64 7)), (1, 1, .t 55)], some (52, true)⟩,
    ⟨some 57, .mv (.t 2), some (52, true)⟩,
    ⟨some 58, .call 122 [.t 53, .t 56, .t 57], some (52, true)⟩,
    ⟨some 59, .pick (.t 52) (.t 58) (.c (.bool false)), none⟩,
    ⟨some 60, .mv (.t 59), none⟩,
    ⟨some 61, .mv (.t 2), some (60, false)⟩,
    ⟨some 62, .fad 2 (.t 7), some (60, false)⟩,
    ⟨some 63, .ld none (.t 62), some (60, false)⟩,
    ⟨some 64, .iad 1 (.t 61) (.t 63), some (60, false)⟩,
    ⟨some 65, .ld none (.t 64), some (60, false)⟩,
    ⟨some 66, .mv (.t 65), some (60, false)⟩,
    ⟨some 67, .mv (.t 0), some (66, true)⟩,
    ⟨some 68, .fad 1 (.t 7), some (66, true)⟩,
    ⟨some 69, .ld none (.t 68), some (66, true)⟩,
    ⟨some 70, .build [.int .i64 0, .int .i64 0, .int .i64 0] [(0, 1, .c (.int .i64 7)), (1, 1, .t 69)], some (66, true)⟩,
    ⟨some 71, .mv (.t 2), some (66, true)⟩,
    ⟨some 72, .call 122 [.t 67, .t 70, .t 71], some (66, true)⟩,
    ⟨some 73, .pick (.t 66) (.t 72) (.c (.bool false)), some (60, false)⟩,
    ⟨some 74, .pick (.t 60) (.c (.bool true)) (.t 73), none⟩,
    ⟨some 6, .mv (.t 74), none⟩] [] [6])
  .ret))))))), [(6, none)]⟩
theorem impl_Pool_canMake_ok : okFn Try.prog 97 impl_Pool_canMake = true := by kernel_rfl
def spec_l1DrawPool : IFn := ⟨29, (.seq (.reg false [⟨some 4, .new [.nil], none⟩] [] [0, 1, 4])
  (.seq (.reg false [⟨some 8, .build [.nil] [], none⟩,
    ⟨some 5, .new [.nil], none⟩,
    ⟨none, .st 1 (.t 5) (.t 8), none⟩] [] [0, 1, 4, 5])
  (.seq (.reg false [⟨some 9, .mv (.t 0), none⟩,
    ⟨some 10, .mv (.t 1), none⟩,
    ⟨some 11, .bin .add (.t 10) (.c (.int .i64 1)), none⟩,
    ⟨some 12, .call 101 [.t 9, .t 11], none⟩,
    ⟨some 6, .mv (.t 12), none⟩] [] [0, 4, 5, 6])
  (.seq (.seq (.reg false [⟨some 7, .mv (.c (.int .i64 0)), none⟩] [] [0, 4, 5, 6, 7])
  (.block 0 (.loop (.seq (.seq (.reg false [⟨some 13, .mv (.t 7), none⟩,
    ⟨some 14, .mv (.t 6), none⟩,
    ⟨some 15, .bin .lss (.t 13) (.t 14), none⟩] [] [0, 4, 5, 6, 7, 15])
  (.cond (.t 15)
  .skip
  (.exit 0)))
  (.seq (.block 1 (.reg true [⟨some 19, .ld (some 1) (.t 5), none⟩,
    ⟨some 20, .mv (.t 0), none⟩,
    ⟨some 21, .fad 0 (.t 5), none⟩,
    ⟨some 22, .ld none (.t 21), none⟩,
    ⟨some 23, .len false (.t 22), none⟩,
    ⟨some 24, .call 102 [.t 20, .t 23], none⟩,
    ⟨some 25, .call 93 [.t 19, .t 24], none⟩,
    ⟨some 18, .mv (.t 25), none⟩,
    ⟨some 26, .ext (.t 18) 0, none⟩,
    ⟨some 27, .ext (.t 18) 1, none⟩,
    ⟨none, .st 1 (.t 5) (.t 26), none⟩] [0, 0, 0, 4, 12, 30, 63, 127, 255, 255, 511] [0, 4, 5, 6, 7]))
  (.reg false [⟨some 16, .mv (.t 7), none⟩,
    ⟨some 17, .bin .add (.t 16) (.c (.int .i64 1)), none⟩,
    ⟨some 7, .mv (.t 17), none⟩] [] [0, 4, 5, 6, 7]))))))
  (.seq (.reg false [⟨some 28, .ld (some 1) (.t 5), none⟩,
    ⟨none, .st 1 (.t 4) (.t 28), none⟩] [] [4])
  .ret))))), [(4, some (some 1))]⟩
theorem spec_l1DrawPool_ok : okFn Try.prog 100 spec_l1DrawPool = true := by kernel_rfl
def spec_l1Below : IFn := ⟨37, (.seq (.reg false [⟨some 4, .mv (.c (.int .i64 0)), none⟩] [] [0, 1])
  (.seq (.seq (.reg false [⟨some 9, .mv (.t 1), none⟩,
    ⟨some 10, .bin .leq (.t 9) (.c (.int .i64 0)), none⟩] [] [0, 1, 10])
  (.cond (.t 10)
  (.seq (.reg false [⟨some 4, .mv (.c (.int .i64 0)), none⟩] [] [4])
  .ret)
  .skip))
  (.seq (.seq (.reg false [⟨some 11, .mv (.t 1), none⟩,
    ⟨some 12, .bin .leq (.t 11) (.c (.int .i64 256)), none⟩] [] [0, 1, 12])
  (.cond (.t 12)
  (.seq (.reg false [⟨some 13, .mv (.t 0), none⟩,
    ⟨some 14, .call 133 [.t 13], none⟩,
    ⟨some 15, .mv (.t 1), none⟩,
    ⟨some 16, .bin .rem (.t 14) (.t 15), none⟩,
    ⟨some 4, .mv (.t 16), none⟩] [] [4])
  .ret)
  .skip))
  (.seq (.reg false [⟨some 17, .mv (.t 0), none⟩,
    ⟨some 18, .call 133 [.t 17], none⟩,
    ⟨some 5, .mv (.t 18), none⟩] [] [0, 1, 5])
  (.seq (.reg false [⟨some 19, .mv (.t 0), none⟩,
    ⟨some 20, .call 133 [.t 19], none⟩,
    ⟨some 6, .mv (.t 20), none⟩] [] [0, 1, 5, 6])
  (.seq (.reg false [⟨some 21, .mv (.t 0), none⟩,
    ⟨some 22, .call 133 [.t 21], none⟩,
    ⟨some 7, .mv (.t 22), none⟩] [] [0, 1, 5, 6, 7])
  (.seq (.reg false [⟨some 23, .mv (.t 0), none⟩,
    ⟨some 24, .call 133 [.t 23], none⟩,
    ⟨some 8, .mv (.t 24), none⟩] [] [1, 5, 6, 7, 8])
  (.seq (.reg false [⟨some 25, .mv (.t 5), none⟩,
    ⟨some 26, .bin .mul (.t 25) (.c (.int .i64 16777216)), none⟩,
    ⟨some 27, .mv (.t 6), none⟩,
    ⟨some 28, .bin .mul (.t 27) (.c (.int .i64 65536)), none⟩,
    ⟨some 29, .bin .add (.t 26) (.t 28), none⟩,
    ⟨some 30, .mv (.t 7), none⟩,
    ⟨some 31, .bin .mul (.t 30) (.c (.int .i64 256)), none⟩,
    ⟨some 32, .bin .add (.t 29) (.t 31), none⟩,
    ⟨some 33, .mv (.t 8), none⟩,
    ⟨some 34, .bin .add (.t 32) (.t 33), none⟩,
    ⟨some 35, .mv (.t 1), none⟩,
    ⟨some 36, .bin .rem (.t 34) (.t 35), none⟩,
    ⟨some 4, .mv (.t 36), none⟩] [] [4])
  .ret)))))))), [(4, none)]⟩
theorem spec_l1Below_ok : okFn Try.prog 101 spec_l1Below = true := by kernel_rfl
def spec_l1DrawNode : IFn := ⟨32, (.seq (.reg false [⟨some 4, .new [.int .i64 0, .int .i64 0, .int .i64 0], none⟩] [] [0, 1, 4])
  (.seq (.seq (.reg false [⟨some 6, .mv (.t 1), none⟩,
    ⟨some 7, .bin .eql (.t 6) (.c (.int .i64 0)), none⟩,
    ⟨some 8, .mv (.t 7), none⟩,
    ⟨some 9, .mv (.t 0), some (8, false)⟩,
    ⟨some 10, .call 103 [.t 9, .c (.int .i64 4)], some (8, false)⟩,
    ⟨some 11, .pick (.t 8) (.c (.bool true)) (.t 10), none⟩] [] [0, 1, 4, 11])
  (.cond (.t 11)
  (.seq (.reg false [⟨some 12, .mv (.t 0), none⟩,
    ⟨some 13, .bsl 1 13 [.int .i64 0] [(0, 1, .c (.int .i64 0)), (1, 1, .c (.int .i64 1)), (2, 1, .c (.int .i64 5)), (3, 1, .c (.int .i64 6)), (4, 1, .c (.int .i64 50)), (5, 1, .c (.int .i64 51)), (6, 1, .c (.int .i64 62)), (7, 1, .c (.int .i64 90)), (8, 1, .c (.int .i64 91)), (9, 1, .c (.int .i64 100)), (10, 1, .c (.int .i64 101)), (11, 1, .c (.int .i64 102)), (12, 1, .c (.int .i64 199))], none⟩,
    ⟨some 14, .call 105 [.t 12, .t 13], none⟩,
    ⟨some 15, .build [.int .i64 0, .int .i64 0, .int .i64 0] [(0, 1, .c (.int .i64 1)), (1, 1, .t 14)], none⟩,
    ⟨none, .st 3 (.t 4) (.t 15), none⟩] [] [4])
  .ret)
  .skip))
  (.seq (.reg false [⟨some 16, .mv (.t 0), none⟩,
    ⟨some 17, .call 106 [.t 16, .c (.int .i64 7)], none⟩,
    ⟨some 18, .bin .add (.c (.int .i64 2)) (.t 17), none⟩,
    ⟨some 19, .mv (.t 0), none⟩,
    ⟨some 20, .mv (.t 1), none⟩,
    ⟨some 21, .call 106 [.t 19, .t 20], none⟩,
    ⟨some 22, .build [.int .i64 0, .int .i64 0, .int .i64 0] [(0, 1, .t 18), (1, 1, .t 21)], none⟩,
    ⟨some 5, .new [.int .i64 0, .int .i64 0, .int .i64 0], none⟩,
    ⟨none, .st 3 (.t 5) (.t 22), none⟩] [] [0, 1, 4, 5])
  (.seq (.seq (.reg false [⟨some 23, .fad 0 (.t 5), none⟩,
    ⟨some 24, .ld none (.t 23), none⟩,
    ⟨some 25, .call 108 [.t 24], none⟩,
    ⟨some 26, .bin .eql (.t 25) (.c (.int .i64 2)), none⟩] [] [0, 1, 4, 5, 26])
  (.cond (.t 26)
  (.reg false [⟨some 27, .mv (.t 0), none⟩,
    ⟨some 28, .mv (.t 1), none⟩,
    ⟨some 29, .call 106 [.t 27, .t 28], none⟩,
    ⟨some 30, .fad 2 (.t 5), none⟩,
    ⟨none, .st 1 (.t 30) (.t 29), none⟩] [] [4, 5])
  .skip))
  (.seq (.reg false [⟨some 31, .ld (some 3) (.t 5), none⟩,
    ⟨none, .st 3 (.t 4) (.t 31), none⟩] [] [4])
  .ret))))), [(4, some (some 3))]⟩
theorem spec_l1DrawNode_ok : okFn Try.prog 102 spec_l1DrawNode = true := by kernel_rfl
def spec_l1Once : IFn := ⟨9, (.seq (.reg false [⟨some 4, .mv (.c (.bool false)), none⟩] [] [0, 1])
  (.seq (.reg false [⟨some 5, .mv (.t 0), none⟩,
    ⟨some 6, .mv (.t 1), none⟩,
    ⟨some 7, .call 101 [.t 5, .t 6], none⟩,
    ⟨some 8, .bin .eql (.t 7) (.c (.int .i64 0)), none⟩,
    ⟨some 4, .mv (.t 8), none⟩] [] [4])
  .ret)), [(4, none)]⟩
theorem spec_l1Once_ok : okFn Try.prog 103 spec_l1Once = true := by kernel_rfl
def spec_l6DrawKnow : IFn := ⟨30, (.seq (.reg false [⟨some 3, .box (.t 1), none⟩,
    ⟨some 4, .mv (.c (.nil)), none⟩] [] [0, 3])
  (.seq (.reg false [⟨some 8, .bsl 1 0 [.int .i64 0] [], none⟩,
    ⟨some 5, .mv (.t 8), none⟩] [] [0, 3, 5])
  (.seq (.reg false [⟨some 9, .mv (.t 0), none⟩,
    ⟨some 10, .call 101 [.t 9, .c (.int .i64 8)], none⟩,
    ⟨some 6, .mv (.t 10), none⟩] [] [0, 3, 5, 6])
  (.seq (.seq (.reg false [⟨some 7, .mv (.c (.int .i64 0)), none⟩] [] [0, 3, 5, 6, 7])
  (.block 0 (.loop (.seq (.seq (.reg false [⟨some 11, .mv (.t 7), none⟩,
    ⟨some 12, .mv (.t 6), none⟩,
    ⟨some 13, .bin .lss (.t 11) (.t 12), none⟩,
    ⟨some 14, .mv (.t 13), none⟩,
    ⟨some 15, .fad 0 (.t 3), some (14, true)⟩,
    ⟨some 16, .ld none (.t 15), some (14, true)⟩,
    ⟨some 17, .len false (.t 16), some (14, true)⟩,
    ⟨some 18, .bin .gtr (.t 17) (.c (.int .i64 0)), some (14, true)⟩,
    ⟨some 19, .pick (.t 14) (.t 18) (.c (.bool false)), none⟩] [] [0, 3, 5, 6, 7, 19])
  (.cond (.t 19)
  .skip
  (.exit 0)))
  (.seq (.block 1 (.reg false [⟨some 22, .mv (.t 5), none⟩,
    ⟨some 23, .mv (.t 0), none⟩,
    ⟨some 24, .fad 0 (.t 3), none⟩,
    ⟨some 25, .ld none (.t 24), none⟩,
    ⟨some 26, .len false (.t 25), none⟩,
    ⟨some 27, .call 106 [.t 23, .t 26], none⟩,
    ⟨some 28, .call 69 [.t 22, .t 27], none⟩,
    ⟨some 5, .mv (.t 28), none⟩] [] [0, 3, 5, 6, 7]))
  (.reg false [⟨some 20, .mv (.t 7), none⟩,
    ⟨some 21, .bin .add (.t 20) (.c (.int .i64 1)), none⟩,
    ⟨some 7, .mv (.t 21), none⟩] [] [0, 3, 5, 6, 7]))))))
  (.seq (.reg false [⟨some 29, .mv (.t 5), none⟩,
    ⟨some 4, .mv (.t 29), none⟩] [] [4])
  .ret))))), [(4, none)]⟩
theorem spec_l6DrawKnow_ok : okFn Try.prog 104 spec_l6DrawKnow = true := by kernel_rfl
def spec_l1PickInt : IFn := ⟨12, (.seq (.reg false [⟨some 4, .mv (.c (.int .i64 0)), none⟩] [] [0, 1])
  (.seq (.reg false [⟨some 5, .mv (.t 1), none⟩,
    ⟨some 6, .mv (.t 0), none⟩,
    ⟨some 7, .mv (.t 1), none⟩,
    ⟨some 8, .len false (.t 7), none⟩,
    ⟨some 9, .call 101 [.t 6, .t 8], none⟩,
    ⟨some 10, .iad 1 (.t 5) (.t 9), none⟩,
    ⟨some 11, .ld none (.t 10), none⟩,
    ⟨some 4, .mv (.t 11), none⟩] [] [4])
  .ret)), [(4, none)]⟩
theorem spec_l1PickInt_ok : okFn Try.prog 105 spec_l1PickInt = true := by kernel_rfl
def spec_l1Draw : IFn := ⟨19, (.seq (.reg false [⟨some 4, .mv (.c (.int .i64 0)), none⟩] [] [0, 1])
  (.seq (.seq (.reg false [⟨some 5, .mv (.t 1), none⟩,
    ⟨some 6, .bin .gtr (.t 5) (.c (.int .i64 6)), none⟩,
    ⟨some 7, .mv (.t 6), none⟩,
    ⟨some 8, .mv (.t 0), some (7, true)⟩,
    ⟨some 9, .call 103 [.t 8, .c (.int .i64 2)], some (7, true)⟩,
    ⟨some 10, .pick (.t 7) (.t 9) (.c (.bool false)), none⟩] [] [0, 1, 10])
  (.cond (.t 10)
  (.seq (.reg false [⟨some 11, .mv (.t 1), none⟩,
    ⟨some 12, .bin .sub (.t 11) (.c (.int .i64 1)), none⟩,
    ⟨some 13, .mv (.t 0), none⟩,
    ⟨some 14, .call 101 [.t 13, .c (.int .i64 6)], none⟩,
    ⟨some 15, .bin .sub (.t 12) (.t 14), none⟩,
    ⟨some 4, .mv (.t 15), none⟩] [] [4])
  .ret)
  .skip))
  (.seq (.reg false [⟨some 16, .mv (.t 0), none⟩,
    ⟨some 17, .mv (.t 1), none⟩,
    ⟨some 18, .call 101 [.t 16, .t 17], none⟩,
    ⟨some 4, .mv (.t 18), none⟩] [] [4])
  .ret))), [(4, none)]⟩
theorem spec_l1Draw_ok : okFn Try.prog 106 spec_l1Draw = true := by kernel_rfl
def spec_l1Max : IFn := ⟨10, (.seq (.reg false [⟨some 4, .mv (.c (.int .i64 0)), none⟩] [] [0, 1])
  (.seq (.seq (.reg false [⟨some 5, .mv (.t 0), none⟩,
    ⟨some 6, .mv (.t 1), none⟩,
    ⟨some 7, .bin .gtr (.t 5) (.t 6), none⟩] [] [0, 1, 7])
  (.cond (.t 7)
  (.seq (.reg false [⟨some 8, .mv (.t 0), none⟩,
    ⟨some 4, .mv (.t 8), none⟩] [] [4])
  .ret)
  .skip))
  (.seq (.reg false [⟨some 9, .mv (.t 1), none⟩,
    ⟨some 4, .mv (.t 9), none⟩] [] [4])
  .ret))), [(4, none)]⟩
theorem spec_l1Max_ok : okFn Try.prog 107 spec_l1Max = true := by kernel_rfl
def spec_l1Parts : IFn := ⟨15, (.seq (.reg false [⟨some 2, .mv (.c (.int .i64 0)), none⟩] [] [0])
  (.seq (.seq (.reg false [⟨some 3, .mv (.t 0), none⟩] [] [3])
  (.block 0 (.seq (.reg false [⟨some 5, .bin .eql (.t 3) (.c (.int .i64 1)), none⟩,
    ⟨some 4, .mv (.t 5), none⟩] [] [3, 4])
  (.cond (.t 4)
  (.seq (.reg false [⟨some 2, .mv (.c (.int .i64 0)), none⟩] [] [2])
  .ret)
  (.seq (.seq (.reg false [⟨some 7, .bin .eql (.t 3) (.c (.int .i64 5)), none⟩,
    ⟨some 6, .mv (.t 7), none⟩] [] [3, 6])
  (.cond (.t 6)
  .skip
  (.reg false [⟨some 8, .bin .eql (.t 3) (.c (.int .i64 7)), none⟩,
    ⟨some 6, .mv (.t 8), none⟩] [] [3, 6])))
  (.cond (.t 6)
  (.seq (.reg false [⟨some 2, .mv (.c (.int .i64 1)), none⟩] [] [2])
  .ret)
  (.seq (.seq (.reg false [⟨some 10, .bin .eql (.t 3) (.c (.int .i64 2)), none⟩,
    ⟨some 9, .mv (.t 10), none⟩] [] [3, 9])
  (.cond (.t 9)
  .skip
  (.seq (.reg false [⟨some 11, .bin .eql (.t 3) (.c (.int .i64 3)), none⟩,
    ⟨some 9, .mv (.t 11), none⟩] [] [3, 9])
  (.cond (.t 9)
  .skip
  (.seq (.reg false [⟨some 12, .bin .eql (.t 3) (.c (.int .i64 4)), none⟩,
    ⟨some 9, .mv (.t 12), none⟩] [] [3, 9])
  (.cond (.t 9)
  .skip
  (.seq (.reg false [⟨some 13, .bin .eql (.t 3) (.c (.int .i64 6)), none⟩,
    ⟨some 9, .mv (.t 13), none⟩] [] [3, 9])
  (.cond (.t 9)
  .skip
  (.reg false [⟨some 14, .bin .eql (.t 3) (.c (.int .i64 8)), none⟩,
    ⟨some 9, .mv (.t 14), none⟩] [] [9])))))))))
  (.cond (.t 9)
  (.seq (.reg false [⟨some 2, .mv (.c (.int .i64 2)), none⟩] [] [2])
  .ret)
  .skip))))))))
  (.seq (.reg false [⟨some 2, .mv (.c (.int .i64 (-1))), none⟩] [] [2])
  .ret))), [(2, none)]⟩
theorem spec_l1Parts_ok : okFn Try.prog 108 spec_l1Parts = true := by kernel_rfl
def spec_l1In : IFn := ⟨15, (.seq (.reg false [⟨some 6, .mv (.c (.bool false)), none⟩] [] [0, 1, 2])
  (.seq (.reg false [⟨some 7, .mv (.t 0), none⟩,
    ⟨some 8, .mv (.t 1), none⟩,
    ⟨some 9, .bin .geq (.t 7) (.t 8), none⟩,
    ⟨some 10, .mv (.t 9), none⟩,
    ⟨some 11, .mv (.t 0), some (10, true)⟩,
    ⟨some 12, .mv (.t 2), some (10, true)⟩,
    ⟨some 13, .bin .leq (.t 11) (.t 12), some (10, true)⟩,
    ⟨some 14, .pick (.t 10) (.t 13) (.c (.bool false)), none⟩,
    ⟨some 6, .mv (.t 14), none⟩] [] [6])
  .ret)), [(6, none)]⟩
theorem spec_l1In_ok : okFn Try.prog 109 spec_l1In = true := by kernel_rfl
def impl_Pool_parts : IFn := ⟨28, (.seq (.reg false [⟨some 4, .mv (.c (.nil)), none⟩] [] [0, 1])
  (.seq (.reg false [⟨some 6, .mv (.t 0), none⟩,
    ⟨some 7, .nck (.t 6), none⟩,
    ⟨some 8, .fad 0 (.t 7), none⟩,
    ⟨some 9, .ld none (.t 8), none⟩,
    ⟨some 10, .mv (.t 1), none⟩,
    ⟨some 11, .iad 3 (.t 9) (.t 10), none⟩,
    ⟨some 12, .ld (some 3) (.t 11), none⟩,
    ⟨some 5, .new [.int .i64 0, .int .i64 0, .int .i64 0], none⟩,
    ⟨none, .st 3 (.t 5) (.t 12), none⟩] [] [5])
  (.seq (.seq (.reg false [⟨some 13, .fad 0 (.t 5), none⟩,
    ⟨some 14, .ld none (.t 13), none⟩,
    ⟨some 15, .call 112 [.t 14], none⟩] [] [5, 15])
  (.block 0 (.seq (.reg false [⟨some 17, .bin .eql (.t 15) (.c (.int .i64 1)), none⟩,
    ⟨some 16, .mv (.t 17), none⟩] [] [5, 15, 16])
  (.cond (.t 16)
  (.seq (.reg false [⟨some 18, .fad 1 (.t 5), none⟩,
    ⟨some 19, .ld none (.t 18), none⟩,
    ⟨some 20, .bsl 1 1 [.int .i64 0] [(0, 1, .t 19)], none⟩,
    ⟨some 4, .mv (.t 20), none⟩] [] [4])
  .ret)
  (.seq (.reg false [⟨some 22, .bin .eql (.t 15) (.c (.int .i64 2)), none⟩,
    ⟨some 21, .mv (.t 22), none⟩] [] [5, 21])
  (.cond (.t 21)
  (.seq (.reg false [⟨some 23, .fad 1 (.t 5), none⟩,
    ⟨some 24, .ld none (.t 23), none⟩,
    ⟨some 25, .fad 2 (.t 5), none⟩,
    ⟨some 26, .ld none (.t 25), none⟩,
    ⟨some 27, .bsl 1 2 [.int .i64 0] [(0, 1, .t 24), (1, 1, .t 26)], none⟩,
    ⟨some 4, .mv (.t 27), none⟩] [] [4])
  .ret)
  .skip))))))
  (.seq (.reg false [⟨some 4, .mv (.c (.nil)), none⟩] [] [4])
  .ret)))), [(4, none)]⟩
theorem impl_Pool_parts_ok : okFn Try.prog 110 impl_Pool_parts = true := by kernel_rfl
def impl_count : IFn := ⟨15, (.seq (.reg false [⟨some 2, .mv (.c (.int .i64 0)), none⟩] [] [0])
  (.seq (.seq (.reg false [⟨some 3, .mv (.t 0), none⟩] [] [3])
  (.block 0 (.seq (.reg false [⟨some 5, .bin .eql (.t 3) (.c (.int .i64 1)), none⟩,
    ⟨some 4, .mv (.t 5), none⟩] [] [3, 4])
  (.cond (.t 4)
  (.seq (.reg false [⟨some 2, .mv (.c (.int .i64 0)), none⟩] [] [2])
  .ret)
  (.seq (.seq (.reg false [⟨some 7, .bin .eql (.t 3) (.c (.int .i64 5)), none⟩,
    ⟨some 6, .mv (.t 7), none⟩] [] [3, 6])
  (.cond (.t 6)
  .skip
  (.reg false [⟨some 8, .bin .eql (.t 3) (.c (.int .i64 7)), none⟩,
    ⟨some 6, .mv (.t 8), none⟩] [] [3, 6])))
  (.cond (.t 6)
  (.seq (.reg false [⟨some 2, .mv (.c (.int .i64 1)), none⟩] [] [2])
  .ret)
  (.seq (.seq (.reg false [⟨some 10, .bin .eql (.t 3) (.c (.int .i64 2)), none⟩,
    ⟨some 9, .mv (.t 10), none⟩] [] [3, 9])
  (.cond (.t 9)
  .skip
  (.seq (.reg false [⟨some 11, .bin .eql (.t 3) (.c (.int .i64 3)), none⟩,
    ⟨some 9, .mv (.t 11), none⟩] [] [3, 9])
  (.cond (.t 9)
  .skip
  (.seq (.reg false [⟨some 12, .bin .eql (.t 3) (.c (.int .i64 4)), none⟩,
    ⟨some 9, .mv (.t 12), none⟩] [] [3, 9])
  (.cond (.t 9)
  .skip
  (.seq (.reg false [⟨some 13, .bin .eql (.t 3) (.c (.int .i64 6)), none⟩,
    ⟨some 9, .mv (.t 13), none⟩] [] [3, 9])
  (.cond (.t 9)
  .skip
  (.reg false [⟨some 14, .bin .eql (.t 3) (.c (.int .i64 8)), none⟩,
    ⟨some 9, .mv (.t 14), none⟩] [] [9])))))))))
  (.cond (.t 9)
  (.seq (.reg false [⟨some 2, .mv (.c (.int .i64 2)), none⟩] [] [2])
  .ret)
  .skip))))))))
  (.seq (.reg false [⟨some 2, .mv (.c (.int .i64 (-1))), none⟩] [] [2])
  .ret))), [(2, none)]⟩
theorem impl_count_ok : okFn Try.prog 112 impl_count = true := by kernel_rfl
def cmp_Less_int : IFn := ⟨17, (.seq (.reg false [⟨some 4, .mv (.c (.bool false)), none⟩] [] [0, 1])
  (.seq (.reg false [⟨some 5, .mv (.t 0), none⟩,
    ⟨some 6, .call 134 [.t 5], none⟩,
    ⟨some 7, .mv (.t 6), none⟩,
    ⟨some 8, .mv (.t 1), some (7, true)⟩,
    ⟨some 9, .call 134 [.t 8], some (7, true)⟩,
    ⟨some 10, .not (.t 9), some (7, true)⟩,
    ⟨some 11, .pick (.t 7) (.t 10) (.c (.bool false)), none⟩,
    ⟨some 12, .mv (.t 11), none⟩,
    ⟨some 13, .mv (.t 0), some (12, false)⟩,
    ⟨some 14, .mv (.t 1), some (12, false)⟩,
    ⟨some 15, .bin .lss (.t 13) (.t 14), some (12, false)⟩,
    ⟨some 16, .pick (.t 12) (.c (.bool true)) (.t 15), none⟩,
    ⟨some 4, .mv (.t 16), none⟩] [] [4])
  .ret)), [(4, none)]⟩
theorem cmp_Less_int_ok : okFn Try.prog 113 cmp_Less_int = true := by kernel_rfl
def slices_isNaN_int : IFn := ⟨6, (.seq (.reg false [⟨some 2, .mv (.c (.bool false)), none⟩] [] [0])
  (.seq (.reg false [⟨some 3, .mv (.t 0), none⟩,
    ⟨some 4, .mv (.t 0), none⟩,
    ⟨some 5, .bin .neq (.t 3) (.t 4), none⟩,
    ⟨some 2, .mv (.t 5), none⟩] [] [2])
  .ret)), [(2, none)]⟩
theorem slices_isNaN_int_ok : okFn Try.prog 114 slices_isNaN_int = true := by kernel_rfl
def slices_Clone_Node : IFn := ⟨8, (.seq (.reg false [⟨some 2, .mv (.c (.nil)), none⟩] [] [0])
  (.seq (.seq (.reg false [⟨some 3, .mv (.t 0), none⟩,
    ⟨some 4, .isn false (.t 3), none⟩] [] [0, 4])
  (.cond (.t 4)
  (.seq (.reg false [⟨some 2, .mv (.c (.nil)), none⟩] [] [2])
  .ret)
  .skip))
  (.seq (.reg false [⟨some 5, .bsl 3 0 [.int .i64 0, .int .i64 0, .int .i64 0] [], none⟩,
    ⟨some 6, .mv (.t 0), none⟩,
    ⟨some 7, .app 3 24 (.t 5) (.t 6), none⟩,
    ⟨some 2, .mv (.t 7), none⟩] [] [2])
  .ret))), [(2, none)]⟩
theorem slices_Clone_Node_ok : okFn Try.prog 117 slices_Clone_Node = true := by kernel_rfl
def impl_Pool_find : IFn := ⟨11, (.seq (.reg false [⟨some 3, .box (.t 1), none⟩,
    ⟨some 4, .mv (.c (.int .i64 0)), none⟩] [] [0, 3])
  (.seq (.reg true [⟨some 5, .mv (.t 0), none⟩,
    ⟨some 6, .nck (.t 5), none⟩,
    ⟨some 7, .fad 0 (.t 6), none⟩,
    ⟨some 8, .ld none (.t 7), none⟩,
    ⟨some 9, .ld (some 3) (.t 3), none⟩,
    ⟨some 10, .call 136 [.t 8, .t 9], none⟩,
    ⟨some 4, .mv (.t 10), none⟩] [0, 1, 3, 7, 0, 31, 63] [4])
  .ret)), [(4, none)]⟩
theorem impl_Pool_find_ok : okFn Try.prog 118 impl_Pool_find = true := by kernel_rfl
def spec_IsPublic : IFn := ⟨5, (.seq (.reg false [⟨some 2, .mv (.c (.bool false)), none⟩] [] [0])
  (.seq (.reg false [⟨some 3, .mv (.t 0), none⟩,
    ⟨some 4, .call 109 [.t 3, .c (.int .i64 0), .c (.int .i64 49)], none⟩,
    ⟨some 2, .mv (.t 4), none⟩] [] [2])
  .ret)), [(2, none)]⟩
theorem spec_IsPublic_ok : okFn Try.prog 119 spec_IsPublic = true := by kernel_rfl
def spec_l7Power : IFn := ⟨27, (.seq (.reg false [⟨some 4, .box (.t 0), none⟩,
    ⟨some 8, .mv (.c (.bool false)), none⟩] [] [1, 2, 3, 4])
  (.seq (.reg false [⟨some 10, .ld (some 1) (.t 4), none⟩,
    ⟨some 11, .mv (.t 3), none⟩,
    ⟨some 12, .build [.int .i64 0, .int .i64 0, .int .i64 0] [(0, 1, .c (.int .i64 7)), (1, 1, .t 11)], none⟩,
    ⟨some 13, .call 83 [.t 10, .t 12], none⟩,
    ⟨some 9, .mv (.t 13), none⟩] [] [1, 2, 3, 9])
  (.seq (.reg false [⟨some 14, .mv (.t 9), none⟩,
    ⟨some 15, .bin .geq (.t 14) (.c (.int .i64 0)), none⟩,
    ⟨some 16, .mv (.t 15), none⟩,
    ⟨some 17, .mv (.t 1), some (16, true)⟩,
    ⟨some 18, .mv (.t 3), some (16, true)⟩,
    ⟨some 19, .iad 1 (.t 17) (.t 18), some (16, true)⟩,
    ⟨some 20, .ld none (.t 19), some (16, true)⟩,
    ⟨some 21, .mv (.t 20), some (16, true)⟩,
    ⟨some 22, .mv (.t 2), some (21, false)⟩,
    ⟨some 23, .mv (.t 9), some (21, false)⟩,
    ⟨some 24, .call 95 [.t 22, .t 23], some (21, false)⟩,
    ⟨some 25, .pick (.t 21) (.c (.bool true)) (.t 24), some (16, true)⟩,
    ⟨some 26, .pick (.t 16) (.t 25) (.c (.bool false)), none⟩,
    ⟨some 8, .mv (.t 26), none⟩] [] [8])
  .ret))), [(8, none)]⟩
theorem spec_l7Power_ok : okFn Try.prog 120 spec_l7Power = true := by kernel_rfl
def impl_IsPublic : IFn := ⟨5, (.seq (.reg false [⟨some 2, .mv (.c (.bool false)), none⟩] [] [0])
  (.seq (.reg false [⟨some 3, .mv (.t 0), none⟩,
    ⟨some 4, .call 87 [.t 3, .c (.int .i64 0), .c (.int .i64 49)], none⟩,
    ⟨some 2, .mv (.t 4), none⟩] [] [2])
  .ret)), [(2, none)]⟩
theorem impl_IsPublic_ok : okFn Try.prog 121 impl_IsPublic = true := by kernel_rfl
def impl_Pool_isMade : IFn := ⟨19, (.seq (.reg false [⟨some 4, .box (.t 1), none⟩,
    ⟨some 6, .mv (.c (.bool false)), none⟩] [] [0, 2, 4])
  (.seq (.reg false [⟨some 8, .mv (.t 0), none⟩,
    ⟨some 9, .ld (some 3) (.t 4), none⟩,
    ⟨some 10, .call 118 [.t 8, .t 9], none⟩,
    ⟨some 7, .mv (.t 10), none⟩] [] [2, 7])
  (.seq (.reg false [⟨some 11, .mv (.t 7), none⟩,
    ⟨some 12, .bin .geq (.t 11) (.c (.int .i64 0)), none⟩,
    ⟨some 13, .mv (.t 12), none⟩,
    ⟨some 14, .mv (.t 2), some (13, true)⟩,
    ⟨some 15, .mv (.t 7), some (13, true)⟩,
    ⟨some 16, .iad 1 (.t 14) (.t 15), some (13, true)⟩,
    ⟨some 17, .ld none (.t 16), some (13, true)⟩,
    ⟨some 18, .pick (.t 13) (.t 17) (.c (.bool false)), none⟩,
    ⟨some 6, .mv (.t 18), none⟩] [] [6])
  .ret))), [(6, none)]⟩
theorem impl_Pool_isMade_ok : okFn Try.prog 122 impl_Pool_isMade = true := by kernel_rfl
def spec_l1Byte : IFn := ⟨58, (.seq (.reg false [⟨some 2, .mv (.c (.int .i64 0)), none⟩] [] [0])
  (.seq (.reg false [⟨some 4, .mv (.t 0), none⟩,
    ⟨some 5, .mv (.t 0), none⟩,
    ⟨some 6, .nck (.t 5), none⟩,
    ⟨some 7, .fad 2 (.t 6), none⟩,
    ⟨some 8, .ld none (.t 7), none⟩,
    ⟨some 9, .bin .mul (.t 8) (.c (.int .i64 6364136223846793005)), none⟩,
    ⟨some 10, .bin .add (.t 9) (.c (.int .i64 1442695040888963407)), none⟩,
    ⟨some 11, .nck (.t 4), none⟩,
    ⟨some 12, .fad 2 (.t 11), none⟩,
    ⟨none, .st 1 (.t 12) (.t 10), none⟩] [] [0])
  (.seq (.reg true [⟨some 13, .mv (.t 0), none⟩,
    ⟨some 14, .nck (.t 13), none⟩,
    ⟨some 15, .fad 2 (.t 14), none⟩,
    ⟨some 16, .ld none (.t 15), none⟩,
    ⟨some 17, .bin .shr (.t 16) (.c (.int .u64 33)), none⟩,
    ⟨some 18, .mv (.t 0), none⟩,
    ⟨some 19, .nck (.t 18), none⟩,
    ⟨some 20, .fad 2 (.t 19), none⟩,
    ⟨some 21, .ld none (.t 20), none⟩,
    ⟨some 22, .bin .shr (.t 21) (.c (.int .u64 45)), none⟩,
    ⟨some 23, .bin .xor (.t 17) (.t 22), none⟩,
    ⟨some 24, .bin .and (.t 23) (.c (.int .i64 255)), none⟩,
    ⟨some 3, .mv (.t 24), none⟩] [0, 1, 3, 7, 15, 0, 32, 96, 224, 480, 1023, 2047, 4095] [0, 3])
  (.seq (.seq (.reg true [⟨some 25, .mv (.t 0), none⟩,
    ⟨some 26, .nck (.t 25), none⟩,
    ⟨some 27, .fad 1 (.t 26), none⟩,
    ⟨some 28, .ld none (.t 27), none⟩,
    ⟨some 29, .mv (.t 0), none⟩,
    ⟨some 30, .nck (.t 29), none⟩,
    ⟨some 31, .fad 0 (.t 30), none⟩,
    ⟨some 32, .ld none (.t 31), none⟩,
    ⟨some 33, .len false (.t 32), none⟩,
    ⟨some 34, .bin .lss (.t 28) (.t 33), none⟩] [0, 1, 3, 7, 0, 16, 48, 112, 240, 511] [0, 3, 34])
  (.cond (.t 34)
  (.seq (.reg true [⟨some 35, .mv (.t 3), none⟩,
    ⟨some 36, .mv (.t 0), none⟩,
    ⟨some 37, .nck (.t 36), none⟩,
    ⟨some 38, .fad 0 (.t 37), none⟩,
    ⟨some 39, .ld none (.t 38), none⟩,
    ⟨some 40, .mv (.t 0), none⟩,
    ⟨some 41, .nck (.t 40), none⟩,
    ⟨some 42, .fad 1 (.t 41), none⟩,
    ⟨some 43, .ld none (.t 42), none⟩,
    ⟨some 44, .iad 1 (.t 39) (.t 43), none⟩,
    ⟨some 45, .ld none (.t 44), none⟩,
    ⟨some 46, .conv .i64 (.t 45), none⟩,
    ⟨some 47, .bin .add (.t 35) (.t 46), none⟩,
    ⟨some 48, .bin .and (.t 47) (.c (.int .i64 255)), none⟩,
    ⟨some 3, .mv (.t 48), none⟩] [0, 0, 2, 6, 14, 0, 32, 96, 224, 510, 1022, 2046, 4095, 8191, 16383] [0, 3])
  (.reg false [⟨some 49, .mv (.t 0), none⟩,
    ⟨some 50, .mv (.t 0), none⟩,
    ⟨some 51, .nck (.t 50), none⟩,
    ⟨some 52, .fad 1 (.t 51), none⟩,
    ⟨some 53, .ld none (.t 52), none⟩,
    ⟨some 54, .bin .add (.t 53) (.c (.int .i64 1)), none⟩,
    ⟨some 55, .nck (.t 49), none⟩,
    ⟨some 56, .fad 1 (.t 55), none⟩,
    ⟨none, .st 1 (.t 56) (.t 54), none⟩] [] [3]))
  .skip))
  (.seq (.reg false [⟨some 57, .mv (.t 3), none⟩,
    ⟨some 2, .mv (.t 57), none⟩] [] [2])
  .ret))))), [(2, none)]⟩
theorem spec_l1Byte_ok : okFn Try.prog 133 spec_l1Byte = true := by kernel_rfl
def cmp_isNaN_int : IFn := ⟨6, (.seq (.reg false [⟨some 2, .mv (.c (.bool false)), none⟩] [] [0])
  (.seq (.reg false [⟨some 3, .mv (.t 0), none⟩,
    ⟨some 4, .mv (.t 0), none⟩,
    ⟨some 5, .bin .neq (.t 3) (.t 4), none⟩,
    ⟨some 2, .mv (.t 5), none⟩] [] [2])
  .ret)), [(2, none)]⟩
theorem cmp_isNaN_int_ok : okFn Try.prog 134 cmp_isNaN_int = true := by kernel_rfl
def slices_Index_Node : IFn := ⟨19, (.seq (.reg false [⟨some 3, .box (.t 1), none⟩,
    ⟨some 4, .mv (.c (.int .i64 0)), none⟩] [] [0, 3])
  (.seq (.seq (.reg false [⟨some 6, .mv (.t 0), none⟩,
    ⟨some 7, .len false (.t 6), none⟩,
    ⟨some 8, .mv (.c (.int .i64 0)), none⟩] [] [0, 3, 7, 8])
  (.block 0 (.loop (.seq (.reg false [⟨some 9, .bin .lss (.t 8) (.t 7), none⟩] [] [0, 3, 7, 8, 9])
  (.seq (.cond (.t 9)
  .skip
  (.exit 0))
  (.seq (.block 1 (.seq (.reg false [⟨some 10, .mv (.t 8), none⟩,
    ⟨some 5, .mv (.t 10), none⟩] [] [0, 3, 5, 7, 8])
  (.seq (.reg true [⟨some 11, .ld (some 3) (.t 3), none⟩,
    ⟨some 12, .mv (.t 0), none⟩,
    ⟨some 13, .mv (.t 5), none⟩,
    ⟨some 14, .iad 3 (.t 12) (.t 13), none⟩,
    ⟨some 15, .ld (some 3) (.t 14), none⟩,
    ⟨some 16, .eqs false [1, 1, 1] (.t 11) (.t 15), none⟩] [0, 0, 0, 6, 14, 31] [0, 3, 5, 7, 8, 16])
  (.cond (.t 16)
  (.seq (.reg false [⟨some 17, .mv (.t 5), none⟩,
    ⟨some 4, .mv (.t 17), none⟩] [] [4])
  .ret)
  .skip))))
  (.reg false [⟨some 18, .bin .add (.t 8) (.c (.int .i64 1)), none⟩,
    ⟨some 8, .mv (.t 18), none⟩] [] [0, 3, 7, 8])))))))
  (.seq (.reg false [⟨some 4, .mv (.c (.int .i64 (-1))), none⟩] [] [4])
  .ret))), [(4, none)]⟩
theorem slices_Index_Node_ok : okFn Try.prog 136 slices_Index_Node = true := by kernel_rfl

end Go.Proofs.Ytfbfebaajdihiaa.I
