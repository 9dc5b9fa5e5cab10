/- The functions of this seat told by trees. Printed by a program of this repository (mkir.py). Conditions: none. -/
import Derived.Test.YtcfgiffgahdlbaaXSymQ
import Derived.Test.YtcfgiffgahdlbaaProg
import Derived.KernelRfl
set_option maxRecDepth 100000
set_option linter.unusedVariables false
namespace Go.Proofs.Ytcfgiffgahdlbaa.I
open Go.Sym
def spec_l6Put : IFn := ⟨46, (.seq (.reg false [⟨some 4, .mv (.c (.nil)), none⟩] [] [0, 1])
  (.seq (.reg false [⟨some 8, .bsl 1 0 [.int .i64 0] [], none⟩,
    ⟨some 5, .mv (.t 8), none⟩] [] [0, 1, 5])
  (.seq (.reg false [⟨some 9, .mv (.t 0), none⟩,
    ⟨some 10, .mv (.t 1), none⟩,
    ⟨some 11, .call 73 [.t 9, .t 10], none⟩,
    ⟨some 6, .mv (.t 11), none⟩] [] [0, 1, 5, 6])
  (.seq (.seq (.reg false [⟨some 7, .mv (.c (.int .i64 0)), none⟩] [] [0, 1, 5, 6, 7])
  (.block 0 (.loop (.seq (.seq (.reg false [⟨some 12, .mv (.t 7), none⟩,
    ⟨some 13, .mv (.t 0), none⟩,
    ⟨some 14, .len false (.t 13), none⟩,
    ⟨some 15, .bin .lss (.t 12) (.t 14), none⟩] [] [0, 1, 5, 6, 7, 15])
  (.cond (.t 15)
  .skip
  (.exit 0)))
  (.seq (.block 1 (.seq (.seq (.reg false [⟨some 18, .mv (.t 6), none⟩,
    ⟨some 19, .not (.t 18), none⟩,
    ⟨some 20, .mv (.t 19), none⟩,
    ⟨some 21, .mv (.t 0), some (20, true)⟩,
    ⟨some 22, .mv (.t 7), some (20, true)⟩,
    ⟨some 23, .iad 1 (.t 21) (.t 22), some (20, true)⟩,
    ⟨some 24, .ld none (.t 23), some (20, true)⟩,
    ⟨some 25, .mv (.t 1), some (20, true)⟩,
    ⟨some 26, .bin .gtr (.t 24) (.t 25), some (20, true)⟩,
    ⟨some 27, .pick (.t 20) (.t 26) (.c (.bool false)), none⟩] [] [0, 1, 5, 6, 7, 27])
  (.cond (.t 27)
  (.seq (.reg false [⟨some 28, .mv (.t 5), none⟩,
    ⟨some 29, .mv (.t 1), none⟩,
    ⟨some 30, .bsl 1 1 [.int .i64 0] [(0, 1, .t 29)], none⟩,
    ⟨some 31, .app 1 8 (.t 28) (.t 30), none⟩,
    ⟨some 5, .mv (.t 31), none⟩] [] [0, 1, 5, 7])
  (.reg false [⟨some 6, .mv (.c (.bool true)), none⟩] [] [0, 1, 5, 6, 7]))
  .skip))
  (.reg false [⟨some 32, .mv (.t 5), none⟩,
    ⟨some 33, .mv (.t 0), none⟩,
    ⟨some 34, .mv (.t 7), none⟩,
    ⟨some 35, .iad 1 (.t 33) (.t 34), none⟩,
    ⟨some 36, .ld none (.t 35), none⟩,
    ⟨some 37, .bsl 1 1 [.int .i64 0] [(0, 1, .t 36)], none⟩,
    ⟨some 38, .app 1 8 (.t 32) (.t 37), none⟩,
    ⟨some 5, .mv (.t 38), none⟩] [] [0, 1, 5, 6, 7])))
  (.reg false [⟨some 16, .mv (.t 7), none⟩,
    ⟨some 17, .bin .add (.t 16) (.c (.int .i64 1)), none⟩,
    ⟨some 7, .mv (.t 17), none⟩] [] [0, 1, 5, 6, 7]))))))
  (.seq (.seq (.reg false [⟨some 39, .mv (.t 6), none⟩,
    ⟨some 40, .not (.t 39), none⟩] [] [1, 5, 40])
  (.cond (.t 40)
  (.reg false [⟨some 41, .mv (.t 5), none⟩,
    ⟨some 42, .mv (.t 1), none⟩,
    ⟨some 43, .bsl 1 1 [.int .i64 0] [(0, 1, .t 42)], none⟩,
    ⟨some 44, .app 1 8 (.t 41) (.t 43), none⟩,
    ⟨some 5, .mv (.t 44), none⟩] [] [5])
  .skip))
  (.seq (.reg false [⟨some 45, .mv (.t 5), none⟩,
    ⟨some 4, .mv (.t 45), none⟩] [] [4])
  .ret)))))), [(4, none)]⟩
theorem spec_l6Put_ok : okFn Try.prog 102 spec_l6Put = true := by kernel_rfl
def spec_l1PickInt : IFn := ⟨12, (.seq (.reg false [⟨some 4, .mv (.c (.int .i64 0)), none⟩] [] [0, 1])
  (.seq (.reg false [⟨some 5, .mv (.t 1), none⟩,
    ⟨some 6, .mv (.t 0), none⟩,
    ⟨some 7, .mv (.t 1), none⟩,
    ⟨some 8, .len false (.t 7), none⟩,
    ⟨some 9, .call 86 [.t 6, .t 8], none⟩,
    ⟨some 10, .iad 1 (.t 5) (.t 9), none⟩,
    ⟨some 11, .ld none (.t 10), none⟩,
    ⟨some 4, .mv (.t 11), none⟩] [] [4])
  .ret)), [(4, none)]⟩
theorem spec_l1PickInt_ok : okFn Try.prog 103 spec_l1PickInt = true := by kernel_rfl
def spec_l1Draw : IFn := ⟨19, (.seq (.reg false [⟨some 4, .mv (.c (.int .i64 0)), none⟩] [] [0, 1])
  (.seq (.seq (.reg false [⟨some 5, .mv (.t 1), none⟩,
    ⟨some 6, .bin .gtr (.t 5) (.c (.int .i64 6)), none⟩,
    ⟨some 7, .mv (.t 6), none⟩,
    ⟨some 8, .mv (.t 0), some (7, true)⟩,
    ⟨some 9, .call 85 [.t 8, .c (.int .i64 2)], some (7, true)⟩,
    ⟨some 10, .pick (.t 7) (.t 9) (.c (.bool false)), none⟩] [] [0, 1, 10])
  (.cond (.t 10)
  (.seq (.reg false [⟨some 11, .mv (.t 1), none⟩,
    ⟨some 12, .bin .sub (.t 11) (.c (.int .i64 1)), none⟩,
    ⟨some 13, .mv (.t 0), none⟩,
    ⟨some 14, .call 86 [.t 13, .c (.int .i64 6)], none⟩,
    ⟨some 15, .bin .sub (.t 12) (.t 14), none⟩,
    ⟨some 4, .mv (.t 15), none⟩] [] [4])
  .ret)
  .skip))
  (.seq (.reg false [⟨some 16, .mv (.t 0), none⟩,
    ⟨some 17, .mv (.t 1), none⟩,
    ⟨some 18, .call 86 [.t 16, .t 17], none⟩,
    ⟨some 4, .mv (.t 18), none⟩] [] [4])
  .ret))), [(4, none)]⟩
theorem spec_l1Draw_ok : okFn Try.prog 104 spec_l1Draw = true := by kernel_rfl
def spec_l1Max : IFn := ⟨10, (.seq (.reg false [⟨some 4, .mv (.c (.int .i64 0)), none⟩] [] [0, 1])
  (.seq (.seq (.reg false [⟨some 5, .mv (.t 0), none⟩,
    ⟨some 6, .mv (.t 1), none⟩,
    ⟨some 7, .bin .gtr (.t 5) (.t 6), none⟩] [] [0, 1, 7])
  (.cond (.t 7)
  (.seq (.reg false [⟨some 8, .mv (.t 0), none⟩,
    ⟨some 4, .mv (.t 8), none⟩] [] [4])
  .ret)
  .skip))
  (.seq (.reg false [⟨some 9, .mv (.t 1), none⟩,
    ⟨some 4, .mv (.t 9), none⟩] [] [4])
  .ret))), [(4, none)]⟩
theorem spec_l1Max_ok : okFn Try.prog 105 spec_l1Max = true := by kernel_rfl
def spec_l7All : IFn := ⟨29, (.seq (.reg false [⟨some 2, .box (.t 0), none⟩,
    ⟨some 4, .mv (.c (.nil)), none⟩] [] [1, 2])
  (.seq (.reg false [⟨some 7, .bsl 1 0 [.bool false] [], none⟩,
    ⟨some 5, .mv (.t 7), none⟩] [] [1, 2, 5])
  (.seq (.seq (.reg false [⟨some 6, .mv (.c (.int .i64 0)), none⟩] [] [1, 2, 5, 6])
  (.block 0 (.loop (.seq (.seq (.reg false [⟨some 8, .mv (.t 6), none⟩,
    ⟨some 9, .fad 0 (.t 2), none⟩,
    ⟨some 10, .ld none (.t 9), none⟩,
    ⟨some 11, .len false (.t 10), none⟩,
    ⟨some 12, .bin .lss (.t 8) (.t 11), none⟩] [] [1, 2, 5, 6, 12])
  (.cond (.t 12)
  .skip
  (.exit 0)))
  (.seq (.block 1 (.reg false [⟨some 15, .mv (.t 5), none⟩,
    ⟨some 16, .mv (.t 1), none⟩,
    ⟨some 17, .mv (.t 6), none⟩,
    ⟨some 18, .call 73 [.t 16, .t 17], none⟩,
    ⟨some 19, .mv (.t 18), none⟩,
    ⟨some 20, .ld (some 1) (.t 2), some (19, false)⟩,
    ⟨some 21, .mv (.t 5), some (19, false)⟩,
    ⟨some 22, .mv (.t 6), some (19, false)⟩,
    ⟨some 23, .mv (.t 1), some (19, false)⟩,
    ⟨some 24, .call 111 [.t 20, .t 21, .t 22, .t 23], some (19, false)⟩,
    ⟨some 25, .pick (.t 19) (.c (.bool true)) (.t 24), none⟩,
    ⟨some 26, .bsl 1 1 [.bool false] [(0, 1, .t 25)], none⟩,
    ⟨some 27, .app 1 1 (.t 15) (.t 26), none⟩,
    ⟨some 5, .mv (.t 27), none⟩] [] [1, 2, 5, 6]))
  (.reg false [⟨some 13, .mv (.t 6), none⟩,
    ⟨some 14, .bin .add (.t 13) (.c (.int .i64 1)), none⟩,
    ⟨some 6, .mv (.t 14), none⟩] [] [1, 2, 5, 6]))))))
  (.seq (.reg false [⟨some 28, .mv (.t 5), none⟩,
    ⟨some 4, .mv (.t 28), none⟩] [] [4])
  .ret)))), [(4, none)]⟩
theorem spec_l7All_ok : okFn Try.prog 106 spec_l7All = true := by kernel_rfl
def spec_l1Byte : IFn := ⟨58, (.seq (.reg false [⟨some 2, .mv (.c (.int .i64 0)), none⟩] [] [0])
  (.seq (.reg false [⟨some 4, .mv (.t 0), none⟩,
    ⟨some 5, .mv (.t 0), none⟩,
    ⟨some 6, .nck (.t 5), none⟩,
    ⟨some 7, .fad 2 (.t 6), none⟩,
    ⟨some 8, .ld none (.t 7), none⟩,
    ⟨some 9, .bin .mul (.t 8) (.c (.int .i64 6364136223846793005)), none⟩,
    ⟨some 10, .bin .add (.t 9) (.c (.int .i64 1442695040888963407)), none⟩,
    ⟨some 11, .nck (.t 4), none⟩,
    ⟨some 12, .fad 2 (.t 11), none⟩,
    ⟨none, .st 1 (.t 12) (.t 10), none⟩] [] [0])
  (.seq (.reg true [⟨some 13, .mv (.t 0), none⟩,
    ⟨some 14, .nck (.t 13), none⟩,
    ⟨some 15, .fad 2 (.t 14), none⟩,
    ⟨some 16, .ld none (.t 15), none⟩,
    ⟨some 17, .bin .shr (.t 16) (.c (.int .u64 33)), none⟩,
    ⟨some 18, .mv (.t 0), none⟩,
    ⟨some 19, .nck (.t 18), none⟩,
    ⟨some 20, .fad 2 (.t 19), none⟩,
    ⟨some 21, .ld none (.t 20), none⟩,
    ⟨some 22, .bin .shr (.t 21) (.c (.int .u64 45)), none⟩,
    ⟨some 23, .bin .xor (.t 17) (.t 22), none⟩,
    ⟨some 24, .bin .and (.t 23) (.c (.int .i64 255)), none⟩,
    ⟨some 3, .mv (.t 24), none⟩] [0, 1, 3, 7, 15, 0, 32, 96, 224, 480, 1023, 2047, 4095] [0, 3])
  (.seq (.seq (.reg true [⟨some 25, .mv (.t 0), none⟩,
    ⟨some 26, .nck (.t 25), none⟩,
    ⟨some 27, .fad 1 (.t 26), none⟩,
    ⟨some 28, .ld none (.t 27), none⟩,
    ⟨some 29, .mv (.t 0), none⟩,
    ⟨some 30, .nck (.t 29), none⟩,
    ⟨some 31, .fad 0 (.t 30), none⟩,
    ⟨some 32, .ld none (.t 31), none⟩,
    ⟨some 33, .len false (.t 32), none⟩,
    ⟨some 34, .bin .lss (.t 28) (.t 33), none⟩] [0, 1, 3, 7, 0, 16, 48, 112, 240, 511] [0, 3, 34])
  (.cond (.t 34)
  (.seq (.reg true [⟨some 35, .mv (.t 3), none⟩,
    ⟨some 36, .mv (.t 0), none⟩,
    ⟨some 37, .nck (.t 36), none⟩,
    ⟨some 38, .fad 0 (.t 37), none⟩,
    ⟨some 39, .ld none (.t 38), none⟩,
    ⟨some 40, .mv (.t 0), none⟩,
    ⟨some 41, .nck (.t 40), none⟩,
    ⟨some 42, .fad 1 (.t 41), none⟩,
    ⟨some 43, .ld none (.t 42), none⟩,
    ⟨some 44, .iad 1 (.t 39) (.t 43), none⟩,
    ⟨some 45, .ld none (.t 44), none⟩,
    ⟨some 46, .conv .i64 (.t 45), none⟩,
    ⟨some 47, .bin .add (.t 35) (.t 46), none⟩,
    ⟨some 48, .bin .and (.t 47) (.c (.int .i64 255)), none⟩,
    ⟨some 3, .mv (.t 48), none⟩] [0, 0, 2, 6, 14, 0, 32, 96, 224, 510, 1022, 2046, 4095, 8191, 16383] [0, 3])
  (.reg false [⟨some 49, .mv (.t 0), none⟩,
    ⟨some 50, .mv (.t 0), none⟩,
    ⟨some 51, .nck (.t 50), none⟩,
    ⟨some 52, .fad 1 (.t 51), none⟩,
    ⟨some 53, .ld none (.t 52), none⟩,
    ⟨some 54, .bin .add (.t 53) (.c (.int .i64 1)), none⟩,
    ⟨some 55, .nck (.t 49), none⟩,
    ⟨some 56, .fad 1 (.t 55), none⟩,
    ⟨none, .st 1 (.t 56) (.t 54), none⟩] [] [3]))
  .skip))
  (.seq (.reg false [⟨some 57, .mv (.t 3), none⟩,
    ⟨some 2, .mv (.t 57), none⟩] [] [2])
  .ret))))), [(2, none)]⟩
theorem spec_l1Byte_ok : okFn Try.prog 107 spec_l1Byte = true := by kernel_rfl
def slices_Index_int : IFn := ⟨19, (.seq (.reg false [⟨some 4, .mv (.c (.int .i64 0)), none⟩] [] [0, 1])
  (.seq (.seq (.reg false [⟨some 6, .mv (.t 0), none⟩,
    ⟨some 7, .len false (.t 6), none⟩,
    ⟨some 8, .mv (.c (.int .i64 0)), none⟩] [] [0, 1, 7, 8])
  (.block 0 (.loop (.seq (.reg false [⟨some 9, .bin .lss (.t 8) (.t 7), none⟩] [] [0, 1, 7, 8, 9])
  (.seq (.cond (.t 9)
  .skip
  (.exit 0))
  (.seq (.block 1 (.seq (.reg false [⟨some 10, .mv (.t 8), none⟩,
    ⟨some 5, .mv (.t 10), none⟩] [] [0, 1, 5, 7, 8])
  (.seq (.reg false [⟨some 11, .mv (.t 1), none⟩,
    ⟨some 12, .mv (.t 0), none⟩,
    ⟨some 13, .mv (.t 5), none⟩,
    ⟨some 14, .iad 1 (.t 12) (.t 13), none⟩,
    ⟨some 15, .ld none (.t 14), none⟩,
    ⟨some 16, .bin .eql (.t 11) (.t 15), none⟩] [] [0, 1, 5, 7, 8, 16])
  (.cond (.t 16)
  (.seq (.reg false [⟨some 17, .mv (.t 5), none⟩,
    ⟨some 4, .mv (.t 17), none⟩] [] [4])
  .ret)
  .skip))))
  (.reg false [⟨some 18, .bin .add (.t 8) (.c (.int .i64 1)), none⟩,
    ⟨some 8, .mv (.t 18), none⟩] [] [0, 1, 7, 8])))))))
  (.seq (.reg false [⟨some 4, .mv (.c (.int .i64 (-1))), none⟩] [] [4])
  .ret))), [(4, none)]⟩
theorem slices_Index_int_ok : okFn Try.prog 108 slices_Index_int = true := by kernel_rfl
def impl_prover_has : IFn := ⟨17, (.seq (.reg false [⟨some 4, .mv (.c (.bool false)), none⟩] [] [0, 1])
  (.seq (.reg false [⟨some 5, .mv (.t 1), none⟩,
    ⟨some 6, .bin .geq (.t 5) (.c (.int .i64 0)), none⟩,
    ⟨some 7, .mv (.t 6), none⟩,
    ⟨some 8, .mv (.t 0), some (7, true)⟩,
    ⟨some 9, .nck (.t 8), some (7, true)⟩,
    ⟨some 10, .fad 3 (.t 9), some (7, true)⟩,
    ⟨some 11, .ld none (.t 10), some (7, true)⟩,
    ⟨some 12, .mv (.t 1), some (7, true)⟩,
    ⟨some 13, .iad 1 (.t 11) (.t 12), some (7, true)⟩,
    ⟨some 14, .ld none (.t 13), some (7, true)⟩,
    ⟨some 15, .bin .geq (.t 14) (.c (.int .i64 0)), some (7, true)⟩,
    ⟨some 16, .pick (.t 7) (.t 15) (.c (.bool false)), none⟩,
    ⟨some 4, .mv (.t 16), none⟩] [] [4])
  .ret)), [(4, none)]⟩
theorem impl_prover_has_ok : okFn Try.prog 109 impl_prover_has = true := by kernel_rfl
def impl_Pool_find : IFn := ⟨11, (.seq (.reg false [⟨some 3, .box (.t 1), none⟩,
    ⟨some 4, .mv (.c (.int .i64 0)), none⟩] [] [0, 3])
  (.seq (.reg true [⟨some 5, .mv (.t 0), none⟩,
    ⟨some 6, .nck (.t 5), none⟩,
    ⟨some 7, .fad 0 (.t 6), none⟩,
    ⟨some 8, .ld none (.t 7), none⟩,
    ⟨some 9, .ld (some 3) (.t 3), none⟩,
    ⟨some 10, .call 112 [.t 8, .t 9], none⟩,
    ⟨some 4, .mv (.t 10), none⟩] [0, 1, 3, 7, 0, 31, 63] [4])
  .ret)), [(4, none)]⟩
theorem impl_Pool_find_ok : okFn Try.prog 110 impl_Pool_find = true := by kernel_rfl
def spec_l7Made : IFn := ⟨77, (.seq (.reg false [⟨some 4, .box (.t 0), none⟩,
    ⟨some 8, .mv (.c (.bool false)), none⟩] [] [1, 2, 3, 4])
  (.seq (.reg false [⟨some 10, .fad 0 (.t 4), none⟩,
    ⟨some 11, .ld none (.t 10), none⟩,
    ⟨some 12, .mv (.t 2), none⟩,
    ⟨some 13, .iad 3 (.t 11) (.t 12), none⟩,
    ⟨some 14, .ld (some 3) (.t 13), none⟩,
    ⟨some 9, .new [.int .i64 0, .int .i64 0, .int .i64 0], none⟩,
    ⟨none, .st 3 (.t 9) (.t 14), none⟩] [] [1, 3, 4, 9])
  (.seq (.block 0 (.seq (.reg false [⟨some 16, .fad 0 (.t 9), none⟩,
    ⟨some 17, .ld none (.t 16), none⟩,
    ⟨some 18, .bin .eql (.t 17) (.c (.int .i64 1)), none⟩,
    ⟨some 15, .mv (.t 18), none⟩] [] [1, 3, 4, 9, 15])
  (.cond (.t 15)
  (.seq (.reg false [⟨some 19, .fad 1 (.t 9), none⟩,
    ⟨some 20, .ld none (.t 19), none⟩,
    ⟨some 21, .call 74 [.t 20], none⟩,
    ⟨some 8, .mv (.t 21), none⟩] [] [8])
  .ret)
  (.seq (.reg false [⟨some 23, .fad 0 (.t 9), none⟩,
    ⟨some 24, .ld none (.t 23), none⟩,
    ⟨some 25, .call 63 [.t 24], none⟩,
    ⟨some 26, .bin .eql (.t 25) (.c (.int .i64 1)), none⟩,
    ⟨some 22, .mv (.t 26), none⟩] [] [1, 3, 4, 9, 22])
  (.cond (.t 22)
  (.seq (.reg false [⟨some 27, .mv (.t 1), none⟩,
    ⟨some 28, .fad 1 (.t 9), none⟩,
    ⟨some 29, .ld none (.t 28), none⟩,
    ⟨some 30, .iad 1 (.t 27) (.t 29), none⟩,
    ⟨some 31, .ld none (.t 30), none⟩,
    ⟨some 8, .mv (.t 31), none⟩] [] [8])
  .ret)
  (.seq (.reg false [⟨some 33, .mv (.t 1), none⟩,
    ⟨some 34, .fad 1 (.t 9), none⟩,
    ⟨some 35, .ld none (.t 34), none⟩,
    ⟨some 36, .iad 1 (.t 33) (.t 35), none⟩,
    ⟨some 37, .ld none (.t 36), none⟩,
    ⟨some 38, .mv (.t 37), none⟩,
    ⟨some 39, .mv (.t 1), some (38, true)⟩,
    ⟨some 40, .fad 2 (.t 9), some (38, true)⟩,
    ⟨some 41, .ld none (.t 40), some (38, true)⟩,
    ⟨some 42, .iad 1 (.t 39) (.t 41), some (38, true)⟩,
    ⟨some 43, .ld none (.t 42), some (38, true)⟩,
    ⟨some 44, .pick (.t 38) (.t 43) (.c (.bool false)), none⟩,
    ⟨some 32, .mv (.t 44), none⟩] [] [1, 3, 4, 9, 32])
  (.cond (.t 32)
  (.seq (.reg false [⟨some 8, .mv (.c (.bool true)), none⟩] [] [8])
  .ret)
  (.seq (.reg false [⟨some 46, .fad 0 (.t 9), none⟩,
    ⟨some 47, .ld none (.t 46), none⟩,
    ⟨some 48, .bin .eql (.t 47) (.c (.int .i64 8)), none⟩,
    ⟨some 45, .mv (.t 48), none⟩] [] [1, 3, 4, 9, 45])
  (.cond (.t 45)
  (.seq (.reg false [⟨some 49, .mv (.t 1), none⟩,
    ⟨some 50, .fad 1 (.t 9), none⟩,
    ⟨some 51, .ld none (.t 50), none⟩,
    ⟨some 52, .iad 1 (.t 49) (.t 51), none⟩,
    ⟨some 53, .ld none (.t 52), none⟩,
    ⟨some 54, .mv (.t 53), none⟩,
    ⟨some 55, .ld (some 1) (.t 4), some (54, true)⟩,
    ⟨some 56, .mv (.t 1), some (54, true)⟩,
    ⟨some 57, .mv (.t 3), some (54, true)⟩,
    ⟨some 58, .fad 2 (.t 9), some (54, true)⟩,
    ⟨some 59, .ld none (.t 58), some (54, true)⟩,
    ⟨some 60, .call 113 [.t 55, .t 56, .t 57, .t 59], some (54, true)⟩,
    ⟨some 61, .pick (.t 54) (.t 60) (.c (.bool false)), none⟩,
    ⟨some 62, .mv (.t 61), none⟩,
    ⟨some 63, .mv (.t 1), some (62, false)⟩,
    ⟨some 64, .fad 2 (.t 9), some (62, false)⟩,
    ⟨some 65, .ld none (.t 64), some (62, false)⟩,
    ⟨some 66, .iad 1 (.t 63) (.t 65), some (62, false)⟩,
    ⟨some 67, .ld none (.t 66), some (62, false)⟩,
    ⟨some 68, .mv (.t 67), some (62, false)⟩,
    ⟨some 69, .ld (some 1) (.t 4), some (68, true)⟩,
    ⟨some 70, .mv (.t 1), some (68, true)⟩,
    ⟨some 71, .mv (.t 3), some (68, true)⟩,
    ⟨some 72, .fad 1 (.t 9), some (68, true)⟩,
    ⟨some 73, .ld none (.t 72), some (68, true)⟩,
    ⟨some 74, .call 113 [.t 69, .t 70, .t 71, .t 73], some (68, true)⟩,
    ⟨some 75, .pick (.t 68) (.t 74) (.c (.bool false)), some (62, false)⟩,
    ⟨some 76, .pick (.t 62) (.c (.bool true)) (.t 75), none⟩,
    ⟨some 8, .mv (.t 76), none⟩] [] [8])
  .ret)
  .skip)))))))))
  (.seq (.reg false [⟨some 8, .mv (.c (.bool false)), none⟩] [] [8])
  .ret)))), [(8, none)]⟩
theorem spec_l7Made_ok : okFn Try.prog 111 spec_l7Made = true := by kernel_rfl
def slices_Index_Node : IFn := ⟨19, (.seq (.reg false [⟨some 3, .box (.t 1), none⟩,
    ⟨some 4, .mv (.c (.int .i64 0)), none⟩] [] [0, 3])
  (.seq (.seq (.reg false [⟨some 6, .mv (.t 0), none⟩,
    ⟨some 7, .len false (.t 6), none⟩,
    ⟨some 8, .mv (.c (.int .i64 0)), none⟩] [] [0, 3, 7, 8])
  (.block 0 (.loop (.seq (.reg false [⟨some 9, .bin .lss (.t 8) (.t 7), none⟩] [] [0, 3, 7, 8, 9])
  (.seq (.cond (.t 9)
  .skip
  (.exit 0))
  (.seq (.block 1 (.seq (.reg false [⟨some 10, .mv (.t 8), none⟩,
    ⟨some 5, .mv (.t 10), none⟩] [] [0, 3, 5, 7, 8])
  (.seq (.reg true [⟨some 11, .ld (some 3) (.t 3), none⟩,
    ⟨some 12, .mv (.t 0), none⟩,
    ⟨some 13, .mv (.t 5), none⟩,
    ⟨some 14, .iad 3 (.t 12) (.t 13), none⟩,
    ⟨some 15, .ld (some 3) (.t 14), none⟩,
    ⟨some 16, .eqs false [1, 1, 1] (.t 11) (.t 15), none⟩] [0, 0, 0, 6, 14, 31] [0, 3, 5, 7, 8, 16])
  (.cond (.t 16)
  (.seq (.reg false [⟨some 17, .mv (.t 5), none⟩,
    ⟨some 4, .mv (.t 17), none⟩] [] [4])
  .ret)
  .skip))))
  (.reg false [⟨some 18, .bin .add (.t 8) (.c (.int .i64 1)), none⟩,
    ⟨some 8, .mv (.t 18), none⟩] [] [0, 3, 7, 8])))))))
  (.seq (.reg false [⟨some 4, .mv (.c (.int .i64 (-1))), none⟩] [] [4])
  .ret))), [(4, none)]⟩
theorem slices_Index_Node_ok : okFn Try.prog 112 slices_Index_Node = true := by kernel_rfl
def spec_l7Power : IFn := ⟨27, (.seq (.reg false [⟨some 4, .box (.t 0), none⟩,
    ⟨some 8, .mv (.c (.bool false)), none⟩] [] [1, 2, 3, 4])
  (.seq (.reg false [⟨some 10, .ld (some 1) (.t 4), none⟩,
    ⟨some 11, .mv (.t 3), none⟩,
    ⟨some 12, .build [.int .i64 0, .int .i64 0, .int .i64 0] [(0, 1, .c (.int .i64 7)), (1, 1, .t 11)], none⟩,
    ⟨some 13, .call 89 [.t 10, .t 12], none⟩,
    ⟨some 9, .mv (.t 13), none⟩] [] [1, 2, 3, 9])
  (.seq (.reg false [⟨some 14, .mv (.t 9), none⟩,
    ⟨some 15, .bin .geq (.t 14) (.c (.int .i64 0)), none⟩,
    ⟨some 16, .mv (.t 15), none⟩,
    ⟨some 17, .mv (.t 1), some (16, true)⟩,
    ⟨some 18, .mv (.t 3), some (16, true)⟩,
    ⟨some 19, .iad 1 (.t 17) (.t 18), some (16, true)⟩,
    ⟨some 20, .ld none (.t 19), some (16, true)⟩,
    ⟨some 21, .mv (.t 20), some (16, true)⟩,
    ⟨some 22, .mv (.t 2), some (21, false)⟩,
    ⟨some 23, .mv (.t 9), some (21, false)⟩,
    ⟨some 24, .call 73 [.t 22, .t 23], some (21, false)⟩,
    ⟨some 25, .pick (.t 21) (.c (.bool true)) (.t 24), some (16, true)⟩,
    ⟨some 26, .pick (.t 16) (.t 25) (.c (.bool false)), none⟩,
    ⟨some 8, .mv (.t 26), none⟩] [] [8])
  .ret))), [(8, none)]⟩
theorem spec_l7Power_ok : okFn Try.prog 113 spec_l7Power = true := by kernel_rfl
end Go.Proofs.Ytcfgiffgahdlbaa.I
