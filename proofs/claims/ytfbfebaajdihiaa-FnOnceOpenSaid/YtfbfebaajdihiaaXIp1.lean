/- The functions of this seat told by trees. Printed by a program of this repository (mkir.py). Conditions: none. -/
import Derived.Test.YtfbfebaajdihiaaXSymQ
import Derived.Test.YtfbfebaajdihiaaProg
import Derived.KernelRfl
set_option maxRecDepth 100000
set_option linter.unusedVariables false
namespace Go.Proofs.Ytfbfebaajdihiaa.I
open Go.Sym
def slices_siftDownOrdered_int : IFn := ⟨76, (.seq (.reg false [⟨some 10, .mv (.t 1), none⟩,
    ⟨some 8, .mv (.t 10), none⟩] [] [0, 2, 3, 8])
  (.block 0 (.loop (.block 1 (.seq (.reg false [⟨some 11, .mv (.t 8), none⟩,
    ⟨some 12, .bin .mul (.c (.int .i64 2)) (.t 11), none⟩,
    ⟨some 13, .bin .add (.t 12) (.c (.int .i64 1)), none⟩,
    ⟨some 9, .mv (.t 13), none⟩] [] [0, 2, 3, 8, 9])
  (.seq (.seq (.reg false [⟨some 14, .mv (.t 9), none⟩,
    ⟨some 15, .mv (.t 2), none⟩,
    ⟨some 16, .bin .geq (.t 14) (.t 15), none⟩] [] [0, 2, 3, 8, 9, 16])
  (.cond (.t 16)
  (.exit 0)
  .skip))
  (.seq (.seq (.reg true [⟨some 17, .mv (.t 9), none⟩,
    ⟨some 18, .bin .add (.t 17) (.c (.int .i64 1)), none⟩,
    ⟨some 19, .mv (.t 2), none⟩,
    ⟨some 20, .bin .lss (.t 18) (.t 19), none⟩,
    ⟨some 21, .mv (.t 20), none⟩,
    ⟨some 22, .mv (.t 0), some (21, true)⟩,
    ⟨some 23, .mv (.t 3), some (21, true)⟩,
    ⟨some 24, .mv (.t 9), some (21, true)⟩,
    ⟨some 25, .bin .add (.t 23) (.t 24), some (21, true)⟩,
    ⟨some 26, .iad 1 (.t 22) (.t 25), some (21, true)⟩,
    ⟨some 27, .ld none (.t 26), some (21, true)⟩,
    ⟨some 28, .mv (.t 0), some (21, true)⟩,
    ⟨some 29, .mv (.t 3), some (21, true)⟩,
    ⟨some 30, .mv (.t 9), some (21, true)⟩,
    ⟨some 31, .bin .add (.t 29) (.t 30), some (21, true)⟩,
    ⟨some 32, .bin .add (.t 31) (.c (.int .i64 1)), some (21, true)⟩,
    ⟨some 33, .iad 1 (.t 28) (.t 32), some (21, true)⟩,
    ⟨some 34, .ld none (.t 33), some (21, true)⟩,
    ⟨some 35, .call 113 [.t 27, .t 34], some (21, true)⟩,
    ⟨some 36, .pick (.t 21) (.t 35) (.c (.bool false)), none⟩] [0, 1, 0, 7, 15, 31, 31, 31, 223, 511, 1023, 31, 31, 31, 12319, 28703, 63519, 129055, 262143, 524287] [0, 2, 3, 8, 9, 36])
  (.cond (.t 36)
  (.reg false [⟨some 37, .mv (.t 9), none⟩,
    ⟨some 38, .bin .add (.t 37) (.c (.int .i64 1)), none⟩,
    ⟨some 9, .mv (.t 38), none⟩] [] [0, 2, 3, 8, 9])
  .skip))
  (.seq (.seq (.reg true [⟨some 39, .mv (.t 0), none⟩,
    ⟨some 40, .mv (.t 3), none⟩,
    ⟨some 41, .mv (.t 8), none⟩,
    ⟨some 42, .bin .add (.t 40) (.t 41), none⟩,
    ⟨some 43, .iad 1 (.t 39) (.t 42), none⟩,
    ⟨some 44, .ld none (.t 43), none⟩,
    ⟨some 45, .mv (.t 0), none⟩,
    ⟨some 46, .mv (.t 3), none⟩,
    ⟨some 47, .mv (.t 9), none⟩,
    ⟨some 48, .bin .add (.t 46) (.t 47), none⟩,
    ⟨some 49, .iad 1 (.t 45) (.t 48), none⟩,
    ⟨some 50, .ld none (.t 49), none⟩,
    ⟨some 51, .call 113 [.t 44, .t 50], none⟩,
    ⟨some 52, .not (.t 51), none⟩] [0, 0, 0, 6, 15, 31, 0, 0, 0, 384, 960, 1984, 4095, 8191] [0, 2, 3, 8, 9, 52])
  (.cond (.t 52)
  .ret
  .skip))
  (.seq (.reg true [⟨some 53, .mv (.t 0), none⟩,
    ⟨some 54, .mv (.t 3), none⟩,
    ⟨some 55, .mv (.t 8), none⟩,
    ⟨some 56, .bin .add (.t 54) (.t 55), none⟩,
    ⟨some 57, .mv (.t 0), none⟩,
    ⟨some 58, .mv (.t 3), none⟩,
    ⟨some 59, .mv (.t 9), none⟩,
    ⟨some 60, .bin .add (.t 58) (.t 59), none⟩,
    ⟨some 61, .mv (.t 0), none⟩,
    ⟨some 62, .mv (.t 3), none⟩,
    ⟨some 63, .mv (.t 9), none⟩,
    ⟨some 64, .bin .add (.t 62) (.t 63), none⟩,
    ⟨some 65, .iad 1 (.t 61) (.t 64), none⟩,
    ⟨some 66, .ld none (.t 65), none⟩,
    ⟨some 67, .mv (.t 0), none⟩,
    ⟨some 68, .mv (.t 3), none⟩,
    ⟨some 69, .mv (.t 8), none⟩,
    ⟨some 70, .bin .add (.t 68) (.t 69), none⟩,
    ⟨some 71, .iad 1 (.t 67) (.t 70), none⟩,
    ⟨some 72, .ld none (.t 71), none⟩,
    ⟨some 73, .iad 1 (.t 53) (.t 56), none⟩,
    ⟨none, .st 1 (.t 73) (.t 66), none⟩,
    ⟨some 74, .iad 1 (.t 57) (.t 60), none⟩,
    ⟨none, .st 1 (.t 74) (.t 72), none⟩] [0, 0, 0, 6, 0, 0, 0, 96, 0, 0, 0, 1536, 3840, 7936, 0, 0, 0, 98304, 245760, 507904, 1048335, 2096911, 4194303, 8388607] [0, 2, 3, 9])
  (.reg false [⟨some 75, .mv (.t 9), none⟩,
    ⟨some 8, .mv (.t 75), none⟩] [] [0, 2, 3, 8])))))))))), []⟩
theorem slices_siftDownOrdered_int_ok : okFn Try.prog 137 slices_siftDownOrdered_int = true := by kernel_rfl
def slices_nextPowerOfTwo : IFn := ⟨7, (.seq (.reg false [⟨some 2, .mv (.c (.int .u64 0)), none⟩] [] [0])
  (.seq (.reg false [⟨some 3, .mv (.t 0), none⟩,
    ⟨some 4, .conv .u64 (.t 3), none⟩,
    ⟨some 5, .call 99 [.t 4], none⟩,
    ⟨some 6, .bin .shl (.c (.int .u64 1)) (.t 5), none⟩,
    ⟨some 2, .mv (.t 6), none⟩] [] [2])
  .ret)), [(2, none)]⟩
theorem slices_nextPowerOfTwo_ok : okFn Try.prog 138 slices_nextPowerOfTwo = true := by kernel_rfl
def slices_medianAdjacentOrdered_int : IFn := ⟨15, (.seq (.reg false [⟨some 6, .mv (.c (.int .i64 0)), none⟩] [] [0, 1, 2])
  (.seq (.reg false [⟨some 7, .mv (.t 0), none⟩,
    ⟨some 8, .mv (.t 1), none⟩,
    ⟨some 9, .bin .sub (.t 8) (.c (.int .i64 1)), none⟩,
    ⟨some 10, .mv (.t 1), none⟩,
    ⟨some 11, .mv (.t 1), none⟩,
    ⟨some 12, .bin .add (.t 11) (.c (.int .i64 1)), none⟩,
    ⟨some 13, .mv (.t 2), none⟩,
    ⟨some 14, .call 141 [.t 7, .t 9, .t 10, .t 12, .t 13], none⟩,
    ⟨some 6, .mv (.t 14), none⟩] [] [6])
  .ret)), [(6, none)]⟩
theorem slices_medianAdjacentOrdered_int_ok : okFn Try.prog 140 slices_medianAdjacentOrdered_int = true := by kernel_rfl
def slices_medianOrdered_int : IFn := ⟨36, (.seq (.reg false [⟨some 10, .mv (.c (.int .i64 0)), none⟩] [] [0, 1, 2, 3, 4])
  (.seq (.reg false [⟨some 12, .mv (.t 0), none⟩,
    ⟨some 13, .mv (.t 1), none⟩,
    ⟨some 14, .mv (.t 2), none⟩,
    ⟨some 15, .mv (.t 4), none⟩,
    ⟨some 16, .call 142 [.t 12, .t 13, .t 14, .t 15], none⟩,
    ⟨some 11, .mv (.t 16), none⟩,
    ⟨some 17, .ext (.t 11) 0, none⟩,
    ⟨some 18, .ext (.t 11) 1, none⟩,
    ⟨some 1, .mv (.t 17), none⟩,
    ⟨some 2, .mv (.t 18), none⟩] [] [0, 1, 2, 3, 4])
  (.seq (.reg false [⟨some 20, .mv (.t 0), none⟩,
    ⟨some 21, .mv (.t 2), none⟩,
    ⟨some 22, .mv (.t 3), none⟩,
    ⟨some 23, .mv (.t 4), none⟩,
    ⟨some 24, .call 142 [.t 20, .t 21, .t 22, .t 23], none⟩,
    ⟨some 19, .mv (.t 24), none⟩,
    ⟨some 25, .ext (.t 19) 0, none⟩,
    ⟨some 26, .ext (.t 19) 1, none⟩,
    ⟨some 2, .mv (.t 25), none⟩,
    ⟨some 3, .mv (.t 26), none⟩] [] [0, 1, 2, 4])
  (.seq (.reg false [⟨some 28, .mv (.t 0), none⟩,
    ⟨some 29, .mv (.t 1), none⟩,
    ⟨some 30, .mv (.t 2), none⟩,
    ⟨some 31, .mv (.t 4), none⟩,
    ⟨some 32, .call 142 [.t 28, .t 29, .t 30, .t 31], none⟩,
    ⟨some 27, .mv (.t 32), none⟩,
    ⟨some 33, .ext (.t 27) 0, none⟩,
    ⟨some 34, .ext (.t 27) 1, none⟩,
    ⟨some 1, .mv (.t 33), none⟩,
    ⟨some 2, .mv (.t 34), none⟩] [] [2])
  (.seq (.reg false [⟨some 35, .mv (.t 2), none⟩,
    ⟨some 10, .mv (.t 35), none⟩] [] [10])
  .ret))))), [(10, none)]⟩
theorem slices_medianOrdered_int_ok : okFn Try.prog 141 slices_medianOrdered_int = true := by kernel_rfl
def slices_order2Ordered_int : IFn := ⟨28, (.seq (.reg false [⟨some 8, .mv (.c (.int .i64 0)), none⟩,
    ⟨some 9, .mv (.c (.int .i64 0)), none⟩] [] [0, 1, 2, 3])
  (.seq (.seq (.reg true [⟨some 10, .mv (.t 0), none⟩,
    ⟨some 11, .mv (.t 2), none⟩,
    ⟨some 12, .iad 1 (.t 10) (.t 11), none⟩,
    ⟨some 13, .ld none (.t 12), none⟩,
    ⟨some 14, .mv (.t 0), none⟩,
    ⟨some 15, .mv (.t 1), none⟩,
    ⟨some 16, .iad 1 (.t 14) (.t 15), none⟩,
    ⟨some 17, .ld none (.t 16), none⟩,
    ⟨some 18, .call 113 [.t 13, .t 17], none⟩] [0, 0, 3, 7, 0, 0, 48, 112, 255] [1, 2, 3, 18])
  (.cond (.t 18)
  (.seq (.reg false [⟨some 19, .mv (.t 3), none⟩,
    ⟨some 20, .nck (.t 19), none⟩,
    ⟨some 21, .ld none (.t 20), none⟩,
    ⟨some 22, .bin .add (.t 21) (.c (.int .i64 1)), none⟩,
    ⟨some 23, .nck (.t 19), none⟩,
    ⟨none, .st 1 (.t 23) (.t 22), none⟩] [] [1, 2])
  (.seq (.reg false [⟨some 24, .mv (.t 2), none⟩,
    ⟨some 25, .mv (.t 1), none⟩,
    ⟨some 8, .mv (.t 24), none⟩,
    ⟨some 9, .mv (.t 25), none⟩] [] [8, 9])
  .ret))
  .skip))
  (.seq (.reg false [⟨some 26, .mv (.t 1), none⟩,
    ⟨some 27, .mv (.t 2), none⟩,
    ⟨some 8, .mv (.t 26), none⟩,
    ⟨some 9, .mv (.t 27), none⟩] [] [8, 9])
  .ret))), [(8, none), (9, none)]⟩
theorem slices_order2Ordered_int_ok : okFn Try.prog 142 slices_order2Ordered_int = true := by kernel_rfl
end Go.Proofs.Ytfbfebaajdihiaa.I
