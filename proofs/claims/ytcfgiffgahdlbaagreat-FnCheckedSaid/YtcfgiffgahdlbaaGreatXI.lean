/- The functions of this seat told by trees. Printed by a program of this repository (mkir.py). Conditions: none. -/
import Derived.Test.YtcfgiffgahdlbaaGreatXSymQ
import Derived.Test.YtcfgiffgahdlbaaGreatProg
import Derived.KernelRfl
set_option maxRecDepth 100000
set_option linter.unusedVariables false
namespace Go.Proofs.YtcfgiffgahdlbaaGreat.I
open Go.Sym
def laws_FnChecked : IFn := ⟨56, (.seq (.reg false [⟨some 2, .mv (.c (.bool false)), none⟩] [] [0])
  (.seq (.seq (.reg false [⟨some 9, .mv (.t 0), none⟩,
    ⟨some 10, .call 5 [.t 9], none⟩] [] [0, 10])
  (.cond (.t 10)
  (.seq (.reg false [⟨some 2, .mv (.c (.bool true)), none⟩] [] [2])
  .ret)
  .skip))
  (.seq (.reg false [⟨some 12, .mv (.t 0), none⟩,
    ⟨some 13, .call 11 [.t 12], none⟩,
    ⟨some 11, .mv (.t 13), none⟩,
    ⟨some 14, .ext (.t 11) 0, none⟩,
    ⟨some 15, .ext (.t 11) 1, none⟩,
    ⟨some 16, .ext (.t 11) 2, none⟩,
    ⟨some 17, .ext (.t 11) 3, none⟩,
    ⟨some 3, .new [.nil], none⟩,
    ⟨none, .st 1 (.t 3) (.t 14), none⟩,
    ⟨some 4, .mv (.t 15), none⟩,
    ⟨some 5, .mv (.t 16), none⟩,
    ⟨some 6, .mv (.t 17), none⟩] [] [3, 4, 5, 6])
  (.seq (.reg false [⟨some 18, .ld (some 1) (.t 3), none⟩,
    ⟨some 19, .mv (.t 4), none⟩,
    ⟨some 20, .mv (.t 5), none⟩,
    ⟨some 21, .mv (.t 6), none⟩,
    ⟨some 22, .call 10 [.t 18, .t 19, .t 20, .t 21], none⟩,
    ⟨some 7, .mv (.t 22), none⟩] [] [3, 4, 5, 6, 7])
  (.seq (.seq (.reg false [⟨some 23, .mv (.t 7), none⟩,
    ⟨some 24, .ld (some 1) (.t 3), none⟩,
    ⟨some 25, .mv (.t 4), none⟩,
    ⟨some 26, .mv (.t 5), none⟩,
    ⟨some 27, .mv (.t 6), none⟩,
    ⟨some 28, .call 12 [.t 24, .t 25, .t 26, .t 27], none⟩,
    ⟨some 29, .eqb true (.t 23) (.t 28), none⟩] [] [3, 4, 5, 6, 7, 29])
  (.cond (.t 29)
  (.seq (.reg false [⟨some 2, .mv (.c (.bool false)), none⟩] [] [2])
  .ret)
  .skip))
  (.seq (.seq (.reg false [⟨some 30, .mv (.t 7), none⟩,
    ⟨some 31, .not (.t 30), none⟩] [] [3, 4, 5, 6, 31])
  (.cond (.t 31)
  (.seq (.reg false [⟨some 2, .mv (.c (.bool true)), none⟩] [] [2])
  .ret)
  .skip))
  (.seq (.seq (.reg false [⟨some 8, .mv (.c (.int .i64 0)), none⟩] [] [3, 4, 5, 6, 8])
  (.block 0 (.loop (.seq (.seq (.reg false [⟨some 32, .mv (.t 8), none⟩,
    ⟨some 33, .mv (.t 5), none⟩,
    ⟨some 34, .len false (.t 33), none⟩,
    ⟨some 35, .bin .lss (.t 32) (.t 34), none⟩] [] [3, 4, 5, 6, 8, 35])
  (.cond (.t 35)
  .skip
  (.exit 0)))
  (.seq (.block 1 (.seq (.reg true [⟨some 38, .ld (some 1) (.t 3), none⟩,
    ⟨some 39, .mv (.t 4), none⟩,
    ⟨some 40, .mv (.t 5), none⟩,
    ⟨some 41, .mv (.t 8), none⟩,
    ⟨some 42, .iad 4 (.t 40) (.t 41), none⟩,
    ⟨some 43, .fad 1 (.t 42), none⟩,
    ⟨some 44, .ld none (.t 43), none⟩,
    ⟨some 45, .call 9 [.t 38, .t 39, .t 44], none⟩,
    ⟨some 46, .not (.t 45), none⟩] [0, 0, 0, 0, 12, 28, 60, 127, 255] [3, 4, 5, 6, 8, 46])
  (.cond (.t 46)
  (.seq (.reg false [⟨some 2, .mv (.c (.bool false)), none⟩] [] [2])
  .ret)
  .skip)))
  (.reg false [⟨some 36, .mv (.t 8), none⟩,
    ⟨some 37, .bin .add (.t 36) (.c (.int .i64 1)), none⟩,
    ⟨some 8, .mv (.t 37), none⟩] [] [3, 4, 5, 6, 8]))))))
  (.seq (.reg false [⟨some 47, .mv (.t 5), none⟩,
    ⟨some 48, .mv (.t 5), none⟩,
    ⟨some 49, .len false (.t 48), none⟩,
    ⟨some 50, .bin .sub (.t 49) (.c (.int .i64 1)), none⟩,
    ⟨some 51, .iad 4 (.t 47) (.t 50), none⟩,
    ⟨some 52, .fad 1 (.t 51), none⟩,
    ⟨some 53, .ld none (.t 52), none⟩,
    ⟨some 54, .mv (.t 6), none⟩,
    ⟨some 55, .bin .eql (.t 53) (.t 54), none⟩,
    ⟨some 2, .mv (.t 55), none⟩] [] [2])
  .ret)))))))), [(2, none)]⟩
theorem laws_FnChecked_ok : okFn Tryz.prog 4 laws_FnChecked = true := by kernel_rfl
def laws_big : IFn := ⟨6, (.seq (.reg false [⟨some 2, .mv (.c (.bool false)), none⟩] [] [0])
  (.seq (.reg false [⟨some 3, .mv (.t 0), none⟩,
    ⟨some 4, .len false (.t 3), none⟩,
    ⟨some 5, .bin .gtr (.t 4) (.c (.int .i64 1048576)), none⟩,
    ⟨some 2, .mv (.t 5), none⟩] [] [2])
  .ret)), [(2, none)]⟩
theorem laws_big_ok : okFn Tryz.prog 5 laws_big = true := by kernel_rfl
def spec_DrawProofOf : IFn := ⟨19, (.seq (.reg false [⟨some 2, .new [.nil], none⟩,
    ⟨some 3, .mv (.c (.nil)), none⟩,
    ⟨some 4, .mv (.c (.int .i64 0)), none⟩] [] [0, 2])
  (.seq (.reg false [⟨some 10, .mv (.t 0), none⟩,
    ⟨some 11, .call 13 [.t 10], none⟩,
    ⟨some 9, .mv (.t 11), none⟩,
    ⟨some 12, .ext (.t 9) 0, none⟩,
    ⟨some 13, .ext (.t 9) 1, none⟩,
    ⟨some 14, .ext (.t 9) 2, none⟩,
    ⟨some 15, .ext (.t 9) 3, none⟩,
    ⟨some 5, .new [.nil], none⟩,
    ⟨none, .st 1 (.t 5) (.t 12), none⟩,
    ⟨some 6, .mv (.t 13), none⟩,
    ⟨some 7, .mv (.t 14), none⟩,
    ⟨some 8, .mv (.t 15), none⟩] [] [2, 5, 6, 8])
  (.seq (.reg false [⟨some 16, .ld (some 1) (.t 5), none⟩,
    ⟨some 17, .mv (.t 6), none⟩,
    ⟨some 18, .mv (.t 8), none⟩,
    ⟨none, .st 1 (.t 2) (.t 16), none⟩,
    ⟨some 3, .mv (.t 17), none⟩,
    ⟨some 4, .mv (.t 18), none⟩] [] [2, 3, 4])
  .ret))), [(2, some (some 1)), (3, none), (4, none)]⟩
theorem spec_DrawProofOf_ok : okFn Tryz.prog 6 spec_DrawProofOf = true := by kernel_rfl
def impl_ProofOf : IFn := ⟨23, (.seq (.reg false [⟨some 3, .box (.t 0), none⟩,
    ⟨some 5, .box (.t 2), none⟩,
    ⟨some 6, .mv (.c (.nil)), none⟩,
    ⟨some 7, .mv (.c (.bool false)), none⟩] [] [1, 3, 5])
  (.seq (.reg false [⟨some 10, .ld (some 1) (.t 3), none⟩,
    ⟨some 11, .mv (.t 1), none⟩,
    ⟨some 12, .call 14 [.t 10, .t 11], none⟩,
    ⟨some 8, .mv (.t 12), none⟩] [] [3, 5, 8])
  (.seq (.reg false [⟨some 13, .mv (.t 8), none⟩,
    ⟨some 14, .mkf 16 [.t 5], none⟩,
    ⟨some 15, .call 15 [.t 13, .t 14], none⟩,
    ⟨some 9, .mv (.t 15), none⟩] [] [3, 8, 9])
  (.seq (.seq (.reg false [⟨some 16, .mv (.t 9), none⟩,
    ⟨some 17, .bin .lss (.t 16) (.c (.int .i64 0)), none⟩] [] [3, 8, 9, 17])
  (.cond (.t 17)
  (.seq (.reg false [⟨some 6, .mv (.c (.nil)), none⟩,
    ⟨some 7, .mv (.c (.bool false)), none⟩] [] [6, 7])
  .ret)
  .skip))
  (.seq (.reg false [⟨some 18, .mv (.t 8), none⟩,
    ⟨some 19, .mv (.t 9), none⟩,
    ⟨some 20, .bin .add (.t 19) (.c (.int .i64 1)), none⟩,
    ⟨some 21, .slc 4 (.t 18) none (some (.t 20)) none, none⟩,
    ⟨some 22, .call 17 [.t 3, .t 21], none⟩,
    ⟨some 6, .mv (.t 22), none⟩,
    ⟨some 7, .mv (.c (.bool true)), none⟩] [] [6, 7])
  .ret))))), [(6, none), (7, none)]⟩
theorem impl_ProofOf_ok : okFn Tryz.prog 7 impl_ProofOf = true := by kernel_rfl
def spec_ProofOf : IFn := ⟨33, (.seq (.reg false [⟨some 3, .box (.t 0), none⟩,
    ⟨some 6, .mv (.c (.nil)), none⟩,
    ⟨some 7, .mv (.c (.bool false)), none⟩] [] [1, 2, 3])
  (.seq (.reg false [⟨some 10, .ld (some 1) (.t 3), none⟩,
    ⟨some 11, .mv (.t 1), none⟩,
    ⟨some 12, .call 18 [.t 10, .t 11], none⟩,
    ⟨some 8, .mv (.t 12), none⟩] [] [2, 3, 8])
  (.seq (.seq (.reg false [⟨some 9, .mv (.c (.int .i64 0)), none⟩] [] [2, 3, 8, 9])
  (.block 0 (.loop (.seq (.seq (.reg false [⟨some 13, .mv (.t 9), none⟩,
    ⟨some 14, .mv (.t 8), none⟩,
    ⟨some 15, .len false (.t 14), none⟩,
    ⟨some 16, .bin .lss (.t 13) (.t 15), none⟩] [] [2, 3, 8, 9, 16])
  (.cond (.t 16)
  .skip
  (.exit 0)))
  (.seq (.block 1 (.seq (.reg false [⟨some 19, .mv (.t 8), none⟩,
    ⟨some 20, .mv (.t 9), none⟩,
    ⟨some 21, .iad 4 (.t 19) (.t 20), none⟩,
    ⟨some 22, .fad 1 (.t 21), none⟩,
    ⟨some 23, .ld none (.t 22), none⟩,
    ⟨some 24, .mv (.t 2), none⟩,
    ⟨some 25, .bin .eql (.t 23) (.t 24), none⟩] [] [2, 3, 8, 9, 25])
  (.cond (.t 25)
  (.seq (.reg true [⟨some 26, .ld (some 1) (.t 3), none⟩,
    ⟨some 27, .mv (.t 8), none⟩,
    ⟨some 28, .mv (.t 9), none⟩,
    ⟨some 29, .bin .add (.t 28) (.c (.int .i64 1)), none⟩,
    ⟨some 30, .slc 4 (.t 27) none (some (.t 29)) none, none⟩,
    ⟨some 31, .call 19 [.t 26, .t 30], none⟩,
    ⟨some 6, .mv (.t 31), none⟩,
    ⟨some 7, .mv (.c (.bool true)), none⟩] [0, 0, 0, 4, 14, 31, 63, 127] [6, 7])
  .ret)
  .skip)))
  (.reg false [⟨some 17, .mv (.t 9), none⟩,
    ⟨some 18, .bin .add (.t 17) (.c (.int .i64 1)), none⟩,
    ⟨some 9, .mv (.t 18), none⟩] [] [2, 3, 8, 9]))))))
  (.seq (.reg false [⟨some 32, .bsl 4 0 [.int .i64 0, .int .i64 0, .int .i64 0, .int .i64 0] [], none⟩,
    ⟨some 6, .mv (.t 32), none⟩,
    ⟨some 7, .mv (.c (.bool false)), none⟩] [] [6, 7])
  .ret)))), [(6, none), (7, none)]⟩
theorem spec_ProofOf_ok : okFn Tryz.prog 8 spec_ProofOf = true := by kernel_rfl
def impl_Derives : IFn := ⟨21, (.seq (.reg false [⟨some 3, .box (.t 0), none⟩,
    ⟨some 6, .mv (.c (.bool false)), none⟩] [] [1, 2, 3])
  (.seq (.reg false [⟨some 7, .mv (.t 2), none⟩,
    ⟨some 8, .call 20 [.t 3, .t 7], none⟩,
    ⟨some 9, .mv (.t 8), none⟩,
    ⟨some 10, .ld (some 1) (.t 3), some (9, true)⟩,
    ⟨some 11, .mv (.t 1), some (9, true)⟩,
    ⟨some 12, .call 21 [.t 10, .t 11], some (9, true)⟩,
    ⟨some 13, .pick (.t 9) (.t 12) (.c (.bool false)), none⟩,
    ⟨some 14, .mv (.t 13), none⟩,
    ⟨some 15, .mv (.t 1), some (14, true)⟩,
    ⟨some 16, .call 22 [.t 3, .t 15], some (14, true)⟩,
    ⟨some 17, .mv (.t 2), some (14, true)⟩,
    ⟨some 18, .iad 1 (.t 16) (.t 17), some (14, true)⟩,
    ⟨some 19, .ld none (.t 18), some (14, true)⟩,
    ⟨some 20, .pick (.t 14) (.t 19) (.c (.bool false)), none⟩,
    ⟨some 6, .mv (.t 20), none⟩] [] [6])
  .ret)), [(6, none)]⟩
theorem impl_Derives_ok : okFn Tryz.prog 9 impl_Derives = true := by kernel_rfl
def impl_ProofCheck : IFn := ⟨33, (.seq (.reg false [⟨some 4, .box (.t 0), none⟩,
    ⟨some 8, .mv (.c (.bool false)), none⟩] [] [1, 2, 3, 4])
  (.seq (.reg false [⟨some 9, .mv (.t 2), none⟩,
    ⟨some 10, .len false (.t 9), none⟩,
    ⟨some 11, .bin .gtr (.t 10) (.c (.int .i64 0)), none⟩,
    ⟨some 12, .mv (.t 11), none⟩,
    ⟨some 13, .mv (.t 2), some (12, true)⟩,
    ⟨some 14, .mv (.t 2), some (12, true)⟩,
    ⟨some 15, .len false (.t 14), some (12, true)⟩,
    ⟨some 16, .bin .sub (.t 15) (.c (.int .i64 1)), some (12, true)⟩,
    ⟨some 17, .iad 4 (.t 13) (.t 16), some (12, true)⟩,
    ⟨some 18, .fad 1 (.t 17), some (12, true)⟩,
    ⟨some 19, .ld none (.t 18), some (12, true)⟩,
    ⟨some 20, .mv (.t 3), some (12, true)⟩,
    ⟨some 21, .bin .eql (.t 19) (.t 20), some (12, true)⟩,
    ⟨some 22, .pick (.t 12) (.t 21) (.c (.bool false)), none⟩,
    ⟨some 23, .mv (.t 22), none⟩,
    ⟨some 24, .ld (some 1) (.t 4), some (23, true)⟩,
    ⟨some 25, .mv (.t 1), some (23, true)⟩,
    ⟨some 26, .call 21 [.t 24, .t 25], some (23, true)⟩,
    ⟨some 27, .pick (.t 23) (.t 26) (.c (.bool false)), none⟩,
    ⟨some 28, .mv (.t 27), none⟩,
    ⟨some 29, .mv (.t 1), some (28, true)⟩,
    ⟨some 30, .mv (.t 2), some (28, true)⟩,
    ⟨some 31, .call 23 [.t 4, .t 29, .t 30], some (28, true)⟩,
    ⟨some 32, .pick (.t 28) (.t 31) (.c (.bool false)), none⟩,
    ⟨some 8, .mv (.t 32), none⟩] [] [8])
  .ret)), [(8, none)]⟩
theorem impl_ProofCheck_ok : okFn Tryz.prog 10 impl_ProofCheck = true := by kernel_rfl
def spec_DrawProofCheck : IFn := ⟨21, (.seq (.reg false [⟨some 2, .new [.nil], none⟩,
    ⟨some 3, .mv (.c (.nil)), none⟩,
    ⟨some 4, .mv (.c (.nil)), none⟩,
    ⟨some 5, .mv (.c (.int .i64 0)), none⟩] [] [0, 2])
  (.seq (.reg false [⟨some 11, .mv (.t 0), none⟩,
    ⟨some 12, .call 13 [.t 11], none⟩,
    ⟨some 10, .mv (.t 12), none⟩,
    ⟨some 13, .ext (.t 10) 0, none⟩,
    ⟨some 14, .ext (.t 10) 1, none⟩,
    ⟨some 15, .ext (.t 10) 2, none⟩,
    ⟨some 16, .ext (.t 10) 3, none⟩,
    ⟨some 6, .new [.nil], none⟩,
    ⟨none, .st 1 (.t 6) (.t 13), none⟩,
    ⟨some 7, .mv (.t 14), none⟩,
    ⟨some 8, .mv (.t 15), none⟩,
    ⟨some 9, .mv (.t 16), none⟩] [] [2, 6, 7, 8, 9])
  (.seq (.reg false [⟨some 17, .ld (some 1) (.t 6), none⟩,
    ⟨some 18, .mv (.t 7), none⟩,
    ⟨some 19, .mv (.t 8), none⟩,
    ⟨some 20, .mv (.t 9), none⟩,
    ⟨none, .st 1 (.t 2) (.t 17), none⟩,
    ⟨some 3, .mv (.t 18), none⟩,
    ⟨some 4, .mv (.t 19), none⟩,
    ⟨some 5, .mv (.t 20), none⟩] [] [2, 3, 4, 5])
  .ret))), [(2, some (some 1)), (3, none), (4, none), (5, none)]⟩
theorem spec_DrawProofCheck_ok : okFn Tryz.prog 11 spec_DrawProofCheck = true := by kernel_rfl
def spec_ProofCheck : IFn := ⟨29, (.seq (.reg false [⟨some 4, .box (.t 0), none⟩,
    ⟨some 8, .mv (.c (.bool false)), none⟩] [] [1, 2, 3, 4])
  (.seq (.reg false [⟨some 9, .mv (.t 2), none⟩,
    ⟨some 10, .len false (.t 9), none⟩,
    ⟨some 11, .bin .gtr (.t 10) (.c (.int .i64 0)), none⟩,
    ⟨some 12, .mv (.t 11), none⟩,
    ⟨some 13, .ld (some 1) (.t 4), some (12, true)⟩,
    ⟨some 14, .mv (.t 1), some (12, true)⟩,
    ⟨some 15, .mv (.t 2), some (12, true)⟩,
    ⟨some 16, .call 24 [.t 13, .t 14, .t 15], some (12, true)⟩,
    ⟨some 17, .pick (.t 12) (.t 16) (.c (.bool false)), none⟩,
    ⟨some 18, .mv (.t 17), none⟩,
    ⟨some 19, .mv (.t 2), some (18, true)⟩,
    ⟨some 20, .mv (.t 2), some (18, true)⟩,
    ⟨some 21, .len false (.t 20), some (18, true)⟩,
    ⟨some 22, .bin .sub (.t 21) (.c (.int .i64 1)), some (18, true)⟩,
    ⟨some 23, .iad 4 (.t 19) (.t 22), some (18, true)⟩,
    ⟨some 24, .fad 1 (.t 23), some (18, true)⟩,
    ⟨some 25, .ld none (.t 24), some (18, true)⟩,
    ⟨some 26, .mv (.t 3), some (18, true)⟩,
    ⟨some 27, .bin .eql (.t 25) (.t 26), some (18, true)⟩,
    ⟨some 28, .pick (.t 18) (.t 27) (.c (.bool false)), none⟩,
    ⟨some 8, .mv (.t 28), none⟩] [] [8])
  .ret)), [(8, none)]⟩
theorem spec_ProofCheck_ok : okFn Tryz.prog 12 spec_ProofCheck = true := by kernel_rfl
def spec_l9DrawProof : IFn := ⟨117, (.seq (.reg false [⟨some 2, .new [.nil], none⟩,
    ⟨some 3, .mv (.c (.nil)), none⟩,
    ⟨some 4, .mv (.c (.nil)), none⟩,
    ⟨some 5, .mv (.c (.int .i64 0)), none⟩] [] [0, 2])
  (.seq (.reg false [⟨some 15, .mv (.t 0), none⟩,
    ⟨some 16, .call 25 [.t 15], none⟩,
    ⟨some 14, .mv (.t 16), none⟩,
    ⟨some 17, .ext (.t 14) 0, none⟩,
    ⟨some 18, .ext (.t 14) 1, none⟩,
    ⟨some 19, .ext (.t 14) 2, none⟩,
    ⟨some 6, .new [.nil], none⟩,
    ⟨none, .st 1 (.t 6) (.t 17), none⟩,
    ⟨some 7, .mv (.t 18), none⟩,
    ⟨some 8, .mv (.t 19), none⟩] [] [0, 2, 6, 7, 8])
  (.seq (.reg false [⟨some 20, .mv (.t 0), none⟩,
    ⟨some 21, .call 26 [.t 20], none⟩,
    ⟨some 9, .mv (.t 21), none⟩] [] [2, 6, 7, 8, 9])
  (.seq (.reg false [⟨some 22, .ld (some 1) (.t 6), none⟩,
    ⟨some 23, .mv (.t 7), none⟩,
    ⟨some 24, .call 27 [.t 22, .t 23], none⟩,
    ⟨some 10, .mv (.t 24), none⟩] [] [2, 6, 7, 8, 9, 10])
  (.seq (.seq (.reg false [⟨some 25, .mv (.t 10), none⟩,
    ⟨some 26, .len false (.t 25), none⟩,
    ⟨some 27, .bin .gtr (.t 26) (.c (.int .i64 0)), none⟩,
    ⟨some 28, .mv (.t 27), none⟩,
    ⟨some 29, .mv (.t 9), some (28, true)⟩,
    ⟨some 30, .call 28 [.t 29, .c (.int .i64 4)], some (28, true)⟩,
    ⟨some 31, .not (.t 30), some (28, true)⟩,
    ⟨some 32, .pick (.t 28) (.t 31) (.c (.bool false)), none⟩] [] [2, 6, 7, 8, 9, 10, 32])
  (.cond (.t 32)
  (.reg false [⟨some 33, .mv (.t 10), none⟩,
    ⟨some 34, .mv (.t 10), none⟩,
    ⟨some 35, .len false (.t 34), none⟩,
    ⟨some 36, .bin .sub (.t 35) (.c (.int .i64 1)), none⟩,
    ⟨some 37, .mv (.t 9), none⟩,
    ⟨some 38, .mv (.t 10), none⟩,
    ⟨some 39, .len false (.t 38), none⟩,
    ⟨some 40, .call 30 [.t 39, .c (.int .i64 6)], none⟩,
    ⟨some 41, .call 29 [.t 37, .t 40], none⟩,
    ⟨some 42, .bin .sub (.t 36) (.t 41), none⟩,
    ⟨some 43, .iad 1 (.t 33) (.t 42), none⟩,
    ⟨some 44, .ld none (.t 43), none⟩,
    ⟨some 8, .mv (.t 44), none⟩] [] [2, 6, 7, 8, 9])
  .skip))
  (.seq (.reg false [⟨some 46, .ld (some 1) (.t 6), none⟩,
    ⟨some 47, .mv (.t 7), none⟩,
    ⟨some 48, .mv (.t 8), none⟩,
    ⟨some 49, .call 8 [.t 46, .t 47, .t 48], none⟩,
    ⟨some 45, .mv (.t 49), none⟩,
    ⟨some 50, .ext (.t 45) 0, none⟩,
    ⟨some 51, .ext (.t 45) 1, none⟩,
    ⟨some 11, .mv (.t 50), none⟩,
    ⟨some 12, .mv (.t 51), none⟩] [] [2, 6, 7, 8, 9, 11])
  (.seq (.seq (.reg false [⟨some 52, .mv (.t 9), none⟩,
    ⟨some 53, .call 28 [.t 52, .c (.int .i64 4)], none⟩] [] [2, 6, 7, 8, 9, 11, 53])
  (.cond (.t 53)
  (.reg false [⟨some 54, .ld (some 1) (.t 6), none⟩,
    ⟨some 55, .mv (.t 7), none⟩,
    ⟨some 56, .call 18 [.t 54, .t 55], none⟩,
    ⟨some 11, .mv (.t 56), none⟩] [] [2, 6, 7, 8, 9, 11])
  .skip))
  (.seq (.seq (.reg false [⟨some 57, .mv (.t 11), none⟩,
    ⟨some 58, .len false (.t 57), none⟩,
    ⟨some 59, .bin .gtr (.t 58) (.c (.int .i64 0)), none⟩] [] [2, 6, 7, 8, 9, 11, 59])
  (.cond (.t 59)
  (.seq (.reg false [⟨some 60, .bsl 4 0 [.int .i64 0, .int .i64 0, .int .i64 0, .int .i64 0] [], none⟩,
    ⟨some 61, .mv (.t 11), none⟩,
    ⟨some 62, .app 4 32 (.t 60) (.t 61), none⟩,
    ⟨some 11, .mv (.t 62), none⟩] [] [2, 6, 7, 8, 9, 11])
  (.seq (.reg false [⟨some 63, .mv (.t 9), none⟩,
    ⟨some 64, .mv (.t 11), none⟩,
    ⟨some 65, .len false (.t 64), none⟩,
    ⟨some 66, .call 29 [.t 63, .t 65], none⟩,
    ⟨some 13, .mv (.t 66), none⟩] [] [2, 6, 7, 8, 9, 11, 13])
  (.seq (.reg false [⟨some 67, .mv (.t 9), none⟩,
    ⟨some 68, .call 29 [.t 67, .c (.int .i64 15)], none⟩] [] [2, 6, 7, 8, 9, 11, 13, 68])
  (.block 0 (.seq (.reg false [⟨some 70, .bin .eql (.t 68) (.c (.int .i64 0)), none⟩,
    ⟨some 69, .mv (.t 70), none⟩] [] [2, 6, 7, 8, 9, 11, 13, 68, 69])
  (.cond (.t 69)
  (.reg false [⟨some 71, .mv (.t 11), none⟩,
    ⟨some 72, .mv (.t 13), none⟩,
    ⟨some 73, .mv (.t 9), none⟩,
    ⟨some 74, .call 29 [.t 73, .c (.int .i64 10)], none⟩,
    ⟨some 75, .iad 4 (.t 71) (.t 72), none⟩,
    ⟨some 76, .fad 0 (.t 75), none⟩,
    ⟨none, .st 1 (.t 76) (.t 74), none⟩] [] [2, 6, 7, 8, 11])
  (.seq (.reg false [⟨some 78, .bin .eql (.t 68) (.c (.int .i64 1)), none⟩,
    ⟨some 77, .mv (.t 78), none⟩] [] [2, 6, 7, 8, 9, 11, 13, 68, 77])
  (.cond (.t 77)
  (.reg false [⟨some 79, .mv (.t 11), none⟩,
    ⟨some 80, .mv (.t 13), none⟩,
    ⟨some 81, .mv (.t 9), none⟩,
    ⟨some 82, .call 29 [.t 81, .c (.int .i64 5)], none⟩,
    ⟨some 83, .bin .sub (.t 82) (.c (.int .i64 1)), none⟩,
    ⟨some 84, .iad 4 (.t 79) (.t 80), none⟩,
    ⟨some 85, .fad 2 (.t 84), none⟩,
    ⟨none, .st 1 (.t 85) (.t 83), none⟩] [] [2, 6, 7, 8, 11])
  (.seq (.reg false [⟨some 87, .bin .eql (.t 68) (.c (.int .i64 2)), none⟩,
    ⟨some 86, .mv (.t 87), none⟩] [] [2, 6, 7, 8, 9, 11, 13, 68, 86])
  (.cond (.t 86)
  (.reg false [⟨some 88, .mv (.t 11), none⟩,
    ⟨some 89, .mv (.t 13), none⟩,
    ⟨some 90, .mv (.t 9), none⟩,
    ⟨some 91, .call 29 [.t 90, .c (.int .i64 5)], none⟩,
    ⟨some 92, .bin .sub (.t 91) (.c (.int .i64 1)), none⟩,
    ⟨some 93, .iad 4 (.t 88) (.t 89), none⟩,
    ⟨some 94, .fad 3 (.t 93), none⟩,
    ⟨none, .st 1 (.t 94) (.t 92), none⟩] [] [2, 6, 7, 8, 11])
  (.seq (.reg false [⟨some 96, .bin .eql (.t 68) (.c (.int .i64 3)), none⟩,
    ⟨some 95, .mv (.t 96), none⟩] [] [2, 6, 7, 8, 9, 11, 13, 68, 95])
  (.cond (.t 95)
  (.reg false [⟨some 97, .mv (.t 11), none⟩,
    ⟨some 98, .mv (.t 13), none⟩,
    ⟨some 99, .mv (.t 9), none⟩,
    ⟨some 100, .ld (some 1) (.t 6), none⟩,
    ⟨some 101, .call 31 [.t 99, .t 100], none⟩,
    ⟨some 102, .iad 4 (.t 97) (.t 98), none⟩,
    ⟨some 103, .fad 1 (.t 102), none⟩,
    ⟨none, .st 1 (.t 103) (.t 101), none⟩] [] [2, 6, 7, 8, 11])
  (.seq (.reg false [⟨some 105, .bin .eql (.t 68) (.c (.int .i64 4)), none⟩,
    ⟨some 104, .mv (.t 105), none⟩] [] [2, 6, 7, 8, 11, 13, 104])
  (.cond (.t 104)
  (.reg false [⟨some 106, .mv (.t 11), none⟩,
    ⟨some 107, .mv (.t 11), none⟩,
    ⟨some 108, .mv (.t 13), none⟩,
    ⟨some 109, .iad 4 (.t 107) (.t 108), none⟩,
    ⟨some 110, .ld (some 4) (.t 109), none⟩,
    ⟨some 111, .bsl 4 1 [.int .i64 0, .int .i64 0, .int .i64 0, .int .i64 0] [(0, 4, .t 110)], none⟩,
    ⟨some 112, .app 4 32 (.t 106) (.t 111), none⟩,
    ⟨some 11, .mv (.t 112), none⟩] [] [2, 6, 7, 8, 11])
  .skip))))))))))))))
  .skip))
  (.seq (.reg false [⟨some 113, .ld (some 1) (.t 6), none⟩,
    ⟨some 114, .mv (.t 7), none⟩,
    ⟨some 115, .mv (.t 11), none⟩,
    ⟨some 116, .mv (.t 8), none⟩,
    ⟨none, .st 1 (.t 2) (.t 113), none⟩,
    ⟨some 3, .mv (.t 114), none⟩,
    ⟨some 4, .mv (.t 115), none⟩,
    ⟨some 5, .mv (.t 116), none⟩] [] [2, 3, 4, 5])
  .ret))))))))), [(2, some (some 1)), (3, none), (4, none), (5, none)]⟩
theorem spec_l9DrawProof_ok : okFn Tryz.prog 13 spec_l9DrawProof = true := by kernel_rfl
def impl_ProofAll : IFn := ⟨11, (.seq (.reg false [⟨some 2, .box (.t 0), none⟩,
    ⟨some 4, .mv (.c (.nil)), none⟩] [] [1, 2])
  (.seq (.seq (.reg false [⟨some 5, .ld (some 1) (.t 2), none⟩,
    ⟨some 6, .mv (.t 1), none⟩,
    ⟨some 7, .call 21 [.t 5, .t 6], none⟩,
    ⟨some 8, .not (.t 7), none⟩] [] [1, 2, 8])
  (.cond (.t 8)
  (.seq (.reg false [⟨some 4, .mv (.c (.nil)), none⟩] [] [4])
  .ret)
  .skip))
  (.seq (.reg false [⟨some 9, .mv (.t 1), none⟩,
    ⟨some 10, .call 32 [.t 2, .t 9], none⟩,
    ⟨some 4, .mv (.t 10), none⟩] [] [4])
  .ret))), [(4, none)]⟩
theorem impl_ProofAll_ok : okFn Tryz.prog 14 impl_ProofAll = true := by kernel_rfl
def slices_IndexFunc_Step : IFn := ⟨19, (.seq (.reg false [⟨some 4, .mv (.c (.int .i64 0)), none⟩] [] [0, 1])
  (.seq (.seq (.reg false [⟨some 6, .mv (.t 0), none⟩,
    ⟨some 7, .len false (.t 6), none⟩,
    ⟨some 8, .mv (.c (.int .i64 0)), none⟩] [] [0, 1, 7, 8])
  (.block 0 (.loop (.seq (.reg false [⟨some 9, .bin .lss (.t 8) (.t 7), none⟩] [] [0, 1, 7, 8, 9])
  (.seq (.cond (.t 9)
  .skip
  (.exit 0))
  (.seq (.block 1 (.seq (.reg false [⟨some 10, .mv (.t 8), none⟩,
    ⟨some 5, .mv (.t 10), none⟩] [] [0, 1, 5, 7, 8])
  (.seq (.reg false [⟨some 11, .mv (.t 1), none⟩,
    ⟨some 12, .mv (.t 0), none⟩,
    ⟨some 13, .mv (.t 5), none⟩,
    ⟨some 14, .iad 4 (.t 12) (.t 13), none⟩,
    ⟨some 15, .ld (some 4) (.t 14), none⟩,
    ⟨some 16, .cv (.t 11) [.t 15], none⟩] [] [0, 1, 5, 7, 8, 16])
  (.cond (.t 16)
  (.seq (.reg false [⟨some 17, .mv (.t 5), none⟩,
    ⟨some 4, .mv (.t 17), none⟩] [] [4])
  .ret)
  .skip))))
  (.reg false [⟨some 18, .bin .add (.t 8) (.c (.int .i64 1)), none⟩,
    ⟨some 8, .mv (.t 18), none⟩] [] [0, 1, 7, 8])))))))
  (.seq (.reg false [⟨some 4, .mv (.c (.int .i64 (-1))), none⟩] [] [4])
  .ret))), [(4, none)]⟩
theorem slices_IndexFunc_Step_ok : okFn Tryz.prog 15 slices_IndexFunc_Step = true := by kernel_rfl
def impl_ProofOf_1 : IFn := ⟨8, (.seq (.reg false [⟨some 2, .box (.t 0), none⟩,
    ⟨some 3, .mv (.c (.bool false)), none⟩] [] [1, 2])
  (.seq (.reg false [⟨some 4, .fad 1 (.t 2), none⟩,
    ⟨some 5, .ld none (.t 4), none⟩,
    ⟨some 6, .ld none (.t 1), none⟩,
    ⟨some 7, .bin .eql (.t 5) (.t 6), none⟩,
    ⟨some 3, .mv (.t 7), none⟩] [] [3])
  .ret)), [(3, none)]⟩
theorem impl_ProofOf_1_ok : okFn Tryz.prog 16 impl_ProofOf_1 = true := by kernel_rfl
def impl_Pool_trimmed : IFn := ⟨102, (.seq (.reg false [⟨some 4, .mv (.c (.nil)), none⟩] [] [0, 1])
  (.seq (.reg false [⟨some 13, .mv (.t 1), none⟩,
    ⟨some 14, .len false (.t 13), none⟩,
    ⟨some 15, .mk 1 1 [.bool false] (.t 14) (.t 14), none⟩,
    ⟨some 5, .mv (.t 15), none⟩] [] [0, 1, 5])
  (.seq (.reg false [⟨some 16, .mv (.t 5), none⟩,
    ⟨some 17, .mv (.t 1), none⟩,
    ⟨some 18, .len false (.t 17), none⟩,
    ⟨some 19, .bin .sub (.t 18) (.c (.int .i64 1)), none⟩,
    ⟨some 20, .iad 1 (.t 16) (.t 19), none⟩,
    ⟨none, .st 1 (.t 20) (.c (.bool true)), none⟩] [] [0, 1, 5])
  (.seq (.seq (.reg false [⟨some 21, .mv (.t 1), none⟩,
    ⟨some 22, .len false (.t 21), none⟩,
    ⟨some 23, .bin .sub (.t 22) (.c (.int .i64 1)), none⟩,
    ⟨some 6, .mv (.t 23), none⟩] [] [0, 1, 5, 6])
  (.block 0 (.loop (.seq (.seq (.reg false [⟨some 24, .mv (.t 6), none⟩,
    ⟨some 25, .bin .geq (.t 24) (.c (.int .i64 0)), none⟩] [] [0, 1, 5, 6, 25])
  (.cond (.t 25)
  .skip
  (.exit 0)))
  (.seq (.block 1 (.seq (.seq (.reg false [⟨some 28, .mv (.t 5), none⟩,
    ⟨some 29, .mv (.t 6), none⟩,
    ⟨some 30, .iad 1 (.t 28) (.t 29), none⟩,
    ⟨some 31, .ld none (.t 30), none⟩,
    ⟨some 32, .not (.t 31), none⟩] [] [0, 1, 5, 6, 32])
  (.cond (.t 32)
  (.exit 1)
  .skip))
  (.seq (.reg false [⟨some 33, .mv (.t 0), none⟩,
    ⟨some 34, .mv (.t 1), none⟩,
    ⟨some 35, .mv (.t 6), none⟩,
    ⟨some 36, .iad 4 (.t 34) (.t 35), none⟩,
    ⟨some 37, .ld (some 4) (.t 36), none⟩,
    ⟨some 38, .call 33 [.t 33, .t 37], none⟩,
    ⟨some 7, .mv (.t 38), none⟩] [] [0, 1, 5, 6, 7])
  (.seq (.seq (.reg false [⟨some 39, .mv (.t 7), none⟩,
    ⟨some 40, .bin .gtr (.t 39) (.c (.int .i64 0)), none⟩] [] [0, 1, 5, 6, 7, 40])
  (.cond (.t 40)
  (.reg false [⟨some 41, .mv (.t 5), none⟩,
    ⟨some 42, .mv (.t 1), none⟩,
    ⟨some 43, .mv (.t 6), none⟩,
    ⟨some 44, .iad 4 (.t 42) (.t 43), none⟩,
    ⟨some 45, .fad 2 (.t 44), none⟩,
    ⟨some 46, .ld none (.t 45), none⟩,
    ⟨some 47, .iad 1 (.t 41) (.t 46), none⟩,
    ⟨none, .st 1 (.t 47) (.c (.bool true)), none⟩] [] [0, 1, 5, 6, 7])
  .skip))
  (.seq (.reg false [⟨some 48, .mv (.t 7), none⟩,
    ⟨some 49, .bin .gtr (.t 48) (.c (.int .i64 1)), none⟩] [] [0, 1, 5, 6, 49])
  (.cond (.t 49)
  (.reg false [⟨some 50, .mv (.t 5), none⟩,
    ⟨some 51, .mv (.t 1), none⟩,
    ⟨some 52, .mv (.t 6), none⟩,
    ⟨some 53, .iad 4 (.t 51) (.t 52), none⟩,
    ⟨some 54, .fad 3 (.t 53), none⟩,
    ⟨some 55, .ld none (.t 54), none⟩,
    ⟨some 56, .iad 1 (.t 50) (.t 55), none⟩,
    ⟨none, .st 1 (.t 56) (.c (.bool true)), none⟩] [] [0, 1, 5, 6])
  .skip))))))
  (.reg false [⟨some 26, .mv (.t 6), none⟩,
    ⟨some 27, .bin .sub (.t 26) (.c (.int .i64 1)), none⟩,
    ⟨some 6, .mv (.t 27), none⟩] [] [0, 1, 5, 6]))))))
  (.seq (.reg false [⟨some 8, .mv (.c (.nil)), none⟩] [] [0, 1, 5, 8])
  (.seq (.reg false [⟨some 57, .mv (.t 1), none⟩,
    ⟨some 58, .len false (.t 57), none⟩,
    ⟨some 59, .mk 1 8 [.int .i64 0] (.t 58) (.t 58), none⟩,
    ⟨some 9, .mv (.t 59), none⟩] [] [0, 1, 5, 8, 9])
  (.seq (.seq (.reg false [⟨some 60, .mv (.t 1), none⟩,
    ⟨some 61, .len false (.t 60), none⟩,
    ⟨some 62, .mv (.c (.int .i64 0)), none⟩] [] [0, 5, 8, 9, 60, 61, 62])
  (.block 2 (.loop (.seq (.reg false [⟨some 63, .bin .lss (.t 62) (.t 61), none⟩] [] [0, 5, 8, 9, 60, 61, 62, 63])
  (.seq (.cond (.t 63)
  .skip
  (.exit 2))
  (.seq (.block 3 (.seq (.reg false [⟨some 64, .mv (.t 62), none⟩,
    ⟨some 65, .iad 4 (.t 60) (.t 62), none⟩,
    ⟨some 66, .ld (some 4) (.t 65), none⟩,
    ⟨some 11, .new [.int .i64 0, .int .i64 0, .int .i64 0, .int .i64 0], none⟩,
    ⟨some 10, .mv (.t 64), none⟩,
    ⟨none, .st 4 (.t 11) (.t 66), none⟩] [] [0, 5, 8, 9, 10, 11, 60, 61, 62])
  (.seq (.seq (.reg false [⟨some 67, .mv (.t 5), none⟩,
    ⟨some 68, .mv (.t 10), none⟩,
    ⟨some 69, .iad 1 (.t 67) (.t 68), none⟩,
    ⟨some 70, .ld none (.t 69), none⟩,
    ⟨some 71, .not (.t 70), none⟩] [] [0, 5, 8, 9, 10, 11, 60, 61, 62, 71])
  (.cond (.t 71)
  (.exit 3)
  .skip))
  (.seq (.reg false [⟨some 72, .mv (.t 0), none⟩,
    ⟨some 73, .ld (some 4) (.t 11), none⟩,
    ⟨some 74, .call 33 [.t 72, .t 73], none⟩,
    ⟨some 12, .mv (.t 74), none⟩] [] [0, 5, 8, 9, 10, 11, 12, 60, 61, 62])
  (.seq (.seq (.reg false [⟨some 75, .mv (.t 12), none⟩,
    ⟨some 76, .bin .gtr (.t 75) (.c (.int .i64 0)), none⟩] [] [0, 5, 8, 9, 10, 11, 12, 60, 61, 62, 76])
  (.cond (.t 76)
  (.reg false [⟨some 77, .mv (.t 9), none⟩,
    ⟨some 78, .fad 2 (.t 11), none⟩,
    ⟨some 79, .ld none (.t 78), none⟩,
    ⟨some 80, .iad 1 (.t 77) (.t 79), none⟩,
    ⟨some 81, .ld none (.t 80), none⟩,
    ⟨some 82, .fad 2 (.t 11), none⟩,
    ⟨none, .st 1 (.t 82) (.t 81), none⟩] [] [0, 5, 8, 9, 10, 11, 12, 60, 61, 62])
  .skip))
  (.seq (.seq (.reg false [⟨some 83, .mv (.t 12), none⟩,
    ⟨some 84, .bin .gtr (.t 83) (.c (.int .i64 1)), none⟩] [] [0, 5, 8, 9, 10, 11, 60, 61, 62, 84])
  (.cond (.t 84)
  (.reg false [⟨some 85, .mv (.t 9), none⟩,
    ⟨some 86, .fad 3 (.t 11), none⟩,
    ⟨some 87, .ld none (.t 86), none⟩,
    ⟨some 88, .iad 1 (.t 85) (.t 87), none⟩,
    ⟨some 89, .ld none (.t 88), none⟩,
    ⟨some 90, .fad 3 (.t 11), none⟩,
    ⟨none, .st 1 (.t 90) (.t 89), none⟩] [] [0, 5, 8, 9, 10, 11, 60, 61, 62])
  .skip))
  (.seq (.reg false [⟨some 91, .mv (.t 9), none⟩,
    ⟨some 92, .mv (.t 10), none⟩,
    ⟨some 93, .mv (.t 8), none⟩,
    ⟨some 94, .len false (.t 93), none⟩,
    ⟨some 95, .iad 1 (.t 91) (.t 92), none⟩,
    ⟨none, .st 1 (.t 95) (.t 94), none⟩] [] [0, 5, 8, 9, 11, 60, 61, 62])
  (.reg false [⟨some 96, .mv (.t 8), none⟩,
    ⟨some 97, .ld (some 4) (.t 11), none⟩,
    ⟨some 98, .bsl 4 1 [.int .i64 0, .int .i64 0, .int .i64 0, .int .i64 0] [(0, 4, .t 97)], none⟩,
    ⟨some 99, .app 4 32 (.t 96) (.t 98), none⟩,
    ⟨some 8, .mv (.t 99), none⟩] [] [0, 5, 8, 9, 60, 61, 62]))))))))
  (.reg false [⟨some 100, .bin .add (.t 62) (.c (.int .i64 1)), none⟩,
    ⟨some 62, .mv (.t 100), none⟩] [] [0, 5, 8, 9, 60, 61, 62])))))))
  (.seq (.reg false [⟨some 101, .mv (.t 8), none⟩,
    ⟨some 4, .mv (.t 101), none⟩] [] [4])
  .ret)))))))), [(4, none)]⟩
theorem impl_Pool_trimmed_ok : okFn Tryz.prog 17 impl_Pool_trimmed = true := by kernel_rfl
def spec_ProofAll : IFn := ⟨62, (.seq (.reg false [⟨some 2, .box (.t 0), none⟩,
    ⟨some 4, .mv (.c (.nil)), none⟩] [] [1, 2])
  (.seq (.reg false [⟨some 12, .bsl 4 0 [.int .i64 0, .int .i64 0, .int .i64 0, .int .i64 0] [], none⟩,
    ⟨some 5, .mv (.t 12), none⟩] [] [1, 2, 5])
  (.seq (.seq (.reg false [⟨some 13, .ld (some 1) (.t 2), none⟩,
    ⟨some 14, .mv (.t 1), none⟩,
    ⟨some 15, .call 34 [.t 13, .t 14], none⟩,
    ⟨some 16, .not (.t 15), none⟩] [] [1, 2, 5, 16])
  (.cond (.t 16)
  (.seq (.reg false [⟨some 17, .mv (.t 5), none⟩,
    ⟨some 4, .mv (.t 17), none⟩] [] [4])
  .ret)
  .skip))
  (.seq (.reg false [⟨some 18, .fad 0 (.t 2), none⟩,
    ⟨some 19, .ld none (.t 18), none⟩,
    ⟨some 20, .len false (.t 19), none⟩,
    ⟨some 21, .mk 1 8 [.int .i64 0] (.t 20) (.t 20), none⟩,
    ⟨some 6, .mv (.t 21), none⟩] [] [1, 2, 5, 6])
  (.seq (.seq (.reg false [⟨some 7, .mv (.c (.int .i64 0)), none⟩] [] [1, 2, 5, 6, 7])
  (.block 0 (.loop (.seq (.seq (.reg false [⟨some 22, .mv (.t 7), none⟩,
    ⟨some 23, .mv (.t 6), none⟩,
    ⟨some 24, .len false (.t 23), none⟩,
    ⟨some 25, .bin .lss (.t 22) (.t 24), none⟩] [] [1, 2, 5, 6, 7, 25])
  (.cond (.t 25)
  .skip
  (.exit 0)))
  (.seq (.block 1 (.reg false [⟨some 28, .mv (.t 6), none⟩,
    ⟨some 29, .mv (.t 7), none⟩,
    ⟨some 30, .iad 1 (.t 28) (.t 29), none⟩,
    ⟨none, .st 1 (.t 30) (.c (.int .i64 (-1))), none⟩] [] [1, 2, 5, 6, 7]))
  (.reg false [⟨some 26, .mv (.t 7), none⟩,
    ⟨some 27, .bin .add (.t 26) (.c (.int .i64 1)), none⟩,
    ⟨some 7, .mv (.t 27), none⟩] [] [1, 2, 5, 6, 7]))))))
  (.seq (.reg false [⟨some 8, .mv (.c (.bool true)), none⟩] [] [1, 2, 5, 6, 8])
  (.seq (.block 2 (.loop (.seq (.seq (.reg false [⟨some 31, .mv (.t 8), none⟩] [] [1, 2, 5, 6, 31])
  (.cond (.t 31)
  .skip
  (.exit 2)))
  (.block 3 (.seq (.reg false [⟨some 8, .mv (.c (.bool false)), none⟩] [] [1, 2, 5, 6, 8])
  (.seq (.reg false [⟨some 9, .mv (.c (.int .i64 0)), none⟩] [] [1, 2, 5, 6, 8, 9])
  (.block 4 (.loop (.seq (.seq (.reg false [⟨some 32, .mv (.t 9), none⟩,
    ⟨some 33, .mv (.t 6), none⟩,
    ⟨some 34, .len false (.t 33), none⟩,
    ⟨some 35, .bin .lss (.t 32) (.t 34), none⟩] [] [1, 2, 5, 6, 8, 9, 35])
  (.cond (.t 35)
  .skip
  (.exit 4)))
  (.seq (.block 5 (.seq (.seq (.reg false [⟨some 38, .mv (.t 6), none⟩,
    ⟨some 39, .mv (.t 9), none⟩,
    ⟨some 40, .iad 1 (.t 38) (.t 39), none⟩,
    ⟨some 41, .ld none (.t 40), none⟩,
    ⟨some 42, .bin .geq (.t 41) (.c (.int .i64 0)), none⟩] [] [1, 2, 5, 6, 8, 9, 42])
  (.cond (.t 42)
  (.exit 5)
  .skip))
  (.seq (.reg false [⟨some 44, .ld (some 1) (.t 2), none⟩,
    ⟨some 45, .mv (.t 1), none⟩,
    ⟨some 46, .mv (.t 6), none⟩,
    ⟨some 47, .mv (.t 9), none⟩,
    ⟨some 48, .call 35 [.t 44, .t 45, .t 46, .t 47], none⟩,
    ⟨some 43, .mv (.t 48), none⟩,
    ⟨some 49, .ext (.t 43) 0, none⟩,
    ⟨some 50, .ext (.t 43) 1, none⟩,
    ⟨some 10, .new [.int .i64 0, .int .i64 0, .int .i64 0, .int .i64 0], none⟩,
    ⟨none, .st 4 (.t 10) (.t 49), none⟩,
    ⟨some 11, .mv (.t 50), none⟩] [] [1, 2, 5, 6, 8, 9, 10, 11])
  (.seq (.reg false [⟨some 51, .mv (.t 11), none⟩] [] [1, 2, 5, 6, 8, 9, 10, 51])
  (.cond (.t 51)
  (.seq (.reg false [⟨some 52, .mv (.t 6), none⟩,
    ⟨some 53, .mv (.t 9), none⟩,
    ⟨some 54, .mv (.t 5), none⟩,
    ⟨some 55, .len false (.t 54), none⟩,
    ⟨some 56, .iad 1 (.t 52) (.t 53), none⟩,
    ⟨none, .st 1 (.t 56) (.t 55), none⟩] [] [1, 2, 5, 6, 9, 10])
  (.seq (.reg false [⟨some 57, .mv (.t 5), none⟩,
    ⟨some 58, .ld (some 4) (.t 10), none⟩,
    ⟨some 59, .bsl 4 1 [.int .i64 0, .int .i64 0, .int .i64 0, .int .i64 0] [(0, 4, .t 58)], none⟩,
    ⟨some 60, .app 4 32 (.t 57) (.t 59), none⟩,
    ⟨some 5, .mv (.t 60), none⟩] [] [1, 2, 5, 6, 9])
  (.reg false [⟨some 8, .mv (.c (.bool true)), none⟩] [] [1, 2, 5, 6, 8, 9])))
  .skip)))))
  (.reg false [⟨some 36, .mv (.t 9), none⟩,
    ⟨some 37, .bin .add (.t 36) (.c (.int .i64 1)), none⟩,
    ⟨some 9, .mv (.t 37), none⟩] [] [1, 2, 5, 6, 8, 9])))))))))))
  (.seq (.reg false [⟨some 61, .mv (.t 5), none⟩,
    ⟨some 4, .mv (.t 61), none⟩] [] [4])
  .ret)))))))), [(4, none)]⟩
theorem spec_ProofAll_ok : okFn Tryz.prog 18 spec_ProofAll = true := by kernel_rfl
def spec_ProofTrim : IFn := ⟨163, (.seq (.reg false [⟨some 2, .box (.t 0), none⟩,
    ⟨some 4, .mv (.c (.nil)), none⟩] [] [1, 2])
  (.seq (.reg false [⟨some 16, .bsl 4 0 [.int .i64 0, .int .i64 0, .int .i64 0, .int .i64 0] [], none⟩,
    ⟨some 5, .mv (.t 16), none⟩] [] [1, 2, 5])
  (.seq (.reg false [⟨some 17, .mv (.t 1), none⟩,
    ⟨some 18, .len false (.t 17), none⟩,
    ⟨some 6, .mv (.t 18), none⟩] [] [1, 2, 5, 6])
  (.seq (.seq (.reg false [⟨some 19, .mv (.t 6), none⟩,
    ⟨some 20, .bin .eql (.t 19) (.c (.int .i64 0)), none⟩,
    ⟨some 21, .mv (.t 20), none⟩,
    ⟨some 22, .mv (.t 6), some (21, false)⟩,
    ⟨some 23, .bin .gtr (.t 22) (.c (.int .i64 500)), some (21, false)⟩,
    ⟨some 24, .pick (.t 21) (.c (.bool true)) (.t 23), none⟩] [] [1, 2, 5, 6, 24])
  (.cond (.t 24)
  (.seq (.reg false [⟨some 25, .mv (.t 5), none⟩,
    ⟨some 4, .mv (.t 25), none⟩] [] [4])
  .ret)
  .skip))
  (.seq (.seq (.reg false [⟨some 7, .mv (.c (.int .i64 0)), none⟩] [] [1, 2, 5, 6, 7])
  (.block 0 (.loop (.seq (.seq (.reg false [⟨some 26, .mv (.t 7), none⟩,
    ⟨some 27, .mv (.t 6), none⟩,
    ⟨some 28, .bin .lss (.t 26) (.t 27), none⟩] [] [1, 2, 5, 6, 7, 28])
  (.cond (.t 28)
  .skip
  (.exit 0)))
  (.seq (.block 1 (.seq (.reg true [⟨some 31, .ld (some 1) (.t 2), none⟩,
    ⟨some 32, .mv (.t 1), none⟩,
    ⟨some 33, .mv (.t 7), none⟩,
    ⟨some 34, .iad 4 (.t 32) (.t 33), none⟩,
    ⟨some 35, .ld (some 4) (.t 34), none⟩,
    ⟨some 36, .call 36 [.t 31, .t 35], none⟩,
    ⟨some 8, .mv (.t 36), none⟩] [0, 0, 0, 6, 14, 31, 63] [1, 2, 5, 6, 7, 8])
  (.seq (.reg false [⟨some 37, .mv (.t 8), none⟩,
    ⟨some 38, .bin .lss (.t 37) (.c (.int .i64 0)), none⟩,
    ⟨some 39, .mv (.t 38), none⟩,
    ⟨some 40, .mv (.t 8), some (39, false)⟩,
    ⟨some 41, .bin .gtr (.t 40) (.c (.int .i64 0)), some (39, false)⟩,
    ⟨some 42, .mv (.t 41), some (39, false)⟩,
    ⟨some 43, .mv (.t 1), some (42, true)⟩,
    ⟨some 44, .mv (.t 7), some (42, true)⟩,
    ⟨some 45, .iad 4 (.t 43) (.t 44), some (42, true)⟩,
    ⟨some 46, .fad 2 (.t 45), some (42, true)⟩,
    ⟨some 47, .ld none (.t 46), some (42, true)⟩,
    ⟨some 48, .mv (.t 7), some (42, true)⟩,
    ⟨some 49, .bin .sub (.t 48) (.c (.int .i64 1)), some (42, true)⟩,
    ⟨some 50, .call 37 [.t 47, .c (.int .i64 0), .t 49], some (42, true)⟩,
    ⟨some 51, .not (.t 50), some (42, true)⟩,
    ⟨some 52, .pick (.t 42) (.t 51) (.c (.bool false)), some (39, false)⟩,
    ⟨some 53, .pick (.t 39) (.c (.bool true)) (.t 52), none⟩,
    ⟨some 54, .mv (.t 53), none⟩,
    ⟨some 55, .mv (.t 8), some (54, false)⟩,
    ⟨some 56, .bin .gtr (.t 55) (.c (.int .i64 1)), some (54, false)⟩,
    ⟨some 57, .mv (.t 56), some (54, false)⟩,
    ⟨some 58, .mv (.t 1), some (57, true)⟩,
    ⟨some 59, .mv (.t 7), some (57, true)⟩,
    ⟨some 60, .iad 4 (.t 58) (.t 59), some (57, true)⟩,
    ⟨some 61, .fad 3 (.t 60), some (57, true)⟩,
    ⟨some 62, .ld none (.t 61), some (57, true)⟩,
    ⟨some 63, .mv (.t 7), some (57, true)⟩,
    ⟨some 64, .bin .sub (.t 63) (.c (.int .i64 1)), some (57, true)⟩,
    ⟨some 65, .call 37 [.t 62, .c (.int .i64 0), .t 64], some (57, true)⟩,
    ⟨some 66, .not (.t 65), some (57, true)⟩,
    ⟨some 67, .pick (.t 57) (.t 66) (.c (.bool false)), some (54, false)⟩,
    ⟨some 68, .pick (.t 54) (.c (.bool true)) (.t 67), none⟩] [] [1, 2, 5, 6, 7, 68])
  (.cond (.t 68)
  (.seq (.reg false [⟨some 69, .mv (.t 5), none⟩,
    ⟨some 4, .mv (.t 69), none⟩] [] [4])
  .ret)
  .skip))))
  (.reg false [⟨some 29, .mv (.t 7), none⟩,
    ⟨some 30, .bin .add (.t 29) (.c (.int .i64 1)), none⟩,
    ⟨some 7, .mv (.t 30), none⟩] [] [1, 2, 5, 6, 7]))))))
  (.seq (.reg false [⟨some 70, .mv (.t 6), none⟩,
    ⟨some 71, .mk 1 1 [.bool false] (.t 70) (.t 70), none⟩,
    ⟨some 9, .mv (.t 71), none⟩] [] [1, 2, 5, 6, 9])
  (.seq (.reg false [⟨some 72, .mv (.t 9), none⟩,
    ⟨some 73, .mv (.t 6), none⟩,
    ⟨some 74, .bin .sub (.t 73) (.c (.int .i64 1)), none⟩,
    ⟨some 75, .iad 1 (.t 72) (.t 74), none⟩,
    ⟨none, .st 1 (.t 75) (.c (.bool true)), none⟩] [] [1, 2, 5, 6, 9])
  (.seq (.seq (.reg false [⟨some 76, .mv (.t 6), none⟩,
    ⟨some 77, .bin .sub (.t 76) (.c (.int .i64 1)), none⟩,
    ⟨some 10, .mv (.t 77), none⟩] [] [1, 2, 5, 6, 9, 10])
  (.block 2 (.loop (.seq (.seq (.reg false [⟨some 78, .mv (.t 10), none⟩,
    ⟨some 79, .bin .geq (.t 78) (.c (.int .i64 0)), none⟩] [] [1, 2, 5, 6, 9, 10, 79])
  (.cond (.t 79)
  .skip
  (.exit 2)))
  (.seq (.block 3 (.seq (.reg true [⟨some 82, .ld (some 1) (.t 2), none⟩,
    ⟨some 83, .mv (.t 1), none⟩,
    ⟨some 84, .mv (.t 10), none⟩,
    ⟨some 85, .iad 4 (.t 83) (.t 84), none⟩,
    ⟨some 86, .ld (some 4) (.t 85), none⟩,
    ⟨some 87, .call 38 [.t 82, .t 86], none⟩,
    ⟨some 11, .mv (.t 87), none⟩] [0, 0, 0, 6, 14, 31, 63] [1, 2, 5, 6, 9, 10, 11])
  (.seq (.seq (.reg false [⟨some 88, .mv (.t 9), none⟩,
    ⟨some 89, .mv (.t 10), none⟩,
    ⟨some 90, .iad 1 (.t 88) (.t 89), none⟩,
    ⟨some 91, .ld none (.t 90), none⟩,
    ⟨some 92, .mv (.t 91), none⟩,
    ⟨some 93, .mv (.t 11), some (92, true)⟩,
    ⟨some 94, .bin .gtr (.t 93) (.c (.int .i64 0)), some (92, true)⟩,
    ⟨some 95, .pick (.t 92) (.t 94) (.c (.bool false)), none⟩] [] [1, 2, 5, 6, 9, 10, 11, 95])
  (.cond (.t 95)
  (.reg false [⟨some 96, .mv (.t 9), none⟩,
    ⟨some 97, .mv (.t 1), none⟩,
    ⟨some 98, .mv (.t 10), none⟩,
    ⟨some 99, .iad 4 (.t 97) (.t 98), none⟩,
    ⟨some 100, .fad 2 (.t 99), none⟩,
    ⟨some 101, .ld none (.t 100), none⟩,
    ⟨some 102, .iad 1 (.t 96) (.t 101), none⟩,
    ⟨none, .st 1 (.t 102) (.c (.bool true)), none⟩] [] [1, 2, 5, 6, 9, 10, 11])
  .skip))
  (.seq (.reg false [⟨some 103, .mv (.t 9), none⟩,
    ⟨some 104, .mv (.t 10), none⟩,
    ⟨some 105, .iad 1 (.t 103) (.t 104), none⟩,
    ⟨some 106, .ld none (.t 105), none⟩,
    ⟨some 107, .mv (.t 106), none⟩,
    ⟨some 108, .mv (.t 11), some (107, true)⟩,
    ⟨some 109, .bin .gtr (.t 108) (.c (.int .i64 1)), some (107, true)⟩,
    ⟨some 110, .pick (.t 107) (.t 109) (.c (.bool false)), none⟩] [] [1, 2, 5, 6, 9, 10, 110])
  (.cond (.t 110)
  (.reg false [⟨some 111, .mv (.t 9), none⟩,
    ⟨some 112, .mv (.t 1), none⟩,
    ⟨some 113, .mv (.t 10), none⟩,
    ⟨some 114, .iad 4 (.t 112) (.t 113), none⟩,
    ⟨some 115, .fad 3 (.t 114), none⟩,
    ⟨some 116, .ld none (.t 115), none⟩,
    ⟨some 117, .iad 1 (.t 111) (.t 116), none⟩,
    ⟨none, .st 1 (.t 117) (.c (.bool true)), none⟩] [] [1, 2, 5, 6, 9, 10])
  .skip)))))
  (.reg false [⟨some 80, .mv (.t 10), none⟩,
    ⟨some 81, .bin .sub (.t 80) (.c (.int .i64 1)), none⟩,
    ⟨some 10, .mv (.t 81), none⟩] [] [1, 2, 5, 6, 9, 10]))))))
  (.seq (.reg false [⟨some 118, .mv (.t 6), none⟩,
    ⟨some 119, .mk 1 8 [.int .i64 0] (.t 118) (.t 118), none⟩,
    ⟨some 12, .mv (.t 119), none⟩] [] [1, 2, 5, 6, 9, 12])
  (.seq (.seq (.reg false [⟨some 13, .mv (.c (.int .i64 0)), none⟩] [] [1, 2, 5, 6, 9, 12, 13])
  (.block 4 (.loop (.seq (.seq (.reg false [⟨some 120, .mv (.t 13), none⟩,
    ⟨some 121, .mv (.t 6), none⟩,
    ⟨some 122, .bin .lss (.t 120) (.t 121), none⟩] [] [1, 2, 5, 6, 9, 12, 13, 122])
  (.cond (.t 122)
  .skip
  (.exit 4)))
  (.seq (.block 5 (.seq (.seq (.reg false [⟨some 125, .mv (.t 9), none⟩,
    ⟨some 126, .mv (.t 13), none⟩,
    ⟨some 127, .iad 1 (.t 125) (.t 126), none⟩,
    ⟨some 128, .ld none (.t 127), none⟩,
    ⟨some 129, .not (.t 128), none⟩] [] [1, 2, 5, 6, 9, 12, 13, 129])
  (.cond (.t 129)
  (.exit 5)
  .skip))
  (.seq (.reg false [⟨some 130, .mv (.t 1), none⟩,
    ⟨some 131, .mv (.t 13), none⟩,
    ⟨some 132, .iad 4 (.t 130) (.t 131), none⟩,
    ⟨some 133, .ld (some 4) (.t 132), none⟩,
    ⟨some 14, .new [.int .i64 0, .int .i64 0, .int .i64 0, .int .i64 0], none⟩,
    ⟨none, .st 4 (.t 14) (.t 133), none⟩] [] [1, 2, 5, 6, 9, 12, 13, 14])
  (.seq (.reg false [⟨some 134, .ld (some 1) (.t 2), none⟩,
    ⟨some 135, .ld (some 4) (.t 14), none⟩,
    ⟨some 136, .call 38 [.t 134, .t 135], none⟩,
    ⟨some 15, .mv (.t 136), none⟩] [] [1, 2, 5, 6, 9, 12, 13, 14, 15])
  (.seq (.seq (.reg false [⟨some 137, .mv (.t 15), none⟩,
    ⟨some 138, .bin .gtr (.t 137) (.c (.int .i64 0)), none⟩] [] [1, 2, 5, 6, 9, 12, 13, 14, 15, 138])
  (.cond (.t 138)
  (.reg false [⟨some 139, .mv (.t 12), none⟩,
    ⟨some 140, .fad 2 (.t 14), none⟩,
    ⟨some 141, .ld none (.t 140), none⟩,
    ⟨some 142, .iad 1 (.t 139) (.t 141), none⟩,
    ⟨some 143, .ld none (.t 142), none⟩,
    ⟨some 144, .fad 2 (.t 14), none⟩,
    ⟨none, .st 1 (.t 144) (.t 143), none⟩] [] [1, 2, 5, 6, 9, 12, 13, 14, 15])
  .skip))
  (.seq (.seq (.reg false [⟨some 145, .mv (.t 15), none⟩,
    ⟨some 146, .bin .gtr (.t 145) (.c (.int .i64 1)), none⟩] [] [1, 2, 5, 6, 9, 12, 13, 14, 146])
  (.cond (.t 146)
  (.reg false [⟨some 147, .mv (.t 12), none⟩,
    ⟨some 148, .fad 3 (.t 14), none⟩,
    ⟨some 149, .ld none (.t 148), none⟩,
    ⟨some 150, .iad 1 (.t 147) (.t 149), none⟩,
    ⟨some 151, .ld none (.t 150), none⟩,
    ⟨some 152, .fad 3 (.t 14), none⟩,
    ⟨none, .st 1 (.t 152) (.t 151), none⟩] [] [1, 2, 5, 6, 9, 12, 13, 14])
  .skip))
  (.seq (.reg false [⟨some 153, .mv (.t 12), none⟩,
    ⟨some 154, .mv (.t 13), none⟩,
    ⟨some 155, .mv (.t 5), none⟩,
    ⟨some 156, .len false (.t 155), none⟩,
    ⟨some 157, .iad 1 (.t 153) (.t 154), none⟩,
    ⟨none, .st 1 (.t 157) (.t 156), none⟩] [] [1, 2, 5, 6, 9, 12, 13, 14])
  (.reg false [⟨some 158, .mv (.t 5), none⟩,
    ⟨some 159, .ld (some 4) (.t 14), none⟩,
    ⟨some 160, .bsl 4 1 [.int .i64 0, .int .i64 0, .int .i64 0, .int .i64 0] [(0, 4, .t 159)], none⟩,
    ⟨some 161, .app 4 32 (.t 158) (.t 160), none⟩,
    ⟨some 5, .mv (.t 161), none⟩] [] [1, 2, 5, 6, 9, 12, 13]))))))))
  (.reg false [⟨some 123, .mv (.t 13), none⟩,
    ⟨some 124, .bin .add (.t 123) (.c (.int .i64 1)), none⟩,
    ⟨some 13, .mv (.t 124), none⟩] [] [1, 2, 5, 6, 9, 12, 13]))))))
  (.seq (.reg false [⟨some 162, .mv (.t 5), none⟩,
    ⟨some 4, .mv (.t 162), none⟩] [] [4])
  .ret))))))))))), [(4, none)]⟩
theorem spec_ProofTrim_ok : okFn Tryz.prog 19 spec_ProofTrim = true := by kernel_rfl
def impl_Pool_isTerm : IFn := ⟨13, (.seq (.reg false [⟨some 4, .mv (.c (.bool false)), none⟩] [] [0, 1])
  (.seq (.reg false [⟨some 5, .mv (.t 1), none⟩,
    ⟨some 6, .mv (.t 0), none⟩,
    ⟨some 7, .nck (.t 6), none⟩,
    ⟨some 8, .fad 0 (.t 7), none⟩,
    ⟨some 9, .ld none (.t 8), none⟩,
    ⟨some 10, .len false (.t 9), none⟩,
    ⟨some 11, .bin .sub (.t 10) (.c (.int .i64 1)), none⟩,
    ⟨some 12, .call 39 [.t 5, .c (.int .i64 0), .t 11], none⟩,
    ⟨some 4, .mv (.t 12), none⟩] [] [4])
  .ret)), [(4, none)]⟩
theorem impl_Pool_isTerm_ok : okFn Tryz.prog 20 impl_Pool_isTerm = true := by kernel_rfl
def impl_KnowOk : IFn := ⟨38, (.seq (.reg false [⟨some 2, .box (.t 0), none⟩,
    ⟨some 4, .mv (.c (.bool false)), none⟩] [] [1, 2])
  (.seq (.seq (.reg false [⟨some 7, .mv (.t 1), none⟩,
    ⟨some 8, .len false (.t 7), none⟩,
    ⟨some 9, .mv (.c (.int .i64 0)), none⟩] [] [1, 2, 7, 8, 9])
  (.block 0 (.loop (.seq (.reg false [⟨some 10, .bin .lss (.t 9) (.t 8), none⟩] [] [1, 2, 7, 8, 9, 10])
  (.seq (.cond (.t 10)
  .skip
  (.exit 0))
  (.seq (.block 1 (.seq (.reg false [⟨some 11, .mv (.t 9), none⟩,
    ⟨some 12, .iad 1 (.t 7) (.t 9), none⟩,
    ⟨some 13, .ld none (.t 12), none⟩,
    ⟨some 5, .mv (.t 11), none⟩,
    ⟨some 6, .mv (.t 13), none⟩] [] [1, 2, 5, 6, 7, 8, 9])
  (.seq (.reg false [⟨some 14, .mv (.t 6), none⟩,
    ⟨some 15, .call 20 [.t 2, .t 14], none⟩,
    ⟨some 16, .not (.t 15), none⟩,
    ⟨some 17, .mv (.t 16), none⟩,
    ⟨some 18, .mv (.t 5), some (17, false)⟩,
    ⟨some 19, .bin .gtr (.t 18) (.c (.int .i64 0)), some (17, false)⟩,
    ⟨some 20, .mv (.t 19), some (17, false)⟩,
    ⟨some 21, .mv (.t 6), some (20, true)⟩,
    ⟨some 22, .mv (.t 1), some (20, true)⟩,
    ⟨some 23, .mv (.t 5), some (20, true)⟩,
    ⟨some 24, .bin .sub (.t 23) (.c (.int .i64 1)), some (20, true)⟩,
    ⟨some 25, .iad 1 (.t 22) (.t 24), some (20, true)⟩,
    ⟨some 26, .ld none (.t 25), some (20, true)⟩,
    ⟨some 27, .bin .leq (.t 21) (.t 26), some (20, true)⟩,
    ⟨some 28, .pick (.t 20) (.t 27) (.c (.bool false)), some (17, false)⟩,
    ⟨some 29, .pick (.t 17) (.c (.bool true)) (.t 28), none⟩] [] [1, 2, 7, 8, 9, 29])
  (.cond (.t 29)
  (.seq (.reg false [⟨some 4, .mv (.c (.bool false)), none⟩] [] [4])
  .ret)
  .skip))))
  (.reg false [⟨some 30, .bin .add (.t 9) (.c (.int .i64 1)), none⟩,
    ⟨some 9, .mv (.t 30), none⟩] [] [1, 2, 7, 8, 9])))))))
  (.seq (.reg false [⟨some 31, .mv (.t 1), none⟩,
    ⟨some 32, .len false (.t 31), none⟩,
    ⟨some 33, .bin .leq (.t 32) (.c (.int .i64 200)), none⟩,
    ⟨some 34, .mv (.t 33), none⟩,
    ⟨some 35, .ld (some 1) (.t 2), some (34, true)⟩,
    ⟨some 36, .call 40 [.t 35], some (34, true)⟩,
    ⟨some 37, .pick (.t 34) (.t 36) (.c (.bool false)), none⟩,
    ⟨some 4, .mv (.t 37), none⟩] [] [4])
  .ret))), [(4, none)]⟩
theorem impl_KnowOk_ok : okFn Tryz.prog 21 impl_KnowOk = true := by kernel_rfl
def impl_Pool_derives : IFn := ⟨16, (.seq (.reg false [⟨some 4, .mv (.c (.nil)), none⟩] [] [0, 1])
  (.seq (.reg false [⟨some 8, .mv (.t 0), none⟩,
    ⟨some 9, .mv (.t 1), none⟩,
    ⟨some 10, .call 41 [.t 8, .t 9], none⟩,
    ⟨some 7, .mv (.t 10), none⟩,
    ⟨some 11, .ext (.t 7) 0, none⟩,
    ⟨some 12, .ext (.t 7) 1, none⟩,
    ⟨some 5, .mv (.t 11), none⟩,
    ⟨some 6, .mv (.t 12), none⟩] [] [0, 5])
  (.seq (.reg false [⟨some 13, .mv (.t 0), none⟩,
    ⟨some 14, .mv (.t 5), none⟩,
    ⟨some 15, .call 42 [.t 13, .t 14], none⟩,
    ⟨some 4, .mv (.t 15), none⟩] [] [4])
  .ret))), [(4, none)]⟩
theorem impl_Pool_derives_ok : okFn Tryz.prog 22 impl_Pool_derives = true := by kernel_rfl
def impl_Pool_isProof : IFn := ⟨43, (.seq (.reg false [⟨some 6, .mv (.c (.bool false)), none⟩] [] [0, 1, 2])
  (.seq (.seq (.reg false [⟨some 10, .mv (.t 2), none⟩,
    ⟨some 11, .len false (.t 10), none⟩,
    ⟨some 12, .call 39 [.t 11, .c (.int .i64 1), .c (.int .i64 500)], none⟩,
    ⟨some 13, .not (.t 12), none⟩] [] [0, 1, 2, 13])
  (.cond (.t 13)
  (.seq (.reg false [⟨some 6, .mv (.c (.bool false)), none⟩] [] [6])
  .ret)
  .skip))
  (.seq (.reg false [⟨some 14, .mkm false, none⟩,
    ⟨some 7, .mv (.t 14), none⟩] [] [0, 1, 2, 7])
  (.seq (.seq (.reg false [⟨some 15, .mv (.t 2), none⟩,
    ⟨some 16, .len false (.t 15), none⟩,
    ⟨some 17, .mv (.c (.int .i64 0)), none⟩] [] [0, 1, 2, 7, 15, 16, 17])
  (.block 0 (.loop (.seq (.reg false [⟨some 18, .bin .lss (.t 17) (.t 16), none⟩] [] [0, 1, 2, 7, 15, 16, 17, 18])
  (.seq (.cond (.t 18)
  .skip
  (.exit 0))
  (.seq (.block 1 (.seq (.reg false [⟨some 19, .mv (.t 17), none⟩,
    ⟨some 20, .iad 4 (.t 15) (.t 17), none⟩,
    ⟨some 21, .ld (some 4) (.t 20), none⟩,
    ⟨some 9, .new [.int .i64 0, .int .i64 0, .int .i64 0, .int .i64 0], none⟩,
    ⟨some 8, .mv (.t 19), none⟩,
    ⟨none, .st 4 (.t 9) (.t 21), none⟩] [] [0, 1, 2, 7, 8, 9, 15, 16, 17])
  (.seq (.reg false [⟨some 22, .mv (.t 7), none⟩,
    ⟨some 23, .fad 1 (.t 9), none⟩,
    ⟨some 24, .ld none (.t 23), none⟩,
    ⟨some 25, .mlk false (.t 22) (.t 24), none⟩,
    ⟨some 26, .bin .add (.t 25) (.c (.int .i64 1)), none⟩,
    ⟨none, .mup false (.t 22) (.t 24) (.t 26), none⟩] [] [0, 1, 2, 7, 8, 9, 15, 16, 17])
  (.seq (.reg true [⟨some 27, .mv (.t 7), none⟩,
    ⟨some 28, .fad 1 (.t 9), none⟩,
    ⟨some 29, .ld none (.t 28), none⟩,
    ⟨some 30, .mlk false (.t 27) (.t 29), none⟩,
    ⟨some 31, .bin .gtr (.t 30) (.c (.int .i64 1)), none⟩,
    ⟨some 32, .mv (.t 31), none⟩,
    ⟨some 33, .mv (.t 0), some (32, false)⟩,
    ⟨some 34, .mv (.t 1), some (32, false)⟩,
    ⟨some 35, .mv (.t 2), some (32, false)⟩,
    ⟨some 36, .mv (.t 8), some (32, false)⟩,
    ⟨some 37, .slc 4 (.t 35) none (some (.t 36)) none, some (32, false)⟩,
    ⟨some 38, .ld (some 4) (.t 9), some (32, false)⟩,
    ⟨some 39, .call 43 [.t 33, .t 34, .t 37, .t 38], some (32, false)⟩,
    ⟨some 40, .not (.t 39), some (32, false)⟩,
    ⟨some 41, .pick (.t 32) (.c (.bool true)) (.t 40), none⟩] [0, 0, 2, 7, 15, 31, 63, 63, 63, 63, 831, 63, 4095, 8191, 16383] [0, 1, 2, 7, 15, 16, 17, 41])
  (.cond (.t 41)
  (.seq (.reg false [⟨some 6, .mv (.c (.bool false)), none⟩] [] [6])
  .ret)
  .skip)))))
  (.reg false [⟨some 42, .bin .add (.t 17) (.c (.int .i64 1)), none⟩,
    ⟨some 17, .mv (.t 42), none⟩] [] [0, 1, 2, 7, 15, 16, 17])))))))
  (.seq (.reg false [⟨some 6, .mv (.c (.bool true)), none⟩] [] [6])
  .ret))))), [(6, none)]⟩
theorem impl_Pool_isProof_ok : okFn Tryz.prog 23 impl_Pool_isProof = true := by kernel_rfl
def spec_l9Proof : IFn := ⟨64, (.seq (.reg false [⟨some 3, .box (.t 0), none⟩,
    ⟨some 6, .mv (.c (.bool false)), none⟩] [] [1, 2, 3])
  (.seq (.seq (.reg false [⟨some 10, .ld (some 1) (.t 3), none⟩,
    ⟨some 11, .mv (.t 1), none⟩,
    ⟨some 12, .call 34 [.t 10, .t 11], none⟩,
    ⟨some 13, .not (.t 12), none⟩,
    ⟨some 14, .mv (.t 13), none⟩,
    ⟨some 15, .mv (.t 2), some (14, false)⟩,
    ⟨some 16, .len false (.t 15), some (14, false)⟩,
    ⟨some 17, .bin .gtr (.t 16) (.c (.int .i64 500)), some (14, false)⟩,
    ⟨some 18, .pick (.t 14) (.c (.bool true)) (.t 17), none⟩] [] [1, 2, 3, 18])
  (.cond (.t 18)
  (.seq (.reg false [⟨some 6, .mv (.c (.bool false)), none⟩] [] [6])
  .ret)
  .skip))
  (.seq (.seq (.reg false [⟨some 7, .mv (.c (.int .i64 0)), none⟩] [] [1, 2, 3, 7])
  (.block 0 (.loop (.seq (.seq (.reg false [⟨some 19, .mv (.t 7), none⟩,
    ⟨some 20, .mv (.t 2), none⟩,
    ⟨some 21, .len false (.t 20), none⟩,
    ⟨some 22, .bin .lss (.t 19) (.t 21), none⟩] [] [1, 2, 3, 7, 22])
  (.cond (.t 22)
  .skip
  (.exit 0)))
  (.seq (.block 1 (.seq (.reg false [⟨some 25, .mv (.t 2), none⟩,
    ⟨some 26, .mv (.t 7), none⟩,
    ⟨some 27, .iad 4 (.t 25) (.t 26), none⟩,
    ⟨some 28, .ld (some 4) (.t 27), none⟩,
    ⟨some 8, .new [.int .i64 0, .int .i64 0, .int .i64 0, .int .i64 0], none⟩,
    ⟨none, .st 4 (.t 8) (.t 28), none⟩] [] [1, 2, 3, 7, 8])
  (.seq (.seq (.reg true [⟨some 29, .ld (some 1) (.t 3), none⟩,
    ⟨some 30, .fad 1 (.t 8), none⟩,
    ⟨some 31, .ld none (.t 30), none⟩,
    ⟨some 32, .call 44 [.t 29, .t 31], none⟩,
    ⟨some 33, .not (.t 32), none⟩,
    ⟨some 34, .mv (.t 33), none⟩,
    ⟨some 35, .ld (some 1) (.t 3), some (34, false)⟩,
    ⟨some 36, .mv (.t 1), some (34, false)⟩,
    ⟨some 37, .ld (some 4) (.t 8), some (34, false)⟩,
    ⟨some 38, .mv (.t 2), some (34, false)⟩,
    ⟨some 39, .mv (.t 7), some (34, false)⟩,
    ⟨some 40, .fad 2 (.t 8), some (34, false)⟩,
    ⟨some 41, .ld none (.t 40), some (34, false)⟩,
    ⟨some 42, .call 46 [.t 38, .t 39, .t 41], some (34, false)⟩,
    ⟨some 43, .mv (.t 2), some (34, false)⟩,
    ⟨some 44, .mv (.t 7), some (34, false)⟩,
    ⟨some 45, .fad 3 (.t 8), some (34, false)⟩,
    ⟨some 46, .ld none (.t 45), some (34, false)⟩,
    ⟨some 47, .call 46 [.t 43, .t 44, .t 46], some (34, false)⟩,
    ⟨some 48, .call 45 [.t 35, .t 36, .t 37, .t 42, .t 47], some (34, false)⟩,
    ⟨some 49, .not (.t 48), some (34, false)⟩,
    ⟨some 50, .pick (.t 34) (.c (.bool true)) (.t 49), none⟩] [0, 0, 2, 7, 15, 31, 63, 63, 63, 63, 63, 63, 2111, 7743, 63, 63, 63, 65599, 261695, 524287, 1048575, 2097151] [1, 2, 3, 7, 8, 50])
  (.cond (.t 50)
  (.seq (.reg false [⟨some 6, .mv (.c (.bool false)), none⟩] [] [6])
  .ret)
  .skip))
  (.seq (.reg false [⟨some 9, .mv (.c (.int .i64 0)), none⟩] [] [1, 2, 3, 7, 8, 9])
  (.block 2 (.loop (.seq (.seq (.reg false [⟨some 51, .mv (.t 9), none⟩,
    ⟨some 52, .mv (.t 7), none⟩,
    ⟨some 53, .bin .lss (.t 51) (.t 52), none⟩] [] [1, 2, 3, 7, 8, 9, 53])
  (.cond (.t 53)
  .skip
  (.exit 2)))
  (.seq (.block 3 (.seq (.reg true [⟨some 56, .mv (.t 2), none⟩,
    ⟨some 57, .mv (.t 9), none⟩,
    ⟨some 58, .iad 4 (.t 56) (.t 57), none⟩,
    ⟨some 59, .fad 1 (.t 58), none⟩,
    ⟨some 60, .ld none (.t 59), none⟩,
    ⟨some 61, .fad 1 (.t 8), none⟩,
    ⟨some 62, .ld none (.t 61), none⟩,
    ⟨some 63, .bin .eql (.t 60) (.t 62), none⟩] [0, 0, 3, 7, 15, 0, 32, 127] [1, 2, 3, 7, 8, 9, 63])
  (.cond (.t 63)
  (.seq (.reg false [⟨some 6, .mv (.c (.bool false)), none⟩] [] [6])
  .ret)
  .skip)))
  (.reg false [⟨some 54, .mv (.t 9), none⟩,
    ⟨some 55, .bin .add (.t 54) (.c (.int .i64 1)), none⟩,
    ⟨some 9, .mv (.t 55), none⟩] [] [1, 2, 3, 7, 8, 9])))))))))
  (.reg false [⟨some 23, .mv (.t 7), none⟩,
    ⟨some 24, .bin .add (.t 23) (.c (.int .i64 1)), none⟩,
    ⟨some 7, .mv (.t 24), none⟩] [] [1, 2, 3, 7]))))))
  (.seq (.reg false [⟨some 6, .mv (.c (.bool true)), none⟩] [] [6])
  .ret)))), [(6, none)]⟩
theorem spec_l9Proof_ok : okFn Tryz.prog 24 spec_l9Proof = true := by kernel_rfl
def spec_l6Draw : IFn := ⟨20, (.seq (.reg false [⟨some 2, .new [.nil], none⟩,
    ⟨some 3, .mv (.c (.nil)), none⟩,
    ⟨some 4, .mv (.c (.int .i64 0)), none⟩] [] [0, 2])
  (.seq (.reg false [⟨some 8, .mv (.t 0), none⟩,
    ⟨some 9, .call 26 [.t 8], none⟩,
    ⟨some 5, .mv (.t 9), none⟩] [] [2, 5])
  (.seq (.reg false [⟨some 10, .mv (.t 5), none⟩,
    ⟨some 11, .call 47 [.t 10], none⟩,
    ⟨some 6, .new [.nil], none⟩,
    ⟨none, .st 1 (.t 6) (.t 11), none⟩] [] [2, 5, 6])
  (.seq (.reg false [⟨some 12, .mv (.t 5), none⟩,
    ⟨some 13, .ld (some 1) (.t 6), none⟩,
    ⟨some 14, .call 48 [.t 12, .t 13], none⟩,
    ⟨some 7, .mv (.t 14), none⟩] [] [2, 5, 6, 7])
  (.seq (.reg true [⟨some 15, .ld (some 1) (.t 6), none⟩,
    ⟨some 16, .mv (.t 7), none⟩,
    ⟨some 17, .mv (.t 5), none⟩,
    ⟨some 18, .ld (some 1) (.t 6), none⟩,
    ⟨some 19, .call 31 [.t 17, .t 18], none⟩,
    ⟨none, .st 1 (.t 2) (.t 15), none⟩,
    ⟨some 3, .mv (.t 16), none⟩,
    ⟨some 4, .mv (.t 19), none⟩] [0, 0, 0, 0, 12, 29, 63, 127] [2, 3, 4])
  .ret))))), [(2, some (some 1)), (3, none), (4, none)]⟩
theorem spec_l6Draw_ok : okFn Tryz.prog 25 spec_l6Draw = true := by kernel_rfl
def spec_l1New : IFn := ⟨32, (.seq (.reg false [⟨some 2, .mv (.c (.nilp)), none⟩] [] [0])
  (.seq (.reg false [⟨some 5, .mv (.t 0), none⟩,
    ⟨some 6, .len false (.t 5), none⟩,
    ⟨some 7, .bin .add (.c (.int .i64 12241)) (.t 6), none⟩,
    ⟨some 3, .mv (.t 7), none⟩] [] [0, 3])
  (.seq (.seq (.reg false [⟨some 4, .mv (.c (.int .i64 0)), none⟩] [] [0, 3, 4])
  (.block 0 (.loop (.seq (.seq (.reg false [⟨some 8, .mv (.t 4), none⟩,
    ⟨some 9, .mv (.t 0), none⟩,
    ⟨some 10, .len false (.t 9), none⟩,
    ⟨some 11, .bin .lss (.t 8) (.t 10), none⟩,
    ⟨some 12, .mv (.t 11), none⟩,
    ⟨some 13, .mv (.t 4), some (12, true)⟩,
    ⟨some 14, .bin .lss (.t 13) (.c (.int .i64 4000)), some (12, true)⟩,
    ⟨some 15, .pick (.t 12) (.t 14) (.c (.bool false)), none⟩] [] [0, 3, 4, 15])
  (.cond (.t 15)
  .skip
  (.exit 0)))
  (.seq (.block 1 (.reg false [⟨some 18, .mv (.t 3), none⟩,
    ⟨some 19, .bin .mul (.t 18) (.c (.int .i64 131)), none⟩,
    ⟨some 20, .mv (.t 0), none⟩,
    ⟨some 21, .mv (.t 4), none⟩,
    ⟨some 22, .iad 1 (.t 20) (.t 21), none⟩,
    ⟨some 23, .ld none (.t 22), none⟩,
    ⟨some 24, .conv .i64 (.t 23), none⟩,
    ⟨some 25, .bin .add (.t 19) (.t 24), none⟩,
    ⟨some 26, .bin .add (.t 25) (.c (.int .i64 7)), none⟩,
    ⟨some 27, .bin .and (.t 26) (.c (.int .i64 1073741823)), none⟩,
    ⟨some 3, .mv (.t 27), none⟩] [] [0, 3, 4]))
  (.reg false [⟨some 16, .mv (.t 4), none⟩,
    ⟨some 17, .bin .add (.t 16) (.c (.int .i64 1)), none⟩,
    ⟨some 4, .mv (.t 17), none⟩] [] [0, 3, 4]))))))
  (.seq (.reg false [⟨some 28, .mv (.t 0), none⟩,
    ⟨some 29, .mv (.t 3), none⟩,
    ⟨some 30, .build [.nil, .int .i64 0, .int .i64 0] [(0, 1, .t 28), (2, 1, .t 29)], none⟩,
    ⟨some 31, .box (.t 30), none⟩,
    ⟨some 2, .mv (.t 31), none⟩] [] [2])
  .ret)))), [(2, none)]⟩
theorem spec_l1New_ok : okFn Tryz.prog 26 spec_l1New = true := by kernel_rfl
def spec_DerivesList : IFn := ⟨21, (.seq (.reg false [⟨some 2, .box (.t 0), none⟩,
    ⟨some 4, .mv (.c (.nil)), none⟩] [] [1, 2])
  (.seq (.seq (.reg false [⟨some 7, .ld (some 1) (.t 2), none⟩,
    ⟨some 8, .mv (.t 1), none⟩,
    ⟨some 9, .call 34 [.t 7, .t 8], none⟩,
    ⟨some 10, .not (.t 9), none⟩] [] [1, 2, 10])
  (.cond (.t 10)
  (.seq (.reg false [⟨some 11, .bsl 1 0 [.int .i64 0] [], none⟩,
    ⟨some 4, .mv (.t 11), none⟩] [] [4])
  .ret)
  .skip))
  (.seq (.reg false [⟨some 13, .ld (some 1) (.t 2), none⟩,
    ⟨some 14, .mv (.t 1), none⟩,
    ⟨some 15, .call 49 [.t 13, .t 14], none⟩,
    ⟨some 12, .mv (.t 15), none⟩,
    ⟨some 16, .ext (.t 12) 0, none⟩,
    ⟨some 17, .ext (.t 12) 1, none⟩,
    ⟨some 5, .mv (.t 16), none⟩,
    ⟨some 6, .mv (.t 17), none⟩] [] [2, 5])
  (.seq (.reg false [⟨some 18, .ld (some 1) (.t 2), none⟩,
    ⟨some 19, .mv (.t 5), none⟩,
    ⟨some 20, .call 50 [.t 18, .t 19], none⟩,
    ⟨some 4, .mv (.t 20), none⟩] [] [4])
  .ret)))), [(4, none)]⟩
theorem spec_DerivesList_ok : okFn Tryz.prog 27 spec_DerivesList = true := by kernel_rfl
def spec_l1Once : IFn := ⟨9, (.seq (.reg false [⟨some 4, .mv (.c (.bool false)), none⟩] [] [0, 1])
  (.seq (.reg false [⟨some 5, .mv (.t 0), none⟩,
    ⟨some 6, .mv (.t 1), none⟩,
    ⟨some 7, .call 29 [.t 5, .t 6], none⟩,
    ⟨some 8, .bin .eql (.t 7) (.c (.int .i64 0)), none⟩,
    ⟨some 4, .mv (.t 8), none⟩] [] [4])
  .ret)), [(4, none)]⟩
theorem spec_l1Once_ok : okFn Tryz.prog 28 spec_l1Once = true := by kernel_rfl
def spec_l1Below : IFn := ⟨37, (.seq (.reg false [⟨some 4, .mv (.c (.int .i64 0)), none⟩] [] [0, 1])
  (.seq (.seq (.reg false [⟨some 9, .mv (.t 1), none⟩,
    ⟨some 10, .bin .leq (.t 9) (.c (.int .i64 0)), none⟩] [] [0, 1, 10])
  (.cond (.t 10)
  (.seq (.reg false [⟨some 4, .mv (.c (.int .i64 0)), none⟩] [] [4])
  .ret)
  .skip))
  (.seq (.seq (.reg false [⟨some 11, .mv (.t 1), none⟩,
    ⟨some 12, .bin .leq (.t 11) (.c (.int .i64 256)), none⟩] [] [0, 1, 12])
  (.cond (.t 12)
  (.seq (.reg false [⟨some 13, .mv (.t 0), none⟩,
    ⟨some 14, .call 51 [.t 13], none⟩,
    ⟨some 15, .mv (.t 1), none⟩,
    ⟨some 16, .bin .rem (.t 14) (.t 15), none⟩,
    ⟨some 4, .mv (.t 16), none⟩] [] [4])
  .ret)
  .skip))
  (.seq (.reg false [⟨some 17, .mv (.t 0), none⟩,
    ⟨some 18, .call 51 [.t 17], none⟩,
    ⟨some 5, .mv (.t 18), none⟩] [] [0, 1, 5])
  (.seq (.reg false [⟨some 19, .mv (.t 0), none⟩,
    ⟨some 20, .call 51 [.t 19], none⟩,
    ⟨some 6, .mv (.t 20), none⟩] [] [0, 1, 5, 6])
  (.seq (.reg false [⟨some 21, .mv (.t 0), none⟩,
    ⟨some 22, .call 51 [.t 21], none⟩,
    ⟨some 7, .mv (.t 22), none⟩] [] [0, 1, 5, 6, 7])
  (.seq (.reg false [⟨some 23, .mv (.t 0), none⟩,
    ⟨some 24, .call 51 [.t 23], none⟩,
    ⟨some 8, .mv (.t 24), none⟩] [] [1, 5, 6, 7, 8])
  (.seq (.reg false [⟨some 25, .mv (.t 5), none⟩,
    ⟨some 26, .bin .mul (.t 25) (.c (.int .i64 16777216)), none⟩,
    ⟨some 27, .mv (.t 6), none⟩,
    ⟨some 28, .bin .mul (.t 27) (.c (.int .i64 65536)), none⟩,
    ⟨some 29, .bin .add (.t 26) (.t 28), none⟩,
    ⟨some 30, .mv (.t 7), none⟩,
    ⟨some 31, .bin .mul (.t 30) (.c (.int .i64 256)), none⟩,
    ⟨some 32, .bin .add (.t 29) (.t 31), none⟩,
    ⟨some 33, .mv (.t 8), none⟩,
    ⟨some 34, .bin .add (.t 32) (.t 33), none⟩,
    ⟨some 35, .mv (.t 1), none⟩,
    ⟨some 36, .bin .rem (.t 34) (.t 35), none⟩,
    ⟨some 4, .mv (.t 36), none⟩] [] [4])
  .ret)))))))), [(4, none)]⟩
theorem spec_l1Below_ok : okFn Tryz.prog 29 spec_l1Below = true := by kernel_rfl
def spec_l1Min : IFn := ⟨10, (.seq (.reg false [⟨some 4, .mv (.c (.int .i64 0)), none⟩] [] [0, 1])
  (.seq (.seq (.reg false [⟨some 5, .mv (.t 0), none⟩,
    ⟨some 6, .mv (.t 1), none⟩,
    ⟨some 7, .bin .lss (.t 5) (.t 6), none⟩] [] [0, 1, 7])
  (.cond (.t 7)
  (.seq (.reg false [⟨some 8, .mv (.t 0), none⟩,
    ⟨some 4, .mv (.t 8), none⟩] [] [4])
  .ret)
  .skip))
  (.seq (.reg false [⟨some 9, .mv (.t 1), none⟩,
    ⟨some 4, .mv (.t 9), none⟩] [] [4])
  .ret))), [(4, none)]⟩
theorem spec_l1Min_ok : okFn Tryz.prog 30 spec_l1Min = true := by kernel_rfl
def spec_l1DrawTerm : IFn := ⟨19, (.seq (.reg false [⟨some 3, .box (.t 1), none⟩,
    ⟨some 4, .mv (.c (.int .i64 0)), none⟩] [] [0, 3])
  (.seq (.seq (.reg false [⟨some 5, .mv (.t 0), none⟩,
    ⟨some 6, .call 28 [.t 5, .c (.int .i64 25)], none⟩] [] [0, 3, 6])
  (.cond (.t 6)
  (.seq (.reg false [⟨some 7, .mv (.t 0), none⟩,
    ⟨some 8, .fad 0 (.t 3), none⟩,
    ⟨some 9, .ld none (.t 8), none⟩,
    ⟨some 10, .len false (.t 9), none⟩,
    ⟨some 11, .bsl 1 2 [.int .i64 0] [(0, 1, .c (.int .i64 (-1))), (1, 1, .t 10)], none⟩,
    ⟨some 12, .call 52 [.t 7, .t 11], none⟩,
    ⟨some 4, .mv (.t 12), none⟩] [] [4])
  .ret)
  .skip))
  (.seq (.reg false [⟨some 13, .mv (.t 0), none⟩,
    ⟨some 14, .fad 0 (.t 3), none⟩,
    ⟨some 15, .ld none (.t 14), none⟩,
    ⟨some 16, .len false (.t 15), none⟩,
    ⟨some 17, .call 54 [.t 16, .c (.int .i64 1)], none⟩,
    ⟨some 18, .call 53 [.t 13, .t 17], none⟩,
    ⟨some 4, .mv (.t 18), none⟩] [] [4])
  .ret))), [(4, none)]⟩
theorem spec_l1DrawTerm_ok : okFn Tryz.prog 31 spec_l1DrawTerm = true := by kernel_rfl
def impl_Pool_proofAll : IFn := ⟨66, (.seq (.reg false [⟨some 4, .mv (.c (.nil)), none⟩] [] [0, 1])
  (.seq (.reg false [⟨some 11, .mv (.t 0), none⟩,
    ⟨some 12, .mv (.t 1), none⟩,
    ⟨some 13, .mv (.t 0), none⟩,
    ⟨some 14, .nck (.t 13), none⟩,
    ⟨some 15, .fad 0 (.t 14), none⟩,
    ⟨some 16, .ld none (.t 15), none⟩,
    ⟨some 17, .len false (.t 16), none⟩,
    ⟨some 18, .mk 1 8 [.int .i64 0] (.t 17) (.t 17), none⟩,
    ⟨some 19, .build [.nilp, .nil, .nil, .nil] [(0, 1, .t 11), (1, 1, .t 12), (3, 1, .t 18)], none⟩,
    ⟨some 5, .new [.nilp, .nil, .nil, .nil], none⟩,
    ⟨none, .st 4 (.t 5) (.t 19), none⟩] [] [5])
  (.seq (.seq (.reg false [⟨some 20, .fad 3 (.t 5), none⟩,
    ⟨some 21, .ld none (.t 20), none⟩,
    ⟨some 22, .len false (.t 21), none⟩,
    ⟨some 23, .mv (.c (.int .i64 0)), none⟩] [] [5, 22, 23])
  (.block 0 (.loop (.seq (.reg false [⟨some 24, .bin .lss (.t 23) (.t 22), none⟩] [] [5, 22, 23, 24])
  (.seq (.cond (.t 24)
  .skip
  (.exit 0))
  (.seq (.block 1 (.seq (.reg false [⟨some 25, .mv (.t 23), none⟩,
    ⟨some 6, .mv (.t 25), none⟩] [] [5, 6, 22, 23])
  (.reg false [⟨some 26, .fad 3 (.t 5), none⟩,
    ⟨some 27, .ld none (.t 26), none⟩,
    ⟨some 28, .mv (.t 6), none⟩,
    ⟨some 29, .iad 1 (.t 27) (.t 28), none⟩,
    ⟨none, .st 1 (.t 29) (.c (.int .i64 (-1))), none⟩] [] [5, 22, 23])))
  (.reg false [⟨some 30, .bin .add (.t 23) (.c (.int .i64 1)), none⟩,
    ⟨some 23, .mv (.t 30), none⟩] [] [5, 22, 23])))))))
  (.seq (.seq (.reg false [⟨some 7, .mv (.c (.bool true)), none⟩] [] [5, 7])
  (.block 2 (.loop (.seq (.seq (.reg false [⟨some 31, .mv (.t 7), none⟩] [] [5, 31])
  (.cond (.t 31)
  .skip
  (.exit 2)))
  (.block 3 (.seq (.reg false [⟨some 7, .mv (.c (.bool false)), none⟩] [] [5, 7])
  (.seq (.reg false [⟨some 32, .fad 3 (.t 5), none⟩,
    ⟨some 33, .ld none (.t 32), none⟩,
    ⟨some 34, .len false (.t 33), none⟩,
    ⟨some 35, .mv (.c (.int .i64 0)), none⟩] [] [5, 7, 34, 35])
  (.block 4 (.loop (.seq (.reg false [⟨some 36, .bin .lss (.t 35) (.t 34), none⟩] [] [5, 7, 34, 35, 36])
  (.seq (.cond (.t 36)
  .skip
  (.exit 4))
  (.seq (.block 5 (.seq (.reg false [⟨some 37, .mv (.t 35), none⟩,
    ⟨some 8, .mv (.t 37), none⟩] [] [5, 7, 8, 34, 35])
  (.seq (.seq (.reg false [⟨some 38, .fad 3 (.t 5), none⟩,
    ⟨some 39, .ld none (.t 38), none⟩,
    ⟨some 40, .mv (.t 8), none⟩,
    ⟨some 41, .iad 1 (.t 39) (.t 40), none⟩,
    ⟨some 42, .ld none (.t 41), none⟩,
    ⟨some 43, .bin .geq (.t 42) (.c (.int .i64 0)), none⟩] [] [5, 7, 8, 34, 35, 43])
  (.cond (.t 43)
  (.exit 5)
  .skip))
  (.seq (.reg false [⟨some 45, .mv (.t 8), none⟩,
    ⟨some 46, .call 55 [.t 5, .t 45], none⟩,
    ⟨some 44, .mv (.t 46), none⟩,
    ⟨some 47, .ext (.t 44) 0, none⟩,
    ⟨some 48, .ext (.t 44) 1, none⟩,
    ⟨some 9, .new [.int .i64 0, .int .i64 0, .int .i64 0, .int .i64 0], none⟩,
    ⟨none, .st 4 (.t 9) (.t 47), none⟩,
    ⟨some 10, .mv (.t 48), none⟩] [] [5, 7, 8, 9, 10, 34, 35])
  (.seq (.reg false [⟨some 49, .mv (.t 10), none⟩] [] [5, 7, 8, 9, 34, 35, 49])
  (.cond (.t 49)
  (.seq (.reg false [⟨some 50, .fad 3 (.t 5), none⟩,
    ⟨some 51, .ld none (.t 50), none⟩,
    ⟨some 52, .mv (.t 8), none⟩,
    ⟨some 53, .fad 2 (.t 5), none⟩,
    ⟨some 54, .ld none (.t 53), none⟩,
    ⟨some 55, .len false (.t 54), none⟩,
    ⟨some 56, .iad 1 (.t 51) (.t 52), none⟩,
    ⟨none, .st 1 (.t 56) (.t 55), none⟩] [] [5, 9, 34, 35])
  (.seq (.reg false [⟨some 57, .fad 2 (.t 5), none⟩,
    ⟨some 58, .ld none (.t 57), none⟩,
    ⟨some 59, .ld (some 4) (.t 9), none⟩,
    ⟨some 60, .bsl 4 1 [.int .i64 0, .int .i64 0, .int .i64 0, .int .i64 0] [(0, 4, .t 59)], none⟩,
    ⟨some 61, .app 4 32 (.t 58) (.t 60), none⟩,
    ⟨some 62, .fad 2 (.t 5), none⟩,
    ⟨none, .st 1 (.t 62) (.t 61), none⟩] [] [5, 34, 35])
  (.reg false [⟨some 7, .mv (.c (.bool true)), none⟩] [] [5, 7, 34, 35])))
  .skip))))))
  (.reg false [⟨some 63, .bin .add (.t 35) (.c (.int .i64 1)), none⟩,
    ⟨some 35, .mv (.t 63), none⟩] [] [5, 7, 34, 35])))))))))))))
  (.seq (.reg false [⟨some 64, .fad 2 (.t 5), none⟩,
    ⟨some 65, .ld none (.t 64), none⟩,
    ⟨some 4, .mv (.t 65), none⟩] [] [4])
  .ret))))), [(4, none)]⟩
theorem impl_Pool_proofAll_ok : okFn Tryz.prog 32 impl_Pool_proofAll = true := by kernel_rfl
def impl_Pool_needs : IFn := ⟨24, (.seq (.reg false [⟨some 3, .box (.t 1), none⟩,
    ⟨some 4, .mv (.c (.int .i64 0)), none⟩] [] [0, 3])
  (.seq (.seq (.reg false [⟨some 5, .fad 0 (.t 3), none⟩,
    ⟨some 6, .ld none (.t 5), none⟩] [] [0, 3, 6])
  (.block 0 (.seq (.seq (.reg false [⟨some 8, .bin .eql (.t 6) (.c (.int .i64 1)), none⟩,
    ⟨some 7, .mv (.t 8), none⟩] [] [0, 3, 6, 7])
  (.cond (.t 7)
  .skip
  (.reg false [⟨some 9, .bin .eql (.t 6) (.c (.int .i64 2)), none⟩,
    ⟨some 7, .mv (.t 9), none⟩] [] [0, 3, 6, 7])))
  (.cond (.t 7)
  (.seq (.reg false [⟨some 4, .mv (.c (.int .i64 0)), none⟩] [] [4])
  .ret)
  (.seq (.reg false [⟨some 11, .bin .eql (.t 6) (.c (.int .i64 3)), none⟩,
    ⟨some 10, .mv (.t 11), none⟩] [] [0, 3, 6, 10])
  (.cond (.t 10)
  (.seq (.reg false [⟨some 12, .mv (.t 0), none⟩,
    ⟨some 13, .fad 1 (.t 3), none⟩,
    ⟨some 14, .ld none (.t 13), none⟩,
    ⟨some 15, .call 56 [.t 12, .t 14], none⟩,
    ⟨some 16, .len false (.t 15), none⟩,
    ⟨some 4, .mv (.t 16), none⟩] [] [4])
  .ret)
  (.seq (.seq (.reg false [⟨some 18, .bin .eql (.t 6) (.c (.int .i64 4)), none⟩,
    ⟨some 17, .mv (.t 18), none⟩] [] [6, 17])
  (.cond (.t 17)
  .skip
  (.reg false [⟨some 19, .bin .eql (.t 6) (.c (.int .i64 7)), none⟩,
    ⟨some 17, .mv (.t 19), none⟩] [] [6, 17])))
  (.cond (.t 17)
  (.seq (.reg false [⟨some 4, .mv (.c (.int .i64 2)), none⟩] [] [4])
  .ret)
  (.seq (.seq (.reg false [⟨some 21, .bin .eql (.t 6) (.c (.int .i64 5)), none⟩,
    ⟨some 20, .mv (.t 21), none⟩] [] [6, 20])
  (.cond (.t 20)
  .skip
  (.seq (.reg false [⟨some 22, .bin .eql (.t 6) (.c (.int .i64 6)), none⟩,
    ⟨some 20, .mv (.t 22), none⟩] [] [6, 20])
  (.cond (.t 20)
  .skip
  (.reg false [⟨some 23, .bin .eql (.t 6) (.c (.int .i64 8)), none⟩,
    ⟨some 20, .mv (.t 23), none⟩] [] [20])))))
  (.cond (.t 20)
  (.seq (.reg false [⟨some 4, .mv (.c (.int .i64 1)), none⟩] [] [4])
  .ret)
  .skip))))))))))
  (.seq (.reg false [⟨some 4, .mv (.c (.int .i64 (-1))), none⟩] [] [4])
  .ret))), [(4, none)]⟩
theorem impl_Pool_needs_ok : okFn Tryz.prog 33 impl_Pool_needs = true := by kernel_rfl
def spec_KnowOk : IFn := ⟨12, (.seq (.reg false [⟨some 2, .box (.t 0), none⟩,
    ⟨some 4, .mv (.c (.bool false)), none⟩] [] [1, 2])
  (.seq (.reg false [⟨some 5, .ld (some 1) (.t 2), none⟩,
    ⟨some 6, .call 57 [.t 5], none⟩,
    ⟨some 7, .mv (.t 6), none⟩,
    ⟨some 8, .ld (some 1) (.t 2), some (7, true)⟩,
    ⟨some 9, .mv (.t 1), some (7, true)⟩,
    ⟨some 10, .call 58 [.t 8, .t 9], some (7, true)⟩,
    ⟨some 11, .pick (.t 7) (.t 10) (.c (.bool false)), none⟩,
    ⟨some 4, .mv (.t 11), none⟩] [] [4])
  .ret)), [(4, none)]⟩
theorem spec_KnowOk_ok : okFn Tryz.prog 34 spec_KnowOk = true := by kernel_rfl
def spec_l9Step : IFn := ⟨115, (.seq (.reg false [⟨some 4, .box (.t 0), none⟩,
    ⟨some 8, .new [.int .i64 0, .int .i64 0, .int .i64 0, .int .i64 0], none⟩,
    ⟨some 9, .mv (.c (.bool false)), none⟩] [] [1, 2, 3, 4, 8])
  (.seq (.reg false [⟨some 17, .fad 0 (.t 4), none⟩,
    ⟨some 18, .ld none (.t 17), none⟩,
    ⟨some 19, .mv (.t 3), none⟩,
    ⟨some 20, .iad 3 (.t 18) (.t 19), none⟩,
    ⟨some 21, .ld (some 3) (.t 20), none⟩,
    ⟨some 10, .new [.int .i64 0, .int .i64 0, .int .i64 0], none⟩,
    ⟨none, .st 3 (.t 10) (.t 21), none⟩] [] [1, 2, 3, 4, 8, 10])
  (.seq (.reg false [⟨some 22, .ld (some 1) (.t 4), none⟩,
    ⟨some 23, .mv (.t 3), none⟩,
    ⟨some 24, .call 59 [.t 22, .t 23], none⟩,
    ⟨some 11, .mv (.t 24), none⟩] [] [1, 2, 3, 4, 8, 10, 11])
  (.seq (.reg false [⟨some 25, .mv (.t 11), none⟩,
    ⟨some 26, .len false (.t 25), none⟩,
    ⟨some 27, .bin .gtr (.t 26) (.c (.int .i64 0)), none⟩,
    ⟨some 12, .mv (.t 27), none⟩] [] [1, 2, 3, 4, 8, 10, 11, 12])
  (.seq (.seq (.reg false [⟨some 13, .mv (.c (.int .i64 0)), none⟩] [] [1, 2, 3, 4, 8, 10, 11, 12, 13])
  (.block 0 (.loop (.seq (.seq (.reg false [⟨some 28, .mv (.t 13), none⟩,
    ⟨some 29, .mv (.t 11), none⟩,
    ⟨some 30, .len false (.t 29), none⟩,
    ⟨some 31, .bin .lss (.t 28) (.t 30), none⟩] [] [1, 2, 3, 4, 8, 10, 11, 12, 13, 31])
  (.cond (.t 31)
  .skip
  (.exit 0)))
  (.seq (.block 1 (.reg false [⟨some 34, .mv (.t 12), none⟩,
    ⟨some 35, .mv (.t 34), none⟩,
    ⟨some 36, .mv (.t 2), some (35, true)⟩,
    ⟨some 37, .mv (.t 11), some (35, true)⟩,
    ⟨some 38, .mv (.t 13), some (35, true)⟩,
    ⟨some 39, .iad 1 (.t 37) (.t 38), some (35, true)⟩,
    ⟨some 40, .ld none (.t 39), some (35, true)⟩,
    ⟨some 41, .iad 1 (.t 36) (.t 40), some (35, true)⟩,
    ⟨some 42, .ld none (.t 41), some (35, true)⟩,
    ⟨some 43, .bin .geq (.t 42) (.c (.int .i64 0)), some (35, true)⟩,
    ⟨some 44, .pick (.t 35) (.t 43) (.c (.bool false)), none⟩,
    ⟨some 12, .mv (.t 44), none⟩] [] [1, 2, 3, 4, 8, 10, 11, 12, 13]))
  (.reg false [⟨some 32, .mv (.t 13), none⟩,
    ⟨some 33, .bin .add (.t 32) (.c (.int .i64 1)), none⟩,
    ⟨some 13, .mv (.t 33), none⟩] [] [1, 2, 3, 4, 8, 10, 11, 12, 13]))))))
  (.seq (.block 2 (.seq (.reg false [⟨some 46, .mv (.t 1), none⟩,
    ⟨some 47, .mv (.t 3), none⟩,
    ⟨some 48, .call 60 [.t 46, .t 47], none⟩,
    ⟨some 45, .mv (.t 48), none⟩] [] [2, 3, 4, 8, 10, 11, 12, 45])
  (.cond (.t 45)
  (.seq (.reg false [⟨some 49, .mv (.t 3), none⟩,
    ⟨some 50, .build [.int .i64 0, .int .i64 0, .int .i64 0, .int .i64 0] [(0, 1, .c (.int .i64 1)), (1, 1, .t 49)], none⟩,
    ⟨none, .st 4 (.t 8) (.t 50), none⟩,
    ⟨some 9, .mv (.c (.bool true)), none⟩] [] [8, 9])
  .ret)
  (.seq (.reg false [⟨some 52, .fad 0 (.t 10), none⟩,
    ⟨some 53, .ld none (.t 52), none⟩,
    ⟨some 54, .bin .eql (.t 53) (.c (.int .i64 1)), none⟩,
    ⟨some 55, .mv (.t 54), none⟩,
    ⟨some 56, .fad 1 (.t 10), some (55, true)⟩,
    ⟨some 57, .ld none (.t 56), some (55, true)⟩,
    ⟨some 58, .call 61 [.t 57], some (55, true)⟩,
    ⟨some 59, .pick (.t 55) (.t 58) (.c (.bool false)), none⟩,
    ⟨some 51, .mv (.t 59), none⟩] [] [2, 3, 4, 8, 10, 11, 12, 51])
  (.cond (.t 51)
  (.seq (.reg false [⟨some 60, .mv (.t 3), none⟩,
    ⟨some 61, .build [.int .i64 0, .int .i64 0, .int .i64 0, .int .i64 0] [(0, 1, .c (.int .i64 2)), (1, 1, .t 60)], none⟩,
    ⟨none, .st 4 (.t 8) (.t 61), none⟩,
    ⟨some 9, .mv (.c (.bool true)), none⟩] [] [8, 9])
  .ret)
  (.seq (.reg false [⟨some 63, .mv (.t 12), none⟩,
    ⟨some 64, .mv (.t 63), none⟩,
    ⟨some 65, .mv (.t 11), some (64, true)⟩,
    ⟨some 66, .len false (.t 65), some (64, true)⟩,
    ⟨some 67, .bin .eql (.t 66) (.c (.int .i64 1)), some (64, true)⟩,
    ⟨some 68, .pick (.t 64) (.t 67) (.c (.bool false)), none⟩,
    ⟨some 62, .mv (.t 68), none⟩] [] [2, 3, 4, 8, 10, 12, 62])
  (.cond (.t 62)
  (.seq (.reg false [⟨some 69, .mv (.t 3), none⟩,
    ⟨some 70, .mv (.t 2), none⟩,
    ⟨some 71, .fad 1 (.t 10), none⟩,
    ⟨some 72, .ld none (.t 71), none⟩,
    ⟨some 73, .iad 1 (.t 70) (.t 72), none⟩,
    ⟨some 74, .ld none (.t 73), none⟩,
    ⟨some 75, .build [.int .i64 0, .int .i64 0, .int .i64 0, .int .i64 0] [(0, 1, .c (.int .i64 3)), (1, 1, .t 69), (2, 1, .t 74)], none⟩,
    ⟨none, .st 4 (.t 8) (.t 75), none⟩,
    ⟨some 9, .mv (.c (.bool true)), none⟩] [] [8, 9])
  .ret)
  (.seq (.reg false [⟨some 77, .mv (.t 12), none⟩,
    ⟨some 76, .mv (.t 77), none⟩] [] [2, 3, 4, 8, 10, 76])
  (.cond (.t 76)
  (.seq (.reg true [⟨some 78, .mv (.t 3), none⟩,
    ⟨some 79, .mv (.t 2), none⟩,
    ⟨some 80, .fad 1 (.t 10), none⟩,
    ⟨some 81, .ld none (.t 80), none⟩,
    ⟨some 82, .iad 1 (.t 79) (.t 81), none⟩,
    ⟨some 83, .ld none (.t 82), none⟩,
    ⟨some 84, .mv (.t 2), none⟩,
    ⟨some 85, .fad 2 (.t 10), none⟩,
    ⟨some 86, .ld none (.t 85), none⟩,
    ⟨some 87, .iad 1 (.t 84) (.t 86), none⟩,
    ⟨some 88, .ld none (.t 87), none⟩,
    ⟨some 89, .build [.int .i64 0, .int .i64 0, .int .i64 0, .int .i64 0] [(0, 1, .c (.int .i64 3)), (1, 1, .t 78), (2, 1, .t 83), (3, 1, .t 88)], none⟩,
    ⟨none, .st 4 (.t 8) (.t 89), none⟩,
    ⟨some 9, .mv (.c (.bool true)), none⟩] [0, 0, 0, 4, 14, 30, 0, 0, 128, 448, 960, 2047, 4095, 8191] [8, 9])
  .ret)
  .skip)))))))))
  (.seq (.reg false [⟨some 91, .ld (some 1) (.t 4), none⟩,
    ⟨some 92, .mv (.t 2), none⟩,
    ⟨some 93, .mv (.t 3), none⟩,
    ⟨some 94, .call 62 [.t 91, .t 92, .t 93], none⟩,
    ⟨some 90, .mv (.t 94), none⟩,
    ⟨some 95, .ext (.t 90) 0, none⟩,
    ⟨some 96, .ext (.t 90) 1, none⟩,
    ⟨some 14, .new [.int .i64 0, .int .i64 0, .int .i64 0, .int .i64 0], none⟩,
    ⟨none, .st 4 (.t 14) (.t 95), none⟩,
    ⟨some 15, .mv (.t 96), none⟩] [] [2, 3, 4, 8, 14, 15])
  (.seq (.seq (.reg false [⟨some 16, .mv (.c (.int .i64 5)), none⟩] [] [2, 3, 4, 8, 14, 15, 16])
  (.block 3 (.loop (.seq (.seq (.reg false [⟨some 97, .mv (.t 16), none⟩,
    ⟨some 98, .bin .leq (.t 97) (.c (.int .i64 8)), none⟩,
    ⟨some 99, .mv (.t 98), none⟩,
    ⟨some 100, .mv (.t 15), some (99, true)⟩,
    ⟨some 101, .not (.t 100), some (99, true)⟩,
    ⟨some 102, .pick (.t 99) (.t 101) (.c (.bool false)), none⟩] [] [2, 3, 4, 8, 14, 15, 16, 102])
  (.cond (.t 102)
  .skip
  (.exit 3)))
  (.seq (.block 4 (.reg false [⟨some 106, .ld (some 1) (.t 4), none⟩,
    ⟨some 107, .mv (.t 2), none⟩,
    ⟨some 108, .mv (.t 3), none⟩,
    ⟨some 109, .mv (.t 16), none⟩,
    ⟨some 110, .call 63 [.t 106, .t 107, .t 108, .t 109], none⟩,
    ⟨some 105, .mv (.t 110), none⟩,
    ⟨some 111, .ext (.t 105) 0, none⟩,
    ⟨some 112, .ext (.t 105) 1, none⟩,
    ⟨none, .st 4 (.t 14) (.t 111), none⟩,
    ⟨some 15, .mv (.t 112), none⟩] [] [2, 3, 4, 8, 14, 15, 16]))
  (.reg false [⟨some 103, .mv (.t 16), none⟩,
    ⟨some 104, .bin .add (.t 103) (.c (.int .i64 1)), none⟩,
    ⟨some 16, .mv (.t 104), none⟩] [] [2, 3, 4, 8, 14, 15, 16]))))))
  (.seq (.reg false [⟨some 113, .ld (some 4) (.t 14), none⟩,
    ⟨some 114, .mv (.t 15), none⟩,
    ⟨none, .st 4 (.t 8) (.t 113), none⟩,
    ⟨some 9, .mv (.t 114), none⟩] [] [8, 9])
  .ret))))))))), [(8, some (some 4)), (9, none)]⟩
theorem spec_l9Step_ok : okFn Tryz.prog 35 spec_l9Step = true := by kernel_rfl
def spec_StepNeeds : IFn := ⟨18, (.seq (.reg false [⟨some 2, .box (.t 0), none⟩,
    ⟨some 3, .box (.t 1), none⟩,
    ⟨some 4, .mv (.c (.int .i64 0)), none⟩] [] [2, 3])
  (.seq (.seq (.reg false [⟨some 5, .ld (some 1) (.t 2), none⟩,
    ⟨some 6, .call 57 [.t 5], none⟩,
    ⟨some 7, .not (.t 6), none⟩,
    ⟨some 8, .mv (.t 7), none⟩,
    ⟨some 9, .ld (some 1) (.t 2), some (8, false)⟩,
    ⟨some 10, .fad 1 (.t 3), some (8, false)⟩,
    ⟨some 11, .ld none (.t 10), some (8, false)⟩,
    ⟨some 12, .call 44 [.t 9, .t 11], some (8, false)⟩,
    ⟨some 13, .not (.t 12), some (8, false)⟩,
    ⟨some 14, .pick (.t 8) (.c (.bool true)) (.t 13), none⟩] [] [2, 3, 14])
  (.cond (.t 14)
  (.seq (.reg false [⟨some 4, .mv (.c (.int .i64 (-1))), none⟩] [] [4])
  .ret)
  .skip))
  (.seq (.reg false [⟨some 15, .ld (some 1) (.t 2), none⟩,
    ⟨some 16, .ld (some 4) (.t 3), none⟩,
    ⟨some 17, .call 38 [.t 15, .t 16], none⟩,
    ⟨some 4, .mv (.t 17), none⟩] [] [4])
  .ret))), [(4, none)]⟩
theorem spec_StepNeeds_ok : okFn Tryz.prog 36 spec_StepNeeds = true := by kernel_rfl
def spec_l1In : IFn := ⟨15, (.seq (.reg false [⟨some 6, .mv (.c (.bool false)), none⟩] [] [0, 1, 2])
  (.seq (.reg false [⟨some 7, .mv (.t 0), none⟩,
    ⟨some 8, .mv (.t 1), none⟩,
    ⟨some 9, .bin .geq (.t 7) (.t 8), none⟩,
    ⟨some 10, .mv (.t 9), none⟩,
    ⟨some 11, .mv (.t 0), some (10, true)⟩,
    ⟨some 12, .mv (.t 2), some (10, true)⟩,
    ⟨some 13, .bin .leq (.t 11) (.t 12), some (10, true)⟩,
    ⟨some 14, .pick (.t 10) (.t 13) (.c (.bool false)), none⟩,
    ⟨some 6, .mv (.t 14), none⟩] [] [6])
  .ret)), [(6, none)]⟩
theorem spec_l1In_ok : okFn Tryz.prog 37 spec_l1In = true := by kernel_rfl
def spec_l9Needs : IFn := ⟨27, (.seq (.reg false [⟨some 2, .box (.t 0), none⟩,
    ⟨some 3, .box (.t 1), none⟩,
    ⟨some 4, .mv (.c (.int .i64 0)), none⟩] [] [2, 3])
  (.seq (.seq (.reg false [⟨some 5, .fad 0 (.t 3), none⟩,
    ⟨some 6, .ld none (.t 5), none⟩] [] [2, 3, 6])
  (.block 0 (.seq (.seq (.reg false [⟨some 8, .bin .eql (.t 6) (.c (.int .i64 1)), none⟩,
    ⟨some 7, .mv (.t 8), none⟩] [] [2, 3, 6, 7])
  (.cond (.t 7)
  .skip
  (.reg false [⟨some 9, .bin .eql (.t 6) (.c (.int .i64 2)), none⟩,
    ⟨some 7, .mv (.t 9), none⟩] [] [2, 3, 6, 7])))
  (.cond (.t 7)
  (.seq (.reg false [⟨some 4, .mv (.c (.int .i64 0)), none⟩] [] [4])
  .ret)
  (.seq (.reg false [⟨some 11, .bin .eql (.t 6) (.c (.int .i64 3)), none⟩,
    ⟨some 10, .mv (.t 11), none⟩] [] [2, 3, 6, 10])
  (.cond (.t 10)
  (.seq (.reg false [⟨some 12, .fad 0 (.t 2), none⟩,
    ⟨some 13, .ld none (.t 12), none⟩,
    ⟨some 14, .fad 1 (.t 3), none⟩,
    ⟨some 15, .ld none (.t 14), none⟩,
    ⟨some 16, .iad 3 (.t 13) (.t 15), none⟩,
    ⟨some 17, .fad 0 (.t 16), none⟩,
    ⟨some 18, .ld none (.t 17), none⟩,
    ⟨some 19, .call 64 [.t 18], none⟩,
    ⟨some 4, .mv (.t 19), none⟩] [] [4])
  .ret)
  (.seq (.seq (.reg false [⟨some 21, .bin .eql (.t 6) (.c (.int .i64 4)), none⟩,
    ⟨some 20, .mv (.t 21), none⟩] [] [6, 20])
  (.cond (.t 20)
  .skip
  (.reg false [⟨some 22, .bin .eql (.t 6) (.c (.int .i64 7)), none⟩,
    ⟨some 20, .mv (.t 22), none⟩] [] [6, 20])))
  (.cond (.t 20)
  (.seq (.reg false [⟨some 4, .mv (.c (.int .i64 2)), none⟩] [] [4])
  .ret)
  (.seq (.seq (.reg false [⟨some 24, .bin .eql (.t 6) (.c (.int .i64 5)), none⟩,
    ⟨some 23, .mv (.t 24), none⟩] [] [6, 23])
  (.cond (.t 23)
  .skip
  (.seq (.reg false [⟨some 25, .bin .eql (.t 6) (.c (.int .i64 6)), none⟩,
    ⟨some 23, .mv (.t 25), none⟩] [] [6, 23])
  (.cond (.t 23)
  .skip
  (.reg false [⟨some 26, .bin .eql (.t 6) (.c (.int .i64 8)), none⟩,
    ⟨some 23, .mv (.t 26), none⟩] [] [23])))))
  (.cond (.t 23)
  (.seq (.reg false [⟨some 4, .mv (.c (.int .i64 1)), none⟩] [] [4])
  .ret)
  .skip))))))))))
  (.seq (.reg false [⟨some 4, .mv (.c (.int .i64 (-1))), none⟩] [] [4])
  .ret))), [(4, none)]⟩
theorem spec_l9Needs_ok : okFn Tryz.prog 38 spec_l9Needs = true := by kernel_rfl
def impl_inRange : IFn := ⟨15, (.seq (.reg false [⟨some 6, .mv (.c (.bool false)), none⟩] [] [0, 1, 2])
  (.seq (.reg false [⟨some 7, .mv (.t 0), none⟩,
    ⟨some 8, .mv (.t 1), none⟩,
    ⟨some 9, .bin .geq (.t 7) (.t 8), none⟩,
    ⟨some 10, .mv (.t 9), none⟩,
    ⟨some 11, .mv (.t 0), some (10, true)⟩,
    ⟨some 12, .mv (.t 2), some (10, true)⟩,
    ⟨some 13, .bin .leq (.t 11) (.t 12), some (10, true)⟩,
    ⟨some 14, .pick (.t 10) (.t 13) (.c (.bool false)), none⟩,
    ⟨some 6, .mv (.t 14), none⟩] [] [6])
  .ret)), [(6, none)]⟩
theorem impl_inRange_ok : okFn Tryz.prog 39 impl_inRange = true := by kernel_rfl
def impl_PoolOk : IFn := ⟨36, (.seq (.reg false [⟨some 1, .box (.t 0), none⟩,
    ⟨some 2, .mv (.c (.bool false)), none⟩] [] [1])
  (.seq (.seq (.reg false [⟨some 6, .fad 0 (.t 1), none⟩,
    ⟨some 7, .ld none (.t 6), none⟩,
    ⟨some 8, .len false (.t 7), none⟩,
    ⟨some 9, .bin .gtr (.t 8) (.c (.int .i64 500)), none⟩] [] [1, 9])
  (.cond (.t 9)
  (.seq (.reg false [⟨some 2, .mv (.c (.bool false)), none⟩] [] [2])
  .ret)
  .skip))
  (.seq (.reg false [⟨some 10, .mkm true, none⟩,
    ⟨some 3, .mv (.t 10), none⟩] [] [1, 3])
  (.seq (.seq (.reg false [⟨some 11, .fad 0 (.t 1), none⟩,
    ⟨some 12, .ld none (.t 11), none⟩,
    ⟨some 13, .len false (.t 12), none⟩,
    ⟨some 14, .mv (.c (.int .i64 0)), none⟩] [] [3, 12, 13, 14])
  (.block 0 (.loop (.seq (.reg false [⟨some 15, .bin .lss (.t 14) (.t 13), none⟩] [] [3, 12, 13, 14, 15])
  (.seq (.cond (.t 15)
  .skip
  (.exit 0))
  (.seq (.block 1 (.seq (.reg false [⟨some 16, .mv (.t 14), none⟩,
    ⟨some 17, .iad 3 (.t 12) (.t 14), none⟩,
    ⟨some 18, .ld (some 3) (.t 17), none⟩,
    ⟨some 5, .new [.int .i64 0, .int .i64 0, .int .i64 0], none⟩,
    ⟨some 4, .mv (.t 16), none⟩,
    ⟨none, .st 3 (.t 5) (.t 18), none⟩] [] [3, 4, 5, 12, 13, 14])
  (.seq (.reg true [⟨some 19, .mv (.t 3), none⟩,
    ⟨some 20, .ld (some 3) (.t 5), none⟩,
    ⟨some 21, .mlk true (.t 19) (.t 20), none⟩,
    ⟨some 22, .bin .add (.t 21) (.c (.int .i64 1)), none⟩,
    ⟨some 23, .men true (.t 19) (.t 20), none⟩,
    ⟨some 24, .ext (.t 23) 1, none⟩,
    ⟨none, .mst true (.t 19) (.t 24) (.t 22), none⟩] [0, 0, 3, 7, 3, 19, 63] [3, 4, 5, 12, 13, 14])
  (.seq (.reg false [⟨some 25, .mv (.t 3), none⟩,
    ⟨some 26, .ld (some 3) (.t 5), none⟩,
    ⟨some 27, .mlk true (.t 25) (.t 26), none⟩,
    ⟨some 28, .bin .gtr (.t 27) (.c (.int .i64 1)), none⟩,
    ⟨some 29, .mv (.t 28), none⟩,
    ⟨some 30, .ld (some 3) (.t 5), some (29, false)⟩,
    ⟨some 31, .mv (.t 4), some (29, false)⟩,
    ⟨some 32, .call 65 [.t 30, .t 31], some (29, false)⟩,
    ⟨some 33, .not (.t 32), some (29, false)⟩,
    ⟨some 34, .pick (.t 29) (.c (.bool true)) (.t 33), none⟩] [] [3, 12, 13, 14, 34])
  (.cond (.t 34)
  (.seq (.reg false [⟨some 2, .mv (.c (.bool false)), none⟩] [] [2])
  .ret)
  .skip)))))
  (.reg false [⟨some 35, .bin .add (.t 14) (.c (.int .i64 1)), none⟩,
    ⟨some 14, .mv (.t 35), none⟩] [] [3, 12, 13, 14])))))))
  (.seq (.reg false [⟨some 2, .mv (.c (.bool true)), none⟩] [] [2])
  .ret))))), [(2, none)]⟩
theorem impl_PoolOk_ok : okFn Tryz.prog 40 impl_PoolOk = true := by kernel_rfl
def impl_Pool_openAll : IFn := ⟨21, (.seq (.reg false [⟨some 4, .mv (.c (.nil)), none⟩,
    ⟨some 5, .mv (.c (.int .i64 0)), none⟩] [] [0, 1])
  (.seq (.reg false [⟨some 6, .mv (.c (.int .i64 0)), none⟩] [] [0, 1, 6])
  (.block 0 (.loop (.block 1 (.seq (.reg false [⟨some 8, .mv (.t 0), none⟩,
    ⟨some 9, .mv (.t 1), none⟩,
    ⟨some 10, .call 66 [.t 8, .t 9], none⟩,
    ⟨some 7, .mv (.t 10), none⟩] [] [0, 1, 6, 7])
  (.seq (.seq (.reg false [⟨some 11, .mv (.t 7), none⟩,
    ⟨some 12, .len false (.t 11), none⟩,
    ⟨some 13, .mv (.t 1), none⟩,
    ⟨some 14, .len false (.t 13), none⟩,
    ⟨some 15, .bin .eql (.t 12) (.t 14), none⟩] [] [0, 6, 7, 15])
  (.cond (.t 15)
  (.seq (.reg false [⟨some 16, .mv (.t 7), none⟩,
    ⟨some 17, .mv (.t 6), none⟩,
    ⟨some 4, .mv (.t 16), none⟩,
    ⟨some 5, .mv (.t 17), none⟩] [] [4, 5])
  .ret)
  .skip))
  (.seq (.reg false [⟨some 18, .mv (.t 7), none⟩,
    ⟨some 1, .mv (.t 18), none⟩] [] [0, 1, 6])
  (.reg false [⟨some 19, .mv (.t 6), none⟩,
    ⟨some 20, .bin .add (.t 19) (.c (.int .i64 1)), none⟩,
    ⟨some 6, .mv (.t 20), none⟩] [] [0, 1, 6]))))))))), [(4, none), (5, none)]⟩
theorem impl_Pool_openAll_ok : okFn Tryz.prog 41 impl_Pool_openAll = true := by kernel_rfl
def impl_Pool_makes : IFn := ⟨48, (.seq (.reg false [⟨some 4, .mv (.c (.nil)), none⟩] [] [0, 1])
  (.seq (.reg false [⟨some 10, .mv (.t 0), none⟩,
    ⟨some 11, .nck (.t 10), none⟩,
    ⟨some 12, .fad 0 (.t 11), none⟩,
    ⟨some 13, .ld none (.t 12), none⟩,
    ⟨some 14, .len false (.t 13), none⟩,
    ⟨some 15, .mk 1 1 [.bool false] (.t 14) (.t 14), none⟩,
    ⟨some 5, .mv (.t 15), none⟩] [] [0, 1, 5])
  (.seq (.seq (.reg false [⟨some 16, .mv (.t 1), none⟩,
    ⟨some 17, .len false (.t 16), none⟩,
    ⟨some 18, .mv (.c (.int .i64 0)), none⟩] [] [0, 5, 16, 17, 18])
  (.block 0 (.loop (.seq (.reg false [⟨some 19, .bin .lss (.t 18) (.t 17), none⟩] [] [0, 5, 16, 17, 18, 19])
  (.seq (.cond (.t 19)
  .skip
  (.exit 0))
  (.seq (.block 1 (.seq (.reg false [⟨some 20, .iad 1 (.t 16) (.t 18), none⟩,
    ⟨some 21, .ld none (.t 20), none⟩,
    ⟨some 7, .mv (.t 21), none⟩] [] [0, 5, 7, 16, 17, 18])
  (.reg false [⟨some 22, .mv (.t 5), none⟩,
    ⟨some 23, .mv (.t 7), none⟩,
    ⟨some 24, .iad 1 (.t 22) (.t 23), none⟩,
    ⟨none, .st 1 (.t 24) (.c (.bool true)), none⟩] [] [0, 5, 16, 17, 18])))
  (.reg false [⟨some 25, .bin .add (.t 18) (.c (.int .i64 1)), none⟩,
    ⟨some 18, .mv (.t 25), none⟩] [] [0, 5, 16, 17, 18])))))))
  (.seq (.seq (.reg false [⟨some 8, .mv (.c (.bool true)), none⟩] [] [0, 5, 8])
  (.block 2 (.loop (.seq (.seq (.reg false [⟨some 26, .mv (.t 8), none⟩] [] [0, 5, 26])
  (.cond (.t 26)
  .skip
  (.exit 2)))
  (.block 3 (.seq (.reg false [⟨some 8, .mv (.c (.bool false)), none⟩] [] [0, 5, 8])
  (.seq (.reg false [⟨some 27, .mv (.t 5), none⟩,
    ⟨some 28, .len false (.t 27), none⟩,
    ⟨some 29, .mv (.c (.int .i64 0)), none⟩] [] [0, 5, 8, 28, 29])
  (.block 4 (.loop (.seq (.reg false [⟨some 30, .bin .lss (.t 29) (.t 28), none⟩] [] [0, 5, 8, 28, 29, 30])
  (.seq (.cond (.t 30)
  .skip
  (.exit 4))
  (.seq (.block 5 (.seq (.reg false [⟨some 31, .mv (.t 29), none⟩,
    ⟨some 9, .mv (.t 31), none⟩] [] [0, 5, 8, 9, 28, 29])
  (.seq (.reg false [⟨some 32, .mv (.t 5), none⟩,
    ⟨some 33, .mv (.t 9), none⟩,
    ⟨some 34, .iad 1 (.t 32) (.t 33), none⟩,
    ⟨some 35, .ld none (.t 34), none⟩,
    ⟨some 36, .not (.t 35), none⟩,
    ⟨some 37, .mv (.t 36), none⟩,
    ⟨some 38, .mv (.t 0), some (37, true)⟩,
    ⟨some 39, .mv (.t 9), some (37, true)⟩,
    ⟨some 40, .mv (.t 5), some (37, true)⟩,
    ⟨some 41, .call 67 [.t 38, .t 39, .t 40], some (37, true)⟩,
    ⟨some 42, .pick (.t 37) (.t 41) (.c (.bool false)), none⟩] [] [0, 5, 8, 9, 28, 29, 42])
  (.cond (.t 42)
  (.seq (.reg false [⟨some 43, .mv (.t 5), none⟩,
    ⟨some 44, .mv (.t 9), none⟩,
    ⟨some 45, .iad 1 (.t 43) (.t 44), none⟩,
    ⟨none, .st 1 (.t 45) (.c (.bool true)), none⟩] [] [0, 5, 28, 29])
  (.reg false [⟨some 8, .mv (.c (.bool true)), none⟩] [] [0, 5, 8, 28, 29]))
  .skip))))
  (.reg false [⟨some 46, .bin .add (.t 29) (.c (.int .i64 1)), none⟩,
    ⟨some 29, .mv (.t 46), none⟩] [] [0, 5, 8, 28, 29])))))))))))))
  (.seq (.reg false [⟨some 47, .mv (.t 5), none⟩,
    ⟨some 4, .mv (.t 47), none⟩] [] [4])
  .ret))))), [(4, none)]⟩
theorem impl_Pool_makes_ok : okFn Tryz.prog 42 impl_Pool_makes = true := by kernel_rfl
def impl_Pool_holds : IFn := ⟨211, (.seq (.reg false [⟨some 7, .box (.t 3), none⟩,
    ⟨some 8, .mv (.c (.bool false)), none⟩] [] [0, 1, 2, 7])
  (.seq (.seq (.reg false [⟨some 15, .mv (.t 0), none⟩,
    ⟨some 16, .fad 1 (.t 7), none⟩,
    ⟨some 17, .ld none (.t 16), none⟩,
    ⟨some 18, .call 20 [.t 15, .t 17], none⟩,
    ⟨some 19, .not (.t 18), none⟩] [] [0, 1, 2, 7, 19])
  (.cond (.t 19)
  (.seq (.reg false [⟨some 8, .mv (.c (.bool false)), none⟩] [] [8])
  .ret)
  .skip))
  (.seq (.reg false [⟨some 21, .mv (.t 0), none⟩,
    ⟨some 22, .mv (.t 2), none⟩,
    ⟨some 23, .ld (some 4) (.t 7), none⟩,
    ⟨some 24, .call 68 [.t 21, .t 22, .t 23], none⟩,
    ⟨some 20, .mv (.t 24), none⟩,
    ⟨some 25, .ext (.t 20) 0, none⟩,
    ⟨some 26, .ext (.t 20) 1, none⟩,
    ⟨some 27, .ext (.t 20) 2, none⟩,
    ⟨some 9, .mv (.t 25), none⟩,
    ⟨some 10, .mv (.t 26), none⟩,
    ⟨some 11, .mv (.t 27), none⟩] [] [0, 1, 7, 9, 10, 11])
  (.seq (.seq (.reg false [⟨some 28, .mv (.t 11), none⟩,
    ⟨some 29, .not (.t 28), none⟩] [] [0, 1, 7, 9, 10, 29])
  (.cond (.t 29)
  (.seq (.reg false [⟨some 8, .mv (.c (.bool false)), none⟩] [] [8])
  .ret)
  .skip))
  (.seq (.reg true [⟨some 30, .mv (.t 0), none⟩,
    ⟨some 31, .nck (.t 30), none⟩,
    ⟨some 32, .fad 0 (.t 31), none⟩,
    ⟨some 33, .ld none (.t 32), none⟩,
    ⟨some 34, .fad 1 (.t 7), none⟩,
    ⟨some 35, .ld none (.t 34), none⟩,
    ⟨some 36, .iad 3 (.t 33) (.t 35), none⟩,
    ⟨some 37, .ld (some 3) (.t 36), none⟩,
    ⟨some 12, .new [.int .i64 0, .int .i64 0, .int .i64 0], none⟩,
    ⟨none, .st 3 (.t 12) (.t 37), none⟩] [0, 1, 3, 7, 0, 16, 63, 127, 0, 511] [0, 1, 7, 9, 10, 12])
  (.seq (.seq (.reg false [⟨some 38, .fad 0 (.t 7), none⟩,
    ⟨some 39, .ld none (.t 38), none⟩] [] [0, 1, 7, 9, 10, 12, 39])
  (.block 0 (.seq (.reg false [⟨some 41, .bin .eql (.t 39) (.c (.int .i64 1)), none⟩,
    ⟨some 40, .mv (.t 41), none⟩] [] [0, 1, 7, 9, 10, 12, 39, 40])
  (.cond (.t 40)
  (.seq (.reg false [⟨some 42, .mv (.t 1), none⟩,
    ⟨some 43, .fad 1 (.t 7), none⟩,
    ⟨some 44, .ld none (.t 43), none⟩,
    ⟨some 45, .call 69 [.t 42, .t 44], none⟩,
    ⟨some 8, .mv (.t 45), none⟩] [] [8])
  .ret)
  (.seq (.reg false [⟨some 47, .bin .eql (.t 39) (.c (.int .i64 2)), none⟩,
    ⟨some 46, .mv (.t 47), none⟩] [] [0, 7, 9, 10, 12, 39, 46])
  (.cond (.t 46)
  (.seq (.reg false [⟨some 48, .fad 0 (.t 12), none⟩,
    ⟨some 49, .ld none (.t 48), none⟩,
    ⟨some 50, .bin .eql (.t 49) (.c (.int .i64 1)), none⟩,
    ⟨some 51, .mv (.t 50), none⟩,
    ⟨some 52, .fad 1 (.t 12), some (51, true)⟩,
    ⟨some 53, .ld none (.t 52), some (51, true)⟩,
    ⟨some 54, .call 70 [.t 53], some (51, true)⟩,
    ⟨some 55, .pick (.t 51) (.t 54) (.c (.bool false)), none⟩,
    ⟨some 8, .mv (.t 55), none⟩] [] [8])
  .ret)
  (.seq (.reg false [⟨some 57, .bin .eql (.t 39) (.c (.int .i64 3)), none⟩,
    ⟨some 56, .mv (.t 57), none⟩] [] [0, 7, 9, 10, 12, 39, 56])
  (.cond (.t 56)
  (.seq (.reg false [⟨some 58, .mv (.t 0), none⟩,
    ⟨some 59, .fad 1 (.t 7), none⟩,
    ⟨some 60, .ld none (.t 59), none⟩,
    ⟨some 61, .call 56 [.t 58, .t 60], none⟩,
    ⟨some 13, .mv (.t 61), none⟩] [] [9, 10, 13])
  (.seq (.reg false [⟨some 62, .mv (.t 13), none⟩,
    ⟨some 63, .len false (.t 62), none⟩,
    ⟨some 64, .bin .gtr (.t 63) (.c (.int .i64 0)), none⟩,
    ⟨some 65, .mv (.t 64), none⟩,
    ⟨some 66, .mv (.t 13), some (65, true)⟩,
    ⟨some 67, .iad 1 (.t 66) (.c (.int .i64 0)), some (65, true)⟩,
    ⟨some 68, .ld none (.t 67), some (65, true)⟩,
    ⟨some 69, .mv (.t 9), some (65, true)⟩,
    ⟨some 70, .bin .eql (.t 68) (.t 69), some (65, true)⟩,
    ⟨some 71, .pick (.t 65) (.t 70) (.c (.bool false)), none⟩,
    ⟨some 72, .mv (.t 71), none⟩,
    ⟨some 73, .mv (.t 13), some (72, true)⟩,
    ⟨some 74, .len false (.t 73), some (72, true)⟩,
    ⟨some 75, .bin .eql (.t 74) (.c (.int .i64 1)), some (72, true)⟩,
    ⟨some 76, .mv (.t 75), some (72, true)⟩,
    ⟨some 77, .mv (.t 13), some (76, false)⟩,
    ⟨some 78, .iad 1 (.t 77) (.c (.int .i64 1)), some (76, false)⟩,
    ⟨some 79, .ld none (.t 78), some (76, false)⟩,
    ⟨some 80, .mv (.t 10), some (76, false)⟩,
    ⟨some 81, .bin .eql (.t 79) (.t 80), some (76, false)⟩,
    ⟨some 82, .pick (.t 76) (.c (.bool true)) (.t 81), some (72, true)⟩,
    ⟨some 83, .pick (.t 72) (.t 82) (.c (.bool false)), none⟩,
    ⟨some 8, .mv (.t 83), none⟩] [] [8])
  .ret))
  (.seq (.reg false [⟨some 85, .bin .eql (.t 39) (.c (.int .i64 4)), none⟩,
    ⟨some 84, .mv (.t 85), none⟩] [] [0, 7, 9, 10, 12, 39, 84])
  (.cond (.t 84)
  (.seq (.reg false [⟨some 86, .mv (.t 0), none⟩,
    ⟨some 87, .nck (.t 86), none⟩,
    ⟨some 88, .fad 0 (.t 87), none⟩,
    ⟨some 89, .ld none (.t 88), none⟩,
    ⟨some 90, .mv (.t 10), none⟩,
    ⟨some 91, .iad 3 (.t 89) (.t 90), none⟩,
    ⟨some 92, .ld (some 3) (.t 91), none⟩,
    ⟨some 14, .new [.int .i64 0, .int .i64 0, .int .i64 0], none⟩,
    ⟨none, .st 3 (.t 14) (.t 92), none⟩] [] [9, 12, 14])
  (.seq (.reg false [⟨some 93, .fad 0 (.t 12), none⟩,
    ⟨some 94, .ld none (.t 93), none⟩,
    ⟨some 95, .bin .eql (.t 94) (.c (.int .i64 8)), none⟩,
    ⟨some 96, .mv (.t 95), none⟩,
    ⟨some 97, .fad 0 (.t 14), some (96, true)⟩,
    ⟨some 98, .ld none (.t 97), some (96, true)⟩,
    ⟨some 99, .bin .eql (.t 98) (.c (.int .i64 7)), some (96, true)⟩,
    ⟨some 100, .pick (.t 96) (.t 99) (.c (.bool false)), none⟩,
    ⟨some 101, .mv (.t 100), none⟩,
    ⟨some 102, .mv (.t 9), some (101, true)⟩,
    ⟨some 103, .fad 1 (.t 12), some (101, true)⟩,
    ⟨some 104, .ld none (.t 103), some (101, true)⟩,
    ⟨some 105, .bin .eql (.t 102) (.t 104), some (101, true)⟩,
    ⟨some 106, .mv (.t 105), some (101, true)⟩,
    ⟨some 107, .fad 1 (.t 14), some (106, true)⟩,
    ⟨some 108, .ld none (.t 107), some (106, true)⟩,
    ⟨some 109, .fad 2 (.t 12), some (106, true)⟩,
    ⟨some 110, .ld none (.t 109), some (106, true)⟩,
    ⟨some 111, .bin .eql (.t 108) (.t 110), some (106, true)⟩,
    ⟨some 112, .pick (.t 106) (.t 111) (.c (.bool false)), some (101, true)⟩,
    ⟨some 113, .mv (.t 112), some (101, true)⟩,
    ⟨some 114, .mv (.t 9), some (113, false)⟩,
    ⟨some 115, .fad 2 (.t 12), some (113, false)⟩,
    ⟨some 116, .ld none (.t 115), some (113, false)⟩,
    ⟨some 117, .bin .eql (.t 114) (.t 116), some (113, false)⟩,
    ⟨some 118, .mv (.t 117), some (113, false)⟩,
    ⟨some 119, .fad 1 (.t 14), some (118, true)⟩,
    ⟨some 120, .ld none (.t 119), some (118, true)⟩,
    ⟨some 121, .fad 1 (.t 12), some (118, true)⟩,
    ⟨some 122, .ld none (.t 121), some (118, true)⟩,
    ⟨some 123, .bin .eql (.t 120) (.t 122), some (118, true)⟩,
    ⟨some 124, .pick (.t 118) (.t 123) (.c (.bool false)), some (113, false)⟩,
    ⟨some 125, .pick (.t 113) (.c (.bool true)) (.t 124), some (101, true)⟩,
    ⟨some 126, .pick (.t 101) (.t 125) (.c (.bool false)), none⟩,
    ⟨some 8, .mv (.t 126), none⟩] [] [8])
  .ret))
  (.seq (.reg false [⟨some 128, .bin .eql (.t 39) (.c (.int .i64 7)), none⟩,
    ⟨some 127, .mv (.t 128), none⟩] [] [0, 7, 9, 10, 39, 127])
  (.cond (.t 127)
  (.seq (.reg true [⟨some 129, .mv (.t 0), none⟩,
    ⟨some 130, .nck (.t 129), none⟩,
    ⟨some 131, .fad 0 (.t 130), none⟩,
    ⟨some 132, .ld none (.t 131), none⟩,
    ⟨some 133, .mv (.t 9), none⟩,
    ⟨some 134, .iad 3 (.t 132) (.t 133), none⟩,
    ⟨some 135, .ld (some 3) (.t 134), none⟩,
    ⟨some 136, .fad 1 (.t 7), none⟩,
    ⟨some 137, .ld none (.t 136), none⟩,
    ⟨some 138, .mv (.t 10), none⟩,
    ⟨some 139, .build [.int .i64 0, .int .i64 0, .int .i64 0] [(0, 1, .c (.int .i64 3)), (1, 1, .t 137), (2, 1, .t 138)], none⟩,
    ⟨some 140, .eqs false [1, 1, 1] (.t 135) (.t 139), none⟩,
    ⟨some 8, .mv (.t 140), none⟩] [0, 1, 3, 7, 0, 31, 63, 0, 128, 0, 896, 2047, 4095] [8])
  .ret)
  (.seq (.reg false [⟨some 142, .bin .eql (.t 39) (.c (.int .i64 5)), none⟩,
    ⟨some 141, .mv (.t 142), none⟩] [] [0, 7, 9, 39, 141])
  (.cond (.t 141)
  (.seq (.reg true [⟨some 143, .mv (.t 0), none⟩,
    ⟨some 144, .nck (.t 143), none⟩,
    ⟨some 145, .fad 0 (.t 144), none⟩,
    ⟨some 146, .ld none (.t 145), none⟩,
    ⟨some 147, .mv (.t 9), none⟩,
    ⟨some 148, .iad 3 (.t 146) (.t 147), none⟩,
    ⟨some 149, .fad 0 (.t 148), none⟩,
    ⟨some 150, .ld none (.t 149), none⟩,
    ⟨some 151, .bin .eql (.t 150) (.c (.int .i64 2)), none⟩,
    ⟨some 152, .mv (.t 151), none⟩,
    ⟨some 153, .mv (.t 0), some (152, true)⟩,
    ⟨some 154, .nck (.t 153), some (152, true)⟩,
    ⟨some 155, .fad 0 (.t 154), some (152, true)⟩,
    ⟨some 156, .ld none (.t 155), some (152, true)⟩,
    ⟨some 157, .mv (.t 9), some (152, true)⟩,
    ⟨some 158, .iad 3 (.t 156) (.t 157), some (152, true)⟩,
    ⟨some 159, .fad 1 (.t 158), some (152, true)⟩,
    ⟨some 160, .ld none (.t 159), some (152, true)⟩,
    ⟨some 161, .fad 1 (.t 7), some (152, true)⟩,
    ⟨some 162, .ld none (.t 161), some (152, true)⟩,
    ⟨some 163, .bin .eql (.t 160) (.t 162), some (152, true)⟩,
    ⟨some 164, .pick (.t 152) (.t 163) (.c (.bool false)), none⟩,
    ⟨some 8, .mv (.t 164), none⟩] [0, 1, 3, 7, 0, 31, 63, 127, 255, 511, 1023, 2047, 4095, 8191, 1023, 32767, 65535, 131071, 1023, 263167, 1048575, 2097151, 4194303] [8])
  .ret)
  (.seq (.reg false [⟨some 166, .bin .eql (.t 39) (.c (.int .i64 6)), none⟩,
    ⟨some 165, .mv (.t 166), none⟩] [] [0, 7, 9, 165])
  (.cond (.t 165)
  (.seq (.reg true [⟨some 167, .mv (.t 0), none⟩,
    ⟨some 168, .nck (.t 167), none⟩,
    ⟨some 169, .fad 0 (.t 168), none⟩,
    ⟨some 170, .ld none (.t 169), none⟩,
    ⟨some 171, .mv (.t 9), none⟩,
    ⟨some 172, .iad 3 (.t 170) (.t 171), none⟩,
    ⟨some 173, .fad 0 (.t 172), none⟩,
    ⟨some 174, .ld none (.t 173), none⟩,
    ⟨some 175, .bin .eql (.t 174) (.c (.int .i64 2)), none⟩,
    ⟨some 176, .mv (.t 175), none⟩,
    ⟨some 177, .mv (.t 0), some (176, true)⟩,
    ⟨some 178, .nck (.t 177), some (176, true)⟩,
    ⟨some 179, .fad 0 (.t 178), some (176, true)⟩,
    ⟨some 180, .ld none (.t 179), some (176, true)⟩,
    ⟨some 181, .mv (.t 9), some (176, true)⟩,
    ⟨some 182, .iad 3 (.t 180) (.t 181), some (176, true)⟩,
    ⟨some 183, .fad 2 (.t 182), some (176, true)⟩,
    ⟨some 184, .ld none (.t 183), some (176, true)⟩,
    ⟨some 185, .fad 1 (.t 7), some (176, true)⟩,
    ⟨some 186, .ld none (.t 185), some (176, true)⟩,
    ⟨some 187, .bin .eql (.t 184) (.t 186), some (176, true)⟩,
    ⟨some 188, .pick (.t 176) (.t 187) (.c (.bool false)), none⟩,
    ⟨some 8, .mv (.t 188), none⟩] [0, 1, 3, 7, 0, 31, 63, 127, 255, 511, 1023, 2047, 4095, 8191, 1023, 32767, 65535, 131071, 1023, 263167, 1048575, 2097151, 4194303] [8])
  .ret)
  .skip))))))))))))))))
  (.seq (.reg true [⟨some 189, .mv (.t 0), none⟩,
    ⟨some 190, .nck (.t 189), none⟩,
    ⟨some 191, .fad 0 (.t 190), none⟩,
    ⟨some 192, .ld none (.t 191), none⟩,
    ⟨some 193, .mv (.t 9), none⟩,
    ⟨some 194, .iad 3 (.t 192) (.t 193), none⟩,
    ⟨some 195, .fad 0 (.t 194), none⟩,
    ⟨some 196, .ld none (.t 195), none⟩,
    ⟨some 197, .bin .eql (.t 196) (.c (.int .i64 4)), none⟩,
    ⟨some 198, .mv (.t 197), none⟩,
    ⟨some 199, .mv (.t 0), some (198, true)⟩,
    ⟨some 200, .nck (.t 199), some (198, true)⟩,
    ⟨some 201, .fad 0 (.t 200), some (198, true)⟩,
    ⟨some 202, .ld none (.t 201), some (198, true)⟩,
    ⟨some 203, .mv (.t 9), some (198, true)⟩,
    ⟨some 204, .iad 3 (.t 202) (.t 203), some (198, true)⟩,
    ⟨some 205, .fad 1 (.t 204), some (198, true)⟩,
    ⟨some 206, .ld none (.t 205), some (198, true)⟩,
    ⟨some 207, .fad 1 (.t 7), some (198, true)⟩,
    ⟨some 208, .ld none (.t 207), some (198, true)⟩,
    ⟨some 209, .bin .eql (.t 206) (.t 208), some (198, true)⟩,
    ⟨some 210, .pick (.t 198) (.t 209) (.c (.bool false)), none⟩,
    ⟨some 8, .mv (.t 210), none⟩] [0, 1, 3, 7, 0, 31, 63, 127, 255, 511, 1023, 2047, 4095, 8191, 1023, 32767, 65535, 131071, 1023, 263167, 1048575, 2097151, 4194303] [8])
  .ret))))))), [(8, none)]⟩
theorem impl_Pool_holds_ok : okFn Tryz.prog 43 impl_Pool_holds = true := by kernel_rfl
def spec_l1Has : IFn := ⟨11, (.seq (.reg false [⟨some 2, .box (.t 0), none⟩,
    ⟨some 4, .mv (.c (.bool false)), none⟩] [] [1, 2])
  (.seq (.reg false [⟨some 5, .mv (.t 1), none⟩,
    ⟨some 6, .fad 0 (.t 2), none⟩,
    ⟨some 7, .ld none (.t 6), none⟩,
    ⟨some 8, .len false (.t 7), none⟩,
    ⟨some 9, .bin .sub (.t 8) (.c (.int .i64 1)), none⟩,
    ⟨some 10, .call 37 [.t 5, .c (.int .i64 0), .t 9], none⟩,
    ⟨some 4, .mv (.t 10), none⟩] [] [4])
  .ret)), [(4, none)]⟩
theorem spec_l1Has_ok : okFn Tryz.prog 44 spec_l1Has = true := by kernel_rfl
def spec_l9Holds : IFn := ⟨227, (.seq (.reg false [⟨some 5, .box (.t 0), none⟩,
    ⟨some 7, .box (.t 2), none⟩,
    ⟨some 10, .mv (.c (.bool false)), none⟩] [] [1, 3, 4, 5, 7])
  (.seq (.reg false [⟨some 14, .fad 0 (.t 5), none⟩,
    ⟨some 15, .ld none (.t 14), none⟩,
    ⟨some 16, .fad 1 (.t 7), none⟩,
    ⟨some 17, .ld none (.t 16), none⟩,
    ⟨some 18, .iad 3 (.t 15) (.t 17), none⟩,
    ⟨some 19, .ld (some 3) (.t 18), none⟩,
    ⟨some 11, .new [.int .i64 0, .int .i64 0, .int .i64 0], none⟩,
    ⟨none, .st 3 (.t 11) (.t 19), none⟩] [] [1, 3, 4, 5, 7, 11])
  (.seq (.reg false [⟨some 20, .ld (some 1) (.t 5), none⟩,
    ⟨some 21, .ld (some 4) (.t 7), none⟩,
    ⟨some 22, .call 38 [.t 20, .t 21], none⟩,
    ⟨some 12, .mv (.t 22), none⟩] [] [1, 3, 4, 5, 7, 11, 12])
  (.seq (.seq (.reg false [⟨some 23, .mv (.t 12), none⟩,
    ⟨some 24, .bin .lss (.t 23) (.c (.int .i64 0)), none⟩,
    ⟨some 25, .mv (.t 24), none⟩,
    ⟨some 26, .mv (.t 12), some (25, false)⟩,
    ⟨some 27, .bin .gtr (.t 26) (.c (.int .i64 0)), some (25, false)⟩,
    ⟨some 28, .mv (.t 27), some (25, false)⟩,
    ⟨some 29, .mv (.t 3), some (28, true)⟩,
    ⟨some 30, .bin .lss (.t 29) (.c (.int .i64 0)), some (28, true)⟩,
    ⟨some 31, .pick (.t 28) (.t 30) (.c (.bool false)), some (25, false)⟩,
    ⟨some 32, .pick (.t 25) (.c (.bool true)) (.t 31), none⟩,
    ⟨some 33, .mv (.t 32), none⟩,
    ⟨some 34, .mv (.t 12), some (33, false)⟩,
    ⟨some 35, .bin .gtr (.t 34) (.c (.int .i64 1)), some (33, false)⟩,
    ⟨some 36, .mv (.t 35), some (33, false)⟩,
    ⟨some 37, .mv (.t 4), some (36, true)⟩,
    ⟨some 38, .bin .lss (.t 37) (.c (.int .i64 0)), some (36, true)⟩,
    ⟨some 39, .pick (.t 36) (.t 38) (.c (.bool false)), some (33, false)⟩,
    ⟨some 40, .pick (.t 33) (.c (.bool true)) (.t 39), none⟩,
    ⟨some 41, .mv (.t 40), none⟩,
    ⟨some 42, .mv (.t 12), some (41, false)⟩,
    ⟨some 43, .bin .lss (.t 42) (.c (.int .i64 1)), some (41, false)⟩,
    ⟨some 44, .mv (.t 43), some (41, false)⟩,
    ⟨some 45, .fad 2 (.t 7), some (44, true)⟩,
    ⟨some 46, .ld none (.t 45), some (44, true)⟩,
    ⟨some 47, .bin .neq (.t 46) (.c (.int .i64 0)), some (44, true)⟩,
    ⟨some 48, .pick (.t 44) (.t 47) (.c (.bool false)), some (41, false)⟩,
    ⟨some 49, .pick (.t 41) (.c (.bool true)) (.t 48), none⟩,
    ⟨some 50, .mv (.t 49), none⟩,
    ⟨some 51, .mv (.t 12), some (50, false)⟩,
    ⟨some 52, .bin .lss (.t 51) (.c (.int .i64 2)), some (50, false)⟩,
    ⟨some 53, .mv (.t 52), some (50, false)⟩,
    ⟨some 54, .fad 3 (.t 7), some (53, true)⟩,
    ⟨some 55, .ld none (.t 54), some (53, true)⟩,
    ⟨some 56, .bin .neq (.t 55) (.c (.int .i64 0)), some (53, true)⟩,
    ⟨some 57, .pick (.t 53) (.t 56) (.c (.bool false)), some (50, false)⟩,
    ⟨some 58, .pick (.t 50) (.c (.bool true)) (.t 57), none⟩] [] [1, 3, 4, 5, 7, 11, 12, 58])
  (.cond (.t 58)
  (.seq (.reg false [⟨some 10, .mv (.c (.bool false)), none⟩] [] [10])
  .ret)
  .skip))
  (.seq (.seq (.reg false [⟨some 59, .fad 0 (.t 7), none⟩,
    ⟨some 60, .ld none (.t 59), none⟩] [] [1, 3, 4, 5, 7, 11, 12, 60])
  (.block 0 (.seq (.reg false [⟨some 62, .bin .eql (.t 60) (.c (.int .i64 1)), none⟩,
    ⟨some 61, .mv (.t 62), none⟩] [] [1, 3, 4, 5, 7, 11, 12, 60, 61])
  (.cond (.t 61)
  (.seq (.reg false [⟨some 63, .mv (.t 1), none⟩,
    ⟨some 64, .fad 1 (.t 7), none⟩,
    ⟨some 65, .ld none (.t 64), none⟩,
    ⟨some 66, .call 60 [.t 63, .t 65], none⟩,
    ⟨some 10, .mv (.t 66), none⟩] [] [10])
  .ret)
  (.seq (.reg false [⟨some 68, .bin .eql (.t 60) (.c (.int .i64 2)), none⟩,
    ⟨some 67, .mv (.t 68), none⟩] [] [3, 4, 5, 7, 11, 12, 60, 67])
  (.cond (.t 67)
  (.seq (.reg false [⟨some 69, .fad 0 (.t 11), none⟩,
    ⟨some 70, .ld none (.t 69), none⟩,
    ⟨some 71, .bin .eql (.t 70) (.c (.int .i64 1)), none⟩,
    ⟨some 72, .mv (.t 71), none⟩,
    ⟨some 73, .fad 1 (.t 11), some (72, true)⟩,
    ⟨some 74, .ld none (.t 73), some (72, true)⟩,
    ⟨some 75, .call 61 [.t 74], some (72, true)⟩,
    ⟨some 76, .pick (.t 72) (.t 75) (.c (.bool false)), none⟩,
    ⟨some 10, .mv (.t 76), none⟩] [] [10])
  .ret)
  (.seq (.reg false [⟨some 78, .bin .eql (.t 60) (.c (.int .i64 3)), none⟩,
    ⟨some 77, .mv (.t 78), none⟩] [] [3, 4, 5, 7, 11, 12, 60, 77])
  (.cond (.t 77)
  (.seq (.reg false [⟨some 79, .fad 0 (.t 11), none⟩,
    ⟨some 80, .ld none (.t 79), none⟩,
    ⟨some 81, .bin .neq (.t 80) (.c (.int .i64 1)), none⟩,
    ⟨some 82, .mv (.t 81), none⟩,
    ⟨some 83, .mv (.t 3), some (82, true)⟩,
    ⟨some 84, .fad 1 (.t 11), some (82, true)⟩,
    ⟨some 85, .ld none (.t 84), some (82, true)⟩,
    ⟨some 86, .bin .eql (.t 83) (.t 85), some (82, true)⟩,
    ⟨some 87, .pick (.t 82) (.t 86) (.c (.bool false)), none⟩,
    ⟨some 88, .mv (.t 87), none⟩,
    ⟨some 89, .mv (.t 12), some (88, true)⟩,
    ⟨some 90, .bin .lss (.t 89) (.c (.int .i64 2)), some (88, true)⟩,
    ⟨some 91, .mv (.t 90), some (88, true)⟩,
    ⟨some 92, .mv (.t 4), some (91, false)⟩,
    ⟨some 93, .fad 2 (.t 11), some (91, false)⟩,
    ⟨some 94, .ld none (.t 93), some (91, false)⟩,
    ⟨some 95, .bin .eql (.t 92) (.t 94), some (91, false)⟩,
    ⟨some 96, .pick (.t 91) (.c (.bool true)) (.t 95), some (88, true)⟩,
    ⟨some 97, .pick (.t 88) (.t 96) (.c (.bool false)), none⟩,
    ⟨some 10, .mv (.t 97), none⟩] [] [10])
  .ret)
  (.seq (.reg false [⟨some 99, .bin .eql (.t 60) (.c (.int .i64 4)), none⟩,
    ⟨some 98, .mv (.t 99), none⟩] [] [3, 4, 5, 7, 11, 60, 98])
  (.cond (.t 98)
  (.seq (.reg false [⟨some 100, .fad 0 (.t 5), none⟩,
    ⟨some 101, .ld none (.t 100), none⟩,
    ⟨some 102, .mv (.t 4), none⟩,
    ⟨some 103, .iad 3 (.t 101) (.t 102), none⟩,
    ⟨some 104, .ld (some 3) (.t 103), none⟩,
    ⟨some 13, .new [.int .i64 0, .int .i64 0, .int .i64 0], none⟩,
    ⟨none, .st 3 (.t 13) (.t 104), none⟩] [] [3, 11, 13])
  (.seq (.reg false [⟨some 105, .fad 0 (.t 11), none⟩,
    ⟨some 106, .ld none (.t 105), none⟩,
    ⟨some 107, .bin .eql (.t 106) (.c (.int .i64 8)), none⟩,
    ⟨some 108, .mv (.t 107), none⟩,
    ⟨some 109, .fad 0 (.t 13), some (108, true)⟩,
    ⟨some 110, .ld none (.t 109), some (108, true)⟩,
    ⟨some 111, .bin .eql (.t 110) (.c (.int .i64 7)), some (108, true)⟩,
    ⟨some 112, .pick (.t 108) (.t 111) (.c (.bool false)), none⟩,
    ⟨some 113, .mv (.t 112), none⟩,
    ⟨some 114, .mv (.t 3), some (113, true)⟩,
    ⟨some 115, .fad 1 (.t 11), some (113, true)⟩,
    ⟨some 116, .ld none (.t 115), some (113, true)⟩,
    ⟨some 117, .bin .eql (.t 114) (.t 116), some (113, true)⟩,
    ⟨some 118, .mv (.t 117), some (113, true)⟩,
    ⟨some 119, .fad 1 (.t 13), some (118, true)⟩,
    ⟨some 120, .ld none (.t 119), some (118, true)⟩,
    ⟨some 121, .fad 2 (.t 11), some (118, true)⟩,
    ⟨some 122, .ld none (.t 121), some (118, true)⟩,
    ⟨some 123, .bin .eql (.t 120) (.t 122), some (118, true)⟩,
    ⟨some 124, .pick (.t 118) (.t 123) (.c (.bool false)), some (113, true)⟩,
    ⟨some 125, .mv (.t 124), some (113, true)⟩,
    ⟨some 126, .mv (.t 3), some (125, false)⟩,
    ⟨some 127, .fad 2 (.t 11), some (125, false)⟩,
    ⟨some 128, .ld none (.t 127), some (125, false)⟩,
    ⟨some 129, .bin .eql (.t 126) (.t 128), some (125, false)⟩,
    ⟨some 130, .mv (.t 129), some (125, false)⟩,
    ⟨some 131, .fad 1 (.t 13), some (130, true)⟩,
    ⟨some 132, .ld none (.t 131), some (130, true)⟩,
    ⟨some 133, .fad 1 (.t 11), some (130, true)⟩,
    ⟨some 134, .ld none (.t 133), some (130, true)⟩,
    ⟨some 135, .bin .eql (.t 132) (.t 134), some (130, true)⟩,
    ⟨some 136, .pick (.t 130) (.t 135) (.c (.bool false)), some (125, false)⟩,
    ⟨some 137, .pick (.t 125) (.c (.bool true)) (.t 136), some (113, true)⟩,
    ⟨some 138, .pick (.t 113) (.t 137) (.c (.bool false)), none⟩,
    ⟨some 10, .mv (.t 138), none⟩] [] [10])
  .ret))
  (.seq (.reg false [⟨some 140, .bin .eql (.t 60) (.c (.int .i64 5)), none⟩,
    ⟨some 139, .mv (.t 140), none⟩] [] [3, 4, 5, 7, 60, 139])
  (.cond (.t 139)
  (.seq (.reg true [⟨some 141, .fad 0 (.t 5), none⟩,
    ⟨some 142, .ld none (.t 141), none⟩,
    ⟨some 143, .mv (.t 3), none⟩,
    ⟨some 144, .iad 3 (.t 142) (.t 143), none⟩,
    ⟨some 145, .fad 0 (.t 144), none⟩,
    ⟨some 146, .ld none (.t 145), none⟩,
    ⟨some 147, .bin .eql (.t 146) (.c (.int .i64 2)), none⟩,
    ⟨some 148, .mv (.t 147), none⟩,
    ⟨some 149, .fad 0 (.t 5), some (148, true)⟩,
    ⟨some 150, .ld none (.t 149), some (148, true)⟩,
    ⟨some 151, .mv (.t 3), some (148, true)⟩,
    ⟨some 152, .iad 3 (.t 150) (.t 151), some (148, true)⟩,
    ⟨some 153, .fad 1 (.t 152), some (148, true)⟩,
    ⟨some 154, .ld none (.t 153), some (148, true)⟩,
    ⟨some 155, .fad 1 (.t 7), some (148, true)⟩,
    ⟨some 156, .ld none (.t 155), some (148, true)⟩,
    ⟨some 157, .bin .eql (.t 154) (.t 156), some (148, true)⟩,
    ⟨some 158, .pick (.t 148) (.t 157) (.c (.bool false)), none⟩,
    ⟨some 10, .mv (.t 158), none⟩] [0, 1, 0, 7, 15, 31, 63, 127, 255, 511, 255, 2047, 4095, 8191, 255, 16639, 65535, 131071, 262143] [10])
  .ret)
  (.seq (.reg false [⟨some 160, .bin .eql (.t 60) (.c (.int .i64 6)), none⟩,
    ⟨some 159, .mv (.t 160), none⟩] [] [3, 4, 5, 7, 60, 159])
  (.cond (.t 159)
  (.seq (.reg true [⟨some 161, .fad 0 (.t 5), none⟩,
    ⟨some 162, .ld none (.t 161), none⟩,
    ⟨some 163, .mv (.t 3), none⟩,
    ⟨some 164, .iad 3 (.t 162) (.t 163), none⟩,
    ⟨some 165, .fad 0 (.t 164), none⟩,
    ⟨some 166, .ld none (.t 165), none⟩,
    ⟨some 167, .bin .eql (.t 166) (.c (.int .i64 2)), none⟩,
    ⟨some 168, .mv (.t 167), none⟩,
    ⟨some 169, .fad 0 (.t 5), some (168, true)⟩,
    ⟨some 170, .ld none (.t 169), some (168, true)⟩,
    ⟨some 171, .mv (.t 3), some (168, true)⟩,
    ⟨some 172, .iad 3 (.t 170) (.t 171), some (168, true)⟩,
    ⟨some 173, .fad 2 (.t 172), some (168, true)⟩,
    ⟨some 174, .ld none (.t 173), some (168, true)⟩,
    ⟨some 175, .fad 1 (.t 7), some (168, true)⟩,
    ⟨some 176, .ld none (.t 175), some (168, true)⟩,
    ⟨some 177, .bin .eql (.t 174) (.t 176), some (168, true)⟩,
    ⟨some 178, .pick (.t 168) (.t 177) (.c (.bool false)), none⟩,
    ⟨some 10, .mv (.t 178), none⟩] [0, 1, 0, 7, 15, 31, 63, 127, 255, 511, 255, 2047, 4095, 8191, 255, 16639, 65535, 131071, 262143] [10])
  .ret)
  (.seq (.reg false [⟨some 180, .bin .eql (.t 60) (.c (.int .i64 7)), none⟩,
    ⟨some 179, .mv (.t 180), none⟩] [] [3, 4, 5, 7, 179])
  (.cond (.t 179)
  (.seq (.reg true [⟨some 181, .fad 0 (.t 5), none⟩,
    ⟨some 182, .ld none (.t 181), none⟩,
    ⟨some 183, .mv (.t 3), none⟩,
    ⟨some 184, .iad 3 (.t 182) (.t 183), none⟩,
    ⟨some 185, .fad 0 (.t 184), none⟩,
    ⟨some 186, .ld none (.t 185), none⟩,
    ⟨some 187, .bin .eql (.t 186) (.c (.int .i64 3)), none⟩,
    ⟨some 188, .mv (.t 187), none⟩,
    ⟨some 189, .fad 0 (.t 5), some (188, true)⟩,
    ⟨some 190, .ld none (.t 189), some (188, true)⟩,
    ⟨some 191, .mv (.t 3), some (188, true)⟩,
    ⟨some 192, .iad 3 (.t 190) (.t 191), some (188, true)⟩,
    ⟨some 193, .fad 1 (.t 192), some (188, true)⟩,
    ⟨some 194, .ld none (.t 193), some (188, true)⟩,
    ⟨some 195, .fad 1 (.t 7), some (188, true)⟩,
    ⟨some 196, .ld none (.t 195), some (188, true)⟩,
    ⟨some 197, .bin .eql (.t 194) (.t 196), some (188, true)⟩,
    ⟨some 198, .pick (.t 188) (.t 197) (.c (.bool false)), none⟩,
    ⟨some 199, .mv (.t 198), none⟩,
    ⟨some 200, .fad 0 (.t 5), some (199, true)⟩,
    ⟨some 201, .ld none (.t 200), some (199, true)⟩,
    ⟨some 202, .mv (.t 3), some (199, true)⟩,
    ⟨some 203, .iad 3 (.t 201) (.t 202), some (199, true)⟩,
    ⟨some 204, .fad 2 (.t 203), some (199, true)⟩,
    ⟨some 205, .ld none (.t 204), some (199, true)⟩,
    ⟨some 206, .mv (.t 4), some (199, true)⟩,
    ⟨some 207, .bin .eql (.t 205) (.t 206), some (199, true)⟩,
    ⟨some 208, .pick (.t 199) (.t 207) (.c (.bool false)), none⟩,
    ⟨some 10, .mv (.t 208), none⟩] [0, 1, 0, 7, 15, 31, 63, 127, 255, 511, 255, 2047, 4095, 8191, 255, 16639, 65535, 131071, 262143, 524287, 1048575, 524287, 4194303, 8388607, 16777215, 524287, 67108863, 134217727, 268435455] [10])
  .ret)
  .skip))))))))))))))))
  (.seq (.reg true [⟨some 209, .fad 0 (.t 5), none⟩,
    ⟨some 210, .ld none (.t 209), none⟩,
    ⟨some 211, .mv (.t 3), none⟩,
    ⟨some 212, .iad 3 (.t 210) (.t 211), none⟩,
    ⟨some 213, .fad 0 (.t 212), none⟩,
    ⟨some 214, .ld none (.t 213), none⟩,
    ⟨some 215, .bin .eql (.t 214) (.c (.int .i64 4)), none⟩,
    ⟨some 216, .mv (.t 215), none⟩,
    ⟨some 217, .fad 0 (.t 5), some (216, true)⟩,
    ⟨some 218, .ld none (.t 217), some (216, true)⟩,
    ⟨some 219, .mv (.t 3), some (216, true)⟩,
    ⟨some 220, .iad 3 (.t 218) (.t 219), some (216, true)⟩,
    ⟨some 221, .fad 1 (.t 220), some (216, true)⟩,
    ⟨some 222, .ld none (.t 221), some (216, true)⟩,
    ⟨some 223, .fad 1 (.t 7), some (216, true)⟩,
    ⟨some 224, .ld none (.t 223), some (216, true)⟩,
    ⟨some 225, .bin .eql (.t 222) (.t 224), some (216, true)⟩,
    ⟨some 226, .pick (.t 216) (.t 225) (.c (.bool false)), none⟩,
    ⟨some 10, .mv (.t 226), none⟩] [0, 1, 0, 7, 15, 31, 63, 127, 255, 511, 255, 2047, 4095, 8191, 255, 16639, 65535, 131071, 262143] [10])
  .ret)))))), [(10, none)]⟩
theorem spec_l9Holds_ok : okFn Tryz.prog 45 spec_l9Holds = true := by kernel_rfl
def spec_l9Term : IFn := ⟨17, (.seq (.reg false [⟨some 6, .mv (.c (.int .i64 0)), none⟩] [] [0, 1, 2])
  (.seq (.seq (.reg false [⟨some 7, .mv (.t 2), none⟩,
    ⟨some 8, .mv (.t 1), none⟩,
    ⟨some 9, .bin .sub (.t 8) (.c (.int .i64 1)), none⟩,
    ⟨some 10, .call 37 [.t 7, .c (.int .i64 0), .t 9], none⟩,
    ⟨some 11, .not (.t 10), none⟩] [] [0, 2, 11])
  (.cond (.t 11)
  (.seq (.reg false [⟨some 6, .mv (.c (.int .i64 (-1))), none⟩] [] [6])
  .ret)
  .skip))
  (.seq (.reg false [⟨some 12, .mv (.t 0), none⟩,
    ⟨some 13, .mv (.t 2), none⟩,
    ⟨some 14, .iad 4 (.t 12) (.t 13), none⟩,
    ⟨some 15, .fad 1 (.t 14), none⟩,
    ⟨some 16, .ld none (.t 15), none⟩,
    ⟨some 6, .mv (.t 16), none⟩] [] [6])
  .ret))), [(6, none)]⟩
theorem spec_l9Term_ok : okFn Tryz.prog 46 spec_l9Term = true := by kernel_rfl
def spec_l1DrawAny : IFn := ⟨63, (.seq (.reg false [⟨some 2, .new [.nil], none⟩] [] [0, 2])
  (.seq (.reg false [⟨some 4, .mv (.t 0), none⟩,
    ⟨some 5, .call 71 [.t 4, .c (.int .i64 24)], none⟩,
    ⟨some 3, .new [.nil], none⟩,
    ⟨none, .st 1 (.t 3) (.t 5), none⟩] [] [0, 2, 3])
  (.seq (.seq (.reg false [⟨some 6, .mv (.t 0), none⟩,
    ⟨some 7, .call 29 [.t 6, .c (.int .i64 25)], none⟩] [] [0, 2, 3, 7])
  (.block 0 (.seq (.reg false [⟨some 9, .bin .eql (.t 7) (.c (.int .i64 0)), none⟩,
    ⟨some 8, .mv (.t 9), none⟩] [] [0, 2, 3, 7, 8])
  (.cond (.t 8)
  (.reg false [⟨some 10, .ld (some 1) (.t 3), none⟩,
    ⟨some 11, .call 72 [.t 10], none⟩,
    ⟨some 12, .fld 0 none (.t 11), none⟩,
    ⟨some 13, .mv (.t 0), none⟩,
    ⟨some 14, .call 73 [.t 13, .c (.int .i64 3)], none⟩,
    ⟨some 15, .bsl 3 1 [.int .i64 0, .int .i64 0, .int .i64 0] [(0, 3, .t 14)], none⟩,
    ⟨some 16, .app 3 24 (.t 12) (.t 15), none⟩,
    ⟨some 17, .fad 0 (.t 3), none⟩,
    ⟨none, .st 1 (.t 17) (.t 16), none⟩] [] [0, 2, 3])
  (.seq (.reg false [⟨some 19, .bin .eql (.t 7) (.c (.int .i64 1)), none⟩,
    ⟨some 18, .mv (.t 19), none⟩] [] [0, 2, 3, 18])
  (.cond (.t 18)
  (.reg false [⟨some 20, .ld (some 1) (.t 3), none⟩,
    ⟨some 21, .call 72 [.t 20], none⟩,
    ⟨some 22, .fld 0 none (.t 21), none⟩,
    ⟨some 23, .mv (.t 0), none⟩,
    ⟨some 24, .call 29 [.t 23, .c (.int .i64 10)], none⟩,
    ⟨some 25, .mv (.t 0), none⟩,
    ⟨some 26, .call 29 [.t 25, .c (.int .i64 30)], none⟩,
    ⟨some 27, .bin .sub (.t 26) (.c (.int .i64 1)), none⟩,
    ⟨some 28, .mv (.t 0), none⟩,
    ⟨some 29, .call 29 [.t 28, .c (.int .i64 30)], none⟩,
    ⟨some 30, .bin .sub (.t 29) (.c (.int .i64 1)), none⟩,
    ⟨some 31, .build [.int .i64 0, .int .i64 0, .int .i64 0] [(0, 1, .t 24), (1, 1, .t 27), (2, 1, .t 30)], none⟩,
    ⟨some 32, .bsl 3 1 [.int .i64 0, .int .i64 0, .int .i64 0] [(0, 3, .t 31)], none⟩,
    ⟨some 33, .app 3 24 (.t 22) (.t 32), none⟩,
    ⟨some 34, .fad 0 (.t 3), none⟩,
    ⟨none, .st 1 (.t 34) (.t 33), none⟩] [] [0, 2, 3])
  .skip))))))
  (.seq (.seq (.reg false [⟨some 35, .mv (.t 0), none⟩,
    ⟨some 36, .call 28 [.t 35, .c (.int .i64 80)], none⟩] [] [2, 3, 36])
  (.cond (.t 36)
  (.seq (.reg false [⟨some 37, .build [.nil] [], none⟩,
    ⟨none, .st 1 (.t 3) (.t 37), none⟩] [] [2, 3])
  (.block 1 (.loop (.seq (.seq (.reg false [⟨some 38, .fad 0 (.t 3), none⟩,
    ⟨some 39, .ld none (.t 38), none⟩,
    ⟨some 40, .len false (.t 39), none⟩,
    ⟨some 41, .bin .lss (.t 40) (.c (.int .i64 500)), none⟩] [] [2, 3, 41])
  (.cond (.t 41)
  .skip
  (.exit 1)))
  (.block 2 (.seq (.reg false [⟨some 43, .ld (some 1) (.t 3), none⟩,
    ⟨some 44, .fad 0 (.t 3), none⟩,
    ⟨some 45, .ld none (.t 44), none⟩,
    ⟨some 46, .len false (.t 45), none⟩,
    ⟨some 47, .bin .rem (.t 46) (.c (.int .i64 200)), none⟩,
    ⟨some 48, .build [.int .i64 0, .int .i64 0, .int .i64 0] [(0, 1, .c (.int .i64 1)), (1, 1, .t 47)], none⟩,
    ⟨some 49, .call 74 [.t 43, .t 48], none⟩,
    ⟨some 42, .mv (.t 49), none⟩,
    ⟨some 50, .ext (.t 42) 0, none⟩,
    ⟨some 51, .ext (.t 42) 1, none⟩,
    ⟨none, .st 1 (.t 3) (.t 50), none⟩] [] [2, 3])
  (.reg false [⟨some 53, .ld (some 1) (.t 3), none⟩,
    ⟨some 54, .fad 0 (.t 3), none⟩,
    ⟨some 55, .ld none (.t 54), none⟩,
    ⟨some 56, .len false (.t 55), none⟩,
    ⟨some 57, .bin .sub (.t 56) (.c (.int .i64 1)), none⟩,
    ⟨some 58, .build [.int .i64 0, .int .i64 0, .int .i64 0] [(0, 1, .c (.int .i64 5)), (1, 1, .t 57)], none⟩,
    ⟨some 59, .call 74 [.t 53, .t 58], none⟩,
    ⟨some 52, .mv (.t 59), none⟩,
    ⟨some 60, .ext (.t 52) 0, none⟩,
    ⟨some 61, .ext (.t 52) 1, none⟩,
    ⟨none, .st 1 (.t 3) (.t 60), none⟩] [] [2, 3])))))))
  .skip))
  (.seq (.reg false [⟨some 62, .ld (some 1) (.t 3), none⟩,
    ⟨none, .st 1 (.t 2) (.t 62), none⟩] [] [2])
  .ret))))), [(2, some (some 1))]⟩
theorem spec_l1DrawAny_ok : okFn Tryz.prog 47 spec_l1DrawAny = true := by kernel_rfl
def spec_l6DrawAny : IFn := ⟨38, (.seq (.reg false [⟨some 3, .box (.t 1), none⟩,
    ⟨some 4, .mv (.c (.nil)), none⟩] [] [0, 3])
  (.seq (.reg false [⟨some 7, .mv (.t 0), none⟩,
    ⟨some 8, .ld (some 1) (.t 3), none⟩,
    ⟨some 9, .call 75 [.t 7, .t 8], none⟩,
    ⟨some 5, .mv (.t 9), none⟩] [] [0, 3, 5])
  (.seq (.seq (.reg false [⟨some 10, .mv (.t 0), none⟩,
    ⟨some 11, .call 29 [.t 10, .c (.int .i64 30)], none⟩] [] [0, 3, 5, 11])
  (.block 0 (.seq (.reg false [⟨some 13, .bin .eql (.t 11) (.c (.int .i64 0)), none⟩,
    ⟨some 12, .mv (.t 13), none⟩] [] [0, 3, 5, 11, 12])
  (.cond (.t 12)
  (.reg false [⟨some 14, .mv (.t 5), none⟩,
    ⟨some 15, .fad 0 (.t 3), none⟩,
    ⟨some 16, .ld none (.t 15), none⟩,
    ⟨some 17, .len false (.t 16), none⟩,
    ⟨some 18, .bsl 1 1 [.int .i64 0] [(0, 1, .t 17)], none⟩,
    ⟨some 19, .app 1 8 (.t 14) (.t 18), none⟩,
    ⟨some 5, .mv (.t 19), none⟩] [] [5])
  (.seq (.reg false [⟨some 21, .bin .eql (.t 11) (.c (.int .i64 1)), none⟩,
    ⟨some 20, .mv (.t 21), none⟩] [] [0, 5, 11, 20])
  (.cond (.t 20)
  (.reg false [⟨some 22, .mv (.t 5), none⟩,
    ⟨some 23, .mv (.t 5), none⟩,
    ⟨some 24, .app 1 8 (.t 22) (.t 23), none⟩,
    ⟨some 5, .mv (.t 24), none⟩] [] [5])
  (.seq (.reg false [⟨some 26, .bin .eql (.t 11) (.c (.int .i64 2)), none⟩,
    ⟨some 25, .mv (.t 26), none⟩] [] [0, 5, 25])
  (.cond (.t 25)
  (.seq (.reg false [⟨some 6, .mv (.c (.int .i64 0)), none⟩] [] [0, 5, 6])
  (.block 1 (.loop (.seq (.seq (.reg false [⟨some 27, .mv (.t 6), none⟩,
    ⟨some 28, .mv (.t 0), none⟩,
    ⟨some 29, .call 29 [.t 28, .c (.int .i64 2)], none⟩,
    ⟨some 30, .bin .add (.c (.int .i64 200)) (.t 29), none⟩,
    ⟨some 31, .bin .lss (.t 27) (.t 30), none⟩] [] [0, 5, 6, 31])
  (.cond (.t 31)
  .skip
  (.exit 1)))
  (.seq (.block 2 (.reg false [⟨some 34, .mv (.t 5), none⟩,
    ⟨some 35, .mv (.t 6), none⟩,
    ⟨some 36, .call 76 [.t 34, .t 35], none⟩,
    ⟨some 5, .mv (.t 36), none⟩] [] [0, 5, 6]))
  (.reg false [⟨some 32, .mv (.t 6), none⟩,
    ⟨some 33, .bin .add (.t 32) (.c (.int .i64 1)), none⟩,
    ⟨some 6, .mv (.t 33), none⟩] [] [0, 5, 6]))))))
  .skip))))))))
  (.seq (.reg false [⟨some 37, .mv (.t 5), none⟩,
    ⟨some 4, .mv (.t 37), none⟩] [] [4])
  .ret)))), [(4, none)]⟩
theorem spec_l6DrawAny_ok : okFn Tryz.prog 48 spec_l6DrawAny = true := by kernel_rfl
def spec_l8All : IFn := ⟨33, (.seq (.reg false [⟨some 2, .box (.t 0), none⟩,
    ⟨some 4, .mv (.c (.nil)), none⟩,
    ⟨some 5, .mv (.c (.int .i64 0)), none⟩] [] [1, 2])
  (.seq (.reg false [⟨some 10, .bsl 1 0 [.int .i64 0] [], none⟩,
    ⟨some 11, .mv (.t 1), none⟩,
    ⟨some 12, .app 1 8 (.t 10) (.t 11), none⟩,
    ⟨some 6, .mv (.t 12), none⟩] [] [2, 6])
  (.seq (.reg false [⟨some 7, .mv (.c (.int .i64 0)), none⟩] [] [2, 6, 7])
  (.block 0 (.loop (.block 1 (.seq (.reg false [⟨some 14, .ld (some 1) (.t 2), none⟩,
    ⟨some 15, .mv (.t 6), none⟩,
    ⟨some 16, .call 77 [.t 14, .t 15], none⟩,
    ⟨some 13, .mv (.t 16), none⟩,
    ⟨some 17, .ext (.t 13) 0, none⟩,
    ⟨some 18, .ext (.t 13) 1, none⟩,
    ⟨some 8, .mv (.t 17), none⟩,
    ⟨some 9, .mv (.t 18), none⟩] [] [2, 6, 7, 8, 9])
  (.seq (.seq (.reg false [⟨some 19, .mv (.t 9), none⟩,
    ⟨some 20, .not (.t 19), none⟩,
    ⟨some 21, .mv (.t 20), none⟩,
    ⟨some 22, .mv (.t 8), some (21, false)⟩,
    ⟨some 23, .len false (.t 22), some (21, false)⟩,
    ⟨some 24, .mv (.t 6), some (21, false)⟩,
    ⟨some 25, .len false (.t 24), some (21, false)⟩,
    ⟨some 26, .bin .eql (.t 23) (.t 25), some (21, false)⟩,
    ⟨some 27, .pick (.t 21) (.c (.bool true)) (.t 26), none⟩] [] [2, 6, 7, 8, 27])
  (.cond (.t 27)
  (.seq (.reg false [⟨some 28, .mv (.t 6), none⟩,
    ⟨some 29, .mv (.t 7), none⟩,
    ⟨some 4, .mv (.t 28), none⟩,
    ⟨some 5, .mv (.t 29), none⟩] [] [4, 5])
  .ret)
  .skip))
  (.seq (.reg false [⟨some 30, .mv (.t 8), none⟩,
    ⟨some 6, .mv (.t 30), none⟩] [] [2, 6, 7])
  (.reg false [⟨some 31, .mv (.t 7), none⟩,
    ⟨some 32, .bin .add (.t 31) (.c (.int .i64 1)), none⟩,
    ⟨some 7, .mv (.t 32), none⟩] [] [2, 6, 7])))))))))), [(4, none), (5, none)]⟩
theorem spec_l8All_ok : okFn Tryz.prog 49 spec_l8All = true := by kernel_rfl
def spec_MakesList : IFn := ⟨9, (.seq (.reg false [⟨some 2, .box (.t 0), none⟩,
    ⟨some 4, .mv (.c (.nil)), none⟩] [] [1, 2])
  (.seq (.reg false [⟨some 5, .ld (some 1) (.t 2), none⟩,
    ⟨some 6, .mv (.t 1), none⟩,
    ⟨some 7, .call 79 [.t 5, .t 6], none⟩,
    ⟨some 8, .call 78 [.t 7], none⟩,
    ⟨some 4, .mv (.t 8), none⟩] [] [4])
  .ret)), [(4, none)]⟩
theorem spec_MakesList_ok : okFn Tryz.prog 50 spec_MakesList = true := by kernel_rfl
def spec_l1Byte : IFn := ⟨58, (.seq (.reg false [⟨some 2, .mv (.c (.int .i64 0)), none⟩] [] [0])
  (.seq (.reg false [⟨some 4, .mv (.t 0), none⟩,
    ⟨some 5, .mv (.t 0), none⟩,
    ⟨some 6, .nck (.t 5), none⟩,
    ⟨some 7, .fad 2 (.t 6), none⟩,
    ⟨some 8, .ld none (.t 7), none⟩,
    ⟨some 9, .bin .mul (.t 8) (.c (.int .i64 6364136223846793005)), none⟩,
    ⟨some 10, .bin .add (.t 9) (.c (.int .i64 1442695040888963407)), none⟩,
    ⟨some 11, .nck (.t 4), none⟩,
    ⟨some 12, .fad 2 (.t 11), none⟩,
    ⟨none, .st 1 (.t 12) (.t 10), none⟩] [] [0])
  (.seq (.reg true [⟨some 13, .mv (.t 0), none⟩,
    ⟨some 14, .nck (.t 13), none⟩,
    ⟨some 15, .fad 2 (.t 14), none⟩,
    ⟨some 16, .ld none (.t 15), none⟩,
    ⟨some 17, .bin .shr (.t 16) (.c (.int .u64 33)), none⟩,
    ⟨some 18, .mv (.t 0), none⟩,
    ⟨some 19, .nck (.t 18), none⟩,
    ⟨some 20, .fad 2 (.t 19), none⟩,
    ⟨some 21, .ld none (.t 20), none⟩,
    ⟨some 22, .bin .shr (.t 21) (.c (.int .u64 45)), none⟩,
    ⟨some 23, .bin .xor (.t 17) (.t 22), none⟩,
    ⟨some 24, .bin .and (.t 23) (.c (.int .i64 255)), none⟩,
    ⟨some 3, .mv (.t 24), none⟩] [0, 1, 3, 7, 15, 0, 32, 96, 224, 480, 1023, 2047, 4095] [0, 3])
  (.seq (.seq (.reg true [⟨some 25, .mv (.t 0), none⟩,
    ⟨some 26, .nck (.t 25), none⟩,
    ⟨some 27, .fad 1 (.t 26), none⟩,
    ⟨some 28, .ld none (.t 27), none⟩,
    ⟨some 29, .mv (.t 0), none⟩,
    ⟨some 30, .nck (.t 29), none⟩,
    ⟨some 31, .fad 0 (.t 30), none⟩,
    ⟨some 32, .ld none (.t 31), none⟩,
    ⟨some 33, .len false (.t 32), none⟩,
    ⟨some 34, .bin .lss (.t 28) (.t 33), none⟩] [0, 1, 3, 7, 0, 16, 48, 112, 240, 511] [0, 3, 34])
  (.cond (.t 34)
  (.seq (.reg true [⟨some 35, .mv (.t 3), none⟩,
    ⟨some 36, .mv (.t 0), none⟩,
    ⟨some 37, .nck (.t 36), none⟩,
    ⟨some 38, .fad 0 (.t 37), none⟩,
    ⟨some 39, .ld none (.t 38), none⟩,
    ⟨some 40, .mv (.t 0), none⟩,
    ⟨some 41, .nck (.t 40), none⟩,
    ⟨some 42, .fad 1 (.t 41), none⟩,
    ⟨some 43, .ld none (.t 42), none⟩,
    ⟨some 44, .iad 1 (.t 39) (.t 43), none⟩,
    ⟨some 45, .ld none (.t 44), none⟩,
    ⟨some 46, .conv .i64 (.t 45), none⟩,
    ⟨some 47, .bin .add (.t 35) (.t 46), none⟩,
    ⟨some 48, .bin .and (.t 47) (.c (.int .i64 255)), none⟩,
    ⟨some 3, .mv (.t 48), none⟩] [0, 0, 2, 6, 14, 0, 32, 96, 224, 510, 1022, 2046, 4095, 8191, 16383] [0, 3])
  (.reg false [⟨some 49, .mv (.t 0), none⟩,
    ⟨some 50, .mv (.t 0), none⟩,
    ⟨some 51, .nck (.t 50), none⟩,
    ⟨some 52, .fad 1 (.t 51), none⟩,
    ⟨some 53, .ld none (.t 52), none⟩,
    ⟨some 54, .bin .add (.t 53) (.c (.int .i64 1)), none⟩,
    ⟨some 55, .nck (.t 49), none⟩,
    ⟨some 56, .fad 1 (.t 55), none⟩,
    ⟨none, .st 1 (.t 56) (.t 54), none⟩] [] [3]))
  .skip))
  (.seq (.reg false [⟨some 57, .mv (.t 3), none⟩,
    ⟨some 2, .mv (.t 57), none⟩] [] [2])
  .ret))))), [(2, none)]⟩
theorem spec_l1Byte_ok : okFn Tryz.prog 51 spec_l1Byte = true := by kernel_rfl
def spec_l1PickInt : IFn := ⟨12, (.seq (.reg false [⟨some 4, .mv (.c (.int .i64 0)), none⟩] [] [0, 1])
  (.seq (.reg false [⟨some 5, .mv (.t 1), none⟩,
    ⟨some 6, .mv (.t 0), none⟩,
    ⟨some 7, .mv (.t 1), none⟩,
    ⟨some 8, .len false (.t 7), none⟩,
    ⟨some 9, .call 29 [.t 6, .t 8], none⟩,
    ⟨some 10, .iad 1 (.t 5) (.t 9), none⟩,
    ⟨some 11, .ld none (.t 10), none⟩,
    ⟨some 4, .mv (.t 11), none⟩] [] [4])
  .ret)), [(4, none)]⟩
theorem spec_l1PickInt_ok : okFn Tryz.prog 52 spec_l1PickInt = true := by kernel_rfl
def spec_l1Draw : IFn := ⟨19, (.seq (.reg false [⟨some 4, .mv (.c (.int .i64 0)), none⟩] [] [0, 1])
  (.seq (.seq (.reg false [⟨some 5, .mv (.t 1), none⟩,
    ⟨some 6, .bin .gtr (.t 5) (.c (.int .i64 6)), none⟩,
    ⟨some 7, .mv (.t 6), none⟩,
    ⟨some 8, .mv (.t 0), some (7, true)⟩,
    ⟨some 9, .call 28 [.t 8, .c (.int .i64 2)], some (7, true)⟩,
    ⟨some 10, .pick (.t 7) (.t 9) (.c (.bool false)), none⟩] [] [0, 1, 10])
  (.cond (.t 10)
  (.seq (.reg false [⟨some 11, .mv (.t 1), none⟩,
    ⟨some 12, .bin .sub (.t 11) (.c (.int .i64 1)), none⟩,
    ⟨some 13, .mv (.t 0), none⟩,
    ⟨some 14, .call 29 [.t 13, .c (.int .i64 6)], none⟩,
    ⟨some 15, .bin .sub (.t 12) (.t 14), none⟩,
    ⟨some 4, .mv (.t 15), none⟩] [] [4])
  .ret)
  .skip))
  (.seq (.reg false [⟨some 16, .mv (.t 0), none⟩,
    ⟨some 17, .mv (.t 1), none⟩,
    ⟨some 18, .call 29 [.t 16, .t 17], none⟩,
    ⟨some 4, .mv (.t 18), none⟩] [] [4])
  .ret))), [(4, none)]⟩
theorem spec_l1Draw_ok : okFn Tryz.prog 53 spec_l1Draw = true := by kernel_rfl
def spec_l1Max : IFn := ⟨10, (.seq (.reg false [⟨some 4, .mv (.c (.int .i64 0)), none⟩] [] [0, 1])
  (.seq (.seq (.reg false [⟨some 5, .mv (.t 0), none⟩,
    ⟨some 6, .mv (.t 1), none⟩,
    ⟨some 7, .bin .gtr (.t 5) (.t 6), none⟩] [] [0, 1, 7])
  (.cond (.t 7)
  (.seq (.reg false [⟨some 8, .mv (.t 0), none⟩,
    ⟨some 4, .mv (.t 8), none⟩] [] [4])
  .ret)
  .skip))
  (.seq (.reg false [⟨some 9, .mv (.t 1), none⟩,
    ⟨some 4, .mv (.t 9), none⟩] [] [4])
  .ret))), [(4, none)]⟩
theorem spec_l1Max_ok : okFn Tryz.prog 54 spec_l1Max = true := by kernel_rfl
def impl_prover_step : IFn := ⟨74, (.seq (.reg false [⟨some 4, .new [.int .i64 0, .int .i64 0, .int .i64 0, .int .i64 0], none⟩,
    ⟨some 5, .mv (.c (.bool false)), none⟩] [] [0, 1, 4])
  (.seq (.reg false [⟨some 14, .mv (.t 0), none⟩,
    ⟨some 15, .nck (.t 14), none⟩,
    ⟨some 16, .fad 0 (.t 15), none⟩,
    ⟨some 17, .ld none (.t 16), none⟩,
    ⟨some 18, .nck (.t 17), none⟩,
    ⟨some 19, .fad 0 (.t 18), none⟩,
    ⟨some 20, .ld none (.t 19), none⟩,
    ⟨some 21, .mv (.t 1), none⟩,
    ⟨some 22, .iad 3 (.t 20) (.t 21), none⟩,
    ⟨some 23, .ld (some 3) (.t 22), none⟩,
    ⟨some 6, .new [.int .i64 0, .int .i64 0, .int .i64 0], none⟩,
    ⟨none, .st 3 (.t 6) (.t 23), none⟩] [] [0, 1, 4, 6])
  (.seq (.block 0 (.seq (.reg false [⟨some 25, .mv (.t 0), none⟩,
    ⟨some 26, .nck (.t 25), none⟩,
    ⟨some 27, .fad 1 (.t 26), none⟩,
    ⟨some 28, .ld none (.t 27), none⟩,
    ⟨some 29, .mv (.t 1), none⟩,
    ⟨some 30, .call 69 [.t 28, .t 29], none⟩,
    ⟨some 24, .mv (.t 30), none⟩] [] [0, 1, 4, 6, 24])
  (.cond (.t 24)
  (.seq (.reg false [⟨some 31, .mv (.t 1), none⟩,
    ⟨some 32, .build [.int .i64 0, .int .i64 0, .int .i64 0, .int .i64 0] [(0, 1, .c (.int .i64 1)), (1, 1, .t 31)], none⟩,
    ⟨none, .st 4 (.t 4) (.t 32), none⟩,
    ⟨some 5, .mv (.c (.bool true)), none⟩] [] [4, 5])
  .ret)
  (.seq (.reg false [⟨some 34, .fad 0 (.t 6), none⟩,
    ⟨some 35, .ld none (.t 34), none⟩,
    ⟨some 36, .bin .eql (.t 35) (.c (.int .i64 1)), none⟩,
    ⟨some 37, .mv (.t 36), none⟩,
    ⟨some 38, .fad 1 (.t 6), some (37, true)⟩,
    ⟨some 39, .ld none (.t 38), some (37, true)⟩,
    ⟨some 40, .call 70 [.t 39], some (37, true)⟩,
    ⟨some 41, .pick (.t 37) (.t 40) (.c (.bool false)), none⟩,
    ⟨some 33, .mv (.t 41), none⟩] [] [0, 1, 4, 33])
  (.cond (.t 33)
  (.seq (.reg false [⟨some 42, .mv (.t 1), none⟩,
    ⟨some 43, .build [.int .i64 0, .int .i64 0, .int .i64 0, .int .i64 0] [(0, 1, .c (.int .i64 2)), (1, 1, .t 42)], none⟩,
    ⟨none, .st 4 (.t 4) (.t 43), none⟩,
    ⟨some 5, .mv (.c (.bool true)), none⟩] [] [4, 5])
  .ret)
  .skip)))))
  (.seq (.seq (.reg false [⟨some 45, .mv (.t 0), none⟩,
    ⟨some 46, .mv (.t 1), none⟩,
    ⟨some 47, .call 80 [.t 45, .t 46], none⟩,
    ⟨some 44, .mv (.t 47), none⟩,
    ⟨some 48, .ext (.t 44) 0, none⟩,
    ⟨some 49, .ext (.t 44) 1, none⟩,
    ⟨some 7, .new [.int .i64 0, .int .i64 0, .int .i64 0, .int .i64 0], none⟩,
    ⟨none, .st 4 (.t 7) (.t 48), none⟩,
    ⟨some 8, .mv (.t 49), none⟩] [] [0, 1, 4, 7, 8])
  (.seq (.reg false [⟨some 50, .mv (.t 8), none⟩] [] [0, 1, 4, 7, 50])
  (.cond (.t 50)
  (.seq (.reg false [⟨some 51, .ld (some 4) (.t 7), none⟩,
    ⟨none, .st 4 (.t 4) (.t 51), none⟩,
    ⟨some 5, .mv (.c (.bool true)), none⟩] [] [4, 5])
  .ret)
  .skip)))
  (.seq (.seq (.reg false [⟨some 53, .mv (.t 0), none⟩,
    ⟨some 54, .mv (.t 1), none⟩,
    ⟨some 55, .call 81 [.t 53, .t 54], none⟩,
    ⟨some 52, .mv (.t 55), none⟩,
    ⟨some 56, .ext (.t 52) 0, none⟩,
    ⟨some 57, .ext (.t 52) 1, none⟩,
    ⟨some 9, .new [.int .i64 0, .int .i64 0, .int .i64 0, .int .i64 0], none⟩,
    ⟨none, .st 4 (.t 9) (.t 56), none⟩,
    ⟨some 10, .mv (.t 57), none⟩] [] [0, 1, 4, 9, 10])
  (.seq (.reg false [⟨some 58, .mv (.t 10), none⟩] [] [0, 1, 4, 9, 58])
  (.cond (.t 58)
  (.seq (.reg false [⟨some 59, .ld (some 4) (.t 9), none⟩,
    ⟨none, .st 4 (.t 4) (.t 59), none⟩,
    ⟨some 5, .mv (.c (.bool true)), none⟩] [] [4, 5])
  .ret)
  .skip)))
  (.seq (.seq (.reg false [⟨some 11, .mv (.c (.int .i64 5)), none⟩] [] [0, 1, 4, 11])
  (.block 1 (.loop (.seq (.seq (.reg false [⟨some 60, .mv (.t 11), none⟩,
    ⟨some 61, .bin .leq (.t 60) (.c (.int .i64 8)), none⟩] [] [0, 1, 4, 11, 61])
  (.cond (.t 61)
  .skip
  (.exit 1)))
  (.seq (.block 2 (.seq (.reg false [⟨some 65, .mv (.t 0), none⟩,
    ⟨some 66, .mv (.t 11), none⟩,
    ⟨some 67, .mv (.t 1), none⟩,
    ⟨some 68, .call 82 [.t 65, .t 66, .t 67], none⟩,
    ⟨some 64, .mv (.t 68), none⟩,
    ⟨some 69, .ext (.t 64) 0, none⟩,
    ⟨some 70, .ext (.t 64) 1, none⟩,
    ⟨some 12, .new [.int .i64 0, .int .i64 0, .int .i64 0, .int .i64 0], none⟩,
    ⟨none, .st 4 (.t 12) (.t 69), none⟩,
    ⟨some 13, .mv (.t 70), none⟩] [] [0, 1, 4, 11, 12, 13])
  (.seq (.reg false [⟨some 71, .mv (.t 13), none⟩] [] [0, 1, 4, 11, 12, 71])
  (.cond (.t 71)
  (.seq (.reg false [⟨some 72, .ld (some 4) (.t 12), none⟩,
    ⟨none, .st 4 (.t 4) (.t 72), none⟩,
    ⟨some 5, .mv (.c (.bool true)), none⟩] [] [4, 5])
  .ret)
  .skip))))
  (.reg false [⟨some 62, .mv (.t 11), none⟩,
    ⟨some 63, .bin .add (.t 62) (.c (.int .i64 1)), none⟩,
    ⟨some 11, .mv (.t 63), none⟩] [] [0, 1, 4, 11]))))))
  (.seq (.reg false [⟨some 73, .build [.int .i64 0, .int .i64 0, .int .i64 0, .int .i64 0] [], none⟩,
    ⟨none, .st 4 (.t 4) (.t 73), none⟩,
    ⟨some 5, .mv (.c (.bool false)), none⟩] [] [4, 5])
  .ret))))))), [(4, some (some 4)), (5, none)]⟩
theorem impl_prover_step_ok : okFn Tryz.prog 55 impl_prover_step = true := by kernel_rfl
def impl_Pool_parts : IFn := ⟨28, (.seq (.reg false [⟨some 4, .mv (.c (.nil)), none⟩] [] [0, 1])
  (.seq (.reg false [⟨some 6, .mv (.t 0), none⟩,
    ⟨some 7, .nck (.t 6), none⟩,
    ⟨some 8, .fad 0 (.t 7), none⟩,
    ⟨some 9, .ld none (.t 8), none⟩,
    ⟨some 10, .mv (.t 1), none⟩,
    ⟨some 11, .iad 3 (.t 9) (.t 10), none⟩,
    ⟨some 12, .ld (some 3) (.t 11), none⟩,
    ⟨some 5, .new [.int .i64 0, .int .i64 0, .int .i64 0], none⟩,
    ⟨none, .st 3 (.t 5) (.t 12), none⟩] [] [5])
  (.seq (.seq (.reg false [⟨some 13, .fad 0 (.t 5), none⟩,
    ⟨some 14, .ld none (.t 13), none⟩,
    ⟨some 15, .call 83 [.t 14], none⟩] [] [5, 15])
  (.block 0 (.seq (.reg false [⟨some 17, .bin .eql (.t 15) (.c (.int .i64 1)), none⟩,
    ⟨some 16, .mv (.t 17), none⟩] [] [5, 15, 16])
  (.cond (.t 16)
  (.seq (.reg false [⟨some 18, .fad 1 (.t 5), none⟩,
    ⟨some 19, .ld none (.t 18), none⟩,
    ⟨some 20, .bsl 1 1 [.int .i64 0] [(0, 1, .t 19)], none⟩,
    ⟨some 4, .mv (.t 20), none⟩] [] [4])
  .ret)
  (.seq (.reg false [⟨some 22, .bin .eql (.t 15) (.c (.int .i64 2)), none⟩,
    ⟨some 21, .mv (.t 22), none⟩] [] [5, 21])
  (.cond (.t 21)
  (.seq (.reg false [⟨some 23, .fad 1 (.t 5), none⟩,
    ⟨some 24, .ld none (.t 23), none⟩,
    ⟨some 25, .fad 2 (.t 5), none⟩,
    ⟨some 26, .ld none (.t 25), none⟩,
    ⟨some 27, .bsl 1 2 [.int .i64 0] [(0, 1, .t 24), (1, 1, .t 26)], none⟩,
    ⟨some 4, .mv (.t 27), none⟩] [] [4])
  .ret)
  .skip))))))
  (.seq (.reg false [⟨some 4, .mv (.c (.nil)), none⟩] [] [4])
  .ret)))), [(4, none)]⟩
theorem impl_Pool_parts_ok : okFn Tryz.prog 56 impl_Pool_parts = true := by kernel_rfl
def spec_PoolOk : IFn := ⟨34, (.seq (.reg false [⟨some 1, .box (.t 0), none⟩,
    ⟨some 2, .mv (.c (.bool false)), none⟩] [] [1])
  (.seq (.seq (.reg false [⟨some 4, .fad 0 (.t 1), none⟩,
    ⟨some 5, .ld none (.t 4), none⟩,
    ⟨some 6, .len false (.t 5), none⟩,
    ⟨some 7, .bin .gtr (.t 6) (.c (.int .i64 500)), none⟩] [] [1, 7])
  (.cond (.t 7)
  (.seq (.reg false [⟨some 2, .mv (.c (.bool false)), none⟩] [] [2])
  .ret)
  .skip))
  (.seq (.seq (.reg false [⟨some 3, .mv (.c (.int .i64 0)), none⟩] [] [1, 3])
  (.block 0 (.loop (.seq (.seq (.reg false [⟨some 8, .mv (.t 3), none⟩,
    ⟨some 9, .fad 0 (.t 1), none⟩,
    ⟨some 10, .ld none (.t 9), none⟩,
    ⟨some 11, .len false (.t 10), none⟩,
    ⟨some 12, .bin .lss (.t 8) (.t 11), none⟩] [] [1, 3, 12])
  (.cond (.t 12)
  .skip
  (.exit 0)))
  (.seq (.block 1 (.seq (.reg true [⟨some 15, .fad 0 (.t 1), none⟩,
    ⟨some 16, .ld none (.t 15), none⟩,
    ⟨some 17, .mv (.t 3), none⟩,
    ⟨some 18, .iad 3 (.t 16) (.t 17), none⟩,
    ⟨some 19, .ld (some 3) (.t 18), none⟩,
    ⟨some 20, .mv (.t 3), none⟩,
    ⟨some 21, .call 84 [.t 19, .t 20], none⟩,
    ⟨some 22, .not (.t 21), none⟩,
    ⟨some 23, .mv (.t 22), none⟩,
    ⟨some 24, .ld (some 1) (.t 1), some (23, false)⟩,
    ⟨some 25, .fad 0 (.t 1), some (23, false)⟩,
    ⟨some 26, .ld none (.t 25), some (23, false)⟩,
    ⟨some 27, .mv (.t 3), some (23, false)⟩,
    ⟨some 28, .iad 3 (.t 26) (.t 27), some (23, false)⟩,
    ⟨some 29, .ld (some 3) (.t 28), some (23, false)⟩,
    ⟨some 30, .call 85 [.t 24, .t 29], some (23, false)⟩,
    ⟨some 31, .mv (.t 3), some (23, false)⟩,
    ⟨some 32, .bin .neq (.t 30) (.t 31), some (23, false)⟩,
    ⟨some 33, .pick (.t 23) (.c (.bool true)) (.t 32), none⟩] [0, 1, 0, 7, 15, 0, 63, 127, 255, 511, 511, 1535, 511, 7679, 15871, 32767, 511, 131071, 262143] [1, 3, 33])
  (.cond (.t 33)
  (.seq (.reg false [⟨some 2, .mv (.c (.bool false)), none⟩] [] [2])
  .ret)
  .skip)))
  (.reg false [⟨some 13, .mv (.t 3), none⟩,
    ⟨some 14, .bin .add (.t 13) (.c (.int .i64 1)), none⟩,
    ⟨some 3, .mv (.t 14), none⟩] [] [1, 3]))))))
  (.seq (.reg false [⟨some 2, .mv (.c (.bool true)), none⟩] [] [2])
  .ret)))), [(2, none)]⟩
theorem spec_PoolOk_ok : okFn Tryz.prog 57 spec_PoolOk = true := by kernel_rfl
def spec_l6Know : IFn := ⟨38, (.seq (.reg false [⟨some 2, .box (.t 0), none⟩,
    ⟨some 4, .mv (.c (.bool false)), none⟩] [] [1, 2])
  (.seq (.seq (.reg false [⟨some 6, .mv (.t 1), none⟩,
    ⟨some 7, .len false (.t 6), none⟩,
    ⟨some 8, .bin .gtr (.t 7) (.c (.int .i64 200)), none⟩] [] [1, 2, 8])
  (.cond (.t 8)
  (.seq (.reg false [⟨some 4, .mv (.c (.bool false)), none⟩] [] [4])
  .ret)
  .skip))
  (.seq (.seq (.reg false [⟨some 5, .mv (.c (.int .i64 0)), none⟩] [] [1, 2, 5])
  (.block 0 (.loop (.seq (.seq (.reg false [⟨some 9, .mv (.t 5), none⟩,
    ⟨some 10, .mv (.t 1), none⟩,
    ⟨some 11, .len false (.t 10), none⟩,
    ⟨some 12, .bin .lss (.t 9) (.t 11), none⟩] [] [1, 2, 5, 12])
  (.cond (.t 12)
  .skip
  (.exit 0)))
  (.seq (.block 1 (.seq (.reg true [⟨some 15, .ld (some 1) (.t 2), none⟩,
    ⟨some 16, .mv (.t 1), none⟩,
    ⟨some 17, .mv (.t 5), none⟩,
    ⟨some 18, .iad 1 (.t 16) (.t 17), none⟩,
    ⟨some 19, .ld none (.t 18), none⟩,
    ⟨some 20, .call 44 [.t 15, .t 19], none⟩,
    ⟨some 21, .not (.t 20), none⟩,
    ⟨some 22, .mv (.t 21), none⟩,
    ⟨some 23, .mv (.t 5), some (22, false)⟩,
    ⟨some 24, .bin .gtr (.t 23) (.c (.int .i64 0)), some (22, false)⟩,
    ⟨some 25, .mv (.t 24), some (22, false)⟩,
    ⟨some 26, .mv (.t 1), some (25, true)⟩,
    ⟨some 27, .mv (.t 5), some (25, true)⟩,
    ⟨some 28, .bin .sub (.t 27) (.c (.int .i64 1)), some (25, true)⟩,
    ⟨some 29, .iad 1 (.t 26) (.t 28), some (25, true)⟩,
    ⟨some 30, .ld none (.t 29), some (25, true)⟩,
    ⟨some 31, .mv (.t 1), some (25, true)⟩,
    ⟨some 32, .mv (.t 5), some (25, true)⟩,
    ⟨some 33, .iad 1 (.t 31) (.t 32), some (25, true)⟩,
    ⟨some 34, .ld none (.t 33), some (25, true)⟩,
    ⟨some 35, .bin .geq (.t 30) (.t 34), some (25, true)⟩,
    ⟨some 36, .pick (.t 25) (.t 35) (.c (.bool false)), some (22, false)⟩,
    ⟨some 37, .pick (.t 22) (.c (.bool true)) (.t 36), none⟩] [0, 0, 0, 6, 14, 31, 63, 127, 255, 511, 1023, 2047, 2047, 6143, 16383, 32767, 2047, 2047, 198655, 460799, 1048575, 2097151, 4194303] [1, 2, 5, 37])
  (.cond (.t 37)
  (.seq (.reg false [⟨some 4, .mv (.c (.bool false)), none⟩] [] [4])
  .ret)
  .skip)))
  (.reg false [⟨some 13, .mv (.t 5), none⟩,
    ⟨some 14, .bin .add (.t 13) (.c (.int .i64 1)), none⟩,
    ⟨some 5, .mv (.t 14), none⟩] [] [1, 2, 5]))))))
  (.seq (.reg false [⟨some 4, .mv (.c (.bool true)), none⟩] [] [4])
  .ret)))), [(4, none)]⟩
theorem spec_l6Know_ok : okFn Tryz.prog 58 spec_l6Know = true := by kernel_rfl
def spec_l1PartsOf : IFn := ⟨27, (.seq (.reg false [⟨some 2, .box (.t 0), none⟩,
    ⟨some 4, .mv (.c (.nil)), none⟩] [] [1, 2])
  (.seq (.reg false [⟨some 6, .fad 0 (.t 2), none⟩,
    ⟨some 7, .ld none (.t 6), none⟩,
    ⟨some 8, .mv (.t 1), none⟩,
    ⟨some 9, .iad 3 (.t 7) (.t 8), none⟩,
    ⟨some 10, .ld (some 3) (.t 9), none⟩,
    ⟨some 5, .new [.int .i64 0, .int .i64 0, .int .i64 0], none⟩,
    ⟨none, .st 3 (.t 5) (.t 10), none⟩] [] [5])
  (.seq (.seq (.reg false [⟨some 11, .fad 0 (.t 5), none⟩,
    ⟨some 12, .ld none (.t 11), none⟩,
    ⟨some 13, .call 64 [.t 12], none⟩] [] [5, 13])
  (.block 0 (.seq (.reg false [⟨some 15, .bin .eql (.t 13) (.c (.int .i64 1)), none⟩,
    ⟨some 14, .mv (.t 15), none⟩] [] [5, 13, 14])
  (.cond (.t 14)
  (.seq (.reg false [⟨some 16, .fad 1 (.t 5), none⟩,
    ⟨some 17, .ld none (.t 16), none⟩,
    ⟨some 18, .bsl 1 1 [.int .i64 0] [(0, 1, .t 17)], none⟩,
    ⟨some 4, .mv (.t 18), none⟩] [] [4])
  .ret)
  (.seq (.reg false [⟨some 20, .bin .eql (.t 13) (.c (.int .i64 2)), none⟩,
    ⟨some 19, .mv (.t 20), none⟩] [] [5, 19])
  (.cond (.t 19)
  (.seq (.reg false [⟨some 21, .fad 1 (.t 5), none⟩,
    ⟨some 22, .ld none (.t 21), none⟩,
    ⟨some 23, .fad 2 (.t 5), none⟩,
    ⟨some 24, .ld none (.t 23), none⟩,
    ⟨some 25, .bsl 1 2 [.int .i64 0] [(0, 1, .t 22), (1, 1, .t 24)], none⟩,
    ⟨some 4, .mv (.t 25), none⟩] [] [4])
  .ret)
  .skip))))))
  (.seq (.reg false [⟨some 26, .bsl 1 0 [.int .i64 0] [], none⟩,
    ⟨some 4, .mv (.t 26), none⟩] [] [4])
  .ret)))), [(4, none)]⟩
theorem spec_l1PartsOf_ok : okFn Tryz.prog 59 spec_l1PartsOf = true := by kernel_rfl
def spec_KnowHas : IFn := ⟨18, (.seq (.reg false [⟨some 4, .mv (.c (.bool false)), none⟩] [] [0, 1])
  (.seq (.seq (.reg false [⟨some 5, .mv (.c (.int .i64 0)), none⟩] [] [0, 1, 5])
  (.block 0 (.loop (.seq (.seq (.reg false [⟨some 6, .mv (.t 5), none⟩,
    ⟨some 7, .mv (.t 0), none⟩,
    ⟨some 8, .len false (.t 7), none⟩,
    ⟨some 9, .bin .lss (.t 6) (.t 8), none⟩] [] [0, 1, 5, 9])
  (.cond (.t 9)
  .skip
  (.exit 0)))
  (.seq (.block 1 (.seq (.reg false [⟨some 12, .mv (.t 0), none⟩,
    ⟨some 13, .mv (.t 5), none⟩,
    ⟨some 14, .iad 1 (.t 12) (.t 13), none⟩,
    ⟨some 15, .ld none (.t 14), none⟩,
    ⟨some 16, .mv (.t 1), none⟩,
    ⟨some 17, .bin .eql (.t 15) (.t 16), none⟩] [] [0, 1, 5, 17])
  (.cond (.t 17)
  (.seq (.reg false [⟨some 4, .mv (.c (.bool true)), none⟩] [] [4])
  .ret)
  .skip)))
  (.reg false [⟨some 10, .mv (.t 5), none⟩,
    ⟨some 11, .bin .add (.t 10) (.c (.int .i64 1)), none⟩,
    ⟨some 5, .mv (.t 11), none⟩] [] [0, 1, 5]))))))
  (.seq (.reg false [⟨some 4, .mv (.c (.bool false)), none⟩] [] [4])
  .ret))), [(4, none)]⟩
theorem spec_KnowHas_ok : okFn Tryz.prog 60 spec_KnowHas = true := by kernel_rfl
def spec_IsPublic : IFn := ⟨5, (.seq (.reg false [⟨some 2, .mv (.c (.bool false)), none⟩] [] [0])
  (.seq (.reg false [⟨some 3, .mv (.t 0), none⟩,
    ⟨some 4, .call 37 [.t 3, .c (.int .i64 0), .c (.int .i64 49)], none⟩,
    ⟨some 2, .mv (.t 4), none⟩] [] [2])
  .ret)), [(2, none)]⟩
theorem spec_IsPublic_ok : okFn Tryz.prog 61 spec_IsPublic = true := by kernel_rfl
def spec_l9Share : IFn := ⟨89, (.seq (.reg false [⟨some 3, .box (.t 0), none⟩,
    ⟨some 6, .new [.int .i64 0, .int .i64 0, .int .i64 0, .int .i64 0], none⟩,
    ⟨some 7, .mv (.c (.bool false)), none⟩] [] [1, 2, 3, 6])
  (.seq (.reg false [⟨some 11, .fad 0 (.t 3), none⟩,
    ⟨some 12, .ld none (.t 11), none⟩,
    ⟨some 13, .mv (.t 2), none⟩,
    ⟨some 14, .iad 3 (.t 12) (.t 13), none⟩,
    ⟨some 15, .ld (some 3) (.t 14), none⟩,
    ⟨some 8, .new [.int .i64 0, .int .i64 0, .int .i64 0], none⟩,
    ⟨none, .st 3 (.t 8) (.t 15), none⟩] [] [1, 2, 3, 6, 8])
  (.seq (.seq (.reg false [⟨some 16, .fad 0 (.t 8), none⟩,
    ⟨some 17, .ld none (.t 16), none⟩,
    ⟨some 18, .bin .neq (.t 17) (.c (.int .i64 8)), none⟩] [] [1, 2, 3, 6, 8, 18])
  (.cond (.t 18)
  (.seq (.reg false [⟨some 19, .build [.int .i64 0, .int .i64 0, .int .i64 0, .int .i64 0] [], none⟩,
    ⟨none, .st 4 (.t 6) (.t 19), none⟩,
    ⟨some 7, .mv (.c (.bool false)), none⟩] [] [6, 7])
  .ret)
  .skip))
  (.seq (.reg false [⟨some 20, .ld (some 1) (.t 3), none⟩,
    ⟨some 21, .fad 2 (.t 8), none⟩,
    ⟨some 22, .ld none (.t 21), none⟩,
    ⟨some 23, .build [.int .i64 0, .int .i64 0, .int .i64 0] [(0, 1, .c (.int .i64 7)), (1, 1, .t 22)], none⟩,
    ⟨some 24, .call 85 [.t 20, .t 23], none⟩,
    ⟨some 9, .mv (.t 24), none⟩] [] [1, 2, 3, 6, 8, 9])
  (.seq (.reg false [⟨some 25, .ld (some 1) (.t 3), none⟩,
    ⟨some 26, .fad 1 (.t 8), none⟩,
    ⟨some 27, .ld none (.t 26), none⟩,
    ⟨some 28, .build [.int .i64 0, .int .i64 0, .int .i64 0] [(0, 1, .c (.int .i64 7)), (1, 1, .t 27)], none⟩,
    ⟨some 29, .call 85 [.t 25, .t 28], none⟩,
    ⟨some 10, .mv (.t 29), none⟩] [] [1, 2, 6, 8, 9, 10])
  (.seq (.block 0 (.seq (.reg false [⟨some 31, .mv (.t 1), none⟩,
    ⟨some 32, .fad 1 (.t 8), none⟩,
    ⟨some 33, .ld none (.t 32), none⟩,
    ⟨some 34, .iad 1 (.t 31) (.t 33), none⟩,
    ⟨some 35, .ld none (.t 34), none⟩,
    ⟨some 36, .bin .geq (.t 35) (.c (.int .i64 0)), none⟩,
    ⟨some 37, .mv (.t 36), none⟩,
    ⟨some 38, .mv (.t 9), some (37, true)⟩,
    ⟨some 39, .bin .geq (.t 38) (.c (.int .i64 0)), some (37, true)⟩,
    ⟨some 40, .pick (.t 37) (.t 39) (.c (.bool false)), none⟩,
    ⟨some 41, .mv (.t 40), none⟩,
    ⟨some 42, .mv (.t 1), some (41, true)⟩,
    ⟨some 43, .mv (.t 9), some (41, true)⟩,
    ⟨some 44, .iad 1 (.t 42) (.t 43), some (41, true)⟩,
    ⟨some 45, .ld none (.t 44), some (41, true)⟩,
    ⟨some 46, .bin .geq (.t 45) (.c (.int .i64 0)), some (41, true)⟩,
    ⟨some 47, .pick (.t 41) (.t 46) (.c (.bool false)), none⟩,
    ⟨some 30, .mv (.t 47), none⟩] [] [1, 2, 6, 8, 9, 10, 30])
  (.cond (.t 30)
  (.seq (.reg true [⟨some 48, .mv (.t 2), none⟩,
    ⟨some 49, .mv (.t 1), none⟩,
    ⟨some 50, .fad 1 (.t 8), none⟩,
    ⟨some 51, .ld none (.t 50), none⟩,
    ⟨some 52, .iad 1 (.t 49) (.t 51), none⟩,
    ⟨some 53, .ld none (.t 52), none⟩,
    ⟨some 54, .mv (.t 1), none⟩,
    ⟨some 55, .mv (.t 9), none⟩,
    ⟨some 56, .iad 1 (.t 54) (.t 55), none⟩,
    ⟨some 57, .ld none (.t 56), none⟩,
    ⟨some 58, .build [.int .i64 0, .int .i64 0, .int .i64 0, .int .i64 0] [(0, 1, .c (.int .i64 4)), (1, 1, .t 48), (2, 1, .t 53), (3, 1, .t 57)], none⟩,
    ⟨none, .st 4 (.t 6) (.t 58), none⟩,
    ⟨some 7, .mv (.c (.bool true)), none⟩] [0, 0, 0, 4, 14, 30, 0, 0, 192, 448, 1023, 2047, 4095] [6, 7])
  .ret)
  (.seq (.reg false [⟨some 60, .mv (.t 1), none⟩,
    ⟨some 61, .fad 2 (.t 8), none⟩,
    ⟨some 62, .ld none (.t 61), none⟩,
    ⟨some 63, .iad 1 (.t 60) (.t 62), none⟩,
    ⟨some 64, .ld none (.t 63), none⟩,
    ⟨some 65, .bin .geq (.t 64) (.c (.int .i64 0)), none⟩,
    ⟨some 66, .mv (.t 65), none⟩,
    ⟨some 67, .mv (.t 10), some (66, true)⟩,
    ⟨some 68, .bin .geq (.t 67) (.c (.int .i64 0)), some (66, true)⟩,
    ⟨some 69, .pick (.t 66) (.t 68) (.c (.bool false)), none⟩,
    ⟨some 70, .mv (.t 69), none⟩,
    ⟨some 71, .mv (.t 1), some (70, true)⟩,
    ⟨some 72, .mv (.t 10), some (70, true)⟩,
    ⟨some 73, .iad 1 (.t 71) (.t 72), some (70, true)⟩,
    ⟨some 74, .ld none (.t 73), some (70, true)⟩,
    ⟨some 75, .bin .geq (.t 74) (.c (.int .i64 0)), some (70, true)⟩,
    ⟨some 76, .pick (.t 70) (.t 75) (.c (.bool false)), none⟩,
    ⟨some 59, .mv (.t 76), none⟩] [] [1, 2, 6, 8, 10, 59])
  (.cond (.t 59)
  (.seq (.reg true [⟨some 77, .mv (.t 2), none⟩,
    ⟨some 78, .mv (.t 1), none⟩,
    ⟨some 79, .fad 2 (.t 8), none⟩,
    ⟨some 80, .ld none (.t 79), none⟩,
    ⟨some 81, .iad 1 (.t 78) (.t 80), none⟩,
    ⟨some 82, .ld none (.t 81), none⟩,
    ⟨some 83, .mv (.t 1), none⟩,
    ⟨some 84, .mv (.t 10), none⟩,
    ⟨some 85, .iad 1 (.t 83) (.t 84), none⟩,
    ⟨some 86, .ld none (.t 85), none⟩,
    ⟨some 87, .build [.int .i64 0, .int .i64 0, .int .i64 0, .int .i64 0] [(0, 1, .c (.int .i64 4)), (1, 1, .t 77), (2, 1, .t 82), (3, 1, .t 86)], none⟩,
    ⟨none, .st 4 (.t 6) (.t 87), none⟩,
    ⟨some 7, .mv (.c (.bool true)), none⟩] [0, 0, 0, 4, 14, 30, 0, 0, 192, 448, 1023, 2047, 4095] [6, 7])
  .ret)
  .skip)))))
  (.seq (.reg false [⟨some 88, .build [.int .i64 0, .int .i64 0, .int .i64 0, .int .i64 0] [], none⟩,
    ⟨none, .st 4 (.t 6) (.t 88), none⟩,
    ⟨some 7, .mv (.c (.bool false)), none⟩] [] [6, 7])
  .ret))))))), [(6, some (some 4)), (7, none)]⟩
theorem spec_l9Share_ok : okFn Tryz.prog 62 spec_l9Share = true := by kernel_rfl
def spec_l9Up : IFn := ⟨113, (.seq (.reg false [⟨some 4, .box (.t 0), none⟩,
    ⟨some 8, .new [.int .i64 0, .int .i64 0, .int .i64 0, .int .i64 0], none⟩,
    ⟨some 9, .mv (.c (.bool false)), none⟩] [] [1, 2, 3, 4, 8])
  (.seq (.seq (.reg false [⟨some 12, .mv (.t 2), none⟩,
    ⟨some 13, .bin .add (.t 12) (.c (.int .i64 1)), none⟩,
    ⟨some 10, .mv (.t 13), none⟩] [] [1, 2, 3, 4, 8, 10])
  (.block 0 (.loop (.seq (.seq (.reg false [⟨some 14, .mv (.t 10), none⟩,
    ⟨some 15, .fad 0 (.t 4), none⟩,
    ⟨some 16, .ld none (.t 15), none⟩,
    ⟨some 17, .len false (.t 16), none⟩,
    ⟨some 18, .bin .lss (.t 14) (.t 17), none⟩] [] [1, 2, 3, 4, 8, 10, 18])
  (.cond (.t 18)
  .skip
  (.exit 0)))
  (.seq (.block 1 (.seq (.reg false [⟨some 21, .fad 0 (.t 4), none⟩,
    ⟨some 22, .ld none (.t 21), none⟩,
    ⟨some 23, .mv (.t 10), none⟩,
    ⟨some 24, .iad 3 (.t 22) (.t 23), none⟩,
    ⟨some 25, .ld (some 3) (.t 24), none⟩,
    ⟨some 11, .new [.int .i64 0, .int .i64 0, .int .i64 0], none⟩,
    ⟨none, .st 3 (.t 11) (.t 25), none⟩] [] [1, 2, 3, 4, 8, 10, 11])
  (.seq (.seq (.reg false [⟨some 26, .mv (.t 1), none⟩,
    ⟨some 27, .mv (.t 10), none⟩,
    ⟨some 28, .iad 1 (.t 26) (.t 27), none⟩,
    ⟨some 29, .ld none (.t 28), none⟩,
    ⟨some 30, .bin .lss (.t 29) (.c (.int .i64 0)), none⟩] [] [1, 2, 3, 4, 8, 10, 11, 30])
  (.cond (.t 30)
  (.exit 1)
  .skip))
  (.block 2 (.seq (.seq (.reg false [⟨some 32, .mv (.t 3), none⟩,
    ⟨some 33, .bin .eql (.t 32) (.c (.int .i64 5)), none⟩,
    ⟨some 34, .mv (.t 33), none⟩,
    ⟨some 35, .fad 0 (.t 11), some (34, true)⟩,
    ⟨some 36, .ld none (.t 35), some (34, true)⟩,
    ⟨some 37, .bin .eql (.t 36) (.c (.int .i64 2)), some (34, true)⟩,
    ⟨some 38, .pick (.t 34) (.t 37) (.c (.bool false)), none⟩,
    ⟨some 39, .mv (.t 38), none⟩,
    ⟨some 40, .fad 1 (.t 11), some (39, true)⟩,
    ⟨some 41, .ld none (.t 40), some (39, true)⟩,
    ⟨some 42, .mv (.t 2), some (39, true)⟩,
    ⟨some 43, .bin .eql (.t 41) (.t 42), some (39, true)⟩,
    ⟨some 44, .pick (.t 39) (.t 43) (.c (.bool false)), none⟩,
    ⟨some 31, .mv (.t 44), none⟩] [] [1, 2, 3, 4, 8, 10, 11, 31])
  (.cond (.t 31)
  .skip
  (.seq (.reg false [⟨some 45, .mv (.t 3), none⟩,
    ⟨some 46, .bin .eql (.t 45) (.c (.int .i64 6)), none⟩,
    ⟨some 47, .mv (.t 46), none⟩,
    ⟨some 48, .fad 0 (.t 11), some (47, true)⟩,
    ⟨some 49, .ld none (.t 48), some (47, true)⟩,
    ⟨some 50, .bin .eql (.t 49) (.c (.int .i64 2)), some (47, true)⟩,
    ⟨some 51, .pick (.t 47) (.t 50) (.c (.bool false)), none⟩,
    ⟨some 52, .mv (.t 51), none⟩,
    ⟨some 53, .fad 2 (.t 11), some (52, true)⟩,
    ⟨some 54, .ld none (.t 53), some (52, true)⟩,
    ⟨some 55, .mv (.t 2), some (52, true)⟩,
    ⟨some 56, .bin .eql (.t 54) (.t 55), some (52, true)⟩,
    ⟨some 57, .pick (.t 52) (.t 56) (.c (.bool false)), none⟩,
    ⟨some 31, .mv (.t 57), none⟩] [] [1, 2, 3, 4, 8, 10, 11, 31])
  (.cond (.t 31)
  .skip
  (.reg false [⟨some 58, .mv (.t 3), none⟩,
    ⟨some 59, .bin .eql (.t 58) (.c (.int .i64 8)), none⟩,
    ⟨some 60, .mv (.t 59), none⟩,
    ⟨some 61, .fad 0 (.t 11), some (60, true)⟩,
    ⟨some 62, .ld none (.t 61), some (60, true)⟩,
    ⟨some 63, .bin .eql (.t 62) (.c (.int .i64 4)), some (60, true)⟩,
    ⟨some 64, .pick (.t 60) (.t 63) (.c (.bool false)), none⟩,
    ⟨some 65, .mv (.t 64), none⟩,
    ⟨some 66, .fad 1 (.t 11), some (65, true)⟩,
    ⟨some 67, .ld none (.t 66), some (65, true)⟩,
    ⟨some 68, .mv (.t 2), some (65, true)⟩,
    ⟨some 69, .bin .eql (.t 67) (.t 68), some (65, true)⟩,
    ⟨some 70, .pick (.t 65) (.t 69) (.c (.bool false)), none⟩,
    ⟨some 31, .mv (.t 70), none⟩] [] [1, 2, 3, 4, 8, 10, 11, 31])))))
  (.cond (.t 31)
  (.seq (.reg false [⟨some 71, .mv (.t 3), none⟩,
    ⟨some 72, .mv (.t 2), none⟩,
    ⟨some 73, .mv (.t 1), none⟩,
    ⟨some 74, .mv (.t 10), none⟩,
    ⟨some 75, .iad 1 (.t 73) (.t 74), none⟩,
    ⟨some 76, .ld none (.t 75), none⟩,
    ⟨some 77, .build [.int .i64 0, .int .i64 0, .int .i64 0, .int .i64 0] [(0, 1, .t 71), (1, 1, .t 72), (2, 1, .t 76)], none⟩,
    ⟨none, .st 4 (.t 8) (.t 77), none⟩,
    ⟨some 9, .mv (.c (.bool true)), none⟩] [] [8, 9])
  .ret)
  (.seq (.reg false [⟨some 79, .mv (.t 3), none⟩,
    ⟨some 80, .bin .eql (.t 79) (.c (.int .i64 7)), none⟩,
    ⟨some 81, .mv (.t 80), none⟩,
    ⟨some 82, .fad 0 (.t 11), some (81, true)⟩,
    ⟨some 83, .ld none (.t 82), some (81, true)⟩,
    ⟨some 84, .bin .eql (.t 83) (.c (.int .i64 3)), some (81, true)⟩,
    ⟨some 85, .pick (.t 81) (.t 84) (.c (.bool false)), none⟩,
    ⟨some 86, .mv (.t 85), none⟩,
    ⟨some 87, .fad 1 (.t 11), some (86, true)⟩,
    ⟨some 88, .ld none (.t 87), some (86, true)⟩,
    ⟨some 89, .mv (.t 2), some (86, true)⟩,
    ⟨some 90, .bin .eql (.t 88) (.t 89), some (86, true)⟩,
    ⟨some 91, .pick (.t 86) (.t 90) (.c (.bool false)), none⟩,
    ⟨some 92, .mv (.t 91), none⟩,
    ⟨some 93, .mv (.t 1), some (92, true)⟩,
    ⟨some 94, .fad 2 (.t 11), some (92, true)⟩,
    ⟨some 95, .ld none (.t 94), some (92, true)⟩,
    ⟨some 96, .iad 1 (.t 93) (.t 95), some (92, true)⟩,
    ⟨some 97, .ld none (.t 96), some (92, true)⟩,
    ⟨some 98, .bin .geq (.t 97) (.c (.int .i64 0)), some (92, true)⟩,
    ⟨some 99, .pick (.t 92) (.t 98) (.c (.bool false)), none⟩,
    ⟨some 78, .mv (.t 99), none⟩] [] [1, 2, 3, 4, 8, 10, 11, 78])
  (.cond (.t 78)
  (.seq (.reg true [⟨some 100, .mv (.t 3), none⟩,
    ⟨some 101, .mv (.t 2), none⟩,
    ⟨some 102, .mv (.t 1), none⟩,
    ⟨some 103, .mv (.t 10), none⟩,
    ⟨some 104, .iad 1 (.t 102) (.t 103), none⟩,
    ⟨some 105, .ld none (.t 104), none⟩,
    ⟨some 106, .mv (.t 1), none⟩,
    ⟨some 107, .fad 2 (.t 11), none⟩,
    ⟨some 108, .ld none (.t 107), none⟩,
    ⟨some 109, .iad 1 (.t 106) (.t 108), none⟩,
    ⟨some 110, .ld none (.t 109), none⟩,
    ⟨some 111, .build [.int .i64 0, .int .i64 0, .int .i64 0, .int .i64 0] [(0, 1, .t 100), (1, 1, .t 101), (2, 1, .t 105), (3, 1, .t 110)], none⟩,
    ⟨none, .st 4 (.t 8) (.t 111), none⟩,
    ⟨some 9, .mv (.c (.bool true)), none⟩] [0, 0, 0, 0, 12, 28, 0, 0, 128, 448, 960, 2047, 4095, 8191] [8, 9])
  .ret)
  .skip))))))))
  (.reg false [⟨some 19, .mv (.t 10), none⟩,
    ⟨some 20, .bin .add (.t 19) (.c (.int .i64 1)), none⟩,
    ⟨some 10, .mv (.t 20), none⟩] [] [1, 2, 3, 4, 8, 10]))))))
  (.seq (.reg false [⟨some 112, .build [.int .i64 0, .int .i64 0, .int .i64 0, .int .i64 0] [], none⟩,
    ⟨none, .st 4 (.t 8) (.t 112), none⟩,
    ⟨some 9, .mv (.c (.bool false)), none⟩] [] [8, 9])
  .ret))), [(8, some (some 4)), (9, none)]⟩
theorem spec_l9Up_ok : okFn Tryz.prog 63 spec_l9Up = true := by kernel_rfl
def spec_l1Parts : IFn := ⟨15, (.seq (.reg false [⟨some 2, .mv (.c (.int .i64 0)), none⟩] [] [0])
  (.seq (.seq (.reg false [⟨some 3, .mv (.t 0), none⟩] [] [3])
  (.block 0 (.seq (.reg false [⟨some 5, .bin .eql (.t 3) (.c (.int .i64 1)), none⟩,
    ⟨some 4, .mv (.t 5), none⟩] [] [3, 4])
  (.cond (.t 4)
  (.seq (.reg false [⟨some 2, .mv (.c (.int .i64 0)), none⟩] [] [2])
  .ret)
  (.seq (.seq (.reg false [⟨some 7, .bin .eql (.t 3) (.c (.int .i64 5)), none⟩,
    ⟨some 6, .mv (.t 7), none⟩] [] [3, 6])
  (.cond (.t 6)
  .skip
  (.reg false [⟨some 8, .bin .eql (.t 3) (.c (.int .i64 7)), none⟩,
    ⟨some 6, .mv (.t 8), none⟩] [] [3, 6])))
  (.cond (.t 6)
  (.seq (.reg false [⟨some 2, .mv (.c (.int .i64 1)), none⟩] [] [2])
  .ret)
  (.seq (.seq (.reg false [⟨some 10, .bin .eql (.t 3) (.c (.int .i64 2)), none⟩,
    ⟨some 9, .mv (.t 10), none⟩] [] [3, 9])
  (.cond (.t 9)
  .skip
  (.seq (.reg false [⟨some 11, .bin .eql (.t 3) (.c (.int .i64 3)), none⟩,
    ⟨some 9, .mv (.t 11), none⟩] [] [3, 9])
  (.cond (.t 9)
  .skip
  (.seq (.reg false [⟨some 12, .bin .eql (.t 3) (.c (.int .i64 4)), none⟩,
    ⟨some 9, .mv (.t 12), none⟩] [] [3, 9])
  (.cond (.t 9)
  .skip
  (.seq (.reg false [⟨some 13, .bin .eql (.t 3) (.c (.int .i64 6)), none⟩,
    ⟨some 9, .mv (.t 13), none⟩] [] [3, 9])
  (.cond (.t 9)
  .skip
  (.reg false [⟨some 14, .bin .eql (.t 3) (.c (.int .i64 8)), none⟩,
    ⟨some 9, .mv (.t 14), none⟩] [] [9])))))))))
  (.cond (.t 9)
  (.seq (.reg false [⟨some 2, .mv (.c (.int .i64 2)), none⟩] [] [2])
  .ret)
  .skip))))))))
  (.seq (.reg false [⟨some 2, .mv (.c (.int .i64 (-1))), none⟩] [] [2])
  .ret))), [(2, none)]⟩
theorem spec_l1Parts_ok : okFn Tryz.prog 64 spec_l1Parts = true := by kernel_rfl
def impl_nodeOk : IFn := ⟨56, (.seq (.reg false [⟨some 2, .box (.t 0), none⟩,
    ⟨some 4, .mv (.c (.bool false)), none⟩] [] [1, 2])
  (.seq (.seq (.reg false [⟨some 5, .fad 0 (.t 2), none⟩,
    ⟨some 6, .ld none (.t 5), none⟩,
    ⟨some 7, .call 83 [.t 6], none⟩] [] [1, 2, 7])
  (.block 0 (.seq (.reg false [⟨some 9, .bin .eql (.t 7) (.c (.int .i64 0)), none⟩,
    ⟨some 8, .mv (.t 9), none⟩] [] [1, 2, 7, 8])
  (.cond (.t 8)
  (.seq (.reg false [⟨some 10, .fad 1 (.t 2), none⟩,
    ⟨some 11, .ld none (.t 10), none⟩,
    ⟨some 12, .call 39 [.t 11, .c (.int .i64 0), .c (.int .i64 199)], none⟩,
    ⟨some 13, .mv (.t 12), none⟩,
    ⟨some 14, .fad 2 (.t 2), some (13, true)⟩,
    ⟨some 15, .ld none (.t 14), some (13, true)⟩,
    ⟨some 16, .bin .eql (.t 15) (.c (.int .i64 0)), some (13, true)⟩,
    ⟨some 17, .pick (.t 13) (.t 16) (.c (.bool false)), none⟩,
    ⟨some 4, .mv (.t 17), none⟩] [] [4])
  .ret)
  (.seq (.reg false [⟨some 19, .bin .eql (.t 7) (.c (.int .i64 1)), none⟩,
    ⟨some 18, .mv (.t 19), none⟩] [] [1, 2, 7, 18])
  (.cond (.t 18)
  (.seq (.reg false [⟨some 20, .fad 1 (.t 2), none⟩,
    ⟨some 21, .ld none (.t 20), none⟩,
    ⟨some 22, .mv (.t 1), none⟩,
    ⟨some 23, .bin .sub (.t 22) (.c (.int .i64 1)), none⟩,
    ⟨some 24, .call 39 [.t 21, .c (.int .i64 0), .t 23], none⟩,
    ⟨some 25, .mv (.t 24), none⟩,
    ⟨some 26, .fad 2 (.t 2), some (25, true)⟩,
    ⟨some 27, .ld none (.t 26), some (25, true)⟩,
    ⟨some 28, .bin .eql (.t 27) (.c (.int .i64 0)), some (25, true)⟩,
    ⟨some 29, .pick (.t 25) (.t 28) (.c (.bool false)), none⟩,
    ⟨some 4, .mv (.t 29), none⟩] [] [4])
  .ret)
  (.seq (.reg false [⟨some 31, .bin .eql (.t 7) (.c (.int .i64 2)), none⟩,
    ⟨some 30, .mv (.t 31), none⟩] [] [1, 2, 30])
  (.cond (.t 30)
  (.seq (.reg false [⟨some 32, .fad 1 (.t 2), none⟩,
    ⟨some 33, .ld none (.t 32), none⟩,
    ⟨some 34, .mv (.t 1), none⟩,
    ⟨some 35, .bin .sub (.t 34) (.c (.int .i64 1)), none⟩,
    ⟨some 36, .call 39 [.t 33, .c (.int .i64 0), .t 35], none⟩,
    ⟨some 37, .mv (.t 36), none⟩,
    ⟨some 38, .fad 2 (.t 2), some (37, true)⟩,
    ⟨some 39, .ld none (.t 38), some (37, true)⟩,
    ⟨some 40, .mv (.t 1), some (37, true)⟩,
    ⟨some 41, .bin .sub (.t 40) (.c (.int .i64 1)), some (37, true)⟩,
    ⟨some 42, .call 39 [.t 39, .c (.int .i64 0), .t 41], some (37, true)⟩,
    ⟨some 43, .pick (.t 37) (.t 42) (.c (.bool false)), none⟩,
    ⟨some 44, .mv (.t 43), none⟩,
    ⟨some 45, .fad 0 (.t 2), some (44, true)⟩,
    ⟨some 46, .ld none (.t 45), some (44, true)⟩,
    ⟨some 47, .bin .neq (.t 46) (.c (.int .i64 8)), some (44, true)⟩,
    ⟨some 48, .mv (.t 47), some (44, true)⟩,
    ⟨some 49, .fad 1 (.t 2), some (48, false)⟩,
    ⟨some 50, .ld none (.t 49), some (48, false)⟩,
    ⟨some 51, .fad 2 (.t 2), some (48, false)⟩,
    ⟨some 52, .ld none (.t 51), some (48, false)⟩,
    ⟨some 53, .bin .leq (.t 50) (.t 52), some (48, false)⟩,
    ⟨some 54, .pick (.t 48) (.c (.bool true)) (.t 53), some (44, true)⟩,
    ⟨some 55, .pick (.t 44) (.t 54) (.c (.bool false)), none⟩,
    ⟨some 4, .mv (.t 55), none⟩] [] [4])
  .ret)
  .skip))))))))
  (.seq (.reg false [⟨some 4, .mv (.c (.bool false)), none⟩] [] [4])
  .ret))), [(4, none)]⟩
theorem impl_nodeOk_ok : okFn Tryz.prog 65 impl_nodeOk = true := by kernel_rfl
def impl_Pool_openOnce : IFn := ⟨72, (.seq (.reg false [⟨some 4, .mv (.c (.nil)), none⟩] [] [0, 1])
  (.seq (.reg false [⟨some 10, .mv (.t 0), none⟩,
    ⟨some 11, .mv (.t 1), none⟩,
    ⟨some 12, .call 42 [.t 10, .t 11], none⟩,
    ⟨some 5, .mv (.t 12), none⟩] [] [0, 1, 5])
  (.seq (.reg false [⟨some 13, .mv (.t 1), none⟩,
    ⟨some 14, .call 86 [.t 13], none⟩,
    ⟨some 6, .mv (.t 14), none⟩] [] [0, 1, 5, 6])
  (.seq (.seq (.reg false [⟨some 15, .mv (.t 1), none⟩,
    ⟨some 16, .len false (.t 15), none⟩,
    ⟨some 17, .mv (.c (.int .i64 0)), none⟩] [] [0, 1, 5, 6, 15, 16, 17])
  (.block 0 (.loop (.seq (.reg false [⟨some 18, .bin .lss (.t 17) (.t 16), none⟩] [] [0, 1, 5, 6, 15, 16, 17, 18])
  (.seq (.cond (.t 18)
  .skip
  (.exit 0))
  (.seq (.block 1 (.seq (.reg false [⟨some 19, .iad 1 (.t 15) (.t 17), none⟩,
    ⟨some 20, .ld none (.t 19), none⟩,
    ⟨some 8, .mv (.t 20), none⟩] [] [0, 1, 5, 6, 8, 15, 16, 17])
  (.seq (.reg false [⟨some 21, .mv (.t 0), none⟩,
    ⟨some 22, .nck (.t 21), none⟩,
    ⟨some 23, .fad 0 (.t 22), none⟩,
    ⟨some 24, .ld none (.t 23), none⟩,
    ⟨some 25, .mv (.t 8), none⟩,
    ⟨some 26, .iad 3 (.t 24) (.t 25), none⟩,
    ⟨some 27, .ld (some 3) (.t 26), none⟩,
    ⟨some 9, .new [.int .i64 0, .int .i64 0, .int .i64 0], none⟩,
    ⟨none, .st 3 (.t 9) (.t 27), none⟩] [] [0, 1, 5, 6, 9, 15, 16, 17])
  (.block 2 (.seq (.reg false [⟨some 29, .fad 0 (.t 9), none⟩,
    ⟨some 30, .ld none (.t 29), none⟩,
    ⟨some 31, .bin .eql (.t 30) (.c (.int .i64 2)), none⟩,
    ⟨some 28, .mv (.t 31), none⟩] [] [0, 1, 5, 6, 9, 15, 16, 17, 28])
  (.cond (.t 28)
  (.reg false [⟨some 32, .mv (.t 6), none⟩,
    ⟨some 33, .fad 1 (.t 9), none⟩,
    ⟨some 34, .ld none (.t 33), none⟩,
    ⟨some 35, .fad 2 (.t 9), none⟩,
    ⟨some 36, .ld none (.t 35), none⟩,
    ⟨some 37, .bsl 1 2 [.int .i64 0] [(0, 1, .t 34), (1, 1, .t 36)], none⟩,
    ⟨some 38, .app 1 8 (.t 32) (.t 37), none⟩,
    ⟨some 6, .mv (.t 38), none⟩] [] [0, 1, 5, 6, 15, 16, 17])
  (.seq (.reg false [⟨some 40, .fad 0 (.t 9), none⟩,
    ⟨some 41, .ld none (.t 40), none⟩,
    ⟨some 42, .bin .eql (.t 41) (.c (.int .i64 4)), none⟩,
    ⟨some 43, .mv (.t 42), none⟩,
    ⟨some 44, .fad 0 (.t 9), some (43, false)⟩,
    ⟨some 45, .ld none (.t 44), some (43, false)⟩,
    ⟨some 46, .bin .eql (.t 45) (.c (.int .i64 3)), some (43, false)⟩,
    ⟨some 47, .mv (.t 46), some (43, false)⟩,
    ⟨some 48, .mv (.t 5), some (47, true)⟩,
    ⟨some 49, .fad 2 (.t 9), some (47, true)⟩,
    ⟨some 50, .ld none (.t 49), some (47, true)⟩,
    ⟨some 51, .iad 1 (.t 48) (.t 50), some (47, true)⟩,
    ⟨some 52, .ld none (.t 51), some (47, true)⟩,
    ⟨some 53, .pick (.t 47) (.t 52) (.c (.bool false)), some (43, false)⟩,
    ⟨some 54, .pick (.t 43) (.c (.bool true)) (.t 53), none⟩,
    ⟨some 39, .mv (.t 54), none⟩] [] [0, 1, 5, 6, 9, 15, 16, 17, 39])
  (.cond (.t 39)
  (.reg false [⟨some 55, .mv (.t 6), none⟩,
    ⟨some 56, .fad 1 (.t 9), none⟩,
    ⟨some 57, .ld none (.t 56), none⟩,
    ⟨some 58, .bsl 1 1 [.int .i64 0] [(0, 1, .t 57)], none⟩,
    ⟨some 59, .app 1 8 (.t 55) (.t 58), none⟩,
    ⟨some 6, .mv (.t 59), none⟩] [] [0, 1, 5, 6, 15, 16, 17])
  .skip))))))))
  (.reg false [⟨some 60, .bin .add (.t 17) (.c (.int .i64 1)), none⟩,
    ⟨some 17, .mv (.t 60), none⟩] [] [0, 1, 5, 6, 15, 16, 17])))))))
  (.seq (.reg false [⟨some 61, .mv (.t 6), none⟩,
    ⟨some 62, .call 87 [.t 61], none⟩] [] [1, 6])
  (.seq (.reg false [⟨some 63, .mv (.t 6), none⟩,
    ⟨some 64, .call 89 [.t 63], none⟩,
    ⟨some 65, .call 88 [.t 64], none⟩,
    ⟨some 6, .mv (.t 65), none⟩] [] [1, 6])
  (.seq (.seq (.reg false [⟨some 66, .mv (.t 6), none⟩,
    ⟨some 67, .len false (.t 66), none⟩,
    ⟨some 68, .bin .gtr (.t 67) (.c (.int .i64 200)), none⟩] [] [1, 6, 68])
  (.cond (.t 68)
  (.seq (.reg false [⟨some 69, .mv (.t 1), none⟩,
    ⟨some 70, .call 86 [.t 69], none⟩,
    ⟨some 4, .mv (.t 70), none⟩] [] [4])
  .ret)
  .skip))
  (.seq (.reg false [⟨some 71, .mv (.t 6), none⟩,
    ⟨some 4, .mv (.t 71), none⟩] [] [4])
  .ret)))))))), [(4, none)]⟩
theorem impl_Pool_openOnce_ok : okFn Tryz.prog 66 impl_Pool_openOnce = true := by kernel_rfl
def impl_Pool_canMake : IFn := ⟨75, (.seq (.reg false [⟨some 6, .mv (.c (.bool false)), none⟩] [] [0, 1, 2])
  (.seq (.reg false [⟨some 11, .mv (.t 0), none⟩,
    ⟨some 12, .nck (.t 11), none⟩,
    ⟨some 13, .fad 0 (.t 12), none⟩,
    ⟨some 14, .ld none (.t 13), none⟩,
    ⟨some 15, .mv (.t 1), none⟩,
    ⟨some 16, .iad 3 (.t 14) (.t 15), none⟩,
    ⟨some 17, .ld (some 3) (.t 16), none⟩,
    ⟨some 7, .new [.int .i64 0, .int .i64 0, .int .i64 0], none⟩,
    ⟨none, .st 3 (.t 7) (.t 17), none⟩] [] [0, 1, 2, 7])
  (.seq (.seq (.reg false [⟨some 18, .fad 0 (.t 7), none⟩,
    ⟨some 19, .ld none (.t 18), none⟩,
    ⟨some 20, .bin .eql (.t 19) (.c (.int .i64 1)), none⟩] [] [0, 1, 2, 7, 20])
  (.cond (.t 20)
  (.seq (.reg false [⟨some 21, .fad 1 (.t 7), none⟩,
    ⟨some 22, .ld none (.t 21), none⟩,
    ⟨some 23, .call 70 [.t 22], none⟩,
    ⟨some 6, .mv (.t 23), none⟩] [] [6])
  .ret)
  .skip))
  (.seq (.reg false [⟨some 8, .mv (.c (.bool true)), none⟩] [] [0, 1, 2, 7, 8])
  (.seq (.seq (.reg false [⟨some 24, .mv (.t 0), none⟩,
    ⟨some 25, .mv (.t 1), none⟩,
    ⟨some 26, .call 56 [.t 24, .t 25], none⟩,
    ⟨some 27, .len false (.t 26), none⟩,
    ⟨some 28, .mv (.c (.int .i64 0)), none⟩] [] [0, 2, 7, 8, 26, 27, 28])
  (.block 0 (.loop (.seq (.reg false [⟨some 29, .bin .lss (.t 28) (.t 27), none⟩] [] [0, 2, 7, 8, 26, 27, 28, 29])
  (.seq (.cond (.t 29)
  .skip
  (.exit 0))
  (.seq (.block 1 (.seq (.reg false [⟨some 30, .iad 1 (.t 26) (.t 28), none⟩,
    ⟨some 31, .ld none (.t 30), none⟩,
    ⟨some 10, .mv (.t 31), none⟩] [] [0, 2, 7, 8, 10, 26, 27, 28])
  (.reg false [⟨some 32, .mv (.t 8), none⟩,
    ⟨some 33, .mv (.t 32), none⟩,
    ⟨some 34, .mv (.t 2), some (33, true)⟩,
    ⟨some 35, .mv (.t 10), some (33, true)⟩,
    ⟨some 36, .iad 1 (.t 34) (.t 35), some (33, true)⟩,
    ⟨some 37, .ld none (.t 36), some (33, true)⟩,
    ⟨some 38, .pick (.t 33) (.t 37) (.c (.bool false)), none⟩,
    ⟨some 8, .mv (.t 38), none⟩] [] [0, 2, 7, 8, 26, 27, 28])))
  (.reg false [⟨some 39, .bin .add (.t 28) (.c (.int .i64 1)), none⟩,
    ⟨some 28, .mv (.t 39), none⟩] [] [0, 2, 7, 8, 26, 27, 28])))))))
  (.seq (.seq (.reg false [⟨some 40, .mv (.t 8), none⟩,
    ⟨some 41, .mv (.t 40), none⟩,
    ⟨some 42, .fad 0 (.t 7), some (41, false)⟩,
    ⟨some 43, .ld none (.t 42), some (41, false)⟩,
    ⟨some 44, .bin .neq (.t 43) (.c (.int .i64 8)), some (41, false)⟩,
    ⟨some 45, .pick (.t 41) (.c (.bool true)) (.t 44), none⟩] [] [0, 2, 7, 8, 45])
  (.cond (.t 45)
  (.seq (.reg false [⟨some 46, .mv (.t 8), none⟩,
    ⟨some 6, .mv (.t 46), none⟩] [] [6])
  .ret)
  .skip))
  (.seq (.reg false [⟨some 47, .mv (.t 2), none⟩,
    ⟨some 48, .fad 1 (.t 7), none⟩,
    ⟨some 49, .ld none (.t 48), none⟩,
    ⟨some 50, .iad 1 (.t 47) (.t 49), none⟩,
    ⟨some 51, .ld none (.t 50), none⟩,
    ⟨some 52, .mv (.t 51), none⟩,
    ⟨some 53, .mv (.t 0), some (52, true)⟩,
    ⟨some 54, .fad 2 (.t 7), some (52, true)⟩,
    ⟨some 55, .ld none (.t 54), some (52, true)⟩,
    ⟨some 56, .build [.int .i64 0, .int .i64 0, .int .i64 0] [(0, 1, .c (.int .i64 7)), (1, 1, .t 55)], some (52, true)⟩,
    ⟨some 57, .mv (.t 2), some (52, true)⟩,
    ⟨some 58, .call 90 [.t 53, .t 56, .t 57], some (52, true)⟩,
    ⟨some 59, .pick (.t 52) (.t 58) (.c (.bool false)), none⟩,
    ⟨some 60, .mv (.t 59), none⟩,
    ⟨some 61, .mv (.t 2), some (60, false)⟩,
    ⟨some 62, .fad 2 (.t 7), some (60, false)⟩,
    ⟨some 63, .ld none (.t 62), some (60, false)⟩,
    ⟨some 64, .iad 1 (.t 61) (.t 63), some (60, false)⟩,
    ⟨some 65, .ld none (.t 64), some (60, false)⟩,
    ⟨some 66, .mv (.t 65), some (60, false)⟩,
    ⟨some 67, .mv (.t 0), some (66, true)⟩,
    ⟨some 68, .fad 1 (.t 7), some (66, true)⟩,
    ⟨some 69, .ld none (.t 68), some (66, true)⟩,
    ⟨some 70, .build [.int .i64 0, .int .i64 0, .int .i64 0] [(0, 1, .c (.int .i64 7)), (1, 1, .t 69)], some (66, true)⟩,
    ⟨some 71, .mv (.t 2), some (66, true)⟩,
    ⟨some 72, .call 90 [.t 67, .t 70, .t 71], some (66, true)⟩,
    ⟨some 73, .pick (.t 66) (.t 72) (.c (.bool false)), some (60, false)⟩,
    ⟨some 74, .pick (.t 60) (.c (.bool true)) (.t 73), none⟩,
    ⟨some 6, .mv (.t 74), none⟩] [] [6])
  .ret))))))), [(6, none)]⟩
theorem impl_Pool_canMake_ok : okFn Tryz.prog 67 impl_Pool_canMake = true := by kernel_rfl
def impl_Pool_terms : IFn := ⟨67, (.seq (.reg false [⟨some 5, .box (.t 2), none⟩,
    ⟨some 6, .mv (.c (.int .i64 0)), none⟩,
    ⟨some 7, .mv (.c (.int .i64 0)), none⟩,
    ⟨some 8, .mv (.c (.bool false)), none⟩] [] [0, 1, 5])
  (.seq (.reg false [⟨some 12, .mv (.t 0), none⟩,
    ⟨some 13, .ld (some 4) (.t 5), none⟩,
    ⟨some 14, .call 33 [.t 12, .t 13], none⟩,
    ⟨some 9, .mv (.t 14), none⟩] [] [1, 5, 9])
  (.seq (.seq (.reg false [⟨some 15, .mv (.t 9), none⟩,
    ⟨some 16, .bin .lss (.t 15) (.c (.int .i64 0)), none⟩,
    ⟨some 17, .mv (.t 16), none⟩,
    ⟨some 18, .mv (.t 9), some (17, false)⟩,
    ⟨some 19, .bin .lss (.t 18) (.c (.int .i64 1)), some (17, false)⟩,
    ⟨some 20, .mv (.t 19), some (17, false)⟩,
    ⟨some 21, .fad 2 (.t 5), some (20, true)⟩,
    ⟨some 22, .ld none (.t 21), some (20, true)⟩,
    ⟨some 23, .bin .neq (.t 22) (.c (.int .i64 0)), some (20, true)⟩,
    ⟨some 24, .pick (.t 20) (.t 23) (.c (.bool false)), some (17, false)⟩,
    ⟨some 25, .pick (.t 17) (.c (.bool true)) (.t 24), none⟩,
    ⟨some 26, .mv (.t 25), none⟩,
    ⟨some 27, .mv (.t 9), some (26, false)⟩,
    ⟨some 28, .bin .lss (.t 27) (.c (.int .i64 2)), some (26, false)⟩,
    ⟨some 29, .mv (.t 28), some (26, false)⟩,
    ⟨some 30, .fad 3 (.t 5), some (29, true)⟩,
    ⟨some 31, .ld none (.t 30), some (29, true)⟩,
    ⟨some 32, .bin .neq (.t 31) (.c (.int .i64 0)), some (29, true)⟩,
    ⟨some 33, .pick (.t 29) (.t 32) (.c (.bool false)), some (26, false)⟩,
    ⟨some 34, .pick (.t 26) (.c (.bool true)) (.t 33), none⟩] [] [1, 5, 9, 34])
  (.cond (.t 34)
  (.seq (.reg false [⟨some 6, .mv (.c (.int .i64 0)), none⟩,
    ⟨some 7, .mv (.c (.int .i64 0)), none⟩,
    ⟨some 8, .mv (.c (.bool false)), none⟩] [] [6, 7, 8])
  .ret)
  .skip))
  (.seq (.reg false [⟨some 10, .mv (.c (.int .i64 (-1))), none⟩,
    ⟨some 11, .mv (.c (.int .i64 (-1))), none⟩] [] [1, 5, 9, 10, 11])
  (.seq (.seq (.reg false [⟨some 35, .mv (.t 9), none⟩,
    ⟨some 36, .bin .gtr (.t 35) (.c (.int .i64 0)), none⟩] [] [1, 5, 9, 10, 11, 36])
  (.cond (.t 36)
  (.seq (.seq (.reg false [⟨some 37, .fad 2 (.t 5), none⟩,
    ⟨some 38, .ld none (.t 37), none⟩,
    ⟨some 39, .mv (.t 1), none⟩,
    ⟨some 40, .len false (.t 39), none⟩,
    ⟨some 41, .bin .sub (.t 40) (.c (.int .i64 1)), none⟩,
    ⟨some 42, .call 39 [.t 38, .c (.int .i64 0), .t 41], none⟩,
    ⟨some 43, .not (.t 42), none⟩] [] [1, 5, 9, 11, 43])
  (.cond (.t 43)
  (.seq (.reg false [⟨some 6, .mv (.c (.int .i64 0)), none⟩,
    ⟨some 7, .mv (.c (.int .i64 0)), none⟩,
    ⟨some 8, .mv (.c (.bool false)), none⟩] [] [6, 7, 8])
  .ret)
  .skip))
  (.reg false [⟨some 44, .mv (.t 1), none⟩,
    ⟨some 45, .fad 2 (.t 5), none⟩,
    ⟨some 46, .ld none (.t 45), none⟩,
    ⟨some 47, .iad 4 (.t 44) (.t 46), none⟩,
    ⟨some 48, .fad 1 (.t 47), none⟩,
    ⟨some 49, .ld none (.t 48), none⟩,
    ⟨some 10, .mv (.t 49), none⟩] [] [1, 5, 9, 10, 11]))
  .skip))
  (.seq (.seq (.reg false [⟨some 50, .mv (.t 9), none⟩,
    ⟨some 51, .bin .gtr (.t 50) (.c (.int .i64 1)), none⟩] [] [1, 5, 10, 11, 51])
  (.cond (.t 51)
  (.seq (.seq (.reg false [⟨some 52, .fad 3 (.t 5), none⟩,
    ⟨some 53, .ld none (.t 52), none⟩,
    ⟨some 54, .mv (.t 1), none⟩,
    ⟨some 55, .len false (.t 54), none⟩,
    ⟨some 56, .bin .sub (.t 55) (.c (.int .i64 1)), none⟩,
    ⟨some 57, .call 39 [.t 53, .c (.int .i64 0), .t 56], none⟩,
    ⟨some 58, .not (.t 57), none⟩] [] [1, 5, 10, 58])
  (.cond (.t 58)
  (.seq (.reg false [⟨some 6, .mv (.c (.int .i64 0)), none⟩,
    ⟨some 7, .mv (.c (.int .i64 0)), none⟩,
    ⟨some 8, .mv (.c (.bool false)), none⟩] [] [6, 7, 8])
  .ret)
  .skip))
  (.reg false [⟨some 59, .mv (.t 1), none⟩,
    ⟨some 60, .fad 3 (.t 5), none⟩,
    ⟨some 61, .ld none (.t 60), none⟩,
    ⟨some 62, .iad 4 (.t 59) (.t 61), none⟩,
    ⟨some 63, .fad 1 (.t 62), none⟩,
    ⟨some 64, .ld none (.t 63), none⟩,
    ⟨some 11, .mv (.t 64), none⟩] [] [10, 11]))
  .skip))
  (.seq (.reg false [⟨some 65, .mv (.t 10), none⟩,
    ⟨some 66, .mv (.t 11), none⟩,
    ⟨some 6, .mv (.t 65), none⟩,
    ⟨some 7, .mv (.t 66), none⟩,
    ⟨some 8, .mv (.c (.bool true)), none⟩] [] [6, 7, 8])
  .ret))))))), [(6, none), (7, none), (8, none)]⟩
theorem impl_Pool_terms_ok : okFn Tryz.prog 68 impl_Pool_terms = true := by kernel_rfl
def slices_Contains_int : IFn := ⟨9, (.seq (.reg false [⟨some 4, .mv (.c (.bool false)), none⟩] [] [0, 1])
  (.seq (.reg false [⟨some 5, .mv (.t 0), none⟩,
    ⟨some 6, .mv (.t 1), none⟩,
    ⟨some 7, .call 91 [.t 5, .t 6], none⟩,
    ⟨some 8, .bin .geq (.t 7) (.c (.int .i64 0)), none⟩,
    ⟨some 4, .mv (.t 8), none⟩] [] [4])
  .ret)), [(4, none)]⟩
theorem slices_Contains_int_ok : okFn Tryz.prog 69 slices_Contains_int = true := by kernel_rfl
def impl_IsPublic : IFn := ⟨5, (.seq (.reg false [⟨some 2, .mv (.c (.bool false)), none⟩] [] [0])
  (.seq (.reg false [⟨some 3, .mv (.t 0), none⟩,
    ⟨some 4, .call 39 [.t 3, .c (.int .i64 0), .c (.int .i64 49)], none⟩,
    ⟨some 2, .mv (.t 4), none⟩] [] [2])
  .ret)), [(2, none)]⟩
theorem impl_IsPublic_ok : okFn Tryz.prog 70 impl_IsPublic = true := by kernel_rfl
def spec_l1DrawPool : IFn := ⟨29, (.seq (.reg false [⟨some 4, .new [.nil], none⟩] [] [0, 1, 4])
  (.seq (.reg false [⟨some 8, .build [.nil] [], none⟩,
    ⟨some 5, .new [.nil], none⟩,
    ⟨none, .st 1 (.t 5) (.t 8), none⟩] [] [0, 1, 4, 5])
  (.seq (.reg false [⟨some 9, .mv (.t 0), none⟩,
    ⟨some 10, .mv (.t 1), none⟩,
    ⟨some 11, .bin .add (.t 10) (.c (.int .i64 1)), none⟩,
    ⟨some 12, .call 29 [.t 9, .t 11], none⟩,
    ⟨some 6, .mv (.t 12), none⟩] [] [0, 4, 5, 6])
  (.seq (.seq (.reg false [⟨some 7, .mv (.c (.int .i64 0)), none⟩] [] [0, 4, 5, 6, 7])
  (.block 0 (.loop (.seq (.seq (.reg false [⟨some 13, .mv (.t 7), none⟩,
    ⟨some 14, .mv (.t 6), none⟩,
    ⟨some 15, .bin .lss (.t 13) (.t 14), none⟩] [] [0, 4, 5, 6, 7, 15])
  (.cond (.t 15)
  .skip
  (.exit 0)))
  (.seq (.block 1 (.reg true [⟨some 19, .ld (some 1) (.t 5), none⟩,
    ⟨some 20, .mv (.t 0), none⟩,
    ⟨some 21, .fad 0 (.t 5), none⟩,
    ⟨some 22, .ld none (.t 21), none⟩,
    ⟨some 23, .len false (.t 22), none⟩,
    ⟨some 24, .call 73 [.t 20, .t 23], none⟩,
    ⟨some 25, .call 74 [.t 19, .t 24], none⟩,
    ⟨some 18, .mv (.t 25), none⟩,
    ⟨some 26, .ext (.t 18) 0, none⟩,
    ⟨some 27, .ext (.t 18) 1, none⟩,
    ⟨none, .st 1 (.t 5) (.t 26), none⟩] [0, 0, 0, 4, 12, 30, 63, 127, 255, 255, 511] [0, 4, 5, 6, 7]))
  (.reg false [⟨some 16, .mv (.t 7), none⟩,
    ⟨some 17, .bin .add (.t 16) (.c (.int .i64 1)), none⟩,
    ⟨some 7, .mv (.t 17), none⟩] [] [0, 4, 5, 6, 7]))))))
  (.seq (.reg false [⟨some 28, .ld (some 1) (.t 5), none⟩,
    ⟨none, .st 1 (.t 4) (.t 28), none⟩] [] [4])
  .ret))))), [(4, some (some 1))]⟩
theorem spec_l1DrawPool_ok : okFn Tryz.prog 71 spec_l1DrawPool = true := by kernel_rfl
def spec_l1Copy : IFn := ⟨8, (.seq (.reg false [⟨some 1, .box (.t 0), none⟩,
    ⟨some 2, .new [.nil], none⟩] [] [1, 2])
  (.seq (.reg false [⟨some 3, .bsl 3 0 [.int .i64 0, .int .i64 0, .int .i64 0] [], none⟩,
    ⟨some 4, .fad 0 (.t 1), none⟩,
    ⟨some 5, .ld none (.t 4), none⟩,
    ⟨some 6, .app 3 24 (.t 3) (.t 5), none⟩,
    ⟨some 7, .build [.nil] [(0, 1, .t 6)], none⟩,
    ⟨none, .st 1 (.t 2) (.t 7), none⟩] [] [2])
  .ret)), [(2, some (some 1))]⟩
theorem spec_l1Copy_ok : okFn Tryz.prog 72 spec_l1Copy = true := by kernel_rfl
def spec_l1DrawNode : IFn := ⟨32, (.seq (.reg false [⟨some 4, .new [.int .i64 0, .int .i64 0, .int .i64 0], none⟩] [] [0, 1, 4])
  (.seq (.seq (.reg false [⟨some 6, .mv (.t 1), none⟩,
    ⟨some 7, .bin .eql (.t 6) (.c (.int .i64 0)), none⟩,
    ⟨some 8, .mv (.t 7), none⟩,
    ⟨some 9, .mv (.t 0), some (8, false)⟩,
    ⟨some 10, .call 28 [.t 9, .c (.int .i64 4)], some (8, false)⟩,
    ⟨some 11, .pick (.t 8) (.c (.bool true)) (.t 10), none⟩] [] [0, 1, 4, 11])
  (.cond (.t 11)
  (.seq (.reg false [⟨some 12, .mv (.t 0), none⟩,
    ⟨some 13, .bsl 1 13 [.int .i64 0] [(0, 1, .c (.int .i64 0)), (1, 1, .c (.int .i64 1)), (2, 1, .c (.int .i64 5)), (3, 1, .c (.int .i64 6)), (4, 1, .c (.int .i64 50)), (5, 1, .c (.int .i64 51)), (6, 1, .c (.int .i64 62)), (7, 1, .c (.int .i64 90)), (8, 1, .c (.int .i64 91)), (9, 1, .c (.int .i64 100)), (10, 1, .c (.int .i64 101)), (11, 1, .c (.int .i64 102)), (12, 1, .c (.int .i64 199))], none⟩,
    ⟨some 14, .call 52 [.t 12, .t 13], none⟩,
    ⟨some 15, .build [.int .i64 0, .int .i64 0, .int .i64 0] [(0, 1, .c (.int .i64 1)), (1, 1, .t 14)], none⟩,
    ⟨none, .st 3 (.t 4) (.t 15), none⟩] [] [4])
  .ret)
  .skip))
  (.seq (.reg false [⟨some 16, .mv (.t 0), none⟩,
    ⟨some 17, .call 53 [.t 16, .c (.int .i64 7)], none⟩,
    ⟨some 18, .bin .add (.c (.int .i64 2)) (.t 17), none⟩,
    ⟨some 19, .mv (.t 0), none⟩,
    ⟨some 20, .mv (.t 1), none⟩,
    ⟨some 21, .call 53 [.t 19, .t 20], none⟩,
    ⟨some 22, .build [.int .i64 0, .int .i64 0, .int .i64 0] [(0, 1, .t 18), (1, 1, .t 21)], none⟩,
    ⟨some 5, .new [.int .i64 0, .int .i64 0, .int .i64 0], none⟩,
    ⟨none, .st 3 (.t 5) (.t 22), none⟩] [] [0, 1, 4, 5])
  (.seq (.seq (.reg false [⟨some 23, .fad 0 (.t 5), none⟩,
    ⟨some 24, .ld none (.t 23), none⟩,
    ⟨some 25, .call 64 [.t 24], none⟩,
    ⟨some 26, .bin .eql (.t 25) (.c (.int .i64 2)), none⟩] [] [0, 1, 4, 5, 26])
  (.cond (.t 26)
  (.reg false [⟨some 27, .mv (.t 0), none⟩,
    ⟨some 28, .mv (.t 1), none⟩,
    ⟨some 29, .call 53 [.t 27, .t 28], none⟩,
    ⟨some 30, .fad 2 (.t 5), none⟩,
    ⟨none, .st 1 (.t 30) (.t 29), none⟩] [] [4, 5])
  .skip))
  (.seq (.reg false [⟨some 31, .ld (some 3) (.t 5), none⟩,
    ⟨none, .st 3 (.t 4) (.t 31), none⟩] [] [4])
  .ret))))), [(4, some (some 3))]⟩
theorem spec_l1DrawNode_ok : okFn Tryz.prog 73 spec_l1DrawNode = true := by kernel_rfl
def spec_l1Add : IFn := ⟨57, (.seq (.reg false [⟨some 2, .box (.t 0), none⟩,
    ⟨some 3, .box (.t 1), none⟩,
    ⟨some 4, .new [.nil], none⟩,
    ⟨some 5, .mv (.c (.int .i64 0)), none⟩] [] [2, 3, 4])
  (.seq (.seq (.reg false [⟨some 8, .fad 0 (.t 3), none⟩,
    ⟨some 9, .ld none (.t 8), none⟩,
    ⟨some 10, .bin .eql (.t 9) (.c (.int .i64 8)), none⟩,
    ⟨some 11, .mv (.t 10), none⟩,
    ⟨some 12, .fad 1 (.t 3), some (11, true)⟩,
    ⟨some 13, .ld none (.t 12), some (11, true)⟩,
    ⟨some 14, .fad 2 (.t 3), some (11, true)⟩,
    ⟨some 15, .ld none (.t 14), some (11, true)⟩,
    ⟨some 16, .bin .gtr (.t 13) (.t 15), some (11, true)⟩,
    ⟨some 17, .pick (.t 11) (.t 16) (.c (.bool false)), none⟩] [] [2, 3, 4, 17])
  (.cond (.t 17)
  (.reg false [⟨some 18, .fad 0 (.t 3), none⟩,
    ⟨some 19, .ld none (.t 18), none⟩,
    ⟨some 20, .fad 2 (.t 3), none⟩,
    ⟨some 21, .ld none (.t 20), none⟩,
    ⟨some 22, .fad 1 (.t 3), none⟩,
    ⟨some 23, .ld none (.t 22), none⟩,
    ⟨some 24, .build [.int .i64 0, .int .i64 0, .int .i64 0] [(0, 1, .t 19), (1, 1, .t 21), (2, 1, .t 23)], none⟩,
    ⟨none, .st 3 (.t 3) (.t 24), none⟩] [] [2, 3, 4])
  .skip))
  (.seq (.reg false [⟨some 25, .ld (some 1) (.t 2), none⟩,
    ⟨some 26, .ld (some 3) (.t 3), none⟩,
    ⟨some 27, .call 85 [.t 25, .t 26], none⟩,
    ⟨some 6, .mv (.t 27), none⟩] [] [2, 3, 4, 6])
  (.seq (.seq (.reg false [⟨some 28, .mv (.t 6), none⟩,
    ⟨some 29, .bin .geq (.t 28) (.c (.int .i64 0)), none⟩] [] [2, 3, 4, 6, 29])
  (.cond (.t 29)
  (.seq (.reg false [⟨some 30, .ld (some 1) (.t 2), none⟩,
    ⟨some 31, .mv (.t 6), none⟩,
    ⟨none, .st 1 (.t 4) (.t 30), none⟩,
    ⟨some 5, .mv (.t 31), none⟩] [] [4, 5])
  .ret)
  .skip))
  (.seq (.seq (.reg false [⟨some 32, .ld (some 3) (.t 3), none⟩,
    ⟨some 33, .fad 0 (.t 2), none⟩,
    ⟨some 34, .ld none (.t 33), none⟩,
    ⟨some 35, .len false (.t 34), none⟩,
    ⟨some 36, .call 84 [.t 32, .t 35], none⟩,
    ⟨some 37, .not (.t 36), none⟩,
    ⟨some 38, .mv (.t 37), none⟩,
    ⟨some 39, .fad 0 (.t 2), some (38, false)⟩,
    ⟨some 40, .ld none (.t 39), some (38, false)⟩,
    ⟨some 41, .len false (.t 40), some (38, false)⟩,
    ⟨some 42, .bin .eql (.t 41) (.c (.int .i64 500)), some (38, false)⟩,
    ⟨some 43, .pick (.t 38) (.c (.bool true)) (.t 42), none⟩] [] [2, 3, 4, 43])
  (.cond (.t 43)
  (.seq (.reg false [⟨some 44, .ld (some 1) (.t 2), none⟩,
    ⟨none, .st 1 (.t 4) (.t 44), none⟩,
    ⟨some 5, .mv (.c (.int .i64 (-1))), none⟩] [] [4, 5])
  .ret)
  .skip))
  (.seq (.reg false [⟨some 45, .ld (some 1) (.t 2), none⟩,
    ⟨some 46, .call 72 [.t 45], none⟩,
    ⟨some 7, .new [.nil], none⟩,
    ⟨none, .st 1 (.t 7) (.t 46), none⟩] [] [2, 3, 4, 7])
  (.seq (.reg false [⟨some 47, .fad 0 (.t 7), none⟩,
    ⟨some 48, .ld none (.t 47), none⟩,
    ⟨some 49, .ld (some 3) (.t 3), none⟩,
    ⟨some 50, .bsl 3 1 [.int .i64 0, .int .i64 0, .int .i64 0] [(0, 3, .t 49)], none⟩,
    ⟨some 51, .app 3 24 (.t 48) (.t 50), none⟩,
    ⟨some 52, .fad 0 (.t 7), none⟩,
    ⟨none, .st 1 (.t 52) (.t 51), none⟩] [] [2, 4, 7])
  (.seq (.reg true [⟨some 53, .ld (some 1) (.t 7), none⟩,
    ⟨some 54, .fad 0 (.t 2), none⟩,
    ⟨some 55, .ld none (.t 54), none⟩,
    ⟨some 56, .len false (.t 55), none⟩,
    ⟨none, .st 1 (.t 4) (.t 53), none⟩,
    ⟨some 5, .mv (.t 56), none⟩] [0, 0, 2, 6, 1, 31] [4, 5])
  .ret)))))))), [(4, some (some 1)), (5, none)]⟩
theorem spec_l1Add_ok : okFn Tryz.prog 74 spec_l1Add = true := by kernel_rfl
def spec_l6DrawKnow : IFn := ⟨30, (.seq (.reg false [⟨some 3, .box (.t 1), none⟩,
    ⟨some 4, .mv (.c (.nil)), none⟩] [] [0, 3])
  (.seq (.reg false [⟨some 8, .bsl 1 0 [.int .i64 0] [], none⟩,
    ⟨some 5, .mv (.t 8), none⟩] [] [0, 3, 5])
  (.seq (.reg false [⟨some 9, .mv (.t 0), none⟩,
    ⟨some 10, .call 29 [.t 9, .c (.int .i64 8)], none⟩,
    ⟨some 6, .mv (.t 10), none⟩] [] [0, 3, 5, 6])
  (.seq (.seq (.reg false [⟨some 7, .mv (.c (.int .i64 0)), none⟩] [] [0, 3, 5, 6, 7])
  (.block 0 (.loop (.seq (.seq (.reg false [⟨some 11, .mv (.t 7), none⟩,
    ⟨some 12, .mv (.t 6), none⟩,
    ⟨some 13, .bin .lss (.t 11) (.t 12), none⟩,
    ⟨some 14, .mv (.t 13), none⟩,
    ⟨some 15, .fad 0 (.t 3), some (14, true)⟩,
    ⟨some 16, .ld none (.t 15), some (14, true)⟩,
    ⟨some 17, .len false (.t 16), some (14, true)⟩,
    ⟨some 18, .bin .gtr (.t 17) (.c (.int .i64 0)), some (14, true)⟩,
    ⟨some 19, .pick (.t 14) (.t 18) (.c (.bool false)), none⟩] [] [0, 3, 5, 6, 7, 19])
  (.cond (.t 19)
  .skip
  (.exit 0)))
  (.seq (.block 1 (.reg false [⟨some 22, .mv (.t 5), none⟩,
    ⟨some 23, .mv (.t 0), none⟩,
    ⟨some 24, .fad 0 (.t 3), none⟩,
    ⟨some 25, .ld none (.t 24), none⟩,
    ⟨some 26, .len false (.t 25), none⟩,
    ⟨some 27, .call 53 [.t 23, .t 26], none⟩,
    ⟨some 28, .call 76 [.t 22, .t 27], none⟩,
    ⟨some 5, .mv (.t 28), none⟩] [] [0, 3, 5, 6, 7]))
  (.reg false [⟨some 20, .mv (.t 7), none⟩,
    ⟨some 21, .bin .add (.t 20) (.c (.int .i64 1)), none⟩,
    ⟨some 7, .mv (.t 21), none⟩] [] [0, 3, 5, 6, 7]))))))
  (.seq (.reg false [⟨some 29, .mv (.t 5), none⟩,
    ⟨some 4, .mv (.t 29), none⟩] [] [4])
  .ret))))), [(4, none)]⟩
theorem spec_l6DrawKnow_ok : okFn Tryz.prog 75 spec_l6DrawKnow = true := by kernel_rfl
def spec_l6Put : IFn := ⟨46, (.seq (.reg false [⟨some 4, .mv (.c (.nil)), none⟩] [] [0, 1])
  (.seq (.reg false [⟨some 8, .bsl 1 0 [.int .i64 0] [], none⟩,
    ⟨some 5, .mv (.t 8), none⟩] [] [0, 1, 5])
  (.seq (.reg false [⟨some 9, .mv (.t 0), none⟩,
    ⟨some 10, .mv (.t 1), none⟩,
    ⟨some 11, .call 60 [.t 9, .t 10], none⟩,
    ⟨some 6, .mv (.t 11), none⟩] [] [0, 1, 5, 6])
  (.seq (.seq (.reg false [⟨some 7, .mv (.c (.int .i64 0)), none⟩] [] [0, 1, 5, 6, 7])
  (.block 0 (.loop (.seq (.seq (.reg false [⟨some 12, .mv (.t 7), none⟩,
    ⟨some 13, .mv (.t 0), none⟩,
    ⟨some 14, .len false (.t 13), none⟩,
    ⟨some 15, .bin .lss (.t 12) (.t 14), none⟩] [] [0, 1, 5, 6, 7, 15])
  (.cond (.t 15)
  .skip
  (.exit 0)))
  (.seq (.block 1 (.seq (.seq (.reg false [⟨some 18, .mv (.t 6), none⟩,
    ⟨some 19, .not (.t 18), none⟩,
    ⟨some 20, .mv (.t 19), none⟩,
    ⟨some 21, .mv (.t 0), some (20, true)⟩,
    ⟨some 22, .mv (.t 7), some (20, true)⟩,
    ⟨some 23, .iad 1 (.t 21) (.t 22), some (20, true)⟩,
    ⟨some 24, .ld none (.t 23), some (20, true)⟩,
    ⟨some 25, .mv (.t 1), some (20, true)⟩,
    ⟨some 26, .bin .gtr (.t 24) (.t 25), some (20, true)⟩,
    ⟨some 27, .pick (.t 20) (.t 26) (.c (.bool false)), none⟩] [] [0, 1, 5, 6, 7, 27])
  (.cond (.t 27)
  (.seq (.reg false [⟨some 28, .mv (.t 5), none⟩,
    ⟨some 29, .mv (.t 1), none⟩,
    ⟨some 30, .bsl 1 1 [.int .i64 0] [(0, 1, .t 29)], none⟩,
    ⟨some 31, .app 1 8 (.t 28) (.t 30), none⟩,
    ⟨some 5, .mv (.t 31), none⟩] [] [0, 1, 5, 7])
  (.reg false [⟨some 6, .mv (.c (.bool true)), none⟩] [] [0, 1, 5, 6, 7]))
  .skip))
  (.reg false [⟨some 32, .mv (.t 5), none⟩,
    ⟨some 33, .mv (.t 0), none⟩,
    ⟨some 34, .mv (.t 7), none⟩,
    ⟨some 35, .iad 1 (.t 33) (.t 34), none⟩,
    ⟨some 36, .ld none (.t 35), none⟩,
    ⟨some 37, .bsl 1 1 [.int .i64 0] [(0, 1, .t 36)], none⟩,
    ⟨some 38, .app 1 8 (.t 32) (.t 37), none⟩,
    ⟨some 5, .mv (.t 38), none⟩] [] [0, 1, 5, 6, 7])))
  (.reg false [⟨some 16, .mv (.t 7), none⟩,
    ⟨some 17, .bin .add (.t 16) (.c (.int .i64 1)), none⟩,
    ⟨some 7, .mv (.t 17), none⟩] [] [0, 1, 5, 6, 7]))))))
  (.seq (.seq (.reg false [⟨some 39, .mv (.t 6), none⟩,
    ⟨some 40, .not (.t 39), none⟩] [] [1, 5, 40])
  (.cond (.t 40)
  (.reg false [⟨some 41, .mv (.t 5), none⟩,
    ⟨some 42, .mv (.t 1), none⟩,
    ⟨some 43, .bsl 1 1 [.int .i64 0] [(0, 1, .t 42)], none⟩,
    ⟨some 44, .app 1 8 (.t 41) (.t 43), none⟩,
    ⟨some 5, .mv (.t 44), none⟩] [] [5])
  .skip))
  (.seq (.reg false [⟨some 45, .mv (.t 5), none⟩,
    ⟨some 4, .mv (.t 45), none⟩] [] [4])
  .ret)))))), [(4, none)]⟩
theorem spec_l6Put_ok : okFn Tryz.prog 76 spec_l6Put = true := by kernel_rfl
def spec_l8Once : IFn := ⟨65, (.seq (.reg false [⟨some 2, .box (.t 0), none⟩,
    ⟨some 4, .mv (.c (.nil)), none⟩,
    ⟨some 5, .mv (.c (.bool false)), none⟩] [] [1, 2])
  (.seq (.reg false [⟨some 10, .ld (some 1) (.t 2), none⟩,
    ⟨some 11, .mv (.t 1), none⟩,
    ⟨some 12, .call 92 [.t 10, .t 11], none⟩,
    ⟨some 6, .mv (.t 12), none⟩] [] [1, 2, 6])
  (.seq (.reg false [⟨some 13, .bsl 1 0 [.int .i64 0] [], none⟩,
    ⟨some 14, .mv (.t 1), none⟩,
    ⟨some 15, .app 1 8 (.t 13) (.t 14), none⟩,
    ⟨some 7, .mv (.t 15), none⟩] [] [1, 2, 6, 7])
  (.seq (.seq (.reg false [⟨some 8, .mv (.c (.int .i64 0)), none⟩] [] [1, 2, 6, 7, 8])
  (.block 0 (.loop (.seq (.seq (.reg false [⟨some 16, .mv (.t 8), none⟩,
    ⟨some 17, .mv (.t 1), none⟩,
    ⟨some 18, .len false (.t 17), none⟩,
    ⟨some 19, .bin .lss (.t 16) (.t 18), none⟩] [] [1, 2, 6, 7, 8, 19])
  (.cond (.t 19)
  .skip
  (.exit 0)))
  (.seq (.block 1 (.seq (.reg true [⟨some 22, .fad 0 (.t 2), none⟩,
    ⟨some 23, .ld none (.t 22), none⟩,
    ⟨some 24, .mv (.t 1), none⟩,
    ⟨some 25, .mv (.t 8), none⟩,
    ⟨some 26, .iad 1 (.t 24) (.t 25), none⟩,
    ⟨some 27, .ld none (.t 26), none⟩,
    ⟨some 28, .iad 3 (.t 23) (.t 27), none⟩,
    ⟨some 29, .ld (some 3) (.t 28), none⟩,
    ⟨some 9, .new [.int .i64 0, .int .i64 0, .int .i64 0], none⟩,
    ⟨none, .st 3 (.t 9) (.t 29), none⟩] [0, 1, 0, 0, 12, 28, 63, 127, 0, 511] [1, 2, 6, 7, 8, 9])
  (.block 2 (.seq (.reg false [⟨some 31, .fad 0 (.t 9), none⟩,
    ⟨some 32, .ld none (.t 31), none⟩,
    ⟨some 33, .bin .eql (.t 32) (.c (.int .i64 2)), none⟩,
    ⟨some 30, .mv (.t 33), none⟩] [] [1, 2, 6, 7, 8, 9, 30])
  (.cond (.t 30)
  (.reg true [⟨some 34, .mv (.t 7), none⟩,
    ⟨some 35, .fad 1 (.t 9), none⟩,
    ⟨some 36, .ld none (.t 35), none⟩,
    ⟨some 37, .call 76 [.t 34, .t 36], none⟩,
    ⟨some 38, .fad 2 (.t 9), none⟩,
    ⟨some 39, .ld none (.t 38), none⟩,
    ⟨some 40, .call 76 [.t 37, .t 39], none⟩,
    ⟨some 7, .mv (.t 40), none⟩] [0, 0, 2, 7, 0, 16, 63, 127] [1, 2, 6, 7, 8])
  (.seq (.reg false [⟨some 42, .fad 0 (.t 9), none⟩,
    ⟨some 43, .ld none (.t 42), none⟩,
    ⟨some 44, .bin .eql (.t 43) (.c (.int .i64 4)), none⟩,
    ⟨some 45, .mv (.t 44), none⟩,
    ⟨some 46, .fad 0 (.t 9), some (45, false)⟩,
    ⟨some 47, .ld none (.t 46), some (45, false)⟩,
    ⟨some 48, .bin .eql (.t 47) (.c (.int .i64 3)), some (45, false)⟩,
    ⟨some 49, .mv (.t 48), some (45, false)⟩,
    ⟨some 50, .mv (.t 6), some (49, true)⟩,
    ⟨some 51, .fad 2 (.t 9), some (49, true)⟩,
    ⟨some 52, .ld none (.t 51), some (49, true)⟩,
    ⟨some 53, .iad 1 (.t 50) (.t 52), some (49, true)⟩,
    ⟨some 54, .ld none (.t 53), some (49, true)⟩,
    ⟨some 55, .pick (.t 49) (.t 54) (.c (.bool false)), some (45, false)⟩,
    ⟨some 56, .pick (.t 45) (.c (.bool true)) (.t 55), none⟩,
    ⟨some 41, .mv (.t 56), none⟩] [] [1, 2, 6, 7, 8, 9, 41])
  (.cond (.t 41)
  (.reg false [⟨some 57, .mv (.t 7), none⟩,
    ⟨some 58, .fad 1 (.t 9), none⟩,
    ⟨some 59, .ld none (.t 58), none⟩,
    ⟨some 60, .call 76 [.t 57, .t 59], none⟩,
    ⟨some 7, .mv (.t 60), none⟩] [] [1, 2, 6, 7, 8])
  .skip)))))))
  (.reg false [⟨some 20, .mv (.t 8), none⟩,
    ⟨some 21, .bin .add (.t 20) (.c (.int .i64 1)), none⟩,
    ⟨some 8, .mv (.t 21), none⟩] [] [1, 2, 6, 7, 8]))))))
  (.seq (.reg false [⟨some 61, .mv (.t 7), none⟩,
    ⟨some 62, .mv (.t 7), none⟩,
    ⟨some 63, .len false (.t 62), none⟩,
    ⟨some 64, .bin .leq (.t 63) (.c (.int .i64 200)), none⟩,
    ⟨some 4, .mv (.t 61), none⟩,
    ⟨some 5, .mv (.t 64), none⟩] [] [4, 5])
  .ret))))), [(4, none), (5, none)]⟩
theorem spec_l8Once_ok : okFn Tryz.prog 77 spec_l8Once = true := by kernel_rfl
def spec_l1List : IFn := ⟨21, (.seq (.reg false [⟨some 2, .mv (.c (.nil)), none⟩] [] [0])
  (.seq (.reg false [⟨some 5, .bsl 1 0 [.int .i64 0] [], none⟩,
    ⟨some 3, .mv (.t 5), none⟩] [] [0, 3])
  (.seq (.seq (.reg false [⟨some 4, .mv (.c (.int .i64 0)), none⟩] [] [0, 3, 4])
  (.block 0 (.loop (.seq (.seq (.reg false [⟨some 6, .mv (.t 4), none⟩,
    ⟨some 7, .mv (.t 0), none⟩,
    ⟨some 8, .len false (.t 7), none⟩,
    ⟨some 9, .bin .lss (.t 6) (.t 8), none⟩] [] [0, 3, 4, 9])
  (.cond (.t 9)
  .skip
  (.exit 0)))
  (.seq (.block 1 (.seq (.reg false [⟨some 12, .mv (.t 0), none⟩,
    ⟨some 13, .mv (.t 4), none⟩,
    ⟨some 14, .iad 1 (.t 12) (.t 13), none⟩,
    ⟨some 15, .ld none (.t 14), none⟩] [] [0, 3, 4, 15])
  (.cond (.t 15)
  (.reg false [⟨some 16, .mv (.t 3), none⟩,
    ⟨some 17, .mv (.t 4), none⟩,
    ⟨some 18, .bsl 1 1 [.int .i64 0] [(0, 1, .t 17)], none⟩,
    ⟨some 19, .app 1 8 (.t 16) (.t 18), none⟩,
    ⟨some 3, .mv (.t 19), none⟩] [] [0, 3, 4])
  .skip)))
  (.reg false [⟨some 10, .mv (.t 4), none⟩,
    ⟨some 11, .bin .add (.t 10) (.c (.int .i64 1)), none⟩,
    ⟨some 4, .mv (.t 11), none⟩] [] [0, 3, 4]))))))
  (.seq (.reg false [⟨some 20, .mv (.t 3), none⟩,
    ⟨some 2, .mv (.t 20), none⟩] [] [2])
  .ret)))), [(2, none)]⟩
theorem spec_l1List_ok : okFn Tryz.prog 78 spec_l1List = true := by kernel_rfl
def spec_MakesAll : IFn := ⟨13, (.seq (.reg false [⟨some 2, .box (.t 0), none⟩,
    ⟨some 4, .mv (.c (.nil)), none⟩] [] [1, 2])
  (.seq (.seq (.reg false [⟨some 5, .ld (some 1) (.t 2), none⟩,
    ⟨some 6, .mv (.t 1), none⟩,
    ⟨some 7, .call 34 [.t 5, .t 6], none⟩,
    ⟨some 8, .not (.t 7), none⟩] [] [1, 2, 8])
  (.cond (.t 8)
  (.seq (.reg false [⟨some 9, .bsl 1 0 [.bool false] [], none⟩,
    ⟨some 4, .mv (.t 9), none⟩] [] [4])
  .ret)
  .skip))
  (.seq (.reg false [⟨some 10, .ld (some 1) (.t 2), none⟩,
    ⟨some 11, .mv (.t 1), none⟩,
    ⟨some 12, .call 92 [.t 10, .t 11], none⟩,
    ⟨some 4, .mv (.t 12), none⟩] [] [4])
  .ret))), [(4, none)]⟩
theorem spec_MakesAll_ok : okFn Tryz.prog 79 spec_MakesAll = true := by kernel_rfl
def impl_prover_made : IFn := ⟨53, (.seq (.reg false [⟨some 4, .new [.int .i64 0, .int .i64 0, .int .i64 0, .int .i64 0], none⟩,
    ⟨some 5, .mv (.c (.bool false)), none⟩] [] [0, 1, 4])
  (.seq (.reg false [⟨some 10, .mv (.t 1), none⟩,
    ⟨some 11, .build [.int .i64 0, .int .i64 0, .int .i64 0, .int .i64 0] [(0, 1, .c (.int .i64 3)), (1, 1, .t 10)], none⟩,
    ⟨some 6, .new [.int .i64 0, .int .i64 0, .int .i64 0, .int .i64 0], none⟩,
    ⟨none, .st 4 (.t 6) (.t 11), none⟩] [] [0, 1, 4, 6])
  (.seq (.reg false [⟨some 12, .mv (.t 0), none⟩,
    ⟨some 13, .nck (.t 12), none⟩,
    ⟨some 14, .fad 0 (.t 13), none⟩,
    ⟨some 15, .ld none (.t 14), none⟩,
    ⟨some 16, .mv (.t 1), none⟩,
    ⟨some 17, .call 56 [.t 15, .t 16], none⟩,
    ⟨some 7, .mv (.t 17), none⟩] [] [0, 4, 6, 7])
  (.seq (.seq (.reg false [⟨some 18, .mv (.t 7), none⟩,
    ⟨some 19, .len false (.t 18), none⟩,
    ⟨some 20, .mv (.c (.int .i64 0)), none⟩] [] [0, 4, 6, 7, 18, 19, 20])
  (.block 0 (.loop (.seq (.reg false [⟨some 21, .bin .lss (.t 20) (.t 19), none⟩] [] [0, 4, 6, 7, 18, 19, 20, 21])
  (.seq (.cond (.t 21)
  .skip
  (.exit 0))
  (.seq (.block 1 (.seq (.reg false [⟨some 22, .mv (.t 20), none⟩,
    ⟨some 23, .iad 1 (.t 18) (.t 20), none⟩,
    ⟨some 24, .ld none (.t 23), none⟩,
    ⟨some 8, .mv (.t 22), none⟩,
    ⟨some 9, .mv (.t 24), none⟩] [] [0, 4, 6, 7, 8, 9, 18, 19, 20])
  (.seq (.seq (.reg false [⟨some 25, .mv (.t 0), none⟩,
    ⟨some 26, .mv (.t 9), none⟩,
    ⟨some 27, .call 93 [.t 25, .t 26], none⟩,
    ⟨some 28, .not (.t 27), none⟩] [] [0, 4, 6, 7, 8, 9, 18, 19, 20, 28])
  (.cond (.t 28)
  (.seq (.reg false [⟨some 29, .build [.int .i64 0, .int .i64 0, .int .i64 0, .int .i64 0] [], none⟩,
    ⟨none, .st 4 (.t 4) (.t 29), none⟩,
    ⟨some 5, .mv (.c (.bool false)), none⟩] [] [4, 5])
  .ret)
  .skip))
  (.seq (.reg false [⟨some 30, .mv (.t 8), none⟩,
    ⟨some 31, .bin .eql (.t 30) (.c (.int .i64 0)), none⟩] [] [0, 4, 6, 7, 9, 18, 19, 20, 31])
  (.cond (.t 31)
  (.reg false [⟨some 32, .mv (.t 0), none⟩,
    ⟨some 33, .nck (.t 32), none⟩,
    ⟨some 34, .fad 3 (.t 33), none⟩,
    ⟨some 35, .ld none (.t 34), none⟩,
    ⟨some 36, .mv (.t 9), none⟩,
    ⟨some 37, .iad 1 (.t 35) (.t 36), none⟩,
    ⟨some 38, .ld none (.t 37), none⟩,
    ⟨some 39, .fad 2 (.t 6), none⟩,
    ⟨none, .st 1 (.t 39) (.t 38), none⟩] [] [0, 4, 6, 7, 18, 19, 20])
  (.reg false [⟨some 40, .mv (.t 0), none⟩,
    ⟨some 41, .nck (.t 40), none⟩,
    ⟨some 42, .fad 3 (.t 41), none⟩,
    ⟨some 43, .ld none (.t 42), none⟩,
    ⟨some 44, .mv (.t 9), none⟩,
    ⟨some 45, .iad 1 (.t 43) (.t 44), none⟩,
    ⟨some 46, .ld none (.t 45), none⟩,
    ⟨some 47, .fad 3 (.t 6), none⟩,
    ⟨none, .st 1 (.t 47) (.t 46), none⟩] [] [0, 4, 6, 7, 18, 19, 20]))))))
  (.reg false [⟨some 48, .bin .add (.t 20) (.c (.int .i64 1)), none⟩,
    ⟨some 20, .mv (.t 48), none⟩] [] [0, 4, 6, 7, 18, 19, 20])))))))
  (.seq (.reg false [⟨some 49, .ld (some 4) (.t 6), none⟩,
    ⟨some 50, .mv (.t 7), none⟩,
    ⟨some 51, .len false (.t 50), none⟩,
    ⟨some 52, .bin .gtr (.t 51) (.c (.int .i64 0)), none⟩,
    ⟨none, .st 4 (.t 4) (.t 49), none⟩,
    ⟨some 5, .mv (.t 52), none⟩] [] [4, 5])
  .ret))))), [(4, some (some 4)), (5, none)]⟩
theorem impl_prover_made_ok : okFn Tryz.prog 80 impl_prover_made = true := by kernel_rfl
def impl_prover_share : IFn := ⟨74, (.seq (.reg false [⟨some 4, .new [.int .i64 0, .int .i64 0, .int .i64 0, .int .i64 0], none⟩,
    ⟨some 5, .mv (.c (.bool false)), none⟩] [] [0, 1, 4])
  (.seq (.reg false [⟨some 10, .mv (.t 0), none⟩,
    ⟨some 11, .nck (.t 10), none⟩,
    ⟨some 12, .fad 0 (.t 11), none⟩,
    ⟨some 13, .ld none (.t 12), none⟩,
    ⟨some 14, .nck (.t 13), none⟩,
    ⟨some 15, .fad 0 (.t 14), none⟩,
    ⟨some 16, .ld none (.t 15), none⟩,
    ⟨some 17, .mv (.t 1), none⟩,
    ⟨some 18, .iad 3 (.t 16) (.t 17), none⟩,
    ⟨some 19, .ld (some 3) (.t 18), none⟩,
    ⟨some 6, .new [.int .i64 0, .int .i64 0, .int .i64 0], none⟩,
    ⟨none, .st 3 (.t 6) (.t 19), none⟩] [] [0, 1, 4, 6])
  (.seq (.seq (.reg false [⟨some 20, .fad 0 (.t 6), none⟩,
    ⟨some 21, .ld none (.t 20), none⟩,
    ⟨some 22, .bin .neq (.t 21) (.c (.int .i64 8)), none⟩] [] [0, 1, 4, 6, 22])
  (.cond (.t 22)
  (.seq (.reg false [⟨some 23, .build [.int .i64 0, .int .i64 0, .int .i64 0, .int .i64 0] [], none⟩,
    ⟨none, .st 4 (.t 4) (.t 23), none⟩,
    ⟨some 5, .mv (.c (.bool false)), none⟩] [] [4, 5])
  .ret)
  .skip))
  (.seq (.seq (.reg false [⟨some 24, .fad 1 (.t 6), none⟩,
    ⟨some 25, .ld none (.t 24), none⟩,
    ⟨some 26, .fad 2 (.t 6), none⟩,
    ⟨some 27, .ld none (.t 26), none⟩,
    ⟨some 28, .build [.int .i64 0, .int .i64 0] [(0, 1, .t 25), (1, 1, .t 27)], none⟩,
    ⟨some 29, .fad 2 (.t 6), none⟩,
    ⟨some 30, .ld none (.t 29), none⟩,
    ⟨some 31, .fad 1 (.t 6), none⟩,
    ⟨some 32, .ld none (.t 31), none⟩,
    ⟨some 33, .build [.int .i64 0, .int .i64 0] [(0, 1, .t 30), (1, 1, .t 32)], none⟩,
    ⟨some 34, .build [.int .i64 0, .int .i64 0, .int .i64 0, .int .i64 0] [(0, 2, .t 28), (2, 2, .t 33)], none⟩,
    ⟨some 35, .mv (.c (.int .i64 0)), none⟩] [] [0, 1, 4, 34, 35])
  (.block 0 (.loop (.seq (.reg false [⟨some 36, .bin .lss (.t 35) (.c (.int .i64 2)), none⟩] [] [0, 1, 4, 34, 35, 36])
  (.seq (.cond (.t 36)
  .skip
  (.exit 0))
  (.seq (.block 1 (.seq (.reg false [⟨some 37, .idxa 2 2 (some 2) (.t 34) (.t 35), none⟩,
    ⟨some 8, .new [.int .i64 0, .int .i64 0], none⟩,
    ⟨none, .st 2 (.t 8) (.t 37), none⟩] [] [0, 1, 4, 8, 34, 35])
  (.seq (.reg true [⟨some 38, .mv (.t 0), none⟩,
    ⟨some 39, .nck (.t 38), none⟩,
    ⟨some 40, .fad 0 (.t 39), none⟩,
    ⟨some 41, .ld none (.t 40), none⟩,
    ⟨some 42, .iada 2 1 (.t 8) (.c (.int .i64 1)), none⟩,
    ⟨some 43, .ld none (.t 42), none⟩,
    ⟨some 44, .build [.int .i64 0, .int .i64 0, .int .i64 0] [(0, 1, .c (.int .i64 7)), (1, 1, .t 43)], none⟩,
    ⟨some 45, .call 94 [.t 41, .t 44], none⟩,
    ⟨some 9, .mv (.t 45), none⟩] [0, 1, 3, 7, 0, 16, 48, 127, 255] [0, 1, 4, 8, 9, 34, 35])
  (.seq (.reg false [⟨some 46, .mv (.t 0), none⟩,
    ⟨some 47, .iada 2 1 (.t 8) (.c (.int .i64 0)), none⟩,
    ⟨some 48, .ld none (.t 47), none⟩,
    ⟨some 49, .call 93 [.t 46, .t 48], none⟩,
    ⟨some 50, .mv (.t 49), none⟩,
    ⟨some 51, .mv (.t 0), some (50, true)⟩,
    ⟨some 52, .mv (.t 9), some (50, true)⟩,
    ⟨some 53, .call 93 [.t 51, .t 52], some (50, true)⟩,
    ⟨some 54, .pick (.t 50) (.t 53) (.c (.bool false)), none⟩] [] [0, 1, 4, 8, 9, 34, 35, 54])
  (.cond (.t 54)
  (.seq (.reg true [⟨some 55, .mv (.t 1), none⟩,
    ⟨some 56, .mv (.t 0), none⟩,
    ⟨some 57, .nck (.t 56), none⟩,
    ⟨some 58, .fad 3 (.t 57), none⟩,
    ⟨some 59, .ld none (.t 58), none⟩,
    ⟨some 60, .iada 2 1 (.t 8) (.c (.int .i64 0)), none⟩,
    ⟨some 61, .ld none (.t 60), none⟩,
    ⟨some 62, .iad 1 (.t 59) (.t 61), none⟩,
    ⟨some 63, .ld none (.t 62), none⟩,
    ⟨some 64, .mv (.t 0), none⟩,
    ⟨some 65, .nck (.t 64), none⟩,
    ⟨some 66, .fad 3 (.t 65), none⟩,
    ⟨some 67, .ld none (.t 66), none⟩,
    ⟨some 68, .mv (.t 9), none⟩,
    ⟨some 69, .iad 1 (.t 67) (.t 68), none⟩,
    ⟨some 70, .ld none (.t 69), none⟩,
    ⟨some 71, .build [.int .i64 0, .int .i64 0, .int .i64 0, .int .i64 0] [(0, 1, .c (.int .i64 4)), (1, 1, .t 55), (2, 1, .t 63), (3, 1, .t 70)], none⟩,
    ⟨none, .st 4 (.t 4) (.t 71), none⟩,
    ⟨some 5, .mv (.c (.bool true)), none⟩] [0, 0, 2, 6, 14, 0, 32, 126, 254, 0, 512, 1536, 3584, 0, 15872, 32256, 65535, 131071, 262143] [4, 5])
  .ret)
  .skip)))))
  (.reg false [⟨some 72, .bin .add (.t 35) (.c (.int .i64 1)), none⟩,
    ⟨some 35, .mv (.t 72), none⟩] [] [0, 1, 4, 34, 35])))))))
  (.seq (.reg false [⟨some 73, .build [.int .i64 0, .int .i64 0, .int .i64 0, .int .i64 0] [], none⟩,
    ⟨none, .st 4 (.t 4) (.t 73), none⟩,
    ⟨some 5, .mv (.c (.bool false)), none⟩] [] [4, 5])
  .ret))))), [(4, some (some 4)), (5, none)]⟩
theorem impl_prover_share_ok : okFn Tryz.prog 81 impl_prover_share = true := by kernel_rfl
def impl_prover_opened : IFn := ⟨106, (.seq (.reg false [⟨some 6, .new [.int .i64 0, .int .i64 0, .int .i64 0, .int .i64 0], none⟩,
    ⟨some 7, .mv (.c (.bool false)), none⟩] [] [0, 1, 2, 6])
  (.seq (.seq (.reg false [⟨some 12, .mv (.t 0), none⟩,
    ⟨some 13, .nck (.t 12), none⟩,
    ⟨some 14, .fad 0 (.t 13), none⟩,
    ⟨some 15, .ld none (.t 14), none⟩,
    ⟨some 16, .nck (.t 15), none⟩,
    ⟨some 17, .fad 0 (.t 16), none⟩,
    ⟨some 18, .ld none (.t 17), none⟩,
    ⟨some 19, .len false (.t 18), none⟩,
    ⟨some 20, .mv (.c (.int .i64 0)), none⟩] [] [0, 1, 2, 6, 18, 19, 20])
  (.block 0 (.loop (.seq (.reg false [⟨some 21, .bin .lss (.t 20) (.t 19), none⟩] [] [0, 1, 2, 6, 18, 19, 20, 21])
  (.seq (.cond (.t 21)
  .skip
  (.exit 0))
  (.seq (.block 1 (.seq (.reg false [⟨some 22, .mv (.t 20), none⟩,
    ⟨some 23, .iad 3 (.t 18) (.t 20), none⟩,
    ⟨some 24, .ld (some 3) (.t 23), none⟩,
    ⟨some 9, .new [.int .i64 0, .int .i64 0, .int .i64 0], none⟩,
    ⟨some 8, .mv (.t 22), none⟩,
    ⟨none, .st 3 (.t 9) (.t 24), none⟩] [] [0, 1, 2, 6, 8, 9, 18, 19, 20])
  (.seq (.seq (.reg false [⟨some 25, .mv (.t 0), none⟩,
    ⟨some 26, .mv (.t 8), none⟩,
    ⟨some 27, .call 93 [.t 25, .t 26], none⟩,
    ⟨some 28, .not (.t 27), none⟩] [] [0, 1, 2, 6, 8, 9, 18, 19, 20, 28])
  (.cond (.t 28)
  (.exit 1)
  .skip))
  (.seq (.reg false [⟨some 29, .mv (.t 1), none⟩,
    ⟨some 30, .mv (.t 2), none⟩,
    ⟨some 31, .mv (.t 0), none⟩,
    ⟨some 32, .nck (.t 31), none⟩,
    ⟨some 33, .fad 3 (.t 32), none⟩,
    ⟨some 34, .ld none (.t 33), none⟩,
    ⟨some 35, .mv (.t 8), none⟩,
    ⟨some 36, .iad 1 (.t 34) (.t 35), none⟩,
    ⟨some 37, .ld none (.t 36), none⟩,
    ⟨some 38, .build [.int .i64 0, .int .i64 0, .int .i64 0, .int .i64 0] [(0, 1, .t 29), (1, 1, .t 30), (2, 1, .t 37)], none⟩,
    ⟨some 10, .new [.int .i64 0, .int .i64 0, .int .i64 0, .int .i64 0], none⟩,
    ⟨none, .st 4 (.t 10) (.t 38), none⟩] [] [0, 1, 2, 6, 9, 10, 18, 19, 20])
  (.seq (.reg false [⟨some 11, .mv (.c (.bool false)), none⟩] [] [0, 1, 2, 6, 9, 10, 18, 19, 20])
  (.seq (.seq (.reg false [⟨some 39, .mv (.t 1), none⟩] [] [0, 1, 2, 6, 9, 10, 18, 19, 20, 39])
  (.block 2 (.seq (.reg false [⟨some 50, .bin .eql (.t 39) (.c (.int .i64 5)), none⟩,
    ⟨some 49, .mv (.t 50), none⟩] [] [0, 1, 2, 6, 9, 10, 18, 19, 20, 39, 49])
  (.cond (.t 49)
  (.reg false [⟨some 51, .fad 0 (.t 9), none⟩,
    ⟨some 52, .ld none (.t 51), none⟩,
    ⟨some 53, .bin .eql (.t 52) (.c (.int .i64 2)), none⟩,
    ⟨some 54, .mv (.t 53), none⟩,
    ⟨some 55, .fad 1 (.t 9), some (54, true)⟩,
    ⟨some 56, .ld none (.t 55), some (54, true)⟩,
    ⟨some 57, .mv (.t 2), some (54, true)⟩,
    ⟨some 58, .bin .eql (.t 56) (.t 57), some (54, true)⟩,
    ⟨some 59, .pick (.t 54) (.t 58) (.c (.bool false)), none⟩,
    ⟨some 11, .mv (.t 59), none⟩] [] [0, 1, 2, 6, 9, 10, 11, 18, 19, 20])
  (.seq (.reg false [⟨some 61, .bin .eql (.t 39) (.c (.int .i64 6)), none⟩,
    ⟨some 60, .mv (.t 61), none⟩] [] [0, 1, 2, 6, 9, 10, 18, 19, 20, 39, 60])
  (.cond (.t 60)
  (.reg false [⟨some 62, .fad 0 (.t 9), none⟩,
    ⟨some 63, .ld none (.t 62), none⟩,
    ⟨some 64, .bin .eql (.t 63) (.c (.int .i64 2)), none⟩,
    ⟨some 65, .mv (.t 64), none⟩,
    ⟨some 66, .fad 2 (.t 9), some (65, true)⟩,
    ⟨some 67, .ld none (.t 66), some (65, true)⟩,
    ⟨some 68, .mv (.t 2), some (65, true)⟩,
    ⟨some 69, .bin .eql (.t 67) (.t 68), some (65, true)⟩,
    ⟨some 70, .pick (.t 65) (.t 69) (.c (.bool false)), none⟩,
    ⟨some 11, .mv (.t 70), none⟩] [] [0, 1, 2, 6, 9, 10, 11, 18, 19, 20])
  (.seq (.reg false [⟨some 72, .bin .eql (.t 39) (.c (.int .i64 7)), none⟩,
    ⟨some 71, .mv (.t 72), none⟩] [] [0, 1, 2, 6, 9, 10, 18, 19, 20, 71])
  (.cond (.t 71)
  (.reg false [⟨some 73, .fad 0 (.t 9), none⟩,
    ⟨some 74, .ld none (.t 73), none⟩,
    ⟨some 75, .bin .eql (.t 74) (.c (.int .i64 3)), none⟩,
    ⟨some 76, .mv (.t 75), none⟩,
    ⟨some 77, .fad 1 (.t 9), some (76, true)⟩,
    ⟨some 78, .ld none (.t 77), some (76, true)⟩,
    ⟨some 79, .mv (.t 2), some (76, true)⟩,
    ⟨some 80, .bin .eql (.t 78) (.t 79), some (76, true)⟩,
    ⟨some 81, .pick (.t 76) (.t 80) (.c (.bool false)), none⟩,
    ⟨some 82, .mv (.t 81), none⟩,
    ⟨some 83, .mv (.t 0), some (82, true)⟩,
    ⟨some 84, .fad 2 (.t 9), some (82, true)⟩,
    ⟨some 85, .ld none (.t 84), some (82, true)⟩,
    ⟨some 86, .call 93 [.t 83, .t 85], some (82, true)⟩,
    ⟨some 87, .pick (.t 82) (.t 86) (.c (.bool false)), none⟩,
    ⟨some 11, .mv (.t 87), none⟩] [] [0, 1, 2, 6, 9, 10, 11, 18, 19, 20])
  (.reg false [⟨some 40, .fad 0 (.t 9), none⟩,
    ⟨some 41, .ld none (.t 40), none⟩,
    ⟨some 42, .bin .eql (.t 41) (.c (.int .i64 4)), none⟩,
    ⟨some 43, .mv (.t 42), none⟩,
    ⟨some 44, .fad 1 (.t 9), some (43, true)⟩,
    ⟨some 45, .ld none (.t 44), some (43, true)⟩,
    ⟨some 46, .mv (.t 2), some (43, true)⟩,
    ⟨some 47, .bin .eql (.t 45) (.t 46), some (43, true)⟩,
    ⟨some 48, .pick (.t 43) (.t 47) (.c (.bool false)), none⟩,
    ⟨some 11, .mv (.t 48), none⟩] [] [0, 1, 2, 6, 9, 10, 11, 18, 19, 20])))))))))
  (.seq (.seq (.reg false [⟨some 88, .mv (.t 11), none⟩,
    ⟨some 89, .mv (.t 88), none⟩,
    ⟨some 90, .mv (.t 1), some (89, true)⟩,
    ⟨some 91, .bin .eql (.t 90) (.c (.int .i64 7)), some (89, true)⟩,
    ⟨some 92, .pick (.t 89) (.t 91) (.c (.bool false)), none⟩] [] [0, 1, 2, 6, 9, 10, 11, 18, 19, 20, 92])
  (.cond (.t 92)
  (.reg true [⟨some 93, .mv (.t 0), none⟩,
    ⟨some 94, .nck (.t 93), none⟩,
    ⟨some 95, .fad 3 (.t 94), none⟩,
    ⟨some 96, .ld none (.t 95), none⟩,
    ⟨some 97, .fad 2 (.t 9), none⟩,
    ⟨some 98, .ld none (.t 97), none⟩,
    ⟨some 99, .iad 1 (.t 96) (.t 98), none⟩,
    ⟨some 100, .ld none (.t 99), none⟩,
    ⟨some 101, .fad 3 (.t 10), none⟩,
    ⟨none, .st 1 (.t 101) (.t 100), none⟩] [0, 1, 3, 7, 0, 16, 63, 127, 255, 511] [0, 1, 2, 6, 10, 11, 18, 19, 20])
  .skip))
  (.seq (.reg false [⟨some 102, .mv (.t 11), none⟩] [] [0, 1, 2, 6, 10, 18, 19, 20, 102])
  (.cond (.t 102)
  (.seq (.reg false [⟨some 103, .ld (some 4) (.t 10), none⟩,
    ⟨none, .st 4 (.t 6) (.t 103), none⟩,
    ⟨some 7, .mv (.c (.bool true)), none⟩] [] [6, 7])
  .ret)
  .skip)))))))))
  (.reg false [⟨some 104, .bin .add (.t 20) (.c (.int .i64 1)), none⟩,
    ⟨some 20, .mv (.t 104), none⟩] [] [0, 1, 2, 6, 18, 19, 20])))))))
  (.seq (.reg false [⟨some 105, .build [.int .i64 0, .int .i64 0, .int .i64 0, .int .i64 0] [], none⟩,
    ⟨none, .st 4 (.t 6) (.t 105), none⟩,
    ⟨some 7, .mv (.c (.bool false)), none⟩] [] [6, 7])
  .ret))), [(6, some (some 4)), (7, none)]⟩
theorem impl_prover_opened_ok : okFn Tryz.prog 82 impl_prover_opened = true := by kernel_rfl
def impl_count : IFn := ⟨15, (.seq (.reg false [⟨some 2, .mv (.c (.int .i64 0)), none⟩] [] [0])
  (.seq (.seq (.reg false [⟨some 3, .mv (.t 0), none⟩] [] [3])
  (.block 0 (.seq (.reg false [⟨some 5, .bin .eql (.t 3) (.c (.int .i64 1)), none⟩,
    ⟨some 4, .mv (.t 5), none⟩] [] [3, 4])
  (.cond (.t 4)
  (.seq (.reg false [⟨some 2, .mv (.c (.int .i64 0)), none⟩] [] [2])
  .ret)
  (.seq (.seq (.reg false [⟨some 7, .bin .eql (.t 3) (.c (.int .i64 5)), none⟩,
    ⟨some 6, .mv (.t 7), none⟩] [] [3, 6])
  (.cond (.t 6)
  .skip
  (.reg false [⟨some 8, .bin .eql (.t 3) (.c (.int .i64 7)), none⟩,
    ⟨some 6, .mv (.t 8), none⟩] [] [3, 6])))
  (.cond (.t 6)
  (.seq (.reg false [⟨some 2, .mv (.c (.int .i64 1)), none⟩] [] [2])
  .ret)
  (.seq (.seq (.reg false [⟨some 10, .bin .eql (.t 3) (.c (.int .i64 2)), none⟩,
    ⟨some 9, .mv (.t 10), none⟩] [] [3, 9])
  (.cond (.t 9)
  .skip
  (.seq (.reg false [⟨some 11, .bin .eql (.t 3) (.c (.int .i64 3)), none⟩,
    ⟨some 9, .mv (.t 11), none⟩] [] [3, 9])
  (.cond (.t 9)
  .skip
  (.seq (.reg false [⟨some 12, .bin .eql (.t 3) (.c (.int .i64 4)), none⟩,
    ⟨some 9, .mv (.t 12), none⟩] [] [3, 9])
  (.cond (.t 9)
  .skip
  (.seq (.reg false [⟨some 13, .bin .eql (.t 3) (.c (.int .i64 6)), none⟩,
    ⟨some 9, .mv (.t 13), none⟩] [] [3, 9])
  (.cond (.t 9)
  .skip
  (.reg false [⟨some 14, .bin .eql (.t 3) (.c (.int .i64 8)), none⟩,
    ⟨some 9, .mv (.t 14), none⟩] [] [9])))))))))
  (.cond (.t 9)
  (.seq (.reg false [⟨some 2, .mv (.c (.int .i64 2)), none⟩] [] [2])
  .ret)
  .skip))))))))
  (.seq (.reg false [⟨some 2, .mv (.c (.int .i64 (-1))), none⟩] [] [2])
  .ret))), [(2, none)]⟩
theorem impl_count_ok : okFn Tryz.prog 83 impl_count = true := by kernel_rfl
def spec_l1Right : IFn := ⟨56, (.seq (.reg false [⟨some 2, .box (.t 0), none⟩,
    ⟨some 4, .mv (.c (.bool false)), none⟩] [] [1, 2])
  (.seq (.seq (.reg false [⟨some 5, .fad 0 (.t 2), none⟩,
    ⟨some 6, .ld none (.t 5), none⟩,
    ⟨some 7, .call 64 [.t 6], none⟩] [] [1, 2, 7])
  (.block 0 (.seq (.reg false [⟨some 9, .bin .eql (.t 7) (.c (.int .i64 0)), none⟩,
    ⟨some 8, .mv (.t 9), none⟩] [] [1, 2, 7, 8])
  (.cond (.t 8)
  (.seq (.reg false [⟨some 10, .fad 1 (.t 2), none⟩,
    ⟨some 11, .ld none (.t 10), none⟩,
    ⟨some 12, .call 37 [.t 11, .c (.int .i64 0), .c (.int .i64 199)], none⟩,
    ⟨some 13, .mv (.t 12), none⟩,
    ⟨some 14, .fad 2 (.t 2), some (13, true)⟩,
    ⟨some 15, .ld none (.t 14), some (13, true)⟩,
    ⟨some 16, .bin .eql (.t 15) (.c (.int .i64 0)), some (13, true)⟩,
    ⟨some 17, .pick (.t 13) (.t 16) (.c (.bool false)), none⟩,
    ⟨some 4, .mv (.t 17), none⟩] [] [4])
  .ret)
  (.seq (.reg false [⟨some 19, .bin .eql (.t 7) (.c (.int .i64 1)), none⟩,
    ⟨some 18, .mv (.t 19), none⟩] [] [1, 2, 7, 18])
  (.cond (.t 18)
  (.seq (.reg false [⟨some 20, .fad 1 (.t 2), none⟩,
    ⟨some 21, .ld none (.t 20), none⟩,
    ⟨some 22, .mv (.t 1), none⟩,
    ⟨some 23, .bin .sub (.t 22) (.c (.int .i64 1)), none⟩,
    ⟨some 24, .call 37 [.t 21, .c (.int .i64 0), .t 23], none⟩,
    ⟨some 25, .mv (.t 24), none⟩,
    ⟨some 26, .fad 2 (.t 2), some (25, true)⟩,
    ⟨some 27, .ld none (.t 26), some (25, true)⟩,
    ⟨some 28, .bin .eql (.t 27) (.c (.int .i64 0)), some (25, true)⟩,
    ⟨some 29, .pick (.t 25) (.t 28) (.c (.bool false)), none⟩,
    ⟨some 4, .mv (.t 29), none⟩] [] [4])
  .ret)
  (.seq (.reg false [⟨some 31, .bin .eql (.t 7) (.c (.int .i64 2)), none⟩,
    ⟨some 30, .mv (.t 31), none⟩] [] [1, 2, 30])
  (.cond (.t 30)
  (.seq (.reg false [⟨some 32, .fad 1 (.t 2), none⟩,
    ⟨some 33, .ld none (.t 32), none⟩,
    ⟨some 34, .mv (.t 1), none⟩,
    ⟨some 35, .bin .sub (.t 34) (.c (.int .i64 1)), none⟩,
    ⟨some 36, .call 37 [.t 33, .c (.int .i64 0), .t 35], none⟩,
    ⟨some 37, .mv (.t 36), none⟩,
    ⟨some 38, .fad 2 (.t 2), some (37, true)⟩,
    ⟨some 39, .ld none (.t 38), some (37, true)⟩,
    ⟨some 40, .mv (.t 1), some (37, true)⟩,
    ⟨some 41, .bin .sub (.t 40) (.c (.int .i64 1)), some (37, true)⟩,
    ⟨some 42, .call 37 [.t 39, .c (.int .i64 0), .t 41], some (37, true)⟩,
    ⟨some 43, .pick (.t 37) (.t 42) (.c (.bool false)), none⟩,
    ⟨some 44, .mv (.t 43), none⟩,
    ⟨some 45, .fad 0 (.t 2), some (44, true)⟩,
    ⟨some 46, .ld none (.t 45), some (44, true)⟩,
    ⟨some 47, .bin .neq (.t 46) (.c (.int .i64 8)), some (44, true)⟩,
    ⟨some 48, .mv (.t 47), some (44, true)⟩,
    ⟨some 49, .fad 1 (.t 2), some (48, false)⟩,
    ⟨some 50, .ld none (.t 49), some (48, false)⟩,
    ⟨some 51, .fad 2 (.t 2), some (48, false)⟩,
    ⟨some 52, .ld none (.t 51), some (48, false)⟩,
    ⟨some 53, .bin .leq (.t 50) (.t 52), some (48, false)⟩,
    ⟨some 54, .pick (.t 48) (.c (.bool true)) (.t 53), some (44, true)⟩,
    ⟨some 55, .pick (.t 44) (.t 54) (.c (.bool false)), none⟩,
    ⟨some 4, .mv (.t 55), none⟩] [] [4])
  .ret)
  .skip))))))))
  (.seq (.reg false [⟨some 4, .mv (.c (.bool false)), none⟩] [] [4])
  .ret))), [(4, none)]⟩
theorem spec_l1Right_ok : okFn Tryz.prog 84 spec_l1Right = true := by kernel_rfl
def spec_l1Find : IFn := ⟨21, (.seq (.reg false [⟨some 2, .box (.t 0), none⟩,
    ⟨some 3, .box (.t 1), none⟩,
    ⟨some 4, .mv (.c (.int .i64 0)), none⟩] [] [2, 3])
  (.seq (.seq (.reg false [⟨some 5, .mv (.c (.int .i64 0)), none⟩] [] [2, 3, 5])
  (.block 0 (.loop (.seq (.seq (.reg false [⟨some 6, .mv (.t 5), none⟩,
    ⟨some 7, .fad 0 (.t 2), none⟩,
    ⟨some 8, .ld none (.t 7), none⟩,
    ⟨some 9, .len false (.t 8), none⟩,
    ⟨some 10, .bin .lss (.t 6) (.t 9), none⟩] [] [2, 3, 5, 10])
  (.cond (.t 10)
  .skip
  (.exit 0)))
  (.seq (.block 1 (.seq (.reg true [⟨some 13, .fad 0 (.t 2), none⟩,
    ⟨some 14, .ld none (.t 13), none⟩,
    ⟨some 15, .mv (.t 5), none⟩,
    ⟨some 16, .iad 3 (.t 14) (.t 15), none⟩,
    ⟨some 17, .ld (some 3) (.t 16), none⟩,
    ⟨some 18, .ld (some 3) (.t 3), none⟩,
    ⟨some 19, .eqs false [1, 1, 1] (.t 17) (.t 18), none⟩] [0, 1, 0, 7, 15, 0, 63] [2, 3, 5, 19])
  (.cond (.t 19)
  (.seq (.reg false [⟨some 20, .mv (.t 5), none⟩,
    ⟨some 4, .mv (.t 20), none⟩] [] [4])
  .ret)
  .skip)))
  (.reg false [⟨some 11, .mv (.t 5), none⟩,
    ⟨some 12, .bin .add (.t 11) (.c (.int .i64 1)), none⟩,
    ⟨some 5, .mv (.t 12), none⟩] [] [2, 3, 5]))))))
  (.seq (.reg false [⟨some 4, .mv (.c (.int .i64 (-1))), none⟩] [] [4])
  .ret))), [(4, none)]⟩
theorem spec_l1Find_ok : okFn Tryz.prog 85 spec_l1Find = true := by kernel_rfl
def slices_Clone_int : IFn := ⟨8, (.seq (.reg false [⟨some 2, .mv (.c (.nil)), none⟩] [] [0])
  (.seq (.seq (.reg false [⟨some 3, .mv (.t 0), none⟩,
    ⟨some 4, .isn false (.t 3), none⟩] [] [0, 4])
  (.cond (.t 4)
  (.seq (.reg false [⟨some 2, .mv (.c (.nil)), none⟩] [] [2])
  .ret)
  .skip))
  (.seq (.reg false [⟨some 5, .bsl 1 0 [.int .i64 0] [], none⟩,
    ⟨some 6, .mv (.t 0), none⟩,
    ⟨some 7, .app 1 8 (.t 5) (.t 6), none⟩,
    ⟨some 2, .mv (.t 7), none⟩] [] [2])
  .ret))), [(2, none)]⟩
theorem slices_Clone_int_ok : okFn Tryz.prog 86 slices_Clone_int = true := by kernel_rfl
def slices_Sort_int : IFn := ⟨11, (.seq (.reg false [⟨some 3, .mv (.t 0), none⟩,
    ⟨some 4, .len false (.t 3), none⟩,
    ⟨some 2, .mv (.t 4), none⟩] [] [0, 2])
  (.reg false [⟨some 5, .mv (.t 0), none⟩,
    ⟨some 6, .mv (.t 2), none⟩,
    ⟨some 7, .mv (.t 2), none⟩,
    ⟨some 8, .conv .u64 (.t 7), none⟩,
    ⟨some 9, .call 96 [.t 8], none⟩,
    ⟨some 10, .call 95 [.t 5, .c (.int .i64 0), .t 6, .t 9], none⟩] [] [])), []⟩
theorem slices_Sort_int_ok : okFn Tryz.prog 87 slices_Sort_int = true := by kernel_rfl
def slices_Clip_int : IFn := ⟨9, (.seq (.reg false [⟨some 2, .mv (.c (.nil)), none⟩] [] [0])
  (.seq (.reg false [⟨some 3, .mv (.t 0), none⟩,
    ⟨some 4, .mv (.t 0), none⟩,
    ⟨some 5, .len false (.t 4), none⟩,
    ⟨some 6, .mv (.t 0), none⟩,
    ⟨some 7, .len false (.t 6), none⟩,
    ⟨some 8, .slc 1 (.t 3) none (some (.t 5)) (some (.t 7)), none⟩,
    ⟨some 2, .mv (.t 8), none⟩] [] [2])
  .ret)), [(2, none)]⟩
theorem slices_Clip_int_ok : okFn Tryz.prog 88 slices_Clip_int = true := by kernel_rfl
def impl_Pool_isMade : IFn := ⟨19, (.seq (.reg false [⟨some 4, .box (.t 1), none⟩,
    ⟨some 6, .mv (.c (.bool false)), none⟩] [] [0, 2, 4])
  (.seq (.reg false [⟨some 8, .mv (.t 0), none⟩,
    ⟨some 9, .ld (some 3) (.t 4), none⟩,
    ⟨some 10, .call 94 [.t 8, .t 9], none⟩,
    ⟨some 7, .mv (.t 10), none⟩] [] [2, 7])
  (.seq (.reg false [⟨some 11, .mv (.t 7), none⟩,
    ⟨some 12, .bin .geq (.t 11) (.c (.int .i64 0)), none⟩,
    ⟨some 13, .mv (.t 12), none⟩,
    ⟨some 14, .mv (.t 2), some (13, true)⟩,
    ⟨some 15, .mv (.t 7), some (13, true)⟩,
    ⟨some 16, .iad 1 (.t 14) (.t 15), some (13, true)⟩,
    ⟨some 17, .ld none (.t 16), some (13, true)⟩,
    ⟨some 18, .pick (.t 13) (.t 17) (.c (.bool false)), none⟩,
    ⟨some 6, .mv (.t 18), none⟩] [] [6])
  .ret))), [(6, none)]⟩
theorem impl_Pool_isMade_ok : okFn Tryz.prog 90 impl_Pool_isMade = true := by kernel_rfl
def slices_Index_int : IFn := ⟨19, (.seq (.reg false [⟨some 4, .mv (.c (.int .i64 0)), none⟩] [] [0, 1])
  (.seq (.seq (.reg false [⟨some 6, .mv (.t 0), none⟩,
    ⟨some 7, .len false (.t 6), none⟩,
    ⟨some 8, .mv (.c (.int .i64 0)), none⟩] [] [0, 1, 7, 8])
  (.block 0 (.loop (.seq (.reg false [⟨some 9, .bin .lss (.t 8) (.t 7), none⟩] [] [0, 1, 7, 8, 9])
  (.seq (.cond (.t 9)
  .skip
  (.exit 0))
  (.seq (.block 1 (.seq (.reg false [⟨some 10, .mv (.t 8), none⟩,
    ⟨some 5, .mv (.t 10), none⟩] [] [0, 1, 5, 7, 8])
  (.seq (.reg false [⟨some 11, .mv (.t 1), none⟩,
    ⟨some 12, .mv (.t 0), none⟩,
    ⟨some 13, .mv (.t 5), none⟩,
    ⟨some 14, .iad 1 (.t 12) (.t 13), none⟩,
    ⟨some 15, .ld none (.t 14), none⟩,
    ⟨some 16, .bin .eql (.t 11) (.t 15), none⟩] [] [0, 1, 5, 7, 8, 16])
  (.cond (.t 16)
  (.seq (.reg false [⟨some 17, .mv (.t 5), none⟩,
    ⟨some 4, .mv (.t 17), none⟩] [] [4])
  .ret)
  .skip))))
  (.reg false [⟨some 18, .bin .add (.t 8) (.c (.int .i64 1)), none⟩,
    ⟨some 8, .mv (.t 18), none⟩] [] [0, 1, 7, 8])))))))
  (.seq (.reg false [⟨some 4, .mv (.c (.int .i64 (-1))), none⟩] [] [4])
  .ret))), [(4, none)]⟩
theorem slices_Index_int_ok : okFn Tryz.prog 91 slices_Index_int = true := by kernel_rfl
def spec_l7All : IFn := ⟨29, (.seq (.reg false [⟨some 2, .box (.t 0), none⟩,
    ⟨some 4, .mv (.c (.nil)), none⟩] [] [1, 2])
  (.seq (.reg false [⟨some 7, .bsl 1 0 [.bool false] [], none⟩,
    ⟨some 5, .mv (.t 7), none⟩] [] [1, 2, 5])
  (.seq (.seq (.reg false [⟨some 6, .mv (.c (.int .i64 0)), none⟩] [] [1, 2, 5, 6])
  (.block 0 (.loop (.seq (.seq (.reg false [⟨some 8, .mv (.t 6), none⟩,
    ⟨some 9, .fad 0 (.t 2), none⟩,
    ⟨some 10, .ld none (.t 9), none⟩,
    ⟨some 11, .len false (.t 10), none⟩,
    ⟨some 12, .bin .lss (.t 8) (.t 11), none⟩] [] [1, 2, 5, 6, 12])
  (.cond (.t 12)
  .skip
  (.exit 0)))
  (.seq (.block 1 (.reg false [⟨some 15, .mv (.t 5), none⟩,
    ⟨some 16, .mv (.t 1), none⟩,
    ⟨some 17, .mv (.t 6), none⟩,
    ⟨some 18, .call 60 [.t 16, .t 17], none⟩,
    ⟨some 19, .mv (.t 18), none⟩,
    ⟨some 20, .ld (some 1) (.t 2), some (19, false)⟩,
    ⟨some 21, .mv (.t 5), some (19, false)⟩,
    ⟨some 22, .mv (.t 6), some (19, false)⟩,
    ⟨some 23, .mv (.t 1), some (19, false)⟩,
    ⟨some 24, .call 97 [.t 20, .t 21, .t 22, .t 23], some (19, false)⟩,
    ⟨some 25, .pick (.t 19) (.c (.bool true)) (.t 24), none⟩,
    ⟨some 26, .bsl 1 1 [.bool false] [(0, 1, .t 25)], none⟩,
    ⟨some 27, .app 1 1 (.t 15) (.t 26), none⟩,
    ⟨some 5, .mv (.t 27), none⟩] [] [1, 2, 5, 6]))
  (.reg false [⟨some 13, .mv (.t 6), none⟩,
    ⟨some 14, .bin .add (.t 13) (.c (.int .i64 1)), none⟩,
    ⟨some 6, .mv (.t 14), none⟩] [] [1, 2, 5, 6]))))))
  (.seq (.reg false [⟨some 28, .mv (.t 5), none⟩,
    ⟨some 4, .mv (.t 28), none⟩] [] [4])
  .ret)))), [(4, none)]⟩
theorem spec_l7All_ok : okFn Tryz.prog 92 spec_l7All = true := by kernel_rfl
def impl_prover_has : IFn := ⟨17, (.seq (.reg false [⟨some 4, .mv (.c (.bool false)), none⟩] [] [0, 1])
  (.seq (.reg false [⟨some 5, .mv (.t 1), none⟩,
    ⟨some 6, .bin .geq (.t 5) (.c (.int .i64 0)), none⟩,
    ⟨some 7, .mv (.t 6), none⟩,
    ⟨some 8, .mv (.t 0), some (7, true)⟩,
    ⟨some 9, .nck (.t 8), some (7, true)⟩,
    ⟨some 10, .fad 3 (.t 9), some (7, true)⟩,
    ⟨some 11, .ld none (.t 10), some (7, true)⟩,
    ⟨some 12, .mv (.t 1), some (7, true)⟩,
    ⟨some 13, .iad 1 (.t 11) (.t 12), some (7, true)⟩,
    ⟨some 14, .ld none (.t 13), some (7, true)⟩,
    ⟨some 15, .bin .geq (.t 14) (.c (.int .i64 0)), some (7, true)⟩,
    ⟨some 16, .pick (.t 7) (.t 15) (.c (.bool false)), none⟩,
    ⟨some 4, .mv (.t 16), none⟩] [] [4])
  .ret)), [(4, none)]⟩
theorem impl_prover_has_ok : okFn Tryz.prog 93 impl_prover_has = true := by kernel_rfl
def impl_Pool_find : IFn := ⟨11, (.seq (.reg false [⟨some 3, .box (.t 1), none⟩,
    ⟨some 4, .mv (.c (.int .i64 0)), none⟩] [] [0, 3])
  (.seq (.reg true [⟨some 5, .mv (.t 0), none⟩,
    ⟨some 6, .nck (.t 5), none⟩,
    ⟨some 7, .fad 0 (.t 6), none⟩,
    ⟨some 8, .ld none (.t 7), none⟩,
    ⟨some 9, .ld (some 3) (.t 3), none⟩,
    ⟨some 10, .call 98 [.t 8, .t 9], none⟩,
    ⟨some 4, .mv (.t 10), none⟩] [0, 1, 3, 7, 0, 31, 63] [4])
  .ret)), [(4, none)]⟩
theorem impl_Pool_find_ok : okFn Tryz.prog 94 impl_Pool_find = true := by kernel_rfl
def spec_l7Made : IFn := ⟨77, (.seq (.reg false [⟨some 4, .box (.t 0), none⟩,
    ⟨some 8, .mv (.c (.bool false)), none⟩] [] [1, 2, 3, 4])
  (.seq (.reg false [⟨some 10, .fad 0 (.t 4), none⟩,
    ⟨some 11, .ld none (.t 10), none⟩,
    ⟨some 12, .mv (.t 2), none⟩,
    ⟨some 13, .iad 3 (.t 11) (.t 12), none⟩,
    ⟨some 14, .ld (some 3) (.t 13), none⟩,
    ⟨some 9, .new [.int .i64 0, .int .i64 0, .int .i64 0], none⟩,
    ⟨none, .st 3 (.t 9) (.t 14), none⟩] [] [1, 3, 4, 9])
  (.seq (.block 0 (.seq (.reg false [⟨some 16, .fad 0 (.t 9), none⟩,
    ⟨some 17, .ld none (.t 16), none⟩,
    ⟨some 18, .bin .eql (.t 17) (.c (.int .i64 1)), none⟩,
    ⟨some 15, .mv (.t 18), none⟩] [] [1, 3, 4, 9, 15])
  (.cond (.t 15)
  (.seq (.reg false [⟨some 19, .fad 1 (.t 9), none⟩,
    ⟨some 20, .ld none (.t 19), none⟩,
    ⟨some 21, .call 61 [.t 20], none⟩,
    ⟨some 8, .mv (.t 21), none⟩] [] [8])
  .ret)
  (.seq (.reg false [⟨some 23, .fad 0 (.t 9), none⟩,
    ⟨some 24, .ld none (.t 23), none⟩,
    ⟨some 25, .call 64 [.t 24], none⟩,
    ⟨some 26, .bin .eql (.t 25) (.c (.int .i64 1)), none⟩,
    ⟨some 22, .mv (.t 26), none⟩] [] [1, 3, 4, 9, 22])
  (.cond (.t 22)
  (.seq (.reg false [⟨some 27, .mv (.t 1), none⟩,
    ⟨some 28, .fad 1 (.t 9), none⟩,
    ⟨some 29, .ld none (.t 28), none⟩,
    ⟨some 30, .iad 1 (.t 27) (.t 29), none⟩,
    ⟨some 31, .ld none (.t 30), none⟩,
    ⟨some 8, .mv (.t 31), none⟩] [] [8])
  .ret)
  (.seq (.reg false [⟨some 33, .mv (.t 1), none⟩,
    ⟨some 34, .fad 1 (.t 9), none⟩,
    ⟨some 35, .ld none (.t 34), none⟩,
    ⟨some 36, .iad 1 (.t 33) (.t 35), none⟩,
    ⟨some 37, .ld none (.t 36), none⟩,
    ⟨some 38, .mv (.t 37), none⟩,
    ⟨some 39, .mv (.t 1), some (38, true)⟩,
    ⟨some 40, .fad 2 (.t 9), some (38, true)⟩,
    ⟨some 41, .ld none (.t 40), some (38, true)⟩,
    ⟨some 42, .iad 1 (.t 39) (.t 41), some (38, true)⟩,
    ⟨some 43, .ld none (.t 42), some (38, true)⟩,
    ⟨some 44, .pick (.t 38) (.t 43) (.c (.bool false)), none⟩,
    ⟨some 32, .mv (.t 44), none⟩] [] [1, 3, 4, 9, 32])
  (.cond (.t 32)
  (.seq (.reg false [⟨some 8, .mv (.c (.bool true)), none⟩] [] [8])
  .ret)
  (.seq (.reg false [⟨some 46, .fad 0 (.t 9), none⟩,
    ⟨some 47, .ld none (.t 46), none⟩,
    ⟨some 48, .bin .eql (.t 47) (.c (.int .i64 8)), none⟩,
    ⟨some 45, .mv (.t 48), none⟩] [] [1, 3, 4, 9, 45])
  (.cond (.t 45)
  (.seq (.reg false [⟨some 49, .mv (.t 1), none⟩,
    ⟨some 50, .fad 1 (.t 9), none⟩,
    ⟨some 51, .ld none (.t 50), none⟩,
    ⟨some 52, .iad 1 (.t 49) (.t 51), none⟩,
    ⟨some 53, .ld none (.t 52), none⟩,
    ⟨some 54, .mv (.t 53), none⟩,
    ⟨some 55, .ld (some 1) (.t 4), some (54, true)⟩,
    ⟨some 56, .mv (.t 1), some (54, true)⟩,
    ⟨some 57, .mv (.t 3), some (54, true)⟩,
    ⟨some 58, .fad 2 (.t 9), some (54, true)⟩,
    ⟨some 59, .ld none (.t 58), some (54, true)⟩,
    ⟨some 60, .call 110 [.t 55, .t 56, .t 57, .t 59], some (54, true)⟩,
    ⟨some 61, .pick (.t 54) (.t 60) (.c (.bool false)), none⟩,
    ⟨some 62, .mv (.t 61), none⟩,
    ⟨some 63, .mv (.t 1), some (62, false)⟩,
    ⟨some 64, .fad 2 (.t 9), some (62, false)⟩,
    ⟨some 65, .ld none (.t 64), some (62, false)⟩,
    ⟨some 66, .iad 1 (.t 63) (.t 65), some (62, false)⟩,
    ⟨some 67, .ld none (.t 66), some (62, false)⟩,
    ⟨some 68, .mv (.t 67), some (62, false)⟩,
    ⟨some 69, .ld (some 1) (.t 4), some (68, true)⟩,
    ⟨some 70, .mv (.t 1), some (68, true)⟩,
    ⟨some 71, .mv (.t 3), some (68, true)⟩,
    ⟨some 72, .fad 1 (.t 9), some (68, true)⟩,
    ⟨some 73, .ld none (.t 72), some (68, true)⟩,
    ⟨some 74, .call 110 [.t 69, .t 70, .t 71, .t 73], some (68, true)⟩,
    ⟨some 75, .pick (.t 68) (.t 74) (.c (.bool false)), some (62, false)⟩,
    ⟨some 76, .pick (.t 62) (.c (.bool true)) (.t 75), none⟩,
    ⟨some 8, .mv (.t 76), none⟩] [] [8])
  .ret)
  .skip)))))))))
  (.seq (.reg false [⟨some 8, .mv (.c (.bool false)), none⟩] [] [8])
  .ret)))), [(8, none)]⟩
theorem spec_l7Made_ok : okFn Tryz.prog 97 spec_l7Made = true := by kernel_rfl
def slices_Index_Node : IFn := ⟨19, (.seq (.reg false [⟨some 3, .box (.t 1), none⟩,
    ⟨some 4, .mv (.c (.int .i64 0)), none⟩] [] [0, 3])
  (.seq (.seq (.reg false [⟨some 6, .mv (.t 0), none⟩,
    ⟨some 7, .len false (.t 6), none⟩,
    ⟨some 8, .mv (.c (.int .i64 0)), none⟩] [] [0, 3, 7, 8])
  (.block 0 (.loop (.seq (.reg false [⟨some 9, .bin .lss (.t 8) (.t 7), none⟩] [] [0, 3, 7, 8, 9])
  (.seq (.cond (.t 9)
  .skip
  (.exit 0))
  (.seq (.block 1 (.seq (.reg false [⟨some 10, .mv (.t 8), none⟩,
    ⟨some 5, .mv (.t 10), none⟩] [] [0, 3, 5, 7, 8])
  (.seq (.reg true [⟨some 11, .ld (some 3) (.t 3), none⟩,
    ⟨some 12, .mv (.t 0), none⟩,
    ⟨some 13, .mv (.t 5), none⟩,
    ⟨some 14, .iad 3 (.t 12) (.t 13), none⟩,
    ⟨some 15, .ld (some 3) (.t 14), none⟩,
    ⟨some 16, .eqs false [1, 1, 1] (.t 11) (.t 15), none⟩] [0, 0, 0, 6, 14, 31] [0, 3, 5, 7, 8, 16])
  (.cond (.t 16)
  (.seq (.reg false [⟨some 17, .mv (.t 5), none⟩,
    ⟨some 4, .mv (.t 17), none⟩] [] [4])
  .ret)
  .skip))))
  (.reg false [⟨some 18, .bin .add (.t 8) (.c (.int .i64 1)), none⟩,
    ⟨some 8, .mv (.t 18), none⟩] [] [0, 3, 7, 8])))))))
  (.seq (.reg false [⟨some 4, .mv (.c (.int .i64 (-1))), none⟩] [] [4])
  .ret))), [(4, none)]⟩
theorem slices_Index_Node_ok : okFn Tryz.prog 98 slices_Index_Node = true := by kernel_rfl
def spec_l7Power : IFn := ⟨27, (.seq (.reg false [⟨some 4, .box (.t 0), none⟩,
    ⟨some 8, .mv (.c (.bool false)), none⟩] [] [1, 2, 3, 4])
  (.seq (.reg false [⟨some 10, .ld (some 1) (.t 4), none⟩,
    ⟨some 11, .mv (.t 3), none⟩,
    ⟨some 12, .build [.int .i64 0, .int .i64 0, .int .i64 0] [(0, 1, .c (.int .i64 7)), (1, 1, .t 11)], none⟩,
    ⟨some 13, .call 85 [.t 10, .t 12], none⟩,
    ⟨some 9, .mv (.t 13), none⟩] [] [1, 2, 3, 9])
  (.seq (.reg false [⟨some 14, .mv (.t 9), none⟩,
    ⟨some 15, .bin .geq (.t 14) (.c (.int .i64 0)), none⟩,
    ⟨some 16, .mv (.t 15), none⟩,
    ⟨some 17, .mv (.t 1), some (16, true)⟩,
    ⟨some 18, .mv (.t 3), some (16, true)⟩,
    ⟨some 19, .iad 1 (.t 17) (.t 18), some (16, true)⟩,
    ⟨some 20, .ld none (.t 19), some (16, true)⟩,
    ⟨some 21, .mv (.t 20), some (16, true)⟩,
    ⟨some 22, .mv (.t 2), some (21, false)⟩,
    ⟨some 23, .mv (.t 9), some (21, false)⟩,
    ⟨some 24, .call 60 [.t 22, .t 23], some (21, false)⟩,
    ⟨some 25, .pick (.t 21) (.c (.bool true)) (.t 24), some (16, true)⟩,
    ⟨some 26, .pick (.t 16) (.t 25) (.c (.bool false)), none⟩,
    ⟨some 8, .mv (.t 26), none⟩] [] [8])
  .ret))), [(8, none)]⟩
theorem spec_l7Power_ok : okFn Tryz.prog 110 spec_l7Power = true := by kernel_rfl

end Go.Proofs.YtcfgiffgahdlbaaGreat.I
