/-
  No cell of these rows narrows 'for every input' (looked for: loops, veiled, ifaces, maps, wideKeys, modest, calm, conditions, laid).
  DERIVED. THE GIVEN ROWS OF THIS SEAT. 12 by the template 'for every input the law returns true; each argument reads behind the call as it read before'; 0 by the template 'total and deterministic' (their statements: YtnbodfakblbmbaaTotals.lean).
  GIVEN WITH THE SEED: the statements are not yours to turn. If you find one false, say at which input.
  Laid BY PROGRAM, IN A SANDBOX (cutbox-rows.mjs): the forced cells as the released guide's own fill.sh prints them over the translation 1b9ad1512285ccb7… (all of the seat's roots in one cut). By AI agents, Wed Nov 11 2026. No macro, syntax, notation, axiom, sorry.
-/
import Derived.Test.YtnbodfakblbmbaaChecked
import GoSem.Claim
import GoSem.ClaimJoined
import GoSem.ClaimMapViews
import Derived.JoinedTies
import Derived.KernelRfl
namespace Go.Proofs.Ytnbodfakblbmbaa
/- THE CELL 'sum', in the pinned program and in every row, IS THE sha256 OF THE DUMP (.gsa) THAT YtnbodfakblbmbaaProg.lean LOADS. Nothing in Lean hashes anything: it is a label: what it is worth is what the hold of that sum in a sandbox is worth. -/
noncomputable def Try.pinned : Pinned := { name := "ytnbodfakblbmbaa", sum := "1b9ad1512285ccb7e2d0ff37bf65bb3834e8c3dcc10e1b362df08c6deb4245fc", checked := Try.checked }
namespace Rows
def none {H : Type} : Left H := { results := [], args := [] }

/-- 'laws.FnExactLinkTake': WHATEVER THE INPUT: true; the input reads as it did. -/
def fnExactLinkTakeSpec : ChangeSpec := { name := "fnExactLinkTake", fn := fun _ => fun
  | [d1, d2, d3] => { results := [.lit (.bool true)], args := [d1, d2, d3] }
  | _ => none }
def fnExactLinkTakeRow : OpenClaim := { program := "ytnbodfakblbmbaa", sum := "1b9ad1512285ccb7e2d0ff37bf65bb3834e8c3dcc10e1b362df08c6deb4245fc", func := "loop.example/g00122/laws.FnExactLinkTake", spec := "fnExactLinkTake", plainKeys := false, apart := false }
def FnExactLinkTakeSaid : Prop := fnExactLinkTakeRow.holds Try.pinned (OpenSpec.ofChange fnExactLinkTakeSpec)

/-- ITS FALSE NEIGHBOUR: 'it returns false'. Refute it at one input. -/
def fnExactLinkTakeWrong : ChangeSpec := { name := "fnExactLinkTake", fn := fun _ => fun
  | [d1, d2, d3] => { results := [.lit (.bool false)], args := [d1, d2, d3] }
  | _ => none }
def FnExactLinkTakeWrongFalsely : Prop := fnExactLinkTakeRow.holds Try.pinned (OpenSpec.ofChange fnExactLinkTakeWrong)

/-- 'laws.FnExactStreamOk': WHATEVER THE INPUT: true; the input reads as it did. -/
def fnExactStreamOkSpec : ChangeSpec := { name := "fnExactStreamOk", fn := fun _ => fun
  | [d] => { results := [.lit (.bool true)], args := [d] }
  | _ => none }
def fnExactStreamOkRow : OpenClaim := { program := "ytnbodfakblbmbaa", sum := "1b9ad1512285ccb7e2d0ff37bf65bb3834e8c3dcc10e1b362df08c6deb4245fc", func := "loop.example/g00122/laws.FnExactStreamOk", spec := "fnExactStreamOk", plainKeys := false, apart := false }
def FnExactStreamOkSaid : Prop := fnExactStreamOkRow.holds Try.pinned (OpenSpec.ofChange fnExactStreamOkSpec)

/-- ITS FALSE NEIGHBOUR: 'it returns false'. Refute it at one input. -/
def fnExactStreamOkWrong : ChangeSpec := { name := "fnExactStreamOk", fn := fun _ => fun
  | [d] => { results := [.lit (.bool false)], args := [d] }
  | _ => none }
def FnExactStreamOkWrongFalsely : Prop := fnExactStreamOkRow.holds Try.pinned (OpenSpec.ofChange fnExactStreamOkWrong)

/-- 'laws.FnExactLinkTurn': WHATEVER THE INPUT: true; the input reads as it did. -/
def fnExactLinkTurnSpec : ChangeSpec := { name := "fnExactLinkTurn", fn := fun _ => fun
  | [d1, d2] => { results := [.lit (.bool true)], args := [d1, d2] }
  | _ => none }
def fnExactLinkTurnRow : OpenClaim := { program := "ytnbodfakblbmbaa", sum := "1b9ad1512285ccb7e2d0ff37bf65bb3834e8c3dcc10e1b362df08c6deb4245fc", func := "loop.example/g00122/laws.FnExactLinkTurn", spec := "fnExactLinkTurn", plainKeys := false, apart := false }
def FnExactLinkTurnSaid : Prop := fnExactLinkTurnRow.holds Try.pinned (OpenSpec.ofChange fnExactLinkTurnSpec)

/-- ITS FALSE NEIGHBOUR: 'it returns false'. Refute it at one input. -/
def fnExactLinkTurnWrong : ChangeSpec := { name := "fnExactLinkTurn", fn := fun _ => fun
  | [d1, d2] => { results := [.lit (.bool false)], args := [d1, d2] }
  | _ => none }
def FnExactLinkTurnWrongFalsely : Prop := fnExactLinkTurnRow.holds Try.pinned (OpenSpec.ofChange fnExactLinkTurnWrong)

/-- 'laws.FnExactLinkSend': WHATEVER THE INPUT: true; the input reads as it did. -/
def fnExactLinkSendSpec : ChangeSpec := { name := "fnExactLinkSend", fn := fun _ => fun
  | [d1, d2, d3] => { results := [.lit (.bool true)], args := [d1, d2, d3] }
  | _ => none }
def fnExactLinkSendRow : OpenClaim := { program := "ytnbodfakblbmbaa", sum := "1b9ad1512285ccb7e2d0ff37bf65bb3834e8c3dcc10e1b362df08c6deb4245fc", func := "loop.example/g00122/laws.FnExactLinkSend", spec := "fnExactLinkSend", plainKeys := false, apart := false }
def FnExactLinkSendSaid : Prop := fnExactLinkSendRow.holds Try.pinned (OpenSpec.ofChange fnExactLinkSendSpec)

/-- ITS FALSE NEIGHBOUR: 'it returns false'. Refute it at one input. -/
def fnExactLinkSendWrong : ChangeSpec := { name := "fnExactLinkSend", fn := fun _ => fun
  | [d1, d2, d3] => { results := [.lit (.bool false)], args := [d1, d2, d3] }
  | _ => none }
def FnExactLinkSendWrongFalsely : Prop := fnExactLinkSendRow.holds Try.pinned (OpenSpec.ofChange fnExactLinkSendWrong)

/-- 'laws.FnLink': WHATEVER THE INPUT: true; the input reads as it did. -/
def fnLinkSpec : ChangeSpec := { name := "fnLink", fn := fun _ => fun
  | [d] => { results := [.lit (.bool true)], args := [d] }
  | _ => none }
def fnLinkRow : OpenClaim := { program := "ytnbodfakblbmbaa", sum := "1b9ad1512285ccb7e2d0ff37bf65bb3834e8c3dcc10e1b362df08c6deb4245fc", func := "loop.example/g00122/laws.FnLink", spec := "fnLink", plainKeys := false, apart := false }
def FnLinkSaid : Prop := fnLinkRow.holds Try.pinned (OpenSpec.ofChange fnLinkSpec)

/-- ITS FALSE NEIGHBOUR: 'it returns false'. Refute it at one input. -/
def fnLinkWrong : ChangeSpec := { name := "fnLink", fn := fun _ => fun
  | [d] => { results := [.lit (.bool false)], args := [d] }
  | _ => none }
def FnLinkWrongFalsely : Prop := fnLinkRow.holds Try.pinned (OpenSpec.ofChange fnLinkWrong)

/-- 'laws.FnExactLinkEnd': WHATEVER THE INPUT: true; the input reads as it did. -/
def fnExactLinkEndSpec : ChangeSpec := { name := "fnExactLinkEnd", fn := fun _ => fun
  | [d1, d2] => { results := [.lit (.bool true)], args := [d1, d2] }
  | _ => none }
def fnExactLinkEndRow : OpenClaim := { program := "ytnbodfakblbmbaa", sum := "1b9ad1512285ccb7e2d0ff37bf65bb3834e8c3dcc10e1b362df08c6deb4245fc", func := "loop.example/g00122/laws.FnExactLinkEnd", spec := "fnExactLinkEnd", plainKeys := false, apart := false }
def FnExactLinkEndSaid : Prop := fnExactLinkEndRow.holds Try.pinned (OpenSpec.ofChange fnExactLinkEndSpec)

/-- ITS FALSE NEIGHBOUR: 'it returns false'. Refute it at one input. -/
def fnExactLinkEndWrong : ChangeSpec := { name := "fnExactLinkEnd", fn := fun _ => fun
  | [d1, d2] => { results := [.lit (.bool false)], args := [d1, d2] }
  | _ => none }
def FnExactLinkEndWrongFalsely : Prop := fnExactLinkEndRow.holds Try.pinned (OpenSpec.ofChange fnExactLinkEndWrong)

/-- 'laws.FnNewStream': WHATEVER THE INPUT: true; the input reads as it did. -/
def fnNewStreamSpec : ChangeSpec := { name := "fnNewStream", fn := fun _ => fun
  | [d] => { results := [.lit (.bool true)], args := [d] }
  | _ => none }
def fnNewStreamRow : OpenClaim := { program := "ytnbodfakblbmbaa", sum := "1b9ad1512285ccb7e2d0ff37bf65bb3834e8c3dcc10e1b362df08c6deb4245fc", func := "loop.example/g00122/laws.FnNewStream", spec := "fnNewStream", plainKeys := false, apart := false }
def FnNewStreamSaid : Prop := fnNewStreamRow.holds Try.pinned (OpenSpec.ofChange fnNewStreamSpec)

/-- ITS FALSE NEIGHBOUR: 'it returns false'. Refute it at one input. -/
def fnNewStreamWrong : ChangeSpec := { name := "fnNewStream", fn := fun _ => fun
  | [d] => { results := [.lit (.bool false)], args := [d] }
  | _ => none }
def FnNewStreamWrongFalsely : Prop := fnNewStreamRow.holds Try.pinned (OpenSpec.ofChange fnNewStreamWrong)

/-- 'laws.FnTakes': WHATEVER THE INPUT: true; the input reads as it did. -/
def fnTakesSpec : ChangeSpec := { name := "fnTakes", fn := fun _ => fun
  | [d] => { results := [.lit (.bool true)], args := [d] }
  | _ => none }
def fnTakesRow : OpenClaim := { program := "ytnbodfakblbmbaa", sum := "1b9ad1512285ccb7e2d0ff37bf65bb3834e8c3dcc10e1b362df08c6deb4245fc", func := "loop.example/g00122/laws.FnTakes", spec := "fnTakes", plainKeys := false, apart := false }
def FnTakesSaid : Prop := fnTakesRow.holds Try.pinned (OpenSpec.ofChange fnTakesSpec)

/-- ITS FALSE NEIGHBOUR: 'it returns false'. Refute it at one input. -/
def fnTakesWrong : ChangeSpec := { name := "fnTakes", fn := fun _ => fun
  | [d] => { results := [.lit (.bool false)], args := [d] }
  | _ => none }
def FnTakesWrongFalsely : Prop := fnTakesRow.holds Try.pinned (OpenSpec.ofChange fnTakesWrong)

/-- 'laws.FnTurned': WHATEVER THE INPUT: true; the input reads as it did. -/
def fnTurnedSpec : ChangeSpec := { name := "fnTurned", fn := fun _ => fun
  | [d] => { results := [.lit (.bool true)], args := [d] }
  | _ => none }
def fnTurnedRow : OpenClaim := { program := "ytnbodfakblbmbaa", sum := "1b9ad1512285ccb7e2d0ff37bf65bb3834e8c3dcc10e1b362df08c6deb4245fc", func := "loop.example/g00122/laws.FnTurned", spec := "fnTurned", plainKeys := false, apart := false }
def FnTurnedSaid : Prop := fnTurnedRow.holds Try.pinned (OpenSpec.ofChange fnTurnedSpec)

/-- ITS FALSE NEIGHBOUR: 'it returns false'. Refute it at one input. -/
def fnTurnedWrong : ChangeSpec := { name := "fnTurned", fn := fun _ => fun
  | [d] => { results := [.lit (.bool false)], args := [d] }
  | _ => none }
def FnTurnedWrongFalsely : Prop := fnTurnedRow.holds Try.pinned (OpenSpec.ofChange fnTurnedWrong)

/-- 'laws.FnExactStreamNew': WHATEVER THE INPUT: true; the input reads as it did. -/
def fnExactStreamNewSpec : ChangeSpec := { name := "fnExactStreamNew", fn := fun _ => fun
  | [d1, d2, d3] => { results := [.lit (.bool true)], args := [d1, d2, d3] }
  | _ => none }
def fnExactStreamNewRow : OpenClaim := { program := "ytnbodfakblbmbaa", sum := "1b9ad1512285ccb7e2d0ff37bf65bb3834e8c3dcc10e1b362df08c6deb4245fc", func := "loop.example/g00122/laws.FnExactStreamNew", spec := "fnExactStreamNew", plainKeys := false, apart := false }
def FnExactStreamNewSaid : Prop := fnExactStreamNewRow.holds Try.pinned (OpenSpec.ofChange fnExactStreamNewSpec)

/-- ITS FALSE NEIGHBOUR: 'it returns false'. Refute it at one input. -/
def fnExactStreamNewWrong : ChangeSpec := { name := "fnExactStreamNew", fn := fun _ => fun
  | [d1, d2, d3] => { results := [.lit (.bool false)], args := [d1, d2, d3] }
  | _ => none }
def FnExactStreamNewWrongFalsely : Prop := fnExactStreamNewRow.holds Try.pinned (OpenSpec.ofChange fnExactStreamNewWrong)

/-- 'laws.FnEnded': WHATEVER THE INPUT: true; the input reads as it did. -/
def fnEndedSpec : ChangeSpec := { name := "fnEnded", fn := fun _ => fun
  | [d] => { results := [.lit (.bool true)], args := [d] }
  | _ => none }
def fnEndedRow : OpenClaim := { program := "ytnbodfakblbmbaa", sum := "1b9ad1512285ccb7e2d0ff37bf65bb3834e8c3dcc10e1b362df08c6deb4245fc", func := "loop.example/g00122/laws.FnEnded", spec := "fnEnded", plainKeys := false, apart := false }
def FnEndedSaid : Prop := fnEndedRow.holds Try.pinned (OpenSpec.ofChange fnEndedSpec)

/-- ITS FALSE NEIGHBOUR: 'it returns false'. Refute it at one input. -/
def fnEndedWrong : ChangeSpec := { name := "fnEnded", fn := fun _ => fun
  | [d] => { results := [.lit (.bool false)], args := [d] }
  | _ => none }
def FnEndedWrongFalsely : Prop := fnEndedRow.holds Try.pinned (OpenSpec.ofChange fnEndedWrong)

/-- 'laws.FnExactWorldNew': WHATEVER THE INPUT: true; the input reads as it did. -/
def fnExactWorldNewSpec : ChangeSpec := { name := "fnExactWorldNew", fn := fun _ => fun
  | [] => { results := [.lit (.bool true)], args := [] }
  | _ => none }
def fnExactWorldNewRow : OpenClaim := { program := "ytnbodfakblbmbaa", sum := "1b9ad1512285ccb7e2d0ff37bf65bb3834e8c3dcc10e1b362df08c6deb4245fc", func := "loop.example/g00122/laws.FnExactWorldNew", spec := "fnExactWorldNew", plainKeys := false, apart := false }
def FnExactWorldNewSaid : Prop := fnExactWorldNewRow.holds Try.pinned (OpenSpec.ofChange fnExactWorldNewSpec)

/-- ITS FALSE NEIGHBOUR: 'it returns false'. Refute it at one input. -/
def fnExactWorldNewWrong : ChangeSpec := { name := "fnExactWorldNew", fn := fun _ => fun
  | [] => { results := [.lit (.bool false)], args := [] }
  | _ => none }
def FnExactWorldNewWrongFalsely : Prop := fnExactWorldNewRow.holds Try.pinned (OpenSpec.ofChange fnExactWorldNewWrong)

/- THE SECOND FORM. 'bulk': how many values and letters a reading holds, each counted each time it is reached (what is shared counts as often as it is met; a slice's spare places count too). A statement '..UptoSaid' is the law's where the arguments, and the package variables that the reading takes, are together of bulk at most 1048576: NARROWER than '..Said'. Prove '..Said' where nothing that the law and all that it calls make is longer than what came in: it says more and counts as full. Else prove '..UptoSaid'. A law counts once. -/
mutual
def uptoBulk {H : Type} : DataW H → Nat
  | .lit (.string bytes) => bytes.length + 1
  | .lit _ => 1
  | .nil => 1
  | .ptr d => uptoBulk d + 1
  | .slice elems spare => uptoBulkAll elems + uptoBulkAll spare + 1
  | .agg parts => uptoBulkAll parts + 1
  | .iface _ d => uptoBulk d + 1
  | .map entries => uptoBulkEntries entries + 1
  | .held _ => 1
def uptoBulkAll {H : Type} : List (DataW H) → Nat
  | [] => 0
  | d :: r => uptoBulk d + uptoBulkAll r
def uptoBulkEntries {H : Type} : List (Lit × DataW H) → Nat
  | [] => 0
  | x :: r => uptoBulkEntry x + uptoBulkEntries r
def uptoBulkEntry {H : Type} : Lit × DataW H → Nat
  | (.string bytes, d) => bytes.length + uptoBulk d + 1
  | (_, d) => uptoBulk d + 1
 end
def uptoSmall : (H : Type) → List (DataW H) → Bool := fun _ ds => decide (uptoBulkAll ds ≤ 1048576)
def OpenSpec.upto (s : _root_.Go.ChangeSpec) : _root_.Go.OpenSpec := { _root_.Go.OpenSpec.ofChange s with cond := some uptoSmall }

/-- 'laws.FnExactLinkTake', WHERE WHAT IT READS IS OF BULK AT MOST 1048576: true; the input reads as it did. -/
def fnExactLinkTakeUptoRow : OpenClaim := { program := "ytnbodfakblbmbaa", sum := "1b9ad1512285ccb7e2d0ff37bf65bb3834e8c3dcc10e1b362df08c6deb4245fc", func := "loop.example/g00122/laws.FnExactLinkTake", spec := "fnExactLinkTake", plainKeys := false, apart := false, narrowed := true }
def FnExactLinkTakeUptoSaid : Prop := fnExactLinkTakeUptoRow.holds Try.pinned (OpenSpec.upto fnExactLinkTakeSpec)

/-- 'laws.FnExactStreamOk', WHERE WHAT IT READS IS OF BULK AT MOST 1048576: true; the input reads as it did. -/
def fnExactStreamOkUptoRow : OpenClaim := { program := "ytnbodfakblbmbaa", sum := "1b9ad1512285ccb7e2d0ff37bf65bb3834e8c3dcc10e1b362df08c6deb4245fc", func := "loop.example/g00122/laws.FnExactStreamOk", spec := "fnExactStreamOk", plainKeys := false, apart := false, narrowed := true }
def FnExactStreamOkUptoSaid : Prop := fnExactStreamOkUptoRow.holds Try.pinned (OpenSpec.upto fnExactStreamOkSpec)

/-- 'laws.FnExactLinkTurn', WHERE WHAT IT READS IS OF BULK AT MOST 1048576: true; the input reads as it did. -/
def fnExactLinkTurnUptoRow : OpenClaim := { program := "ytnbodfakblbmbaa", sum := "1b9ad1512285ccb7e2d0ff37bf65bb3834e8c3dcc10e1b362df08c6deb4245fc", func := "loop.example/g00122/laws.FnExactLinkTurn", spec := "fnExactLinkTurn", plainKeys := false, apart := false, narrowed := true }
def FnExactLinkTurnUptoSaid : Prop := fnExactLinkTurnUptoRow.holds Try.pinned (OpenSpec.upto fnExactLinkTurnSpec)

/-- 'laws.FnExactLinkSend', WHERE WHAT IT READS IS OF BULK AT MOST 1048576: true; the input reads as it did. -/
def fnExactLinkSendUptoRow : OpenClaim := { program := "ytnbodfakblbmbaa", sum := "1b9ad1512285ccb7e2d0ff37bf65bb3834e8c3dcc10e1b362df08c6deb4245fc", func := "loop.example/g00122/laws.FnExactLinkSend", spec := "fnExactLinkSend", plainKeys := false, apart := false, narrowed := true }
def FnExactLinkSendUptoSaid : Prop := fnExactLinkSendUptoRow.holds Try.pinned (OpenSpec.upto fnExactLinkSendSpec)

/-- 'laws.FnLink', WHERE WHAT IT READS IS OF BULK AT MOST 1048576: true; the input reads as it did. -/
def fnLinkUptoRow : OpenClaim := { program := "ytnbodfakblbmbaa", sum := "1b9ad1512285ccb7e2d0ff37bf65bb3834e8c3dcc10e1b362df08c6deb4245fc", func := "loop.example/g00122/laws.FnLink", spec := "fnLink", plainKeys := false, apart := false, narrowed := true }
def FnLinkUptoSaid : Prop := fnLinkUptoRow.holds Try.pinned (OpenSpec.upto fnLinkSpec)

/-- 'laws.FnExactLinkEnd', WHERE WHAT IT READS IS OF BULK AT MOST 1048576: true; the input reads as it did. -/
def fnExactLinkEndUptoRow : OpenClaim := { program := "ytnbodfakblbmbaa", sum := "1b9ad1512285ccb7e2d0ff37bf65bb3834e8c3dcc10e1b362df08c6deb4245fc", func := "loop.example/g00122/laws.FnExactLinkEnd", spec := "fnExactLinkEnd", plainKeys := false, apart := false, narrowed := true }
def FnExactLinkEndUptoSaid : Prop := fnExactLinkEndUptoRow.holds Try.pinned (OpenSpec.upto fnExactLinkEndSpec)

/-- 'laws.FnNewStream', WHERE WHAT IT READS IS OF BULK AT MOST 1048576: true; the input reads as it did. -/
def fnNewStreamUptoRow : OpenClaim := { program := "ytnbodfakblbmbaa", sum := "1b9ad1512285ccb7e2d0ff37bf65bb3834e8c3dcc10e1b362df08c6deb4245fc", func := "loop.example/g00122/laws.FnNewStream", spec := "fnNewStream", plainKeys := false, apart := false, narrowed := true }
def FnNewStreamUptoSaid : Prop := fnNewStreamUptoRow.holds Try.pinned (OpenSpec.upto fnNewStreamSpec)

/-- 'laws.FnTakes', WHERE WHAT IT READS IS OF BULK AT MOST 1048576: true; the input reads as it did. -/
def fnTakesUptoRow : OpenClaim := { program := "ytnbodfakblbmbaa", sum := "1b9ad1512285ccb7e2d0ff37bf65bb3834e8c3dcc10e1b362df08c6deb4245fc", func := "loop.example/g00122/laws.FnTakes", spec := "fnTakes", plainKeys := false, apart := false, narrowed := true }
def FnTakesUptoSaid : Prop := fnTakesUptoRow.holds Try.pinned (OpenSpec.upto fnTakesSpec)

/-- 'laws.FnTurned', WHERE WHAT IT READS IS OF BULK AT MOST 1048576: true; the input reads as it did. -/
def fnTurnedUptoRow : OpenClaim := { program := "ytnbodfakblbmbaa", sum := "1b9ad1512285ccb7e2d0ff37bf65bb3834e8c3dcc10e1b362df08c6deb4245fc", func := "loop.example/g00122/laws.FnTurned", spec := "fnTurned", plainKeys := false, apart := false, narrowed := true }
def FnTurnedUptoSaid : Prop := fnTurnedUptoRow.holds Try.pinned (OpenSpec.upto fnTurnedSpec)

/-- 'laws.FnExactStreamNew', WHERE WHAT IT READS IS OF BULK AT MOST 1048576: true; the input reads as it did. -/
def fnExactStreamNewUptoRow : OpenClaim := { program := "ytnbodfakblbmbaa", sum := "1b9ad1512285ccb7e2d0ff37bf65bb3834e8c3dcc10e1b362df08c6deb4245fc", func := "loop.example/g00122/laws.FnExactStreamNew", spec := "fnExactStreamNew", plainKeys := false, apart := false, narrowed := true }
def FnExactStreamNewUptoSaid : Prop := fnExactStreamNewUptoRow.holds Try.pinned (OpenSpec.upto fnExactStreamNewSpec)

/-- 'laws.FnEnded', WHERE WHAT IT READS IS OF BULK AT MOST 1048576: true; the input reads as it did. -/
def fnEndedUptoRow : OpenClaim := { program := "ytnbodfakblbmbaa", sum := "1b9ad1512285ccb7e2d0ff37bf65bb3834e8c3dcc10e1b362df08c6deb4245fc", func := "loop.example/g00122/laws.FnEnded", spec := "fnEnded", plainKeys := false, apart := false, narrowed := true }
def FnEndedUptoSaid : Prop := fnEndedUptoRow.holds Try.pinned (OpenSpec.upto fnEndedSpec)

/-- 'laws.FnExactWorldNew', WHERE WHAT IT READS IS OF BULK AT MOST 1048576: true; the input reads as it did. -/
def fnExactWorldNewUptoRow : OpenClaim := { program := "ytnbodfakblbmbaa", sum := "1b9ad1512285ccb7e2d0ff37bf65bb3834e8c3dcc10e1b362df08c6deb4245fc", func := "loop.example/g00122/laws.FnExactWorldNew", spec := "fnExactWorldNew", plainKeys := false, apart := false, narrowed := true }
def FnExactWorldNewUptoSaid : Prop := fnExactWorldNewUptoRow.holds Try.pinned (OpenSpec.upto fnExactWorldNewSpec)

end Rows
end Go.Proofs.Ytnbodfakblbmbaa
