/-
  No cell of these rows narrows 'for every input' (looked for: loops, veiled, ifaces, maps, wideKeys, modest, calm, conditions, laid).
  DERIVED. THE GIVEN ROWS OF THIS SEAT. 6 by the template 'for every input the law returns true; each argument reads behind the call as it read before'; 0 by the template 'total and deterministic' (their statements: YtcfgiffgahdlbaaTotals.lean).
  GIVEN WITH THE SEED: the statements are not yours to turn. If you find one false, say at which input.
  Laid BY PROGRAM, IN A SANDBOX (cutbox-rows.mjs): the forced cells as the released guide's own fill.sh prints them over the translation 5b7521879e7c94bb… (all of the seat's roots in one cut). By AI agents, Wed Nov 11 2026. No macro, syntax, notation, axiom, sorry.
-/
import Derived.Test.YtcfgiffgahdlbaaChecked
import GoSem.Claim
import GoSem.ClaimJoined
import GoSem.ClaimMapViews
import Derived.JoinedTies
import Derived.KernelRfl
namespace Go.Proofs.Ytcfgiffgahdlbaa
/- THE CELL 'sum', in the pinned program and in every row, IS THE sha256 OF THE DUMP (.gsa) THAT YtcfgiffgahdlbaaProg.lean LOADS. Nothing in Lean hashes anything: it is a label: what it is worth is what the hold of that sum in a sandbox is worth. -/
noncomputable def Try.pinned : Pinned := { name := "ytcfgiffgahdlbaa", sum := "5b7521879e7c94bb378851d12bdeedfbd8e02d4ed0467956425d08a797bc6128", checked := Try.checked }
namespace Rows
def none {H : Type} : Left H := { results := [], args := [] }

/-- 'laws.FnExactProofTrim': WHATEVER THE INPUT: true; the input reads as it did. -/
def fnExactProofTrimSpec : ChangeSpec := { name := "fnExactProofTrim", fn := fun _ => fun
  | [d1, d2] => { results := [.lit (.bool true)], args := [d1, d2] }
  | _ => none }
def fnExactProofTrimRow : OpenClaim := { program := "ytcfgiffgahdlbaa", sum := "5b7521879e7c94bb378851d12bdeedfbd8e02d4ed0467956425d08a797bc6128", func := "loop.example/g00122/laws.FnExactProofTrim", spec := "fnExactProofTrim", plainKeys := false, apart := false }
def FnExactProofTrimSaid : Prop := fnExactProofTrimRow.holds Try.pinned (OpenSpec.ofChange fnExactProofTrimSpec)

/-- ITS FALSE NEIGHBOUR: 'it returns false'. Refute it at one input. -/
def fnExactProofTrimWrong : ChangeSpec := { name := "fnExactProofTrim", fn := fun _ => fun
  | [d1, d2] => { results := [.lit (.bool false)], args := [d1, d2] }
  | _ => none }
def FnExactProofTrimWrongFalsely : Prop := fnExactProofTrimRow.holds Try.pinned (OpenSpec.ofChange fnExactProofTrimWrong)

/-- 'laws.FnExactProofCheck': WHATEVER THE INPUT: true; the input reads as it did. -/
def fnExactProofCheckSpec : ChangeSpec := { name := "fnExactProofCheck", fn := fun _ => fun
  | [d1, d2, d3, d4] => { results := [.lit (.bool true)], args := [d1, d2, d3, d4] }
  | _ => none }
def fnExactProofCheckRow : OpenClaim := { program := "ytcfgiffgahdlbaa", sum := "5b7521879e7c94bb378851d12bdeedfbd8e02d4ed0467956425d08a797bc6128", func := "loop.example/g00122/laws.FnExactProofCheck", spec := "fnExactProofCheck", plainKeys := false, apart := false }
def FnExactProofCheckSaid : Prop := fnExactProofCheckRow.holds Try.pinned (OpenSpec.ofChange fnExactProofCheckSpec)

/-- ITS FALSE NEIGHBOUR: 'it returns false'. Refute it at one input. -/
def fnExactProofCheckWrong : ChangeSpec := { name := "fnExactProofCheck", fn := fun _ => fun
  | [d1, d2, d3, d4] => { results := [.lit (.bool false)], args := [d1, d2, d3, d4] }
  | _ => none }
def FnExactProofCheckWrongFalsely : Prop := fnExactProofCheckRow.holds Try.pinned (OpenSpec.ofChange fnExactProofCheckWrong)

/-- 'laws.FnExactProofAll': WHATEVER THE INPUT: true; the input reads as it did. -/
def fnExactProofAllSpec : ChangeSpec := { name := "fnExactProofAll", fn := fun _ => fun
  | [d1, d2] => { results := [.lit (.bool true)], args := [d1, d2] }
  | _ => none }
def fnExactProofAllRow : OpenClaim := { program := "ytcfgiffgahdlbaa", sum := "5b7521879e7c94bb378851d12bdeedfbd8e02d4ed0467956425d08a797bc6128", func := "loop.example/g00122/laws.FnExactProofAll", spec := "fnExactProofAll", plainKeys := false, apart := false }
def FnExactProofAllSaid : Prop := fnExactProofAllRow.holds Try.pinned (OpenSpec.ofChange fnExactProofAllSpec)

/-- ITS FALSE NEIGHBOUR: 'it returns false'. Refute it at one input. -/
def fnExactProofAllWrong : ChangeSpec := { name := "fnExactProofAll", fn := fun _ => fun
  | [d1, d2] => { results := [.lit (.bool false)], args := [d1, d2] }
  | _ => none }
def FnExactProofAllWrongFalsely : Prop := fnExactProofAllRow.holds Try.pinned (OpenSpec.ofChange fnExactProofAllWrong)

/-- 'laws.FnExactProofOf': WHATEVER THE INPUT: true; the input reads as it did. -/
def fnExactProofOfSpec : ChangeSpec := { name := "fnExactProofOf", fn := fun _ => fun
  | [d1, d2, d3] => { results := [.lit (.bool true)], args := [d1, d2, d3] }
  | _ => none }
def fnExactProofOfRow : OpenClaim := { program := "ytcfgiffgahdlbaa", sum := "5b7521879e7c94bb378851d12bdeedfbd8e02d4ed0467956425d08a797bc6128", func := "loop.example/g00122/laws.FnExactProofOf", spec := "fnExactProofOf", unfollowed := true, recurses := true, plainKeys := false, apart := false }
def FnExactProofOfSaid : Prop := fnExactProofOfRow.holds Try.pinned (OpenSpec.ofChange fnExactProofOfSpec)

/-- ITS FALSE NEIGHBOUR: 'it returns false'. Refute it at one input. -/
def fnExactProofOfWrong : ChangeSpec := { name := "fnExactProofOf", fn := fun _ => fun
  | [d1, d2, d3] => { results := [.lit (.bool false)], args := [d1, d2, d3] }
  | _ => none }
def FnExactProofOfWrongFalsely : Prop := fnExactProofOfRow.holds Try.pinned (OpenSpec.ofChange fnExactProofOfWrong)

/-- 'laws.FnAllSteps': WHATEVER THE INPUT: true; the input reads as it did. -/
def fnAllStepsSpec : ChangeSpec := { name := "fnAllSteps", fn := fun _ => fun
  | [d] => { results := [.lit (.bool true)], args := [d] }
  | _ => none }
def fnAllStepsRow : OpenClaim := { program := "ytcfgiffgahdlbaa", sum := "5b7521879e7c94bb378851d12bdeedfbd8e02d4ed0467956425d08a797bc6128", func := "loop.example/g00122/laws.FnAllSteps", spec := "fnAllSteps", plainKeys := false, apart := false }
def FnAllStepsSaid : Prop := fnAllStepsRow.holds Try.pinned (OpenSpec.ofChange fnAllStepsSpec)

/-- ITS FALSE NEIGHBOUR: 'it returns false'. Refute it at one input. -/
def fnAllStepsWrong : ChangeSpec := { name := "fnAllSteps", fn := fun _ => fun
  | [d] => { results := [.lit (.bool false)], args := [d] }
  | _ => none }
def FnAllStepsWrongFalsely : Prop := fnAllStepsRow.holds Try.pinned (OpenSpec.ofChange fnAllStepsWrong)

/-- 'laws.FnTrimmed': WHATEVER THE INPUT: true; the input reads as it did. -/
def fnTrimmedSpec : ChangeSpec := { name := "fnTrimmed", fn := fun _ => fun
  | [d] => { results := [.lit (.bool true)], args := [d] }
  | _ => none }
def fnTrimmedRow : OpenClaim := { program := "ytcfgiffgahdlbaa", sum := "5b7521879e7c94bb378851d12bdeedfbd8e02d4ed0467956425d08a797bc6128", func := "loop.example/g00122/laws.FnTrimmed", spec := "fnTrimmed", plainKeys := false, apart := false }
def FnTrimmedSaid : Prop := fnTrimmedRow.holds Try.pinned (OpenSpec.ofChange fnTrimmedSpec)

/-- ITS FALSE NEIGHBOUR: 'it returns false'. Refute it at one input. -/
def fnTrimmedWrong : ChangeSpec := { name := "fnTrimmed", fn := fun _ => fun
  | [d] => { results := [.lit (.bool false)], args := [d] }
  | _ => none }
def FnTrimmedWrongFalsely : Prop := fnTrimmedRow.holds Try.pinned (OpenSpec.ofChange fnTrimmedWrong)

/- THE SECOND FORM. 'bulk': how many values and letters a reading holds, each counted each time it is reached (what is shared counts as often as it is met; a slice's spare places count too). A statement '..UptoSaid' is the law's where the arguments, and the package variables that the reading takes, are together of bulk at most 1048576: NARROWER than '..Said'. Prove '..Said' where nothing that the law and all that it calls make is longer than what came in: it says more and counts as full. Else prove '..UptoSaid'. A law counts once. -/
mutual
def uptoBulk {H : Type} : DataW H → Nat
  | .lit (.string bytes) => bytes.length + 1
  | .lit _ => 1
  | .nil => 1
  | .ptr d => uptoBulk d + 1
  | .slice elems spare => uptoBulkAll elems + uptoBulkAll spare + 1
  | .agg parts => uptoBulkAll parts + 1
  | .iface _ d => uptoBulk d + 1
  | .map entries => uptoBulkEntries entries + 1
  | .held _ => 1
def uptoBulkAll {H : Type} : List (DataW H) → Nat
  | [] => 0
  | d :: r => uptoBulk d + uptoBulkAll r
def uptoBulkEntries {H : Type} : List (Lit × DataW H) → Nat
  | [] => 0
  | x :: r => uptoBulkEntry x + uptoBulkEntries r
def uptoBulkEntry {H : Type} : Lit × DataW H → Nat
  | (.string bytes, d) => bytes.length + uptoBulk d + 1
  | (_, d) => uptoBulk d + 1
 end
def uptoSmall : (H : Type) → List (DataW H) → Bool := fun _ ds => decide (uptoBulkAll ds ≤ 1048576)
def OpenSpec.upto (s : _root_.Go.ChangeSpec) : _root_.Go.OpenSpec := { _root_.Go.OpenSpec.ofChange s with cond := some uptoSmall }

/-- 'laws.FnExactProofTrim', WHERE WHAT IT READS IS OF BULK AT MOST 1048576: true; the input reads as it did. -/
def fnExactProofTrimUptoRow : OpenClaim := { program := "ytcfgiffgahdlbaa", sum := "5b7521879e7c94bb378851d12bdeedfbd8e02d4ed0467956425d08a797bc6128", func := "loop.example/g00122/laws.FnExactProofTrim", spec := "fnExactProofTrim", plainKeys := false, apart := false, narrowed := true }
def FnExactProofTrimUptoSaid : Prop := fnExactProofTrimUptoRow.holds Try.pinned (OpenSpec.upto fnExactProofTrimSpec)

/-- 'laws.FnExactProofCheck', WHERE WHAT IT READS IS OF BULK AT MOST 1048576: true; the input reads as it did. -/
def fnExactProofCheckUptoRow : OpenClaim := { program := "ytcfgiffgahdlbaa", sum := "5b7521879e7c94bb378851d12bdeedfbd8e02d4ed0467956425d08a797bc6128", func := "loop.example/g00122/laws.FnExactProofCheck", spec := "fnExactProofCheck", plainKeys := false, apart := false, narrowed := true }
def FnExactProofCheckUptoSaid : Prop := fnExactProofCheckUptoRow.holds Try.pinned (OpenSpec.upto fnExactProofCheckSpec)

/-- 'laws.FnExactProofAll', WHERE WHAT IT READS IS OF BULK AT MOST 1048576: true; the input reads as it did. -/
def fnExactProofAllUptoRow : OpenClaim := { program := "ytcfgiffgahdlbaa", sum := "5b7521879e7c94bb378851d12bdeedfbd8e02d4ed0467956425d08a797bc6128", func := "loop.example/g00122/laws.FnExactProofAll", spec := "fnExactProofAll", plainKeys := false, apart := false, narrowed := true }
def FnExactProofAllUptoSaid : Prop := fnExactProofAllUptoRow.holds Try.pinned (OpenSpec.upto fnExactProofAllSpec)

/-- 'laws.FnExactProofOf', WHERE WHAT IT READS IS OF BULK AT MOST 1048576: true; the input reads as it did. -/
def fnExactProofOfUptoRow : OpenClaim := { program := "ytcfgiffgahdlbaa", sum := "5b7521879e7c94bb378851d12bdeedfbd8e02d4ed0467956425d08a797bc6128", func := "loop.example/g00122/laws.FnExactProofOf", spec := "fnExactProofOf", unfollowed := true, recurses := true, plainKeys := false, apart := false, narrowed := true }
def FnExactProofOfUptoSaid : Prop := fnExactProofOfUptoRow.holds Try.pinned (OpenSpec.upto fnExactProofOfSpec)

/-- 'laws.FnAllSteps', WHERE WHAT IT READS IS OF BULK AT MOST 1048576: true; the input reads as it did. -/
def fnAllStepsUptoRow : OpenClaim := { program := "ytcfgiffgahdlbaa", sum := "5b7521879e7c94bb378851d12bdeedfbd8e02d4ed0467956425d08a797bc6128", func := "loop.example/g00122/laws.FnAllSteps", spec := "fnAllSteps", plainKeys := false, apart := false, narrowed := true }
def FnAllStepsUptoSaid : Prop := fnAllStepsUptoRow.holds Try.pinned (OpenSpec.upto fnAllStepsSpec)

/-- 'laws.FnTrimmed', WHERE WHAT IT READS IS OF BULK AT MOST 1048576: true; the input reads as it did. -/
def fnTrimmedUptoRow : OpenClaim := { program := "ytcfgiffgahdlbaa", sum := "5b7521879e7c94bb378851d12bdeedfbd8e02d4ed0467956425d08a797bc6128", func := "loop.example/g00122/laws.FnTrimmed", spec := "fnTrimmed", plainKeys := false, apart := false, narrowed := true }
def FnTrimmedUptoSaid : Prop := fnTrimmedUptoRow.holds Try.pinned (OpenSpec.upto fnTrimmedSpec)

end Rows
end Go.Proofs.Ytcfgiffgahdlbaa
