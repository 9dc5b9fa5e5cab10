/-
  No cell of these rows narrows 'for every input' (looked for: loops, veiled, ifaces, maps, wideKeys, modest, calm, conditions, laid).
  DERIVED. THE GIVEN ROWS OF THIS SEAT. 6 by the template 'for every input the law returns true; each argument reads behind the call as it read before'; 0 by the template 'total and deterministic' (their statements: YtofmobmmoideiaaTotals.lean).
  GIVEN WITH THE SEED: the statements are not yours to turn. If you find one false, say at which input.
  Laid BY PROGRAM, IN A SANDBOX (cutbox-rows.mjs): the forced cells as the released guide's own fill.sh prints them over the translation 86205ad89958b1d3… (all of the seat's roots in one cut). By AI agents, Wed Nov 11 2026. No macro, syntax, notation, axiom, sorry.
-/
import Derived.Test.YtofmobmmoideiaaChecked
import GoSem.Claim
import GoSem.ClaimJoined
import GoSem.ClaimMapViews
import Derived.JoinedTies
import Derived.KernelRfl
namespace Go.Proofs.Ytofmobmmoideiaa
/- THE CELL 'sum', in the pinned program and in every row, IS THE sha256 OF THE DUMP (.gsa) THAT YtofmobmmoideiaaProg.lean LOADS. Nothing in Lean hashes anything: it is a label: what it is worth is what the hold of that sum in a sandbox is worth. -/
noncomputable def Try.pinned : Pinned := { name := "ytofmobmmoideiaa", sum := "86205ad89958b1d3f7b8ba6a7c00579a713e63e4c6b57c7a507d2bdd9879206d", checked := Try.checked }
namespace Rows
def none {H : Type} : Left H := { results := [], args := [] }

/-- 'laws.FnExactRoleText': WHATEVER THE INPUT: true; the input reads as it did. -/
def fnExactRoleTextSpec : ChangeSpec := { name := "fnExactRoleText", fn := fun _ => fun
  | [d1, d2] => { results := [.lit (.bool true)], args := [d1, d2] }
  | _ => none }
def fnExactRoleTextRow : OpenClaim := { program := "ytofmobmmoideiaa", sum := "86205ad89958b1d3f7b8ba6a7c00579a713e63e4c6b57c7a507d2bdd9879206d", func := "loop.example/g00122/laws.FnExactRoleText", spec := "fnExactRoleText", plainKeys := false, apart := false }
def FnExactRoleTextSaid : Prop := fnExactRoleTextRow.holds Try.pinned (OpenSpec.ofChange fnExactRoleTextSpec)

/-- ITS FALSE NEIGHBOUR: 'it returns false'. Refute it at one input. -/
def fnExactRoleTextWrong : ChangeSpec := { name := "fnExactRoleText", fn := fun _ => fun
  | [d1, d2] => { results := [.lit (.bool false)], args := [d1, d2] }
  | _ => none }
def FnExactRoleTextWrongFalsely : Prop := fnExactRoleTextRow.holds Try.pinned (OpenSpec.ofChange fnExactRoleTextWrong)

/-- 'laws.FnExactEnvNew': WHATEVER THE INPUT: true; the input reads as it did. -/
def fnExactEnvNewSpec : ChangeSpec := { name := "fnExactEnvNew", fn := fun _ => fun
  | [] => { results := [.lit (.bool true)], args := [] }
  | _ => none }
def fnExactEnvNewRow : OpenClaim := { program := "ytofmobmmoideiaa", sum := "86205ad89958b1d3f7b8ba6a7c00579a713e63e4c6b57c7a507d2bdd9879206d", func := "loop.example/g00122/laws.FnExactEnvNew", spec := "fnExactEnvNew", plainKeys := false, apart := false }
def FnExactEnvNewSaid : Prop := fnExactEnvNewRow.holds Try.pinned (OpenSpec.ofChange fnExactEnvNewSpec)

/-- ITS FALSE NEIGHBOUR: 'it returns false'. Refute it at one input. -/
def fnExactEnvNewWrong : ChangeSpec := { name := "fnExactEnvNew", fn := fun _ => fun
  | [] => { results := [.lit (.bool false)], args := [] }
  | _ => none }
def FnExactEnvNewWrongFalsely : Prop := fnExactEnvNewRow.holds Try.pinned (OpenSpec.ofChange fnExactEnvNewWrong)

/-- 'laws.FnExactLinkOk': WHATEVER THE INPUT: true; the input reads as it did. -/
def fnExactLinkOkSpec : ChangeSpec := { name := "fnExactLinkOk", fn := fun _ => fun
  | [d1, d2] => { results := [.lit (.bool true)], args := [d1, d2] }
  | _ => none }
def fnExactLinkOkRow : OpenClaim := { program := "ytofmobmmoideiaa", sum := "86205ad89958b1d3f7b8ba6a7c00579a713e63e4c6b57c7a507d2bdd9879206d", func := "loop.example/g00122/laws.FnExactLinkOk", spec := "fnExactLinkOk", plainKeys := false, apart := false }
def FnExactLinkOkSaid : Prop := fnExactLinkOkRow.holds Try.pinned (OpenSpec.ofChange fnExactLinkOkSpec)

/-- ITS FALSE NEIGHBOUR: 'it returns false'. Refute it at one input. -/
def fnExactLinkOkWrong : ChangeSpec := { name := "fnExactLinkOk", fn := fun _ => fun
  | [d1, d2] => { results := [.lit (.bool false)], args := [d1, d2] }
  | _ => none }
def FnExactLinkOkWrongFalsely : Prop := fnExactLinkOkRow.holds Try.pinned (OpenSpec.ofChange fnExactLinkOkWrong)

/-- 'laws.FnExactLinkNew': WHATEVER THE INPUT: true; the input reads as it did. -/
def fnExactLinkNewSpec : ChangeSpec := { name := "fnExactLinkNew", fn := fun _ => fun
  | [d1, d2] => { results := [.lit (.bool true)], args := [d1, d2] }
  | _ => none }
def fnExactLinkNewRow : OpenClaim := { program := "ytofmobmmoideiaa", sum := "86205ad89958b1d3f7b8ba6a7c00579a713e63e4c6b57c7a507d2bdd9879206d", func := "loop.example/g00122/laws.FnExactLinkNew", spec := "fnExactLinkNew", plainKeys := false, apart := false }
def FnExactLinkNewSaid : Prop := fnExactLinkNewRow.holds Try.pinned (OpenSpec.ofChange fnExactLinkNewSpec)

/-- ITS FALSE NEIGHBOUR: 'it returns false'. Refute it at one input. -/
def fnExactLinkNewWrong : ChangeSpec := { name := "fnExactLinkNew", fn := fun _ => fun
  | [d1, d2] => { results := [.lit (.bool false)], args := [d1, d2] }
  | _ => none }
def FnExactLinkNewWrongFalsely : Prop := fnExactLinkNewRow.holds Try.pinned (OpenSpec.ofChange fnExactLinkNewWrong)

/-- 'laws.FnExactEnvOk': WHATEVER THE INPUT: true; the input reads as it did. -/
def fnExactEnvOkSpec : ChangeSpec := { name := "fnExactEnvOk", fn := fun _ => fun
  | [d1, d2] => { results := [.lit (.bool true)], args := [d1, d2] }
  | _ => none }
def fnExactEnvOkRow : OpenClaim := { program := "ytofmobmmoideiaa", sum := "86205ad89958b1d3f7b8ba6a7c00579a713e63e4c6b57c7a507d2bdd9879206d", func := "loop.example/g00122/laws.FnExactEnvOk", spec := "fnExactEnvOk", plainKeys := false, apart := false }
def FnExactEnvOkSaid : Prop := fnExactEnvOkRow.holds Try.pinned (OpenSpec.ofChange fnExactEnvOkSpec)

/-- ITS FALSE NEIGHBOUR: 'it returns false'. Refute it at one input. -/
def fnExactEnvOkWrong : ChangeSpec := { name := "fnExactEnvOk", fn := fun _ => fun
  | [d1, d2] => { results := [.lit (.bool false)], args := [d1, d2] }
  | _ => none }
def FnExactEnvOkWrongFalsely : Prop := fnExactEnvOkRow.holds Try.pinned (OpenSpec.ofChange fnExactEnvOkWrong)

/-- 'laws.FnExactStepNeeds': WHATEVER THE INPUT: true; the input reads as it did. -/
def fnExactStepNeedsSpec : ChangeSpec := { name := "fnExactStepNeeds", fn := fun _ => fun
  | [d1, d2] => { results := [.lit (.bool true)], args := [d1, d2] }
  | _ => none }
def fnExactStepNeedsRow : OpenClaim := { program := "ytofmobmmoideiaa", sum := "86205ad89958b1d3f7b8ba6a7c00579a713e63e4c6b57c7a507d2bdd9879206d", func := "loop.example/g00122/laws.FnExactStepNeeds", spec := "fnExactStepNeeds", plainKeys := false, apart := false }
def FnExactStepNeedsSaid : Prop := fnExactStepNeedsRow.holds Try.pinned (OpenSpec.ofChange fnExactStepNeedsSpec)

/-- ITS FALSE NEIGHBOUR: 'it returns false'. Refute it at one input. -/
def fnExactStepNeedsWrong : ChangeSpec := { name := "fnExactStepNeeds", fn := fun _ => fun
  | [d1, d2] => { results := [.lit (.bool false)], args := [d1, d2] }
  | _ => none }
def FnExactStepNeedsWrongFalsely : Prop := fnExactStepNeedsRow.holds Try.pinned (OpenSpec.ofChange fnExactStepNeedsWrong)

/- THE SECOND FORM. 'bulk': how many values and letters a reading holds, each counted each time it is reached (what is shared counts as often as it is met; a slice's spare places count too). A statement '..UptoSaid' is the law's where the arguments, and the package variables that the reading takes, are together of bulk at most 1048576: NARROWER than '..Said'. Prove '..Said' where nothing that the law and all that it calls make is longer than what came in: it says more and counts as full. Else prove '..UptoSaid'. A law counts once. -/
mutual
def uptoBulk {H : Type} : DataW H → Nat
  | .lit (.string bytes) => bytes.length + 1
  | .lit _ => 1
  | .nil => 1
  | .ptr d => uptoBulk d + 1
  | .slice elems spare => uptoBulkAll elems + uptoBulkAll spare + 1
  | .agg parts => uptoBulkAll parts + 1
  | .iface _ d => uptoBulk d + 1
  | .map entries => uptoBulkEntries entries + 1
  | .held _ => 1
def uptoBulkAll {H : Type} : List (DataW H) → Nat
  | [] => 0
  | d :: r => uptoBulk d + uptoBulkAll r
def uptoBulkEntries {H : Type} : List (Lit × DataW H) → Nat
  | [] => 0
  | x :: r => uptoBulkEntry x + uptoBulkEntries r
def uptoBulkEntry {H : Type} : Lit × DataW H → Nat
  | (.string bytes, d) => bytes.length + uptoBulk d + 1
  | (_, d) => uptoBulk d + 1
 end
def uptoSmall : (H : Type) → List (DataW H) → Bool := fun _ ds => decide (uptoBulkAll ds ≤ 1048576)
def OpenSpec.upto (s : _root_.Go.ChangeSpec) : _root_.Go.OpenSpec := { _root_.Go.OpenSpec.ofChange s with cond := some uptoSmall }

/-- 'laws.FnExactRoleText', WHERE WHAT IT READS IS OF BULK AT MOST 1048576: true; the input reads as it did. -/
def fnExactRoleTextUptoRow : OpenClaim := { program := "ytofmobmmoideiaa", sum := "86205ad89958b1d3f7b8ba6a7c00579a713e63e4c6b57c7a507d2bdd9879206d", func := "loop.example/g00122/laws.FnExactRoleText", spec := "fnExactRoleText", plainKeys := false, apart := false, narrowed := true }
def FnExactRoleTextUptoSaid : Prop := fnExactRoleTextUptoRow.holds Try.pinned (OpenSpec.upto fnExactRoleTextSpec)

/-- 'laws.FnExactEnvNew', WHERE WHAT IT READS IS OF BULK AT MOST 1048576: true; the input reads as it did. -/
def fnExactEnvNewUptoRow : OpenClaim := { program := "ytofmobmmoideiaa", sum := "86205ad89958b1d3f7b8ba6a7c00579a713e63e4c6b57c7a507d2bdd9879206d", func := "loop.example/g00122/laws.FnExactEnvNew", spec := "fnExactEnvNew", plainKeys := false, apart := false, narrowed := true }
def FnExactEnvNewUptoSaid : Prop := fnExactEnvNewUptoRow.holds Try.pinned (OpenSpec.upto fnExactEnvNewSpec)

/-- 'laws.FnExactLinkOk', WHERE WHAT IT READS IS OF BULK AT MOST 1048576: true; the input reads as it did. -/
def fnExactLinkOkUptoRow : OpenClaim := { program := "ytofmobmmoideiaa", sum := "86205ad89958b1d3f7b8ba6a7c00579a713e63e4c6b57c7a507d2bdd9879206d", func := "loop.example/g00122/laws.FnExactLinkOk", spec := "fnExactLinkOk", plainKeys := false, apart := false, narrowed := true }
def FnExactLinkOkUptoSaid : Prop := fnExactLinkOkUptoRow.holds Try.pinned (OpenSpec.upto fnExactLinkOkSpec)

/-- 'laws.FnExactLinkNew', WHERE WHAT IT READS IS OF BULK AT MOST 1048576: true; the input reads as it did. -/
def fnExactLinkNewUptoRow : OpenClaim := { program := "ytofmobmmoideiaa", sum := "86205ad89958b1d3f7b8ba6a7c00579a713e63e4c6b57c7a507d2bdd9879206d", func := "loop.example/g00122/laws.FnExactLinkNew", spec := "fnExactLinkNew", plainKeys := false, apart := false, narrowed := true }
def FnExactLinkNewUptoSaid : Prop := fnExactLinkNewUptoRow.holds Try.pinned (OpenSpec.upto fnExactLinkNewSpec)

/-- 'laws.FnExactEnvOk', WHERE WHAT IT READS IS OF BULK AT MOST 1048576: true; the input reads as it did. -/
def fnExactEnvOkUptoRow : OpenClaim := { program := "ytofmobmmoideiaa", sum := "86205ad89958b1d3f7b8ba6a7c00579a713e63e4c6b57c7a507d2bdd9879206d", func := "loop.example/g00122/laws.FnExactEnvOk", spec := "fnExactEnvOk", plainKeys := false, apart := false, narrowed := true }
def FnExactEnvOkUptoSaid : Prop := fnExactEnvOkUptoRow.holds Try.pinned (OpenSpec.upto fnExactEnvOkSpec)

/-- 'laws.FnExactStepNeeds', WHERE WHAT IT READS IS OF BULK AT MOST 1048576: true; the input reads as it did. -/
def fnExactStepNeedsUptoRow : OpenClaim := { program := "ytofmobmmoideiaa", sum := "86205ad89958b1d3f7b8ba6a7c00579a713e63e4c6b57c7a507d2bdd9879206d", func := "loop.example/g00122/laws.FnExactStepNeeds", spec := "fnExactStepNeeds", plainKeys := false, apart := false, narrowed := true }
def FnExactStepNeedsUptoSaid : Prop := fnExactStepNeedsUptoRow.holds Try.pinned (OpenSpec.upto fnExactStepNeedsSpec)

end Rows
end Go.Proofs.Ytofmobmmoideiaa
