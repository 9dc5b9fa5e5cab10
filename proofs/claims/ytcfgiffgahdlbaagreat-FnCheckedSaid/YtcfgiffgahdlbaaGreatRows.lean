/-
  No cell of these rows narrows 'for every input' (looked for: loops, veiled, ifaces, maps, wideKeys, modest, calm, conditions, laid).
  DERIVED. THE GIVEN ROWS OF THIS SEAT. 2 by the template 'for every input the law returns true; each argument reads behind the call as it read before'; 0 by the template 'total and deterministic' (their statements: YtcfgiffgahdlbaaGreatTotals.lean).
  GIVEN WITH THE SEED: the statements are not yours to turn. If you find one false, say at which input.
  Laid BY PROGRAM, IN A SANDBOX (cutbox-rows.mjs): the forced cells as the released guide's own fill.sh prints them over the translation 4b766d25c47ae51c… (all of the seat's roots in one cut). By AI agents, Wed Nov 11 2026. No macro, syntax, notation, axiom, sorry.
-/
import Derived.Test.YtcfgiffgahdlbaaGreatChecked
import GoSem.Claim
import GoSem.ClaimJoined
import GoSem.ClaimMapViews
import Derived.JoinedTies
import Derived.KernelRfl
namespace Go.Proofs.YtcfgiffgahdlbaaGreat
/- THE CELL 'sum', in the pinned program and in every row, IS THE sha256 OF THE DUMP (.gsa) THAT YtcfgiffgahdlbaaGreatProg.lean LOADS. Nothing in Lean hashes anything: it is a label: what it is worth is what the hold of that sum in a sandbox is worth. -/
noncomputable def Tryz.pinned : Pinned := { name := "ytcfgiffgahdlbaagreat", sum := "4b766d25c47ae51ca70af7c5d214130bff2bca570da328778e9a259551fca8ba", checked := Tryz.checked }
namespace Rows
def none {H : Type} : Left H := { results := [], args := [] }

/-- 'laws.FnProof': WHATEVER THE INPUT: true; the input reads as it did. -/
def fnProofSpec : ChangeSpec := { name := "fnProof", fn := fun _ => fun
  | [d] => { results := [.lit (.bool true)], args := [d] }
  | _ => none }
def fnProofRow : OpenClaim := { program := "ytcfgiffgahdlbaagreat", sum := "4b766d25c47ae51ca70af7c5d214130bff2bca570da328778e9a259551fca8ba", func := "loop.example/g00122/laws.FnProof", spec := "fnProof", unfollowed := true, recurses := true, plainKeys := false, apart := false }
def FnProofSaid : Prop := fnProofRow.holds Tryz.pinned (OpenSpec.ofChange fnProofSpec)

/-- ITS FALSE NEIGHBOUR: 'it returns false'. Refute it at one input. -/
def fnProofWrong : ChangeSpec := { name := "fnProof", fn := fun _ => fun
  | [d] => { results := [.lit (.bool false)], args := [d] }
  | _ => none }
def FnProofWrongFalsely : Prop := fnProofRow.holds Tryz.pinned (OpenSpec.ofChange fnProofWrong)

/-- 'laws.FnChecked': WHATEVER THE INPUT: true; the input reads as it did. -/
def fnCheckedSpec : ChangeSpec := { name := "fnChecked", fn := fun _ => fun
  | [d] => { results := [.lit (.bool true)], args := [d] }
  | _ => none }
def fnCheckedRow : OpenClaim := { program := "ytcfgiffgahdlbaagreat", sum := "4b766d25c47ae51ca70af7c5d214130bff2bca570da328778e9a259551fca8ba", func := "loop.example/g00122/laws.FnChecked", spec := "fnChecked", recurses := true, plainKeys := false, apart := false }
def FnCheckedSaid : Prop := fnCheckedRow.holds Tryz.pinned (OpenSpec.ofChange fnCheckedSpec)

/-- ITS FALSE NEIGHBOUR: 'it returns false'. Refute it at one input. -/
def fnCheckedWrong : ChangeSpec := { name := "fnChecked", fn := fun _ => fun
  | [d] => { results := [.lit (.bool false)], args := [d] }
  | _ => none }
def FnCheckedWrongFalsely : Prop := fnCheckedRow.holds Tryz.pinned (OpenSpec.ofChange fnCheckedWrong)

/- THE SECOND FORM. 'bulk': how many values and letters a reading holds, each counted each time it is reached (what is shared counts as often as it is met; a slice's spare places count too). A statement '..UptoSaid' is the law's where the arguments, and the package variables that the reading takes, are together of bulk at most 1048576: NARROWER than '..Said'. Prove '..Said' where nothing that the law and all that it calls make is longer than what came in: it says more and counts as full. Else prove '..UptoSaid'. A law counts once. -/
mutual
def uptoBulk {H : Type} : DataW H → Nat
  | .lit (.string bytes) => bytes.length + 1
  | .lit _ => 1
  | .nil => 1
  | .ptr d => uptoBulk d + 1
  | .slice elems spare => uptoBulkAll elems + uptoBulkAll spare + 1
  | .agg parts => uptoBulkAll parts + 1
  | .iface _ d => uptoBulk d + 1
  | .map entries => uptoBulkEntries entries + 1
  | .held _ => 1
def uptoBulkAll {H : Type} : List (DataW H) → Nat
  | [] => 0
  | d :: r => uptoBulk d + uptoBulkAll r
def uptoBulkEntries {H : Type} : List (Lit × DataW H) → Nat
  | [] => 0
  | x :: r => uptoBulkEntry x + uptoBulkEntries r
def uptoBulkEntry {H : Type} : Lit × DataW H → Nat
  | (.string bytes, d) => bytes.length + uptoBulk d + 1
  | (_, d) => uptoBulk d + 1
 end
def uptoSmall : (H : Type) → List (DataW H) → Bool := fun _ ds => decide (uptoBulkAll ds ≤ 1048576)
def OpenSpec.upto (s : _root_.Go.ChangeSpec) : _root_.Go.OpenSpec := { _root_.Go.OpenSpec.ofChange s with cond := some uptoSmall }

/-- 'laws.FnProof', WHERE WHAT IT READS IS OF BULK AT MOST 1048576: true; the input reads as it did. -/
def fnProofUptoRow : OpenClaim := { program := "ytcfgiffgahdlbaagreat", sum := "4b766d25c47ae51ca70af7c5d214130bff2bca570da328778e9a259551fca8ba", func := "loop.example/g00122/laws.FnProof", spec := "fnProof", unfollowed := true, recurses := true, plainKeys := false, apart := false, narrowed := true }
def FnProofUptoSaid : Prop := fnProofUptoRow.holds Tryz.pinned (OpenSpec.upto fnProofSpec)

/-- 'laws.FnChecked', WHERE WHAT IT READS IS OF BULK AT MOST 1048576: true; the input reads as it did. -/
def fnCheckedUptoRow : OpenClaim := { program := "ytcfgiffgahdlbaagreat", sum := "4b766d25c47ae51ca70af7c5d214130bff2bca570da328778e9a259551fca8ba", func := "loop.example/g00122/laws.FnChecked", spec := "fnChecked", recurses := true, plainKeys := false, apart := false, narrowed := true }
def FnCheckedUptoSaid : Prop := fnCheckedUptoRow.holds Tryz.pinned (OpenSpec.upto fnCheckedSpec)

end Rows
end Go.Proofs.YtcfgiffgahdlbaaGreat
