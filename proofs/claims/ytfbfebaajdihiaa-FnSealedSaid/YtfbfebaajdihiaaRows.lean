/-
  No cell of these rows narrows 'for every input' (looked for: loops, veiled, ifaces, maps, wideKeys, modest, calm, conditions, laid).
  DERIVED. THE GIVEN ROWS OF THIS SEAT. 9 by the template 'for every input the law returns true; each argument reads behind the call as it read before'; 0 by the template 'total and deterministic' (their statements: YtfbfebaajdihiaaTotals.lean).
  GIVEN WITH THE SEED: the statements are not yours to turn. If you find one false, say at which input.
  Laid BY PROGRAM, IN A SANDBOX (cutbox-rows.mjs): the forced cells as the released guide's own fill.sh prints them over the translation 1930183a63e4d039… (all of the seat's roots in one cut). By AI agents, Wed Nov 11 2026. No macro, syntax, notation, axiom, sorry.
-/
import Derived.Test.YtfbfebaajdihiaaChecked
import GoSem.Claim
import GoSem.ClaimJoined
import GoSem.ClaimMapViews
import Derived.JoinedTies
import Derived.KernelRfl
namespace Go.Proofs.Ytfbfebaajdihiaa
/- THE CELL 'sum', in the pinned program and in every row, IS THE sha256 OF THE DUMP (.gsa) THAT YtfbfebaajdihiaaProg.lean LOADS. Nothing in Lean hashes anything: it is a label: what it is worth is what the hold of that sum in a sandbox is worth. -/
noncomputable def Try.pinned : Pinned := { name := "ytfbfebaajdihiaa", sum := "1930183a63e4d03906fcb6d04b02ee1eae4d77ba0a519f504b712e6af36fa501", checked := Try.checked }
namespace Rows
def none {H : Type} : Left H := { results := [], args := [] }

/-- 'laws.FnExactOpenOnce': WHATEVER THE INPUT: true; the input reads as it did. -/
def fnExactOpenOnceSpec : ChangeSpec := { name := "fnExactOpenOnce", fn := fun _ => fun
  | [d1, d2] => { results := [.lit (.bool true)], args := [d1, d2] }
  | _ => none }
def fnExactOpenOnceRow : OpenClaim := { program := "ytfbfebaajdihiaa", sum := "1930183a63e4d03906fcb6d04b02ee1eae4d77ba0a519f504b712e6af36fa501", func := "loop.example/g00122/laws.FnExactOpenOnce", spec := "fnExactOpenOnce", recurses := true, plainKeys := false, apart := false }
def FnExactOpenOnceSaid : Prop := fnExactOpenOnceRow.holds Try.pinned (OpenSpec.ofChange fnExactOpenOnceSpec)

/-- ITS FALSE NEIGHBOUR: 'it returns false'. Refute it at one input. -/
def fnExactOpenOnceWrong : ChangeSpec := { name := "fnExactOpenOnce", fn := fun _ => fun
  | [d1, d2] => { results := [.lit (.bool false)], args := [d1, d2] }
  | _ => none }
def FnExactOpenOnceWrongFalsely : Prop := fnExactOpenOnceRow.holds Try.pinned (OpenSpec.ofChange fnExactOpenOnceWrong)

/-- 'laws.FnExactOpenAll': WHATEVER THE INPUT: true; the input reads as it did. -/
def fnExactOpenAllSpec : ChangeSpec := { name := "fnExactOpenAll", fn := fun _ => fun
  | [d1, d2] => { results := [.lit (.bool true)], args := [d1, d2] }
  | _ => none }
def fnExactOpenAllRow : OpenClaim := { program := "ytfbfebaajdihiaa", sum := "1930183a63e4d03906fcb6d04b02ee1eae4d77ba0a519f504b712e6af36fa501", func := "loop.example/g00122/laws.FnExactOpenAll", spec := "fnExactOpenAll", recurses := true, plainKeys := false, apart := false }
def FnExactOpenAllSaid : Prop := fnExactOpenAllRow.holds Try.pinned (OpenSpec.ofChange fnExactOpenAllSpec)

/-- ITS FALSE NEIGHBOUR: 'it returns false'. Refute it at one input. -/
def fnExactOpenAllWrong : ChangeSpec := { name := "fnExactOpenAll", fn := fun _ => fun
  | [d1, d2] => { results := [.lit (.bool false)], args := [d1, d2] }
  | _ => none }
def FnExactOpenAllWrongFalsely : Prop := fnExactOpenAllRow.holds Try.pinned (OpenSpec.ofChange fnExactOpenAllWrong)

/-- 'laws.FnExactDerivesList': WHATEVER THE INPUT: true; the input reads as it did. -/
def fnExactDerivesListSpec : ChangeSpec := { name := "fnExactDerivesList", fn := fun _ => fun
  | [d1, d2] => { results := [.lit (.bool true)], args := [d1, d2] }
  | _ => none }
def fnExactDerivesListRow : OpenClaim := { program := "ytfbfebaajdihiaa", sum := "1930183a63e4d03906fcb6d04b02ee1eae4d77ba0a519f504b712e6af36fa501", func := "loop.example/g00122/laws.FnExactDerivesList", spec := "fnExactDerivesList", recurses := true, plainKeys := false, apart := false }
def FnExactDerivesListSaid : Prop := fnExactDerivesListRow.holds Try.pinned (OpenSpec.ofChange fnExactDerivesListSpec)

/-- ITS FALSE NEIGHBOUR: 'it returns false'. Refute it at one input. -/
def fnExactDerivesListWrong : ChangeSpec := { name := "fnExactDerivesList", fn := fun _ => fun
  | [d1, d2] => { results := [.lit (.bool false)], args := [d1, d2] }
  | _ => none }
def FnExactDerivesListWrongFalsely : Prop := fnExactDerivesListRow.holds Try.pinned (OpenSpec.ofChange fnExactDerivesListWrong)

/-- 'laws.FnOnceOpen': WHATEVER THE INPUT: true; the input reads as it did. -/
def fnOnceOpenSpec : ChangeSpec := { name := "fnOnceOpen", fn := fun _ => fun
  | [d] => { results := [.lit (.bool true)], args := [d] }
  | _ => none }
def fnOnceOpenRow : OpenClaim := { program := "ytfbfebaajdihiaa", sum := "1930183a63e4d03906fcb6d04b02ee1eae4d77ba0a519f504b712e6af36fa501", func := "loop.example/g00122/laws.FnOnceOpen", spec := "fnOnceOpen", recurses := true, plainKeys := false, apart := false }
def FnOnceOpenSaid : Prop := fnOnceOpenRow.holds Try.pinned (OpenSpec.ofChange fnOnceOpenSpec)

/-- ITS FALSE NEIGHBOUR: 'it returns false'. Refute it at one input. -/
def fnOnceOpenWrong : ChangeSpec := { name := "fnOnceOpen", fn := fun _ => fun
  | [d] => { results := [.lit (.bool false)], args := [d] }
  | _ => none }
def FnOnceOpenWrongFalsely : Prop := fnOnceOpenRow.holds Try.pinned (OpenSpec.ofChange fnOnceOpenWrong)

/-- 'laws.FnOpened': WHATEVER THE INPUT: true; the input reads as it did. -/
def fnOpenedSpec : ChangeSpec := { name := "fnOpened", fn := fun _ => fun
  | [d] => { results := [.lit (.bool true)], args := [d] }
  | _ => none }
def fnOpenedRow : OpenClaim := { program := "ytfbfebaajdihiaa", sum := "1930183a63e4d03906fcb6d04b02ee1eae4d77ba0a519f504b712e6af36fa501", func := "loop.example/g00122/laws.FnOpened", spec := "fnOpened", recurses := true, plainKeys := false, apart := false }
def FnOpenedSaid : Prop := fnOpenedRow.holds Try.pinned (OpenSpec.ofChange fnOpenedSpec)

/-- ITS FALSE NEIGHBOUR: 'it returns false'. Refute it at one input. -/
def fnOpenedWrong : ChangeSpec := { name := "fnOpened", fn := fun _ => fun
  | [d] => { results := [.lit (.bool false)], args := [d] }
  | _ => none }
def FnOpenedWrongFalsely : Prop := fnOpenedRow.holds Try.pinned (OpenSpec.ofChange fnOpenedWrong)

/-- 'laws.FnMakeList': WHATEVER THE INPUT: true; the input reads as it did. -/
def fnMakeListSpec : ChangeSpec := { name := "fnMakeList", fn := fun _ => fun
  | [d] => { results := [.lit (.bool true)], args := [d] }
  | _ => none }
def fnMakeListRow : OpenClaim := { program := "ytfbfebaajdihiaa", sum := "1930183a63e4d03906fcb6d04b02ee1eae4d77ba0a519f504b712e6af36fa501", func := "loop.example/g00122/laws.FnMakeList", spec := "fnMakeList", recurses := true, plainKeys := false, apart := false }
def FnMakeListSaid : Prop := fnMakeListRow.holds Try.pinned (OpenSpec.ofChange fnMakeListSpec)

/-- ITS FALSE NEIGHBOUR: 'it returns false'. Refute it at one input. -/
def fnMakeListWrong : ChangeSpec := { name := "fnMakeList", fn := fun _ => fun
  | [d] => { results := [.lit (.bool false)], args := [d] }
  | _ => none }
def FnMakeListWrongFalsely : Prop := fnMakeListRow.holds Try.pinned (OpenSpec.ofChange fnMakeListWrong)

/-- 'laws.FnMore': WHATEVER THE INPUT: true; the input reads as it did. -/
def fnMoreSpec : ChangeSpec := { name := "fnMore", fn := fun _ => fun
  | [d] => { results := [.lit (.bool true)], args := [d] }
  | _ => none }
def fnMoreRow : OpenClaim := { program := "ytfbfebaajdihiaa", sum := "1930183a63e4d03906fcb6d04b02ee1eae4d77ba0a519f504b712e6af36fa501", func := "loop.example/g00122/laws.FnMore", spec := "fnMore", inPlace := ["slices.overlaps[int]"], recurses := true, plainKeys := false, apart := false }
def FnMoreSaid : Prop := fnMoreRow.holds Try.pinned (OpenSpec.ofChange fnMoreSpec)

/-- ITS FALSE NEIGHBOUR: 'it returns false'. Refute it at one input. -/
def fnMoreWrong : ChangeSpec := { name := "fnMore", fn := fun _ => fun
  | [d] => { results := [.lit (.bool false)], args := [d] }
  | _ => none }
def FnMoreWrongFalsely : Prop := fnMoreRow.holds Try.pinned (OpenSpec.ofChange fnMoreWrong)

/-- 'laws.FnSealed': WHATEVER THE INPUT: true; the input reads as it did. -/
def fnSealedSpec : ChangeSpec := { name := "fnSealed", fn := fun _ => fun
  | [d] => { results := [.lit (.bool true)], args := [d] }
  | _ => none }
def fnSealedRow : OpenClaim := { program := "ytfbfebaajdihiaa", sum := "1930183a63e4d03906fcb6d04b02ee1eae4d77ba0a519f504b712e6af36fa501", func := "loop.example/g00122/laws.FnSealed", spec := "fnSealed", inPlace := ["slices.overlaps[int]"], recurses := true, plainKeys := false, apart := false }
def FnSealedSaid : Prop := fnSealedRow.holds Try.pinned (OpenSpec.ofChange fnSealedSpec)

/-- ITS FALSE NEIGHBOUR: 'it returns false'. Refute it at one input. -/
def fnSealedWrong : ChangeSpec := { name := "fnSealed", fn := fun _ => fun
  | [d] => { results := [.lit (.bool false)], args := [d] }
  | _ => none }
def FnSealedWrongFalsely : Prop := fnSealedRow.holds Try.pinned (OpenSpec.ofChange fnSealedWrong)

/-- 'laws.FnHidden': WHATEVER THE INPUT: true; the input reads as it did. -/
def fnHiddenSpec : ChangeSpec := { name := "fnHidden", fn := fun _ => fun
  | [d] => { results := [.lit (.bool true)], args := [d] }
  | _ => none }
def fnHiddenRow : OpenClaim := { program := "ytfbfebaajdihiaa", sum := "1930183a63e4d03906fcb6d04b02ee1eae4d77ba0a519f504b712e6af36fa501", func := "loop.example/g00122/laws.FnHidden", spec := "fnHidden", inPlace := ["slices.overlaps[int]"], recurses := true, plainKeys := false, apart := false }
def FnHiddenSaid : Prop := fnHiddenRow.holds Try.pinned (OpenSpec.ofChange fnHiddenSpec)

/-- ITS FALSE NEIGHBOUR: 'it returns false'. Refute it at one input. -/
def fnHiddenWrong : ChangeSpec := { name := "fnHidden", fn := fun _ => fun
  | [d] => { results := [.lit (.bool false)], args := [d] }
  | _ => none }
def FnHiddenWrongFalsely : Prop := fnHiddenRow.holds Try.pinned (OpenSpec.ofChange fnHiddenWrong)

/- THE SECOND FORM. 'bulk': how many values and letters a reading holds, each counted each time it is reached (what is shared counts as often as it is met; a slice's spare places count too). A statement '..UptoSaid' is the law's where the arguments, and the package variables that the reading takes, are together of bulk at most 1048576: NARROWER than '..Said'. Prove '..Said' where nothing that the law and all that it calls make is longer than what came in: it says more and counts as full. Else prove '..UptoSaid'. A law counts once. -/
mutual
def uptoBulk {H : Type} : DataW H → Nat
  | .lit (.string bytes) => bytes.length + 1
  | .lit _ => 1
  | .nil => 1
  | .ptr d => uptoBulk d + 1
  | .slice elems spare => uptoBulkAll elems + uptoBulkAll spare + 1
  | .agg parts => uptoBulkAll parts + 1
  | .iface _ d => uptoBulk d + 1
  | .map entries => uptoBulkEntries entries + 1
  | .held _ => 1
def uptoBulkAll {H : Type} : List (DataW H) → Nat
  | [] => 0
  | d :: r => uptoBulk d + uptoBulkAll r
def uptoBulkEntries {H : Type} : List (Lit × DataW H) → Nat
  | [] => 0
  | x :: r => uptoBulkEntry x + uptoBulkEntries r
def uptoBulkEntry {H : Type} : Lit × DataW H → Nat
  | (.string bytes, d) => bytes.length + uptoBulk d + 1
  | (_, d) => uptoBulk d + 1
 end
def uptoSmall : (H : Type) → List (DataW H) → Bool := fun _ ds => decide (uptoBulkAll ds ≤ 1048576)
def OpenSpec.upto (s : _root_.Go.ChangeSpec) : _root_.Go.OpenSpec := { _root_.Go.OpenSpec.ofChange s with cond := some uptoSmall }

/-- 'laws.FnExactOpenOnce', WHERE WHAT IT READS IS OF BULK AT MOST 1048576: true; the input reads as it did. -/
def fnExactOpenOnceUptoRow : OpenClaim := { program := "ytfbfebaajdihiaa", sum := "1930183a63e4d03906fcb6d04b02ee1eae4d77ba0a519f504b712e6af36fa501", func := "loop.example/g00122/laws.FnExactOpenOnce", spec := "fnExactOpenOnce", recurses := true, plainKeys := false, apart := false, narrowed := true }
def FnExactOpenOnceUptoSaid : Prop := fnExactOpenOnceUptoRow.holds Try.pinned (OpenSpec.upto fnExactOpenOnceSpec)

/-- 'laws.FnExactOpenAll', WHERE WHAT IT READS IS OF BULK AT MOST 1048576: true; the input reads as it did. -/
def fnExactOpenAllUptoRow : OpenClaim := { program := "ytfbfebaajdihiaa", sum := "1930183a63e4d03906fcb6d04b02ee1eae4d77ba0a519f504b712e6af36fa501", func := "loop.example/g00122/laws.FnExactOpenAll", spec := "fnExactOpenAll", recurses := true, plainKeys := false, apart := false, narrowed := true }
def FnExactOpenAllUptoSaid : Prop := fnExactOpenAllUptoRow.holds Try.pinned (OpenSpec.upto fnExactOpenAllSpec)

/-- 'laws.FnExactDerivesList', WHERE WHAT IT READS IS OF BULK AT MOST 1048576: true; the input reads as it did. -/
def fnExactDerivesListUptoRow : OpenClaim := { program := "ytfbfebaajdihiaa", sum := "1930183a63e4d03906fcb6d04b02ee1eae4d77ba0a519f504b712e6af36fa501", func := "loop.example/g00122/laws.FnExactDerivesList", spec := "fnExactDerivesList", recurses := true, plainKeys := false, apart := false, narrowed := true }
def FnExactDerivesListUptoSaid : Prop := fnExactDerivesListUptoRow.holds Try.pinned (OpenSpec.upto fnExactDerivesListSpec)

/-- 'laws.FnOnceOpen', WHERE WHAT IT READS IS OF BULK AT MOST 1048576: true; the input reads as it did. -/
def fnOnceOpenUptoRow : OpenClaim := { program := "ytfbfebaajdihiaa", sum := "1930183a63e4d03906fcb6d04b02ee1eae4d77ba0a519f504b712e6af36fa501", func := "loop.example/g00122/laws.FnOnceOpen", spec := "fnOnceOpen", recurses := true, plainKeys := false, apart := false, narrowed := true }
def FnOnceOpenUptoSaid : Prop := fnOnceOpenUptoRow.holds Try.pinned (OpenSpec.upto fnOnceOpenSpec)

/-- 'laws.FnOpened', WHERE WHAT IT READS IS OF BULK AT MOST 1048576: true; the input reads as it did. -/
def fnOpenedUptoRow : OpenClaim := { program := "ytfbfebaajdihiaa", sum := "1930183a63e4d03906fcb6d04b02ee1eae4d77ba0a519f504b712e6af36fa501", func := "loop.example/g00122/laws.FnOpened", spec := "fnOpened", recurses := true, plainKeys := false, apart := false, narrowed := true }
def FnOpenedUptoSaid : Prop := fnOpenedUptoRow.holds Try.pinned (OpenSpec.upto fnOpenedSpec)

/-- 'laws.FnMakeList', WHERE WHAT IT READS IS OF BULK AT MOST 1048576: true; the input reads as it did. -/
def fnMakeListUptoRow : OpenClaim := { program := "ytfbfebaajdihiaa", sum := "1930183a63e4d03906fcb6d04b02ee1eae4d77ba0a519f504b712e6af36fa501", func := "loop.example/g00122/laws.FnMakeList", spec := "fnMakeList", recurses := true, plainKeys := false, apart := false, narrowed := true }
def FnMakeListUptoSaid : Prop := fnMakeListUptoRow.holds Try.pinned (OpenSpec.upto fnMakeListSpec)

/-- 'laws.FnMore', WHERE WHAT IT READS IS OF BULK AT MOST 1048576: true; the input reads as it did. -/
def fnMoreUptoRow : OpenClaim := { program := "ytfbfebaajdihiaa", sum := "1930183a63e4d03906fcb6d04b02ee1eae4d77ba0a519f504b712e6af36fa501", func := "loop.example/g00122/laws.FnMore", spec := "fnMore", inPlace := ["slices.overlaps[int]"], recurses := true, plainKeys := false, apart := false, narrowed := true }
def FnMoreUptoSaid : Prop := fnMoreUptoRow.holds Try.pinned (OpenSpec.upto fnMoreSpec)

/-- 'laws.FnSealed', WHERE WHAT IT READS IS OF BULK AT MOST 1048576: true; the input reads as it did. -/
def fnSealedUptoRow : OpenClaim := { program := "ytfbfebaajdihiaa", sum := "1930183a63e4d03906fcb6d04b02ee1eae4d77ba0a519f504b712e6af36fa501", func := "loop.example/g00122/laws.FnSealed", spec := "fnSealed", inPlace := ["slices.overlaps[int]"], recurses := true, plainKeys := false, apart := false, narrowed := true }
def FnSealedUptoSaid : Prop := fnSealedUptoRow.holds Try.pinned (OpenSpec.upto fnSealedSpec)

/-- 'laws.FnHidden', WHERE WHAT IT READS IS OF BULK AT MOST 1048576: true; the input reads as it did. -/
def fnHiddenUptoRow : OpenClaim := { program := "ytfbfebaajdihiaa", sum := "1930183a63e4d03906fcb6d04b02ee1eae4d77ba0a519f504b712e6af36fa501", func := "loop.example/g00122/laws.FnHidden", spec := "fnHidden", inPlace := ["slices.overlaps[int]"], recurses := true, plainKeys := false, apart := false, narrowed := true }
def FnHiddenUptoSaid : Prop := fnHiddenUptoRow.holds Try.pinned (OpenSpec.upto fnHiddenSpec)

end Rows
end Go.Proofs.Ytfbfebaajdihiaa
