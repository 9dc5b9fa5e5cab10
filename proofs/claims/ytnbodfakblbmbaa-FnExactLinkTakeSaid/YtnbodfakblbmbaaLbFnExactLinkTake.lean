/- The law FnExactLinkTake: the call returns true for every input, and the input reads as it did. Conditions: none. -/
import Derived.Test.YtnbodfakblbmbaaRows
import Derived.WalkKit
import Derived.ProofKit
import Derived.OpenShut
import Derived.ShutString
import Derived.ChangeOld
import Derived.Below
import Derived.SizedLaws
import Derived.Carry
import Derived.Test.YtnbodfakblbmbaaBFnExactLinkTake0
import Derived.Test.YtnbodfakblbmbaaBFnExactLinkTake1
import Derived.Test.YtnbodfakblbmbaaBFnExactLinkTake2
import Derived.Test.YtnbodfakblbmbaaBFnExactLinkTake3
import Derived.Test.YtnbodfakblbmbaaBFnExactLinkTake4
import Derived.Test.YtnbodfakblbmbaaBFnExactLinkTake5
import Derived.Test.YtnbodfakblbmbaaBFnExactLinkTake6
import Derived.Test.YtnbodfakblbmbaaBFnExactLinkTake7
import Derived.Test.YtnbodfakblbmbaaBFnExactLinkTake8
import Derived.Test.YtnbodfakblbmbaaBFnExactLinkTake9
import Derived.Test.YtnbodfakblbmbaaBFnExactLinkTake10
import Derived.Test.YtnbodfakblbmbaaBFnExactLinkTake11
import Derived.Test.YtnbodfakblbmbaaBFnExactLinkTake12
namespace Go.Proofs.Ytnbodfakblbmbaa.fnExactLinkTake
open Go.ChangeShapes Go.WideShapes Go.ChangeAt Go.RowKit
open Go.ChangeMaps (open_string shut_string)
open Go.Proofs.YtnbodfakblbmbaaW.PrintWords
set_option linter.unusedVariables false
theorem own : ownKnob Try.prog.godebug = none := by kernel_rfl
theorem laidOut : laidOutB Try.prog = true := by kernel_rfl
set_option maxRecDepth 100000 in
theorem lifted (os : Os) (started : os.Started) (H : Type) (enc : TypeId × Value → H) :
    ReturnsInHanded {} Try.checked os 3 .any (Rows.fnExactLinkTakeSpec.pre6 enc Try.prog Try.f3 Rows.fnExactLinkTakeRow.domain false) (Rows.fnExactLinkTakeSpec.post enc Try.prog Try.f3 false true false false) := by
  refine returnsInHanded_of_change_sized (C := Try.checked) own started (by kernel_rfl) Try.func3
    (ChangeSpec.witness6 (enc := enc) (C := Try.checked) false ⟨#[], #[.agg #[.slice none 0 0], .agg #[.int .i64 0, .int .i64 0, .int .i64 0, .bool false], .int .i64 0], []⟩ 8 (by kernel_rfl) (by kernel_rfl) (by kernel_rfl) (by kernel_rfl)) ?_
  intro W base args ds gs before hval0 hW hcnd hsz0 _
  have hval : ∀ (j : Nat) t v, Try.f3.params[j]? = some t → args[j]? = some v → Value.okWide Try.prog W .any base t v := hval0
  have hW' := hW
  obtain ⟨p, q, hA0, hV, rfl, hfz, hnd⟩ := hW
  have hA : DataW.TrodAll enc Try.prog W 0 (fun _ => true) true Try.f3.params.toList args.toList ds p := hA0
  rw [Try.params3] at hA hval
  obtain ⟨v0, vs0, d0, ds0, p0, q0, hargs, rfl, rfl, h0, r0⟩ := trodAll_cons hA
  obtain ⟨v1, vs1, d1, ds1, p1, q1, rfl, rfl, rfl, h1, r1⟩ := trodAll_cons r0
  obtain ⟨v2, vs2, d2, ds2, p2, q2, rfl, rfl, rfl, h2, r2⟩ := trodAll_cons r1
  obtain ⟨rfl, rfl, rfl⟩ := trodAll_nil r2
  obtain rfl : args = #[v0, v1, v2] := by cases args; simp_all
  obtain ⟨rfl, rfl⟩ := trodVars_none hV
  have k0 := h0
  have lt0 : ∀ x ∈ p0, x.block < W.heap.size := by obtain ⟨m, hm⟩ := k0; exact DataW.trod_lt m _ _ _ hm
  obtain ⟨x0, cs0, rfl, hK0, g0⟩ := Op.arg_struct Try.underlying24 (hval 0 24 v0 rfl rfl) P.opens24 h0
  obtain ⟨A0_0, c0_0, rfl, hl0_0, hC0_0⟩ := hK0
  have k1 := h1
  have lt1 : ∀ x ∈ p1, x.block < W.heap.size := by obtain ⟨m, hm⟩ := k1; exact DataW.trod_lt m _ _ _ hm
  obtain ⟨x1, cs1, rfl, hK1, g1⟩ := Op.arg_struct Try.underlying26 (hval 1 26 v1 rfl rfl) P.opens26 h1
  obtain ⟨_, _, rfl, rfl, ⟨_, _, rfl, rfl, ⟨_, _, rfl, rfl, rfl⟩⟩⟩ := hK1
  have k2 := h2
  have lt2 : ∀ x ∈ p2, x.block < W.heap.size := by obtain ⟨m, hm⟩ := k2; exact DataW.trod_lt m _ _ _ hm
  obtain ⟨a2, rfl, g2⟩ := Op.arg_i64 Try.underlying3 (hval 2 3 v2 rfl rfl) h2
  clear hA0 hval0 hsz0
  obtain ⟨k, hk⟩ := P.pure_FnExactLinkTake x0.f0 x1.f0 x1.f1 x1.f2 x1.f3 a2 g0 g1.1 g1.2.1 g1.2.2.1 g2
  refine (P.laws_FnExactLinkTake.calls k A0_0 c0_0 x0.f0 x1.f0 x1.f1 x1.f2 x1.f3 a2 true W hC0_0 hl0_0 hk).mono fun e W' ⟨he, hd⟩ => ?_
  have bel : Below W.heap.size W W' := hd
  subst he
  exact ⟨_, rfl, _, _, _, [], _, [], hW', trodAll_mk1 (shut_bool Try.underlying4 _), (trodAll_cons_mk (Below.trod laidOut (by kernel_rfl) (of_decide_eq_true (by kernel_rfl)) k0 bel lt0) (trodAll_cons_mk (Below.trod laidOut (by kernel_rfl) (of_decide_eq_true (by kernel_rfl)) k1 bel lt1) (trodAll_cons_mk (Below.trod laidOut (by kernel_rfl) (of_decide_eq_true (by kernel_rfl)) k2 bel lt2) trodAll_mk0))), rfl, bel.frame _, fun h => by cases h⟩
theorem over : Rows.fnExactLinkTakeRow.holds Try.pinned (OpenSpec.ofChange Rows.fnExactLinkTakeSpec) :=
  OpenClaim.holds_of_wide 3 Try.f3 rfl rfl rfl rfl rfl rfl rfl ⟨rfl, rfl, rfl, rfl, rfl⟩ rfl rfl rfl rfl rfl (by kernel_rfl) Try.func3 (by kernel_rfl)
    (of_decide_eq_true (by kernel_rfl)) (by unfold Func.isWrapper; first | (rw [if_pos (by decide +kernel)]; kernel_rfl) | (rw [if_neg (by decide +kernel)]; exact ⟨rfl, rfl⟩))
    (fun os started H enc _ => lifted os started H enc)
theorem proved : Rows.FnExactLinkTakeSaid := over
#print axioms proved
end Go.Proofs.Ytnbodfakblbmbaa.fnExactLinkTake
namespace Go.Proofs.Ytnbodfakblbmbaa
/-- The row, under a short name, for the claim. -/
theorem fnExactLinkTake_holds : Rows.FnExactLinkTakeSaid := fnExactLinkTake.proved
end Go.Proofs.Ytnbodfakblbmbaa
