/- The law FnExactStreamOk: the call returns true for every input, and the input reads as it did. Conditions: none. -/
import Derived.Test.YtnbodfakblbmbaaRows
import Derived.Test.YtnbodfakblbmbaaXWStreamOk
import Derived.WalkKit
import Derived.ProofKit
import Derived.OpenShut
import Derived.ShutString
import Derived.ChangeOld
import Derived.Below
import Derived.SizedLaws
import Derived.Carry
namespace Go.Proofs.Ytnbodfakblbmbaa.fnExactStreamOk
open Go.ChangeShapes Go.WideShapes Go.ChangeAt Go.RowKit Go.Sym
open Go.ChangeMaps (open_string shut_string)
set_option linter.unusedVariables false
theorem own : ownKnob Try.prog.godebug = none := by kernel_rfl
theorem laidOut : laidOutB Try.prog = true := by kernel_rfl
set_option maxRecDepth 100000 in
theorem lifted (os : Os) (started : os.Started) (H : Type) (enc : TypeId × Value → H) :
    ReturnsInHanded {} Try.checked os 4 .any (Rows.fnExactStreamOkSpec.pre6 enc Try.prog Try.f4 Rows.fnExactStreamOkRow.domain false) (Rows.fnExactStreamOkSpec.post enc Try.prog Try.f4 false true false false) := by
  refine returnsInHanded_of_change_sized (C := Try.checked) own started (by kernel_rfl) Try.func4
    (ChangeSpec.witness6 (enc := enc) (C := Try.checked) false ⟨#[], #[.agg #[.slice none 0 0, .slice none 0 0, .int .i64 0, .int .i64 0, .int .i64 0, .bool false, .int .i64 0, .int .i64 0, .int .i64 0, .bool false, .slice none 0 0, .slice none 0 0]], []⟩ 8 (by kernel_rfl) (by kernel_rfl) (by kernel_rfl) (by kernel_rfl)) ?_
  intro W base args ds gs before hval0 hW hcnd hsz0 _
  have hval : ∀ (j : Nat) t v, Try.f4.params[j]? = some t → args[j]? = some v → Value.okWide Try.prog W .any base t v := hval0
  have hW' := hW
  obtain ⟨p, q, hA0, hV, rfl, hfz, hnd⟩ := hW
  have hA : DataW.TrodAll enc Try.prog W 0 (fun _ => true) true Try.f4.params.toList args.toList ds p := hA0
  rw [Try.params4] at hA hval
  obtain ⟨v0, vs0, d0, ds0, p0, q0, hargs, rfl, rfl, h0, r0⟩ := trodAll_cons hA
  obtain ⟨rfl, rfl, rfl⟩ := trodAll_nil r0
  obtain rfl : args = #[v0] := by cases args; simp_all
  obtain ⟨rfl, rfl⟩ := trodVars_none hV
  have k0 := h0
  have lt0 : ∀ x ∈ p0, x.block < W.heap.size := by obtain ⟨m, hm⟩ := k0; exact DataW.trod_lt m _ _ _ hm
  obtain ⟨x0, f0, e0⟩ := arg_sh (c := Cx.law W) (s := .st (.p (.st (.p (.sl (.st (.p (.i .i64) (.p (.i .i64) (.p (.i .i64) (.u)))))) (.u))) (.p (.sl (.i .i64)) (.p (.st (.p (.i .i64) (.p (.i .i64) (.p (.i .i64) (.p (.b) (.u)))))) (.p (.st (.p (.i .i64) (.p (.i .i64) (.p (.i .i64) (.p (.b) (.u)))))) (.p (.sl (.i .i64)) (.p (.sl (.i .i64)) (.u)))))))) rfl (law_z W) (by kernel_rfl) (hval 0 41 v0 rfl rfl) h0
  obtain ⟨a0, rfl, b0⟩ := C.arg_s f0
  clear hA0 hval0 hsz0
  refine (law_calls (C.laws_FnExactStreamOk_c a0 b0) (W := W) (vs := #[v0]) (by simp only [VRs]; exact ⟨v0, _, rfl, e0, rfl⟩)).mono fun e W' ⟨he, hd⟩ => ?_
  have bel : Below W.heap.size W W' := hd
  subst he
  exact ⟨_, rfl, _, _, _, [], _, [], hW', trodAll_mk1 (shut_bool Try.underlying4 _), (trodAll_cons_mk (Below.trod laidOut (by kernel_rfl) (of_decide_eq_true (by kernel_rfl)) k0 bel lt0) trodAll_mk0), rfl, bel.frame _, fun h => by cases h⟩
theorem over : Rows.fnExactStreamOkRow.holds Try.pinned (OpenSpec.ofChange Rows.fnExactStreamOkSpec) :=
  OpenClaim.holds_of_wide 4 Try.f4 rfl rfl rfl rfl rfl rfl rfl ⟨rfl, rfl, rfl, rfl, rfl⟩ rfl rfl rfl rfl rfl (by kernel_rfl) Try.func4 (by kernel_rfl)
    (of_decide_eq_true (by kernel_rfl)) (by unfold Func.isWrapper; first | (rw [if_pos (by decide +kernel)]; kernel_rfl) | (rw [if_neg (by decide +kernel)]; exact ⟨rfl, rfl⟩))
    (fun os started H enc _ => lifted os started H enc)
theorem proved : Rows.FnExactStreamOkSaid := over
#print axioms proved
end Go.Proofs.Ytnbodfakblbmbaa.fnExactStreamOk
namespace Go.Proofs.Ytnbodfakblbmbaa
/-- The row, under a short name, for the claim. -/
theorem fnExactStreamOk_holds : Rows.FnExactStreamOkSaid := fnExactStreamOk.proved
end Go.Proofs.Ytnbodfakblbmbaa
