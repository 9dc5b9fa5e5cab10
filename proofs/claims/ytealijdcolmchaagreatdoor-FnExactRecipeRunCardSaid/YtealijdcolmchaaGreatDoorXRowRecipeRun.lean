/- The law FnExactRecipeRun: the call returns true for every input, and the input reads as it did. Conditions: none. -/
import Derived.Test.YtealijdcolmchaaGreatDoorCards
import Derived.Test.YtealijdcolmchaaGreatDoorTie
import Derived.Test.YtealijdcolmchaaGreatDoorXRX4WRecipeRun
import Derived.WalkKit
import Derived.ProofKit
import Derived.OpenShut
import Derived.ShutString
import Derived.ChangeOld
import Derived.Below
import Derived.SizedLaws
import Derived.Carry
import Derived.LaidMore
import Derived.MakeChecks
import Derived.Stop.Joined
import Derived.Stop.JoinedAt
import Derived.Stop.Texts
import Derived.Stop.ErrReads
import Derived.Stop.LaidErr
import Derived.Lib.LaidTab
import Derived.SevenTiedAt
namespace Go.Proofs.YtealijdcolmchaaGreatDoor.fnExactRecipeRun
open Go.ChangeShapes Go.WideShapes Go.ChangeAt Go.RowKit Go.Sym
open Go.ChangeMaps (open_string shut_string)
set_option linter.unusedVariables false
theorem own : ownKnob Tryz.prog.godebug = none := by kernel_rfl
theorem laidOut : laidOutB Tryz.prog = true := by kernel_rfl
/-- What the law finds laid. -/
def laidL : List (String × DataW Unit) := [("math/bits.deBruijn32tab", Rows.laid_math_bits_deBruijn32tab), ("math/bits.deBruijn64tab", Rows.laid_math_bits_deBruijn64tab), ("internal/strconv.uint64pow10", Rows.laid_internal_strconv_uint64pow10), ("strconv.ErrRange", Rows.laid_strconv_ErrRange), ("strconv.ErrSyntax", Rows.laid_strconv_ErrSyntax)]
/-- The door's own heap meets the condition: three closed facts. -/
theorem door_met (os : Os) (args : Array Value) : laidMetH Tryz.prog laidL ((World.doorLaid Tryz.prog 400 os).forCall (fun _ _ => 0) ⟨#[], args, []⟩).memory :=
  laidMetH_of_parts3 (fuel := 8) (laidMet_of_run' 8 (by kernel_rfl) (by kernel_rfl)) (by kernel_rfl) (by kernel_rfl)
noncomputable def gP : Nat := (Tryz.prog.globalNamed "internal/strconv.uint64pow10").getD 0
noncomputable def tP : TypeId := ((Tryz.prog.globals[gP]?).map (·.type)).getD 0
noncomputable def gS : Nat := (Tryz.prog.globalNamed "strconv.ErrSyntax").getD 0
noncomputable def tS : TypeId := ((Tryz.prog.globals[gS]?).map (·.type)).getD 0
noncomputable def gR : Nat := (Tryz.prog.globalNamed "strconv.ErrRange").getD 0
noncomputable def tR : TypeId := ((Tryz.prog.globals[gR]?).map (·.type)).getD 0
noncomputable def eP : TypeId := match Tryz.prog.underlying tP with | some (.array _ e) => e | _ => 0
noncomputable def mS : Array (String × TypeId) := match Tryz.prog.underlying tS with | some (.interface ms) => ms | _ => #[]
noncomputable def mR : Array (String × TypeId) := match Tryz.prog.underlying tR with | some (.interface ms) => ms | _ => #[]
theorem star : "*" ++ "errors.errorString" = "*errors.errorString" := by decide
theorem rowOne (u : TypeId) (h : Tryz.prog.typeName? 3 u = some "*errors.errorString") : u = 125 :=
  typeName_ptr_named (nm := "errors.errorString") (by rw [star]; kernel_rfl) (by kernel_rfl) (by decide) u (by rw [star]; exact h)
noncomputable def fE : Field := match Tryz.prog.underlying 127 with | some (.struct fs) => fs[0]! | _ => default
theorem gd {W : World} (h0 : laidMetH Tryz.prog laidL W) : Gd Tryz.prog (Cx.law W) := by
  rw [MakeChecks.laidMetH_plain _ _ _ (by kernel_rfl)] at h0
  have h1 := laidMet.tail h0
  have h2 := laidMet.tail h1
  have h3 := laidMet.tail h2
  have h4 := laidMet.tail h3
  intro p hp g hg
  refine ⟨fun ho => law_z W g (.inr ho), ?_⟩
  simp only [gvars, List.mem_cons, List.mem_nil_iff, or_false] at hp
  rcases hp with rfl | rfl | rfl
  · refine ⟨_, Lib.tabIs_of_head (P := Tryz.prog) (W := W) (name := "internal/strconv.uint64pow10") (k := .u64) (zs := Lib.pow10Tab) (g := gP) (t := tP) (e := eP) (n := 20) (by kernel_rfl) (by kernel_rfl) (by kernel_rfl) (by kernel_rfl) (by kernel_rfl) (by kernel_rfl) h2, rfl⟩
  · obtain ⟨a, s, hv, _⟩ := laid_sentinel (P := Tryz.prog) (W := W) (g := gS) (ti := tS) (tp := 125) (te := 127) (ts := fE.type) (ms := mS) (f := fE) h4 (by kernel_rfl) (by kernel_rfl) (by kernel_rfl) rowOne (by kernel_rfl) (by kernel_rfl) rfl (by kernel_rfl) (by kernel_rfl) (by kernel_rfl) (by kernel_rfl)
    exact ⟨_, hv, _, _, rfl⟩
  · obtain ⟨a, s, hv, _⟩ := laid_sentinel (P := Tryz.prog) (W := W) (g := gR) (ti := tR) (tp := 125) (te := 127) (ts := fE.type) (ms := mR) (f := fE) h3 (by kernel_rfl) (by kernel_rfl) (by kernel_rfl) rowOne (by kernel_rfl) (by kernel_rfl) rfl (by kernel_rfl) (by kernel_rfl) (by kernel_rfl) (by kernel_rfl)
    exact ⟨_, hv, _, _, rfl⟩
set_option maxRecDepth 100000 in
theorem lifted (os : Os) (started : os.Started) (H : Type) (enc : TypeId × Value → H) :
    ReturnsInHanded {} Tryz.checked os 3 .any (fun w args => (Rows.fnExactRecipeRunSpec.pre enc Tryz.prog Tryz.f3 [] false w args ∧ laidMetH Tryz.prog laidL w) ∧ sizedMet enc Tryz.prog Tryz.f3 (OpenSpec.ofChange Rows.fnExactRecipeRunSpec) false w args) (Rows.fnExactRecipeRunSpec.post enc Tryz.prog Tryz.f3 false true false false) := by
  refine returnsInHanded_of_change_and (C := Tryz.checked) (X := fun w _ => laidMetH Tryz.prog laidL w) (fun _ _ _ hh h => h.of_heap hh) own started (by kernel_rfl) Tryz.func3
    (ChangeSpec.witness_shaped (enc := enc) (C := Tryz.checked) (os := os) (X := fun w _ => laidMetH Tryz.prog laidL w) false (World.doorLaid Tryz.prog 400 os) #[.agg #[.slice none 0 0], .slice none 0 0, .string ByteArray.empty] 8 rfl (World.shaped_of_RefB (by kernel_rfl) (by kernel_rfl)) (by kernel_rfl) (by kernel_rfl) (by kernel_rfl) (door_met os _)) ?_
  intro W base args ds gs before hval0 hW _ _ hL _
  have hval : ∀ (j : Nat) t v, Tryz.f3.params[j]? = some t → args[j]? = some v → Value.okWide Tryz.prog W .any base t v := hval0
  have hW' := hW
  obtain ⟨p, q, hA0, hV, rfl, hfz, hnd⟩ := hW
  have hA : DataW.TrodAll enc Tryz.prog W 0 (fun _ => true) true Tryz.f3.params.toList args.toList ds p := hA0
  rw [Tryz.params3] at hA hval
  obtain ⟨v0, vs0, d0, ds0, p0, q0, hargs, rfl, rfl, h0, r0⟩ := trodAll_cons hA
  obtain ⟨v1, vs1, d1, ds1, p1, q1, rfl, rfl, rfl, h1, r1⟩ := trodAll_cons r0
  obtain ⟨v2, vs2, d2, ds2, p2, q2, rfl, rfl, rfl, h2, r2⟩ := trodAll_cons r1
  obtain ⟨rfl, rfl, rfl⟩ := trodAll_nil r2
  obtain rfl : args = #[v0, v1, v2] := by cases args; simp_all
  obtain ⟨rfl, rfl⟩ := trodVars_none hV
  have k0 := h0
  have lt0 : ∀ x ∈ p0, x.block < W.heap.size := by obtain ⟨m, hm⟩ := k0; exact DataW.trod_lt m _ _ _ hm
  obtain ⟨x0, f0, e0⟩ := arg_sh (c := Cx.law W) (s := .st (.p (.sl (.st (.p (.i .i64) (.p (.i .i64) (.p (.i .i64) (.u)))))) (.u))) rfl (law_z W) (by kernel_rfl) (hval 0 24 v0 rfl rfl) h0
  obtain ⟨a0, rfl, b0⟩ := C.arg_p f0
  have k1 := h1
  have lt1 : ∀ x ∈ p1, x.block < W.heap.size := by obtain ⟨m, hm⟩ := k1; exact DataW.trod_lt m _ _ _ hm
  obtain ⟨x1, f1, e1⟩ := arg_sh (c := Cx.law W) (s := .sl (.i .i64)) rfl (law_z W) (by kernel_rfl) (hval 1 25 v1 rfl rfl) h1
  obtain ⟨a1, rfl, b1⟩ := C.arg_is f1
  have k2 := h2
  have lt2 : ∀ x ∈ p2, x.block < W.heap.size := by obtain ⟨m, hm⟩ := k2; exact DataW.trod_lt m _ _ _ hm
  obtain ⟨x2, f2, e2⟩ := arg_sh (c := Cx.law W) (s := .tx) rfl (law_z W) (by kernel_rfl) (hval 2 9 v2 rfl rfl) h2
  obtain ⟨a2, rfl, b2⟩ := C.arg_tx f2
  clear hA0 hval0
  refine (law_calls (C.laws_FnExactRecipeRun_c a0 a1 a2 b0 b1 b2) (W := W) (vs := #[v0, v1, v2]) (gd hL) (by simp only [VRs]; exact ⟨v0, _, rfl, e0, ⟨v1, _, rfl, e1, ⟨v2, _, rfl, e2, rfl⟩⟩⟩)).mono fun e W' ⟨he, hd⟩ => ?_
  have bel : Below W.heap.size W W' := hd
  subst he
  exact ⟨_, rfl, _, _, _, [], _, [], hW', trodAll_mk1 (shut_bool Tryz.underlying4 _), (trodAll_cons_mk (Below.trod laidOut (by kernel_rfl) (of_decide_eq_true (by kernel_rfl)) k0 bel lt0) (trodAll_cons_mk (Below.trod laidOut (by kernel_rfl) (of_decide_eq_true (by kernel_rfl)) k1 bel lt1) (trodAll_cons_mk (Below.trod laidOut (by kernel_rfl) (of_decide_eq_true (by kernel_rfl)) k2 bel lt2) trodAll_mk0))), rfl, bel.frame _, fun h => by cases h⟩
theorem over : Rows.fnExactRecipeRunRow.holds Tryz.pinned (OpenSpec.ofChange Rows.fnExactRecipeRunSpec) :=
  OpenClaim.holds_of_wide 3 Tryz.f3 rfl rfl rfl rfl rfl rfl rfl ⟨rfl, rfl, rfl, rfl, rfl⟩ rfl rfl rfl rfl rfl (by kernel_rfl) Tryz.func3 (by kernel_rfl)
    (of_decide_eq_true (by kernel_rfl)) (by unfold Func.isWrapper; first | (rw [if_pos (by decide +kernel)]; kernel_rfl) | (rw [if_neg (by decide +kernel)]; exact ⟨rfl, rfl⟩))
    (fun os started H enc _ => lifted os started H enc)
theorem proved : Rows.FnExactRecipeRunCardSaid :=
  Claim7.holds_tied_plain_at .later [] [.data, .data, .data, .sentinel, .sentinel] true (true, "2a084199abd1843317ccde8e1f6d643ebbe09bc13e04f75895a97dee98a39d5b") true
    over (fun _ h => by cases h) (by kernel_rfl) (fun _ h => by cases h) fnExactRecipeRun_row_tie rfl ⟨rfl, rfl⟩ (by kernel_rfl) rfl
    (fun f fn hf hfn => by
      obtain rfl : f = 3 := Option.some.inj ((show Tryz.prog.funcNamed "loop.example/g00122/laws.FnExactRecipeRun" = some 3 by kernel_rfl).symm.trans hf) |>.symm
      obtain rfl : fn = Tryz.f3 := (Option.some.inj (Tryz.func3.symm.trans hfn)).symm
      exact ⟨by kernel_rfl, fun j t ht => by
        rw [Tryz.params3] at ht
        have hm : t ∈ [24, 25, 9] := by simpa using Array.mem_of_getElem? ht
        have hall : ([24, 25, 9].all fun u => !Tryz.prog.wantsStandIn u) = true := by kernel_rfl
        exact (show Tryz.prog.wantsStandIn t = false by simpa using List.all_eq_true.1 hall t hm)⟩)
    (by kernel_rfl)
#print axioms proved
end Go.Proofs.YtealijdcolmchaaGreatDoor.fnExactRecipeRun
namespace Go.Proofs.YtealijdcolmchaaGreatDoor
/-- The card, under a short name, for the claim. -/
theorem fnExactRecipeRun_holds : Rows.FnExactRecipeRunCardSaid := fnExactRecipeRun.proved
end Go.Proofs.YtealijdcolmchaaGreatDoor
