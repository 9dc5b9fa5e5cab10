/- The law FnRoleText: the call returns true for every input, and the input reads as it did. Conditions: none. -/
import Derived.Test.YtmlfacjgfjmdeaaGreatDoorCards
import Derived.Test.YtmlfacjgfjmdeaaGreatDoorTie
import Derived.Test.YtmlfacjgfjmdeaaGreatDoorXX16WRoleText
import Derived.WalkKit
import Derived.ProofKit
import Derived.OpenShut
import Derived.ShutString
import Derived.ChangeOld
import Derived.Below
import Derived.SizedLaws
import Derived.Carry
import Derived.LaidMore
import Derived.MakeChecks
import Derived.Stop.Joined
import Derived.Stop.JoinedAt
import Derived.Stop.Texts
import Derived.Stop.ErrReads
import Derived.Stop.LaidErr
import Derived.Lib.LaidTab
import Derived.SevenTiedAt
namespace Go.Proofs.YtmlfacjgfjmdeaaGreatDoor.fnRoleText
open Go.ChangeShapes Go.WideShapes Go.ChangeAt Go.RowKit Go.Sym
open Go.ChangeMaps (open_string shut_string)
set_option linter.unusedVariables false
theorem own : ownKnob Tryz.prog.godebug = none := by kernel_rfl
theorem laidOut : laidOutB Tryz.prog = true := by kernel_rfl
/-- What the law finds laid. -/
def laidL : List (String × DataW Unit) := [("math/bits.deBruijn32tab", Rows.laid_math_bits_deBruijn32tab), ("math/bits.deBruijn64tab", Rows.laid_math_bits_deBruijn64tab), ("internal/strconv.uint64pow10", Rows.laid_internal_strconv_uint64pow10), ("strconv.ErrRange", Rows.laid_strconv_ErrRange), ("strconv.ErrSyntax", Rows.laid_strconv_ErrSyntax)]
/-- The door's own heap meets the condition: three closed facts. -/
theorem door_met (os : Os) (args : Array Value) : laidMetH Tryz.prog laidL ((World.doorLaid Tryz.prog 400 os).forCall (fun _ _ => 0) ⟨#[], args, []⟩).memory :=
  laidMetH_of_parts3 (fuel := 8) (laidMet_of_run' 8 (by kernel_rfl) (by kernel_rfl)) (by kernel_rfl) (by kernel_rfl)
noncomputable def gP : Nat := (Tryz.prog.globalNamed "internal/strconv.uint64pow10").getD 0
noncomputable def tP : TypeId := ((Tryz.prog.globals[gP]?).map (·.type)).getD 0
noncomputable def gS : Nat := (Tryz.prog.globalNamed "strconv.ErrSyntax").getD 0
noncomputable def tS : TypeId := ((Tryz.prog.globals[gS]?).map (·.type)).getD 0
noncomputable def gR : Nat := (Tryz.prog.globalNamed "strconv.ErrRange").getD 0
noncomputable def tR : TypeId := ((Tryz.prog.globals[gR]?).map (·.type)).getD 0
noncomputable def eP : TypeId := match Tryz.prog.underlying tP with | some (.array _ e) => e | _ => 0
noncomputable def mS : Array (String × TypeId) := match Tryz.prog.underlying tS with | some (.interface ms) => ms | _ => #[]
noncomputable def mR : Array (String × TypeId) := match Tryz.prog.underlying tR with | some (.interface ms) => ms | _ => #[]
theorem star : "*" ++ "errors.errorString" = "*errors.errorString" := by decide
theorem rowOne (u : TypeId) (h : Tryz.prog.typeName? 3 u = some "*errors.errorString") : u = 190 :=
  typeName_ptr_named (nm := "errors.errorString") (by rw [star]; kernel_rfl) (by kernel_rfl) (by decide) u (by rw [star]; exact h)
noncomputable def fE : Field := match Tryz.prog.underlying 192 with | some (.struct fs) => fs[0]! | _ => default
theorem gd {W : World} (h0 : laidMetH Tryz.prog laidL W) : Gd Tryz.prog (Cx.law W) := by
  rw [MakeChecks.laidMetH_plain _ _ _ (by kernel_rfl)] at h0
  have h1 := laidMet.tail h0
  have h2 := laidMet.tail h1
  have h3 := laidMet.tail h2
  have h4 := laidMet.tail h3
  intro p hp g hg
  refine ⟨fun ho => law_z W g (.inr ho), ?_⟩
  simp only [gvars, List.mem_cons, List.mem_nil_iff, or_false] at hp
  rcases hp with rfl | rfl | rfl
  · refine ⟨_, Lib.tabIs_of_head (P := Tryz.prog) (W := W) (name := "internal/strconv.uint64pow10") (k := .u64) (zs := Lib.pow10Tab) (g := gP) (t := tP) (e := eP) (n := 20) (by kernel_rfl) (by kernel_rfl) (by kernel_rfl) (by kernel_rfl) (by kernel_rfl) (by kernel_rfl) h2, rfl⟩
  · obtain ⟨a, s, hv, _⟩ := laid_sentinel (P := Tryz.prog) (W := W) (g := gS) (ti := tS) (tp := 190) (te := 192) (ts := fE.type) (ms := mS) (f := fE) h4 (by kernel_rfl) (by kernel_rfl) (by kernel_rfl) rowOne (by kernel_rfl) (by kernel_rfl) rfl (by kernel_rfl) (by kernel_rfl) (by kernel_rfl) (by kernel_rfl)
    exact ⟨_, hv, _, _, rfl⟩
  · obtain ⟨a, s, hv, _⟩ := laid_sentinel (P := Tryz.prog) (W := W) (g := gR) (ti := tR) (tp := 190) (te := 192) (ts := fE.type) (ms := mR) (f := fE) h3 (by kernel_rfl) (by kernel_rfl) (by kernel_rfl) rowOne (by kernel_rfl) (by kernel_rfl) rfl (by kernel_rfl) (by kernel_rfl) (by kernel_rfl) (by kernel_rfl)
    exact ⟨_, hv, _, _, rfl⟩
set_option maxRecDepth 100000 in
theorem lifted (os : Os) (started : os.Started) (H : Type) (enc : TypeId × Value → H) :
    ReturnsInHanded {} Tryz.checked os 3 .any (fun w args => (Rows.fnRoleTextSpec.pre enc Tryz.prog Tryz.f3 [] false w args ∧ laidMetH Tryz.prog laidL w) ∧ sizedMet enc Tryz.prog Tryz.f3 (OpenSpec.ofChange Rows.fnRoleTextSpec) false w args) (Rows.fnRoleTextSpec.post enc Tryz.prog Tryz.f3 false true false false) := by
  refine returnsInHanded_of_change_and (C := Tryz.checked) (X := fun w _ => laidMetH Tryz.prog laidL w) (fun _ _ _ hh h => h.of_heap hh) own started (by kernel_rfl) Tryz.func3
    (ChangeSpec.witness_shaped (enc := enc) (C := Tryz.checked) (os := os) (X := fun w _ => laidMetH Tryz.prog laidL w) false (World.doorLaid Tryz.prog 400 os) #[.slice none 0 0] 8 rfl (World.shaped_of_RefB (by kernel_rfl) (by kernel_rfl)) (by kernel_rfl) (by kernel_rfl) (by kernel_rfl) (door_met os _)) ?_
  intro W base args ds gs before hval0 hW _ _ hL _
  have hval : ∀ (j : Nat) t v, Tryz.f3.params[j]? = some t → args[j]? = some v → Value.okWide Tryz.prog W .any base t v := hval0
  have hW' := hW
  obtain ⟨p, q, hA0, hV, rfl, hfz, hnd⟩ := hW
  have hA : DataW.TrodAll enc Tryz.prog W 0 (fun _ => true) true Tryz.f3.params.toList args.toList ds p := hA0
  rw [Tryz.params3] at hA hval
  obtain ⟨v0, vs0, d0, ds0, p0, q0, hargs, rfl, rfl, h0, r0⟩ := trodAll_cons hA
  obtain ⟨rfl, rfl, rfl⟩ := trodAll_nil r0
  obtain rfl : args = #[v0] := by cases args; simp_all
  obtain ⟨rfl, rfl⟩ := trodVars_none hV
  have k0 := h0
  have lt0 : ∀ x ∈ p0, x.block < W.heap.size := by obtain ⟨m, hm⟩ := k0; exact DataW.trod_lt m _ _ _ hm
  obtain ⟨x0, f0, e0⟩ := arg_sh (c := Cx.law W) (s := .sl (.i .u8)) rfl (law_z W) (by kernel_rfl) (hval 0 22 v0 rfl rfl) h0
  obtain ⟨a0, rfl, b0⟩ := C.arg_by f0
  clear hA0 hval0
  refine (law_calls (C.laws_FnRoleText_c a0 b0) (W := W) (vs := #[v0]) (gd hL) (by simp only [VRs]; exact ⟨v0, _, rfl, e0, rfl⟩)).mono fun e W' ⟨he, hd⟩ => ?_
  have bel : Below W.heap.size W W' := hd
  subst he
  exact ⟨_, rfl, _, _, _, [], _, [], hW', trodAll_mk1 (shut_bool Tryz.underlying4 _), (trodAll_cons_mk (Below.trod laidOut (by kernel_rfl) (of_decide_eq_true (by kernel_rfl)) k0 bel lt0) trodAll_mk0), rfl, bel.frame _, fun h => by cases h⟩
theorem over : Rows.fnRoleTextRow.holds Tryz.pinned (OpenSpec.ofChange Rows.fnRoleTextSpec) :=
  OpenClaim.holds_of_wide 3 Tryz.f3 rfl rfl rfl rfl rfl rfl rfl ⟨rfl, rfl, rfl, rfl, rfl⟩ rfl rfl rfl rfl rfl (by kernel_rfl) Tryz.func3 (by kernel_rfl)
    (of_decide_eq_true (by kernel_rfl)) (by unfold Func.isWrapper; first | (rw [if_pos (by decide +kernel)]; kernel_rfl) | (rw [if_neg (by decide +kernel)]; exact ⟨rfl, rfl⟩))
    (fun os started H enc _ => lifted os started H enc)
theorem proved : Rows.FnRoleTextCardSaid :=
  Claim7.holds_tied_plain_at .later [] [.data, .data, .data, .sentinel, .sentinel] true (true, "44678f7d06588117a37046ca46bd2022967a8e729f53283f128c3bb8807a7a92") true
    over (fun _ h => by cases h) (by kernel_rfl) (fun _ h => by cases h) fnRoleText_row_tie rfl ⟨rfl, rfl⟩ (by kernel_rfl) rfl
    (fun f fn hf hfn => by
      obtain rfl : f = 3 := Option.some.inj ((show Tryz.prog.funcNamed "loop.example/g00122/laws.FnRoleText" = some 3 by kernel_rfl).symm.trans hf) |>.symm
      obtain rfl : fn = Tryz.f3 := (Option.some.inj (Tryz.func3.symm.trans hfn)).symm
      exact ⟨by kernel_rfl, fun j t ht => by
        rw [Tryz.params3] at ht
        have hm : t ∈ [22] := by simpa using Array.mem_of_getElem? ht
        have hall : ([22].all fun u => !Tryz.prog.wantsStandIn u) = true := by kernel_rfl
        exact (show Tryz.prog.wantsStandIn t = false by simpa using List.all_eq_true.1 hall t hm)⟩)
    (by kernel_rfl)
#print axioms proved
end Go.Proofs.YtmlfacjgfjmdeaaGreatDoor.fnRoleText
namespace Go.Proofs.YtmlfacjgfjmdeaaGreatDoor
/-- The card, under a short name, for the claim. -/
theorem fnRoleText_holds : Rows.FnRoleTextCardSaid := fnRoleText.proved
end Go.Proofs.YtmlfacjgfjmdeaaGreatDoor
