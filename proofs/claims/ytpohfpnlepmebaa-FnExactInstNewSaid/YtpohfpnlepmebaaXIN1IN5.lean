/- Roles' texts, agents and their keys, letters of none. Conditions: those that each theorem names. -/
import Derived.Test.YtpohfpnlepmebaaXC1L2
import Derived.Test.YtpohfpnlepmebaaXSymTx
import Derived.Test.YtpohfpnlepmebaaProg
import Derived.Below
import Derived.Deep.Draws
import Derived.Deep.AppendLies
import Derived.Maps.AppendAt
import Derived.OwnWalk
import Derived.Laws.BytesArg
import Derived.Laws.MakeOwn
import Derived.Laws.OwnMore
import Derived.Deep.OwnRows
import Derived.Tactics
import Derived.Lib.ConvBytes
import Derived.Laws.Slices
import Derived.WalkKit
import Derived.KernelRfl
import Derived.RowKit3
import Derived.Deep.LoopGhost
import Derived.Deep.QuietTactic
import Derived.BigQuiet
import Derived.WideLaws
import Derived.Deep.DeepCutAuto
import Derived.Deep.CutBlock
import Derived.Deep.RegionHeld3
import Derived.Laws.Rows
import Derived.Lib.AppendStr
import Derived.ArgAppend
import Derived.Laws.IdiomCopy
import Derived.OrdersHeld
import Derived.Laws.BitsLemmas
import Derived.RowKit
import Derived.ChangeKeysEq
import Derived.Lib.LazyBuf
set_option linter.unusedVariables false
set_option linter.unusedSimpArgs false
set_option maxRecDepth 40000
namespace Go.Proofs.Ytpohfpnlepmebaa.C
open Go.Sym Go.Proofs.Ytpohfpnlepmebaa.I
def rt10 : ByteArray := ⟨#[102, 114, 101, 115, 104, 32, 120, 10, 115, 101, 110, 100, 32, 94, 36, 120, 10, 116, 97, 107, 101, 32, 40, 63, 121, 44, 91, 40, 110, 53, 44, 40, 40, 94, 36, 120, 44, 36, 121, 41, 44, 36, 109, 41, 41, 44, 36, 113, 93, 41, 10, 115, 101, 110, 100, 32, 91, 40, 110, 54, 44, 40, 40, 36, 121, 44, 94, 36, 120, 41, 44, 36, 112, 41, 41, 44, 36, 115, 93, 10, 99, 108, 97, 105, 109, 32, 107, 40, 120, 40, 36, 120, 44, 36, 121, 41, 44, 40, 94, 36, 120, 44, 36, 121, 41, 41, 10]⟩
def rt11 : ByteArray := ⟨#[102, 114, 101, 115, 104, 32, 121, 10, 116, 97, 107, 101, 32, 63, 120, 10, 115, 101, 110, 100, 32, 40, 94, 36, 121, 44, 91, 40, 110, 53, 44, 40, 40, 36, 120, 44, 94, 36, 121, 41, 44, 36, 112, 41, 41, 44, 36, 115, 93, 41, 10, 116, 97, 107, 101, 32, 91, 40, 110, 54, 44, 40, 40, 94, 36, 121, 44, 36, 120, 41, 44, 36, 109, 41, 41, 44, 36, 113, 93, 10, 99, 108, 97, 105, 109, 32, 107, 40, 120, 40, 36, 121, 44, 36, 120, 41, 44, 40, 36, 120, 44, 94, 36, 121, 41, 41, 10]⟩
def rt20 : ByteArray := ⟨#[102, 114, 101, 115, 104, 32, 120, 10, 115, 101, 110, 100, 32, 36, 120, 10, 116, 97, 107, 101, 32, 123, 40, 110, 53, 44, 40, 40, 36, 120, 44, 63, 121, 41, 44, 36, 112, 41, 41, 44, 36, 107, 125, 10, 115, 101, 110, 100, 32, 123, 40, 110, 54, 44, 40, 40, 36, 121, 44, 36, 120, 41, 44, 36, 109, 41, 41, 44, 36, 107, 125, 10, 99, 108, 97, 105, 109, 32, 107, 40, 36, 107, 44, 40, 36, 120, 44, 36, 121, 41, 41, 10]⟩
def rt21 : ByteArray := ⟨#[102, 114, 101, 115, 104, 32, 121, 10, 116, 97, 107, 101, 32, 63, 120, 10, 115, 101, 110, 100, 32, 123, 40, 110, 53, 44, 40, 40, 36, 120, 44, 36, 121, 41, 44, 36, 109, 41, 41, 44, 36, 107, 125, 10, 116, 97, 107, 101, 32, 123, 40, 110, 54, 44, 40, 40, 36, 121, 44, 36, 120, 41, 44, 36, 112, 41, 41, 44, 36, 107, 125, 10, 99, 108, 97, 105, 109, 32, 107, 40, 36, 107, 44, 40, 36, 120, 44, 36, 121, 41, 41, 10]⟩
def rt30 : ByteArray := ⟨#[102, 114, 101, 115, 104, 32, 120, 10, 115, 101, 110, 100, 32, 94, 36, 120, 10, 116, 97, 107, 101, 32, 40, 63, 121, 44, 35, 40, 110, 53, 44, 107, 40, 40, 120, 40, 36, 120, 44, 36, 117, 41, 44, 120, 40, 36, 116, 44, 36, 121, 41, 41, 44, 40, 120, 40, 36, 120, 44, 36, 121, 41, 44, 40, 40, 94, 36, 120, 44, 36, 121, 41, 44, 40, 36, 109, 44, 36, 112, 41, 41, 41, 41, 41, 41, 10, 115, 101, 110, 100, 32, 35, 40, 110, 54, 44, 107, 40, 40, 120, 40, 36, 120, 44, 36, 117, 41, 44, 120, 40, 36, 116, 44, 36, 121, 41, 41, 44, 40, 120, 40, 36, 120, 44, 36, 121, 41, 44, 40, 40, 94, 36, 120, 44, 36, 121, 41, 44, 40, 36, 109, 44, 36, 112, 41, 41, 41, 41, 41, 10, 99, 108, 97, 105, 109, 32, 107, 40, 40, 120, 40, 36, 120, 44, 36, 117, 41, 44, 120, 40, 36, 116, 44, 36, 121, 41, 41, 44, 40, 120, 40, 36, 120, 44, 36, 121, 41, 44, 40, 40, 94, 36, 120, 44, 36, 121, 41, 44, 40, 36, 109, 44, 36, 112, 41, 41, 41, 41, 10]⟩
def rt31 : ByteArray := ⟨#[102, 114, 101, 115, 104, 32, 121, 10, 116, 97, 107, 101, 32, 63, 120, 10, 115, 101, 110, 100, 32, 40, 94, 36, 121, 44, 35, 40, 110, 53, 44, 107, 40, 40, 120, 40, 36, 116, 44, 36, 120, 41, 44, 120, 40, 36, 121, 44, 36, 117, 41, 41, 44, 40, 120, 40, 36, 121, 44, 36, 120, 41, 44, 40, 40, 36, 120, 44, 94, 36, 121, 41, 44, 40, 36, 112, 44, 36, 109, 41, 41, 41, 41, 41, 41, 10, 116, 97, 107, 101, 32, 35, 40, 110, 54, 44, 107, 40, 40, 120, 40, 36, 116, 44, 36, 120, 41, 44, 120, 40, 36, 121, 44, 36, 117, 41, 41, 44, 40, 120, 40, 36, 121, 44, 36, 120, 41, 44, 40, 40, 36, 120, 44, 94, 36, 121, 41, 44, 40, 36, 112, 44, 36, 109, 41, 41, 41, 41, 41, 10, 99, 108, 97, 105, 109, 32, 107, 40, 40, 120, 40, 36, 116, 44, 36, 120, 41, 44, 120, 40, 36, 121, 44, 36, 117, 41, 41, 44, 40, 120, 40, 36, 121, 44, 36, 120, 41, 44, 40, 40, 36, 120, 44, 94, 36, 121, 41, 44, 40, 36, 112, 44, 36, 109, 41, 41, 41, 41, 10]⟩
def rtB (w s : Int) : ByteArray := if w = 1 ∧ s = 0 then rt10 else if w = 1 ∧ s = 1 then rt11 else if w = 2 ∧ s = 0 then rt20 else if w = 2 ∧ s = 1 then rt21 else if w = 3 ∧ s = 0 then rt30 else if w = 3 ∧ s = 1 then rt31 else ⟨#[]⟩
theorem spec_RoleText_c (w s : Int)  : T 44 [i6 w, i6 s] [] (.str (rtB w s)) ([]) := by
  refine semT' (S := S0) hm spec_RoleText_ok (Nat.le_of_ble_eq_true rfl) ?_
  unfold spec_RoleText; dsimp only
  by_cases hw : 1 ≤ w ∧ w ≤ 3
  · by_cases hs : 0 ≤ s ∧ s ≤ 1
    · rcases (by omega : w = 1 ∨ w = 2 ∨ w = 3) with rfl | rfl | rfl <;> rcases (by omega : s = 0 ∨ s = 1) with rfl | rfl <;> simp
      all_goals exact LeV.ro rfl rfl rfl
    · have h0 : ¬ s = 0 := by omega
      have h1 : ¬ s = 1 := by omega
      rcases (by omega : w = 1 ∨ w = 2 ∨ w = 3) with rfl | rfl | rfl <;> simp [h0, h1]
      all_goals exact LeV.ro rfl rfl (by simp [rtB, h0, h1])
  · have h1 : ¬ w = 1 := by omega
    have h2 : ¬ w = 2 := by omega
    have h3 : ¬ w = 3 := by omega
    simp [h1, h2, h3]
    exact LeV.ro rfl rfl (by simp [rtB, h1, h2, h3])
theorem spec_RoleText_call {w s : Int}  {S : FuncId → Bool} {H : List Blk} {K : A → Dl → Prop} (hS : S 44 = false) (hK : K (.str (rtB w s)) (.news [])) : @WCall' Go.Proofs.Try.prog S 44 [i6 w, i6 s] H ⟨K⟩ :=
  WCall_pure hS (spec_RoleText_c w s) (by simp) (by simp) (by simp) hK
theorem spec_RoleText_k {w s : Int}  {S : FuncId → Bool} {H : List Blk} {K : A → Dl → Prop} {zs : List A} (hS : S 44 = false) (hv : viewL (viewA 8 H) zs = some [i6 w, i6 s]) (ho : noOwns zs = true ∨ nosl (.str (rtB w s)) = true) (hK : K (.str (rtB w s)) (.news [])) : @WCall' Go.Proofs.Try.prog S 44 zs H ⟨K⟩ :=
  WCall_pure hS (spec_RoleText_c w s) hv ho (by simp) hK
def rtxt (w s : Int) : ByteArray := if (1 ≤ w ∧ w ≤ 3) ∧ 0 ≤ s ∧ s ≤ 1 then rtB w s else ⟨#[]⟩
theorem impl_RoleText_c (w s : Int) (hw : -9223372036854775808 ≤ w) (hw2 : w < 9223372036854775808) : T 27 [i6 w, i6 s] [] (.str (rtxt w s)) ([]) := by
  refine semT' (S := S0) hm impl_RoleText_ok (Nat.le_of_ble_eq_true rfl) ?_
  unfold impl_RoleText; dsimp only
  simp
  refine impl_inRange_call (x := w) (lo := 1) (hi := 3) rfl ?_; simp
  by_cases h1 : 1 ≤ w ∧ w ≤ 3
  · have e1 : inF w 1 3 = true := by simp [inF, h1]
    simp [e1]
    refine impl_inRange_call (x := s) (lo := 0) (hi := 1) rfl ?_; simp
    by_cases h2 : 0 ≤ s ∧ s ≤ 1
    · have e2 : inF s 0 1 = true := by simp [inF, h2]
      simp [e2]
      rcases (by omega : w = 1 ∨ w = 2 ∨ w = 3) with rfl | rfl | rfl <;> rcases (by omega : s = 0 ∨ s = 1) with rfl | rfl <;> simp [show IntKind.i64.wrap 0 = 0 from by decide, show IntKind.i64.wrap 1 = 1 from by decide, show IntKind.i64.wrap 2 = 2 from by decide]
      all_goals repeat (refine ck_intro' (by first | omega | (simp; omega) | kernel_rfl) ?_; try simp)
      all_goals exact LeV.ro rfl rfl rfl
    · have e2 : inF s 0 1 = false := by simp [inF]; omega
      simp [e2]
      exact LeV.ro rfl rfl (by simp [rtxt, h2])
  · have e1 : inF w 1 3 = false := by simp [inF]; omega
    simp [e1]
    exact LeV.ro rfl rfl (by simp [rtxt, h1])
theorem impl_RoleText_call {w s : Int} (hw : -9223372036854775808 ≤ w) (hw2 : w < 9223372036854775808) {S : FuncId → Bool} {H : List Blk} {K : A → Dl → Prop} (hS : S 27 = false) (hK : K (.str (rtxt w s)) (.news [])) : @WCall' Go.Proofs.Try.prog S 27 [i6 w, i6 s] H ⟨K⟩ :=
  WCall_pure hS (impl_RoleText_c w s hw hw2) (by simp) (by simp) (by simp) hK
theorem impl_RoleText_k {w s : Int} (hw : -9223372036854775808 ≤ w) (hw2 : w < 9223372036854775808) {S : FuncId → Bool} {H : List Blk} {K : A → Dl → Prop} {zs : List A} (hS : S 27 = false) (hv : viewL (viewA 8 H) zs = some [i6 w, i6 s]) (ho : noOwns zs = true ∨ nosl (.str (rtxt w s)) = true) (hK : K (.str (rtxt w s)) (.news [])) : @WCall' Go.Proofs.Try.prog S 27 zs H ⟨K⟩ :=
  WCall_pure hS (impl_RoleText_c w s hw hw2) hv ho (by simp) hK
theorem rest_call {f : FuncId} {S : FuncId → Bool} {H : List Blk} {K : A → Dl → Prop} {zs : List A} {r : A} (hS : S f = true) (h : T f zs [] r []) (hx : noOwns zs = true) (hs : ∀ n, shiftA n r = r) (hK : K r (.full [] H)) : @WCall' Go.Proofs.Try.prog S f zs H ⟨K⟩ :=
  WCall_t' hS [] (h.lift hx hs H) (Nat.le_refl _) (fun _ _ _ => rfl) hK
theorem spec_l2Agent_c (a : Int)  : T 17 [i6 a] [] (.bool (inF a 0 4)) ([]) := by
  refine semT' (S := S0) hm spec_l2Agent_ok (Nat.le_of_ble_eq_true rfl) ?_
  unfold spec_l2Agent; dsimp only
  simp
  refine spec_l1In_call rfl ?_; simp
  exact LeV.ro rfl rfl (by simp)
theorem spec_l2Agent_call {a : Int}  {S : FuncId → Bool} {H : List Blk} {K : A → Dl → Prop} (hS : S 17 = false) (hK : K (.bool (inF a 0 4)) (.news [])) : @WCall' Go.Proofs.Try.prog S 17 [i6 a] H ⟨K⟩ :=
  WCall_pure hS (spec_l2Agent_c a) (by simp) (by simp) (by simp) hK
theorem spec_l2Agent_k {a : Int}  {S : FuncId → Bool} {H : List Blk} {K : A → Dl → Prop} {zs : List A} (hS : S 17 = false) (hv : viewL (viewA 8 H) zs = some [i6 a]) (ho : noOwns zs = true ∨ nosl (.bool (inF a 0 4)) = true) (hK : K (.bool (inF a 0 4)) (.news [])) : @WCall' Go.Proofs.Try.prog S 17 zs H ⟨K⟩ :=
  WCall_pure hS (spec_l2Agent_c a) hv ho (by simp) hK
theorem impl_isAgent_c (a : Int)  : T 28 [i6 a] [] (.bool (inF a 0 4)) ([]) := by
  refine semT' (S := S0) hm impl_isAgent_ok (Nat.le_of_ble_eq_true rfl) ?_
  unfold impl_isAgent; dsimp only
  simp
  refine impl_inRange_call rfl ?_; simp
  exact LeV.ro rfl rfl (by simp)
theorem impl_isAgent_call {a : Int}  {S : FuncId → Bool} {H : List Blk} {K : A → Dl → Prop} (hS : S 28 = false) (hK : K (.bool (inF a 0 4)) (.news [])) : @WCall' Go.Proofs.Try.prog S 28 [i6 a] H ⟨K⟩ :=
  WCall_pure hS (impl_isAgent_c a) (by simp) (by simp) (by simp) hK
theorem impl_isAgent_k {a : Int}  {S : FuncId → Bool} {H : List Blk} {K : A → Dl → Prop} {zs : List A} (hS : S 28 = false) (hv : viewL (viewA 8 H) zs = some [i6 a]) (ho : noOwns zs = true ∨ nosl (.bool (inF a 0 4)) = true) (hK : K (.bool (inF a 0 4)) (.news [])) : @WCall' Go.Proofs.Try.prog S 28 zs H ⟨K⟩ :=
  WCall_pure hS (impl_isAgent_c a) hv ho (by simp) hK
theorem spec_StaticKey_c (a : Nat) (ha : a < 5) : T 22 [i6 a] [] (i6 (90 + a)) ([]) := by
  refine semT' (S := S0) hm spec_StaticKey_ok (Nat.le_of_ble_eq_true rfl) ?_
  unfold spec_StaticKey; dsimp only
  have hw : IntKind.i64.wrap (90 + (a : Int)) = 90 + a := wrap64 (by omega) (by omega)
  have hi : inF a 0 4 = true := by simp [inF]; omega
  simp
  refine spec_l2Agent_call (a := a) rfl ?_; simp [hi, hw]
  exact LeV.ro rfl rfl (by simp)
theorem spec_StaticKey_call {a : Nat} (ha : a < 5) {S : FuncId → Bool} {H : List Blk} {K : A → Dl → Prop} (hS : S 22 = false) (hK : K (i6 (90 + a)) (.news [])) : @WCall' Go.Proofs.Try.prog S 22 [i6 a] H ⟨K⟩ :=
  WCall_pure hS (spec_StaticKey_c a ha) (by simp) (by simp) (by simp) hK
theorem spec_StaticKey_k {a : Nat} (ha : a < 5) {S : FuncId → Bool} {H : List Blk} {K : A → Dl → Prop} {zs : List A} (hS : S 22 = false) (hv : viewL (viewA 8 H) zs = some [i6 a]) (ho : noOwns zs = true ∨ nosl (i6 (90 + a)) = true) (hK : K (i6 (90 + a)) (.news [])) : @WCall' Go.Proofs.Try.prog S 22 zs H ⟨K⟩ :=
  WCall_pure hS (spec_StaticKey_c a ha) hv ho (by simp) hK
theorem impl_StaticKey_c (a : Nat) (ha : a < 5) : T 33 [i6 a] [] (i6 (90 + a)) ([]) := by
  refine semT' (S := S0) hm impl_StaticKey_ok (Nat.le_of_ble_eq_true rfl) ?_
  unfold impl_StaticKey; dsimp only
  have hw : IntKind.i64.wrap (90 + (a : Int)) = 90 + a := wrap64 (by omega) (by omega)
  have hi : inF a 0 4 = true := by simp [inF]; omega
  simp
  refine impl_isAgent_call (a := a) rfl ?_; simp [hi, hw]
  exact LeV.ro rfl rfl (by simp)
theorem impl_StaticKey_call {a : Nat} (ha : a < 5) {S : FuncId → Bool} {H : List Blk} {K : A → Dl → Prop} (hS : S 33 = false) (hK : K (i6 (90 + a)) (.news [])) : @WCall' Go.Proofs.Try.prog S 33 [i6 a] H ⟨K⟩ :=
  WCall_pure hS (impl_StaticKey_c a ha) (by simp) (by simp) (by simp) hK
theorem impl_StaticKey_k {a : Nat} (ha : a < 5) {S : FuncId → Bool} {H : List Blk} {K : A → Dl → Prop} {zs : List A} (hS : S 33 = false) (hv : viewL (viewA 8 H) zs = some [i6 a]) (ho : noOwns zs = true ∨ nosl (i6 (90 + a)) = true) (hK : K (i6 (90 + a)) (.news [])) : @WCall' Go.Proofs.Try.prog S 33 zs H ⟨K⟩ :=
  WCall_pure hS (impl_StaticKey_c a ha) hv ho (by simp) hK
/-- A public key of an agent. -/
def powO (ns : List Nd) (a : Int) : List Nd × Int := addF (addF ns ⟨1, 90 + a, 0⟩).1 ⟨7, (addF ns ⟨1, 90 + a, 0⟩).2, 0⟩
theorem impl_Pool_powerOf_m (H : List Blk) (b off nb vb eb : Nat) (cb : List A) (ns : List Nd) (a : Nat) (h : PIn H b off nb cb) (hl : ns.length ≤ 500) (ha : a < 5) : T 35 [.ptr b vb off, i6 a] (pset H b off nb vb eb cb ns) (i6 (powO ns a).2) (pset H b off nb vb eb cb (powO ns a).1) := by
  refine semT' (S := (fun f => [53, 34].contains f)) hm impl_Pool_powerOf_ok (Nat.le_of_ble_eq_true rfl) ?_
  unfold impl_Pool_powerOf; dsimp only
  simp
  refine impl_StaticKey_call (a := a) ha rfl ?_; simp
  refine pool_call rfl b off nb vb eb cb ns (addF ns ⟨1, 90 + (a : Int), 0⟩).1 (h.pset vb eb ns) (pset_pset h vb eb ns ns) (by rw [pset_pset h, pset_pset h]; exact impl_Pool_name_m H b off nb vb eb cb ns _ h hl) ?_
  simp [pset_pset h]
  have hl1 := addF_len ns ⟨1, 90 + (a : Int), 0⟩ hl
  have e : powO ns a = addF (addF ns ⟨1, 90 + (a : Int), 0⟩).1 ⟨7, (addF ns ⟨1, 90 + (a : Int), 0⟩).2, 0⟩ := rfl
  rw [e]
  generalize addF ns ⟨1, 90 + (a : Int), 0⟩ = A1 at hl1 ⊢
  refine pool_call rfl b off nb vb eb cb A1.1 (addF A1.1 ⟨7, A1.2, 0⟩).1 (h.pset vb eb _) (pset_pset h vb eb _ _) (by rw [pset_pset h, pset_pset h]; exact impl_Pool_add_m H b off nb vb eb cb A1.1 7 A1.2 0 h hl1) ?_
  simp [pset_pset h]
  exact LeV.refl _ _ _
theorem spec_l1Max_c (a b : Int)  : T 47 [i6 a, i6 b] [] (i6 (max a b)) ([]) := by
  refine semT' (S := S0) hm spec_l1Max_ok (Nat.le_of_ble_eq_true rfl) ?_
  unfold spec_l1Max; dsimp only
  simp
  refine br_intro' (fun h => ?_) (fun h => ?_) <;> (have h0 := h) <;> (try simp at h) <;> try simp [h0, h]
  · exact LeV.ro rfl rfl (by simp; omega)
  · exact LeV.ro rfl rfl (by simp; omega)
theorem spec_l1Max_call {a b : Int}  {S : FuncId → Bool} {H : List Blk} {K : A → Dl → Prop} (hS : S 47 = false) (hK : K (i6 (max a b)) (.news [])) : @WCall' Go.Proofs.Try.prog S 47 [i6 a, i6 b] H ⟨K⟩ :=
  WCall_pure hS (spec_l1Max_c a b) (by simp) (by simp) (by simp) hK
theorem spec_l1Max_k {a b : Int}  {S : FuncId → Bool} {H : List Blk} {K : A → Dl → Prop} {zs : List A} (hS : S 47 = false) (hv : viewL (viewA 8 H) zs = some [i6 a, i6 b]) (ho : noOwns zs = true ∨ nosl (i6 (max a b)) = true) (hK : K (i6 (max a b)) (.news [])) : @WCall' Go.Proofs.Try.prog S 47 zs H ⟨K⟩ :=
  WCall_pure hS (spec_l1Max_c a b) hv ho (by simp) hK
theorem spec_l1Min_c (a b : Int)  : T 46 [i6 a, i6 b] [] (i6 (min a b)) ([]) := by
  refine semT' (S := S0) hm spec_l1Min_ok (Nat.le_of_ble_eq_true rfl) ?_
  unfold spec_l1Min; dsimp only
  simp
  refine br_intro' (fun h => ?_) (fun h => ?_) <;> (have h0 := h) <;> (try simp at h) <;> try simp [h0, h]
  · exact LeV.ro rfl rfl (by simp; omega)
  · exact LeV.ro rfl rfl (by simp; omega)
theorem spec_l1Min_call {a b : Int}  {S : FuncId → Bool} {H : List Blk} {K : A → Dl → Prop} (hS : S 46 = false) (hK : K (i6 (min a b)) (.news [])) : @WCall' Go.Proofs.Try.prog S 46 [i6 a, i6 b] H ⟨K⟩ :=
  WCall_pure hS (spec_l1Min_c a b) (by simp) (by simp) (by simp) hK
theorem spec_l1Min_k {a b : Int}  {S : FuncId → Bool} {H : List Blk} {K : A → Dl → Prop} {zs : List A} (hS : S 46 = false) (hv : viewL (viewA 8 H) zs = some [i6 a, i6 b]) (ho : noOwns zs = true ∨ nosl (i6 (min a b)) = true) (hK : K (i6 (min a b)) (.news [])) : @WCall' Go.Proofs.Try.prog S 46 zs H ⟨K⟩ :=
  WCall_pure hS (spec_l1Min_c a b) hv ho (by simp) hK
theorem spec_LongKey_c (a : Nat) (ha : a < 5) : T 20 [i6 a] [] (i6 (50 + a)) ([]) := by
  refine semT' (S := S0) hm spec_LongKey_ok (Nat.le_of_ble_eq_true rfl) ?_
  unfold spec_LongKey; dsimp only
  have hw : IntKind.i64.wrap (50 + (a : Int)) = 50 + a := wrap64 (by omega) (by omega)
  have hi : inF a 0 4 = true := by simp [inF]; omega
  simp
  refine spec_l2Agent_call (a := a) rfl ?_; simp [hi, hw]
  exact LeV.ro rfl rfl (by simp)
theorem spec_LongKey_call {a : Nat} (ha : a < 5) {S : FuncId → Bool} {H : List Blk} {K : A → Dl → Prop} (hS : S 20 = false) (hK : K (i6 (50 + a)) (.news [])) : @WCall' Go.Proofs.Try.prog S 20 [i6 a] H ⟨K⟩ :=
  WCall_pure hS (spec_LongKey_c a ha) (by simp) (by simp) (by simp) hK
theorem spec_LongKey_k {a : Nat} (ha : a < 5) {S : FuncId → Bool} {H : List Blk} {K : A → Dl → Prop} {zs : List A} (hS : S 20 = false) (hv : viewL (viewA 8 H) zs = some [i6 a]) (ho : noOwns zs = true ∨ nosl (i6 (50 + a)) = true) (hK : K (i6 (50 + a)) (.news [])) : @WCall' Go.Proofs.Try.prog S 20 zs H ⟨K⟩ :=
  WCall_pure hS (spec_LongKey_c a ha) hv ho (by simp) hK
theorem impl_LongKey_c (a : Nat) (ha : a < 5) : T 31 [i6 a] [] (i6 (50 + a)) ([]) := by
  refine semT' (S := S0) hm impl_LongKey_ok (Nat.le_of_ble_eq_true rfl) ?_
  unfold impl_LongKey; dsimp only
  have hw : IntKind.i64.wrap (50 + (a : Int)) = 50 + a := wrap64 (by omega) (by omega)
  have hi : inF a 0 4 = true := by simp [inF]; omega
  simp
  refine impl_isAgent_call (a := a) rfl ?_; simp [hi, hw]
  exact LeV.ro rfl rfl (by simp)
theorem impl_LongKey_call {a : Nat} (ha : a < 5) {S : FuncId → Bool} {H : List Blk} {K : A → Dl → Prop} (hS : S 31 = false) (hK : K (i6 (50 + a)) (.news [])) : @WCall' Go.Proofs.Try.prog S 31 [i6 a] H ⟨K⟩ :=
  WCall_pure hS (impl_LongKey_c a ha) (by simp) (by simp) (by simp) hK
theorem impl_LongKey_k {a : Nat} (ha : a < 5) {S : FuncId → Bool} {H : List Blk} {K : A → Dl → Prop} {zs : List A} (hS : S 31 = false) (hv : viewL (viewA 8 H) zs = some [i6 a]) (ho : noOwns zs = true ∨ nosl (i6 (50 + a)) = true) (hK : K (i6 (50 + a)) (.news [])) : @WCall' Go.Proofs.Try.prog S 31 zs H ⟨K⟩ :=
  WCall_pure hS (impl_LongKey_c a ha) hv ho (by simp) hK
/-- A key of two agents. -/
def shK (a b : Nat) : Int := 60 + 5 * min (a : Int) b + max (a : Int) b
theorem spec_SharedKey_c (a b : Nat) (ha : a < 5) (hb : b < 5) (hne : a ≠ b) : T 21 [i6 a, i6 b] [] (i6 (shK a b)) ([]) := by
  refine semT' (S := S0) hm spec_SharedKey_ok (Nat.le_of_ble_eq_true rfl) ?_
  unfold spec_SharedKey; dsimp only
  have hw1 : IntKind.i64.wrap (5 * min (a : Int) b) = 5 * min (a : Int) b := wrap64 (by omega) (by omega)
  have hw2 : IntKind.i64.wrap (60 + 5 * min (a : Int) b) = 60 + 5 * min (a : Int) b := wrap64 (by omega) (by omega)
  have hw3 : IntKind.i64.wrap (60 + 5 * min (a : Int) b + max (a : Int) b) = 60 + 5 * min (a : Int) b + max (a : Int) b := wrap64 (by omega) (by omega)
  have hi : inF a 0 4 = true := by simp [inF]; omega
  have hj : inF b 0 4 = true := by simp [inF]; omega
  have hne' : decide ((a : Int) = b) = false := decide_eq_false (by omega)
  simp
  refine spec_l2Agent_call (a := a) rfl ?_; simp [hi]
  refine spec_l2Agent_call (a := b) rfl ?_; simp [hj]; simp [hne']
  refine spec_l1Min_call (a := a) (b := b) rfl ?_; simp [hw1, hw2]
  refine spec_l1Max_call (a := a) (b := b) rfl ?_; simp [hw3]
  repeat (refine ck_intro' (by first | omega | (simp; omega) | kernel_rfl) ?_; try simp)
  exact LeV.ro rfl rfl (by simp [shK])
theorem spec_SharedKey_call {a b : Nat} (ha : a < 5) (hb : b < 5) (hne : a ≠ b) {S : FuncId → Bool} {H : List Blk} {K : A → Dl → Prop} (hS : S 21 = false) (hK : K (i6 (shK a b)) (.news [])) : @WCall' Go.Proofs.Try.prog S 21 [i6 a, i6 b] H ⟨K⟩ :=
  WCall_pure hS (spec_SharedKey_c a b ha hb hne) (by simp) (by simp) (by simp) hK
theorem spec_SharedKey_k {a b : Nat} (ha : a < 5) (hb : b < 5) (hne : a ≠ b) {S : FuncId → Bool} {H : List Blk} {K : A → Dl → Prop} {zs : List A} (hS : S 21 = false) (hv : viewL (viewA 8 H) zs = some [i6 a, i6 b]) (ho : noOwns zs = true ∨ nosl (i6 (shK a b)) = true) (hK : K (i6 (shK a b)) (.news [])) : @WCall' Go.Proofs.Try.prog S 21 zs H ⟨K⟩ :=
  WCall_pure hS (spec_SharedKey_c a b ha hb hne) hv ho (by simp) hK
theorem impl_SharedKey_c (a b : Nat) (ha : a < 5) (hb : b < 5) (hne : a ≠ b) : T 32 [i6 a, i6 b] [] (i6 (shK a b)) ([]) := by
  refine semT' (S := S0) hm impl_SharedKey_ok (Nat.le_of_ble_eq_true rfl) ?_
  unfold impl_SharedKey; dsimp only
  have hw1 : IntKind.i64.wrap (5 * min (a : Int) b) = 5 * min (a : Int) b := wrap64 (by omega) (by omega)
  have hw2 : IntKind.i64.wrap (60 + 5 * min (a : Int) b) = 60 + 5 * min (a : Int) b := wrap64 (by omega) (by omega)
  have hw3 : IntKind.i64.wrap (60 + 5 * min (a : Int) b + max (a : Int) b) = 60 + 5 * min (a : Int) b + max (a : Int) b := wrap64 (by omega) (by omega)
  have hi : inF a 0 4 = true := by simp [inF]; omega
  have hj : inF b 0 4 = true := by simp [inF]; omega
  have hne' : decide ((a : Int) = b) = false := decide_eq_false (by omega)
  simp
  refine impl_isAgent_call (a := a) rfl ?_; simp [hi]
  refine impl_isAgent_call (a := b) rfl ?_; simp [hj]; simp [hne', hw1, hw2, hw3]
  rw [show (if b < a then (b : Int) else a) = min (a : Int) b by split <;> omega, show (if a < b then (b : Int) else a) = max (a : Int) b by split <;> omega, hw1, hw2, hw3]
  exact LeV.ro rfl rfl (by simp [shK])
theorem impl_SharedKey_call {a b : Nat} (ha : a < 5) (hb : b < 5) (hne : a ≠ b) {S : FuncId → Bool} {H : List Blk} {K : A → Dl → Prop} (hS : S 32 = false) (hK : K (i6 (shK a b)) (.news [])) : @WCall' Go.Proofs.Try.prog S 32 [i6 a, i6 b] H ⟨K⟩ :=
  WCall_pure hS (impl_SharedKey_c a b ha hb hne) (by simp) (by simp) (by simp) hK
theorem impl_SharedKey_k {a b : Nat} (ha : a < 5) (hb : b < 5) (hne : a ≠ b) {S : FuncId → Bool} {H : List Blk} {K : A → Dl → Prop} {zs : List A} (hS : S 32 = false) (hv : viewL (viewA 8 H) zs = some [i6 a, i6 b]) (ho : noOwns zs = true ∨ nosl (i6 (shK a b)) = true) (hK : K (i6 (shK a b)) (.news [])) : @WCall' Go.Proofs.Try.prog S 32 zs H ⟨K⟩ :=
  WCall_pure hS (impl_SharedKey_c a b ha hb hne) hv ho (by simp) hK
def e26 : List Int := List.replicate 26 (-1)
theorem spec_EnvNew_c   : T 19 [] [] (jref 0 e26) ([jblk e26]) := by
  refine semT' (S := S0) hm spec_EnvNew_ok (Nat.le_of_ble_eq_true rfl) ?_
  unfold spec_EnvNew; dsimp only
  simp
  refine WLoop_virt 1 [(1, A.ref 0 0 0 0), (2, i6 0)] ?_ ?_
  · intro s y hy
    simp [Sym.get] at hy ⊢
    (repeat' split at hy) <;> simp_all
  refine WLoop_fam (fun j : Nat => [(1, jref 0 (List.replicate j (-1))), (2, i6 j)]) (fun j => [jblk (List.replicate j (-1))]) (fun j => 26 - j) (fun j => j ≤ 26) ?_ 0 (Nat.zero_le _)
  intro j hj ih
  simp
  refine br_intro' (fun u => ?_) (fun u => ?_) <;> (have u0 := u) <;> simp at u <;> simp [u0, u]
  · have hw := wrap_succ (n := j) (by omega)
    refine ck_intro' (by omega) ?_; simp [hw]
    rw [show A.ref 0 (j + 1) 0 (j + 1) = jref 0 (List.replicate (j + 1) (-1)) by simp]
    refine WLoop_drop [jblk (List.replicate (j + 1) (-1))] [_] (by simp [List.replicate_succ', ints_snoc]; exact rfl) (by simp) (by simp) (by simp) ?_
    exact ih (j + 1) (by omega) (by omega)
  · obtain rfl : j = 26 := by omega
    rw [show e26 = List.replicate 26 (-1) from rfl]
    first | (refine LeV.tell [none] ?_ ?_ ?_ <;> (simp; done)) | (refine LeV.tell [some 0] ?_ ?_ ?_ <;> (simp; done)) | (refine LeV.tell [some 1] ?_ ?_ ?_ <;> (simp; done)) | (refine LeV.tell [some 2] ?_ ?_ ?_ <;> (simp; done)) | (refine LeV.tell [some 3] ?_ ?_ ?_ <;> (simp; done)) | (refine LeV.tell [some 4] ?_ ?_ ?_ <;> (simp; done)) | (refine LeV.tell [some 5] ?_ ?_ ?_ <;> (simp; done)) | (refine LeV.tell [some 6] ?_ ?_ ?_ <;> (simp; done)) | (refine LeV.tell [some 7] ?_ ?_ ?_ <;> (simp; done)) | (refine LeV.tell [some 8] ?_ ?_ ?_ <;> (simp; done)) | (refine LeV.tell [some 9] ?_ ?_ ?_ <;> (simp; done)) | (refine LeV.tell [some 10] ?_ ?_ ?_ <;> (simp; done)) | (refine LeV.tell [some 11] ?_ ?_ ?_ <;> (simp; done)) | (refine LeV.tell [some 12] ?_ ?_ ?_ <;> (simp; done)) | (refine LeV.tell [some 13] ?_ ?_ ?_ <;> (simp; done)) | (refine LeV.tell [some 14] ?_ ?_ ?_ <;> (simp; done)) | (refine LeV.tell [some 15] ?_ ?_ ?_ <;> (simp; done))
theorem spec_EnvNew_k   {S : FuncId → Bool} {H : List Blk} {K : A → Dl → Prop} {zs : List A} (hS : S 19 = false) (hv : viewL (viewA 8 H) zs = some []) (ho : noOwns zs = true ∨ nosl (jref 0 e26) = true ∧ noslBlks ([jblk e26]) = true) (hK : K (shiftA H.length (jref 0 e26)) (.news (([jblk e26]).map (shiftB H.length)))) : @WCall' Go.Proofs.Try.prog S 19 zs H ⟨K⟩ :=
  WCall_ro' hS hv (spec_EnvNew_c ) rfl ho hK
end Go.Proofs.Ytpohfpnlepmebaa.C

set_option linter.unusedVariables false
set_option linter.unusedSimpArgs false
namespace Go.Proofs.Ytpohfpnlepmebaa.R
open Go.RowKit
section
variable {P : Program} {ops : Array Oper} {Q : Exit → Act → World → Prop} {md : Region.Mode} {S : World → Prop} {ds : List Nat}
theorem enters_ {f : FuncId} {fn : Func} (hf : P.funcs[f]? = some fn) (hname : (fn.name == "runtime.NumGoroutine") = false) (hb : fn.body.isSome = true) (args : Array Value) (w : World) : (callFunc f args).run P w = .ok (.enter f args) w := by
  have h1 : fn.name ≠ "runtime.NumGoroutine" := by simpa using hname
  obtain ⟨c, hc⟩ := Option.isSome_iff_exists.1 hb
  simp [callFunc, hf, h1, hc]
/-- A call in a plain region, as_ an arm of go_wp2_with ('hd' first: it fails at once at another operation). -/
theorem goesL_ {rest : List Oper} {oi : Oper} {a : Act} {w : World} (N : Option Tmp) (hd : oi.dst = N) (hg : oi.guard = none) {f : FuncId} {fn : Func} {as_ : Array Operand} {ts : Array TypeId} (hf : P.funcs[f]? = some fn) (hname : (fn.name == "runtime.NumGoroutine") = false) (hb : fn.body.isSome = true) (args : Array Value)
    (hop : oi.op = .call { callee := .value (.func f), args := as_, argTypes := ts }) (hargs : as_.map a.eval = args)
    (h : Calls P f args w fun e w' => ∃ v, e = .returned v ∧ wpList P ops Q rest (a.put N v) w') : wpList P ops Q (oi :: rest) a w := by
  refine wpList_plain hg fun K hK => ?_
  have he := enters_ hf hname hb args w
  have hrun : (execOp a.eval oi).run P w = .ok (.enter f args) w := by
    unfold execOp
    simp [hop, resolve, Deferred.ofValue, invoke, Act.eval, hargs, he]
  unfold Oper.wp
  rw [hrun, Oper.upon_enter]
  refine h.mono fun e w'' hh => ?_
  obtain ⟨v, rfl, hk⟩ := hh
  subst hd
  exact hK _ _ hk
end
section
variable {P : Program} {ops : Array Oper} {rest : List Oper} {o : Oper} {a : Act} {Q : Exit → Act → World → Prop} {W : World}
/-- The operation is a call of this function (a cheap look ahead of a dear step). -/
theorem gate_callee {f : FuncId} {as_ : Array Operand} {ts : Array TypeId} (_ho : o.op = .call { callee := .value (.func f), args := as_, argTypes := ts }) (h : wpList P ops Q (o :: rest) a W) : wpList P ops Q (o :: rest) a W := h
/-- The operation is a builtin over these places. -/
theorem gate_builtin {b : Builtin} {xs : Array Operand} {ts : Array TypeId} (_ho : o.op = .call { callee := .builtin b, args := xs, argTypes := ts }) (h : wpList P ops Q (o :: rest) a W) : wpList P ops Q (o :: rest) a W := h
end
/-- A fact that the walk's simp doesn't look into. -/
structure Aside0 (p : Prop) : Prop where mk :: (out : p)
/-- The world is the old one, some orders having been drawn. -/
structure Drawn0 (w w' : World) : Prop where mk :: (out : ∃ n, w' = w.drewN n)
theorem Drawn0.refl (w : World) : Drawn0 w w := ⟨⟨0, rfl⟩⟩
theorem Drawn0.step {w w' : World} (h : Drawn0 w w') (n : Nat) : Drawn0 w (w'.drewN n) := by
  obtain ⟨m, rfl⟩ := h
  exact ⟨⟨m + n, World.drewN_drewN ..⟩⟩
theorem below_alloc {w W : World} (h : Below w.heap.size w W) (o : Obj) : Below w.heap.size w (W.alloc o) := h.alloc h.size o
theorem pw_below_drewN {B : Nat} {w W : World} (h : Below B w W) (n : Nat) : Below B w (W.drewN n) := ⟨h.os, h.tape, h.output, h.size, h.block⟩
theorem blk_set {w : World} {g : Nat} {t : TypeId} {cs : Array Value} (h : w.heap[g]? = some (.cells cs t (0, 0))) (i : Nat) (u : Value) : (w.setCell ⟨g, i, none⟩ u).heap[g]? = some (.cells (cs.setIfInBounds i u) t (0, 0)) := by
  simp [World.setCell, Array.getElem?_modify, h]
theorem blk_cell {w : World} {g : Nat} {t : TypeId} {cs : Array Value} (h : w.heap[g]? = some (.cells cs t (0, 0))) (i : Nat) : w.cell? ⟨g, i, none⟩ = cs[i]? := cell_of_row w g i cs t (0, 0) h
theorem blk_frozen {w : World} {g : Nat} {t : TypeId} {cs : Array Value} (h : w.heap[g]? = some (.cells cs t (0, 0))) (i : Nat) : w.frozen? ⟨g, i, none⟩ = false := by simp [World.frozen?, h]
section
variable {w w1 : World} {base n size : Nat} {e : TypeId} {v : Value} {xs : List Value}
/-- What a run of cells written leaves. -/
theorem setCells_far {g : Nat} : ∀ (vs : List Value) (o : Nat) {w : World} (k : Nat), k ≠ g → (w.setCells g o vs).heap[k]? = w.heap[k]?
  | [], _, _, _, _ => rfl
  | v :: r, o, w, k, hk => by
    rw [World.setCells, setCells_far r (o + 1) k hk]
    exact Below.heap_setCell w ⟨g, o, none⟩ v k hk
theorem setCells_same (g : Nat) : ∀ (vs : List Value) (o : Nat) (w : World), (w.setCells g o vs).os = w.os ∧ (w.setCells g o vs).tape = w.tape ∧ (w.setCells g o vs).output = w.output ∧ (w.setCells g o vs).heap.size = w.heap.size
  | [], _, _ => ⟨rfl, rfl, rfl, rfl⟩
  | v :: r, o, w => by
    obtain ⟨h1, h2, h3, h4⟩ := setCells_same g r (o + 1) (w.setCell ⟨g, o, none⟩ v)
    rw [World.setCells]
    exact ⟨h1, h2, h3, by rw [h4]; simp [World.setCell]⟩
theorem setCells_row {g : Nat} {e : TypeId} : ∀ (vs : List Value) (o : Nat) (w : World) (cur : Array Value), w.heap[g]? = some (.cells cur e (0, 0)) → o + vs.length ≤ cur.size →
    ∃ cur', (w.setCells g o vs).heap[g]? = some (.cells cur' e (0, 0)) ∧ cur'.size = cur.size ∧ cur'.toList = cur.toList.take o ++ vs ++ cur.toList.drop (o + vs.length)
  | [], o, w, cur, h, _ => ⟨cur, h, rfl, by simp⟩
  | v :: r, o, w, cur, h, hl => by
    have h2 := blk_set h o v
    simp only [List.length_cons] at hl
    obtain ⟨cur', h3, h4, h5⟩ := setCells_row r (o + 1) (w.setCell ⟨g, o, none⟩ v) _ h2 (by simp; omega)
    refine ⟨cur', h3, by rw [h4]; simp, ?_⟩
    rw [h5, Array.toList_setIfInBounds]
    have ho : o < cur.toList.length := by rw [Array.length_toList]; omega
    rw [List.take_set, List.drop_set_of_lt (by omega)]
    simp only [List.length_cons]
    rw [show o + 1 + r.length = o + (r.length + 1) by omega]
    congr 1
    rw [List.take_succ_eq_append_getElem ho, List.set_append_right _ _ (by rw [List.length_take]; omega)]
    have ho' : o < cur.size := by omega
    simp [Nat.min_eq_left (Nat.le_of_lt ho')]
end
theorem below_drew1 {base : Nat} {w W : World} (h : Below base w W) : Below base w W.drew := h.drew
/-! ### bits_Mul64: function 54 -/
def bits_Mul64.f (a0 : Int) (a1 : Int) : Option (Int × Int) := some (IntKind.u64.wrap ((IntKind.u64.wrap ((IntKind.u64.wrap ((a0 / 4294967296) * (a1 / 4294967296))) + ((IntKind.u64.wrap ((IntKind.u64.wrap ((a0 / 4294967296) * (Go.bits .and .u64 a1 4294967295))) + ((IntKind.u64.wrap ((Go.bits .and .u64 a0 4294967295) * (Go.bits .and .u64 a1 4294967295))) / 4294967296))) / 4294967296))) + ((IntKind.u64.wrap ((Go.bits .and .u64 (IntKind.u64.wrap ((IntKind.u64.wrap ((a0 / 4294967296) * (Go.bits .and .u64 a1 4294967295))) + ((IntKind.u64.wrap ((Go.bits .and .u64 a0 4294967295) * (Go.bits .and .u64 a1 4294967295))) / 4294967296))) 4294967295) + (IntKind.u64.wrap ((Go.bits .and .u64 a0 4294967295) * (a1 / 4294967296))))) / 4294967296)), IntKind.u64.wrap (a0 * a1))
set_option maxHeartbeats 8000000 in
set_option maxRecDepth 100000 in
theorem bits_Mul64.calls (a0 : Int) (a1 : Int) (r1 : Int) (r2 : Int) (w : World) (h : bits_Mul64.f a0 a1 = some (r1, r2)) :
    Calls Try.prog 60 #[.int .u64 a0, .int .u64 a1] w fun e w' => e = .returned (.tuple #[.int .u64 r1, .int .u64 r2]) ∧ Drawn0 w w' := by
  have H : (some (IntKind.u64.wrap ((IntKind.u64.wrap ((IntKind.u64.wrap ((a0 / 4294967296) * (a1 / 4294967296))) + ((IntKind.u64.wrap ((IntKind.u64.wrap ((a0 / 4294967296) * (Go.bits .and .u64 a1 4294967295))) + ((IntKind.u64.wrap ((Go.bits .and .u64 a0 4294967295) * (Go.bits .and .u64 a1 4294967295))) / 4294967296))) / 4294967296))) + ((IntKind.u64.wrap ((Go.bits .and .u64 (IntKind.u64.wrap ((IntKind.u64.wrap ((a0 / 4294967296) * (Go.bits .and .u64 a1 4294967295))) + ((IntKind.u64.wrap ((Go.bits .and .u64 a0 4294967295) * (Go.bits .and .u64 a1 4294967295))) / 4294967296))) 4294967295) + (IntKind.u64.wrap ((Go.bits .and .u64 a0 4294967295) * (a1 / 4294967296))))) / 4294967296)), IntKind.u64.wrap (a0 * a1))) = some (r1, r2) := h
  clear h
  simp only [Option.some.injEq, Prod.mk.injEq] at H
  obtain ⟨rfl, rfl⟩ := H
  go_enter Try.func60, Try.ntmps60
  go_wp2
  go_ret2
  exact ⟨by first | rfl | (simp; done) | (simp [*]; done), by repeat (first | exact Drawn0.refl _ | apply Drawn0.step)⟩

/-! ### bits_Mul: function 44 -/
def bits_Mul.f (a0 : Int) (a1 : Int) : Option (Int × Int) := (bits_Mul64.f a0 a1).bind fun bt101 => (some (bt101.1, bt101.2))
set_option maxHeartbeats 8000000 in
set_option maxRecDepth 100000 in
theorem bits_Mul.calls (a0 : Int) (a1 : Int) (r1 : Int) (r2 : Int) (w : World) (h : bits_Mul.f a0 a1 = some (r1, r2)) :
    Calls Try.prog 57 #[.int .u64 a0, .int .u64 a1] w fun e w' => e = .returned (.tuple #[.int .u64 r1, .int .u64 r2]) ∧ Drawn0 w w' := by
  have H : ((bits_Mul64.f a0 a1).bind fun bt101 => (some (bt101.1, bt101.2))) = some (r1, r2) := h
  clear h
  replace H := Option.bind_eq_some_iff.mp H
  obtain ⟨⟨t101, t102⟩, A30, H⟩ := H
  replace H : (some (t101, t102)) = some (r1, r2) := H
  have A3 := Aside0.mk A30
  clear A30
  simp only [Option.some.injEq, Prod.mk.injEq] at H
  obtain ⟨rfl, rfl⟩ := H
  go_enter Try.func57, Try.ntmps57
  go_wp2_with (first | ((with_reducible refine gate_callee (f := 60) rfl ?_); refine goesL_ (some 25) rfl rfl Try.func60 (by kernel_rfl) rfl #[.int .u64 a0, .int .u64 a1] rfl (by (try simp only [List.map_toArray, List.map_cons, List.map_nil]); first | done | rfl | (simp only [List.length_drop, List.length_take]; rfl)) ?_; (with_reducible refine (bits_Mul64.calls a0 a1 t101 t102 _ A3.out).mono ?_); rintro e w' ⟨rfl, ⟨nd, rfl⟩⟩; refine ⟨_, rfl, ?_⟩))
  go_ret2
  exact ⟨by first | rfl | (simp; done) | (simp [*]; done), by repeat (first | exact Drawn0.refl _ | apply Drawn0.step)⟩

/-! ### slices_Repeat_int_int: function 32 -/
section
/-! slices.Repeat at one number, 26 times: the new row is filled by copies of what it has. -/
def repRow (x : Int) (n : Nat) : List Int := List.replicate n x ++ List.replicate (26 - n) 0
def blkOf (x : Int) (n : Nat) : Array Value := ((repRow x n).map (fun a => Value.int .i64 a)).toArray
theorem repRow_length (x : Int) (n : Nat) (h : n ≤ 26) : (repRow x n).length = 26 := by simp [repRow]; omega
theorem rep_copy (W : World) (ty : TypeId) (g n m s k c c' : Nat) (ad : Addr) (x : Int) (hb : W.heap[g]? = some (.cells (blkOf x n) 3 (0, 0))) (hnm : n + m = 26) (hsrc : ∀ j, j < k → W.cell? (ad.add j) = some (.int .i64 x)) (hk : k = min s m) (kz : Int) (hkz : kz = k) :
    ∃ W1, (Builtin.copy_ #[29, 29] ty #[.slice (some ⟨g, n, none⟩) m c, .slice (some ad) s c']).run Try.prog W = .ok (.int .i64 kz) W1 ∧ Aside0 (W1.heap[g]? = some (.cells (blkOf x (n + k)) 3 (0, 0)) ∧ W.grownBy W1 (some g)) := by
  have hsz : (blkOf x n).size = 26 := by simp [blkOf, repRow_length x n (by omega)]
  have hl : (List.replicate k (Value.int .i64 x)).length = k := by simp
  have hr := run_copy_cells (P := Try.prog) W 29 29 ty 3 g n m c ad s c' (List.replicate k (.int .i64 x)) Try.underlying29 (by kernel_rfl) (by rw [hl, hk])
    (fun j u hu => by
      rw [List.getElem?_replicate] at hu
      split at hu
      · rename_i hj; rw [← Option.some.inj hu]; exact hsrc j hj
      · cases hu)
    (fun j hj => by rw [cell_of_row W g _ _ 3 (0, 0) hb]; simp; rw [hl] at hj; omega) (fun j _ => blk_frozen hb _) (by intro u hu; rw [List.eq_of_mem_replicate hu]; rfl)
  rw [hl] at hr
  subst hkz
  obtain ⟨cur', h3, h4, h5⟩ := setCells_row (List.replicate k (.int .i64 x)) n W (blkOf x n) hb (by rw [hl]; omega)
  obtain ⟨s1, s2, s3, s4⟩ := setCells_same g (List.replicate k (.int .i64 x)) n W
  refine ⟨_, hr, ⟨?_, ⟨s1, s2, s3, by rw [s4]; exact Nat.le_refl _, fun q _ hq => setCells_far _ _ q (fun he => hq (by rw [he]))⟩⟩⟩
  rw [h3]
  have : cur' = blkOf x (n + k) := by
    apply Array.toList_inj.1
    rw [h5, hl]
    have hkm : k ≤ m := by omega
    simp only [blkOf, repRow, List.map_append, List.map_replicate]
    rw [List.take_append, List.take_of_length_le (by simp), List.length_replicate, Nat.sub_self, List.take_zero, List.append_nil]
    rw [List.drop_append, List.drop_eq_nil_of_le (by simp), List.nil_append, List.length_replicate, List.drop_replicate]
    rw [List.replicate_append_replicate]
    congr 2
    omega
  rw [this]
theorem rep_src (W : World) (g n : Nat) (x : Int) (hb : W.heap[g]? = some (.cells (blkOf x n) 3 (0, 0))) (j : Nat) (hj : j < n) : W.cell? (Addr.add ⟨g, 0, none⟩ j) = some (.int .i64 x) := by
  have h : (blkOf x n)[j]? = some (.int .i64 x) := by
    simp only [blkOf, repRow, List.map_append, List.map_replicate, List.getElem?_toArray]
    rw [List.getElem?_append_left (by simp; omega), List.getElem?_replicate, if_pos hj]
  have ha : Addr.add ⟨g, 0, none⟩ j = ⟨g, j, none⟩ := by
    simp [Addr.add]
    try omega
  rw [ha]
  exact (blk_cell hb j).trans h
theorem wp_copy {ops : Array Oper} {rest : List Oper} {o : Oper} {a : Act} {Q : Exit → Act → World → Prop} {W : World} (hgd : o.guard = none) (y z : Operand) (ho : o.op = .call { callee := .builtin .copy, args := #[y, z], argTypes := #[29, 29] }) (g n m s k c c' : Nat) (ad : Addr) (x kz : Int)
    (hy : a.eval y = .slice (some ⟨g, n, none⟩) m c) (hz : a.eval z = .slice (some ad) s c') (hb : W.heap[g]? = some (.cells (blkOf x n) 3 (0, 0))) (hnm : n + m = 26) (hsrc : ∀ j, j < k → W.cell? (ad.add j) = some (.int .i64 x)) (hk : k = min s m) (hkz : kz = k)
    (h : ∀ W1, W1.heap[g]? = some (.cells (blkOf x (n + k)) 3 (0, 0)) → W.grownBy W1 (some g) → wpList Try.prog ops Q rest (a.put o.dst (.int .i64 kz)) W1) : wpList Try.prog ops Q (o :: rest) a W := by
  obtain ⟨W1, hr, hW⟩ := rep_copy W o.type g n m s k c c' ad x hb hnm hsrc hk kz hkz
  refine wpList_plain hgd fun K hK => ?_
  unfold Oper.wp execOp
  simp only [ho, resolve, invoke, builtin, Sem.run_bind, Sem.run_pure, Result.andThen_ok, List.map_toArray, List.map_cons, List.map_nil, hy, hz, hr]
  exact hK _ _ (h W1 hW.out.1 hW.out.2)
set_option maxHeartbeats 1000000 in
set_option maxRecDepth 100000 in
theorem repeat_calls (ad : Addr) (c0 : Nat) (x : Int) (w : World) (HX0 : w.cell? (ad.add 0) = some (.int .i64 x)) :
    Calls Try.prog 52 #[.slice (some ad) 1 c0, .int .i64 26] w fun e w' => e = .returned (.slice (some ⟨w.heap.size, 0, none⟩) 26 26) ∧ w'.heap[w.heap.size]? = some (.cells (blkOf x 26) 3 (0, 0)) ∧ Below w.heap.size w w' := by
    have HX : Aside0 (w.cell? (ad.add 0) = some (.int .i64 x)) := ⟨HX0⟩
    clear HX0
    have HB := Aside0.mk (Below.refl w.heap.size w)
    have A1 : Aside0 (bits_Mul.f 1 26 = some (0, 26)) := ⟨by decide⟩
    have hmk : ∀ W : World, (Instr.makeSlice 29 (.int .i64 26) (.int .i64 26)).run Try.prog W = .ok (.slice (some ⟨W.heap.size, 0, none⟩) 26 26) (W.alloc (.cells (blkOf x 0) 3)) := fun W => by
      obtain ⟨i, hi⟩ := info_of_underlying Try.underlying3
      have h2 : (Try.prog.info? 3).map (fun i => (i.zero, i.size, i.bytes)) = some (some (.int .i64 0), 1, 8) := by kernel_rfl
      rw [hi] at h2
      simp only [Option.map_some, Option.some.injEq, Prod.mk.injEq] at h2
      have h := run_make (P := Try.prog) W 29 3 i (.int .i64 0) Try.underlying29 hi h2.1 .i64 .i64 26 26 (by decide) (by decide) (by rw [h2.2.2]; decide) (by decide)
      rw [h2.2.1] at h
      have hm : madeCells (Value.cells (.int .i64 0)) (Int.toNat 26 * 1) = blkOf x 0 := by
        have hz : Value.cells (.int .i64 0) = #[.int .i64 0] := rfl
        rw [hz]
        have : blkOf x 0 = #[.int .i64 0, .int .i64 0, .int .i64 0, .int .i64 0, .int .i64 0, .int .i64 0, .int .i64 0, .int .i64 0, .int .i64 0, .int .i64 0, .int .i64 0, .int .i64 0, .int .i64 0, .int .i64 0, .int .i64 0, .int .i64 0, .int .i64 0, .int .i64 0, .int .i64 0, .int .i64 0, .int .i64 0, .int .i64 0, .int .i64 0, .int .i64 0, .int .i64 0, .int .i64 0] := rfl
        rw [this]
        apply Array.ext
        · rw [size_madeCells]; rfl
        · intro i h1 h2
          rw [size_madeCells] at h1
          simp [madeCells]
          have : i < 26 := h1
          obtain rfl | rfl | rfl | rfl | rfl | rfl | rfl | rfl | rfl | rfl | rfl | rfl | rfl | rfl | rfl | rfl | rfl | rfl | rfl | rfl | rfl | rfl | rfl | rfl | rfl | rfl : i = 0 ∨ i = 1 ∨ i = 2 ∨ i = 3 ∨ i = 4 ∨ i = 5 ∨ i = 6 ∨ i = 7 ∨ i = 8 ∨ i = 9 ∨ i = 10 ∨ i = 11 ∨ i = 12 ∨ i = 13 ∨ i = 14 ∨ i = 15 ∨ i = 16 ∨ i = 17 ∨ i = 18 ∨ i = 19 ∨ i = 20 ∨ i = 21 ∨ i = 22 ∨ i = 23 ∨ i = 24 ∨ i = 25 := by omega
          all_goals rfl
      rw [hm] at h
      exact h
    go_enter Try.func52, Try.ntmps52
    go_wp2_with (first | (go_at_call 57; (with_reducible refine (bits_Mul.calls 1 26 0 26 _ A1.out).mono ?_); rintro e w' ⟨rfl, ⟨nd, rfl⟩⟩; have HB0 : Aside0 (Below w.heap.size w ((w.drewN nd).alloc (.cells (blkOf x 0) 3))) := ⟨by repeat (first | exact HB.out | apply below_alloc | apply pw_below_drewN | apply below_drew1)⟩; have Hb0 : Aside0 (((w.drewN nd).alloc (.cells (blkOf x 0) 3)).heap[w.heap.size]? = some (.cells (blkOf x 0) 3 (0, 0))) := ⟨by simpa using heap_alloc_new (w.drewN nd) (.cells (blkOf x 0) 3)⟩) | ((with_reducible refine gate_builtin (b := .copy) (xs := #[.tmp 31, .tmp 32]) rfl ?_); refine wp_copy rfl (.tmp 31) (.tmp 32) rfl w.heap.size 0 26 1 1 26 c0 ad x 1 rfl rfl Hb0.out rfl (fun j hj => (by have hj0 : j = 0 := Nat.lt_one_iff.1 hj; rw [hj0]; exact (HB0.out.cell (World.block_lt_of_cell? w _ HX.out)).trans HX.out)) rfl rfl ?_; intro W1 hb1 hg1; have HB1 : Aside0 (Below w.heap.size w W1) := ⟨HB0.out.grown hg1 HB0.out.size (fun k hk => (by rw [← Option.some.inj hk]; exact Nat.le_refl _))⟩; have HK1 := Aside0.mk hb1; clear hb1 hg1 HB0 Hb0))
    go_loopw [8] (fun i wr => ∃ z : Int, i = .int .i64 z ∧ Aside0 (z = 1 ∨ z = 2 ∨ z = 4 ∨ z = 8 ∨ z = 16 ∨ z = 26) ∧ Aside0 (wr.heap[w.heap.size]? = some (.cells (blkOf x z.toNat) 3 (0, 0))) ∧ Aside0 (Below w.heap.size w wr)) (fun i _ => 26 - (intOf i).toNat)
    case atStart => exact ⟨1, rfl, ⟨by decide⟩, HK1, HB1⟩
    case round =>
      obtain ⟨z, rfl, hz, HK, HB⟩ := hrel
      clear HB1 HK1
      obtain rfl | rfl | rfl | rfl | rfl | rfl := hz.out
      · go_wp2
        have hb := HK.out
        obtain ⟨W2, hc2, HW2⟩ := rep_copy wr.drew 3 w.heap.size 1 25 1 1 25 26 ⟨w.heap.size, 0, none⟩ x hb rfl (fun j hj => rep_src wr.drew w.heap.size 1 x hb j (by omega)) rfl 1 rfl
        clear hb
        go_region
        go_wp2
        go_roundw
        case rel => exact ⟨2, rfl, ⟨by decide⟩, ⟨HW2.out.1⟩, ⟨(below_drew1 HB.out).grown HW2.out.2 HB.out.size (fun k hk => by rw [← Option.some.inj hk]; exact Nat.le_refl _)⟩⟩
        case measure => simp [intOf]
      · go_wp2
        have hb := HK.out
        obtain ⟨W2, hc2, HW2⟩ := rep_copy wr.drew 3 w.heap.size 2 24 2 2 24 26 ⟨w.heap.size, 0, none⟩ x hb rfl (fun j hj => rep_src wr.drew w.heap.size 2 x hb j (by omega)) rfl 2 rfl
        clear hb
        go_region
        go_wp2
        go_roundw
        case rel => exact ⟨4, rfl, ⟨by decide⟩, ⟨HW2.out.1⟩, ⟨(below_drew1 HB.out).grown HW2.out.2 HB.out.size (fun k hk => by rw [← Option.some.inj hk]; exact Nat.le_refl _)⟩⟩
        case measure => simp [intOf]
      · go_wp2
        have hb := HK.out
        obtain ⟨W2, hc2, HW2⟩ := rep_copy wr.drew 3 w.heap.size 4 22 4 4 22 26 ⟨w.heap.size, 0, none⟩ x hb rfl (fun j hj => rep_src wr.drew w.heap.size 4 x hb j (by omega)) rfl 4 rfl
        clear hb
        go_region
        go_wp2
        go_roundw
        case rel => exact ⟨8, rfl, ⟨by decide⟩, ⟨HW2.out.1⟩, ⟨(below_drew1 HB.out).grown HW2.out.2 HB.out.size (fun k hk => by rw [← Option.some.inj hk]; exact Nat.le_refl _)⟩⟩
        case measure => simp [intOf]
      · go_wp2
        have hb := HK.out
        obtain ⟨W2, hc2, HW2⟩ := rep_copy wr.drew 3 w.heap.size 8 18 8 8 18 26 ⟨w.heap.size, 0, none⟩ x hb rfl (fun j hj => rep_src wr.drew w.heap.size 8 x hb j (by omega)) rfl 8 rfl
        clear hb
        go_region
        go_wp2
        go_roundw
        case rel => exact ⟨16, rfl, ⟨by decide⟩, ⟨HW2.out.1⟩, ⟨(below_drew1 HB.out).grown HW2.out.2 HB.out.size (fun k hk => by rw [← Option.some.inj hk]; exact Nat.le_refl _)⟩⟩
        case measure => simp [intOf]
      · go_wp2
        have hb := HK.out
        obtain ⟨W2, hc2, HW2⟩ := rep_copy wr.drew 3 w.heap.size 16 10 16 10 10 26 ⟨w.heap.size, 0, none⟩ x hb rfl (fun j hj => rep_src wr.drew w.heap.size 16 x hb j (by omega)) rfl 10 rfl
        clear hb
        go_region
        go_wp2
        go_roundw
        case rel => exact ⟨26, rfl, ⟨by decide⟩, ⟨HW2.out.1⟩, ⟨(below_drew1 HB.out).grown HW2.out.2 HB.out.size (fun k hk => by rw [← Option.some.inj hk]; exact Nat.le_refl _)⟩⟩
        case measure => simp [intOf]
      · go_wp2
        go_ret
        have hh := HK.out
        exact ⟨rfl, hh, HB.out⟩
end


end Go.Proofs.Ytpohfpnlepmebaa.R

set_option linter.unusedVariables false
set_option linter.unusedSimpArgs false
set_option maxRecDepth 4000
namespace Go.Proofs.Ytpohfpnlepmebaa.C
open Go.Sym Go.Proofs.Ytpohfpnlepmebaa.I Go.RowKit
/-- One new row, and what else a run may have left. -/
theorem T_one {c : Cx} (hr : RelH c) (hH : c.H = fun _ => none) {w' : World} (hB : Below c.w.heap.size c.w w') {k : Blk} (hro : k.ro = false) (hmp : k.mp = none) {cs : Array Value} {ty : TypeId} (hb : w'.heap[c.w.heap.size]? = some (.cells cs ty (0, 0)))
    (hcs : ∀ (j : Nat) (x : A), k.cs[j]? = some x → ∃ v, cs[j]? = some v ∧ ∀ c' : Cx, VR c' x v) : RelH (c.anew 0 k w') ∧ Step c (c.anew 0 k w') := by
  have hlt : c.w.heap.size < w'.heap.size := by
    rcases Nat.lt_or_ge c.w.heap.size w'.heap.size with h | h
    · exact h
    · rw [Array.getElem?_eq_none h] at hb; cases hb
  have hn : ∀ b kd, (c.anew 0 k w').H b = some kd → b = 0 ∧ kd = k := by
    intro b kd h
    by_cases e : b = 0
    · subst e
      simp only [Cx.anew, upd_same, Option.some.injEq] at h
      exact ⟨rfl, h.symm⟩
    · simp only [Cx.anew, upd_other _ _ e, hH] at h
      cases h
  have hio : (c.anew 0 k w').io 0 = (c.w.heap.size, 0) := by simp [Cx.anew, upd_same]
  have hno : ∀ b kd, c.H b = some kd → False := fun b kd h => by rw [hH] at h; cases h
  refine ⟨⟨?_, ?_, ?_, ?_, ?_, ?_, ?_, ?_⟩, ?_⟩
  · intro b kd hd j x hj
    obtain ⟨rfl, rfl⟩ := hn b kd hd
    obtain ⟨v, h1, h2⟩ := hcs j x hj
    refine ⟨v, ?_, h2 _⟩
    show w'.cell? ((c.anew 0 kd w').at 0 j) = _
    simp only [Cx.at, hio, Nat.zero_add, World.cell?, hb, h1]
    rfl
  · intro b kd hd h
    obtain ⟨rfl, rfl⟩ := hn b kd hd
    rw [hro] at h; cases h
  · intro b kd hd h
    obtain ⟨rfl, rfl⟩ := hn b kd hd
    rw [hio]
    exact hlt
  · intro b kd hd h h'
    obtain ⟨rfl, rfl⟩ := hn b kd hd
    rw [hio]
    exact ⟨cs, ty, hb⟩
  · intro b kd st l hd h
    obtain ⟨rfl, rfl⟩ := hn b kd hd
    rw [hmp] at h; cases h
  · intro b b' kd kd' hd hd' _ _ hne
    exact absurd ((hn b kd hd).1.trans (hn b' kd' hd').1.symm) hne
  · intro b kd hd h hx
    obtain ⟨rfl, rfl⟩ := hn b kd hd
    rw [hio] at hx
    have := hr.xlt _ hx
    exact absurd this (Nat.lt_irrefl _)
  · intro q hq
    exact Nat.lt_of_lt_of_le (hr.xlt q hq) hB.size
  · refine ⟨hB.os, hB.tape, hB.output, hB.size, fun q hq _ => hB.block q hq, ?_, fun b kd h => (hno b kd h).elim, rfl, fun ad hh => ?_, MPers.of_blk fun q hq => hB.block q hq⟩
    · rintro q ⟨b, kd, h1, h2, h3⟩
      obtain ⟨rfl, rfl⟩ := hn b kd h1
      rw [hio] at h3
      exact .inr (Nat.le_of_eq h3)
    · obtain ⟨u, hu⟩ := Option.isSome_iff_exists.1 hh
      show (w'.cell? ad).isSome = true
      rw [hB.cell (World.block_lt_of_cell? _ _ hu), hu]
      rfl
theorem repeat_t (x : Int) : T 52 [.sl 1 [i6 x], i6 26] [] (.ref 0 0 0 26) [⟨0, false, 1, ints (List.replicate 26 x), none⟩] := by
  intro c vs hgd hr hH hvs
  have hH0 : c.H = fun _ => none := by rw [hH]; rfl
  simp only [VRs, VR] at hvs
  obtain ⟨v1, r1, e1, ⟨a, cap, rfl, hcap, h1⟩, v2, r2, rfl, rfl, rfl⟩ := hvs
  rcases h1 with h1 | ⟨ad, us, rfl, hsp, hlt, hz, hrd, hus⟩
  · omega
  obtain ⟨u, us', rfl, rfl, rfl⟩ := hus
  obtain rfl : vs = #[.slice (some ad) 1 cap, .int .i64 26] := by
    cases vs; simp only at e1; rw [e1]
  have hcell : c.w.cell? (ad.add 0) = some (.int .i64 x) := by
    have := hrd 0 _ rfl
    have e : ad.add 0 = ⟨ad.block, ad.off + 0, none⟩ := by
      cases ad
      simp only at hsp
      simp [Addr.add, hsp]
    rw [e]
    exact this
  refine (R.repeat_calls ad cap x c.w hcell).mono ?_
  rintro e w' ⟨rfl, hb, hB⟩
  have hget : ∀ (j : Nat) (y : A), (ints (List.replicate 26 x))[j]? = some y → ∃ v, (R.blkOf x 26)[j]? = some v ∧ ∀ c' : Cx, VR c' y v := fun j y hj => by
    simp only [ints, List.getElem?_map, List.getElem?_replicate] at hj
    split at hj
    · rename_i h26
      simp only [Option.map_some, Option.some.injEq] at hj
      subst hj
      refine ⟨.int .i64 x, ?_, fun c' => rfl⟩
      simp only [R.blkOf, R.repRow, List.map_append, List.map_replicate, List.getElem?_toArray]
      rw [List.getElem?_append_left (by simpa using h26), List.getElem?_replicate, if_pos h26]
    · cases hj
  obtain ⟨j1, j2⟩ := T_one hr hH0 hB (k := ⟨0, false, 1, ints (List.replicate 26 x), none⟩) rfl rfl hb hget
  refine ⟨_, c.anew 0 ⟨0, false, 1, ints (List.replicate 26 x), none⟩ w', rfl, rfl, ?_, j1, ?_, j2⟩
  · funext b
    by_cases e : b = 0
    · subst e; simp [Cx.anew, upd_same]
    · simp only [Cx.anew, upd_other _ _ e, hH0]
      rw [List.getElem?_eq_none (by simp; omega)]
  · simp only [VR]
    refine ⟨⟨0, false, 1, ints (List.replicate 26 x), none⟩, _, 26, by simp [Cx.anew, upd_same], Nat.le_refl _, rfl, ⟨Nat.le_refl _, by omega⟩, fun _ => .inr ⟨rfl, by simp [Cx.at, Cx.anew, upd_same], fun j hj => ?_⟩⟩
    have hj' : j < 26 := by simpa using hj
    obtain ⟨v, h1, _⟩ := hget j (i6 x) (by simp only [ints, List.getElem?_map, List.getElem?_replicate, if_pos hj']; rfl)
    simp only [Cx.at, Cx.anew, upd_same, Nat.zero_add, World.cell?, hb, h1]
    rfl
@[simp] theorem e26_len : e26.length = 26 := rfl
abbrev eblk (v : Nat) (ks : List Int) : Blk := ⟨v, false, 1, ints ks, none⟩
theorem impl_EnvNew_c   : T 30 [] [] (.ref 0 0 0 26) ([eblk 0 e26]) := by
  refine semT' (S := S0) hm impl_EnvNew_ok (Nat.le_of_ble_eq_true rfl) ?_
  unfold impl_EnvNew; dsimp only
  simp
  have hr : T 52 [.sl 1 [i6 (-1)], i6 26] [] (.ref 0 0 0 26) [eblk 0 e26] := repeat_t (-1)
  refine WCall_ro' rfl (by simp) hr rfl (.inr ⟨by simp, by simp [noslBlks]⟩) ?_; simp [shiftB]
  exact LeV.tell [some 1] (by simp) (by simp) (by simp)
theorem impl_EnvNew_k   {S : FuncId → Bool} {H : List Blk} {K : A → Dl → Prop} {zs : List A} (hS : S 30 = false) (hv : viewL (viewA 8 H) zs = some []) (ho : noOwns zs = true ∨ nosl (.ref 0 0 0 26) = true ∧ noslBlks ([eblk 0 e26]) = true) (hK : K (shiftA H.length (.ref 0 0 0 26)) (.news (([eblk 0 e26]).map (shiftB H.length)))) : @WCall' Go.Proofs.Try.prog S 30 zs H ⟨K⟩ :=
  WCall_ro' hS hv (impl_EnvNew_c ) rfl ho hK
end Go.Proofs.Ytpohfpnlepmebaa.C

set_option linter.unusedVariables false
set_option linter.unusedSimpArgs false
set_option maxRecDepth 40000
set_option maxHeartbeats 4000000
namespace Go.Proofs.Ytpohfpnlepmebaa.C
open Go.Sym Go.Proofs.Ytpohfpnlepmebaa.I
/-- Names, one behind the other, put into a pool; letters set to them. -/
def nmF : List (Int × Nat) → List Nd → List Int → Option (List Nd × List Int)
  | [], ns, ks => some (ns, ks)
  | (x, i) :: l, ns, ks => if (addF ns ⟨1, x, 0⟩).2 < 0 then none else nmF l (addF ns ⟨1, x, 0⟩).1 (ks.set i (addF ns ⟨1, x, 0⟩).2)
def nmL (a b : Nat) : List (Int × Nat) := [(a, 12), (b, 15), (50 + a, 18), (50 + b, 16), (shK a b, 10), (90 + a, 19)]
def insF (ns : List Nd) (a b : Nat) : Option (List Nd × List Int) := (nmF (nmL a b) ns e26).bind fun p => if (powO p.1 b).2 < 0 then none else some ((powO p.1 b).1, p.2.set 20 (powO p.1 b).2)
def okW (w s : Int) : Bool := decide ((1 ≤ w ∧ w ≤ 3) ∧ 0 ≤ s ∧ s ≤ 1)
/-- The pool and the letters of a new instance; none: there is none. -/
def inoF (ns : List Nd) (w s a b : Int) : Option (List Nd × List Int) := if poolF ns = true ∧ okW w s = true ∧ inF a 0 4 = true ∧ inF b 0 4 = true ∧ a ≠ b then insF ns a.toNat b.toNat else none
def iN (ns : List Nd) (o : Option (List Nd × List Int)) : List Nd := match o with | some p => p.1 | none => if poolF ns = true then ns else []
def iK (o : Option (List Nd × List Int)) : List Int := match o with | some p => p.2 | none => []
def iI (o : Option (List Nd × List Int)) (x : Int) : Int := if o.isSome = true then x else 0
@[simp] theorem iI_none (x : Int) : iI none x = 0 := rfl
@[simp] theorem iI_some (p : List Nd × List Int) (x : Int) : iI (some p) x = x := rfl
@[simp] theorem iK_some (p : List Nd × List Int) : iK (some p) = p.2 := rfl
@[simp] theorem iN_some (ns : List Nd) (p : List Nd × List Int) : iN ns (some p) = p.1 := rfl
theorem powO_neg {ns : List Nd} {a : Nat} (h : (addF ns ⟨1, 90 + (a : Int), 0⟩).2 < 0) : (powO ns a).2 < 0 := by
  have e : (addF ns ⟨1, 90 + (a : Int), 0⟩).2 = -1 := by
    unfold addF at h ⊢
    split
    · rfl
    · rename_i g
      rw [if_neg g] at h
      split
      · rename_i g2
        rw [if_pos g2] at h
        exact absurd h (by simp only; omega)
      · rename_i g2
        rw [if_neg g2] at h
        split
        · rfl
        · rename_i g3
          rw [if_neg g3] at h
          exact absurd h (by simp only; omega)
  unfold powO
  rw [e]
  unfold addF
  rw [if_pos (by simp [normN, rightF, partsF, inF])]
  simp
theorem rtB_e (w s : Int) : decide (rtB w s = ⟨#[]⟩) = !okW w s := by
  unfold okW
  by_cases hw : 1 ≤ w ∧ w ≤ 3
  · by_cases hs : 0 ≤ s ∧ s ≤ 1
    · rcases (by omega : w = 1 ∨ w = 2 ∨ w = 3) with rfl | rfl | rfl <;> rcases (by omega : s = 0 ∨ s = 1) with rfl | rfl <;> rfl
    · have h0 : ¬ s = 0 := by omega
      have h1 : ¬ s = 1 := by omega
      simp [rtB, h0, h1, hs]
  · have h1 : ¬ w = 1 := by omega
    have h2 : ¬ w = 2 := by omega
    have h3 : ¬ w = 3 := by omega
    simp [rtB, h1, h2, h3, hw]
theorem rtxt_e (w s : Int) : decide (rtxt w s = ⟨#[]⟩) = !okW w s := by
  rw [← rtB_e]
  unfold rtxt
  split
  · rfl
  · rename_i h
    have := rtB_e w s
    rw [show okW w s = false from decide_eq_false h] at this
    rw [this]
    rfl
theorem spec_l13Role_c (w s : Int)  : T 16 [i6 w, i6 s] [] (.bool (okW w s)) ([]) := by
  refine semT' (S := S0) hm spec_l13Role_ok (Nat.le_of_ble_eq_true rfl) ?_
  unfold spec_l13Role; dsimp only
  simp
  refine spec_RoleText_k (w := w) (s := s) rfl (by simp) (by simp [noslBlks]) ?_; simp [shiftB]
  rw [rtB_e]
  exact LeV.ro rfl rfl (by simp)
theorem spec_l13Role_call {w s : Int}  {S : FuncId → Bool} {H : List Blk} {K : A → Dl → Prop} (hS : S 16 = false) (hK : K (.bool (okW w s)) (.news [])) : @WCall' Go.Proofs.Try.prog S 16 [i6 w, i6 s] H ⟨K⟩ :=
  WCall_pure hS (spec_l13Role_c w s) (by simp) (by simp) (by simp) hK
theorem spec_l13Role_k {w s : Int}  {S : FuncId → Bool} {H : List Blk} {K : A → Dl → Prop} {zs : List A} (hS : S 16 = false) (hv : viewL (viewA 8 H) zs = some [i6 w, i6 s]) (ho : noOwns zs = true ∨ nosl (.bool (okW w s)) = true) (hK : K (.bool (okW w s)) (.news [])) : @WCall' Go.Proofs.Try.prog S 16 zs H ⟨K⟩ :=
  WCall_pure hS (spec_l13Role_c w s) hv ho (by simp) hK
theorem nmF_cons (x : Int) (i : Nat) (l : List (Int × Nat)) (ns : List Nd) (ks : List Int) : nmF ((x, i) :: l) ns ks = if (addF ns ⟨1, x, 0⟩).2 < 0 then none else nmF l (addF ns ⟨1, x, 0⟩).1 (ks.set i (addF ns ⟨1, x, 0⟩).2) := rfl
@[simp] theorem wr1 : IntKind.i64.wrap 1 = 1 := wrap64 (by omega) (by omega)
@[simp] theorem wr2 : IntKind.i64.wrap 2 = 2 := wrap64 (by omega) (by omega)
@[simp] theorem wr3 : IntKind.i64.wrap 3 = 3 := wrap64 (by omega) (by omega)
@[simp] theorem wr4 : IntKind.i64.wrap 4 = 4 := wrap64 (by omega) (by omega)
@[simp] theorem wr5 : IntKind.i64.wrap 5 = 5 := wrap64 (by omega) (by omega)
@[simp] theorem wr6 : IntKind.i64.wrap 6 = 6 := wrap64 (by omega) (by omega)
@[simp] theorem wr7 : IntKind.i64.wrap 7 = 7 := wrap64 (by omega) (by omega)
theorem w109 : IntKind.i64.wrap (IntKind.i64.wrap 109 - 97) = 12 := by decide
theorem w112 : IntKind.i64.wrap (IntKind.i64.wrap 112 - 97) = 15 := by decide
theorem w115 : IntKind.i64.wrap (IntKind.i64.wrap 115 - 97) = 18 := by decide
theorem w113 : IntKind.i64.wrap (IntKind.i64.wrap 113 - 97) = 16 := by decide
theorem w107 : IntKind.i64.wrap (IntKind.i64.wrap 107 - 97) = 10 := by decide
theorem w116 : IntKind.i64.wrap (IntKind.i64.wrap 116 - 97) = 19 := by decide
theorem w117 : IntKind.i64.wrap (IntKind.i64.wrap 117 - 97) = 20 := by decide
/-- The rows that the reference's loop is over. -/
abbrev sH (ns : List Nd) (w s : Int) (a b : Nat) (q : List Nd) (ks : List Int) : List Blk :=
  [⟨0, false, 1, [A.sl ns.length (enc ns)], none⟩, ⟨0, false, 1, [A.nil], none⟩, ⟨0, false, 1, [i6 0, i6 0, i6 0, i6 0, i6 0, A.nil, A.bool false, A.bool false, i6 0], none⟩, ⟨26, false, 1, ints ks, none⟩,
    ⟨0, false, 1, [i6 w, i6 s, i6 a, i6 b, i6 0, A.ref 3 26 0 26, A.bool false, A.bool false, i6 (-1)], none⟩, ⟨0, false, 1, [i6 a, i6 b, i6 (50 + a), i6 (50 + b), i6 (shK a b), i6 (90 + a), i6 (90 + b)], none⟩,
    ⟨0, false, 1, [A.int .u8 109, A.int .u8 112, A.int .u8 115, A.int .u8 113, A.int .u8 107, A.int .u8 116, A.int .u8 117], none⟩, ⟨0, false, 1, [A.sl q.length (enc q)], none⟩]
theorem spec_InstNew_c (ns : List Nd) (w s a b : Int) (hl : ns.length < 9223372036854775807) : T 5 [aP ns, i6 w, i6 s, i6 a, i6 b] [] (.tup [.agg [pref 0 (iN ns (inoF ns w s a b))], .agg [i6 (iI (inoF ns w s a b) w), i6 (iI (inoF ns w s a b) s), i6 (iI (inoF ns w s a b) a), i6 (iI (inoF ns w s a b) b), i6 0, jref 1 (iK (inoF ns w s a b)), .bool false, .bool false, i6 (iI (inoF ns w s a b) (-1))], .bool (inoF ns w s a b).isSome]) ([pblk (iN ns (inoF ns w s a b)), jblk (iK (inoF ns w s a b))]) := by
  refine semT' (S := S0) hm spec_InstNew_ok (Nat.le_of_ble_eq_true rfl) ?_
  unfold spec_InstNew; dsimp only
  obtain ⟨o, eo⟩ : ∃ o, inoF ns w s a b = o := ⟨_, rfl⟩
  rw [eo]
  have none_of : (poolF ns = true → ¬ (okW w s = true ∧ inF a 0 4 = true ∧ inF b 0 4 = true ∧ a ≠ b)) → o = none := fun h => by
    rw [← eo]
    exact if_neg fun g => h g.1 g.2
  simp
  refine spec_PoolOk_call rfl ?_; simp
  rcases Bool.eq_false_or_eq_true (poolF ns) with hp | hp <;> simp [hp]
  case inr =>
    rw [none_of (fun h => by rw [hp] at h; cases h)]
    simp [iN, iK, iI, hp]
    first | (refine LeV.tell [none, none] ?_ ?_ ?_ <;> (simp; done)) | (refine LeV.tell [some 0, none] ?_ ?_ ?_ <;> (simp; done)) | (refine LeV.tell [some 1, none] ?_ ?_ ?_ <;> (simp; done)) | (refine LeV.tell [some 2, none] ?_ ?_ ?_ <;> (simp; done)) | (refine LeV.tell [some 3, none] ?_ ?_ ?_ <;> (simp; done)) | (refine LeV.tell [some 4, none] ?_ ?_ ?_ <;> (simp; done)) | (refine LeV.tell [some 5, none] ?_ ?_ ?_ <;> (simp; done)) | (refine LeV.tell [some 6, none] ?_ ?_ ?_ <;> (simp; done)) | (refine LeV.tell [some 7, none] ?_ ?_ ?_ <;> (simp; done)) | (refine LeV.tell [some 8, none] ?_ ?_ ?_ <;> (simp; done)) | (refine LeV.tell [some 9, none] ?_ ?_ ?_ <;> (simp; done)) | (refine LeV.tell [some 10, none] ?_ ?_ ?_ <;> (simp; done)) | (refine LeV.tell [some 11, none] ?_ ?_ ?_ <;> (simp; done)) | (refine LeV.tell [some 12, none] ?_ ?_ ?_ <;> (simp; done)) | (refine LeV.tell [some 13, none] ?_ ?_ ?_ <;> (simp; done)) | (refine LeV.tell [some 14, none] ?_ ?_ ?_ <;> (simp; done)) | (refine LeV.tell [some 15, none] ?_ ?_ ?_ <;> (simp; done))
  have hln := poolF_len hp
  have fail : iN ns none = ns ∧ iK none = [] ∧ (∀ x, iI none x = 0) ∧ (none : Option (List Nd × List Int)).isSome = false := ⟨by simp [iN, hp], rfl, fun x => rfl, rfl⟩
  refine spec_l13Role_call (w := w) (s := s) rfl ?_; simp
  rcases Bool.eq_false_or_eq_true (okW w s) with h1 | h1 <;> simp [h1]
  case inr =>
    rw [none_of (fun _ h => by rw [h1] at h; cases h.1), fail.1, fail.2.1, fail.2.2.2]
    refine spec_l1Copy_k (ns := ns) (by omega) rfl (by simp) (by simp [noslBlks]) ?_; simp [shiftB]
    first | (refine LeV.tell [none, none] ?_ ?_ ?_ <;> (simp; done)) | (refine LeV.tell [some 0, none] ?_ ?_ ?_ <;> (simp; done)) | (refine LeV.tell [some 1, none] ?_ ?_ ?_ <;> (simp; done)) | (refine LeV.tell [some 2, none] ?_ ?_ ?_ <;> (simp; done)) | (refine LeV.tell [some 3, none] ?_ ?_ ?_ <;> (simp; done)) | (refine LeV.tell [some 4, none] ?_ ?_ ?_ <;> (simp; done)) | (refine LeV.tell [some 5, none] ?_ ?_ ?_ <;> (simp; done)) | (refine LeV.tell [some 6, none] ?_ ?_ ?_ <;> (simp; done)) | (refine LeV.tell [some 7, none] ?_ ?_ ?_ <;> (simp; done)) | (refine LeV.tell [some 8, none] ?_ ?_ ?_ <;> (simp; done)) | (refine LeV.tell [some 9, none] ?_ ?_ ?_ <;> (simp; done)) | (refine LeV.tell [some 10, none] ?_ ?_ ?_ <;> (simp; done)) | (refine LeV.tell [some 11, none] ?_ ?_ ?_ <;> (simp; done)) | (refine LeV.tell [some 12, none] ?_ ?_ ?_ <;> (simp; done)) | (refine LeV.tell [some 13, none] ?_ ?_ ?_ <;> (simp; done)) | (refine LeV.tell [some 14, none] ?_ ?_ ?_ <;> (simp; done)) | (refine LeV.tell [some 15, none] ?_ ?_ ?_ <;> (simp; done))
  refine spec_l2Agent_call (a := a) rfl ?_; simp
  rcases Bool.eq_false_or_eq_true (inF a 0 4) with h2 | h2 <;> simp [h2]
  case inr =>
    rw [none_of (fun _ h => by rw [h2] at h; cases h.2.1), fail.1, fail.2.1, fail.2.2.2]
    refine spec_l1Copy_k (ns := ns) (by omega) rfl (by simp) (by simp [noslBlks]) ?_; simp [shiftB]
    first | (refine LeV.tell [none, none] ?_ ?_ ?_ <;> (simp; done)) | (refine LeV.tell [some 0, none] ?_ ?_ ?_ <;> (simp; done)) | (refine LeV.tell [some 1, none] ?_ ?_ ?_ <;> (simp; done)) | (refine LeV.tell [some 2, none] ?_ ?_ ?_ <;> (simp; done)) | (refine LeV.tell [some 3, none] ?_ ?_ ?_ <;> (simp; done)) | (refine LeV.tell [some 4, none] ?_ ?_ ?_ <;> (simp; done)) | (refine LeV.tell [some 5, none] ?_ ?_ ?_ <;> (simp; done)) | (refine LeV.tell [some 6, none] ?_ ?_ ?_ <;> (simp; done)) | (refine LeV.tell [some 7, none] ?_ ?_ ?_ <;> (simp; done)) | (refine LeV.tell [some 8, none] ?_ ?_ ?_ <;> (simp; done)) | (refine LeV.tell [some 9, none] ?_ ?_ ?_ <;> (simp; done)) | (refine LeV.tell [some 10, none] ?_ ?_ ?_ <;> (simp; done)) | (refine LeV.tell [some 11, none] ?_ ?_ ?_ <;> (simp; done)) | (refine LeV.tell [some 12, none] ?_ ?_ ?_ <;> (simp; done)) | (refine LeV.tell [some 13, none] ?_ ?_ ?_ <;> (simp; done)) | (refine LeV.tell [some 14, none] ?_ ?_ ?_ <;> (simp; done)) | (refine LeV.tell [some 15, none] ?_ ?_ ?_ <;> (simp; done))
  refine spec_l2Agent_call (a := b) rfl ?_; simp
  rcases Bool.eq_false_or_eq_true (inF b 0 4) with h3 | h3 <;> simp [h3]
  case inr =>
    rw [none_of (fun _ h => by rw [h3] at h; cases h.2.2.1), fail.1, fail.2.1, fail.2.2.2]
    refine spec_l1Copy_k (ns := ns) (by omega) rfl (by simp) (by simp [noslBlks]) ?_; simp [shiftB]
    first | (refine LeV.tell [none, none] ?_ ?_ ?_ <;> (simp; done)) | (refine LeV.tell [some 0, none] ?_ ?_ ?_ <;> (simp; done)) | (refine LeV.tell [some 1, none] ?_ ?_ ?_ <;> (simp; done)) | (refine LeV.tell [some 2, none] ?_ ?_ ?_ <;> (simp; done)) | (refine LeV.tell [some 3, none] ?_ ?_ ?_ <;> (simp; done)) | (refine LeV.tell [some 4, none] ?_ ?_ ?_ <;> (simp; done)) | (refine LeV.tell [some 5, none] ?_ ?_ ?_ <;> (simp; done)) | (refine LeV.tell [some 6, none] ?_ ?_ ?_ <;> (simp; done)) | (refine LeV.tell [some 7, none] ?_ ?_ ?_ <;> (simp; done)) | (refine LeV.tell [some 8, none] ?_ ?_ ?_ <;> (simp; done)) | (refine LeV.tell [some 9, none] ?_ ?_ ?_ <;> (simp; done)) | (refine LeV.tell [some 10, none] ?_ ?_ ?_ <;> (simp; done)) | (refine LeV.tell [some 11, none] ?_ ?_ ?_ <;> (simp; done)) | (refine LeV.tell [some 12, none] ?_ ?_ ?_ <;> (simp; done)) | (refine LeV.tell [some 13, none] ?_ ?_ ?_ <;> (simp; done)) | (refine LeV.tell [some 14, none] ?_ ?_ ?_ <;> (simp; done)) | (refine LeV.tell [some 15, none] ?_ ?_ ?_ <;> (simp; done))
  by_cases h4 : a = b
  · have c4 : decide (a = b) = true := decide_eq_true h4
    simp [c4]
    rw [none_of (fun _ h => h.2.2.2 h4), fail.1, fail.2.1, fail.2.2.2]
    refine spec_l1Copy_k (ns := ns) (by omega) rfl (by simp) (by simp [noslBlks]) ?_; simp [shiftB]
    first | (refine LeV.tell [none, none] ?_ ?_ ?_ <;> (simp; done)) | (refine LeV.tell [some 0, none] ?_ ?_ ?_ <;> (simp; done)) | (refine LeV.tell [some 1, none] ?_ ?_ ?_ <;> (simp; done)) | (refine LeV.tell [some 2, none] ?_ ?_ ?_ <;> (simp; done)) | (refine LeV.tell [some 3, none] ?_ ?_ ?_ <;> (simp; done)) | (refine LeV.tell [some 4, none] ?_ ?_ ?_ <;> (simp; done)) | (refine LeV.tell [some 5, none] ?_ ?_ ?_ <;> (simp; done)) | (refine LeV.tell [some 6, none] ?_ ?_ ?_ <;> (simp; done)) | (refine LeV.tell [some 7, none] ?_ ?_ ?_ <;> (simp; done)) | (refine LeV.tell [some 8, none] ?_ ?_ ?_ <;> (simp; done)) | (refine LeV.tell [some 9, none] ?_ ?_ ?_ <;> (simp; done)) | (refine LeV.tell [some 10, none] ?_ ?_ ?_ <;> (simp; done)) | (refine LeV.tell [some 11, none] ?_ ?_ ?_ <;> (simp; done)) | (refine LeV.tell [some 12, none] ?_ ?_ ?_ <;> (simp; done)) | (refine LeV.tell [some 13, none] ?_ ?_ ?_ <;> (simp; done)) | (refine LeV.tell [some 14, none] ?_ ?_ ?_ <;> (simp; done)) | (refine LeV.tell [some 15, none] ?_ ?_ ?_ <;> (simp; done))
  have c4 : decide (a = b) = false := decide_eq_false h4
  simp [c4]
  obtain ⟨a, rfl⟩ : ∃ q : Nat, a = q := ⟨a.toNat, by have := inF_iff.1 h2; omega⟩
  obtain ⟨b, rfl⟩ : ∃ q : Nat, b = q := ⟨b.toNat, by have := inF_iff.1 h3; omega⟩
  have ha : a < 5 := by have := inF_iff.1 h2; omega
  have hb : b < 5 := by have := inF_iff.1 h3; omega
  have hne : a ≠ b := by omega
  rw [show inoF ns w s a b = insF ns a b from if_pos ⟨hp, h1, h2, h3, h4⟩] at eo
  clear none_of
  refine spec_EnvNew_k rfl (by simp) (by simp [noslBlks]) ?_; simp [shiftB]
  refine spec_LongKey_call (a := a) ha rfl ?_; simp
  refine spec_LongKey_call (a := b) hb rfl ?_; simp
  refine spec_SharedKey_call (a := a) (b := b) ha hb hne rfl ?_; simp
  refine spec_StaticKey_call (a := a) ha rfl ?_; simp
  refine spec_StaticKey_call (a := b) hb rfl ?_; simp
  unfold insF nmL at eo
  have l0 := e26_len
  refine WLoop_step' ?_; simp
  refine spec_l2Name_k (ns := ns) (x := (a:Int)) hp rfl (by simp) (by simp [noslBlks]) ?_; simp [shiftB]
  repeat (refine ck_intro' (by first | omega | (simp; omega) | kernel_rfl) ?_; try simp)
  obtain ⟨z1, e1⟩ : ∃ z, addF ns ⟨1, (a:Int), 0⟩ = z := ⟨_, rfl⟩
  have hp1 := addF_pool ⟨1, (a:Int), 0⟩ hp
  rw [e1] at hp1 ⊢
  rw [nmF_cons, e1] at eo
  by_cases c : z1.2 < 0
  case pos =>
    have d1 : decide (0 ≤ z1.2) = false := decide_eq_false (by omega)
    have d2 : decide (z1.2 < 0) = true := decide_eq_true c
    rw [if_pos c] at eo
    have eo : none = o := eo
    subst eo
    simp [d1, d2]
    rw [fail.1, fail.2.1, fail.2.2.2]
    refine spec_l1Copy_k (ns := ns) (by omega) rfl (by simp) (by simp [noslBlks]) ?_; simp [shiftB]
    first | (refine LeV.tell [none, none] ?_ ?_ ?_ <;> (simp; done)) | (refine LeV.tell [some 0, none] ?_ ?_ ?_ <;> (simp; done)) | (refine LeV.tell [some 1, none] ?_ ?_ ?_ <;> (simp; done)) | (refine LeV.tell [some 2, none] ?_ ?_ ?_ <;> (simp; done)) | (refine LeV.tell [some 3, none] ?_ ?_ ?_ <;> (simp; done)) | (refine LeV.tell [some 4, none] ?_ ?_ ?_ <;> (simp; done)) | (refine LeV.tell [some 5, none] ?_ ?_ ?_ <;> (simp; done)) | (refine LeV.tell [some 6, none] ?_ ?_ ?_ <;> (simp; done)) | (refine LeV.tell [some 7, none] ?_ ?_ ?_ <;> (simp; done)) | (refine LeV.tell [some 8, none] ?_ ?_ ?_ <;> (simp; done)) | (refine LeV.tell [some 9, none] ?_ ?_ ?_ <;> (simp; done)) | (refine LeV.tell [some 10, none] ?_ ?_ ?_ <;> (simp; done)) | (refine LeV.tell [some 11, none] ?_ ?_ ?_ <;> (simp; done)) | (refine LeV.tell [some 12, none] ?_ ?_ ?_ <;> (simp; done)) | (refine LeV.tell [some 13, none] ?_ ?_ ?_ <;> (simp; done)) | (refine LeV.tell [some 14, none] ?_ ?_ ?_ <;> (simp; done)) | (refine LeV.tell [some 15, none] ?_ ?_ ?_ <;> (simp; done))
  rw [if_neg c] at eo
  have d1 : decide (0 ≤ z1.2) = true := decide_eq_true (by omega)
  have d2 : decide (z1.2 < 0) = false := decide_eq_false c
  have hkl : (e26).length = 26 := l0
  simp [d1, d2, w109]
  try simp [hkl, ints_set]
  repeat (refine ck_intro' (by first | omega | (simp; omega) | kernel_rfl) ?_; try simp)
  refine WLoop_drop (sH ns w s a b z1.1 ((e26).set 12 z1.2)) [_] (by simp [ints_set]; exact rfl) (by simp) (by simp [inAs_scals _ (ints_scals ((e26).set 12 z1.2))]) (by simp) ?_
  have l1 : ((e26).set 12 z1.2).length = 26 := by simp [hkl]
  obtain ⟨k1, ek⟩ : ∃ k, (e26).set 12 z1.2 = k := ⟨_, rfl⟩
  rw [ek] at eo l1 ⊢
  clear d1 d2 c hkl ek
  refine WLoop_step' ?_; simp
  refine spec_l2Name_k (ns := z1.1) (x := (b:Int)) hp1 rfl (by simp) (by simp [noslBlks]) ?_; simp [shiftB]
  repeat (refine ck_intro' (by first | omega | (simp; omega) | kernel_rfl) ?_; try simp)
  obtain ⟨z2, e2⟩ : ∃ z, addF z1.1 ⟨1, (b:Int), 0⟩ = z := ⟨_, rfl⟩
  have hp2 := addF_pool ⟨1, (b:Int), 0⟩ hp1
  rw [e2] at hp2 ⊢
  rw [nmF_cons, e2] at eo
  by_cases c : z2.2 < 0
  case pos =>
    have d1 : decide (0 ≤ z2.2) = false := decide_eq_false (by omega)
    have d2 : decide (z2.2 < 0) = true := decide_eq_true c
    rw [if_pos c] at eo
    have eo : none = o := eo
    subst eo
    simp [d1, d2]
    rw [fail.1, fail.2.1, fail.2.2.2]
    refine spec_l1Copy_k (ns := ns) (by omega) rfl (by simp) (by simp [noslBlks]) ?_; simp [shiftB]
    first | (refine LeV.tell [none, none] ?_ ?_ ?_ <;> (simp; done)) | (refine LeV.tell [some 0, none] ?_ ?_ ?_ <;> (simp; done)) | (refine LeV.tell [some 1, none] ?_ ?_ ?_ <;> (simp; done)) | (refine LeV.tell [some 2, none] ?_ ?_ ?_ <;> (simp; done)) | (refine LeV.tell [some 3, none] ?_ ?_ ?_ <;> (simp; done)) | (refine LeV.tell [some 4, none] ?_ ?_ ?_ <;> (simp; done)) | (refine LeV.tell [some 5, none] ?_ ?_ ?_ <;> (simp; done)) | (refine LeV.tell [some 6, none] ?_ ?_ ?_ <;> (simp; done)) | (refine LeV.tell [some 7, none] ?_ ?_ ?_ <;> (simp; done)) | (refine LeV.tell [some 8, none] ?_ ?_ ?_ <;> (simp; done)) | (refine LeV.tell [some 9, none] ?_ ?_ ?_ <;> (simp; done)) | (refine LeV.tell [some 10, none] ?_ ?_ ?_ <;> (simp; done)) | (refine LeV.tell [some 11, none] ?_ ?_ ?_ <;> (simp; done)) | (refine LeV.tell [some 12, none] ?_ ?_ ?_ <;> (simp; done)) | (refine LeV.tell [some 13, none] ?_ ?_ ?_ <;> (simp; done)) | (refine LeV.tell [some 14, none] ?_ ?_ ?_ <;> (simp; done)) | (refine LeV.tell [some 15, none] ?_ ?_ ?_ <;> (simp; done))
  rw [if_neg c] at eo
  have d1 : decide (0 ≤ z2.2) = true := decide_eq_true (by omega)
  have d2 : decide (z2.2 < 0) = false := decide_eq_false c
  have hkl : (k1).length = 26 := l1
  simp [d1, d2, w112]
  try simp [hkl, ints_set]
  repeat (refine ck_intro' (by first | omega | (simp; omega) | kernel_rfl) ?_; try simp)
  refine WLoop_drop (sH ns w s a b z2.1 ((k1).set 15 z2.2)) [_] (by simp [ints_set]; exact rfl) (by simp) (by simp [inAs_scals _ (ints_scals ((k1).set 15 z2.2))]) (by simp) ?_
  have l2 : ((k1).set 15 z2.2).length = 26 := by simp [hkl]
  obtain ⟨k2, ek⟩ : ∃ k, (k1).set 15 z2.2 = k := ⟨_, rfl⟩
  rw [ek] at eo l2 ⊢
  clear d1 d2 c hkl ek
  refine WLoop_step' ?_; simp
  refine spec_l2Name_k (ns := z2.1) (x := (50 + (a:Int))) hp2 rfl (by simp) (by simp [noslBlks]) ?_; simp [shiftB]
  repeat (refine ck_intro' (by first | omega | (simp; omega) | kernel_rfl) ?_; try simp)
  obtain ⟨z3, e3⟩ : ∃ z, addF z2.1 ⟨1, (50 + (a:Int)), 0⟩ = z := ⟨_, rfl⟩
  have hp3 := addF_pool ⟨1, (50 + (a:Int)), 0⟩ hp2
  rw [e3] at hp3 ⊢
  rw [nmF_cons, e3] at eo
  by_cases c : z3.2 < 0
  case pos =>
    have d1 : decide (0 ≤ z3.2) = false := decide_eq_false (by omega)
    have d2 : decide (z3.2 < 0) = true := decide_eq_true c
    rw [if_pos c] at eo
    have eo : none = o := eo
    subst eo
    simp [d1, d2]
    rw [fail.1, fail.2.1, fail.2.2.2]
    refine spec_l1Copy_k (ns := ns) (by omega) rfl (by simp) (by simp [noslBlks]) ?_; simp [shiftB]
    first | (refine LeV.tell [none, none] ?_ ?_ ?_ <;> (simp; done)) | (refine LeV.tell [some 0, none] ?_ ?_ ?_ <;> (simp; done)) | (refine LeV.tell [some 1, none] ?_ ?_ ?_ <;> (simp; done)) | (refine LeV.tell [some 2, none] ?_ ?_ ?_ <;> (simp; done)) | (refine LeV.tell [some 3, none] ?_ ?_ ?_ <;> (simp; done)) | (refine LeV.tell [some 4, none] ?_ ?_ ?_ <;> (simp; done)) | (refine LeV.tell [some 5, none] ?_ ?_ ?_ <;> (simp; done)) | (refine LeV.tell [some 6, none] ?_ ?_ ?_ <;> (simp; done)) | (refine LeV.tell [some 7, none] ?_ ?_ ?_ <;> (simp; done)) | (refine LeV.tell [some 8, none] ?_ ?_ ?_ <;> (simp; done)) | (refine LeV.tell [some 9, none] ?_ ?_ ?_ <;> (simp; done)) | (refine LeV.tell [some 10, none] ?_ ?_ ?_ <;> (simp; done)) | (refine LeV.tell [some 11, none] ?_ ?_ ?_ <;> (simp; done)) | (refine LeV.tell [some 12, none] ?_ ?_ ?_ <;> (simp; done)) | (refine LeV.tell [some 13, none] ?_ ?_ ?_ <;> (simp; done)) | (refine LeV.tell [some 14, none] ?_ ?_ ?_ <;> (simp; done)) | (refine LeV.tell [some 15, none] ?_ ?_ ?_ <;> (simp; done))
  rw [if_neg c] at eo
  have d1 : decide (0 ≤ z3.2) = true := decide_eq_true (by omega)
  have d2 : decide (z3.2 < 0) = false := decide_eq_false c
  have hkl : (k2).length = 26 := l2
  simp [d1, d2, w115]
  try simp [hkl, ints_set]
  repeat (refine ck_intro' (by first | omega | (simp; omega) | kernel_rfl) ?_; try simp)
  refine WLoop_drop (sH ns w s a b z3.1 ((k2).set 18 z3.2)) [_] (by simp [ints_set]; exact rfl) (by simp) (by simp [inAs_scals _ (ints_scals ((k2).set 18 z3.2))]) (by simp) ?_
  have l3 : ((k2).set 18 z3.2).length = 26 := by simp [hkl]
  obtain ⟨k3, ek⟩ : ∃ k, (k2).set 18 z3.2 = k := ⟨_, rfl⟩
  rw [ek] at eo l3 ⊢
  clear d1 d2 c hkl ek
  refine WLoop_step' ?_; simp
  refine spec_l2Name_k (ns := z3.1) (x := (50 + (b:Int))) hp3 rfl (by simp) (by simp [noslBlks]) ?_; simp [shiftB]
  repeat (refine ck_intro' (by first | omega | (simp; omega) | kernel_rfl) ?_; try simp)
  obtain ⟨z4, e4⟩ : ∃ z, addF z3.1 ⟨1, (50 + (b:Int)), 0⟩ = z := ⟨_, rfl⟩
  have hp4 := addF_pool ⟨1, (50 + (b:Int)), 0⟩ hp3
  rw [e4] at hp4 ⊢
  rw [nmF_cons, e4] at eo
  by_cases c : z4.2 < 0
  case pos =>
    have d1 : decide (0 ≤ z4.2) = false := decide_eq_false (by omega)
    have d2 : decide (z4.2 < 0) = true := decide_eq_true c
    rw [if_pos c] at eo
    have eo : none = o := eo
    subst eo
    simp [d1, d2]
    rw [fail.1, fail.2.1, fail.2.2.2]
    refine spec_l1Copy_k (ns := ns) (by omega) rfl (by simp) (by simp [noslBlks]) ?_; simp [shiftB]
    first | (refine LeV.tell [none, none] ?_ ?_ ?_ <;> (simp; done)) | (refine LeV.tell [some 0, none] ?_ ?_ ?_ <;> (simp; done)) | (refine LeV.tell [some 1, none] ?_ ?_ ?_ <;> (simp; done)) | (refine LeV.tell [some 2, none] ?_ ?_ ?_ <;> (simp; done)) | (refine LeV.tell [some 3, none] ?_ ?_ ?_ <;> (simp; done)) | (refine LeV.tell [some 4, none] ?_ ?_ ?_ <;> (simp; done)) | (refine LeV.tell [some 5, none] ?_ ?_ ?_ <;> (simp; done)) | (refine LeV.tell [some 6, none] ?_ ?_ ?_ <;> (simp; done)) | (refine LeV.tell [some 7, none] ?_ ?_ ?_ <;> (simp; done)) | (refine LeV.tell [some 8, none] ?_ ?_ ?_ <;> (simp; done)) | (refine LeV.tell [some 9, none] ?_ ?_ ?_ <;> (simp; done)) | (refine LeV.tell [some 10, none] ?_ ?_ ?_ <;> (simp; done)) | (refine LeV.tell [some 11, none] ?_ ?_ ?_ <;> (simp; done)) | (refine LeV.tell [some 12, none] ?_ ?_ ?_ <;> (simp; done)) | (refine LeV.tell [some 13, none] ?_ ?_ ?_ <;> (simp; done)) | (refine LeV.tell [some 14, none] ?_ ?_ ?_ <;> (simp; done)) | (refine LeV.tell [some 15, none] ?_ ?_ ?_ <;> (simp; done))
  rw [if_neg c] at eo
  have d1 : decide (0 ≤ z4.2) = true := decide_eq_true (by omega)
  have d2 : decide (z4.2 < 0) = false := decide_eq_false c
  have hkl : (k3).length = 26 := l3
  simp [d1, d2, w113]
  try simp [hkl, ints_set]
  repeat (refine ck_intro' (by first | omega | (simp; omega) | kernel_rfl) ?_; try simp)
  refine WLoop_drop (sH ns w s a b z4.1 ((k3).set 16 z4.2)) [_] (by simp [ints_set]; exact rfl) (by simp) (by simp [inAs_scals _ (ints_scals ((k3).set 16 z4.2))]) (by simp) ?_
  have l4 : ((k3).set 16 z4.2).length = 26 := by simp [hkl]
  obtain ⟨k4, ek⟩ : ∃ k, (k3).set 16 z4.2 = k := ⟨_, rfl⟩
  rw [ek] at eo l4 ⊢
  clear d1 d2 c hkl ek
  refine WLoop_step' ?_; simp
  refine spec_l2Name_k (ns := z4.1) (x := (shK a b)) hp4 rfl (by simp) (by simp [noslBlks]) ?_; simp [shiftB]
  repeat (refine ck_intro' (by first | omega | (simp; omega) | kernel_rfl) ?_; try simp)
  obtain ⟨z5, e5⟩ : ∃ z, addF z4.1 ⟨1, (shK a b), 0⟩ = z := ⟨_, rfl⟩
  have hp5 := addF_pool ⟨1, (shK a b), 0⟩ hp4
  rw [e5] at hp5 ⊢
  rw [nmF_cons, e5] at eo
  by_cases c : z5.2 < 0
  case pos =>
    have d1 : decide (0 ≤ z5.2) = false := decide_eq_false (by omega)
    have d2 : decide (z5.2 < 0) = true := decide_eq_true c
    rw [if_pos c] at eo
    have eo : none = o := eo
    subst eo
    simp [d1, d2]
    rw [fail.1, fail.2.1, fail.2.2.2]
    refine spec_l1Copy_k (ns := ns) (by omega) rfl (by simp) (by simp [noslBlks]) ?_; simp [shiftB]
    first | (refine LeV.tell [none, none] ?_ ?_ ?_ <;> (simp; done)) | (refine LeV.tell [some 0, none] ?_ ?_ ?_ <;> (simp; done)) | (refine LeV.tell [some 1, none] ?_ ?_ ?_ <;> (simp; done)) | (refine LeV.tell [some 2, none] ?_ ?_ ?_ <;> (simp; done)) | (refine LeV.tell [some 3, none] ?_ ?_ ?_ <;> (simp; done)) | (refine LeV.tell [some 4, none] ?_ ?_ ?_ <;> (simp; done)) | (refine LeV.tell [some 5, none] ?_ ?_ ?_ <;> (simp; done)) | (refine LeV.tell [some 6, none] ?_ ?_ ?_ <;> (simp; done)) | (refine LeV.tell [some 7, none] ?_ ?_ ?_ <;> (simp; done)) | (refine LeV.tell [some 8, none] ?_ ?_ ?_ <;> (simp; done)) | (refine LeV.tell [some 9, none] ?_ ?_ ?_ <;> (simp; done)) | (refine LeV.tell [some 10, none] ?_ ?_ ?_ <;> (simp; done)) | (refine LeV.tell [some 11, none] ?_ ?_ ?_ <;> (simp; done)) | (refine LeV.tell [some 12, none] ?_ ?_ ?_ <;> (simp; done)) | (refine LeV.tell [some 13, none] ?_ ?_ ?_ <;> (simp; done)) | (refine LeV.tell [some 14, none] ?_ ?_ ?_ <;> (simp; done)) | (refine LeV.tell [some 15, none] ?_ ?_ ?_ <;> (simp; done))
  rw [if_neg c] at eo
  have d1 : decide (0 ≤ z5.2) = true := decide_eq_true (by omega)
  have d2 : decide (z5.2 < 0) = false := decide_eq_false c
  have hkl : (k4).length = 26 := l4
  simp [d1, d2, w107]
  try simp [hkl, ints_set]
  repeat (refine ck_intro' (by first | omega | (simp; omega) | kernel_rfl) ?_; try simp)
  refine WLoop_drop (sH ns w s a b z5.1 ((k4).set 10 z5.2)) [_] (by simp [ints_set]; exact rfl) (by simp) (by simp [inAs_scals _ (ints_scals ((k4).set 10 z5.2))]) (by simp) ?_
  have l5 : ((k4).set 10 z5.2).length = 26 := by simp [hkl]
  obtain ⟨k5, ek⟩ : ∃ k, (k4).set 10 z5.2 = k := ⟨_, rfl⟩
  rw [ek] at eo l5 ⊢
  clear d1 d2 c hkl ek
  refine WLoop_step' ?_; simp
  refine spec_l2Name_k (ns := z5.1) (x := (90 + (a:Int))) hp5 rfl (by simp) (by simp [noslBlks]) ?_; simp [shiftB]
  repeat (refine ck_intro' (by first | omega | (simp; omega) | kernel_rfl) ?_; try simp)
  obtain ⟨z6, e6⟩ : ∃ z, addF z5.1 ⟨1, (90 + (a:Int)), 0⟩ = z := ⟨_, rfl⟩
  have hp6 := addF_pool ⟨1, (90 + (a:Int)), 0⟩ hp5
  rw [e6] at hp6 ⊢
  rw [nmF_cons, e6] at eo
  by_cases c : z6.2 < 0
  case pos =>
    have d1 : decide (0 ≤ z6.2) = false := decide_eq_false (by omega)
    have d2 : decide (z6.2 < 0) = true := decide_eq_true c
    rw [if_pos c] at eo
    have eo : none = o := eo
    subst eo
    simp [d1, d2]
    rw [fail.1, fail.2.1, fail.2.2.2]
    refine spec_l1Copy_k (ns := ns) (by omega) rfl (by simp) (by simp [noslBlks]) ?_; simp [shiftB]
    first | (refine LeV.tell [none, none] ?_ ?_ ?_ <;> (simp; done)) | (refine LeV.tell [some 0, none] ?_ ?_ ?_ <;> (simp; done)) | (refine LeV.tell [some 1, none] ?_ ?_ ?_ <;> (simp; done)) | (refine LeV.tell [some 2, none] ?_ ?_ ?_ <;> (simp; done)) | (refine LeV.tell [some 3, none] ?_ ?_ ?_ <;> (simp; done)) | (refine LeV.tell [some 4, none] ?_ ?_ ?_ <;> (simp; done)) | (refine LeV.tell [some 5, none] ?_ ?_ ?_ <;> (simp; done)) | (refine LeV.tell [some 6, none] ?_ ?_ ?_ <;> (simp; done)) | (refine LeV.tell [some 7, none] ?_ ?_ ?_ <;> (simp; done)) | (refine LeV.tell [some 8, none] ?_ ?_ ?_ <;> (simp; done)) | (refine LeV.tell [some 9, none] ?_ ?_ ?_ <;> (simp; done)) | (refine LeV.tell [some 10, none] ?_ ?_ ?_ <;> (simp; done)) | (refine LeV.tell [some 11, none] ?_ ?_ ?_ <;> (simp; done)) | (refine LeV.tell [some 12, none] ?_ ?_ ?_ <;> (simp; done)) | (refine LeV.tell [some 13, none] ?_ ?_ ?_ <;> (simp; done)) | (refine LeV.tell [some 14, none] ?_ ?_ ?_ <;> (simp; done)) | (refine LeV.tell [some 15, none] ?_ ?_ ?_ <;> (simp; done))
  rw [if_neg c] at eo
  have d1 : decide (0 ≤ z6.2) = true := decide_eq_true (by omega)
  have d2 : decide (z6.2 < 0) = false := decide_eq_false c
  have hkl : (k5).length = 26 := l5
  simp [d1, d2, w116]
  try simp [hkl, ints_set]
  repeat (refine ck_intro' (by first | omega | (simp; omega) | kernel_rfl) ?_; try simp)
  refine WLoop_drop (sH ns w s a b z6.1 ((k5).set 19 z6.2)) [_] (by simp [ints_set]; exact rfl) (by simp) (by simp [inAs_scals _ (ints_scals ((k5).set 19 z6.2))]) (by simp) ?_
  have l6 : ((k5).set 19 z6.2).length = 26 := by simp [hkl]
  obtain ⟨k6, ek⟩ : ∃ k, (k5).set 19 z6.2 = k := ⟨_, rfl⟩
  rw [ek] at eo l6 ⊢
  clear d1 d2 c hkl ek
  have eo : (if (powO z6.1 b).2 < 0 then none else some ((powO z6.1 b).1, k6.set 20 (powO z6.1 b).2)) = o := eo
  refine WLoop_step' ?_; simp
  refine spec_l2Name_k (ns := z6.1) (x := (90 + (b : Int))) hp6 rfl (by simp) (by simp [noslBlks]) ?_; simp [shiftB]
  repeat (refine ck_intro' (by first | omega | (simp; omega) | kernel_rfl) ?_; try simp)
  have hp7 := addF_pool ⟨1, 90 + (b : Int), 0⟩ hp6
  have hpw : powO z6.1 b = addF (addF z6.1 ⟨1, 90 + (b : Int), 0⟩).1 ⟨7, (addF z6.1 ⟨1, 90 + (b : Int), 0⟩).2, 0⟩ := rfl
  have hng := powO_neg (ns := z6.1) (a := b)
  obtain ⟨z7, e7⟩ : ∃ z, addF z6.1 ⟨1, 90 + (b : Int), 0⟩ = z := ⟨_, rfl⟩
  rw [e7] at hp7 hpw hng ⊢
  by_cases c : z7.2 < 0
  case pos =>
    have d1 : decide (0 ≤ z7.2) = false := decide_eq_false (by omega)
    have d2 : decide (z7.2 < 0) = true := decide_eq_true c
    rw [if_pos (hng c)] at eo
    subst eo
    simp [d1, d2]
    rw [fail.1, fail.2.1, fail.2.2.2]
    refine spec_l1Copy_k (ns := ns) (by omega) rfl (by simp) (by simp [noslBlks]) ?_; simp [shiftB]
    first | (refine LeV.tell [none, none] ?_ ?_ ?_ <;> (simp; done)) | (refine LeV.tell [some 0, none] ?_ ?_ ?_ <;> (simp; done)) | (refine LeV.tell [some 1, none] ?_ ?_ ?_ <;> (simp; done)) | (refine LeV.tell [some 2, none] ?_ ?_ ?_ <;> (simp; done)) | (refine LeV.tell [some 3, none] ?_ ?_ ?_ <;> (simp; done)) | (refine LeV.tell [some 4, none] ?_ ?_ ?_ <;> (simp; done)) | (refine LeV.tell [some 5, none] ?_ ?_ ?_ <;> (simp; done)) | (refine LeV.tell [some 6, none] ?_ ?_ ?_ <;> (simp; done)) | (refine LeV.tell [some 7, none] ?_ ?_ ?_ <;> (simp; done)) | (refine LeV.tell [some 8, none] ?_ ?_ ?_ <;> (simp; done)) | (refine LeV.tell [some 9, none] ?_ ?_ ?_ <;> (simp; done)) | (refine LeV.tell [some 10, none] ?_ ?_ ?_ <;> (simp; done)) | (refine LeV.tell [some 11, none] ?_ ?_ ?_ <;> (simp; done)) | (refine LeV.tell [some 12, none] ?_ ?_ ?_ <;> (simp; done)) | (refine LeV.tell [some 13, none] ?_ ?_ ?_ <;> (simp; done)) | (refine LeV.tell [some 14, none] ?_ ?_ ?_ <;> (simp; done)) | (refine LeV.tell [some 15, none] ?_ ?_ ?_ <;> (simp; done))
  have d1 : decide (0 ≤ z7.2) = true := decide_eq_true (by omega)
  simp [d1]
  refine spec_l1Add_k (ns := z7.1) (n := ⟨7, z7.2, 0⟩) hp7 rfl (by simp) (by simp [noslBlks]) ?_; simp [shiftB]
  repeat (refine ck_intro' (by first | omega | (simp; omega) | kernel_rfl) ?_; try simp)
  have hp8 := addF_pool ⟨7, z7.2, 0⟩ hp7
  rw [← hpw] at hp8 ⊢
  obtain ⟨z8, e8⟩ : ∃ z, powO z6.1 b = z := ⟨_, rfl⟩
  rw [e8] at hp8 eo ⊢
  by_cases c8 : z8.2 < 0
  case pos =>
    have d2 : decide (z8.2 < 0) = true := decide_eq_true c8
    rw [if_pos c8] at eo
    subst eo
    simp [d2]
    rw [fail.1, fail.2.1, fail.2.2.2]
    refine spec_l1Copy_k (ns := ns) (by omega) rfl (by simp) (by simp [noslBlks]) ?_; simp [shiftB]
    first | (refine LeV.tell [none, none] ?_ ?_ ?_ <;> (simp; done)) | (refine LeV.tell [some 0, none] ?_ ?_ ?_ <;> (simp; done)) | (refine LeV.tell [some 1, none] ?_ ?_ ?_ <;> (simp; done)) | (refine LeV.tell [some 2, none] ?_ ?_ ?_ <;> (simp; done)) | (refine LeV.tell [some 3, none] ?_ ?_ ?_ <;> (simp; done)) | (refine LeV.tell [some 4, none] ?_ ?_ ?_ <;> (simp; done)) | (refine LeV.tell [some 5, none] ?_ ?_ ?_ <;> (simp; done)) | (refine LeV.tell [some 6, none] ?_ ?_ ?_ <;> (simp; done)) | (refine LeV.tell [some 7, none] ?_ ?_ ?_ <;> (simp; done)) | (refine LeV.tell [some 8, none] ?_ ?_ ?_ <;> (simp; done)) | (refine LeV.tell [some 9, none] ?_ ?_ ?_ <;> (simp; done)) | (refine LeV.tell [some 10, none] ?_ ?_ ?_ <;> (simp; done)) | (refine LeV.tell [some 11, none] ?_ ?_ ?_ <;> (simp; done)) | (refine LeV.tell [some 12, none] ?_ ?_ ?_ <;> (simp; done)) | (refine LeV.tell [some 13, none] ?_ ?_ ?_ <;> (simp; done)) | (refine LeV.tell [some 14, none] ?_ ?_ ?_ <;> (simp; done)) | (refine LeV.tell [some 15, none] ?_ ?_ ?_ <;> (simp; done))
  rw [if_neg c8] at eo
  have d2 : decide (z8.2 < 0) = false := decide_eq_false c8
  simp [d2, w117]
  try simp [l6, ints_set]
  repeat (refine ck_intro' (by first | omega | (simp; omega) | kernel_rfl) ?_; try simp)
  refine WLoop_drop (sH ns w s a b z8.1 (k6.set 20 z8.2)) [_] (by simp [ints_set]; exact rfl) (by simp) (by simp [inAs_scals _ (ints_scals (k6.set 20 z8.2))]) (by simp) ?_
  have l7 : (k6.set 20 z8.2).length = 26 := by simp [l6]
  obtain ⟨k7, ek⟩ : ∃ k, k6.set 20 z8.2 = k := ⟨_, rfl⟩
  rw [ek] at eo l7 ⊢
  subst eo
  refine WLoop_step' ?_; simp
  have hl8 := poolF_len hp8
  refine spec_l1Copy_k (ns := z8.1) (by omega) rfl (by simp) (by simp [noslBlks]) ?_; simp [shiftB]
  repeat (refine ck_intro' (by first | omega | (simp; omega) | kernel_rfl) ?_; try simp)
  exact LeV.tell [some 8, some 3] (by simp) (by simp [l7]) (by simp [l7])
theorem spec_InstNew_k {ns : List Nd} {w s a b : Int} (hl : ns.length < 9223372036854775807) {S : FuncId → Bool} {H : List Blk} {K : A → Dl → Prop} {zs : List A} (hS : S 5 = false) (hv : viewL (viewA 8 H) zs = some [aP ns, i6 w, i6 s, i6 a, i6 b]) (ho : noOwns zs = true ∨ nosl (.tup [.agg [pref 0 (iN ns (inoF ns w s a b))], .agg [i6 (iI (inoF ns w s a b) w), i6 (iI (inoF ns w s a b) s), i6 (iI (inoF ns w s a b) a), i6 (iI (inoF ns w s a b) b), i6 0, jref 1 (iK (inoF ns w s a b)), .bool false, .bool false, i6 (iI (inoF ns w s a b) (-1))], .bool (inoF ns w s a b).isSome]) = true ∧ noslBlks ([pblk (iN ns (inoF ns w s a b)), jblk (iK (inoF ns w s a b))]) = true) (hK : K (shiftA H.length (.tup [.agg [pref 0 (iN ns (inoF ns w s a b))], .agg [i6 (iI (inoF ns w s a b) w), i6 (iI (inoF ns w s a b) s), i6 (iI (inoF ns w s a b) a), i6 (iI (inoF ns w s a b) b), i6 0, jref 1 (iK (inoF ns w s a b)), .bool false, .bool false, i6 (iI (inoF ns w s a b) (-1))], .bool (inoF ns w s a b).isSome])) (.news (([pblk (iN ns (inoF ns w s a b)), jblk (iK (inoF ns w s a b))]).map (shiftB H.length)))) : @WCall' Go.Proofs.Try.prog S 5 zs H ⟨K⟩ :=
  WCall_ro' hS hv (spec_InstNew_c ns w s a b hl) rfl ho hK
end Go.Proofs.Ytpohfpnlepmebaa.C

set_option linter.unusedVariables false
set_option linter.unusedSimpArgs false
set_option maxRecDepth 40000
set_option maxHeartbeats 4000000
namespace Go.Proofs.Ytpohfpnlepmebaa.C
open Go.Sym Go.Proofs.Ytpohfpnlepmebaa.I
theorem v109 : IntKind.u8.wrap 12 = 12 := by decide
theorem v112 : IntKind.u8.wrap 15 = 15 := by decide
theorem v115 : IntKind.u8.wrap 18 = 18 := by decide
theorem v113 : IntKind.u8.wrap 16 = 16 := by decide
theorem v107 : IntKind.u8.wrap 10 = 10 := by decide
theorem v116 : IntKind.u8.wrap 19 = 19 := by decide
/-- The rows that the program's loop is over. -/
abbrev iH (ns : List Nd) (w s : Int) (a b : Nat) (q : List Nd) (ks : List Int) : List Blk :=
  [⟨0, false, 1, [A.sl ns.length (enc ns)], none⟩, ⟨0, false, 1, [A.nil], none⟩, ⟨0, false, 1, [i6 0, i6 0, i6 0, i6 0, i6 0, A.nil, A.bool false, A.bool false, i6 0], none⟩, pblk q, ⟨0, false, 1, [pref 3 q], none⟩, eblk 0 ks,
    ⟨0, false, 1, [i6 w, i6 s, i6 a, i6 b, i6 0, A.ref 5 0 0 26, A.bool false, A.bool false, i6 (-1)], none⟩, ⟨0, false, 1, [i6 a, i6 b, i6 (50 + a), i6 (50 + b), i6 (shK a b), i6 (90 + a)], none⟩, ⟨1, true, 1, [], none⟩]
theorem iH_in (ns : List Nd) (w s : Int) (a b : Nat) (q : List Nd) (ks : List Int) : PIn (iH ns w s a b q ks) 4 0 3 [pref 3 q] :=
  ⟨by simp, by simp, by simp, by simp, by simp [inAs_scals _ (ints_scals ks)], by simp, ⟨[], by simp⟩⟩
theorem impl_InstNew_c (ns : List Nd) (w s a b : Int) (hl : ns.length < 9223372036854775807) (hw : -9223372036854775808 ≤ w) (hw2 : w < 9223372036854775808) : T 7 [aP ns, i6 w, i6 s, i6 a, i6 b] [] (.tup [.agg [pref 0 (iN ns (inoF ns w s a b))], .agg [i6 (iI (inoF ns w s a b) w), i6 (iI (inoF ns w s a b) s), i6 (iI (inoF ns w s a b) a), i6 (iI (inoF ns w s a b) b), i6 0, jref 1 (iK (inoF ns w s a b)), .bool false, .bool false, i6 (iI (inoF ns w s a b) (-1))], .bool (inoF ns w s a b).isSome]) ([pblk (iN ns (inoF ns w s a b)), jblk (iK (inoF ns w s a b))]) := by
  refine semT' (S := (fun f => [53, 34, 35].contains f)) hm impl_InstNew_ok (Nat.le_of_ble_eq_true rfl) ?_
  unfold impl_InstNew; dsimp only
  obtain ⟨o, eo⟩ : ∃ o, inoF ns w s a b = o := ⟨_, rfl⟩
  rw [eo]
  have none_of : (poolF ns = true → ¬ (okW w s = true ∧ inF a 0 4 = true ∧ inF b 0 4 = true ∧ a ≠ b)) → o = none := fun h => by
    rw [← eo]
    exact if_neg fun g => h g.1 g.2
  simp
  refine impl_PoolOk_call rfl ?_; simp
  rcases Bool.eq_false_or_eq_true (poolF ns) with hp | hp <;> simp [hp]
  case inr =>
    rw [none_of (fun h => by rw [hp] at h; cases h)]
    simp [iN, iK, iI, hp]
    first | (refine LeV.tell [none, none] ?_ ?_ ?_ <;> (simp; done)) | (refine LeV.tell [some 0, none] ?_ ?_ ?_ <;> (simp; done)) | (refine LeV.tell [some 1, none] ?_ ?_ ?_ <;> (simp; done)) | (refine LeV.tell [some 2, none] ?_ ?_ ?_ <;> (simp; done)) | (refine LeV.tell [some 3, none] ?_ ?_ ?_ <;> (simp; done)) | (refine LeV.tell [some 4, none] ?_ ?_ ?_ <;> (simp; done)) | (refine LeV.tell [some 5, none] ?_ ?_ ?_ <;> (simp; done)) | (refine LeV.tell [some 6, none] ?_ ?_ ?_ <;> (simp; done)) | (refine LeV.tell [some 7, none] ?_ ?_ ?_ <;> (simp; done)) | (refine LeV.tell [some 8, none] ?_ ?_ ?_ <;> (simp; done)) | (refine LeV.tell [some 9, none] ?_ ?_ ?_ <;> (simp; done)) | (refine LeV.tell [some 10, none] ?_ ?_ ?_ <;> (simp; done)) | (refine LeV.tell [some 11, none] ?_ ?_ ?_ <;> (simp; done)) | (refine LeV.tell [some 12, none] ?_ ?_ ?_ <;> (simp; done)) | (refine LeV.tell [some 13, none] ?_ ?_ ?_ <;> (simp; done)) | (refine LeV.tell [some 14, none] ?_ ?_ ?_ <;> (simp; done)) | (refine LeV.tell [some 15, none] ?_ ?_ ?_ <;> (simp; done))
  have hln := poolF_len hp
  have fail : iN ns none = ns ∧ iK none = [] ∧ (∀ x, iI none x = 0) ∧ (none : Option (List Nd × List Int)).isSome = false := ⟨by simp [iN, hp], rfl, fun x => rfl, rfl⟩
  refine impl_RoleText_call (w := w) (s := s) hw hw2 rfl ?_; simp
  have hr := rtxt_e w s
  rcases Bool.eq_false_or_eq_true (okW w s) with h1 | h1 <;> rw [h1] at hr <;> simp [hr]
  case inr =>
    rw [none_of (fun _ h => by rw [h1] at h; cases h.1), fail.1, fail.2.1, fail.2.2.2]
    refine impl_copyPool_k (ns := ns) (by omega) rfl (by simp) (by simp [noslBlks]) ?_; simp [shiftB]
    first | (refine LeV.tell [none, none] ?_ ?_ ?_ <;> (simp; done)) | (refine LeV.tell [some 0, none] ?_ ?_ ?_ <;> (simp; done)) | (refine LeV.tell [some 1, none] ?_ ?_ ?_ <;> (simp; done)) | (refine LeV.tell [some 2, none] ?_ ?_ ?_ <;> (simp; done)) | (refine LeV.tell [some 3, none] ?_ ?_ ?_ <;> (simp; done)) | (refine LeV.tell [some 4, none] ?_ ?_ ?_ <;> (simp; done)) | (refine LeV.tell [some 5, none] ?_ ?_ ?_ <;> (simp; done)) | (refine LeV.tell [some 6, none] ?_ ?_ ?_ <;> (simp; done)) | (refine LeV.tell [some 7, none] ?_ ?_ ?_ <;> (simp; done)) | (refine LeV.tell [some 8, none] ?_ ?_ ?_ <;> (simp; done)) | (refine LeV.tell [some 9, none] ?_ ?_ ?_ <;> (simp; done)) | (refine LeV.tell [some 10, none] ?_ ?_ ?_ <;> (simp; done)) | (refine LeV.tell [some 11, none] ?_ ?_ ?_ <;> (simp; done)) | (refine LeV.tell [some 12, none] ?_ ?_ ?_ <;> (simp; done)) | (refine LeV.tell [some 13, none] ?_ ?_ ?_ <;> (simp; done)) | (refine LeV.tell [some 14, none] ?_ ?_ ?_ <;> (simp; done)) | (refine LeV.tell [some 15, none] ?_ ?_ ?_ <;> (simp; done))
  refine impl_isAgent_call (a := a) rfl ?_; simp
  rcases Bool.eq_false_or_eq_true (inF a 0 4) with h2 | h2 <;> simp [h2]
  case inr =>
    rw [none_of (fun _ h => by rw [h2] at h; cases h.2.1), fail.1, fail.2.1, fail.2.2.2]
    refine impl_copyPool_k (ns := ns) (by omega) rfl (by simp) (by simp [noslBlks]) ?_; simp [shiftB]
    first | (refine LeV.tell [none, none] ?_ ?_ ?_ <;> (simp; done)) | (refine LeV.tell [some 0, none] ?_ ?_ ?_ <;> (simp; done)) | (refine LeV.tell [some 1, none] ?_ ?_ ?_ <;> (simp; done)) | (refine LeV.tell [some 2, none] ?_ ?_ ?_ <;> (simp; done)) | (refine LeV.tell [some 3, none] ?_ ?_ ?_ <;> (simp; done)) | (refine LeV.tell [some 4, none] ?_ ?_ ?_ <;> (simp; done)) | (refine LeV.tell [some 5, none] ?_ ?_ ?_ <;> (simp; done)) | (refine LeV.tell [some 6, none] ?_ ?_ ?_ <;> (simp; done)) | (refine LeV.tell [some 7, none] ?_ ?_ ?_ <;> (simp; done)) | (refine LeV.tell [some 8, none] ?_ ?_ ?_ <;> (simp; done)) | (refine LeV.tell [some 9, none] ?_ ?_ ?_ <;> (simp; done)) | (refine LeV.tell [some 10, none] ?_ ?_ ?_ <;> (simp; done)) | (refine LeV.tell [some 11, none] ?_ ?_ ?_ <;> (simp; done)) | (refine LeV.tell [some 12, none] ?_ ?_ ?_ <;> (simp; done)) | (refine LeV.tell [some 13, none] ?_ ?_ ?_ <;> (simp; done)) | (refine LeV.tell [some 14, none] ?_ ?_ ?_ <;> (simp; done)) | (refine LeV.tell [some 15, none] ?_ ?_ ?_ <;> (simp; done))
  refine impl_isAgent_call (a := b) rfl ?_; simp
  rcases Bool.eq_false_or_eq_true (inF b 0 4) with h3 | h3 <;> simp [h3]
  case inr =>
    rw [none_of (fun _ h => by rw [h3] at h; cases h.2.2.1), fail.1, fail.2.1, fail.2.2.2]
    refine impl_copyPool_k (ns := ns) (by omega) rfl (by simp) (by simp [noslBlks]) ?_; simp [shiftB]
    first | (refine LeV.tell [none, none] ?_ ?_ ?_ <;> (simp; done)) | (refine LeV.tell [some 0, none] ?_ ?_ ?_ <;> (simp; done)) | (refine LeV.tell [some 1, none] ?_ ?_ ?_ <;> (simp; done)) | (refine LeV.tell [some 2, none] ?_ ?_ ?_ <;> (simp; done)) | (refine LeV.tell [some 3, none] ?_ ?_ ?_ <;> (simp; done)) | (refine LeV.tell [some 4, none] ?_ ?_ ?_ <;> (simp; done)) | (refine LeV.tell [some 5, none] ?_ ?_ ?_ <;> (simp; done)) | (refine LeV.tell [some 6, none] ?_ ?_ ?_ <;> (simp; done)) | (refine LeV.tell [some 7, none] ?_ ?_ ?_ <;> (simp; done)) | (refine LeV.tell [some 8, none] ?_ ?_ ?_ <;> (simp; done)) | (refine LeV.tell [some 9, none] ?_ ?_ ?_ <;> (simp; done)) | (refine LeV.tell [some 10, none] ?_ ?_ ?_ <;> (simp; done)) | (refine LeV.tell [some 11, none] ?_ ?_ ?_ <;> (simp; done)) | (refine LeV.tell [some 12, none] ?_ ?_ ?_ <;> (simp; done)) | (refine LeV.tell [some 13, none] ?_ ?_ ?_ <;> (simp; done)) | (refine LeV.tell [some 14, none] ?_ ?_ ?_ <;> (simp; done)) | (refine LeV.tell [some 15, none] ?_ ?_ ?_ <;> (simp; done))
  by_cases h4 : a = b
  · have c4 : decide (a = b) = true := decide_eq_true h4
    simp [c4]
    rw [none_of (fun _ h => h.2.2.2 h4), fail.1, fail.2.1, fail.2.2.2]
    refine impl_copyPool_k (ns := ns) (by omega) rfl (by simp) (by simp [noslBlks]) ?_; simp [shiftB]
    first | (refine LeV.tell [none, none] ?_ ?_ ?_ <;> (simp; done)) | (refine LeV.tell [some 0, none] ?_ ?_ ?_ <;> (simp; done)) | (refine LeV.tell [some 1, none] ?_ ?_ ?_ <;> (simp; done)) | (refine LeV.tell [some 2, none] ?_ ?_ ?_ <;> (simp; done)) | (refine LeV.tell [some 3, none] ?_ ?_ ?_ <;> (simp; done)) | (refine LeV.tell [some 4, none] ?_ ?_ ?_ <;> (simp; done)) | (refine LeV.tell [some 5, none] ?_ ?_ ?_ <;> (simp; done)) | (refine LeV.tell [some 6, none] ?_ ?_ ?_ <;> (simp; done)) | (refine LeV.tell [some 7, none] ?_ ?_ ?_ <;> (simp; done)) | (refine LeV.tell [some 8, none] ?_ ?_ ?_ <;> (simp; done)) | (refine LeV.tell [some 9, none] ?_ ?_ ?_ <;> (simp; done)) | (refine LeV.tell [some 10, none] ?_ ?_ ?_ <;> (simp; done)) | (refine LeV.tell [some 11, none] ?_ ?_ ?_ <;> (simp; done)) | (refine LeV.tell [some 12, none] ?_ ?_ ?_ <;> (simp; done)) | (refine LeV.tell [some 13, none] ?_ ?_ ?_ <;> (simp; done)) | (refine LeV.tell [some 14, none] ?_ ?_ ?_ <;> (simp; done)) | (refine LeV.tell [some 15, none] ?_ ?_ ?_ <;> (simp; done))
  have c4 : decide (a = b) = false := decide_eq_false h4
  simp [c4]
  obtain ⟨a, rfl⟩ : ∃ q : Nat, a = q := ⟨a.toNat, by have := inF_iff.1 h2; omega⟩
  obtain ⟨b, rfl⟩ : ∃ q : Nat, b = q := ⟨b.toNat, by have := inF_iff.1 h3; omega⟩
  have ha : a < 5 := by have := inF_iff.1 h2; omega
  have hb : b < 5 := by have := inF_iff.1 h3; omega
  have hne : a ≠ b := by omega
  rw [show inoF ns w s a b = insF ns a b from if_pos ⟨hp, h1, h2, h3, h4⟩] at eo
  clear none_of
  refine impl_copyPool_k (ns := ns) (by omega) rfl (by simp) (by simp [noslBlks]) ?_; simp [shiftB]
  refine impl_EnvNew_k rfl (by simp) (by simp [noslBlks]) ?_; simp [shiftB]
  refine impl_LongKey_call (a := a) ha rfl ?_; simp
  refine impl_LongKey_call (a := b) hb rfl ?_; simp
  refine impl_SharedKey_call (a := a) (b := b) ha hb hne rfl ?_; simp
  refine impl_StaticKey_call (a := a) ha rfl ?_; simp
  unfold insF nmL at eo
  have l0 := e26_len
  refine WLoop_drop (iH ns w s a b ns e26) [] (by simp) (by simp) (by simp [inAs_scals _ (ints_scals e26)]) (by simp) ?_
  refine WLoop_step' ?_; simp
  refine pool_call rfl 4 0 3 0 1 [pref 3 ns] ns (addF ns ⟨1, (a:Int), 0⟩).1 (iH_in ns w s a b ns e26) rfl (impl_Pool_name_m (iH ns w s a b ns e26) 4 0 3 0 1 [pref 3 ns] ns (a:Int) (iH_in ns w s a b ns e26) (poolF_len hp)) ?_; simp [pset]
  repeat (refine ck_intro' (by first | omega | (simp; omega) | kernel_rfl) ?_; try simp)
  obtain ⟨z1, e1⟩ : ∃ z, addF ns ⟨1, (a:Int), 0⟩ = z := ⟨_, rfl⟩
  have hp1 := addF_pool ⟨1, (a:Int), 0⟩ hp
  rw [e1] at hp1 ⊢
  rw [nmF_cons, e1] at eo
  by_cases c : z1.2 < 0
  case pos =>
    have d2 : decide (z1.2 < 0) = true := decide_eq_true c
    rw [if_pos c] at eo
    have eo : none = o := eo
    subst eo
    simp [d2]
    rw [fail.1, fail.2.1, fail.2.2.2]
    refine impl_copyPool_k (ns := ns) (by omega) rfl (by simp) (by simp [noslBlks]) ?_; simp [shiftB]
    first | (refine LeV.tell [none, none] ?_ ?_ ?_ <;> (simp; done)) | (refine LeV.tell [some 0, none] ?_ ?_ ?_ <;> (simp; done)) | (refine LeV.tell [some 1, none] ?_ ?_ ?_ <;> (simp; done)) | (refine LeV.tell [some 2, none] ?_ ?_ ?_ <;> (simp; done)) | (refine LeV.tell [some 3, none] ?_ ?_ ?_ <;> (simp; done)) | (refine LeV.tell [some 4, none] ?_ ?_ ?_ <;> (simp; done)) | (refine LeV.tell [some 5, none] ?_ ?_ ?_ <;> (simp; done)) | (refine LeV.tell [some 6, none] ?_ ?_ ?_ <;> (simp; done)) | (refine LeV.tell [some 7, none] ?_ ?_ ?_ <;> (simp; done)) | (refine LeV.tell [some 8, none] ?_ ?_ ?_ <;> (simp; done)) | (refine LeV.tell [some 9, none] ?_ ?_ ?_ <;> (simp; done)) | (refine LeV.tell [some 10, none] ?_ ?_ ?_ <;> (simp; done)) | (refine LeV.tell [some 11, none] ?_ ?_ ?_ <;> (simp; done)) | (refine LeV.tell [some 12, none] ?_ ?_ ?_ <;> (simp; done)) | (refine LeV.tell [some 13, none] ?_ ?_ ?_ <;> (simp; done)) | (refine LeV.tell [some 14, none] ?_ ?_ ?_ <;> (simp; done)) | (refine LeV.tell [some 15, none] ?_ ?_ ?_ <;> (simp; done))
  rw [if_neg c] at eo
  have d2 : decide (z1.2 < 0) = false := decide_eq_false c
  have hkl : (e26).length = 26 := l0
  simp [d2, v109]
  try simp [hkl, ints_set]
  repeat (refine ck_intro' (by first | omega | (simp; omega) | kernel_rfl) ?_; try simp)
  refine WLoop_drop (iH ns w s a b z1.1 ((e26).set 12 z1.2)) [] (by simp [ints_set]) (by simp) (by simp [inAs_scals _ (ints_scals ((e26).set 12 z1.2))]) (by simp) ?_
  have l1 : ((e26).set 12 z1.2).length = 26 := by simp [hkl]
  obtain ⟨k1, ek⟩ : ∃ k, (e26).set 12 z1.2 = k := ⟨_, rfl⟩
  rw [ek] at eo l1 ⊢
  clear d2 c hkl ek
  refine WLoop_step' ?_; simp
  refine pool_call rfl 4 0 3 0 1 [pref 3 z1.1] z1.1 (addF z1.1 ⟨1, (b:Int), 0⟩).1 (iH_in ns w s a b z1.1 k1) rfl (impl_Pool_name_m (iH ns w s a b z1.1 k1) 4 0 3 0 1 [pref 3 z1.1] z1.1 (b:Int) (iH_in ns w s a b z1.1 k1) (poolF_len hp1)) ?_; simp [pset]
  repeat (refine ck_intro' (by first | omega | (simp; omega) | kernel_rfl) ?_; try simp)
  obtain ⟨z2, e2⟩ : ∃ z, addF z1.1 ⟨1, (b:Int), 0⟩ = z := ⟨_, rfl⟩
  have hp2 := addF_pool ⟨1, (b:Int), 0⟩ hp1
  rw [e2] at hp2 ⊢
  rw [nmF_cons, e2] at eo
  by_cases c : z2.2 < 0
  case pos =>
    have d2 : decide (z2.2 < 0) = true := decide_eq_true c
    rw [if_pos c] at eo
    have eo : none = o := eo
    subst eo
    simp [d2]
    rw [fail.1, fail.2.1, fail.2.2.2]
    refine impl_copyPool_k (ns := ns) (by omega) rfl (by simp) (by simp [noslBlks]) ?_; simp [shiftB]
    first | (refine LeV.tell [none, none] ?_ ?_ ?_ <;> (simp; done)) | (refine LeV.tell [some 0, none] ?_ ?_ ?_ <;> (simp; done)) | (refine LeV.tell [some 1, none] ?_ ?_ ?_ <;> (simp; done)) | (refine LeV.tell [some 2, none] ?_ ?_ ?_ <;> (simp; done)) | (refine LeV.tell [some 3, none] ?_ ?_ ?_ <;> (simp; done)) | (refine LeV.tell [some 4, none] ?_ ?_ ?_ <;> (simp; done)) | (refine LeV.tell [some 5, none] ?_ ?_ ?_ <;> (simp; done)) | (refine LeV.tell [some 6, none] ?_ ?_ ?_ <;> (simp; done)) | (refine LeV.tell [some 7, none] ?_ ?_ ?_ <;> (simp; done)) | (refine LeV.tell [some 8, none] ?_ ?_ ?_ <;> (simp; done)) | (refine LeV.tell [some 9, none] ?_ ?_ ?_ <;> (simp; done)) | (refine LeV.tell [some 10, none] ?_ ?_ ?_ <;> (simp; done)) | (refine LeV.tell [some 11, none] ?_ ?_ ?_ <;> (simp; done)) | (refine LeV.tell [some 12, none] ?_ ?_ ?_ <;> (simp; done)) | (refine LeV.tell [some 13, none] ?_ ?_ ?_ <;> (simp; done)) | (refine LeV.tell [some 14, none] ?_ ?_ ?_ <;> (simp; done)) | (refine LeV.tell [some 15, none] ?_ ?_ ?_ <;> (simp; done))
  rw [if_neg c] at eo
  have d2 : decide (z2.2 < 0) = false := decide_eq_false c
  have hkl : (k1).length = 26 := l1
  simp [d2, v112]
  try simp [hkl, ints_set]
  repeat (refine ck_intro' (by first | omega | (simp; omega) | kernel_rfl) ?_; try simp)
  refine WLoop_drop (iH ns w s a b z2.1 ((k1).set 15 z2.2)) [] (by simp [ints_set]) (by simp) (by simp [inAs_scals _ (ints_scals ((k1).set 15 z2.2))]) (by simp) ?_
  have l2 : ((k1).set 15 z2.2).length = 26 := by simp [hkl]
  obtain ⟨k2, ek⟩ : ∃ k, (k1).set 15 z2.2 = k := ⟨_, rfl⟩
  rw [ek] at eo l2 ⊢
  clear d2 c hkl ek
  refine WLoop_step' ?_; simp
  refine pool_call rfl 4 0 3 0 1 [pref 3 z2.1] z2.1 (addF z2.1 ⟨1, (50 + (a:Int)), 0⟩).1 (iH_in ns w s a b z2.1 k2) rfl (impl_Pool_name_m (iH ns w s a b z2.1 k2) 4 0 3 0 1 [pref 3 z2.1] z2.1 (50 + (a:Int)) (iH_in ns w s a b z2.1 k2) (poolF_len hp2)) ?_; simp [pset]
  repeat (refine ck_intro' (by first | omega | (simp; omega) | kernel_rfl) ?_; try simp)
  obtain ⟨z3, e3⟩ : ∃ z, addF z2.1 ⟨1, (50 + (a:Int)), 0⟩ = z := ⟨_, rfl⟩
  have hp3 := addF_pool ⟨1, (50 + (a:Int)), 0⟩ hp2
  rw [e3] at hp3 ⊢
  rw [nmF_cons, e3] at eo
  by_cases c : z3.2 < 0
  case pos =>
    have d2 : decide (z3.2 < 0) = true := decide_eq_true c
    rw [if_pos c] at eo
    have eo : none = o := eo
    subst eo
    simp [d2]
    rw [fail.1, fail.2.1, fail.2.2.2]
    refine impl_copyPool_k (ns := ns) (by omega) rfl (by simp) (by simp [noslBlks]) ?_; simp [shiftB]
    first | (refine LeV.tell [none, none] ?_ ?_ ?_ <;> (simp; done)) | (refine LeV.tell [some 0, none] ?_ ?_ ?_ <;> (simp; done)) | (refine LeV.tell [some 1, none] ?_ ?_ ?_ <;> (simp; done)) | (refine LeV.tell [some 2, none] ?_ ?_ ?_ <;> (simp; done)) | (refine LeV.tell [some 3, none] ?_ ?_ ?_ <;> (simp; done)) | (refine LeV.tell [some 4, none] ?_ ?_ ?_ <;> (simp; done)) | (refine LeV.tell [some 5, none] ?_ ?_ ?_ <;> (simp; done)) | (refine LeV.tell [some 6, none] ?_ ?_ ?_ <;> (simp; done)) | (refine LeV.tell [some 7, none] ?_ ?_ ?_ <;> (simp; done)) | (refine LeV.tell [some 8, none] ?_ ?_ ?_ <;> (simp; done)) | (refine LeV.tell [some 9, none] ?_ ?_ ?_ <;> (simp; done)) | (refine LeV.tell [some 10, none] ?_ ?_ ?_ <;> (simp; done)) | (refine LeV.tell [some 11, none] ?_ ?_ ?_ <;> (simp; done)) | (refine LeV.tell [some 12, none] ?_ ?_ ?_ <;> (simp; done)) | (refine LeV.tell [some 13, none] ?_ ?_ ?_ <;> (simp; done)) | (refine LeV.tell [some 14, none] ?_ ?_ ?_ <;> (simp; done)) | (refine LeV.tell [some 15, none] ?_ ?_ ?_ <;> (simp; done))
  rw [if_neg c] at eo
  have d2 : decide (z3.2 < 0) = false := decide_eq_false c
  have hkl : (k2).length = 26 := l2
  simp [d2, v115]
  try simp [hkl, ints_set]
  repeat (refine ck_intro' (by first | omega | (simp; omega) | kernel_rfl) ?_; try simp)
  refine WLoop_drop (iH ns w s a b z3.1 ((k2).set 18 z3.2)) [] (by simp [ints_set]) (by simp) (by simp [inAs_scals _ (ints_scals ((k2).set 18 z3.2))]) (by simp) ?_
  have l3 : ((k2).set 18 z3.2).length = 26 := by simp [hkl]
  obtain ⟨k3, ek⟩ : ∃ k, (k2).set 18 z3.2 = k := ⟨_, rfl⟩
  rw [ek] at eo l3 ⊢
  clear d2 c hkl ek
  refine WLoop_step' ?_; simp
  refine pool_call rfl 4 0 3 0 1 [pref 3 z3.1] z3.1 (addF z3.1 ⟨1, (50 + (b:Int)), 0⟩).1 (iH_in ns w s a b z3.1 k3) rfl (impl_Pool_name_m (iH ns w s a b z3.1 k3) 4 0 3 0 1 [pref 3 z3.1] z3.1 (50 + (b:Int)) (iH_in ns w s a b z3.1 k3) (poolF_len hp3)) ?_; simp [pset]
  repeat (refine ck_intro' (by first | omega | (simp; omega) | kernel_rfl) ?_; try simp)
  obtain ⟨z4, e4⟩ : ∃ z, addF z3.1 ⟨1, (50 + (b:Int)), 0⟩ = z := ⟨_, rfl⟩
  have hp4 := addF_pool ⟨1, (50 + (b:Int)), 0⟩ hp3
  rw [e4] at hp4 ⊢
  rw [nmF_cons, e4] at eo
  by_cases c : z4.2 < 0
  case pos =>
    have d2 : decide (z4.2 < 0) = true := decide_eq_true c
    rw [if_pos c] at eo
    have eo : none = o := eo
    subst eo
    simp [d2]
    rw [fail.1, fail.2.1, fail.2.2.2]
    refine impl_copyPool_k (ns := ns) (by omega) rfl (by simp) (by simp [noslBlks]) ?_; simp [shiftB]
    first | (refine LeV.tell [none, none] ?_ ?_ ?_ <;> (simp; done)) | (refine LeV.tell [some 0, none] ?_ ?_ ?_ <;> (simp; done)) | (refine LeV.tell [some 1, none] ?_ ?_ ?_ <;> (simp; done)) | (refine LeV.tell [some 2, none] ?_ ?_ ?_ <;> (simp; done)) | (refine LeV.tell [some 3, none] ?_ ?_ ?_ <;> (simp; done)) | (refine LeV.tell [some 4, none] ?_ ?_ ?_ <;> (simp; done)) | (refine LeV.tell [some 5, none] ?_ ?_ ?_ <;> (simp; done)) | (refine LeV.tell [some 6, none] ?_ ?_ ?_ <;> (simp; done)) | (refine LeV.tell [some 7, none] ?_ ?_ ?_ <;> (simp; done)) | (refine LeV.tell [some 8, none] ?_ ?_ ?_ <;> (simp; done)) | (refine LeV.tell [some 9, none] ?_ ?_ ?_ <;> (simp; done)) | (refine LeV.tell [some 10, none] ?_ ?_ ?_ <;> (simp; done)) | (refine LeV.tell [some 11, none] ?_ ?_ ?_ <;> (simp; done)) | (refine LeV.tell [some 12, none] ?_ ?_ ?_ <;> (simp; done)) | (refine LeV.tell [some 13, none] ?_ ?_ ?_ <;> (simp; done)) | (refine LeV.tell [some 14, none] ?_ ?_ ?_ <;> (simp; done)) | (refine LeV.tell [some 15, none] ?_ ?_ ?_ <;> (simp; done))
  rw [if_neg c] at eo
  have d2 : decide (z4.2 < 0) = false := decide_eq_false c
  have hkl : (k3).length = 26 := l3
  simp [d2, v113]
  try simp [hkl, ints_set]
  repeat (refine ck_intro' (by first | omega | (simp; omega) | kernel_rfl) ?_; try simp)
  refine WLoop_drop (iH ns w s a b z4.1 ((k3).set 16 z4.2)) [] (by simp [ints_set]) (by simp) (by simp [inAs_scals _ (ints_scals ((k3).set 16 z4.2))]) (by simp) ?_
  have l4 : ((k3).set 16 z4.2).length = 26 := by simp [hkl]
  obtain ⟨k4, ek⟩ : ∃ k, (k3).set 16 z4.2 = k := ⟨_, rfl⟩
  rw [ek] at eo l4 ⊢
  clear d2 c hkl ek
  refine WLoop_step' ?_; simp
  refine pool_call rfl 4 0 3 0 1 [pref 3 z4.1] z4.1 (addF z4.1 ⟨1, (shK a b), 0⟩).1 (iH_in ns w s a b z4.1 k4) rfl (impl_Pool_name_m (iH ns w s a b z4.1 k4) 4 0 3 0 1 [pref 3 z4.1] z4.1 (shK a b) (iH_in ns w s a b z4.1 k4) (poolF_len hp4)) ?_; simp [pset]
  repeat (refine ck_intro' (by first | omega | (simp; omega) | kernel_rfl) ?_; try simp)
  obtain ⟨z5, e5⟩ : ∃ z, addF z4.1 ⟨1, (shK a b), 0⟩ = z := ⟨_, rfl⟩
  have hp5 := addF_pool ⟨1, (shK a b), 0⟩ hp4
  rw [e5] at hp5 ⊢
  rw [nmF_cons, e5] at eo
  by_cases c : z5.2 < 0
  case pos =>
    have d2 : decide (z5.2 < 0) = true := decide_eq_true c
    rw [if_pos c] at eo
    have eo : none = o := eo
    subst eo
    simp [d2]
    rw [fail.1, fail.2.1, fail.2.2.2]
    refine impl_copyPool_k (ns := ns) (by omega) rfl (by simp) (by simp [noslBlks]) ?_; simp [shiftB]
    first | (refine LeV.tell [none, none] ?_ ?_ ?_ <;> (simp; done)) | (refine LeV.tell [some 0, none] ?_ ?_ ?_ <;> (simp; done)) | (refine LeV.tell [some 1, none] ?_ ?_ ?_ <;> (simp; done)) | (refine LeV.tell [some 2, none] ?_ ?_ ?_ <;> (simp; done)) | (refine LeV.tell [some 3, none] ?_ ?_ ?_ <;> (simp; done)) | (refine LeV.tell [some 4, none] ?_ ?_ ?_ <;> (simp; done)) | (refine LeV.tell [some 5, none] ?_ ?_ ?_ <;> (simp; done)) | (refine LeV.tell [some 6, none] ?_ ?_ ?_ <;> (simp; done)) | (refine LeV.tell [some 7, none] ?_ ?_ ?_ <;> (simp; done)) | (refine LeV.tell [some 8, none] ?_ ?_ ?_ <;> (simp; done)) | (refine LeV.tell [some 9, none] ?_ ?_ ?_ <;> (simp; done)) | (refine LeV.tell [some 10, none] ?_ ?_ ?_ <;> (simp; done)) | (refine LeV.tell [some 11, none] ?_ ?_ ?_ <;> (simp; done)) | (refine LeV.tell [some 12, none] ?_ ?_ ?_ <;> (simp; done)) | (refine LeV.tell [some 13, none] ?_ ?_ ?_ <;> (simp; done)) | (refine LeV.tell [some 14, none] ?_ ?_ ?_ <;> (simp; done)) | (refine LeV.tell [some 15, none] ?_ ?_ ?_ <;> (simp; done))
  rw [if_neg c] at eo
  have d2 : decide (z5.2 < 0) = false := decide_eq_false c
  have hkl : (k4).length = 26 := l4
  simp [d2, v107]
  try simp [hkl, ints_set]
  repeat (refine ck_intro' (by first | omega | (simp; omega) | kernel_rfl) ?_; try simp)
  refine WLoop_drop (iH ns w s a b z5.1 ((k4).set 10 z5.2)) [] (by simp [ints_set]) (by simp) (by simp [inAs_scals _ (ints_scals ((k4).set 10 z5.2))]) (by simp) ?_
  have l5 : ((k4).set 10 z5.2).length = 26 := by simp [hkl]
  obtain ⟨k5, ek⟩ : ∃ k, (k4).set 10 z5.2 = k := ⟨_, rfl⟩
  rw [ek] at eo l5 ⊢
  clear d2 c hkl ek
  refine WLoop_step' ?_; simp
  refine pool_call rfl 4 0 3 0 1 [pref 3 z5.1] z5.1 (addF z5.1 ⟨1, (90 + (a:Int)), 0⟩).1 (iH_in ns w s a b z5.1 k5) rfl (impl_Pool_name_m (iH ns w s a b z5.1 k5) 4 0 3 0 1 [pref 3 z5.1] z5.1 (90 + (a:Int)) (iH_in ns w s a b z5.1 k5) (poolF_len hp5)) ?_; simp [pset]
  repeat (refine ck_intro' (by first | omega | (simp; omega) | kernel_rfl) ?_; try simp)
  obtain ⟨z6, e6⟩ : ∃ z, addF z5.1 ⟨1, (90 + (a:Int)), 0⟩ = z := ⟨_, rfl⟩
  have hp6 := addF_pool ⟨1, (90 + (a:Int)), 0⟩ hp5
  rw [e6] at hp6 ⊢
  rw [nmF_cons, e6] at eo
  by_cases c : z6.2 < 0
  case pos =>
    have d2 : decide (z6.2 < 0) = true := decide_eq_true c
    rw [if_pos c] at eo
    have eo : none = o := eo
    subst eo
    simp [d2]
    rw [fail.1, fail.2.1, fail.2.2.2]
    refine impl_copyPool_k (ns := ns) (by omega) rfl (by simp) (by simp [noslBlks]) ?_; simp [shiftB]
    first | (refine LeV.tell [none, none] ?_ ?_ ?_ <;> (simp; done)) | (refine LeV.tell [some 0, none] ?_ ?_ ?_ <;> (simp; done)) | (refine LeV.tell [some 1, none] ?_ ?_ ?_ <;> (simp; done)) | (refine LeV.tell [some 2, none] ?_ ?_ ?_ <;> (simp; done)) | (refine LeV.tell [some 3, none] ?_ ?_ ?_ <;> (simp; done)) | (refine LeV.tell [some 4, none] ?_ ?_ ?_ <;> (simp; done)) | (refine LeV.tell [some 5, none] ?_ ?_ ?_ <;> (simp; done)) | (refine LeV.tell [some 6, none] ?_ ?_ ?_ <;> (simp; done)) | (refine LeV.tell [some 7, none] ?_ ?_ ?_ <;> (simp; done)) | (refine LeV.tell [some 8, none] ?_ ?_ ?_ <;> (simp; done)) | (refine LeV.tell [some 9, none] ?_ ?_ ?_ <;> (simp; done)) | (refine LeV.tell [some 10, none] ?_ ?_ ?_ <;> (simp; done)) | (refine LeV.tell [some 11, none] ?_ ?_ ?_ <;> (simp; done)) | (refine LeV.tell [some 12, none] ?_ ?_ ?_ <;> (simp; done)) | (refine LeV.tell [some 13, none] ?_ ?_ ?_ <;> (simp; done)) | (refine LeV.tell [some 14, none] ?_ ?_ ?_ <;> (simp; done)) | (refine LeV.tell [some 15, none] ?_ ?_ ?_ <;> (simp; done))
  rw [if_neg c] at eo
  have d2 : decide (z6.2 < 0) = false := decide_eq_false c
  have hkl : (k5).length = 26 := l5
  simp [d2, v116]
  try simp [hkl, ints_set]
  repeat (refine ck_intro' (by first | omega | (simp; omega) | kernel_rfl) ?_; try simp)
  refine WLoop_drop (iH ns w s a b z6.1 ((k5).set 19 z6.2)) [] (by simp [ints_set]) (by simp) (by simp [inAs_scals _ (ints_scals ((k5).set 19 z6.2))]) (by simp) ?_
  have l6 : ((k5).set 19 z6.2).length = 26 := by simp [hkl]
  obtain ⟨k6, ek⟩ : ∃ k, (k5).set 19 z6.2 = k := ⟨_, rfl⟩
  rw [ek] at eo l6 ⊢
  clear d2 c hkl ek
  have eo : (if (powO z6.1 b).2 < 0 then none else some ((powO z6.1 b).1, k6.set 20 (powO z6.1 b).2)) = o := eo
  refine WLoop_step' ?_; simp
  refine pool_call rfl 4 0 3 0 1 [pref 3 z6.1] z6.1 (powO z6.1 b).1 (iH_in ns w s a b z6.1 k6) rfl (impl_Pool_powerOf_m (iH ns w s a b z6.1 k6) 4 0 3 0 1 [pref 3 z6.1] z6.1 b (iH_in ns w s a b z6.1 k6) (poolF_len hp6) hb) ?_; simp [pset]
  repeat (refine ck_intro' (by first | omega | (simp; omega) | kernel_rfl) ?_; try simp)
  have hp8 : poolF (powO z6.1 b).1 = true := addF_pool _ (addF_pool _ hp6)
  obtain ⟨z8, e8⟩ : ∃ z, powO z6.1 b = z := ⟨_, rfl⟩
  rw [e8] at hp8 eo ⊢
  by_cases c8 : z8.2 < 0
  case pos =>
    have d2 : decide (z8.2 < 0) = true := decide_eq_true c8
    rw [if_pos c8] at eo
    subst eo
    simp [d2]
    rw [fail.1, fail.2.1, fail.2.2.2]
    refine impl_copyPool_k (ns := ns) (by omega) rfl (by simp) (by simp [noslBlks]) ?_; simp [shiftB]
    first | (refine LeV.tell [none, none] ?_ ?_ ?_ <;> (simp; done)) | (refine LeV.tell [some 0, none] ?_ ?_ ?_ <;> (simp; done)) | (refine LeV.tell [some 1, none] ?_ ?_ ?_ <;> (simp; done)) | (refine LeV.tell [some 2, none] ?_ ?_ ?_ <;> (simp; done)) | (refine LeV.tell [some 3, none] ?_ ?_ ?_ <;> (simp; done)) | (refine LeV.tell [some 4, none] ?_ ?_ ?_ <;> (simp; done)) | (refine LeV.tell [some 5, none] ?_ ?_ ?_ <;> (simp; done)) | (refine LeV.tell [some 6, none] ?_ ?_ ?_ <;> (simp; done)) | (refine LeV.tell [some 7, none] ?_ ?_ ?_ <;> (simp; done)) | (refine LeV.tell [some 8, none] ?_ ?_ ?_ <;> (simp; done)) | (refine LeV.tell [some 9, none] ?_ ?_ ?_ <;> (simp; done)) | (refine LeV.tell [some 10, none] ?_ ?_ ?_ <;> (simp; done)) | (refine LeV.tell [some 11, none] ?_ ?_ ?_ <;> (simp; done)) | (refine LeV.tell [some 12, none] ?_ ?_ ?_ <;> (simp; done)) | (refine LeV.tell [some 13, none] ?_ ?_ ?_ <;> (simp; done)) | (refine LeV.tell [some 14, none] ?_ ?_ ?_ <;> (simp; done)) | (refine LeV.tell [some 15, none] ?_ ?_ ?_ <;> (simp; done))
  rw [if_neg c8] at eo
  have d2 : decide (z8.2 < 0) = false := decide_eq_false c8
  simp [d2]
  try simp [l6, ints_set]
  repeat (refine ck_intro' (by first | omega | (simp; omega) | kernel_rfl) ?_; try simp)
  have l7 : (k6.set 20 z8.2).length = 26 := by simp [l6]
  obtain ⟨k7, ek⟩ : ∃ k, k6.set 20 z8.2 = k := ⟨_, rfl⟩
  rw [ek] at eo l7 ⊢
  subst eo
  exact LeV.tell [some 3, some 5] (by simp) (by simp [l7]) (by simp [l7])
theorem impl_InstNew_k {ns : List Nd} {w s a b : Int} (hl : ns.length < 9223372036854775807) (hw : -9223372036854775808 ≤ w) (hw2 : w < 9223372036854775808) {S : FuncId → Bool} {H : List Blk} {K : A → Dl → Prop} {zs : List A} (hS : S 7 = false) (hv : viewL (viewA 8 H) zs = some [aP ns, i6 w, i6 s, i6 a, i6 b]) (ho : noOwns zs = true ∨ nosl (.tup [.agg [pref 0 (iN ns (inoF ns w s a b))], .agg [i6 (iI (inoF ns w s a b) w), i6 (iI (inoF ns w s a b) s), i6 (iI (inoF ns w s a b) a), i6 (iI (inoF ns w s a b) b), i6 0, jref 1 (iK (inoF ns w s a b)), .bool false, .bool false, i6 (iI (inoF ns w s a b) (-1))], .bool (inoF ns w s a b).isSome]) = true ∧ noslBlks ([pblk (iN ns (inoF ns w s a b)), jblk (iK (inoF ns w s a b))]) = true) (hK : K (shiftA H.length (.tup [.agg [pref 0 (iN ns (inoF ns w s a b))], .agg [i6 (iI (inoF ns w s a b) w), i6 (iI (inoF ns w s a b) s), i6 (iI (inoF ns w s a b) a), i6 (iI (inoF ns w s a b) b), i6 0, jref 1 (iK (inoF ns w s a b)), .bool false, .bool false, i6 (iI (inoF ns w s a b) (-1))], .bool (inoF ns w s a b).isSome])) (.news (([pblk (iN ns (inoF ns w s a b)), jblk (iK (inoF ns w s a b))]).map (shiftB H.length)))) : @WCall' Go.Proofs.Try.prog S 7 zs H ⟨K⟩ :=
  WCall_ro' hS hv (impl_InstNew_c ns w s a b hl hw hw2) rfl ho hK
end Go.Proofs.Ytpohfpnlepmebaa.C
