/- Steps of proofs: what a step needs, whether it holds. Conditions: those that each theorem names. -/
import Derived.Test.YtcfgiffgahdlbaaXB1
set_option linter.unusedVariables false
set_option linter.unusedSimpArgs false
set_option maxRecDepth 4000
namespace Go.Proofs.Ytcfgiffgahdlbaa.C
open Go.Sym Go.Proofs.Ytcfgiffgahdlbaa.I
structure Sp where
  r : Int
  t : Int
  a : Int
  b : Int
deriving DecidableEq
theorem Sp_eq {x y : Sp} : x = y ↔ x.r = y.r ∧ x.t = y.t ∧ x.a = y.a ∧ x.b = y.b := by cases x; cases y; simp
def encT (s : Sp) : List A := [i6 s.r, i6 s.t, i6 s.a, i6 s.b]
def encS (ss : List Sp) : List A := ss.flatMap encT
theorem encT_len (n : Sp) : (encT n).length = 4 := rfl
@[simp] theorem encS_len (ns : List Sp) : (encS ns).length = ns.length * 4 := flat_len encT_len ns
@[simp] theorem encS_scals (ns : List Sp) : scals (encS ns) = true := scals_flat _ (fun _ => rfl) ns
theorem encS_at {ns : List Sp} {j : Nat} (h : j < ns.length) : ∃ r, (encS ns).drop (j * 4) = i6 ns[j].r :: i6 ns[j].t :: i6 ns[j].a :: i6 ns[j].b :: r := flat_at encT_len (List.getElem?_eq_getElem h)
@[simp] theorem encS_view (n : Nat) (H : List Blk) (ns : List Sp) : viewL (viewA (n + 1) H) (encS ns) = some (encS ns) := viewL_scals _ (encS_scals ns)
@[simp] theorem encS_noOwns (ns : List Sp) : noOwns (encS ns) = true := noOwns_scals _ (encS_scals ns)
@[simp] theorem encS_nosls (ns : List Sp) : nosls (encS ns) = true := nosls_scals _ (encS_scals ns)
@[simp] theorem encS_shift (n : Nat) (ns : List Sp) : shiftAs n (encS ns) = encS ns := shiftAs_scals _ (encS_scals ns)
@[simp] theorem encS_inAs (m : Nat) (ns : List Sp) : inAs m (encS ns) = true := inAs_scals _ (encS_scals ns)
@[simp] theorem encS_tells (H H' : List Blk) (g : List (Option Nat)) (ns : List Sp) : Tells H H' g (encS ns) (encS ns) := Tells_scals _ (encS_scals ns)
@[simp] theorem encS_one (ns : List Sp) : (encS ns).all A.one = true := one_scals _ (encS_scals ns)
@[simp] theorem encS_take (ns : List Sp) : (encS ns).take (ns.length * 4) = encS ns := List.take_of_length_le (by simp)
@[simp] theorem encS_nil : encS [] = [] := rfl
theorem encS_snoc (ns : List Sp) (n : Sp) : encS (ns ++ [n]) = encS ns ++ [i6 n.r, i6 n.t, i6 n.a, i6 n.b] := by simp [encS, encT]
theorem encS_takes (ns : List Sp) (j : Nat) : (encS ns).take (j * 4) = encS (ns.take j) := flat_take encT_len ns j
theorem encS_drops (ns : List Sp) (j : Nat) : (encS ns).drop (j * 4) = encS (ns.drop j) := flat_drop encT_len ns j
abbrev aSt (n : Sp) : A := .agg [i6 n.r, i6 n.t, i6 n.a, i6 n.b]
abbrev aSs (ss : List Sp) : A := .sl ss.length (encS ss)
/-- How many steps a step needs. -/
def needsF (ns : List Nd) (s : Sp) : Int :=
  if s.r = 1 ∨ s.r = 2 then 0 else if s.r = 3 then partsF (nodeAt ns s.t).k else if s.r = 4 ∨ s.r = 7 then 2 else if s.r = 5 ∨ s.r = 6 ∨ s.r = 8 then 1 else -1
theorem partsL_len {ns : List Nd} (hp : poolF ns = true) {t : Int} (ht : hasF ns.length t = true) : ((partsL (nodeAt ns t)).length : Int) = partsF (nodeAt ns t).k := by
  obtain ⟨j, rfl, hj⟩ := hasN ht
  rw [nodeAt_nat hj]
  rcases parts_kind hp hj with h | h | h <;> simp [partsL, h]
theorem spec_l9Needs_c (ns : List Nd) (s : Sp) (hl : ns.length < 9223372036854775807) (ht : hasF ns.length s.t = true) : T 38 [aP ns, aSt s] [] (i6 (needsF ns s)) ([]) := by
  refine semT' (S := S0) hm spec_l9Needs_ok (Nat.le_of_ble_eq_true rfl) ?_
  unfold spec_l9Needs; dsimp only
  obtain ⟨j, ej, hj⟩ := hasN ht
  obtain ⟨q, hr⟩ := enc_at hj
  have h3 : 3 ≤ ns.length * 3 - j * 3 := by omega
  have en : nodeAt ns s.t = ns[j] := by rw [ej, nodeAt_nat hj]
  have en2 := nodeAt_nat hj
  simp [ej]
  repeat (any_goals (first | (refine br_intro' (fun h => ?_) (fun h => ?_) <;> (try simp at h) <;> try simp [h, h3, hr, hj]) | (refine spec_l1Parts_call rfl ?_; simp)))
  all_goals exact LeV.ro rfl rfl (by simp [needsF, en, en2, *])
theorem spec_l9Needs_call {ns : List Nd} {s : Sp} (hl : ns.length < 9223372036854775807) (ht : hasF ns.length s.t = true) {S : FuncId → Bool} {H : List Blk} {K : A → Dl → Prop} (hS : S 38 = false) (hK : K (i6 (needsF ns s)) (.news [])) : @WCall' Go.Proofs.Try.prog S 38 [aP ns, aSt s] H ⟨K⟩ :=
  WCall_pure hS (spec_l9Needs_c ns s hl ht) (by simp) (by simp) (by simp) hK
theorem spec_l9Needs_k {ns : List Nd} {s : Sp} (hl : ns.length < 9223372036854775807) (ht : hasF ns.length s.t = true) {S : FuncId → Bool} {H : List Blk} {K : A → Dl → Prop} {zs : List A} (hS : S 38 = false) (hv : viewL (viewA 8 H) zs = some [aP ns, aSt s]) (ho : noOwns zs = true ∨ nosl (i6 (needsF ns s)) = true) (hK : K (i6 (needsF ns s)) (.news [])) : @WCall' Go.Proofs.Try.prog S 38 zs H ⟨K⟩ :=
  WCall_pure hS (spec_l9Needs_c ns s hl ht) hv ho (by simp) hK
theorem impl_Pool_needs_c (ns : List Nd) (r : List A) (s : Sp) (hl : ns.length < 9223372036854775807) (hp : poolF ns = true) (ht : hasF ns.length s.t = true) (hv : ∀ n H, viewL (viewA (n + 1) H) r = some r) (ho : noOwns r = true) : T 44 [.pt (.sl ns.length (enc ns) :: r), aSt s] [] (i6 (needsF ns s)) ([]) := by
  refine semT' (S := S0) hm impl_Pool_needs_ok (Nat.le_of_ble_eq_true rfl) ?_
  unfold impl_Pool_needs; dsimp only
  have hq := partsL_len hp ht
  simp
  repeat (any_goals (first | (refine br_intro' (fun h => ?_) (fun h => ?_) <;> (try simp at h) <;> try simp [h]) | (refine WCall_ro' rfl (by simp [hv]) (impl_Pool_parts_c ns r s.t hl ht) rfl (.inr ⟨by simp, by simp [noslBlks]⟩) ?_; simp [shiftB])))
  all_goals exact LeV.ro rfl rfl (by simp [needsF, *])
def stepNeedsF (ns : List Nd) (s : Sp) : Int := if poolF ns = true ∧ hasF ns.length s.t = true then needsF ns s else -1
theorem spec_StepNeeds_c (ns : List Nd) (s : Sp) (hl : ns.length < 9223372036854775807) : T 36 [aP ns, aSt s] [] (i6 (stepNeedsF ns s)) ([]) := by
  refine semT' (S := S0) hm spec_StepNeeds_ok (Nat.le_of_ble_eq_true rfl) ?_
  unfold spec_StepNeeds; dsimp only
  simp
  refine spec_PoolOk_call rfl ?_; simp
  refine br_intro' (fun h => ?_) (fun h => ?_) <;> simp [h]
  · refine spec_l1Has_call (t := s.t) hl rfl ?_; simp
    refine br_intro' (fun h1 => ?_) (fun h1 => ?_) <;> simp [h1]
    · refine spec_l9Needs_call (s := s) hl h1 rfl ?_; simp
      exact LeV.ro rfl rfl (by simp [stepNeedsF, h, h1])
    · exact LeV.ro rfl rfl (by simp [stepNeedsF, h1])
  · exact LeV.ro rfl rfl (by simp [stepNeedsF, h])
theorem spec_StepNeeds_call {ns : List Nd} {s : Sp} (hl : ns.length < 9223372036854775807) {S : FuncId → Bool} {H : List Blk} {K : A → Dl → Prop} (hS : S 36 = false) (hK : K (i6 (stepNeedsF ns s)) (.news [])) : @WCall' Go.Proofs.Try.prog S 36 [aP ns, aSt s] H ⟨K⟩ :=
  WCall_pure hS (spec_StepNeeds_c ns s hl) (by simp) (by simp) (by simp) hK
theorem spec_StepNeeds_k {ns : List Nd} {s : Sp} (hl : ns.length < 9223372036854775807) {S : FuncId → Bool} {H : List Blk} {K : A → Dl → Prop} {zs : List A} (hS : S 36 = false) (hv : viewL (viewA 8 H) zs = some [aP ns, aSt s]) (ho : noOwns zs = true ∨ nosl (i6 (stepNeedsF ns s)) = true) (hK : K (i6 (stepNeedsF ns s)) (.news [])) : @WCall' Go.Proofs.Try.prog S 36 zs H ⟨K⟩ :=
  WCall_pure hS (spec_StepNeeds_c ns s hl) hv ho (by simp) hK
theorem impl_StepNeeds_c (ns : List Nd) (s : Sp) (hl : ns.length < 9223372036854775807) : T 34 [aP ns, aSt s] [] (i6 (stepNeedsF ns s)) ([]) := by
  refine semT' (S := S0) hm impl_StepNeeds_ok (Nat.le_of_ble_eq_true rfl) ?_
  unfold impl_StepNeeds; dsimp only
  simp
  refine WCall_pure rfl (impl_Pool_isTerm_c ns [] s.t hl) (by simp) (by simp) (by simp) ?_; simp
  refine br_intro' (fun h => ?_) (fun h => ?_) <;> simp [h]
  · refine impl_PoolOk_k (ns := ns) rfl (by simp) (by simp [noslBlks]) ?_; simp [shiftB]
    refine br_intro' (fun h1 => ?_) (fun h1 => ?_) <;> simp [h1]
    · refine WCall_pure rfl (impl_Pool_needs_c ns [] s hl h1 h (by simp) (by simp)) (by simp) (by simp) (by simp) ?_; simp
      exact LeV.ro rfl rfl (by simp [stepNeedsF, h, h1])
    · exact LeV.ro rfl rfl (by simp [stepNeedsF, h1])
  · exact LeV.ro rfl rfl (by simp [stepNeedsF, h])
theorem impl_StepNeeds_call {ns : List Nd} {s : Sp} (hl : ns.length < 9223372036854775807) {S : FuncId → Bool} {H : List Blk} {K : A → Dl → Prop} (hS : S 34 = false) (hK : K (i6 (stepNeedsF ns s)) (.news [])) : @WCall' Go.Proofs.Try.prog S 34 [aP ns, aSt s] H ⟨K⟩ :=
  WCall_pure hS (impl_StepNeeds_c ns s hl) (by simp) (by simp) (by simp) hK
theorem impl_StepNeeds_k {ns : List Nd} {s : Sp} (hl : ns.length < 9223372036854775807) {S : FuncId → Bool} {H : List Blk} {K : A → Dl → Prop} {zs : List A} (hS : S 34 = false) (hv : viewL (viewA 8 H) zs = some [aP ns, aSt s]) (ho : noOwns zs = true ∨ nosl (i6 (stepNeedsF ns s)) = true) (hK : K (i6 (stepNeedsF ns s)) (.news [])) : @WCall' Go.Proofs.Try.prog S 34 zs H ⟨K⟩ :=
  WCall_pure hS (impl_StepNeeds_c ns s hl) hv ho (by simp) hK
/-- The term of a step ahead of place m; -1: there's none. -/
def termAt (ss : List Sp) (m : Nat) (k : Int) : Int := if inF k 0 ((m : Int) - 1) then (ss.getD k.toNat ⟨0, 0, 0, 0⟩).t else -1
theorem spec_l9Term_c (ss : List Sp) (m : Nat) (k : Int) (hl : ss.length < 9223372036854775807) (hml : m ≤ ss.length) : T 69 [aSs ss, i6 m, i6 k] [] (i6 (termAt ss m k)) ([]) := by
  refine semT' (S := S0) hm spec_l9Term_ok (Nat.le_of_ble_eq_true rfl) ?_
  unfold spec_l9Term; dsimp only
  simp [wrap_len (n := m) (by omega)]
  refine spec_l1In_call rfl ?_; simp
  refine br_intro' (fun h => ?_) (fun h => ?_) <;> simp [h]
  · have h' := h
    simp [inF] at h'
    obtain ⟨j, rfl⟩ : ∃ j : Nat, k = j := ⟨k.toNat, by omega⟩
    have hj : j < ss.length := by omega
    obtain ⟨q, hr⟩ := encS_at hj
    have h4 : 2 ≤ ss.length * 4 - j * 4 := by omega
    simp [hr, hj]
    exact LeV.ro rfl rfl (by simp [termAt, h, hj])
  · exact LeV.ro rfl rfl (by simp [termAt, h])
theorem spec_l9Term_call {ss : List Sp} {m : Nat} {k : Int} (hl : ss.length < 9223372036854775807) (hml : m ≤ ss.length) {S : FuncId → Bool} {H : List Blk} {K : A → Dl → Prop} (hS : S 69 = false) (hK : K (i6 (termAt ss m k)) (.news [])) : @WCall' Go.Proofs.Try.prog S 69 [aSs ss, i6 m, i6 k] H ⟨K⟩ :=
  WCall_pure hS (spec_l9Term_c ss m k hl hml) (by simp) (by simp) (by simp) hK
theorem spec_l9Term_k {ss : List Sp} {m : Nat} {k : Int} (hl : ss.length < 9223372036854775807) (hml : m ≤ ss.length) {S : FuncId → Bool} {H : List Blk} {K : A → Dl → Prop} {zs : List A} (hS : S 69 = false) (hv : viewL (viewA 8 H) zs = some [aSs ss, i6 m, i6 k]) (ho : noOwns zs = true ∨ nosl (i6 (termAt ss m k)) = true) (hK : K (i6 (termAt ss m k)) (.news [])) : @WCall' Go.Proofs.Try.prog S 69 zs H ⟨K⟩ :=
  WCall_pure hS (spec_l9Term_c ss m k hl hml) hv ho (by simp) hK
end Go.Proofs.Ytcfgiffgahdlbaa.C
