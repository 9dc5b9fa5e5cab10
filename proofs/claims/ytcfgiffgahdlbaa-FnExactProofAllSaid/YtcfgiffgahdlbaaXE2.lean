/- Whether a step holds. Conditions: those that each theorem names. -/
import Derived.Test.YtcfgiffgahdlbaaXE1
set_option linter.unusedVariables false
set_option linter.unusedSimpArgs false
set_option maxRecDepth 4000
namespace Go.Proofs.Ytcfgiffgahdlbaa.C
open Go.Sym Go.Proofs.Ytcfgiffgahdlbaa.I
theorem needsF_in {ns : List Nd} (hp : poolF ns = true) {s : Sp} (ht : hasF ns.length s.t = true) : needsF ns s = -1 ∨ needsF ns s = 0 ∨ needsF ns s = 1 ∨ needsF ns s = 2 := by
  obtain ⟨j, ej, hj⟩ := hasN ht
  have := parts_kind hp hj
  rw [← nodeAt_nat hj, ← ej] at this
  unfold needsF
  split
  · simp
  · split
    · rcases this with h | h | h <;> simp [h]
    · split
      · simp
      · split <;> simp
/-- Whether a rule holds, by the terms of the steps that are named. -/
def ruleF (ns : List Nd) (ks : List Int) (s : Sp) (a b : Int) : Bool :=
  if s.r = 1 then hasK ks s.t
  else if s.r = 2 then decide ((nodeAt ns s.t).k = 1) && pubF (nodeAt ns s.t).a
  else if s.r = 3 then decide ((nodeAt ns s.t).k ≠ 1) && decide (a = (nodeAt ns s.t).a) && (decide (needsF ns s < 2) || decide (b = (nodeAt ns s.t).b))
  else if s.r = 4 then decide ((nodeAt ns s.t).k = 8) && decide ((nodeAt ns b).k = 7) && (decide (a = (nodeAt ns s.t).a) && decide ((nodeAt ns b).a = (nodeAt ns s.t).b) || decide (a = (nodeAt ns s.t).b) && decide ((nodeAt ns b).a = (nodeAt ns s.t).a))
  else if s.r = 5 then decide ((nodeAt ns a).k = 2) && decide ((nodeAt ns a).a = s.t)
  else if s.r = 6 then decide ((nodeAt ns a).k = 2) && decide ((nodeAt ns a).b = s.t)
  else if s.r = 7 then decide ((nodeAt ns a).k = 3) && decide ((nodeAt ns a).a = s.t) && decide ((nodeAt ns a).b = b)
  else decide ((nodeAt ns a).k = 4) && decide ((nodeAt ns a).a = s.t)
def lackF (n a b sa sb : Int) : Bool := decide (n < 0 ∨ (0 < n ∧ a < 0) ∨ (1 < n ∧ b < 0) ∨ (n < 1 ∧ sa ≠ 0) ∨ (n < 2 ∧ sb ≠ 0))
def holdsF (ns : List Nd) (ks : List Int) (s : Sp) (a b : Int) : Bool := !lackF (needsF ns s) a b s.a s.b && ruleF ns ks s a b
theorem needs_0 {ns : List Nd} {s : Sp} (h : needsF ns s = 0) : s.r = 1 ∨ s.r = 2 ∨ s.r = 3 := by
  unfold needsF at h
  split at h
  · omega
  · split at h
    · omega
    · split at h
      · omega
      · split at h <;> omega
theorem needs_1 {ns : List Nd} {s : Sp} (h : needsF ns s = 1) : s.r = 3 ∨ s.r = 5 ∨ s.r = 6 ∨ s.r = 8 := by
  unfold needsF at h
  split at h
  · omega
  · split at h
    · omega
    · split at h
      · omega
      · split at h <;> omega
theorem needs_2 {ns : List Nd} {s : Sp} (h : needsF ns s = 2) : s.r = 3 ∨ s.r = 4 ∨ s.r = 7 := by
  unfold needsF at h
  split at h
  · omega
  · split at h
    · omega
    · split at h
      · omega
      · split at h <;> omega
theorem spec_l9Holds_c (ns : List Nd) (ks : List Int) (s : Sp) (a b : Int) (hl : ns.length < 9223372036854775807) (hk : ks.length < 9223372036854775807) (hp : poolF ns = true) (ht : hasF ns.length s.t = true) (ha : a < 0 ∨ hasF ns.length a = true) (hb : b < 0 ∨ hasF ns.length b = true) : T 68 [aP ns, aI ks, aSt s, i6 a, i6 b] [] (.bool (holdsF ns ks s a b)) ([]) := by
  refine semT' (S := S0) hm spec_l9Holds_ok (Nat.le_of_ble_eq_true rfl) ?_
  unfold spec_l9Holds; dsimp only
  obtain ⟨j, ej, hj⟩ := hasN ht
  obtain ⟨q, hr⟩ := enc_at hj
  have h3 : 3 ≤ ns.length * 3 - j * 3 := by omega
  have en := nodeAt_nat hj
  simp [ej, h3, hr, hj]
  rw [← ej]
  refine spec_l9Needs_call (s := s) hl ht rfl ?_; simp
  rcases needsF_in hp ht with hn | hn | hn | hn <;> simp [hn]
  · exact LeV.ro rfl rfl (by simp [holdsF, lackF, hn])
  · rcases needs_0 hn with h0 | h0 | h0
    all_goals repeat (any_goals (first | (refine br_intro' (fun h => ?_) (fun h => ?_) <;> (try simp at h) <;> try simp [h, h0, hn, h3, hr, hj]) | (refine spec_KnowHas_call (t := s.t) hk rfl ?_; simp) | (refine spec_IsPublic_call rfl ?_; simp)))
    all_goals exact LeV.ro rfl rfl (by simp [holdsF, lackF, ruleF, hn, h0, ej, en, *])
  · refine br_intro' (fun g => ?_) (fun g => ?_) <;> (have g0 := g) <;> simp at g <;> simp [g0, g]
    · exact LeV.ro rfl rfl (by simp [holdsF, lackF, hn, g])
    · obtain ⟨ja, rfl, hja⟩ := hasN (ha.resolve_left (by omega))
      obtain ⟨qa, hra⟩ := enc_at hja
      have h3a : 3 ≤ ns.length * 3 - ja * 3 := by omega
      have ena := nodeAt_nat hja
      rcases needs_1 hn with h0 | h0 | h0 | h0
      all_goals repeat (any_goals (first | (refine br_intro' (fun h => ?_) (fun h => ?_) <;> (have k0 := h) <;> (try simp [h0] at h) <;> try simp [k0, h, h0, hn, h3, hr, hj, h3a, hra, hja]) | (refine ck_intro' (by first | omega | kernel_rfl) ?_; simp [h0, hn, h3, hr, hj, h3a, hra, hja])))
      all_goals exact LeV.ro rfl rfl (by first | (simp [holdsF, lackF, ruleF, hn, h0, ej, en, ena, *]; done) | (simp [holdsF, lackF, ruleF, hn, h0, ej, en, ena, *]; omega))
  · refine br_intro' (fun g => ?_) (fun g => ?_) <;> (have g0 := g) <;> simp at g <;> simp [g0, g]
    · exact LeV.ro rfl rfl (by simp [holdsF, lackF, hn, g])
    obtain ⟨ja, rfl, hja⟩ := hasN (ha.resolve_left (by omega))
    refine br_intro' (fun g2 => ?_) (fun g2 => ?_) <;> (have g02 := g2) <;> simp at g2 <;> simp [g02, g2]
    · exact LeV.ro rfl rfl (by simp [holdsF, lackF, hn, g2])
    · obtain ⟨jb, rfl, hjb⟩ := hasN (hb.resolve_left (by omega))
      obtain ⟨qa, hra⟩ := enc_at hja
      have h3a : 3 ≤ ns.length * 3 - ja * 3 := by omega
      have ena := nodeAt_nat hja
      obtain ⟨qb, hrb⟩ := enc_at hjb
      have h3b : 3 ≤ ns.length * 3 - jb * 3 := by omega
      have enb := nodeAt_nat hjb
      rcases needs_2 hn with h0 | h0 | h0
      all_goals try simp [h0]
      all_goals repeat (any_goals (first | (refine br_intro' (fun h => ?_) (fun h => ?_) <;> (have k0 := h) <;> (try simp [h0] at h) <;> try simp [k0, h, h0, hn, h3, hr, hj, h3a, hra, hja, h3b, hrb, hjb]) | (refine ck_intro' (by first | omega | kernel_rfl) ?_; simp [h0, hn, h3, hr, hj, h3a, hra, hja, h3b, hrb, hjb])))
      all_goals exact LeV.ro rfl rfl (by first | (simp [holdsF, lackF, ruleF, hn, h0, ej, en, ena, enb, *]; done) | (simp [holdsF, lackF, ruleF, hn, h0, ej, en, ena, enb, *]; omega) | (simp [holdsF, lackF, ruleF, hn, h0, ej, en, ena, enb, *]; grind))
theorem spec_l9Holds_call {ns : List Nd} {ks : List Int} {s : Sp} {a b : Int} (hl : ns.length < 9223372036854775807) (hk : ks.length < 9223372036854775807) (hp : poolF ns = true) (ht : hasF ns.length s.t = true) (ha : a < 0 ∨ hasF ns.length a = true) (hb : b < 0 ∨ hasF ns.length b = true) {S : FuncId → Bool} {H : List Blk} {K : A → Dl → Prop} (hS : S 68 = false) (hK : K (.bool (holdsF ns ks s a b)) (.news [])) : @WCall' Go.Proofs.Try.prog S 68 [aP ns, aI ks, aSt s, i6 a, i6 b] H ⟨K⟩ :=
  WCall_pure hS (spec_l9Holds_c ns ks s a b hl hk hp ht ha hb) (by simp) (by simp) (by simp) hK
theorem spec_l9Holds_k {ns : List Nd} {ks : List Int} {s : Sp} {a b : Int} (hl : ns.length < 9223372036854775807) (hk : ks.length < 9223372036854775807) (hp : poolF ns = true) (ht : hasF ns.length s.t = true) (ha : a < 0 ∨ hasF ns.length a = true) (hb : b < 0 ∨ hasF ns.length b = true) {S : FuncId → Bool} {H : List Blk} {K : A → Dl → Prop} {zs : List A} (hS : S 68 = false) (hv : viewL (viewA 8 H) zs = some [aP ns, aI ks, aSt s, i6 a, i6 b]) (ho : noOwns zs = true ∨ nosl (.bool (holdsF ns ks s a b)) = true) (hK : K (.bool (holdsF ns ks s a b)) (.news [])) : @WCall' Go.Proofs.Try.prog S 68 zs H ⟨K⟩ :=
  WCall_pure hS (spec_l9Holds_c ns ks s a b hl hk hp ht ha hb) hv ho (by simp) hK
end Go.Proofs.Ytcfgiffgahdlbaa.C
