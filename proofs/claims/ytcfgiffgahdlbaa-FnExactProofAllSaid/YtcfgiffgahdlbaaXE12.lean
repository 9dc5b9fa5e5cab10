/- The prover's steps that open. Conditions: those that each theorem names. -/
import Derived.Test.YtcfgiffgahdlbaaXE11
set_option linter.unusedVariables false
set_option linter.unusedSimpArgs false
set_option maxRecDepth 4000
namespace Go.Proofs.Ytcfgiffgahdlbaa.C
open Go.Sym Go.Proofs.Ytcfgiffgahdlbaa.I
theorem impl_prover_opened_c (ns : List Nd) (ks : List Int) (x : A) (st : List Int) (r t : Int) (hl : ns.length < 9223372036854775807) (hp : poolF ns = true) (hst : st.length = ns.length) (ht : hasF ns.length t = true) (hr : r = 5 ∨ r = 6 ∨ r = 7 ∨ r = 8) (hx : ∀ n H, viewA (n + 2) H x = some x) (ox : noOwn x = true) (hin : ∀ m, inA m x = true) : T 96 [aV ns ks x st, i6 r, i6 t] [] (.tup [aSt (optS (upF ns st r t)), .bool (upF ns st r t).isSome]) ([]) := by
  refine semT' (S := S0) hm impl_prover_opened_ok (Nat.le_of_ble_eq_true rfl) ?_
  unfold impl_prover_opened; dsimp only
  obtain ⟨j, rfl, hj⟩ := hasN ht
  have hu := upF_lo hp st r hj
  simp
  refine WLoop_fam (fun i : Nat => [(0, aV ns ks x st), (1, i6 r), (2, i6 j), (6, A.ptr 0 0 0), (18, A.sl ns.length (enc ns)), (19, i6 ns.length), (20, i6 i)]) (fun _ => [⟨0, false, 1, [i6 0, i6 0, i6 0, i6 0], none⟩]) (fun i => ns.length - i)
    (fun i => i ≤ ns.length ∧ upF ns st r j = upGo ns st r j (ns.length - i) i) ?_ 0 ⟨Nat.zero_le _, by simp [hu]⟩
  intro i ⟨hi, hf⟩ ih
  simp
  refine br_intro' (fun h => ?_) (fun h => ?_) <;> (have h0 := h) <;> (try simp at h) <;> try simp [h0, h]
  · have h' := h
    have his : i < st.length := by omega
    obtain ⟨q, hq⟩ := enc_at h
    have h3 : 3 ≤ ns.length * 3 - i * 3 := by omega
    have hwi := wrap_succ (n := i) (by omega)
    have en := nodeAt_nat h'
    have es := sv_nat his
    have hgo : upGo ns st r j (ns.length - i) i = if upOk ns st r j i = true then some ⟨r, j, sv st i, if r = 7 then sv st (nodeAt ns i).b else 0⟩ else upGo ns st r j (ns.length - (i + 1)) (i + 1) := by
      rw [show ns.length - i = (ns.length - (i + 1)) + 1 by omega]; rfl
    simp [h3, hq, his, h']
    refine impl_prover_has_k (ns := ns) (ks := ks) (x := x) (st := st) (t := i) (.inr (by omega)) hx ox rfl (by simp [hx]) (by simp [ox]) ?_; simp
    refine br_intro' (fun g => ?_) (fun g => ?_) <;> simp [g]
    · have hsi : 0 ≤ st[i] := by
        simp only [hasSt, es, Bool.and_eq_true, decide_eq_true_eq] at g
        exact g.2
      have hbr : ns[i].k = 3 → ∃ b : Nat, ns[i].b = b ∧ b < st.length := fun e => by
        obtain ⟨_, b, e2, e3⟩ := parts_in hp h' (by rw [e]; rfl)
        exact ⟨b, e2, by omega⟩
      simp [his]
      rcases hr with rfl | rfl | rfl | rfl <;> simp
      · refine br_intro' (fun u => ?_) (fun u => ?_) <;> (have u0 := u) <;> (try simp at u) <;> try simp [u0, u, hq, h3, his, h']
        · refine br_intro' (fun v => ?_) (fun v => ?_) <;> (have v0 := v) <;> (try simp at v) <;> try simp [v0, v, hq, h3, his, h']
          · have hb : upOk ns st 5 j i = true := by simp [upOk, es, en, u, v, hsi]
            exact LeV.ro rfl rfl (by rw [hf, hgo, hb]; simp [optS, es])
          · have hb : upOk ns st 5 j i = false := by simp [upOk, es, en, v]
            rw [hwi]
            refine WLoop_drop [⟨0, false, 1, [i6 0, i6 0, i6 0, i6 0], none⟩] [_, _] rfl (by simp) (by simp) (by simp [inE, inA, inAs, hin, inAs_scals _ (enc_scals ns)]) ?_
            exact ih (i + 1) ⟨h', by rw [hf, hgo, hb]; simp⟩ (by omega)
        · have hb : upOk ns st 5 j i = false := by simp [upOk, es, en, u]
          rw [hwi]
          refine WLoop_drop [⟨0, false, 1, [i6 0, i6 0, i6 0, i6 0], none⟩] [_, _] rfl (by simp) (by simp) (by simp [inE, inA, inAs, hin, inAs_scals _ (enc_scals ns)]) ?_
          exact ih (i + 1) ⟨h', by rw [hf, hgo, hb]; simp⟩ (by omega)
      · refine br_intro' (fun u => ?_) (fun u => ?_) <;> (have u0 := u) <;> (try simp at u) <;> try simp [u0, u, hq, h3, his, h']
        · refine br_intro' (fun v => ?_) (fun v => ?_) <;> (have v0 := v) <;> (try simp at v) <;> try simp [v0, v, hq, h3, his, h']
          · have hb : upOk ns st 6 j i = true := by simp [upOk, es, en, u, v, hsi]
            exact LeV.ro rfl rfl (by rw [hf, hgo, hb]; simp [optS, es])
          · have hb : upOk ns st 6 j i = false := by simp [upOk, es, en, v]
            rw [hwi]
            refine WLoop_drop [⟨0, false, 1, [i6 0, i6 0, i6 0, i6 0], none⟩] [_, _] rfl (by simp) (by simp) (by simp [inE, inA, inAs, hin, inAs_scals _ (enc_scals ns)]) ?_
            exact ih (i + 1) ⟨h', by rw [hf, hgo, hb]; simp⟩ (by omega)
        · have hb : upOk ns st 6 j i = false := by simp [upOk, es, en, u]
          rw [hwi]
          refine WLoop_drop [⟨0, false, 1, [i6 0, i6 0, i6 0, i6 0], none⟩] [_, _] rfl (by simp) (by simp) (by simp [inE, inA, inAs, hin, inAs_scals _ (enc_scals ns)]) ?_
          exact ih (i + 1) ⟨h', by rw [hf, hgo, hb]; simp⟩ (by omega)
      · refine br_intro' (fun u => ?_) (fun u => ?_) <;> (have u0 := u) <;> (try simp at u) <;> try simp [u0, u, hq, h3, his, h']
        · refine br_intro' (fun v => ?_) (fun v => ?_) <;> (have v0 := v) <;> (try simp at v) <;> try simp [v0, v, hq, h3, his, h']
          · obtain ⟨b, eb, hb1⟩ := hbr u
            have hb0 : (0 : Int) ≤ b := by omega
            rw [eb]
            have esb := sv_nat hb1
            refine impl_prover_has_k (ns := ns) (ks := ks) (x := x) (st := st) (t := b) (.inr (by omega)) hx ox rfl (by simp [hx]) (by simp [ox]) ?_; simp
            refine br_intro' (fun z => ?_) (fun z => ?_) <;> simp [z]
            · have z' := z
              simp only [hasSt, esb, Bool.and_eq_true, decide_eq_true_eq] at z'
              simp [his, h', eb, hb1]
              first | (refine ck_intro' (by kernel_rfl) ?_; try simp [his, h', hb1, eb]) | skip
              have hb : upOk ns st 7 j i = true := by simp [upOk, es, en, u, v, hsi, eb, esb, z'.2]
              exact LeV.ro rfl rfl (by rw [hf, hgo, hb]; simp [optS, es, en, eb, esb])
            · have z' := z
              simp only [hasSt, esb, hb0, decide_true, Bool.true_and, decide_eq_false_iff_not] at z'
              have hb : upOk ns st 7 j i = false := by simp [upOk, es, en, eb, esb, z']
              rw [hwi]
              refine WLoop_drop [⟨0, false, 1, [i6 0, i6 0, i6 0, i6 0], none⟩] [_, _] rfl (by simp) (by simp) (by simp [inE, inA, inAs, hin, inAs_scals _ (enc_scals ns)]) ?_
              exact ih (i + 1) ⟨h', by rw [hf, hgo, hb]; simp⟩ (by omega)
          · have hb : upOk ns st 7 j i = false := by simp [upOk, es, en, v]
            rw [hwi]
            refine WLoop_drop [⟨0, false, 1, [i6 0, i6 0, i6 0, i6 0], none⟩] [_, _] rfl (by simp) (by simp) (by simp [inE, inA, inAs, hin, inAs_scals _ (enc_scals ns)]) ?_
            exact ih (i + 1) ⟨h', by rw [hf, hgo, hb]; simp⟩ (by omega)
        · have hb : upOk ns st 7 j i = false := by simp [upOk, es, en, u]
          rw [hwi]
          refine WLoop_drop [⟨0, false, 1, [i6 0, i6 0, i6 0, i6 0], none⟩] [_, _] rfl (by simp) (by simp) (by simp [inE, inA, inAs, hin, inAs_scals _ (enc_scals ns)]) ?_
          exact ih (i + 1) ⟨h', by rw [hf, hgo, hb]; simp⟩ (by omega)
      · refine br_intro' (fun u => ?_) (fun u => ?_) <;> (have u0 := u) <;> (try simp at u) <;> try simp [u0, u, hq, h3, his, h']
        · refine br_intro' (fun v => ?_) (fun v => ?_) <;> (have v0 := v) <;> (try simp at v) <;> try simp [v0, v, hq, h3, his, h']
          · have hb : upOk ns st 8 j i = true := by simp [upOk, es, en, u, v, hsi]
            exact LeV.ro rfl rfl (by rw [hf, hgo, hb]; simp [optS, es])
          · have hb : upOk ns st 8 j i = false := by simp [upOk, es, en, v]
            rw [hwi]
            refine WLoop_drop [⟨0, false, 1, [i6 0, i6 0, i6 0, i6 0], none⟩] [_, _] rfl (by simp) (by simp) (by simp [inE, inA, inAs, hin, inAs_scals _ (enc_scals ns)]) ?_
            exact ih (i + 1) ⟨h', by rw [hf, hgo, hb]; simp⟩ (by omega)
        · have hb : upOk ns st 8 j i = false := by simp [upOk, es, en, u]
          rw [hwi]
          refine WLoop_drop [⟨0, false, 1, [i6 0, i6 0, i6 0, i6 0], none⟩] [_, _] rfl (by simp) (by simp) (by simp [inE, inA, inAs, hin, inAs_scals _ (enc_scals ns)]) ?_
          exact ih (i + 1) ⟨h', by rw [hf, hgo, hb]; simp⟩ (by omega)
    · have hb : upOk ns st r j i = false := by
        have hi0 : (0 : Int) ≤ i := by omega
        simp only [hasSt, es, hi0, decide_true, Bool.true_and, decide_eq_false_iff_not] at g
        simp [upOk, es, g]
      rw [hwi]
      refine WLoop_drop [⟨0, false, 1, [i6 0, i6 0, i6 0, i6 0], none⟩] [_] rfl (by simp) (by simp) (by simp [inE, inA, inAs, hin, inAs_scals _ (enc_scals ns)]) ?_
      exact ih (i + 1) ⟨h', by rw [hf, hgo, hb]; simp⟩ (by omega)
  · have hi0 : ns.length - i = 0 := by omega
    exact LeV.ro rfl rfl (by rw [hf, hi0]; simp [upGo, optS])
theorem impl_prover_opened_k {ns : List Nd} {ks : List Int} {x : A} {st : List Int} {r t : Int} (hl : ns.length < 9223372036854775807) (hp : poolF ns = true) (hst : st.length = ns.length) (ht : hasF ns.length t = true) (hr : r = 5 ∨ r = 6 ∨ r = 7 ∨ r = 8) (hx : ∀ n H, viewA (n + 2) H x = some x) (ox : noOwn x = true) (hin : ∀ m, inA m x = true) {S : FuncId → Bool} {H : List Blk} {K : A → Dl → Prop} {zs : List A} (hS : S 96 = false) (hv : viewL (viewA 8 H) zs = some [aV ns ks x st, i6 r, i6 t]) (ho : noOwns zs = true ∨ nosl (.tup [aSt (optS (upF ns st r t)), .bool (upF ns st r t).isSome]) = true) (hK : K (.tup [aSt (optS (upF ns st r t)), .bool (upF ns st r t).isSome]) (.news [])) : @WCall' Go.Proofs.Try.prog S 96 zs H ⟨K⟩ :=
  WCall_pure hS (impl_prover_opened_c ns ks x st r t hl hp hst ht hr hx ox hin) hv ho (by simp) hK
end Go.Proofs.Ytcfgiffgahdlbaa.C
