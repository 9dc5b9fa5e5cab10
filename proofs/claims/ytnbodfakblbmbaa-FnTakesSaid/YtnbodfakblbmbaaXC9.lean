/- What taking a word answers. Conditions: those that each theorem names. -/
import Derived.Test.YtnbodfakblbmbaaXC8
set_option linter.unusedVariables false
set_option linter.unusedSimpArgs false
namespace Go.Proofs.Ytnbodfakblbmbaa.C
open Go.Sym Go.Proofs.Ytnbodfakblbmbaa.I
def nodeAt (ns : List Nd) (t : Int) : Nd := ns.getD t.toNat ⟨0, 0, 0⟩
/-- What LinkTake answers. -/
def takeF (ns : List Nd) (l : Lk) (w : Int) : Lk × Int × Int :=
  if hasF ns.length w = false ∨ lkF ns l = false then (l, -1, 4)
  else if l.over = true then (l, -1, 3)
  else if (nodeAt ns w).k ≠ 3 ∨ (nodeAt ns w).b ≠ l.key ∨ (nodeAt ns (nodeAt ns w).a).k ≠ 2 then (l, -1, 1)
  else if l.seq = 20 ∨ nameF ns (nodeAt ns (nodeAt ns w).a).a (20 + l.seq) = false then (l, -1, 2)
  else if nameF ns (nodeAt ns (nodeAt ns w).a).b 8 = true then (⟨l.key, l.epoch, l.seq, true⟩, -1, 0)
  else (⟨l.key, l.epoch, l.seq + 1, l.over⟩, (nodeAt ns (nodeAt ns w).a).b, 0)
theorem nodeAt_nat {ns : List Nd} {j : Nat} (h : j < ns.length) : nodeAt ns j = ns[j] := by simp [nodeAt, h]
/-- The parts of a node of a right pool stand before it. -/
theorem parts_in {ns : List Nd} (hp : poolF ns = true) {j : Nat} (h : j < ns.length) (hk : partsF ns[j].k = 2) : (∃ a : Nat, ns[j].a = a ∧ a < j) ∧ ∃ b : Nat, ns[j].b = b ∧ b < j := by
  have := (okFrom_all hp h).1
  simp [rightF, hk, inF] at this
  exact ⟨⟨ns[j].a.toNat, by omega, by omega⟩, ns[j].b.toNat, by omega, by omega⟩
theorem hasF_of {m j : Nat} (h : j < m) : hasF m j = true := by simp [hasF, inF]; omega
theorem impl_LinkTake_c (ns : List Nd) (l : Lk) (w : Int) (hl : ns.length < 9223372036854775807) : T 19 [aP ns, aL l, i6 w] [] (.tup [aL (takeF ns l w).1, i6 (takeF ns l w).2.1, i6 (takeF ns l w).2.2]) ([]) := by
  refine semT' (S := S0) hm impl_LinkTake_ok (Nat.le_of_ble_eq_true rfl) ?_
  unfold impl_LinkTake; dsimp only
  simp
  refine WCall_pure rfl (impl_Pool_isTerm_c ns [] w (by omega)) (by simp) (by simp) (by simp) ?_; simp
  refine br_intro' (fun h0 => ?_) (fun h0 => ?_) <;> simp [h0]
  · refine impl_LinkOk_k (ns := ns) (l := l) (by omega) rfl (by simp) (by simp) ?_; simp
    refine br_intro' (fun h2 => ?_) (fun h2 => ?_) <;> simp [h2]
    · refine br_intro' (fun h => ?_) (fun h => ?_) <;> simp [h]
      · first | (refine ck_intro' (by kernel_rfl) ?_; try simp) | skip
        exact LeV.ro rfl rfl (by simp [takeF, h0, h2, h])
      have hp : poolF ns = true := by simp [lkF] at h2; exact h2.1
      have hs1 : IntKind.i64.wrap (20 + l.seq) = 20 + l.seq := by simp [lkF, linkF, inF] at h2; exact wrap64 (by omega) (by omega)
      have hs2 : IntKind.i64.wrap (l.seq + 1) = l.seq + 1 := by simp [lkF, linkF, inF] at h2; exact wrap64 (by omega) (by omega)
      obtain ⟨j, rfl, hj⟩ := hasF_nat h0
      obtain ⟨r, hr⟩ := enc_at hj
      have h3 : 3 ≤ ns.length * 3 - j * 3 := by omega
      simp [h3, hr, hj]
      have t0 : takeF ns l j = if ns[j].k ≠ 3 ∨ ns[j].b ≠ l.key ∨ (nodeAt ns ns[j].a).k ≠ 2 then (l, -1, 1)
          else if l.seq = 20 ∨ nameF ns (nodeAt ns ns[j].a).a (20 + l.seq) = false then (l, -1, 2)
          else if nameF ns (nodeAt ns ns[j].a).b 8 = true then (⟨l.key, l.epoch, l.seq, true⟩, -1, 0)
          else (⟨l.key, l.epoch, l.seq + 1, l.over⟩, (nodeAt ns ns[j].a).b, 0) := by
        simp only [takeF, nodeAt_nat hj]
        rw [if_neg (by simp [h0, h2]), if_neg (by simp [h])]
      rw [t0]
      refine br_intro' (fun k3 => ?_) (fun k3 => ?_) <;> simp at k3 <;> simp [k3, hr]
      · refine br_intro' (fun k4 => ?_) (fun k4 => ?_) <;> simp at k4 <;> simp [k4, hr]
        · obtain ⟨⟨a, ha, hal⟩, _⟩ := parts_in hp hj (by simp [k3, partsF])
          have ha2 : a < ns.length := by omega
          obtain ⟨r2, hr2⟩ := enc_at ha2
          have h32 : 3 ≤ ns.length * 3 - a * 3 := by omega
          rw [ha]
          rw [nodeAt_nat ha2]
          simp [ha2, h32, hr2]
          refine br_intro' (fun k5 => ?_) (fun k5 => ?_) <;> simp at k5 <;> simp [k5, hr2]
          · obtain ⟨⟨b1, e1, hb1⟩, b2, e2, hb2⟩ := parts_in hp ha2 (by simp [k5, partsF])
            have i1 : hasF ns.length b1 = true := hasF_of (by omega)
            have i2 : hasF ns.length b2 = true := hasF_of (by omega)
            refine ck_intro' (by omega) ?_; simp [ha2, h32, hr2, k5]
            rw [e1, e2]
            refine br_intro' (fun k6 => ?_) (fun k6 => ?_) <;> simp at k6 <;> simp [k6]
            · first | (refine ck_intro' (by kernel_rfl) ?_; try simp) | skip
              exact LeV.ro rfl rfl (by simp [h, k3, k4, k5, k6])
            rw [hs1]
            refine WCall_pure rfl (impl_Pool_isName_c ns [] b1 (20 + l.seq) (by omega) i1) (by simp) (by simp) (by simp) ?_; simp
            refine br_intro' (fun k7 => ?_) (fun k7 => ?_) <;> simp [k7]
            · refine WCall_pure rfl (impl_Pool_isName_c ns [] b2 8 (by omega) i2) (by simp) (by simp) (by simp) ?_; simp
              refine br_intro' (fun k8 => ?_) (fun k8 => ?_) <;> simp [k8]
              · first | (refine ck_intro' (by kernel_rfl) ?_; try simp) | skip
                exact LeV.ro rfl rfl (by simp [h, k3, k4, k5, k6, k7, k8])
              · rw [hs2]
                first | (refine ck_intro' (by kernel_rfl) ?_; try simp) | skip
                exact LeV.ro rfl rfl (by simp [h, k3, k4, k5, k6, k7, k8])
            · first | (refine ck_intro' (by kernel_rfl) ?_; try simp) | skip
              exact LeV.ro rfl rfl (by simp [h, k3, k4, k5, k6, k7])
          · exact LeV.ro rfl rfl (by simp [h])
        · exact LeV.ro rfl rfl (by simp [h])
      · exact LeV.ro rfl rfl (by simp [h])
    · first | (refine ck_intro' (by kernel_rfl) ?_; try simp) | skip
      exact LeV.ro rfl rfl (by simp [takeF, h2])
  · first | (refine ck_intro' (by kernel_rfl) ?_; try simp) | skip
    exact LeV.ro rfl rfl (by simp [takeF, h0])
theorem impl_LinkTake_call {ns : List Nd} {l : Lk} {w : Int} (hl : ns.length < 9223372036854775807) {S : FuncId → Bool} {H : List Blk} {K : A → Dl → Prop} (hS : S 19 = false) (hK : K (.tup [aL (takeF ns l w).1, i6 (takeF ns l w).2.1, i6 (takeF ns l w).2.2]) (.news [])) : @WCall' Go.Proofs.Try.prog S 19 [aP ns, aL l, i6 w] H ⟨K⟩ :=
  WCall_pure hS (impl_LinkTake_c ns l w hl) (by simp) (by simp) (by simp) hK
theorem impl_LinkTake_k {ns : List Nd} {l : Lk} {w : Int} (hl : ns.length < 9223372036854775807) {S : FuncId → Bool} {H : List Blk} {K : A → Dl → Prop} {zs : List A} (hS : S 19 = false) (hv : viewL (viewA 8 H) zs = some [aP ns, aL l, i6 w]) (ho : noOwns zs = true ∨ nosl (.tup [aL (takeF ns l w).1, i6 (takeF ns l w).2.1, i6 (takeF ns l w).2.2]) = true) (hK : K (.tup [aL (takeF ns l w).1, i6 (takeF ns l w).2.1, i6 (takeF ns l w).2.2]) (.news [])) : @WCall' Go.Proofs.Try.prog S 19 zs H ⟨K⟩ :=
  WCall_pure hS (impl_LinkTake_c ns l w hl) hv ho (by simp) hK
theorem spec_LinkTake_c (ns : List Nd) (l : Lk) (w : Int) (hl : ns.length < 9223372036854775807) : T 16 [aP ns, aL l, i6 w] [] (.tup [aL (takeF ns l w).1, i6 (takeF ns l w).2.1, i6 (takeF ns l w).2.2]) ([]) := by
  refine semT' (S := S0) hm spec_LinkTake_ok (Nat.le_of_ble_eq_true rfl) ?_
  unfold spec_LinkTake; dsimp only
  simp
  refine spec_LinkOk_k (ns := ns) (l := l) (by omega) rfl (by simp) (by simp) ?_; simp
  refine br_intro' (fun h2 => ?_) (fun h2 => ?_) <;> simp [h2]
  · refine spec_l1Has_call (ns := ns) (t := w) (by omega) rfl ?_; simp
    refine br_intro' (fun h0 => ?_) (fun h0 => ?_) <;> simp [h0]
    · refine br_intro' (fun h => ?_) (fun h => ?_) <;> simp [h]
      · first | (refine ck_intro' (by kernel_rfl) ?_; try simp) | skip
        exact LeV.ro rfl rfl (by simp [takeF, h0, h2, h])
      have hp : poolF ns = true := by simp [lkF] at h2; exact h2.1
      have hs1 : IntKind.i64.wrap (20 + l.seq) = 20 + l.seq := by simp [lkF, linkF, inF] at h2; exact wrap64 (by omega) (by omega)
      have hs2 : IntKind.i64.wrap (l.seq + 1) = l.seq + 1 := by simp [lkF, linkF, inF] at h2; exact wrap64 (by omega) (by omega)
      obtain ⟨j, rfl, hj⟩ := hasF_nat h0
      obtain ⟨r, hr⟩ := enc_at hj
      have h3 : 3 ≤ ns.length * 3 - j * 3 := by omega
      simp [h3, hr, hj]
      have t0 : takeF ns l j = if ns[j].k ≠ 3 ∨ ns[j].b ≠ l.key ∨ (nodeAt ns ns[j].a).k ≠ 2 then (l, -1, 1)
          else if l.seq = 20 ∨ nameF ns (nodeAt ns ns[j].a).a (20 + l.seq) = false then (l, -1, 2)
          else if nameF ns (nodeAt ns ns[j].a).b 8 = true then (⟨l.key, l.epoch, l.seq, true⟩, -1, 0)
          else (⟨l.key, l.epoch, l.seq + 1, l.over⟩, (nodeAt ns ns[j].a).b, 0) := by
        simp only [takeF, nodeAt_nat hj]
        rw [if_neg (by simp [h0, h2]), if_neg (by simp [h])]
      rw [t0]
      refine br_intro' (fun k3 => ?_) (fun k3 => ?_) <;> simp at k3 <;> simp [k3, hr]
      · refine br_intro' (fun k4 => ?_) (fun k4 => ?_) <;> simp at k4 <;> simp [k4, hr]
        · obtain ⟨⟨a, ha, hal⟩, _⟩ := parts_in hp hj (by simp [k3, partsF])
          have ha2 : a < ns.length := by omega
          obtain ⟨r2, hr2⟩ := enc_at ha2
          have h32 : 3 ≤ ns.length * 3 - a * 3 := by omega
          rw [ha]
          rw [nodeAt_nat ha2]
          simp [ha2, h32, hr2]
          refine br_intro' (fun k5 => ?_) (fun k5 => ?_) <;> simp at k5 <;> simp [k5, hr2]
          · obtain ⟨⟨b1, e1, hb1⟩, b2, e2, hb2⟩ := parts_in hp ha2 (by simp [k5, partsF])
            have i1 : hasF ns.length b1 = true := hasF_of (by omega)
            have i2 : hasF ns.length b2 = true := hasF_of (by omega)
            refine ck_intro' (by omega) ?_; simp [ha2, h32, hr2, k5]
            rw [e1, e2]
            have hb1' : b1 < ns.length := by omega
            obtain ⟨r3, hr3⟩ := enc_at hb1'
            have h33 : 3 ≤ ns.length * 3 - b1 * 3 := by omega
            try rw [hs1]
            simp [hb1', h33, hr3]
            have hnm : nameF ns b1 (20 + l.seq) = (decide (ns[b1].k = 1) && (decide (ns[b1].a = 20 + l.seq) && decide (ns[b1].b = 0))) := by simp [nameF, hb1', Nd_eq]
            by_cases pq : ns[b1].k = 1 ∧ ns[b1].a = 20 + l.seq ∧ ns[b1].b = 0
            · obtain ⟨p1, p2, p3⟩ := pq
              have k7 : nameF ns b1 (20 + l.seq) = true := by rw [hnm]; simp [p1, p2, p3]
              simp [p1, p2, p3]
              first | (refine ck_intro' (by kernel_rfl) ?_; try simp) | skip
              refine br_intro' (fun k6 => ?_) (fun k6 => ?_) <;> simp at k6 <;> simp [k6]
              · first | (refine ck_intro' (by kernel_rfl) ?_; try simp) | skip
                exact LeV.ro rfl rfl (by simp [h, k3, k4, k5, k6])
              · refine spec_l18End_k (ns := ns) (t := b2) (by omega) i2 rfl (by simp) (by simp) ?_; simp
                refine br_intro' (fun k8 => ?_) (fun k8 => ?_) <;> simp [k8]
                · have k8' : nameF ns b2 8 = true := k8
                  first | (refine ck_intro' (by kernel_rfl) ?_; try simp) | skip
                  exact LeV.ro rfl rfl (by simp [h, k3, k4, k5, k6, k7, k8'])
                · have k8' : nameF ns b2 8 = false := k8
                  rw [hs2]
                  first | (refine ck_intro' (by kernel_rfl) ?_; try simp) | skip
                  exact LeV.ro rfl rfl (by simp [h, k3, k4, k5, k6, k7, k8'])
            · have k7 : nameF ns b1 (20 + l.seq) = false := by rw [hnm]; simpa using pq
              have fin : ∀ (H : List Blk), LeV 0 (.tup [aL l, i6 (-1), i6 2]) H (.tup [aL l, i6 (-1), i6 2]) [] := fun H => LeV.ro rfl rfl rfl
              rw [show (if ns[j].k ≠ 3 ∨ ns[j].b ≠ l.key ∨ ns[a].k ≠ 2 then ((l, -1, 1) : Lk × Int × Int)
                else if l.seq = 20 ∨ nameF ns b1 (20 + l.seq) = false then (l, -1, 2)
                else if nameF ns b2 8 = true then (⟨l.key, l.epoch, l.seq, true⟩, -1, 0)
                else (⟨l.key, l.epoch, l.seq + 1, l.over⟩, b2, 0)) = (l, -1, 2) by simp [k3, k4, k5, k7]]
              by_cases p1 : ns[b1].k = 1 <;> by_cases p2 : ns[b1].a = 20 + l.seq <;> by_cases p3 : ns[b1].b = 0 <;> (try exact absurd (And.intro p1 (And.intro p2 p3)) pq) <;> simp [p1, p2, p3] <;>
                repeat (refine ck_intro' (by kernel_rfl) ?_; try simp)
              all_goals exact LeV.ro rfl rfl (by simp [h])
          · exact LeV.ro rfl rfl (by simp [h])
        · exact LeV.ro rfl rfl (by simp [h])
      · exact LeV.ro rfl rfl (by simp [h])
    · first | (refine ck_intro' (by kernel_rfl) ?_; try simp) | skip
      exact LeV.ro rfl rfl (by simp [takeF, h0])
  · first | (refine ck_intro' (by kernel_rfl) ?_; try simp) | skip
    exact LeV.ro rfl rfl (by simp [takeF, h2])
theorem spec_LinkTake_call {ns : List Nd} {l : Lk} {w : Int} (hl : ns.length < 9223372036854775807) {S : FuncId → Bool} {H : List Blk} {K : A → Dl → Prop} (hS : S 16 = false) (hK : K (.tup [aL (takeF ns l w).1, i6 (takeF ns l w).2.1, i6 (takeF ns l w).2.2]) (.news [])) : @WCall' Go.Proofs.Try.prog S 16 [aP ns, aL l, i6 w] H ⟨K⟩ :=
  WCall_pure hS (spec_LinkTake_c ns l w hl) (by simp) (by simp) (by simp) hK
theorem spec_LinkTake_k {ns : List Nd} {l : Lk} {w : Int} (hl : ns.length < 9223372036854775807) {S : FuncId → Bool} {H : List Blk} {K : A → Dl → Prop} {zs : List A} (hS : S 16 = false) (hv : viewL (viewA 8 H) zs = some [aP ns, aL l, i6 w]) (ho : noOwns zs = true ∨ nosl (.tup [aL (takeF ns l w).1, i6 (takeF ns l w).2.1, i6 (takeF ns l w).2.2]) = true) (hK : K (.tup [aL (takeF ns l w).1, i6 (takeF ns l w).2.1, i6 (takeF ns l w).2.2]) (.news [])) : @WCall' Go.Proofs.Try.prog S 16 zs H ⟨K⟩ :=
  WCall_pure hS (spec_LinkTake_c ns l w hl) hv ho (by simp) hK
end Go.Proofs.Ytnbodfakblbmbaa.C
