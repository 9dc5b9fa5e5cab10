/- What turning, sending and ending answer in the program. Conditions: those that each theorem names. -/
import Derived.Test.YtnbodfakblbmbaaXC5
set_option linter.unusedVariables false
set_option linter.unusedSimpArgs false
namespace Go.Proofs.Ytnbodfakblbmbaa.C
open Go.Sym Go.Proofs.Ytnbodfakblbmbaa.I
theorem addF_neg {ns : List Nd} {k a : Int} (hk : partsF k = 2) (h8 : k ≠ 8) : addF ns ⟨k, a, -1⟩ = (ns, -1) := by
  have h : normN ⟨k, a, -1⟩ = ⟨k, a, -1⟩ := by simp [normN, h8]
  have hr : rightF ⟨k, a, -1⟩ ns.length = false := by
    simp [rightF, hk, inF]
  simp [addF, h, hr]
theorem addF_neg1 {ns : List Nd} {k b : Int} (hk : partsF k = 2) (h8 : k ≠ 8) : addF ns ⟨k, -1, b⟩ = (ns, -1) := by
  have h : normN ⟨k, -1, b⟩ = ⟨k, -1, b⟩ := by simp [normN, h8]
  have hr : rightF ⟨k, -1, b⟩ ns.length = false := by
    simp [rightF, hk, inF]
  simp [addF, h, hr]
theorem findF_lt0 (n : Nd) : ∀ (ns : List Nd) (i : Int), findF ns n i < 0 → 0 ≤ i → findF ns n i = -1
  | [], i, _, _ => rfl
  | x :: xs, i, h, hi => by
    simp only [findF] at h ⊢
    split at h
    · omega
    · rename_i e
      rw [if_neg e]
      exact findF_lt0 n xs (i + 1) h (by omega)
theorem addF_m1 {ns : List Nd} {n : Nd} (h : (addF ns n).2 < 0) : (addF ns n).2 = -1 := by
  unfold addF at h ⊢
  split at h
  · rename_i e; rw [if_pos e]
  · rename_i e
    rw [if_neg e]
    split at h
    · omega
    · rename_i e1
      rw [if_neg e1]
      split at h
      · rename_i e2; rw [if_pos e2]
      · simp at h; omega
theorem impl_LinkTurn_c (ns : List Nd) (l : Lk) (hl : ns.length ≤ 4294967296) : T 28 [aP ns, aL l] [] (.tup [.agg [pref 0 (linkTurnF ns l).1], aL (linkTurnF ns l).2.1, .bool (linkTurnF ns l).2.2]) ([pblk (linkTurnF ns l).1]) := by
  refine semT' (S := (fun f => [76, 77].contains f)) hm impl_LinkTurn_ok (Nat.le_of_ble_eq_true rfl) ?_
  unfold impl_LinkTurn; dsimp only
  have e0 : (l.over = true ∨ l.epoch = 20 ∨ lkF ns l = false) → linkTurnF ns l = (orE ns, l, false) := by
    intro h
    unfold linkTurnF
    by_cases hk : lkF ns l = true
    · have hp : poolF ns = true := by simp [lkF] at hk; exact hk.1
      rw [if_pos hk]
      simp only [turnF]
      rw [if_pos (by rcases h with h | h | h; exact .inl h; exact .inr h; rw [hk] at h; cases h)]
      simp [orE, hp]
    · rw [if_neg hk]
  simp
  refine br_intro' (fun h => ?_) (fun h => ?_) <;> simp [h]
  · rw [e0 (.inl h)]
    refine impl_orEmpty_k (ns := ns) hl rfl (by simp) (by simp [noslBlks]) ?_; simp [shiftB]
    first | (refine ck_intro' (by kernel_rfl) ?_; try simp) | skip
    first | (refine LeV.tell [none] ?_ ?_ ?_ <;> (simp [h]; done)) | (refine LeV.tell [some 0] ?_ ?_ ?_ <;> (simp [h]; done)) | (refine LeV.tell [some 1] ?_ ?_ ?_ <;> (simp [h]; done)) | (refine LeV.tell [some 2] ?_ ?_ ?_ <;> (simp [h]; done)) | (refine LeV.tell [some 3] ?_ ?_ ?_ <;> (simp [h]; done)) | (refine LeV.tell [some 4] ?_ ?_ ?_ <;> (simp [h]; done)) | (refine LeV.tell [some 5] ?_ ?_ ?_ <;> (simp [h]; done)) | (refine LeV.tell [some 6] ?_ ?_ ?_ <;> (simp [h]; done)) | (refine LeV.tell [some 7] ?_ ?_ ?_ <;> (simp [h]; done)) | (refine LeV.tell [some 8] ?_ ?_ ?_ <;> (simp [h]; done)) | (refine LeV.tell [some 9] ?_ ?_ ?_ <;> (simp [h]; done)) | (refine LeV.tell [some 10] ?_ ?_ ?_ <;> (simp [h]; done)) | (refine LeV.tell [some 11] ?_ ?_ ?_ <;> (simp [h]; done)) | (refine LeV.tell [some 12] ?_ ?_ ?_ <;> (simp [h]; done)) | (refine LeV.tell [some 13] ?_ ?_ ?_ <;> (simp [h]; done)) | (refine LeV.tell [some 14] ?_ ?_ ?_ <;> (simp [h]; done)) | (refine LeV.tell [some 15] ?_ ?_ ?_ <;> (simp [h]; done))
  refine br_intro' (fun h1 => ?_) (fun h1 => ?_) <;> simp at h1 <;> simp [h1]
  · rw [e0 (.inr (.inl h1))]
    refine impl_orEmpty_k (ns := ns) hl rfl (by simp) (by simp [noslBlks]) ?_; simp [shiftB]
    first | (refine ck_intro' (by kernel_rfl) ?_; try simp) | skip
    first | (refine LeV.tell [none] ?_ ?_ ?_ <;> (simp [h, h1]; done)) | (refine LeV.tell [some 0] ?_ ?_ ?_ <;> (simp [h, h1]; done)) | (refine LeV.tell [some 1] ?_ ?_ ?_ <;> (simp [h, h1]; done)) | (refine LeV.tell [some 2] ?_ ?_ ?_ <;> (simp [h, h1]; done)) | (refine LeV.tell [some 3] ?_ ?_ ?_ <;> (simp [h, h1]; done)) | (refine LeV.tell [some 4] ?_ ?_ ?_ <;> (simp [h, h1]; done)) | (refine LeV.tell [some 5] ?_ ?_ ?_ <;> (simp [h, h1]; done)) | (refine LeV.tell [some 6] ?_ ?_ ?_ <;> (simp [h, h1]; done)) | (refine LeV.tell [some 7] ?_ ?_ ?_ <;> (simp [h, h1]; done)) | (refine LeV.tell [some 8] ?_ ?_ ?_ <;> (simp [h, h1]; done)) | (refine LeV.tell [some 9] ?_ ?_ ?_ <;> (simp [h, h1]; done)) | (refine LeV.tell [some 10] ?_ ?_ ?_ <;> (simp [h, h1]; done)) | (refine LeV.tell [some 11] ?_ ?_ ?_ <;> (simp [h, h1]; done)) | (refine LeV.tell [some 12] ?_ ?_ ?_ <;> (simp [h, h1]; done)) | (refine LeV.tell [some 13] ?_ ?_ ?_ <;> (simp [h, h1]; done)) | (refine LeV.tell [some 14] ?_ ?_ ?_ <;> (simp [h, h1]; done)) | (refine LeV.tell [some 15] ?_ ?_ ?_ <;> (simp [h, h1]; done))
  refine impl_LinkOk_k (ns := ns) (l := l) (by omega) rfl (by simp [h]) (by simp) ?_; simp
  refine br_intro' (fun h2 => ?_) (fun h2 => ?_) <;> simp [h2]
  · refine impl_copyPool_k (ns := ns) hl rfl (by simp) (by simp [noslBlks]) ?_; simp [shiftB]
    have hp : poolF ns = true := by simp [lkF] at h2; exact h2.1
    have hl5 := poolF_len hp
    refine pool_call rfl 5 0 4 0 1 [pref 4 ns] ns (addF ns ⟨1, 7, 0⟩).1 ⟨by simp, by simp, by simp, by simp, by simp, by simp, ⟨[], by simp⟩⟩ (by simp [pset]) (impl_Pool_name_m _ 5 0 4 0 1 [pref 4 ns] ns 7 ⟨by simp, by simp, by simp, by simp, by simp, by simp, ⟨[], by simp⟩⟩ hl5) ?_
    simp [pset]
    have hp1 := addF_pool ⟨1, 7, 0⟩ hp
    have hl6 := poolF_len hp1
    have et : linkTurnF ns l = turnF ns l := by simp [linkTurnF, h2]
    have ht : turnF ns l = (if (addF ns ⟨1, 7, 0⟩).2 < 0 then (ns, l, false) else if (addF (addF ns ⟨1, 7, 0⟩).1 ⟨6, l.key, (addF ns ⟨1, 7, 0⟩).2⟩).2 < 0 then (ns, l, false) else ((addF (addF ns ⟨1, 7, 0⟩).1 ⟨6, l.key, (addF ns ⟨1, 7, 0⟩).2⟩).1, ⟨(addF (addF ns ⟨1, 7, 0⟩).1 ⟨6, l.key, (addF ns ⟨1, 7, 0⟩).2⟩).2, l.epoch + 1, 0, false⟩, true)) := by simp [turnF, h, h1]
    rw [et, ht]
    have hneg : (addF ns ⟨1, 7, 0⟩).2 < 0 → (addF (addF ns ⟨1, 7, 0⟩).1 ⟨6, l.key, (addF ns ⟨1, 7, 0⟩).2⟩).2 < 0 := fun q => by
      rw [addF_m1 q, addF_neg (by rfl) (by simp)]; simp
    generalize hA : addF ns ⟨1, 7, 0⟩ = p at hp1 hl6 hneg ⊢
    refine pool_call rfl 5 0 4 0 1 [pref 4 ns] p.1 (addF p.1 ⟨6, l.key, p.2⟩).1 ⟨by simp, by simp, by simp, by simp, by simp, by simp, ⟨[], by simp⟩⟩ (by simp [pset]) (impl_Pool_add_m _ 5 0 4 0 1 [pref 4 ns] p.1 6 l.key p.2 ⟨by simp, by simp, by simp, by simp, by simp, by simp, ⟨[], by simp⟩⟩ hl6) ?_
    simp [pset]
    first | (refine ck_intro' (by kernel_rfl) ?_; try simp) | skip
    have g' : p.2 < 0 → ¬ 0 ≤ (addF p.1 ⟨6, l.key, p.2⟩).2 := fun q => by have := hneg q; omega
    generalize hB : addF p.1 ⟨6, l.key, p.2⟩ = q at hneg g' ⊢
    have hl7 : q.1.length ≤ 500 := by rw [← hB]; exact addF_len _ _ hl6
    refine br_intro' (fun f => ?_) (fun f => ?_) <;> simp at f <;> simp [f]
    · refine impl_copyPool_k (ns := ns) hl rfl (by simp) (by simp [noslBlks]) ?_; simp [shiftB]
      first | (refine ck_intro' (by kernel_rfl) ?_; try simp) | skip
      first | (refine LeV.tell [none] ?_ ?_ ?_ <;> (simp [h, f]; done)) | (refine LeV.tell [some 0] ?_ ?_ ?_ <;> (simp [h, f]; done)) | (refine LeV.tell [some 1] ?_ ?_ ?_ <;> (simp [h, f]; done)) | (refine LeV.tell [some 2] ?_ ?_ ?_ <;> (simp [h, f]; done)) | (refine LeV.tell [some 3] ?_ ?_ ?_ <;> (simp [h, f]; done)) | (refine LeV.tell [some 4] ?_ ?_ ?_ <;> (simp [h, f]; done)) | (refine LeV.tell [some 5] ?_ ?_ ?_ <;> (simp [h, f]; done)) | (refine LeV.tell [some 6] ?_ ?_ ?_ <;> (simp [h, f]; done)) | (refine LeV.tell [some 7] ?_ ?_ ?_ <;> (simp [h, f]; done)) | (refine LeV.tell [some 8] ?_ ?_ ?_ <;> (simp [h, f]; done)) | (refine LeV.tell [some 9] ?_ ?_ ?_ <;> (simp [h, f]; done)) | (refine LeV.tell [some 10] ?_ ?_ ?_ <;> (simp [h, f]; done)) | (refine LeV.tell [some 11] ?_ ?_ ?_ <;> (simp [h, f]; done)) | (refine LeV.tell [some 12] ?_ ?_ ?_ <;> (simp [h, f]; done)) | (refine LeV.tell [some 13] ?_ ?_ ?_ <;> (simp [h, f]; done)) | (refine LeV.tell [some 14] ?_ ?_ ?_ <;> (simp [h, f]; done)) | (refine LeV.tell [some 15] ?_ ?_ ?_ <;> (simp [h, f]; done))
    · have gp : ¬ p.2 < 0 := fun q => g' q f
      have hw : IntKind.i64.wrap (l.epoch + 1) = l.epoch + 1 := by
        simp [lkF, linkF, inF] at h2
        exact wrap64 (by omega) (by omega)
      first | (refine ck_intro' (by kernel_rfl) ?_; try simp) | skip
      have f' : ¬ q.2 < 0 := by omega
      first | (refine LeV.tell [none] ?_ ?_ ?_ <;> (simp [gp, hw, f']; done)) | (refine LeV.tell [some 0] ?_ ?_ ?_ <;> (simp [gp, hw, f']; done)) | (refine LeV.tell [some 1] ?_ ?_ ?_ <;> (simp [gp, hw, f']; done)) | (refine LeV.tell [some 2] ?_ ?_ ?_ <;> (simp [gp, hw, f']; done)) | (refine LeV.tell [some 3] ?_ ?_ ?_ <;> (simp [gp, hw, f']; done)) | (refine LeV.tell [some 4] ?_ ?_ ?_ <;> (simp [gp, hw, f']; done)) | (refine LeV.tell [some 5] ?_ ?_ ?_ <;> (simp [gp, hw, f']; done)) | (refine LeV.tell [some 6] ?_ ?_ ?_ <;> (simp [gp, hw, f']; done)) | (refine LeV.tell [some 7] ?_ ?_ ?_ <;> (simp [gp, hw, f']; done)) | (refine LeV.tell [some 8] ?_ ?_ ?_ <;> (simp [gp, hw, f']; done)) | (refine LeV.tell [some 9] ?_ ?_ ?_ <;> (simp [gp, hw, f']; done)) | (refine LeV.tell [some 10] ?_ ?_ ?_ <;> (simp [gp, hw, f']; done)) | (refine LeV.tell [some 11] ?_ ?_ ?_ <;> (simp [gp, hw, f']; done)) | (refine LeV.tell [some 12] ?_ ?_ ?_ <;> (simp [gp, hw, f']; done)) | (refine LeV.tell [some 13] ?_ ?_ ?_ <;> (simp [gp, hw, f']; done)) | (refine LeV.tell [some 14] ?_ ?_ ?_ <;> (simp [gp, hw, f']; done)) | (refine LeV.tell [some 15] ?_ ?_ ?_ <;> (simp [gp, hw, f']; done))
  · rw [e0 (.inr (.inr h2))]
    refine impl_orEmpty_k (ns := ns) hl rfl (by simp) (by simp [noslBlks]) ?_; simp [shiftB]
    first | (refine ck_intro' (by kernel_rfl) ?_; try simp) | skip
    first | (refine LeV.tell [none] ?_ ?_ ?_ <;> (simp [h]; done)) | (refine LeV.tell [some 0] ?_ ?_ ?_ <;> (simp [h]; done)) | (refine LeV.tell [some 1] ?_ ?_ ?_ <;> (simp [h]; done)) | (refine LeV.tell [some 2] ?_ ?_ ?_ <;> (simp [h]; done)) | (refine LeV.tell [some 3] ?_ ?_ ?_ <;> (simp [h]; done)) | (refine LeV.tell [some 4] ?_ ?_ ?_ <;> (simp [h]; done)) | (refine LeV.tell [some 5] ?_ ?_ ?_ <;> (simp [h]; done)) | (refine LeV.tell [some 6] ?_ ?_ ?_ <;> (simp [h]; done)) | (refine LeV.tell [some 7] ?_ ?_ ?_ <;> (simp [h]; done)) | (refine LeV.tell [some 8] ?_ ?_ ?_ <;> (simp [h]; done)) | (refine LeV.tell [some 9] ?_ ?_ ?_ <;> (simp [h]; done)) | (refine LeV.tell [some 10] ?_ ?_ ?_ <;> (simp [h]; done)) | (refine LeV.tell [some 11] ?_ ?_ ?_ <;> (simp [h]; done)) | (refine LeV.tell [some 12] ?_ ?_ ?_ <;> (simp [h]; done)) | (refine LeV.tell [some 13] ?_ ?_ ?_ <;> (simp [h]; done)) | (refine LeV.tell [some 14] ?_ ?_ ?_ <;> (simp [h]; done)) | (refine LeV.tell [some 15] ?_ ?_ ?_ <;> (simp [h]; done))
theorem impl_LinkTurn_k {ns : List Nd} {l : Lk} (hl : ns.length ≤ 4294967296) {S : FuncId → Bool} {H : List Blk} {K : A → Dl → Prop} {zs : List A} (hS : S 28 = false) (hv : viewL (viewA 8 H) zs = some [aP ns, aL l]) (ho : noOwns zs = true ∨ nosl (.tup [.agg [pref 0 (linkTurnF ns l).1], aL (linkTurnF ns l).2.1, .bool (linkTurnF ns l).2.2]) = true ∧ noslBlks ([pblk (linkTurnF ns l).1]) = true) (hK : K (shiftA H.length (.tup [.agg [pref 0 (linkTurnF ns l).1], aL (linkTurnF ns l).2.1, .bool (linkTurnF ns l).2.2])) (.news (([pblk (linkTurnF ns l).1]).map (shiftB H.length)))) : @WCall' Go.Proofs.Try.prog S 28 zs H ⟨K⟩ :=
  WCall_ro' hS hv (impl_LinkTurn_c ns l hl) rfl ho hK
end Go.Proofs.Ytnbodfakblbmbaa.C
