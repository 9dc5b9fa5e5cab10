/- What sending and ending answer in the reference. Conditions: those that each theorem names. -/
import Derived.Test.YtnbodfakblbmbaaXC1C6
set_option linter.unusedVariables false
set_option linter.unusedSimpArgs false
namespace Go.Proofs.Ytnbodfakblbmbaa.C
open Go.Sym Go.Proofs.Ytnbodfakblbmbaa.I
/-- The word of a term; -1: it can't be. -/
def wordF (ns : List Nd) (key seq t : Int) : List Nd × Int :=
  if (addF ns ⟨1, 20 + seq, 0⟩).2 < 0 then (ns, -1)
  else if (addF (addF ns ⟨1, 20 + seq, 0⟩).1 ⟨2, (addF ns ⟨1, 20 + seq, 0⟩).2, t⟩).2 < 0 then (ns, -1)
  else if (sealF ns key seq t).2 < 0 then (ns, -1) else sealF ns key seq t
theorem sealF_eq {ns : List Nd} {key seq t : Int} (h1 : -9223372036854775808 ≤ 20 + seq) (h2 : 20 + seq < 9223372036854775808) : sealF ns key seq t = addF (addF (addF ns ⟨1, 20 + seq, 0⟩).1 ⟨2, (addF ns ⟨1, 20 + seq, 0⟩).2, t⟩).1 ⟨3, (addF (addF ns ⟨1, 20 + seq, 0⟩).1 ⟨2, (addF ns ⟨1, 20 + seq, 0⟩).2, t⟩).2, key⟩ := by
  simp only [sealF]
  rw [wrap64 h1 h2]
theorem sealF_m1 {ns : List Nd} {key seq t : Int} (h : (sealF ns key seq t).2 < 0) : (sealF ns key seq t).2 = -1 := addF_m1 h
theorem wordF_eq {ns : List Nd} {key seq t : Int} (h1 : -9223372036854775808 ≤ 20 + seq) (h2 : 20 + seq < 9223372036854775808) : wordF ns key seq t = if (sealF ns key seq t).2 < 0 then (ns, -1) else sealF ns key seq t := by
  unfold wordF
  split
  · rename_i h
    have e : (sealF ns key seq t).2 < 0 := by
      rw [sealF_eq h1 h2, addF_m1 h, addF_neg1 (by rfl) (by simp)]
      simp only
      rw [addF_neg1 (by rfl) (by simp)]
      simp
    rw [if_pos e]
  · split
    · rename_i h
      have e : (sealF ns key seq t).2 < 0 := by
        rw [sealF_eq h1 h2, addF_m1 h, addF_neg1 (by rfl) (by simp)]
        simp
      rw [if_pos e]
    · rfl
theorem spec_l18Word_c (ns : List Nd) (l : Lk) (t : Int) (hp : poolF ns = true) (hl : linkF ns.length l = true) : T 117 [aP ns, aL l, i6 t] [] (.tup [aP (wordF ns l.key l.seq t).1, i6 (wordF ns l.key l.seq t).2]) ([]) := by
  refine semT' (S := S0) hm spec_l18Word_ok (Nat.le_of_ble_eq_true rfl) ?_
  unfold spec_l18Word; dsimp only
  have hs1 : -9223372036854775808 ≤ 20 + l.seq := by simp [linkF, inF] at hl; omega
  have hs2 : 20 + l.seq < 9223372036854775808 := by simp [linkF, inF] at hl; omega
  have hw : IntKind.i64.wrap (20 + l.seq) = 20 + l.seq := wrap64 hs1 hs2
  simp
  rw [hw]
  refine spec_l2Name_call hp rfl ?_; simp
  have e : wordF ns l.key l.seq t = wordF ns l.key l.seq t := rfl
  conv at e => rhs; unfold wordF; rw [sealF_eq hs1 hs2]
  rw [e]
  have hp1 := addF_pool ⟨1, 20 + l.seq, 0⟩ hp
  generalize addF ns ⟨1, 20 + l.seq, 0⟩ = p at hp1 ⊢
  refine br_intro' (fun g => ?_) (fun g => ?_) <;> simp at g <;> simp [g]
  · exact LeV.ro rfl rfl (by simp [g])
  have g1 : ¬ p.2 < 0 := by omega
  refine spec_l1Add_call (n := ⟨2, p.2, t⟩) hp1 rfl ?_; simp
  have hp2 := addF_pool ⟨2, p.2, t⟩ hp1
  generalize addF p.1 ⟨2, p.2, t⟩ = q at hp2 ⊢
  refine br_intro' (fun g => ?_) (fun g => ?_) <;> simp at g <;> simp [g]
  · exact LeV.ro rfl rfl (by simp [g1, g])
  have g2 : ¬ q.2 < 0 := by omega
  refine spec_l1Add_call (n := ⟨3, q.2, l.key⟩) hp2 rfl ?_; simp
  generalize addF q.1 ⟨3, q.2, l.key⟩ = r
  refine br_intro' (fun g => ?_) (fun g => ?_) <;> simp at g <;> simp [g]
  · exact LeV.ro rfl rfl (by simp [g1, g2, g])
  have g3 : ¬ r.2 < 0 := by omega
  exact LeV.ro rfl rfl (by simp [g1, g2, g3])
theorem spec_l18Word_call {ns : List Nd} {l : Lk} {t : Int} (hp : poolF ns = true) (hl : linkF ns.length l = true) {S : FuncId → Bool} {H : List Blk} {K : A → Dl → Prop} (hS : S 117 = false) (hK : K (.tup [aP (wordF ns l.key l.seq t).1, i6 (wordF ns l.key l.seq t).2]) (.news [])) : @WCall' Go.Proofs.Try.prog S 117 [aP ns, aL l, i6 t] H ⟨K⟩ :=
  WCall_pure hS (spec_l18Word_c ns l t hp hl) (by simp) (by simp) (by simp) hK
theorem spec_l18Word_k {ns : List Nd} {l : Lk} {t : Int} (hp : poolF ns = true) (hl : linkF ns.length l = true) {S : FuncId → Bool} {H : List Blk} {K : A → Dl → Prop} {zs : List A} (hS : S 117 = false) (hv : viewL (viewA 8 H) zs = some [aP ns, aL l, i6 t]) (ho : noOwns zs = true ∨ nosl (.tup [aP (wordF ns l.key l.seq t).1, i6 (wordF ns l.key l.seq t).2]) = true) (hK : K (.tup [aP (wordF ns l.key l.seq t).1, i6 (wordF ns l.key l.seq t).2]) (.news [])) : @WCall' Go.Proofs.Try.prog S 117 zs H ⟨K⟩ :=
  WCall_pure hS (spec_l18Word_c ns l t hp hl) hv ho (by simp) hK
def nameF (ns : List Nd) (t x : Int) : Bool := decide (ns.getD t.toNat ⟨0, 0, 0⟩ = ⟨1, x, 0⟩)
def endF (ns : List Nd) (t : Int) : Bool := nameF ns t 8
theorem hasF_nat {m : Nat} {t : Int} (h : hasF m t = true) : ∃ j : Nat, t = j ∧ j < m := by
  simp [hasF, inF] at h
  exact ⟨t.toNat, by omega, by omega⟩
theorem spec_l18End_c (ns : List Nd) (t : Int) (hl : ns.length < 9223372036854775807) (ht : hasF ns.length t = true) : T 60 [aP ns, i6 t] [] (.bool (endF ns t)) ([]) := by
  refine semT' (S := S0) hm spec_l18End_ok (Nat.le_of_ble_eq_true rfl) ?_
  unfold spec_l18End; dsimp only
  obtain ⟨j, rfl, hj⟩ := hasF_nat ht
  obtain ⟨r, hr⟩ := enc_at hj
  have h3 : 3 ≤ ns.length * 3 - j * 3 := by omega
  simp [h3, hr, hj]
  exact LeV.ro rfl rfl (by simp [endF, nameF, hj, Nd_eq])
theorem spec_l18End_call {ns : List Nd} {t : Int} (hl : ns.length < 9223372036854775807) (ht : hasF ns.length t = true) {S : FuncId → Bool} {H : List Blk} {K : A → Dl → Prop} (hS : S 60 = false) (hK : K (.bool (endF ns t)) (.news [])) : @WCall' Go.Proofs.Try.prog S 60 [aP ns, i6 t] H ⟨K⟩ :=
  WCall_pure hS (spec_l18End_c ns t hl ht) (by simp) (by simp) (by simp) hK
theorem spec_l18End_k {ns : List Nd} {t : Int} (hl : ns.length < 9223372036854775807) (ht : hasF ns.length t = true) {S : FuncId → Bool} {H : List Blk} {K : A → Dl → Prop} {zs : List A} (hS : S 60 = false) (hv : viewL (viewA 8 H) zs = some [aP ns, i6 t]) (ho : noOwns zs = true ∨ nosl (.bool (endF ns t)) = true) (hK : K (.bool (endF ns t)) (.news [])) : @WCall' Go.Proofs.Try.prog S 60 zs H ⟨K⟩ :=
  WCall_pure hS (spec_l18End_c ns t hl ht) hv ho (by simp) hK
def sendF (ns : List Nd) (l : Lk) (t : Int) : List Nd × Lk × Int :=
  if hasF ns.length t = false ∨ endF ns t = true ∨ l.over = true ∨ l.seq = 20 then (ns, l, -1)
  else if (wordF ns l.key l.seq t).2 < 0 then (ns, l, -1)
  else ((wordF ns l.key l.seq t).1, ⟨l.key, l.epoch, l.seq + 1, l.over⟩, (wordF ns l.key l.seq t).2)
theorem spec_l18Send_c (ns : List Nd) (l : Lk) (t : Int) (hp : poolF ns = true) (hl : linkF ns.length l = true) : T 80 [aP ns, aL l, i6 t] [] (.tup [aP (sendF ns l t).1, aL (sendF ns l t).2.1, i6 (sendF ns l t).2.2]) ([]) := by
  refine semT' (S := S0) hm spec_l18Send_ok (Nat.le_of_ble_eq_true rfl) ?_
  unfold spec_l18Send; dsimp only
  have hlen := poolF_len hp
  have hw : IntKind.i64.wrap (l.seq + 1) = l.seq + 1 := by
    simp [linkF, inF] at hl
    exact wrap64 (by omega) (by omega)
  simp
  refine spec_l1Has_call (ns := ns) (t := t) (by omega) rfl ?_; simp
  refine br_intro' (fun g => ?_) (fun g => ?_) <;> simp [g]
  · refine spec_l18End_call (ns := ns) (t := t) (by omega) g rfl ?_; simp
    refine br_intro' (fun g1 => ?_) (fun g1 => ?_) <;> simp [g1]
    · first | (refine ck_intro' (by kernel_rfl) ?_; try simp) | skip
      exact LeV.ro rfl rfl (by simp [sendF, g, g1])
    refine br_intro' (fun g2 => ?_) (fun g2 => ?_) <;> simp [g2]
    · first | (refine ck_intro' (by kernel_rfl) ?_; try simp) | skip
      exact LeV.ro rfl rfl (by simp [sendF, g, g1, g2])
    refine br_intro' (fun g3 => ?_) (fun g3 => ?_) <;> simp at g3 <;> simp [g3]
    · first | (refine ck_intro' (by kernel_rfl) ?_; try simp) | skip
      exact LeV.ro rfl rfl (by simp [sendF, g, g1, g2, g3])
    refine spec_l18Word_k (ns := ns) (l := l) (t := t) hp hl rfl (by simp [g2]) (by simp) ?_; simp
    refine br_intro' (fun g4 => ?_) (fun g4 => ?_) <;> simp at g4 <;> simp [g4]
    · first | (refine ck_intro' (by kernel_rfl) ?_; try simp) | skip
      exact LeV.ro rfl rfl (by simp [sendF, g, g1, g2, g3, g4])
    · first | (refine ck_intro' (by kernel_rfl) ?_; try simp) | skip
      have g5 : ¬ (wordF ns l.key l.seq t).2 < 0 := by omega
      exact LeV.ro rfl rfl (by simp [sendF, g, g1, g2, g3, g5, hw])
  · first | (refine ck_intro' (by kernel_rfl) ?_; try simp) | skip
    exact LeV.ro rfl rfl (by simp [sendF, g])
theorem spec_l18Send_call {ns : List Nd} {l : Lk} {t : Int} (hp : poolF ns = true) (hl : linkF ns.length l = true) {S : FuncId → Bool} {H : List Blk} {K : A → Dl → Prop} (hS : S 80 = false) (hK : K (.tup [aP (sendF ns l t).1, aL (sendF ns l t).2.1, i6 (sendF ns l t).2.2]) (.news [])) : @WCall' Go.Proofs.Try.prog S 80 [aP ns, aL l, i6 t] H ⟨K⟩ :=
  WCall_pure hS (spec_l18Send_c ns l t hp hl) (by simp) (by simp) (by simp) hK
theorem spec_l18Send_k {ns : List Nd} {l : Lk} {t : Int} (hp : poolF ns = true) (hl : linkF ns.length l = true) {S : FuncId → Bool} {H : List Blk} {K : A → Dl → Prop} {zs : List A} (hS : S 80 = false) (hv : viewL (viewA 8 H) zs = some [aP ns, aL l, i6 t]) (ho : noOwns zs = true ∨ nosl (.tup [aP (sendF ns l t).1, aL (sendF ns l t).2.1, i6 (sendF ns l t).2.2]) = true) (hK : K (.tup [aP (sendF ns l t).1, aL (sendF ns l t).2.1, i6 (sendF ns l t).2.2]) (.news [])) : @WCall' Go.Proofs.Try.prog S 80 zs H ⟨K⟩ :=
  WCall_pure hS (spec_l18Send_c ns l t hp hl) hv ho (by simp) hK
theorem wordF_len (ns : List Nd) (key seq t : Int) (h : ns.length ≤ 500) : (wordF ns key seq t).1.length ≤ 500 := by
  unfold wordF
  split
  · exact h
  · split
    · exact h
    · split
      · exact h
      · exact sealF_len _ _ _ _ h
theorem sendF_len (ns : List Nd) (l : Lk) (t : Int) (h : ns.length ≤ 500) : (sendF ns l t).1.length ≤ 500 := by
  unfold sendF
  split
  · exact h
  · split
    · exact h
    · exact wordF_len _ _ _ _ h
/-- What LinkSend answers. -/
def linkSendF (ns : List Nd) (l : Lk) (t : Int) : List Nd × Lk × Int := if lkF ns l then sendF ns l t else (orE ns, l, -1)
theorem spec_LinkSend_c (ns : List Nd) (l : Lk) (t : Int) (hl : ns.length ≤ 4294967296) : T 31 [aP ns, aL l, i6 t] [] (.tup [.agg [pref 0 (linkSendF ns l t).1], aL (linkSendF ns l t).2.1, i6 (linkSendF ns l t).2.2]) ([pblk (linkSendF ns l t).1]) := by
  refine semT' (S := S0) hm spec_LinkSend_ok (Nat.le_of_ble_eq_true rfl) ?_
  unfold spec_LinkSend; dsimp only
  simp
  refine spec_PoolOk_call rfl ?_; simp
  refine br_intro' (fun h => ?_) (fun h => ?_) <;> simp [h]
  · refine spec_l18Link_call (ns := ns) (l := l) (by omega) rfl ?_; simp
    refine br_intro' (fun h1 => ?_) (fun h1 => ?_) <;> simp [h1]
    · refine spec_l18Send_call (t := t) h h1 rfl ?_; simp
      have e : linkSendF ns l t = sendF ns l t := by simp [linkSendF, lkF, h, h1]
      rw [e]
      have := sendF_len ns l t (poolF_len h)
      generalize sendF ns l t = r at this ⊢
      refine spec_l1Copy_k (ns := r.1) (by omega) rfl (by simp) (by simp [noslBlks]) ?_; simp [shiftB]
      first | (refine ck_intro' (by kernel_rfl) ?_; try simp) | skip
      first | (refine LeV.tell [none] ?_ ?_ ?_ <;> (simp; done)) | (refine LeV.tell [some 0] ?_ ?_ ?_ <;> (simp; done)) | (refine LeV.tell [some 1] ?_ ?_ ?_ <;> (simp; done)) | (refine LeV.tell [some 2] ?_ ?_ ?_ <;> (simp; done)) | (refine LeV.tell [some 3] ?_ ?_ ?_ <;> (simp; done)) | (refine LeV.tell [some 4] ?_ ?_ ?_ <;> (simp; done)) | (refine LeV.tell [some 5] ?_ ?_ ?_ <;> (simp; done)) | (refine LeV.tell [some 6] ?_ ?_ ?_ <;> (simp; done)) | (refine LeV.tell [some 7] ?_ ?_ ?_ <;> (simp; done)) | (refine LeV.tell [some 8] ?_ ?_ ?_ <;> (simp; done)) | (refine LeV.tell [some 9] ?_ ?_ ?_ <;> (simp; done)) | (refine LeV.tell [some 10] ?_ ?_ ?_ <;> (simp; done)) | (refine LeV.tell [some 11] ?_ ?_ ?_ <;> (simp; done)) | (refine LeV.tell [some 12] ?_ ?_ ?_ <;> (simp; done)) | (refine LeV.tell [some 13] ?_ ?_ ?_ <;> (simp; done)) | (refine LeV.tell [some 14] ?_ ?_ ?_ <;> (simp; done)) | (refine LeV.tell [some 15] ?_ ?_ ?_ <;> (simp; done))
    · have e : linkSendF ns l t = (ns, l, -1) := by simp [linkSendF, lkF, h, h1, orE]
      rw [e]
      refine spec_l1Copy_k (ns := ns) (by omega) rfl (by simp) (by simp [noslBlks]) ?_; simp [shiftB]
      first | (refine ck_intro' (by kernel_rfl) ?_; try simp) | skip
      first | (refine LeV.tell [none] ?_ ?_ ?_ <;> (simp; done)) | (refine LeV.tell [some 0] ?_ ?_ ?_ <;> (simp; done)) | (refine LeV.tell [some 1] ?_ ?_ ?_ <;> (simp; done)) | (refine LeV.tell [some 2] ?_ ?_ ?_ <;> (simp; done)) | (refine LeV.tell [some 3] ?_ ?_ ?_ <;> (simp; done)) | (refine LeV.tell [some 4] ?_ ?_ ?_ <;> (simp; done)) | (refine LeV.tell [some 5] ?_ ?_ ?_ <;> (simp; done)) | (refine LeV.tell [some 6] ?_ ?_ ?_ <;> (simp; done)) | (refine LeV.tell [some 7] ?_ ?_ ?_ <;> (simp; done)) | (refine LeV.tell [some 8] ?_ ?_ ?_ <;> (simp; done)) | (refine LeV.tell [some 9] ?_ ?_ ?_ <;> (simp; done)) | (refine LeV.tell [some 10] ?_ ?_ ?_ <;> (simp; done)) | (refine LeV.tell [some 11] ?_ ?_ ?_ <;> (simp; done)) | (refine LeV.tell [some 12] ?_ ?_ ?_ <;> (simp; done)) | (refine LeV.tell [some 13] ?_ ?_ ?_ <;> (simp; done)) | (refine LeV.tell [some 14] ?_ ?_ ?_ <;> (simp; done)) | (refine LeV.tell [some 15] ?_ ?_ ?_ <;> (simp; done))
  · have e : linkSendF ns l t = ([], l, -1) := by simp [linkSendF, lkF, h, orE]
    rw [e]
    first | (refine ck_intro' (by kernel_rfl) ?_; try simp) | skip
    first | (refine LeV.tell [none] ?_ ?_ ?_ <;> (simp; done)) | (refine LeV.tell [some 0] ?_ ?_ ?_ <;> (simp; done)) | (refine LeV.tell [some 1] ?_ ?_ ?_ <;> (simp; done)) | (refine LeV.tell [some 2] ?_ ?_ ?_ <;> (simp; done)) | (refine LeV.tell [some 3] ?_ ?_ ?_ <;> (simp; done)) | (refine LeV.tell [some 4] ?_ ?_ ?_ <;> (simp; done)) | (refine LeV.tell [some 5] ?_ ?_ ?_ <;> (simp; done)) | (refine LeV.tell [some 6] ?_ ?_ ?_ <;> (simp; done)) | (refine LeV.tell [some 7] ?_ ?_ ?_ <;> (simp; done)) | (refine LeV.tell [some 8] ?_ ?_ ?_ <;> (simp; done)) | (refine LeV.tell [some 9] ?_ ?_ ?_ <;> (simp; done)) | (refine LeV.tell [some 10] ?_ ?_ ?_ <;> (simp; done)) | (refine LeV.tell [some 11] ?_ ?_ ?_ <;> (simp; done)) | (refine LeV.tell [some 12] ?_ ?_ ?_ <;> (simp; done)) | (refine LeV.tell [some 13] ?_ ?_ ?_ <;> (simp; done)) | (refine LeV.tell [some 14] ?_ ?_ ?_ <;> (simp; done)) | (refine LeV.tell [some 15] ?_ ?_ ?_ <;> (simp; done))
theorem spec_LinkSend_k {ns : List Nd} {l : Lk} {t : Int} (hl : ns.length ≤ 4294967296) {S : FuncId → Bool} {H : List Blk} {K : A → Dl → Prop} {zs : List A} (hS : S 31 = false) (hv : viewL (viewA 8 H) zs = some [aP ns, aL l, i6 t]) (ho : noOwns zs = true ∨ nosl (.tup [.agg [pref 0 (linkSendF ns l t).1], aL (linkSendF ns l t).2.1, i6 (linkSendF ns l t).2.2]) = true ∧ noslBlks ([pblk (linkSendF ns l t).1]) = true) (hK : K (shiftA H.length (.tup [.agg [pref 0 (linkSendF ns l t).1], aL (linkSendF ns l t).2.1, i6 (linkSendF ns l t).2.2])) (.news (([pblk (linkSendF ns l t).1]).map (shiftB H.length)))) : @WCall' Go.Proofs.Try.prog S 31 zs H ⟨K⟩ :=
  WCall_ro' hS hv (spec_LinkSend_c ns l t hl) rfl ho hK
def closeF (ns : List Nd) (l : Lk) : List Nd × Lk × Int :=
  if l.over = true ∨ l.seq = 20 then (ns, l, -1)
  else if (addF ns ⟨1, 8, 0⟩).2 < 0 then (ns, l, -1)
  else if (wordF (addF ns ⟨1, 8, 0⟩).1 l.key l.seq (addF ns ⟨1, 8, 0⟩).2).2 < 0 then (ns, l, -1)
  else ((wordF (addF ns ⟨1, 8, 0⟩).1 l.key l.seq (addF ns ⟨1, 8, 0⟩).2).1, ⟨l.key, l.epoch, l.seq, true⟩, (wordF (addF ns ⟨1, 8, 0⟩).1 l.key l.seq (addF ns ⟨1, 8, 0⟩).2).2)
theorem linkF_mono {m m' : Nat} {l : Lk} (h : m ≤ m') (hl : linkF m l = true) : linkF m' l = true := by
  simp [linkF, hasF, inF] at hl ⊢
  omega
theorem spec_l18Close_c (ns : List Nd) (l : Lk) (hp : poolF ns = true) (hl : linkF ns.length l = true) : T 85 [aP ns, aL l] [] (.tup [aP (closeF ns l).1, aL (closeF ns l).2.1, i6 (closeF ns l).2.2]) ([]) := by
  refine semT' (S := S0) hm spec_l18Close_ok (Nat.le_of_ble_eq_true rfl) ?_
  unfold spec_l18Close; dsimp only
  have hlen := poolF_len hp
  simp
  refine br_intro' (fun g2 => ?_) (fun g2 => ?_) <;> simp [g2]
  · first | (refine ck_intro' (by kernel_rfl) ?_; try simp) | skip
    exact LeV.ro rfl rfl (by simp [closeF, g2])
  refine br_intro' (fun g3 => ?_) (fun g3 => ?_) <;> simp at g3 <;> simp [g3]
  · first | (refine ck_intro' (by kernel_rfl) ?_; try simp) | skip
    exact LeV.ro rfl rfl (by simp [closeF, g2, g3])
  refine spec_l2Name_call hp rfl ?_; simp
  have hp1 := addF_pool ⟨1, 8, 0⟩ hp
  have hl1 := linkF_mono (addF_ge ns ⟨1, 8, 0⟩) hl
  have e : closeF ns l = if (addF ns ⟨1, 8, 0⟩).2 < 0 then (ns, l, -1)
      else if (wordF (addF ns ⟨1, 8, 0⟩).1 l.key l.seq (addF ns ⟨1, 8, 0⟩).2).2 < 0 then (ns, l, -1)
      else ((wordF (addF ns ⟨1, 8, 0⟩).1 l.key l.seq (addF ns ⟨1, 8, 0⟩).2).1, ⟨l.key, l.epoch, l.seq, true⟩, (wordF (addF ns ⟨1, 8, 0⟩).1 l.key l.seq (addF ns ⟨1, 8, 0⟩).2).2) := by
    simp [closeF, g2, g3]
  rw [e]
  generalize addF ns ⟨1, 8, 0⟩ = p at hp1 hl1 ⊢
  refine br_intro' (fun g => ?_) (fun g => ?_) <;> simp at g <;> simp [g]
  · first | (refine ck_intro' (by kernel_rfl) ?_; try simp) | skip
    exact LeV.ro rfl rfl (by simp [g2, g])
  have g1 : ¬ p.2 < 0 := by omega
  refine spec_l18Word_k (ns := p.1) (l := l) (t := p.2) hp1 hl1 rfl (by simp [g2]) (by simp) ?_; simp
  generalize wordF p.1 l.key l.seq p.2 = q
  refine br_intro' (fun g4 => ?_) (fun g4 => ?_) <;> simp at g4 <;> simp [g4]
  · first | (refine ck_intro' (by kernel_rfl) ?_; try simp) | skip
    exact LeV.ro rfl rfl (by simp [g1, g2, g4])
  · first | (refine ck_intro' (by kernel_rfl) ?_; try simp) | skip
    have g5 : ¬ q.2 < 0 := by omega
    exact LeV.ro rfl rfl (by simp [g1, g5])
theorem spec_l18Close_call {ns : List Nd} {l : Lk} (hp : poolF ns = true) (hl : linkF ns.length l = true) {S : FuncId → Bool} {H : List Blk} {K : A → Dl → Prop} (hS : S 85 = false) (hK : K (.tup [aP (closeF ns l).1, aL (closeF ns l).2.1, i6 (closeF ns l).2.2]) (.news [])) : @WCall' Go.Proofs.Try.prog S 85 [aP ns, aL l] H ⟨K⟩ :=
  WCall_pure hS (spec_l18Close_c ns l hp hl) (by simp) (by simp) (by simp) hK
theorem spec_l18Close_k {ns : List Nd} {l : Lk} (hp : poolF ns = true) (hl : linkF ns.length l = true) {S : FuncId → Bool} {H : List Blk} {K : A → Dl → Prop} {zs : List A} (hS : S 85 = false) (hv : viewL (viewA 8 H) zs = some [aP ns, aL l]) (ho : noOwns zs = true ∨ nosl (.tup [aP (closeF ns l).1, aL (closeF ns l).2.1, i6 (closeF ns l).2.2]) = true) (hK : K (.tup [aP (closeF ns l).1, aL (closeF ns l).2.1, i6 (closeF ns l).2.2]) (.news [])) : @WCall' Go.Proofs.Try.prog S 85 zs H ⟨K⟩ :=
  WCall_pure hS (spec_l18Close_c ns l hp hl) hv ho (by simp) hK
theorem closeF_len (ns : List Nd) (l : Lk) (h : ns.length ≤ 500) : (closeF ns l).1.length ≤ 500 := by
  unfold closeF
  split
  · exact h
  · split
    · exact h
    · split
      · exact h
      · exact wordF_len _ _ _ _ (addF_len _ _ h)
/-- What LinkEnd answers. -/
def linkEndF (ns : List Nd) (l : Lk) : List Nd × Lk × Int := if lkF ns l then closeF ns l else (orE ns, l, -1)
theorem spec_LinkEnd_c (ns : List Nd) (l : Lk) (hl : ns.length ≤ 4294967296) : T 36 [aP ns, aL l] [] (.tup [.agg [pref 0 (linkEndF ns l).1], aL (linkEndF ns l).2.1, i6 (linkEndF ns l).2.2]) ([pblk (linkEndF ns l).1]) := by
  refine semT' (S := S0) hm spec_LinkEnd_ok (Nat.le_of_ble_eq_true rfl) ?_
  unfold spec_LinkEnd; dsimp only
  simp
  refine spec_PoolOk_call rfl ?_; simp
  refine br_intro' (fun h => ?_) (fun h => ?_) <;> simp [h]
  · refine spec_l18Link_call (ns := ns) (l := l) (by omega) rfl ?_; simp
    refine br_intro' (fun h1 => ?_) (fun h1 => ?_) <;> simp [h1]
    · refine spec_l18Close_call h h1 rfl ?_; simp
      have e : linkEndF ns l = closeF ns l := by simp [linkEndF, lkF, h, h1]
      rw [e]
      have := closeF_len ns l (poolF_len h)
      generalize closeF ns l = r at this ⊢
      refine spec_l1Copy_k (ns := r.1) (by omega) rfl (by simp) (by simp [noslBlks]) ?_; simp [shiftB]
      first | (refine ck_intro' (by kernel_rfl) ?_; try simp) | skip
      first | (refine LeV.tell [none] ?_ ?_ ?_ <;> (simp; done)) | (refine LeV.tell [some 0] ?_ ?_ ?_ <;> (simp; done)) | (refine LeV.tell [some 1] ?_ ?_ ?_ <;> (simp; done)) | (refine LeV.tell [some 2] ?_ ?_ ?_ <;> (simp; done)) | (refine LeV.tell [some 3] ?_ ?_ ?_ <;> (simp; done)) | (refine LeV.tell [some 4] ?_ ?_ ?_ <;> (simp; done)) | (refine LeV.tell [some 5] ?_ ?_ ?_ <;> (simp; done)) | (refine LeV.tell [some 6] ?_ ?_ ?_ <;> (simp; done)) | (refine LeV.tell [some 7] ?_ ?_ ?_ <;> (simp; done)) | (refine LeV.tell [some 8] ?_ ?_ ?_ <;> (simp; done)) | (refine LeV.tell [some 9] ?_ ?_ ?_ <;> (simp; done)) | (refine LeV.tell [some 10] ?_ ?_ ?_ <;> (simp; done)) | (refine LeV.tell [some 11] ?_ ?_ ?_ <;> (simp; done)) | (refine LeV.tell [some 12] ?_ ?_ ?_ <;> (simp; done)) | (refine LeV.tell [some 13] ?_ ?_ ?_ <;> (simp; done)) | (refine LeV.tell [some 14] ?_ ?_ ?_ <;> (simp; done)) | (refine LeV.tell [some 15] ?_ ?_ ?_ <;> (simp; done))
    · have e : linkEndF ns l = (ns, l, -1) := by simp [linkEndF, lkF, h, h1, orE]
      rw [e]
      refine spec_l1Copy_k (ns := ns) (by omega) rfl (by simp) (by simp [noslBlks]) ?_; simp [shiftB]
      first | (refine ck_intro' (by kernel_rfl) ?_; try simp) | skip
      first | (refine LeV.tell [none] ?_ ?_ ?_ <;> (simp; done)) | (refine LeV.tell [some 0] ?_ ?_ ?_ <;> (simp; done)) | (refine LeV.tell [some 1] ?_ ?_ ?_ <;> (simp; done)) | (refine LeV.tell [some 2] ?_ ?_ ?_ <;> (simp; done)) | (refine LeV.tell [some 3] ?_ ?_ ?_ <;> (simp; done)) | (refine LeV.tell [some 4] ?_ ?_ ?_ <;> (simp; done)) | (refine LeV.tell [some 5] ?_ ?_ ?_ <;> (simp; done)) | (refine LeV.tell [some 6] ?_ ?_ ?_ <;> (simp; done)) | (refine LeV.tell [some 7] ?_ ?_ ?_ <;> (simp; done)) | (refine LeV.tell [some 8] ?_ ?_ ?_ <;> (simp; done)) | (refine LeV.tell [some 9] ?_ ?_ ?_ <;> (simp; done)) | (refine LeV.tell [some 10] ?_ ?_ ?_ <;> (simp; done)) | (refine LeV.tell [some 11] ?_ ?_ ?_ <;> (simp; done)) | (refine LeV.tell [some 12] ?_ ?_ ?_ <;> (simp; done)) | (refine LeV.tell [some 13] ?_ ?_ ?_ <;> (simp; done)) | (refine LeV.tell [some 14] ?_ ?_ ?_ <;> (simp; done)) | (refine LeV.tell [some 15] ?_ ?_ ?_ <;> (simp; done))
  · have e : linkEndF ns l = ([], l, -1) := by simp [linkEndF, lkF, h, orE]
    rw [e]
    first | (refine ck_intro' (by kernel_rfl) ?_; try simp) | skip
    first | (refine LeV.tell [none] ?_ ?_ ?_ <;> (simp; done)) | (refine LeV.tell [some 0] ?_ ?_ ?_ <;> (simp; done)) | (refine LeV.tell [some 1] ?_ ?_ ?_ <;> (simp; done)) | (refine LeV.tell [some 2] ?_ ?_ ?_ <;> (simp; done)) | (refine LeV.tell [some 3] ?_ ?_ ?_ <;> (simp; done)) | (refine LeV.tell [some 4] ?_ ?_ ?_ <;> (simp; done)) | (refine LeV.tell [some 5] ?_ ?_ ?_ <;> (simp; done)) | (refine LeV.tell [some 6] ?_ ?_ ?_ <;> (simp; done)) | (refine LeV.tell [some 7] ?_ ?_ ?_ <;> (simp; done)) | (refine LeV.tell [some 8] ?_ ?_ ?_ <;> (simp; done)) | (refine LeV.tell [some 9] ?_ ?_ ?_ <;> (simp; done)) | (refine LeV.tell [some 10] ?_ ?_ ?_ <;> (simp; done)) | (refine LeV.tell [some 11] ?_ ?_ ?_ <;> (simp; done)) | (refine LeV.tell [some 12] ?_ ?_ ?_ <;> (simp; done)) | (refine LeV.tell [some 13] ?_ ?_ ?_ <;> (simp; done)) | (refine LeV.tell [some 14] ?_ ?_ ?_ <;> (simp; done)) | (refine LeV.tell [some 15] ?_ ?_ ?_ <;> (simp; done))
theorem spec_LinkEnd_k {ns : List Nd} {l : Lk} (hl : ns.length ≤ 4294967296) {S : FuncId → Bool} {H : List Blk} {K : A → Dl → Prop} {zs : List A} (hS : S 36 = false) (hv : viewL (viewA 8 H) zs = some [aP ns, aL l]) (ho : noOwns zs = true ∨ nosl (.tup [.agg [pref 0 (linkEndF ns l).1], aL (linkEndF ns l).2.1, i6 (linkEndF ns l).2.2]) = true ∧ noslBlks ([pblk (linkEndF ns l).1]) = true) (hK : K (shiftA H.length (.tup [.agg [pref 0 (linkEndF ns l).1], aL (linkEndF ns l).2.1, i6 (linkEndF ns l).2.2])) (.news (([pblk (linkEndF ns l).1]).map (shiftB H.length)))) : @WCall' Go.Proofs.Try.prog S 36 zs H ⟨K⟩ :=
  WCall_ro' hS hv (spec_LinkEnd_c ns l hl) rfl ho hK
end Go.Proofs.Ytnbodfakblbmbaa.C

set_option linter.unusedVariables false
set_option linter.unusedSimpArgs false
namespace Go.Proofs.Ytnbodfakblbmbaa.C
open Go.Sym Go.Proofs.Ytnbodfakblbmbaa.I
theorem impl_Pool_isName_c (ns : List Nd) (r : List A) (t x : Int) (hl : ns.length < 9223372036854775807) (ht : hasF ns.length t = true) : T 63 [.pt (.sl ns.length (enc ns) :: r), i6 t, i6 x] [] (.bool (nameF ns t x)) ([]) := by
  refine semT' (S := S0) hm impl_Pool_isName_ok (Nat.le_of_ble_eq_true rfl) ?_
  unfold impl_Pool_isName; dsimp only
  obtain ⟨j, rfl, hj⟩ := hasF_nat ht
  obtain ⟨q, hr⟩ := enc_at hj
  have h3 : 3 ≤ ns.length * 3 - j * 3 := by omega
  simp [h3, hr, hj]
  exact LeV.ro rfl rfl (by simp [nameF, hj, Nd_eq])
theorem impl_LinkSend_c (ns : List Nd) (l : Lk) (t : Int) (hl : ns.length ≤ 4294967296) : T 32 [aP ns, aL l, i6 t] [] (.tup [.agg [pref 0 (linkSendF ns l t).1], aL (linkSendF ns l t).2.1, i6 (linkSendF ns l t).2.2]) ([pblk (linkSendF ns l t).1]) := by
  refine semT' (S := (fun f => [76, 77, 81].contains f)) hm impl_LinkSend_ok (Nat.le_of_ble_eq_true rfl) ?_
  unfold impl_LinkSend; dsimp only
  have e0 : (hasF ns.length t = false ∨ l.over = true ∨ l.seq = 20 ∨ lkF ns l = false ∨ endF ns t = true) → linkSendF ns l t = (orE ns, l, -1) := by
    intro h
    unfold linkSendF
    by_cases hk : lkF ns l = true
    · have hp : poolF ns = true := by simp [lkF] at hk; exact hk.1
      rw [if_pos hk]
      simp only [sendF]
      rw [if_pos (by rcases h with h | h | h | h | h; exact .inl h; exact .inr (.inr (.inl h)); exact .inr (.inr (.inr h)); (rw [hk] at h; cases h); exact .inr (.inl h))]
      simp [orE, hp]
    · rw [if_neg hk]
  simp
  refine WCall_pure rfl (impl_Pool_isTerm_c ns [] t (by omega)) (by simp) (by simp) (by simp) ?_; simp
  refine br_intro' (fun h0 => ?_) (fun h0 => ?_) <;> simp [h0]
  refine br_intro' (fun h => ?_) (fun h => ?_) <;> simp [h]
  · rw [e0 (.inr (.inl h))]
    refine impl_orEmpty_k (ns := ns) hl rfl (by simp) (by simp [noslBlks]) ?_; simp [shiftB]
    first | (refine ck_intro' (by kernel_rfl) ?_; try simp) | skip
    first | (refine LeV.tell [none] ?_ ?_ ?_ <;> (simp [h]; done)) | (refine LeV.tell [some 0] ?_ ?_ ?_ <;> (simp [h]; done)) | (refine LeV.tell [some 1] ?_ ?_ ?_ <;> (simp [h]; done)) | (refine LeV.tell [some 2] ?_ ?_ ?_ <;> (simp [h]; done)) | (refine LeV.tell [some 3] ?_ ?_ ?_ <;> (simp [h]; done)) | (refine LeV.tell [some 4] ?_ ?_ ?_ <;> (simp [h]; done)) | (refine LeV.tell [some 5] ?_ ?_ ?_ <;> (simp [h]; done)) | (refine LeV.tell [some 6] ?_ ?_ ?_ <;> (simp [h]; done)) | (refine LeV.tell [some 7] ?_ ?_ ?_ <;> (simp [h]; done)) | (refine LeV.tell [some 8] ?_ ?_ ?_ <;> (simp [h]; done)) | (refine LeV.tell [some 9] ?_ ?_ ?_ <;> (simp [h]; done)) | (refine LeV.tell [some 10] ?_ ?_ ?_ <;> (simp [h]; done)) | (refine LeV.tell [some 11] ?_ ?_ ?_ <;> (simp [h]; done)) | (refine LeV.tell [some 12] ?_ ?_ ?_ <;> (simp [h]; done)) | (refine LeV.tell [some 13] ?_ ?_ ?_ <;> (simp [h]; done)) | (refine LeV.tell [some 14] ?_ ?_ ?_ <;> (simp [h]; done)) | (refine LeV.tell [some 15] ?_ ?_ ?_ <;> (simp [h]; done))
  refine br_intro' (fun h1 => ?_) (fun h1 => ?_) <;> simp at h1 <;> simp [h1]
  · rw [e0 (.inr (.inr (.inl h1)))]
    refine impl_orEmpty_k (ns := ns) hl rfl (by simp) (by simp [noslBlks]) ?_; simp [shiftB]
    first | (refine ck_intro' (by kernel_rfl) ?_; try simp) | skip
    first | (refine LeV.tell [none] ?_ ?_ ?_ <;> (simp [h, h1]; done)) | (refine LeV.tell [some 0] ?_ ?_ ?_ <;> (simp [h, h1]; done)) | (refine LeV.tell [some 1] ?_ ?_ ?_ <;> (simp [h, h1]; done)) | (refine LeV.tell [some 2] ?_ ?_ ?_ <;> (simp [h, h1]; done)) | (refine LeV.tell [some 3] ?_ ?_ ?_ <;> (simp [h, h1]; done)) | (refine LeV.tell [some 4] ?_ ?_ ?_ <;> (simp [h, h1]; done)) | (refine LeV.tell [some 5] ?_ ?_ ?_ <;> (simp [h, h1]; done)) | (refine LeV.tell [some 6] ?_ ?_ ?_ <;> (simp [h, h1]; done)) | (refine LeV.tell [some 7] ?_ ?_ ?_ <;> (simp [h, h1]; done)) | (refine LeV.tell [some 8] ?_ ?_ ?_ <;> (simp [h, h1]; done)) | (refine LeV.tell [some 9] ?_ ?_ ?_ <;> (simp [h, h1]; done)) | (refine LeV.tell [some 10] ?_ ?_ ?_ <;> (simp [h, h1]; done)) | (refine LeV.tell [some 11] ?_ ?_ ?_ <;> (simp [h, h1]; done)) | (refine LeV.tell [some 12] ?_ ?_ ?_ <;> (simp [h, h1]; done)) | (refine LeV.tell [some 13] ?_ ?_ ?_ <;> (simp [h, h1]; done)) | (refine LeV.tell [some 14] ?_ ?_ ?_ <;> (simp [h, h1]; done)) | (refine LeV.tell [some 15] ?_ ?_ ?_ <;> (simp [h, h1]; done))
  refine impl_LinkOk_k (ns := ns) (l := l) (by omega) rfl (by simp [h]) (by simp) ?_; simp
  refine br_intro' (fun h2 => ?_) (fun h2 => ?_) <;> simp [h2]
  · refine WCall_pure rfl (impl_Pool_isName_c ns [] t 8 (by omega) h0) (by simp) (by simp) (by simp) ?_; simp
    refine br_intro' (fun h3 => ?_) (fun h3 => ?_) <;> simp [h3]
    · rw [e0 (.inr (.inr (.inr (.inr h3))))]
      refine impl_orEmpty_k (ns := ns) hl rfl (by simp) (by simp [noslBlks]) ?_; simp [shiftB]
      first | (refine ck_intro' (by kernel_rfl) ?_; try simp) | skip
      first | (refine LeV.tell [none] ?_ ?_ ?_ <;> (simp [h]; done)) | (refine LeV.tell [some 0] ?_ ?_ ?_ <;> (simp [h]; done)) | (refine LeV.tell [some 1] ?_ ?_ ?_ <;> (simp [h]; done)) | (refine LeV.tell [some 2] ?_ ?_ ?_ <;> (simp [h]; done)) | (refine LeV.tell [some 3] ?_ ?_ ?_ <;> (simp [h]; done)) | (refine LeV.tell [some 4] ?_ ?_ ?_ <;> (simp [h]; done)) | (refine LeV.tell [some 5] ?_ ?_ ?_ <;> (simp [h]; done)) | (refine LeV.tell [some 6] ?_ ?_ ?_ <;> (simp [h]; done)) | (refine LeV.tell [some 7] ?_ ?_ ?_ <;> (simp [h]; done)) | (refine LeV.tell [some 8] ?_ ?_ ?_ <;> (simp [h]; done)) | (refine LeV.tell [some 9] ?_ ?_ ?_ <;> (simp [h]; done)) | (refine LeV.tell [some 10] ?_ ?_ ?_ <;> (simp [h]; done)) | (refine LeV.tell [some 11] ?_ ?_ ?_ <;> (simp [h]; done)) | (refine LeV.tell [some 12] ?_ ?_ ?_ <;> (simp [h]; done)) | (refine LeV.tell [some 13] ?_ ?_ ?_ <;> (simp [h]; done)) | (refine LeV.tell [some 14] ?_ ?_ ?_ <;> (simp [h]; done)) | (refine LeV.tell [some 15] ?_ ?_ ?_ <;> (simp [h]; done))
    refine impl_copyPool_k (ns := ns) hl rfl (by simp) (by simp [noslBlks]) ?_; simp [shiftB]
    have hp : poolF ns = true := by simp [lkF] at h2; exact h2.1
    have hl5 := poolF_len hp
    have hs1 : -9223372036854775808 ≤ 20 + l.seq := by simp [lkF, linkF, inF] at h2; omega
    have hs2 : 20 + l.seq < 9223372036854775808 := by simp [lkF, linkF, inF] at h2; omega
    have hw : IntKind.i64.wrap (l.seq + 1) = l.seq + 1 := by
      simp [lkF, linkF, inF] at h2
      exact wrap64 (by omega) (by omega)
    have e1 : linkSendF ns l t = if (sealF ns l.key l.seq t).2 < 0 then (ns, l, -1) else ((sealF ns l.key l.seq t).1, ⟨l.key, l.epoch, l.seq + 1, l.over⟩, (sealF ns l.key l.seq t).2) := by
      have h3' : endF ns t = false := h3
      simp only [linkSendF, sendF, h2, if_true, h0, h3', h, h1, wordF_eq hs1 hs2]
      by_cases q : (sealF ns l.key l.seq t).2 < 0
      · simp [q]
      · simp [q]
    rw [e1]
    refine pool_call rfl 5 0 4 0 1 [pref 4 ns] ns (sealF ns l.key l.seq t).1 ⟨by simp, by simp, by simp, by simp, by simp, by simp, ⟨[], by simp⟩⟩ (by simp [pset]) (impl_Link_seal_m _ 5 0 4 0 1 [pref 4 ns] ns 1 0 1 l.key l.epoch l.seq false t ⟨by simp, by simp, by simp, by simp, by simp, by simp, ⟨[], by simp⟩⟩ hl5 (by simp) (by simp) (by simp)) ?_
    simp [pset]
    have hl6 := sealF_len ns l.key l.seq t hl5
    generalize sealF ns l.key l.seq t = q at hl6 ⊢
    refine br_intro' (fun f => ?_) (fun f => ?_) <;> simp at f <;> simp [f]
    · refine impl_copyPool_k (ns := ns) hl rfl (by simp) (by simp [noslBlks]) ?_; simp [shiftB]
      first | (refine ck_intro' (by kernel_rfl) ?_; try simp) | skip
      first | (refine LeV.tell [none] ?_ ?_ ?_ <;> (simp [h, f]; done)) | (refine LeV.tell [some 0] ?_ ?_ ?_ <;> (simp [h, f]; done)) | (refine LeV.tell [some 1] ?_ ?_ ?_ <;> (simp [h, f]; done)) | (refine LeV.tell [some 2] ?_ ?_ ?_ <;> (simp [h, f]; done)) | (refine LeV.tell [some 3] ?_ ?_ ?_ <;> (simp [h, f]; done)) | (refine LeV.tell [some 4] ?_ ?_ ?_ <;> (simp [h, f]; done)) | (refine LeV.tell [some 5] ?_ ?_ ?_ <;> (simp [h, f]; done)) | (refine LeV.tell [some 6] ?_ ?_ ?_ <;> (simp [h, f]; done)) | (refine LeV.tell [some 7] ?_ ?_ ?_ <;> (simp [h, f]; done)) | (refine LeV.tell [some 8] ?_ ?_ ?_ <;> (simp [h, f]; done)) | (refine LeV.tell [some 9] ?_ ?_ ?_ <;> (simp [h, f]; done)) | (refine LeV.tell [some 10] ?_ ?_ ?_ <;> (simp [h, f]; done)) | (refine LeV.tell [some 11] ?_ ?_ ?_ <;> (simp [h, f]; done)) | (refine LeV.tell [some 12] ?_ ?_ ?_ <;> (simp [h, f]; done)) | (refine LeV.tell [some 13] ?_ ?_ ?_ <;> (simp [h, f]; done)) | (refine LeV.tell [some 14] ?_ ?_ ?_ <;> (simp [h, f]; done)) | (refine LeV.tell [some 15] ?_ ?_ ?_ <;> (simp [h, f]; done))
    · have f' : ¬ q.2 < 0 := by omega
      first | (refine ck_intro' (by kernel_rfl) ?_; try simp) | skip
      first | (refine LeV.tell [none] ?_ ?_ ?_ <;> (simp [f', hw, h]; done)) | (refine LeV.tell [some 0] ?_ ?_ ?_ <;> (simp [f', hw, h]; done)) | (refine LeV.tell [some 1] ?_ ?_ ?_ <;> (simp [f', hw, h]; done)) | (refine LeV.tell [some 2] ?_ ?_ ?_ <;> (simp [f', hw, h]; done)) | (refine LeV.tell [some 3] ?_ ?_ ?_ <;> (simp [f', hw, h]; done)) | (refine LeV.tell [some 4] ?_ ?_ ?_ <;> (simp [f', hw, h]; done)) | (refine LeV.tell [some 5] ?_ ?_ ?_ <;> (simp [f', hw, h]; done)) | (refine LeV.tell [some 6] ?_ ?_ ?_ <;> (simp [f', hw, h]; done)) | (refine LeV.tell [some 7] ?_ ?_ ?_ <;> (simp [f', hw, h]; done)) | (refine LeV.tell [some 8] ?_ ?_ ?_ <;> (simp [f', hw, h]; done)) | (refine LeV.tell [some 9] ?_ ?_ ?_ <;> (simp [f', hw, h]; done)) | (refine LeV.tell [some 10] ?_ ?_ ?_ <;> (simp [f', hw, h]; done)) | (refine LeV.tell [some 11] ?_ ?_ ?_ <;> (simp [f', hw, h]; done)) | (refine LeV.tell [some 12] ?_ ?_ ?_ <;> (simp [f', hw, h]; done)) | (refine LeV.tell [some 13] ?_ ?_ ?_ <;> (simp [f', hw, h]; done)) | (refine LeV.tell [some 14] ?_ ?_ ?_ <;> (simp [f', hw, h]; done)) | (refine LeV.tell [some 15] ?_ ?_ ?_ <;> (simp [f', hw, h]; done))
  · rw [e0 (.inr (.inr (.inr (.inl h2))))]
    refine impl_orEmpty_k (ns := ns) hl rfl (by simp) (by simp [noslBlks]) ?_; simp [shiftB]
    first | (refine ck_intro' (by kernel_rfl) ?_; try simp) | skip
    first | (refine LeV.tell [none] ?_ ?_ ?_ <;> (simp [h]; done)) | (refine LeV.tell [some 0] ?_ ?_ ?_ <;> (simp [h]; done)) | (refine LeV.tell [some 1] ?_ ?_ ?_ <;> (simp [h]; done)) | (refine LeV.tell [some 2] ?_ ?_ ?_ <;> (simp [h]; done)) | (refine LeV.tell [some 3] ?_ ?_ ?_ <;> (simp [h]; done)) | (refine LeV.tell [some 4] ?_ ?_ ?_ <;> (simp [h]; done)) | (refine LeV.tell [some 5] ?_ ?_ ?_ <;> (simp [h]; done)) | (refine LeV.tell [some 6] ?_ ?_ ?_ <;> (simp [h]; done)) | (refine LeV.tell [some 7] ?_ ?_ ?_ <;> (simp [h]; done)) | (refine LeV.tell [some 8] ?_ ?_ ?_ <;> (simp [h]; done)) | (refine LeV.tell [some 9] ?_ ?_ ?_ <;> (simp [h]; done)) | (refine LeV.tell [some 10] ?_ ?_ ?_ <;> (simp [h]; done)) | (refine LeV.tell [some 11] ?_ ?_ ?_ <;> (simp [h]; done)) | (refine LeV.tell [some 12] ?_ ?_ ?_ <;> (simp [h]; done)) | (refine LeV.tell [some 13] ?_ ?_ ?_ <;> (simp [h]; done)) | (refine LeV.tell [some 14] ?_ ?_ ?_ <;> (simp [h]; done)) | (refine LeV.tell [some 15] ?_ ?_ ?_ <;> (simp [h]; done))
  · rw [e0 (.inl h0)]
    refine impl_orEmpty_k (ns := ns) hl rfl (by simp) (by simp [noslBlks]) ?_; simp [shiftB]
    first | (refine ck_intro' (by kernel_rfl) ?_; try simp) | skip
    first | (refine LeV.tell [none] ?_ ?_ ?_ <;> (simp; done)) | (refine LeV.tell [some 0] ?_ ?_ ?_ <;> (simp; done)) | (refine LeV.tell [some 1] ?_ ?_ ?_ <;> (simp; done)) | (refine LeV.tell [some 2] ?_ ?_ ?_ <;> (simp; done)) | (refine LeV.tell [some 3] ?_ ?_ ?_ <;> (simp; done)) | (refine LeV.tell [some 4] ?_ ?_ ?_ <;> (simp; done)) | (refine LeV.tell [some 5] ?_ ?_ ?_ <;> (simp; done)) | (refine LeV.tell [some 6] ?_ ?_ ?_ <;> (simp; done)) | (refine LeV.tell [some 7] ?_ ?_ ?_ <;> (simp; done)) | (refine LeV.tell [some 8] ?_ ?_ ?_ <;> (simp; done)) | (refine LeV.tell [some 9] ?_ ?_ ?_ <;> (simp; done)) | (refine LeV.tell [some 10] ?_ ?_ ?_ <;> (simp; done)) | (refine LeV.tell [some 11] ?_ ?_ ?_ <;> (simp; done)) | (refine LeV.tell [some 12] ?_ ?_ ?_ <;> (simp; done)) | (refine LeV.tell [some 13] ?_ ?_ ?_ <;> (simp; done)) | (refine LeV.tell [some 14] ?_ ?_ ?_ <;> (simp; done)) | (refine LeV.tell [some 15] ?_ ?_ ?_ <;> (simp; done))
theorem impl_LinkSend_k {ns : List Nd} {l : Lk} {t : Int} (hl : ns.length ≤ 4294967296) {S : FuncId → Bool} {H : List Blk} {K : A → Dl → Prop} {zs : List A} (hS : S 32 = false) (hv : viewL (viewA 8 H) zs = some [aP ns, aL l, i6 t]) (ho : noOwns zs = true ∨ nosl (.tup [.agg [pref 0 (linkSendF ns l t).1], aL (linkSendF ns l t).2.1, i6 (linkSendF ns l t).2.2]) = true ∧ noslBlks ([pblk (linkSendF ns l t).1]) = true) (hK : K (shiftA H.length (.tup [.agg [pref 0 (linkSendF ns l t).1], aL (linkSendF ns l t).2.1, i6 (linkSendF ns l t).2.2])) (.news (([pblk (linkSendF ns l t).1]).map (shiftB H.length)))) : @WCall' Go.Proofs.Try.prog S 32 zs H ⟨K⟩ :=
  WCall_ro' hS hv (impl_LinkSend_c ns l t hl) rfl ho hK
def endsF (ns : List Nd) (key seq : Int) : List Nd × Int := sealF (addF ns ⟨1, 8, 0⟩).1 key seq (addF ns ⟨1, 8, 0⟩).2
theorem impl_Link_end_m (H : List Blk) (b off nb vb eb : Nat) (cb : List A) (ns : List Nd) (lb vl el : Nat) (key ep sq : Int) (ov : Bool) (h : PIn H b off nb cb) (hl : ns.length ≤ 500) (h1 : lb ≠ b) (h2 : lb ≠ nb) (hL : H[lb]? = some ⟨vl, false, el, [i6 key, i6 ep, i6 sq, .bool ov], none⟩) : T 86 [.ptr lb vl 0, .ptr b vb off] (pset H b off nb vb eb cb ns) (i6 (endsF ns key sq).2) (pset H b off nb vb eb cb (endsF ns key sq).1) := by
  refine semT' (S := (fun f => [76, 77, 81].contains f)) hm impl_Link_end_ok (Nat.le_of_ble_eq_true rfl) ?_
  unfold impl_Link_end; dsimp only
  have gL : ∀ ns, (pset H b off nb vb eb cb ns)[lb]? = _ := fun ns => (pset_other vb eb ns h1 h2).trans hL
  try simp [gL]
  refine pool_call rfl b off nb vb eb cb ns (addF ns ⟨1, 8, 0⟩).1 (h.pset vb eb ns) (pset_pset h vb eb ns ns) (by rw [pset_pset h, pset_pset h]; exact impl_Pool_name_m H b off nb vb eb cb ns _ h hl) ?_
  try simp [pset_pset h, gL]
  have hl1 := addF_len ns ⟨1, 8, 0⟩ hl
  generalize hA : addF ns ⟨1, 8, 0⟩ = A1 at hl1 ⊢
  refine pool_call rfl b off nb vb eb cb A1.1 (sealF A1.1 key sq A1.2).1 (h.pset vb eb _) (pset_pset h vb eb _ _) (by rw [pset_pset h, pset_pset h]; exact impl_Link_seal_m H b off nb vb eb cb A1.1 lb vl el key ep sq ov A1.2 h hl1 h1 h2 hL) ?_
  try simp [pset_pset h, gL]
  subst hA
  exact LeV.refl _ _ _
theorem endsF_len (ns : List Nd) (key seq : Int) (h : ns.length ≤ 500) : (endsF ns key seq).1.length ≤ 500 := sealF_len _ _ _ _ (addF_len _ _ h)
theorem closeF_eq {ns : List Nd} {l : Lk} (h1 : -9223372036854775808 ≤ 20 + l.seq) (h2 : 20 + l.seq < 9223372036854775808) (h : l.over = false) (h3 : ¬ l.seq = 20) : closeF ns l = if (endsF ns l.key l.seq).2 < 0 then (ns, l, -1) else ((endsF ns l.key l.seq).1, ⟨l.key, l.epoch, l.seq, true⟩, (endsF ns l.key l.seq).2) := by
  unfold closeF endsF
  rw [if_neg (by simp [h, h3]), wordF_eq h1 h2]
  by_cases g : (addF ns ⟨1, 8, 0⟩).2 < 0
  · rw [if_pos g, if_pos]
    rw [addF_m1 g, sealF_eq h1 h2]
    by_cases g1 : (addF (addF ns ⟨1, 8, 0⟩).1 ⟨1, 20 + l.seq, 0⟩).2 < 0
    · rw [addF_m1 g1, addF_neg (by rfl) (by simp)]
      simp only
      rw [addF_neg1 (by rfl) (by simp)]
      simp
    · rw [addF_neg (by rfl) (by simp)]
      simp only
      rw [addF_neg1 (by rfl) (by simp)]
      simp
  · rw [if_neg g]
    by_cases q : (sealF (addF ns ⟨1, 8, 0⟩).1 l.key l.seq (addF ns ⟨1, 8, 0⟩).2).2 < 0
    · simp [q]
    · simp [q]
theorem impl_LinkEnd_c (ns : List Nd) (l : Lk) (hl : ns.length ≤ 4294967296) : T 37 [aP ns, aL l] [] (.tup [.agg [pref 0 (linkEndF ns l).1], aL (linkEndF ns l).2.1, i6 (linkEndF ns l).2.2]) ([pblk (linkEndF ns l).1]) := by
  refine semT' (S := (fun f => [76, 77, 81, 86].contains f)) hm impl_LinkEnd_ok (Nat.le_of_ble_eq_true rfl) ?_
  unfold impl_LinkEnd; dsimp only
  have e0 : (l.over = true ∨ l.seq = 20 ∨ lkF ns l = false) → linkEndF ns l = (orE ns, l, -1) := by
    intro h
    unfold linkEndF
    by_cases hk : lkF ns l = true
    · have hp : poolF ns = true := by simp [lkF] at hk; exact hk.1
      rw [if_pos hk]
      simp only [closeF]
      rw [if_pos (by rcases h with h | h | h; exact .inl h; exact .inr h; rw [hk] at h; cases h)]
      simp [orE, hp]
    · rw [if_neg hk]
  simp
  refine br_intro' (fun h => ?_) (fun h => ?_) <;> simp [h]
  · rw [e0 (.inl h)]
    refine impl_orEmpty_k (ns := ns) hl rfl (by simp) (by simp [noslBlks]) ?_; simp [shiftB]
    first | (refine ck_intro' (by kernel_rfl) ?_; try simp) | skip
    first | (refine LeV.tell [none] ?_ ?_ ?_ <;> (simp [h]; done)) | (refine LeV.tell [some 0] ?_ ?_ ?_ <;> (simp [h]; done)) | (refine LeV.tell [some 1] ?_ ?_ ?_ <;> (simp [h]; done)) | (refine LeV.tell [some 2] ?_ ?_ ?_ <;> (simp [h]; done)) | (refine LeV.tell [some 3] ?_ ?_ ?_ <;> (simp [h]; done)) | (refine LeV.tell [some 4] ?_ ?_ ?_ <;> (simp [h]; done)) | (refine LeV.tell [some 5] ?_ ?_ ?_ <;> (simp [h]; done)) | (refine LeV.tell [some 6] ?_ ?_ ?_ <;> (simp [h]; done)) | (refine LeV.tell [some 7] ?_ ?_ ?_ <;> (simp [h]; done)) | (refine LeV.tell [some 8] ?_ ?_ ?_ <;> (simp [h]; done)) | (refine LeV.tell [some 9] ?_ ?_ ?_ <;> (simp [h]; done)) | (refine LeV.tell [some 10] ?_ ?_ ?_ <;> (simp [h]; done)) | (refine LeV.tell [some 11] ?_ ?_ ?_ <;> (simp [h]; done)) | (refine LeV.tell [some 12] ?_ ?_ ?_ <;> (simp [h]; done)) | (refine LeV.tell [some 13] ?_ ?_ ?_ <;> (simp [h]; done)) | (refine LeV.tell [some 14] ?_ ?_ ?_ <;> (simp [h]; done)) | (refine LeV.tell [some 15] ?_ ?_ ?_ <;> (simp [h]; done))
  refine br_intro' (fun h1 => ?_) (fun h1 => ?_) <;> simp at h1 <;> simp [h1]
  · rw [e0 (.inr (.inl h1))]
    refine impl_orEmpty_k (ns := ns) hl rfl (by simp) (by simp [noslBlks]) ?_; simp [shiftB]
    first | (refine ck_intro' (by kernel_rfl) ?_; try simp) | skip
    first | (refine LeV.tell [none] ?_ ?_ ?_ <;> (simp [h, h1]; done)) | (refine LeV.tell [some 0] ?_ ?_ ?_ <;> (simp [h, h1]; done)) | (refine LeV.tell [some 1] ?_ ?_ ?_ <;> (simp [h, h1]; done)) | (refine LeV.tell [some 2] ?_ ?_ ?_ <;> (simp [h, h1]; done)) | (refine LeV.tell [some 3] ?_ ?_ ?_ <;> (simp [h, h1]; done)) | (refine LeV.tell [some 4] ?_ ?_ ?_ <;> (simp [h, h1]; done)) | (refine LeV.tell [some 5] ?_ ?_ ?_ <;> (simp [h, h1]; done)) | (refine LeV.tell [some 6] ?_ ?_ ?_ <;> (simp [h, h1]; done)) | (refine LeV.tell [some 7] ?_ ?_ ?_ <;> (simp [h, h1]; done)) | (refine LeV.tell [some 8] ?_ ?_ ?_ <;> (simp [h, h1]; done)) | (refine LeV.tell [some 9] ?_ ?_ ?_ <;> (simp [h, h1]; done)) | (refine LeV.tell [some 10] ?_ ?_ ?_ <;> (simp [h, h1]; done)) | (refine LeV.tell [some 11] ?_ ?_ ?_ <;> (simp [h, h1]; done)) | (refine LeV.tell [some 12] ?_ ?_ ?_ <;> (simp [h, h1]; done)) | (refine LeV.tell [some 13] ?_ ?_ ?_ <;> (simp [h, h1]; done)) | (refine LeV.tell [some 14] ?_ ?_ ?_ <;> (simp [h, h1]; done)) | (refine LeV.tell [some 15] ?_ ?_ ?_ <;> (simp [h, h1]; done))
  refine impl_LinkOk_k (ns := ns) (l := l) (by omega) rfl (by simp [h]) (by simp) ?_; simp
  refine br_intro' (fun h2 => ?_) (fun h2 => ?_) <;> simp [h2]
  · refine impl_copyPool_k (ns := ns) hl rfl (by simp) (by simp [noslBlks]) ?_; simp [shiftB]
    have hp : poolF ns = true := by simp [lkF] at h2; exact h2.1
    have hl5 := poolF_len hp
    have hs1 : -9223372036854775808 ≤ 20 + l.seq := by simp [lkF, linkF, inF] at h2; omega
    have hs2 : 20 + l.seq < 9223372036854775808 := by simp [lkF, linkF, inF] at h2; omega
    have e1 : linkEndF ns l = if (endsF ns l.key l.seq).2 < 0 then (ns, l, -1) else ((endsF ns l.key l.seq).1, ⟨l.key, l.epoch, l.seq, true⟩, (endsF ns l.key l.seq).2) := by
      simp only [linkEndF, h2, if_true]
      exact closeF_eq hs1 hs2 h h1
    rw [e1]
    refine pool_call rfl 5 0 4 0 1 [pref 4 ns] ns (endsF ns l.key l.seq).1 ⟨by simp, by simp, by simp, by simp, by simp, by simp, ⟨[], by simp⟩⟩ (by simp [pset]) (impl_Link_end_m _ 5 0 4 0 1 [pref 4 ns] ns 1 0 1 l.key l.epoch l.seq false ⟨by simp, by simp, by simp, by simp, by simp, by simp, ⟨[], by simp⟩⟩ hl5 (by simp) (by simp) (by simp)) ?_
    simp [pset]
    have hl6 := endsF_len ns l.key l.seq hl5
    generalize endsF ns l.key l.seq = q at hl6 ⊢
    refine br_intro' (fun f => ?_) (fun f => ?_) <;> simp at f <;> simp [f]
    · refine impl_copyPool_k (ns := ns) hl rfl (by simp) (by simp [noslBlks]) ?_; simp [shiftB]
      first | (refine ck_intro' (by kernel_rfl) ?_; try simp) | skip
      first | (refine LeV.tell [none] ?_ ?_ ?_ <;> (simp [h, f]; done)) | (refine LeV.tell [some 0] ?_ ?_ ?_ <;> (simp [h, f]; done)) | (refine LeV.tell [some 1] ?_ ?_ ?_ <;> (simp [h, f]; done)) | (refine LeV.tell [some 2] ?_ ?_ ?_ <;> (simp [h, f]; done)) | (refine LeV.tell [some 3] ?_ ?_ ?_ <;> (simp [h, f]; done)) | (refine LeV.tell [some 4] ?_ ?_ ?_ <;> (simp [h, f]; done)) | (refine LeV.tell [some 5] ?_ ?_ ?_ <;> (simp [h, f]; done)) | (refine LeV.tell [some 6] ?_ ?_ ?_ <;> (simp [h, f]; done)) | (refine LeV.tell [some 7] ?_ ?_ ?_ <;> (simp [h, f]; done)) | (refine LeV.tell [some 8] ?_ ?_ ?_ <;> (simp [h, f]; done)) | (refine LeV.tell [some 9] ?_ ?_ ?_ <;> (simp [h, f]; done)) | (refine LeV.tell [some 10] ?_ ?_ ?_ <;> (simp [h, f]; done)) | (refine LeV.tell [some 11] ?_ ?_ ?_ <;> (simp [h, f]; done)) | (refine LeV.tell [some 12] ?_ ?_ ?_ <;> (simp [h, f]; done)) | (refine LeV.tell [some 13] ?_ ?_ ?_ <;> (simp [h, f]; done)) | (refine LeV.tell [some 14] ?_ ?_ ?_ <;> (simp [h, f]; done)) | (refine LeV.tell [some 15] ?_ ?_ ?_ <;> (simp [h, f]; done))
    · have f' : ¬ q.2 < 0 := by omega
      first | (refine ck_intro' (by kernel_rfl) ?_; try simp) | skip
      first | (refine LeV.tell [none] ?_ ?_ ?_ <;> (simp [f']; done)) | (refine LeV.tell [some 0] ?_ ?_ ?_ <;> (simp [f']; done)) | (refine LeV.tell [some 1] ?_ ?_ ?_ <;> (simp [f']; done)) | (refine LeV.tell [some 2] ?_ ?_ ?_ <;> (simp [f']; done)) | (refine LeV.tell [some 3] ?_ ?_ ?_ <;> (simp [f']; done)) | (refine LeV.tell [some 4] ?_ ?_ ?_ <;> (simp [f']; done)) | (refine LeV.tell [some 5] ?_ ?_ ?_ <;> (simp [f']; done)) | (refine LeV.tell [some 6] ?_ ?_ ?_ <;> (simp [f']; done)) | (refine LeV.tell [some 7] ?_ ?_ ?_ <;> (simp [f']; done)) | (refine LeV.tell [some 8] ?_ ?_ ?_ <;> (simp [f']; done)) | (refine LeV.tell [some 9] ?_ ?_ ?_ <;> (simp [f']; done)) | (refine LeV.tell [some 10] ?_ ?_ ?_ <;> (simp [f']; done)) | (refine LeV.tell [some 11] ?_ ?_ ?_ <;> (simp [f']; done)) | (refine LeV.tell [some 12] ?_ ?_ ?_ <;> (simp [f']; done)) | (refine LeV.tell [some 13] ?_ ?_ ?_ <;> (simp [f']; done)) | (refine LeV.tell [some 14] ?_ ?_ ?_ <;> (simp [f']; done)) | (refine LeV.tell [some 15] ?_ ?_ ?_ <;> (simp [f']; done))
  · rw [e0 (.inr (.inr h2))]
    refine impl_orEmpty_k (ns := ns) hl rfl (by simp) (by simp [noslBlks]) ?_; simp [shiftB]
    first | (refine ck_intro' (by kernel_rfl) ?_; try simp) | skip
    first | (refine LeV.tell [none] ?_ ?_ ?_ <;> (simp [h]; done)) | (refine LeV.tell [some 0] ?_ ?_ ?_ <;> (simp [h]; done)) | (refine LeV.tell [some 1] ?_ ?_ ?_ <;> (simp [h]; done)) | (refine LeV.tell [some 2] ?_ ?_ ?_ <;> (simp [h]; done)) | (refine LeV.tell [some 3] ?_ ?_ ?_ <;> (simp [h]; done)) | (refine LeV.tell [some 4] ?_ ?_ ?_ <;> (simp [h]; done)) | (refine LeV.tell [some 5] ?_ ?_ ?_ <;> (simp [h]; done)) | (refine LeV.tell [some 6] ?_ ?_ ?_ <;> (simp [h]; done)) | (refine LeV.tell [some 7] ?_ ?_ ?_ <;> (simp [h]; done)) | (refine LeV.tell [some 8] ?_ ?_ ?_ <;> (simp [h]; done)) | (refine LeV.tell [some 9] ?_ ?_ ?_ <;> (simp [h]; done)) | (refine LeV.tell [some 10] ?_ ?_ ?_ <;> (simp [h]; done)) | (refine LeV.tell [some 11] ?_ ?_ ?_ <;> (simp [h]; done)) | (refine LeV.tell [some 12] ?_ ?_ ?_ <;> (simp [h]; done)) | (refine LeV.tell [some 13] ?_ ?_ ?_ <;> (simp [h]; done)) | (refine LeV.tell [some 14] ?_ ?_ ?_ <;> (simp [h]; done)) | (refine LeV.tell [some 15] ?_ ?_ ?_ <;> (simp [h]; done))
theorem impl_LinkEnd_k {ns : List Nd} {l : Lk} (hl : ns.length ≤ 4294967296) {S : FuncId → Bool} {H : List Blk} {K : A → Dl → Prop} {zs : List A} (hS : S 37 = false) (hv : viewL (viewA 8 H) zs = some [aP ns, aL l]) (ho : noOwns zs = true ∨ nosl (.tup [.agg [pref 0 (linkEndF ns l).1], aL (linkEndF ns l).2.1, i6 (linkEndF ns l).2.2]) = true ∧ noslBlks ([pblk (linkEndF ns l).1]) = true) (hK : K (shiftA H.length (.tup [.agg [pref 0 (linkEndF ns l).1], aL (linkEndF ns l).2.1, i6 (linkEndF ns l).2.2])) (.news (([pblk (linkEndF ns l).1]).map (shiftB H.length)))) : @WCall' Go.Proofs.Try.prog S 37 zs H ⟨K⟩ :=
  WCall_ro' hS hv (impl_LinkEnd_c ns l hl) rfl ho hK
theorem orE_len (ns : List Nd) : (orE ns).length ≤ ns.length := by unfold orE; split <;> simp
end Go.Proofs.Ytnbodfakblbmbaa.C

set_option linter.unusedVariables false
set_option linter.unusedSimpArgs false
namespace Go.Proofs.Ytnbodfakblbmbaa.C
open Go.Sym Go.Proofs.Ytnbodfakblbmbaa.I
def nodeAt (ns : List Nd) (t : Int) : Nd := ns.getD t.toNat ⟨0, 0, 0⟩
theorem nodeAt_nat {ns : List Nd} {j : Nat} (h : j < ns.length) : nodeAt ns j = ns[j] := by simp [nodeAt, h]
/-- The parts of a node of a right pool stand before it. -/
theorem parts_in {ns : List Nd} (hp : poolF ns = true) {j : Nat} (h : j < ns.length) (hk : partsF ns[j].k = 2) : (∃ a : Nat, ns[j].a = a ∧ a < j) ∧ ∃ b : Nat, ns[j].b = b ∧ b < j := by
  have := (okFrom_all hp h).1
  simp [rightF, hk, inF] at this
  exact ⟨⟨ns[j].a.toNat, by omega, by omega⟩, ns[j].b.toNat, by omega, by omega⟩
theorem part_in {ns : List Nd} (hp : poolF ns = true) {j : Nat} (h : j < ns.length) (hk : partsF ns[j].k = 1) : ∃ a : Nat, ns[j].a = a ∧ a < j := by
  have := (okFrom_all hp h).1
  simp [rightF, hk, inF] at this
  exact ⟨ns[j].a.toNat, by omega, by omega⟩
theorem parts_kind {ns : List Nd} (hp : poolF ns = true) {j : Nat} (h : j < ns.length) : partsF ns[j].k = 0 ∨ partsF ns[j].k = 1 ∨ partsF ns[j].k = 2 := by
  have := (okFrom_all hp h).1
  unfold rightF at this
  split at this
  · exact .inl ‹_›
  · split at this
    · exact .inr (.inl ‹_›)
    · split at this
      · exact .inr (.inr ‹_›)
      · cases this
theorem hasF_of {m j : Nat} (h : j < m) : hasF m j = true := by simp [hasF, inF]; omega
theorem hasN {m : Nat} {t : Int} (h : hasF m t = true) : ∃ j : Nat, t = j ∧ j < m := by
  simp [hasF, inF] at h
  exact ⟨t.toNat, by omega, by omega⟩
abbrev jblk (xs : List Int) : Blk := ⟨xs.length, decide (xs.length = 0), 1, ints xs, none⟩
abbrev jref (b : Nat) (xs : List Int) : A := .ref b xs.length 0 xs.length
@[simp] theorem ints_take' (xs : List Int) : (ints xs).take xs.length = ints xs := List.take_of_length_le (by simp)
@[simp] theorem ints_tells' (H H' : List Blk) (g : List (Option Nat)) (xs : List Int) : Tells H H' g (ints xs) (ints xs) := Tells_scals _ (ints_scals xs)
@[simp] theorem ints_one (xs : List Int) : (ints xs).all A.one = true := one_scals _ (ints_scals xs)
@[simp] theorem ints_inAs (m : Nat) (xs : List Int) : inAs m (ints xs) = true := inAs_scals _ (ints_scals xs)
@[simp] theorem ints_nil : ints [] = [] := rfl
theorem ints_snoc (xs : List Int) (x : Int) : ints (xs ++ [x]) = ints xs ++ [i6 x] := by simp [ints]
/-- The parts of a node. -/
def partsL (n : Nd) : List Int := if partsF n.k = 1 then [n.a] else if partsF n.k = 2 then [n.a, n.b] else []
theorem impl_Pool_parts_c (ns : List Nd) (r : List A) (t : Int) (hl : ns.length < 9223372036854775807) (ht : hasF ns.length t = true) : T 95 [.pt (.sl ns.length (enc ns) :: r), i6 t] [] (jref 0 (partsL (nodeAt ns t))) ([jblk (partsL (nodeAt ns t))]) := by
  refine semT' (S := S0) hm impl_Pool_parts_ok (Nat.le_of_ble_eq_true rfl) ?_
  unfold impl_Pool_parts; dsimp only
  obtain ⟨j, rfl, hj⟩ := hasN ht
  obtain ⟨q, hr⟩ := enc_at hj
  have h3 : 3 ≤ ns.length * 3 - j * 3 := by omega
  rw [nodeAt_nat hj]
  simp [h3, hr, hj]
  refine impl_count_call rfl ?_; simp
  refine br_intro' (fun h => ?_) (fun h => ?_) <;> simp at h <;> simp [h]
  · rw [show partsL ns[j] = [ns[j].a] from if_pos h]
    first | (refine LeV.tell [none] ?_ ?_ ?_ <;> (simp [ints]; done)) | (refine LeV.tell [some 0] ?_ ?_ ?_ <;> (simp [ints]; done)) | (refine LeV.tell [some 1] ?_ ?_ ?_ <;> (simp [ints]; done)) | (refine LeV.tell [some 2] ?_ ?_ ?_ <;> (simp [ints]; done)) | (refine LeV.tell [some 3] ?_ ?_ ?_ <;> (simp [ints]; done)) | (refine LeV.tell [some 4] ?_ ?_ ?_ <;> (simp [ints]; done)) | (refine LeV.tell [some 5] ?_ ?_ ?_ <;> (simp [ints]; done)) | (refine LeV.tell [some 6] ?_ ?_ ?_ <;> (simp [ints]; done)) | (refine LeV.tell [some 7] ?_ ?_ ?_ <;> (simp [ints]; done)) | (refine LeV.tell [some 8] ?_ ?_ ?_ <;> (simp [ints]; done)) | (refine LeV.tell [some 9] ?_ ?_ ?_ <;> (simp [ints]; done)) | (refine LeV.tell [some 10] ?_ ?_ ?_ <;> (simp [ints]; done)) | (refine LeV.tell [some 11] ?_ ?_ ?_ <;> (simp [ints]; done)) | (refine LeV.tell [some 12] ?_ ?_ ?_ <;> (simp [ints]; done)) | (refine LeV.tell [some 13] ?_ ?_ ?_ <;> (simp [ints]; done)) | (refine LeV.tell [some 14] ?_ ?_ ?_ <;> (simp [ints]; done)) | (refine LeV.tell [some 15] ?_ ?_ ?_ <;> (simp [ints]; done))
  refine br_intro' (fun h1 => ?_) (fun h1 => ?_) <;> simp at h1 <;> simp [h1]
  · rw [show partsL ns[j] = [ns[j].a, ns[j].b] by simp [partsL, h, h1]]
    first | (refine LeV.tell [none] ?_ ?_ ?_ <;> (simp [ints]; done)) | (refine LeV.tell [some 0] ?_ ?_ ?_ <;> (simp [ints]; done)) | (refine LeV.tell [some 1] ?_ ?_ ?_ <;> (simp [ints]; done)) | (refine LeV.tell [some 2] ?_ ?_ ?_ <;> (simp [ints]; done)) | (refine LeV.tell [some 3] ?_ ?_ ?_ <;> (simp [ints]; done)) | (refine LeV.tell [some 4] ?_ ?_ ?_ <;> (simp [ints]; done)) | (refine LeV.tell [some 5] ?_ ?_ ?_ <;> (simp [ints]; done)) | (refine LeV.tell [some 6] ?_ ?_ ?_ <;> (simp [ints]; done)) | (refine LeV.tell [some 7] ?_ ?_ ?_ <;> (simp [ints]; done)) | (refine LeV.tell [some 8] ?_ ?_ ?_ <;> (simp [ints]; done)) | (refine LeV.tell [some 9] ?_ ?_ ?_ <;> (simp [ints]; done)) | (refine LeV.tell [some 10] ?_ ?_ ?_ <;> (simp [ints]; done)) | (refine LeV.tell [some 11] ?_ ?_ ?_ <;> (simp [ints]; done)) | (refine LeV.tell [some 12] ?_ ?_ ?_ <;> (simp [ints]; done)) | (refine LeV.tell [some 13] ?_ ?_ ?_ <;> (simp [ints]; done)) | (refine LeV.tell [some 14] ?_ ?_ ?_ <;> (simp [ints]; done)) | (refine LeV.tell [some 15] ?_ ?_ ?_ <;> (simp [ints]; done))
  · rw [show partsL ns[j] = [] by simp [partsL, h, h1]]
    first | (refine LeV.tell [none] ?_ ?_ ?_ <;> (simp [ints]; done)) | (refine LeV.tell [some 0] ?_ ?_ ?_ <;> (simp [ints]; done)) | (refine LeV.tell [some 1] ?_ ?_ ?_ <;> (simp [ints]; done)) | (refine LeV.tell [some 2] ?_ ?_ ?_ <;> (simp [ints]; done)) | (refine LeV.tell [some 3] ?_ ?_ ?_ <;> (simp [ints]; done)) | (refine LeV.tell [some 4] ?_ ?_ ?_ <;> (simp [ints]; done)) | (refine LeV.tell [some 5] ?_ ?_ ?_ <;> (simp [ints]; done)) | (refine LeV.tell [some 6] ?_ ?_ ?_ <;> (simp [ints]; done)) | (refine LeV.tell [some 7] ?_ ?_ ?_ <;> (simp [ints]; done)) | (refine LeV.tell [some 8] ?_ ?_ ?_ <;> (simp [ints]; done)) | (refine LeV.tell [some 9] ?_ ?_ ?_ <;> (simp [ints]; done)) | (refine LeV.tell [some 10] ?_ ?_ ?_ <;> (simp [ints]; done)) | (refine LeV.tell [some 11] ?_ ?_ ?_ <;> (simp [ints]; done)) | (refine LeV.tell [some 12] ?_ ?_ ?_ <;> (simp [ints]; done)) | (refine LeV.tell [some 13] ?_ ?_ ?_ <;> (simp [ints]; done)) | (refine LeV.tell [some 14] ?_ ?_ ?_ <;> (simp [ints]; done)) | (refine LeV.tell [some 15] ?_ ?_ ?_ <;> (simp [ints]; done))
theorem impl_Pool_parts_k {ns : List Nd} {r : List A} {t : Int} (hl : ns.length < 9223372036854775807) (ht : hasF ns.length t = true) {S : FuncId → Bool} {H : List Blk} {K : A → Dl → Prop} {zs : List A} (hS : S 95 = false) (hv : viewL (viewA 8 H) zs = some [.pt (.sl ns.length (enc ns) :: r), i6 t]) (ho : noOwns zs = true ∨ nosl (jref 0 (partsL (nodeAt ns t))) = true ∧ noslBlks ([jblk (partsL (nodeAt ns t))]) = true) (hK : K (shiftA H.length (jref 0 (partsL (nodeAt ns t)))) (.news (([jblk (partsL (nodeAt ns t))]).map (shiftB H.length)))) : @WCall' Go.Proofs.Try.prog S 95 zs H ⟨K⟩ :=
  WCall_ro' hS hv (impl_Pool_parts_c ns r t hl ht) rfl ho hK
/-- Looking for a number. -/
def idxF : List Int → Int → Int → Int
  | [], _, _ => -1
  | x :: xs, t, i => if x = t then i else idxF xs t (i + 1)
theorem idxF_neg (t : Int) : ∀ (xs : List Int) (i : Int), 0 ≤ i → (0 ≤ idxF xs t i ↔ t ∈ xs)
  | [], i, _ => by simp [idxF]
  | x :: xs, i, hi => by
    unfold idxF
    by_cases e : x = t
    · rw [if_pos e]; simp [e, hi]
    · rw [if_neg e, idxF_neg t xs (i + 1) (by omega)]
      simp only [List.mem_cons]
      exact ⟨.inr, fun h => h.resolve_left fun q => e q.symm⟩
def hasK (ks : List Int) (t : Int) : Bool := decide (t ∈ ks)
theorem spec_KnowHas_c (ks : List Int) (t : Int) (hl : ks.length < 9223372036854775807) : T 126 [aI ks, i6 t] [] (.bool (hasK ks t)) ([]) := by
  refine semT' (S := S0) hm spec_KnowHas_ok (Nat.le_of_ble_eq_true rfl) ?_
  unfold spec_KnowHas; dsimp only
  have hk := idxF_neg t ks 0 (Int.le_refl 0)
  simp
  refine WLoop_fam (fun j : Nat => [(0, aI ks), (1, i6 t), (5, i6 j)]) (fun _ => []) (fun j => ks.length - j)
    (fun j => j ≤ ks.length ∧ idxF ks t 0 = idxF (ks.drop j) t j) ?_ 0 ⟨Nat.zero_le _, rfl⟩
  intro j ⟨hj, hf⟩ ih
  simp
  refine br_intro' (fun h => ?_) (fun h => ?_) <;> (have h0 := h) <;> (try simp at h) <;> try simp [h0, h]
  · have hd : ks.drop j = ks[j] :: ks.drop (j + 1) := List.drop_eq_getElem_cons h
    have hw : IntKind.i64.wrap ((j : Int) + 1) = j + 1 := wrap64 (by omega) (by omega)
    have h' := h
    try simp [h']
    refine br_intro' (fun g => ?_) (fun g => ?_) <;> (try simp at g) <;> (try simp [g])
    · have e : ks[j] = t := by first | exact g | exact g.symm
      have hi : idxF ks t 0 = j := by rw [hf, hd, idxF, if_pos e]
      exact LeV.ro rfl rfl (by subst e; simp [hasK])
    · have e : ¬ ks[j] = t := fun q => by first | exact g q | exact g q.symm
      rw [hw]
      refine ih (j + 1) ⟨h', ?_⟩ (by omega)
      rw [hf, hd, idxF, if_neg e]
      rfl
  · have hi : idxF ks t 0 = -1 := by rw [hf, List.drop_of_length_le h]; rfl
    exact LeV.ro rfl rfl (by rw [hi] at hk; simp [hasK]; exact fun q => by have := hk.2 q; omega)
theorem spec_KnowHas_call {ks : List Int} {t : Int} (hl : ks.length < 9223372036854775807) {S : FuncId → Bool} {H : List Blk} {K : A → Dl → Prop} (hS : S 126 = false) (hK : K (.bool (hasK ks t)) (.news [])) : @WCall' Go.Proofs.Try.prog S 126 [aI ks, i6 t] H ⟨K⟩ :=
  WCall_pure hS (spec_KnowHas_c ks t hl) (by simp) (by simp) (by simp) hK
theorem spec_KnowHas_k {ks : List Int} {t : Int} (hl : ks.length < 9223372036854775807) {S : FuncId → Bool} {H : List Blk} {K : A → Dl → Prop} {zs : List A} (hS : S 126 = false) (hv : viewL (viewA 8 H) zs = some [aI ks, i6 t]) (ho : noOwns zs = true ∨ nosl (.bool (hasK ks t)) = true) (hK : K (.bool (hasK ks t)) (.news [])) : @WCall' Go.Proofs.Try.prog S 126 zs H ⟨K⟩ :=
  WCall_pure hS (spec_KnowHas_c ks t hl) hv ho (by simp) hK
def pubF (x : Int) : Bool := inF x 0 49
theorem kpF_pool {ns : List Nd} {ks : List Int} (h : kpF ns ks = true) : poolF ns = true := by simp [kpF] at h; exact h.1
end Go.Proofs.Ytnbodfakblbmbaa.C

set_option linter.unusedVariables false
set_option linter.unusedSimpArgs false
namespace Go.Proofs.Ytnbodfakblbmbaa.C
open Go.Sym Go.Proofs.Ytnbodfakblbmbaa.I
theorem slices_Clone_int_c (xs : List Int) (hl : xs.length ≤ 4294967296) : T 122 [aI xs] [] (jref 0 xs) ([jblk xs]) := by
  refine semT' (S := S0) hm slices_Clone_int_ok (Nat.le_of_ble_eq_true rfl) ?_
  unfold slices_Clone_int; dsimp only
  simp
  have h1 : ((xs.length : Int)) * 8 ≤ 17592186044416 := by omega
  have h2 : (xs.length : Int) ≤ 4294967296 := by omega
  refine br_intro' (fun h => ?_) (fun h => ?_)
  · have h0 : xs = [] := by simpa using h
    subst h0
    simp
    first | (refine LeV.tell [none] ?_ ?_ ?_ <;> (simp; done)) | (refine LeV.tell [some 0] ?_ ?_ ?_ <;> (simp; done)) | (refine LeV.tell [some 1] ?_ ?_ ?_ <;> (simp; done)) | (refine LeV.tell [some 2] ?_ ?_ ?_ <;> (simp; done)) | (refine LeV.tell [some 3] ?_ ?_ ?_ <;> (simp; done)) | (refine LeV.tell [some 4] ?_ ?_ ?_ <;> (simp; done)) | (refine LeV.tell [some 5] ?_ ?_ ?_ <;> (simp; done)) | (refine LeV.tell [some 6] ?_ ?_ ?_ <;> (simp; done)) | (refine LeV.tell [some 7] ?_ ?_ ?_ <;> (simp; done)) | (refine LeV.tell [some 8] ?_ ?_ ?_ <;> (simp; done)) | (refine LeV.tell [some 9] ?_ ?_ ?_ <;> (simp; done)) | (refine LeV.tell [some 10] ?_ ?_ ?_ <;> (simp; done)) | (refine LeV.tell [some 11] ?_ ?_ ?_ <;> (simp; done)) | (refine LeV.tell [some 12] ?_ ?_ ?_ <;> (simp; done)) | (refine LeV.tell [some 13] ?_ ?_ ?_ <;> (simp; done)) | (refine LeV.tell [some 14] ?_ ?_ ?_ <;> (simp; done)) | (refine LeV.tell [some 15] ?_ ?_ ?_ <;> (simp; done))
  · have h0 : xs ≠ [] := by simpa using h
    simp [h0]
    refine ck_intro' (by omega) ?_; simp [h0]
    first | (refine LeV.tell [none] ?_ ?_ ?_ <;> (simp [h0]; done)) | (refine LeV.tell [some 0] ?_ ?_ ?_ <;> (simp [h0]; done)) | (refine LeV.tell [some 1] ?_ ?_ ?_ <;> (simp [h0]; done)) | (refine LeV.tell [some 2] ?_ ?_ ?_ <;> (simp [h0]; done)) | (refine LeV.tell [some 3] ?_ ?_ ?_ <;> (simp [h0]; done)) | (refine LeV.tell [some 4] ?_ ?_ ?_ <;> (simp [h0]; done)) | (refine LeV.tell [some 5] ?_ ?_ ?_ <;> (simp [h0]; done)) | (refine LeV.tell [some 6] ?_ ?_ ?_ <;> (simp [h0]; done)) | (refine LeV.tell [some 7] ?_ ?_ ?_ <;> (simp [h0]; done)) | (refine LeV.tell [some 8] ?_ ?_ ?_ <;> (simp [h0]; done)) | (refine LeV.tell [some 9] ?_ ?_ ?_ <;> (simp [h0]; done)) | (refine LeV.tell [some 10] ?_ ?_ ?_ <;> (simp [h0]; done)) | (refine LeV.tell [some 11] ?_ ?_ ?_ <;> (simp [h0]; done)) | (refine LeV.tell [some 12] ?_ ?_ ?_ <;> (simp [h0]; done)) | (refine LeV.tell [some 13] ?_ ?_ ?_ <;> (simp [h0]; done)) | (refine LeV.tell [some 14] ?_ ?_ ?_ <;> (simp [h0]; done)) | (refine LeV.tell [some 15] ?_ ?_ ?_ <;> (simp [h0]; done))
theorem slices_Clone_int_k {xs : List Int} (hl : xs.length ≤ 4294967296) {S : FuncId → Bool} {H : List Blk} {K : A → Dl → Prop} {zs : List A} (hS : S 122 = false) (hv : viewL (viewA 8 H) zs = some [aI xs]) (ho : noOwns zs = true ∨ nosl (jref 0 xs) = true ∧ noslBlks ([jblk xs]) = true) (hK : K (shiftA H.length (jref 0 xs)) (.news (([jblk xs]).map (shiftB H.length)))) : @WCall' Go.Proofs.Try.prog S 122 zs H ⟨K⟩ :=
  WCall_ro' hS hv (slices_Clone_int_c xs hl) rfl ho hK
structure St.mid (s : St) : Prop where
  p : s.pool.length ≤ 4294967296
  k : s.know.length ≤ 4294967296
  t : s.sent.length ≤ 4294967296
  g : s.got.length ≤ 4294967296
abbrev cT (s : St) : List A := [pref 0 s.pool, jref 1 s.know, i6 s.out.key, i6 s.out.epoch, i6 s.out.seq, .bool s.out.over, i6 s.inn.key, i6 s.inn.epoch, i6 s.inn.seq, .bool s.inn.over, jref 2 s.sent, jref 3 s.got]
abbrev aT (s : St) : A := .agg (cT s)
abbrev bT (s : St) : List Blk := [pblk s.pool, jblk s.know, jblk s.sent, jblk s.got]
theorem impl_copyStream_c (s : St) (hs : s.mid) : T 88 [aS s] [] (aT s) (bT s) := by
  refine semT' (S := S0) hm impl_copyStream_ok (Nat.le_of_ble_eq_true rfl) ?_
  unfold impl_copyStream; dsimp only
  simp
  refine impl_copyPool_k (ns := s.pool) hs.p rfl (by simp) (by simp [noslBlks]) ?_; simp [shiftB]
  refine slices_Clone_int_k (xs := s.know) hs.k rfl (by simp) (by simp [noslBlks]) ?_; simp [shiftB]
  refine slices_Clone_int_k (xs := s.sent) hs.t rfl (by simp) (by simp [noslBlks]) ?_; simp [shiftB]
  refine slices_Clone_int_k (xs := s.got) hs.g rfl (by simp) (by simp [noslBlks]) ?_; simp [shiftB]
  exact LeV.tell [some 2, some 3, some 4, some 5] (by simp) (by simp) (by simp)
theorem impl_copyStream_k {s : St} (hs : s.mid) {S : FuncId → Bool} {H : List Blk} {K : A → Dl → Prop} {zs : List A} (hS : S 88 = false) (hv : viewL (viewA 8 H) zs = some [aS s]) (ho : noOwns zs = true ∨ nosl (aT s) = true ∧ noslBlks (bT s) = true) (hK : K (shiftA H.length (aT s)) (.news ((bT s).map (shiftB H.length)))) : @WCall' Go.Proofs.Try.prog S 88 zs H ⟨K⟩ :=
  WCall_ro' hS hv (impl_copyStream_c s hs) rfl ho hK
theorem spec_l19Copy_c (s : St) (hs : s.mid) : T 89 [aS s] [] (aT s) (bT s) := by
  refine semT' (S := S0) hm spec_l19Copy_ok (Nat.le_of_ble_eq_true rfl) ?_
  unfold spec_l19Copy; dsimp only
  obtain ⟨p, ks, o, i, ts, gs⟩ := s
  obtain ⟨h1, h2, h3, h4⟩ := hs
  simp only at h1 h2 h3 h4
  simp
  refine spec_l1Copy_k (ns := p) h1 rfl (by simp) (by simp [noslBlks]) ?_; simp [shiftB]
  by_cases k0 : ks = [] <;> by_cases t0 : ts = [] <;> by_cases g0 : gs = [] <;> (try simp [k0, t0, g0]) <;>
    repeat (first | (refine ck_intro' (by omega) ?_; try simp [k0, t0, g0]) | (refine ck_intro' (by kernel_rfl) ?_; try simp [k0, t0, g0]))
  all_goals first | (refine LeV.tell [some 2, none, none, none] ?_ ?_ ?_ <;> (simp [k0, t0, g0]; done)) | (refine LeV.tell [some 2, none, none, some 3] ?_ ?_ ?_ <;> (simp [k0, t0, g0]; done)) | (refine LeV.tell [some 2, none, some 3, none] ?_ ?_ ?_ <;> (simp [k0, t0, g0]; done)) | (refine LeV.tell [some 2, none, some 3, some 4] ?_ ?_ ?_ <;> (simp [k0, t0, g0]; done)) | (refine LeV.tell [some 2, some 3, none, none] ?_ ?_ ?_ <;> (simp [k0, t0, g0]; done)) | (refine LeV.tell [some 2, some 3, none, some 4] ?_ ?_ ?_ <;> (simp [k0, t0, g0]; done)) | (refine LeV.tell [some 2, some 3, some 4, none] ?_ ?_ ?_ <;> (simp [k0, t0, g0]; done)) | (refine LeV.tell [some 2, some 3, some 4, some 5] ?_ ?_ ?_ <;> (simp [k0, t0, g0]; done))
theorem spec_l19Copy_k {s : St} (hs : s.mid) {S : FuncId → Bool} {H : List Blk} {K : A → Dl → Prop} {zs : List A} (hS : S 89 = false) (hv : viewL (viewA 8 H) zs = some [aS s]) (ho : noOwns zs = true ∨ nosl (aT s) = true ∧ noslBlks (bT s) = true) (hK : K (shiftA H.length (aT s)) (.news ((bT s).map (shiftB H.length)))) : @WCall' Go.Proofs.Try.prog S 89 zs H ⟨K⟩ :=
  WCall_ro' hS hv (spec_l19Copy_c s hs) rfl ho hK
def noLk : Lk := ⟨0, 0, 0, false⟩
/-- The stream that StreamNew looks at. -/
def newS (ns : List Nd) (ks : List Int) (key : Int) : St := ⟨ns, ks, ⟨key, 0, 0, false⟩, ⟨key, 0, 0, false⟩, [], []⟩
def noS : St := ⟨[], [], noLk, noLk, [], []⟩
/-- What StreamNew answers. -/
def streamNewF (ns : List Nd) (ks : List Int) (key : Int) : St × Bool := if streamF (newS ns ks key) then (newS ns ks key, true) else (noS, false)
theorem spec_StreamNew_c (ns : List Nd) (ks : List Int) (key : Int) (h1 : ns.length ≤ 4294967296) (h2 : ks.length ≤ 4294967296) : T 40 [aP ns, aI ks, i6 key] [] (.tup [aT (streamNewF ns ks key).1, .bool (streamNewF ns ks key).2]) (bT (streamNewF ns ks key).1) := by
  refine semT' (S := S0) hm spec_StreamNew_ok (Nat.le_of_ble_eq_true rfl) ?_
  unfold spec_StreamNew; dsimp only
  have hs : (newS ns ks key).fit := ⟨by simp [newS]; omega, by simp [newS]; omega, by simp [newS], by simp [newS]⟩
  have hm : (newS ns ks key).mid := ⟨by simpa [newS] using h1, by simpa [newS] using h2, by simp [newS], by simp [newS]⟩
  simp
  first | (refine ck_intro' (by kernel_rfl) ?_; try simp) | skip
  refine spec_StreamOk_k (s := newS ns ks key) hs rfl (by simp [newS]) (by simp) ?_; simp
  refine br_intro' (fun g => ?_) (fun g => ?_) <;> simp [g]
  · have e : streamNewF ns ks key = (newS ns ks key, true) := by simp [streamNewF, g]
    rw [e]
    refine spec_l19Copy_k (s := newS ns ks key) hm rfl (by simp [newS]) (by simp [noslBlks]) ?_; simp [shiftB]
    first | (refine ck_intro' (by kernel_rfl) ?_; try simp) | skip
    exact LeV.tell [some 3, some 4, some 5, some 6] (by simp) (by simp) (by simp)
  · have e : streamNewF ns ks key = (noS, false) := by simp [streamNewF, g]
    rw [e]
    exact LeV.tell [none, none, none, none] (by simp) (by simp [noS]) (by simp [noS, noLk])
theorem spec_StreamNew_k {ns : List Nd} {ks : List Int} {key : Int} (h1 : ns.length ≤ 4294967296) (h2 : ks.length ≤ 4294967296) {S : FuncId → Bool} {H : List Blk} {K : A → Dl → Prop} {zs : List A} (hS : S 40 = false) (hv : viewL (viewA 8 H) zs = some [aP ns, aI ks, i6 key]) (ho : noOwns zs = true ∨ nosl (.tup [aT (streamNewF ns ks key).1, .bool (streamNewF ns ks key).2]) = true ∧ noslBlks (bT (streamNewF ns ks key).1) = true) (hK : K (shiftA H.length (.tup [aT (streamNewF ns ks key).1, .bool (streamNewF ns ks key).2])) (.news ((bT (streamNewF ns ks key).1).map (shiftB H.length)))) : @WCall' Go.Proofs.Try.prog S 40 zs H ⟨K⟩ :=
  WCall_ro' hS hv (spec_StreamNew_c ns ks key h1 h2) rfl ho hK
theorem impl_StreamNew_c (ns : List Nd) (ks : List Int) (key : Int) (h1 : ns.length ≤ 4294967296) (h2 : ks.length ≤ 4294967296) : T 39 [aP ns, aI ks, i6 key] [] (.tup [aT (streamNewF ns ks key).1, .bool (streamNewF ns ks key).2]) (bT (streamNewF ns ks key).1) := by
  refine semT' (S := S0) hm impl_StreamNew_ok (Nat.le_of_ble_eq_true rfl) ?_
  unfold impl_StreamNew; dsimp only
  have hs : (newS ns ks key).fit := ⟨by simp [newS]; omega, by simp [newS]; omega, by simp [newS], by simp [newS]⟩
  have hm : (newS ns ks key).mid := ⟨by simpa [newS] using h1, by simpa [newS] using h2, by simp [newS], by simp [newS]⟩
  simp
  first | (refine ck_intro' (by kernel_rfl) ?_; try simp) | skip
  refine impl_StreamOk_k (s := newS ns ks key) hs rfl (by simp [newS]) (by simp) ?_; simp
  refine br_intro' (fun g => ?_) (fun g => ?_) <;> simp [g]
  · have e : streamNewF ns ks key = (newS ns ks key, true) := by simp [streamNewF, g]
    rw [e]
    refine impl_copyStream_k (s := newS ns ks key) hm rfl (by simp [newS]) (by simp [noslBlks]) ?_; simp [shiftB]
    first | (refine ck_intro' (by kernel_rfl) ?_; try simp) | skip
    first | exact LeV.tell [some 4, some 5, some 6, some 7] (by simp) (by simp) (by simp) | exact LeV.tell [some 3, some 4, some 5, some 6] (by simp) (by simp) (by simp)
  · have e : streamNewF ns ks key = (noS, false) := by simp [streamNewF, g]
    rw [e]
    first | (refine ck_intro' (by kernel_rfl) ?_; try simp) | skip
    exact LeV.tell [none, none, none, none] (by simp) (by simp [noS]) (by simp [noS, noLk])
theorem impl_StreamNew_k {ns : List Nd} {ks : List Int} {key : Int} (h1 : ns.length ≤ 4294967296) (h2 : ks.length ≤ 4294967296) {S : FuncId → Bool} {H : List Blk} {K : A → Dl → Prop} {zs : List A} (hS : S 39 = false) (hv : viewL (viewA 8 H) zs = some [aP ns, aI ks, i6 key]) (ho : noOwns zs = true ∨ nosl (.tup [aT (streamNewF ns ks key).1, .bool (streamNewF ns ks key).2]) = true ∧ noslBlks (bT (streamNewF ns ks key).1) = true) (hK : K (shiftA H.length (.tup [aT (streamNewF ns ks key).1, .bool (streamNewF ns ks key).2])) (.news ((bT (streamNewF ns ks key).1).map (shiftB H.length)))) : @WCall' Go.Proofs.Try.prog S 39 zs H ⟨K⟩ :=
  WCall_ro' hS hv (impl_StreamNew_c ns ks key h1 h2) rfl ho hK
end Go.Proofs.Ytnbodfakblbmbaa.C

set_option linter.unusedVariables false
set_option linter.unusedSimpArgs false
namespace Go.Proofs.Ytnbodfakblbmbaa.C
open Go.Sym Go.Proofs.Ytnbodfakblbmbaa.I
def In64' (n : Int) : Prop := -9223372036854775808 ≤ n ∧ n < 9223372036854775808
def bytes (bs : List Int) : List A := bs.map fun n => .int .u8 n
@[simp] theorem bytes_len (xs : List Int) : (bytes xs).length = xs.length := List.length_map ..
@[simp] theorem bytes_scals (xs : List Int) : scals (bytes xs) = true := scals_map _ (fun _ => rfl) xs
@[simp] theorem bytes_view (n : Nat) (H : List Blk) (xs : List Int) : viewL (viewA (n + 1) H) (bytes xs) = some (bytes xs) := viewL_scals _ (bytes_scals xs)
@[simp] theorem bytes_noOwns (xs : List Int) : noOwns (bytes xs) = true := noOwns_scals _ (bytes_scals xs)
@[simp] theorem bytes_shift (n : Nat) (xs : List Int) : shiftAs n (bytes xs) = bytes xs := shiftAs_scals _ (bytes_scals xs)
@[simp] theorem bytes_tells (H H' : List Blk) (g : List (Option Nat)) (xs : List Int) : Tells H H' g (bytes xs) (bytes xs) := Tells_scals _ (bytes_scals xs)
@[simp] theorem bytes_inAs (m : Nat) (xs : List Int) : inAs m (bytes xs) = true := inAs_scals _ (bytes_scals xs)
@[simp] theorem bytes_get (xs : List Int) (j : Nat) (h : j < (bytes xs).length) : (bytes xs)[j] = .int .u8 (xs[j]'(by simpa using h)) := by simp [bytes]
abbrev aB (bs : List Int) : A := .sl bs.length (bytes bs)
/-- A cursor: how far it is, and its number. -/
structure Cu where
  i : Nat
  h : Int
def cur (H : List Blk) (cb : Nat) (bs : List Int) (s : Cu) : List Blk := H.set cb ⟨0, false, 1, [aB bs, i6 s.i, i6 s.h], none⟩
@[simp] theorem cur_len (H : List Blk) (cb : Nat) (bs : List Int) (s : Cu) : (cur H cb bs s).length = H.length := by simp [cur]
@[simp] theorem cur_cur (H : List Blk) (cb : Nat) (bs : List Int) (s s' : Cu) : cur (cur H cb bs s) cb bs s' = cur H cb bs s' := by simp [cur]
theorem cur_app {H T : List Blk} {cb : Nat} (h : cb < H.length) (bs : List Int) (s : Cu) : cur (H ++ T) cb bs s = cur H cb bs s ++ T := set_left h _
theorem cur_at {H : List Blk} {cb : Nat} (h : cb < H.length) (bs : List Int) (s : Cu) : (cur H cb bs s)[cb]? = some ⟨0, false, 1, [aB bs, i6 s.i, i6 s.h], none⟩ := by simp [cur, h]
theorem cur_call {f : FuncId} {S : FuncId → Bool} {G : List Blk} {K : A → Dl → Prop} (hS : S f = true) (cb : Nat) (bs : List Int) (s s' : Cu) {zs : List A} {r : A} (hG : cur G cb bs s = G)
    (hf : T f zs (cur G cb bs s) r (cur G cb bs s')) (hK : K r (.full [cb] (cur G cb bs s'))) : @WCall' Go.Proofs.Try.prog S f zs G ⟨K⟩ := by
  rw [hG] at hf
  refine WCall_t' hS [cb] hf (by simp) (fun q hq _ => ?_) hK
  simp at hq
  exact List.getElem?_set_ne (Ne.symm hq)
@[simp] theorem cur_set (H : List Blk) (cb : Nat) (bs : List Int) (s : Cu) (i : Nat) (h : Int) : (cur H cb bs s).set cb ⟨0, false, 1, [aB bs, i6 i, i6 h], none⟩ = cur H cb bs ⟨i, h⟩ := by simp [cur]
@[simp] theorem cur_set1 (H : List Blk) (cb : Nat) (bs : List Int) (s : Cu) (i : Nat) (h : Int) : (cur H cb bs s).set cb ⟨0, false, 1, [aB bs, i6 ((i : Int) + 1), i6 h], none⟩ = cur H cb bs ⟨i + 1, h⟩ := by simp [cur]
def and255 (x : Int) : Int := IntKind.i64.wrap ((x % 2 ^ IntKind.i64.bits).toNat &&& 255 % 2 ^ IntKind.i64.bits : Nat)
theorem and255_in (x : Int) : 0 ≤ and255 x ∧ and255 x ≤ 255 := by
  have h : (x % 2 ^ IntKind.i64.bits).toNat &&& 255 % 2 ^ IntKind.i64.bits ≤ 255 := Nat.le_trans Nat.and_le_right (by decide)
  unfold and255
  rw [wrap64 (by omega) (by omega)]
  omega
def stepF (h : Int) : Int := IntKind.i64.wrap (IntKind.i64.wrap (h * 6364136223846793005) + 1442695040888963407)
def xorF (h : Int) : Int := IntKind.i64.wrap ((h.fdiv (2 ^ min 33 IntKind.i64.bits) % 2 ^ IntKind.i64.bits).toNat ^^^ (h.fdiv (2 ^ min 45 IntKind.i64.bits) % 2 ^ IntKind.i64.bits).toNat : Nat)
def byteF (bs : List Int) (s : Cu) : Int × Cu :=
  if s.i < bs.length then (and255 (IntKind.i64.wrap (and255 (xorF (stepF s.h)) + IntKind.i64.wrap (bs.getD s.i 0))), ⟨s.i + 1, stepF s.h⟩) else (and255 (xorF (stepF s.h)), ⟨s.i, stepF s.h⟩)
theorem byteF_in (bs : List Int) (s : Cu) : 0 ≤ (byteF bs s).1 ∧ (byteF bs s).1 ≤ 255 := by
  unfold byteF
  split
  · exact and255_in _
  · exact and255_in _
theorem spec_l1Byte_m (H : List Blk) (cb : Nat) (bs : List Int) (s : Cu) (hc : cb < H.length) (hb : bs.length < 9223372036854775807) : T 123 [.ptr cb 0 0] (cur H cb bs s) (i6 (byteF bs s).1) (cur H cb bs (byteF bs s).2) := by
  refine semT' (S := S0) hm spec_l1Byte_ok (Nat.le_of_ble_eq_true rfl) ?_
  unfold spec_l1Byte; dsimp only
  have gc := fun s => cur_at hc bs s
  have hw : s.i < bs.length → IntKind.i64.wrap ((s.i : Int) + 1) = s.i + 1 := fun g => wrap64 (by omega) (by omega)
  simp [gc]
  first | (refine ck_intro' (by kernel_rfl) ?_; try simp [gc]) | skip
  first | (refine ck_intro' (by kernel_rfl) ?_; try simp [gc]) | skip
  refine br_intro' (fun h => ?_) (fun h => ?_) <;> (have h0 := h) <;> (try simp at h) <;> try simp [h0, h, gc]
  · have h9 := h
    first | (refine ck_intro' (by kernel_rfl) ?_; try simp [gc, hw h9, h9]) | skip
    have e : byteF bs s = (and255 (IntKind.i64.wrap (and255 (xorF (stepF s.h)) + IntKind.i64.wrap bs[s.i])), ⟨s.i + 1, stepF s.h⟩) := by simp only [byteF, if_pos h9]; simp [h9]
    rw [e]
    exact LeV.refl _ _ _
  · have e : byteF bs s = (and255 (xorF (stepF s.h)), ⟨s.i, stepF s.h⟩) := if_neg (by omega)
    rw [e]
    exact LeV.refl _ _ _
def bigF (x y z w : Int) : Int := x * 16777216 + y * 65536 + z * 256 + w
def belowF (bs : List Int) (s : Cu) (n : Int) : Int × Cu :=
  if n ≤ 0 then (0, s)
  else if n ≤ 256 then ((byteF bs s).1.tmod n, (byteF bs s).2)
  else
    ((bigF (byteF bs s).1 (byteF bs (byteF bs s).2).1 (byteF bs (byteF bs (byteF bs s).2).2).1 (byteF bs (byteF bs (byteF bs (byteF bs s).2).2).2).1).tmod n, (byteF bs (byteF bs (byteF bs (byteF bs s).2).2).2).2)
theorem spec_l1Below_m (H : List Blk) (cb : Nat) (bs : List Int) (s : Cu) (n : Int) (hc : cb < H.length) (hb : bs.length < 9223372036854775807) : T 94 [.ptr cb 0 0, i6 n] (cur H cb bs s) (i6 (belowF bs s n).1) (cur H cb bs (belowF bs s n).2) := by
  refine semT' (S := (fun f => [123].contains f)) hm spec_l1Below_ok (Nat.le_of_ble_eq_true rfl) ?_
  unfold spec_l1Below; dsimp only
  simp
  refine br_intro' (fun h => ?_) (fun h => ?_) <;> simp at h <;> simp [h]
  · rw [show belowF bs s n = (0, s) from if_pos h]
    exact LeV.refl _ _ _
  · have h' : ¬ n ≤ 0 := by omega
    refine br_intro' (fun g => ?_) (fun g => ?_) <;> simp at g <;> simp [g]
    · rw [show belowF bs s n = ((byteF bs s).1.tmod n, (byteF bs s).2) by simp [belowF, h', g]]
      refine cur_call rfl cb bs s (byteF bs s).2 (cur_cur ..) (by rw [cur_cur, cur_cur]; exact spec_l1Byte_m H cb bs s hc hb) ?_; simp
      refine ck_intro' (by omega) ?_; simp
      exact LeV.refl _ _ _
    · have e : belowF bs s n = ((bigF (byteF bs s).1 (byteF bs (byteF bs s).2).1 (byteF bs (byteF bs (byteF bs s).2).2).1 (byteF bs (byteF bs (byteF bs (byteF bs s).2).2).2).1).tmod n, (byteF bs (byteF bs (byteF bs (byteF bs s).2).2).2).2) := by
        have g' : ¬ n ≤ 256 := by omega
        simp [belowF, h', g']
      rw [e]
      have b1 := byteF_in bs s
      have b2 := byteF_in bs (byteF bs s).2
      have b3 := byteF_in bs (byteF bs (byteF bs s).2).2
      have b4 := byteF_in bs (byteF bs (byteF bs (byteF bs s).2).2).2
      refine cur_call rfl cb bs s (byteF bs s).2 (cur_cur ..) (by rw [cur_cur, cur_cur]; exact spec_l1Byte_m H cb bs s hc hb) ?_; simp
      generalize byteF bs s = t1 at b1 b2 b3 b4 ⊢
      refine cur_call rfl cb bs t1.2 (byteF bs t1.2).2 (cur_cur ..) (by rw [cur_cur, cur_cur]; exact spec_l1Byte_m H cb bs t1.2 hc hb) ?_; simp
      generalize byteF bs t1.2 = t2 at b2 b3 b4 ⊢
      refine cur_call rfl cb bs t2.2 (byteF bs t2.2).2 (cur_cur ..) (by rw [cur_cur, cur_cur]; exact spec_l1Byte_m H cb bs t2.2 hc hb) ?_; simp
      generalize byteF bs t2.2 = t3 at b3 b4 ⊢
      refine cur_call rfl cb bs t3.2 (byteF bs t3.2).2 (cur_cur ..) (by rw [cur_cur, cur_cur]; exact spec_l1Byte_m H cb bs t3.2 hc hb) ?_; simp
      generalize byteF bs t3.2 = t4 at b4 ⊢
      have w1 : IntKind.i64.wrap (t1.1 * 16777216) = t1.1 * 16777216 := wrap64 (by omega) (by omega)
      have w2 : IntKind.i64.wrap (t2.1 * 65536) = t2.1 * 65536 := wrap64 (by omega) (by omega)
      have w3 : IntKind.i64.wrap (t3.1 * 256) = t3.1 * 256 := wrap64 (by omega) (by omega)
      have w4 : IntKind.i64.wrap (t1.1 * 16777216 + t2.1 * 65536) = t1.1 * 16777216 + t2.1 * 65536 := wrap64 (by omega) (by omega)
      have w5 : IntKind.i64.wrap (t1.1 * 16777216 + t2.1 * 65536 + t3.1 * 256) = t1.1 * 16777216 + t2.1 * 65536 + t3.1 * 256 := wrap64 (by omega) (by omega)
      have w6 : IntKind.i64.wrap (t1.1 * 16777216 + t2.1 * 65536 + t3.1 * 256 + t4.1) = bigF t1.1 t2.1 t3.1 t4.1 := wrap64 (by omega) (by omega)
      rw [w1, w2, w3, w4, w5, w6]
      refine ck_intro' (by omega) ?_; simp
      exact LeV.refl _ _ _
theorem tmod_in {x n : Int} (h : 0 ≤ x) (hn : 0 < n) : 0 ≤ x.tmod n ∧ x.tmod n < n := ⟨Int.tmod_nonneg _ h, Int.tmod_lt_of_pos _ hn⟩
theorem belowF_in (bs : List Int) (s : Cu) (n : Int) : 0 ≤ (belowF bs s n).1 ∧ (0 < n → (belowF bs s n).1 < n) ∧ (n ≤ 0 → (belowF bs s n).1 = 0) := by
  unfold belowF
  split
  · exact ⟨by simp, fun h => by omega, fun _ => rfl⟩
  · split
    · have := tmod_in (x := (byteF bs s).1) (n := n) (byteF_in bs s).1 (by omega)
      exact ⟨this.1, fun _ => this.2, fun h => by omega⟩
    · have b1 := byteF_in bs s
      have b2 := byteF_in bs (byteF bs s).2
      have b3 := byteF_in bs (byteF bs (byteF bs s).2).2
      have b4 := byteF_in bs (byteF bs (byteF bs (byteF bs s).2).2).2
      have := tmod_in (x := bigF (byteF bs s).1 (byteF bs (byteF bs s).2).1 (byteF bs (byteF bs (byteF bs s).2).2).1 (byteF bs (byteF bs (byteF bs (byteF bs s).2).2).2).1) (n := n) (by unfold bigF; omega) (by omega)
      exact ⟨this.1, fun _ => this.2, fun h => by omega⟩
def onceF (bs : List Int) (s : Cu) (n : Int) : Bool × Cu := (decide ((belowF bs s n).1 = 0), (belowF bs s n).2)
theorem spec_l1Once_m (H : List Blk) (cb : Nat) (bs : List Int) (s : Cu) (n : Int) (hc : cb < H.length) (hb : bs.length < 9223372036854775807) : T 91 [.ptr cb 0 0, i6 n] (cur H cb bs s) (.bool (onceF bs s n).1) (cur H cb bs (onceF bs s n).2) := by
  refine semT' (S := (fun f => [123, 94].contains f)) hm spec_l1Once_ok (Nat.le_of_ble_eq_true rfl) ?_
  unfold spec_l1Once; dsimp only
  simp
  refine cur_call rfl cb bs s (belowF bs s n).2 (cur_cur ..) (by rw [cur_cur, cur_cur]; exact spec_l1Below_m H cb bs s n hc hb) ?_; simp
  exact LeV.refl _ _ _
def pickF (bs : List Int) (s : Cu) (xs : List Int) : Int × Cu := (xs.getD (belowF bs s xs.length).1.toNat 0, (belowF bs s xs.length).2)
theorem spec_l1PickInt_m (H : List Blk) (cb : Nat) (bs : List Int) (s : Cu) (lb v : Nat) (xs : List Int) (hc : cb < H.length) (hb : bs.length < 9223372036854775807) (hl : xs.length < 9223372036854775807) (hx : xs ≠ []) (hL : H[lb]? = some ⟨v, false, 1, ints xs, none⟩) (hne : lb ≠ cb) : T 120 [.ptr cb 0 0, .ref lb v 0 xs.length] (cur H cb bs s) (i6 (pickF bs s xs).1) (cur H cb bs (pickF bs s xs).2) := by
  refine semT' (S := (fun f => [123, 94].contains f)) hm spec_l1PickInt_ok (Nat.le_of_ble_eq_true rfl) ?_
  unfold spec_l1PickInt; dsimp only
  have gL : ∀ s, (cur H cb bs s)[lb]? = _ := fun s => (show (cur H cb bs s)[lb]? = H[lb]? from List.getElem?_set_ne hne.symm).trans hL
  have hp : 0 < xs.length := List.length_pos_iff.2 hx
  have hi := belowF_in bs s xs.length
  obtain ⟨j, hj⟩ : ∃ j : Nat, (belowF bs s xs.length).1 = j := ⟨(belowF bs s xs.length).1.toNat, by omega⟩
  have hj' : j < xs.length := by have := hi.2.1 (by omega); omega
  simp [gL]
  refine cur_call rfl cb bs s (belowF bs s xs.length).2 (cur_cur ..) (by rw [cur_cur, cur_cur]; exact spec_l1Below_m H cb bs s xs.length hc hb) ?_; simp
  rw [hj]
  simp [gL, hj']
  have e : pickF bs s xs = (xs[j], (belowF bs s xs.length).2) := by simp [pickF, hj, hj']
  rw [e]
  exact LeV.refl _ _ _
theorem spec_l1Max_c (a b : Int)  : T 93 [i6 a, i6 b] [] (i6 (max a b)) ([]) := by
  refine semT' (S := S0) hm spec_l1Max_ok (Nat.le_of_ble_eq_true rfl) ?_
  unfold spec_l1Max; dsimp only
  simp
  refine br_intro' (fun h => ?_) (fun h => ?_) <;> (have h0 := h) <;> (try simp at h) <;> try simp [h0, h]
  · exact LeV.ro rfl rfl (by simp; omega)
  · exact LeV.ro rfl rfl (by simp; omega)
theorem spec_l1Max_call {a b : Int}  {S : FuncId → Bool} {H : List Blk} {K : A → Dl → Prop} (hS : S 93 = false) (hK : K (i6 (max a b)) (.news [])) : @WCall' Go.Proofs.Try.prog S 93 [i6 a, i6 b] H ⟨K⟩ :=
  WCall_pure hS (spec_l1Max_c a b) (by simp) (by simp) (by simp) hK
theorem spec_l1Max_k {a b : Int}  {S : FuncId → Bool} {H : List Blk} {K : A → Dl → Prop} {zs : List A} (hS : S 93 = false) (hv : viewL (viewA 8 H) zs = some [i6 a, i6 b]) (ho : noOwns zs = true ∨ nosl (i6 (max a b)) = true) (hK : K (i6 (max a b)) (.news [])) : @WCall' Go.Proofs.Try.prog S 93 zs H ⟨K⟩ :=
  WCall_pure hS (spec_l1Max_c a b) hv ho (by simp) hK
theorem spec_l1Min_c (a b : Int)  : T 92 [i6 a, i6 b] [] (i6 (min a b)) ([]) := by
  refine semT' (S := S0) hm spec_l1Min_ok (Nat.le_of_ble_eq_true rfl) ?_
  unfold spec_l1Min; dsimp only
  simp
  refine br_intro' (fun h => ?_) (fun h => ?_) <;> (have h0 := h) <;> (try simp at h) <;> try simp [h0, h]
  · exact LeV.ro rfl rfl (by simp; omega)
  · exact LeV.ro rfl rfl (by simp; omega)
theorem spec_l1Min_call {a b : Int}  {S : FuncId → Bool} {H : List Blk} {K : A → Dl → Prop} (hS : S 92 = false) (hK : K (i6 (min a b)) (.news [])) : @WCall' Go.Proofs.Try.prog S 92 [i6 a, i6 b] H ⟨K⟩ :=
  WCall_pure hS (spec_l1Min_c a b) (by simp) (by simp) (by simp) hK
theorem spec_l1Min_k {a b : Int}  {S : FuncId → Bool} {H : List Blk} {K : A → Dl → Prop} {zs : List A} (hS : S 92 = false) (hv : viewL (viewA 8 H) zs = some [i6 a, i6 b]) (ho : noOwns zs = true ∨ nosl (i6 (min a b)) = true) (hK : K (i6 (min a b)) (.news [])) : @WCall' Go.Proofs.Try.prog S 92 zs H ⟨K⟩ :=
  WCall_pure hS (spec_l1Min_c a b) hv ho (by simp) hK
def drawF (bs : List Int) (s : Cu) (n : Int) : Int × Cu :=
  if 6 < n then
    if (onceF bs s 2).1 then (n - 1 - (belowF bs (onceF bs s 2).2 6).1, (belowF bs (onceF bs s 2).2 6).2) else belowF bs (onceF bs s 2).2 n
  else belowF bs s n
theorem drawF_in (bs : List Int) (s : Cu) (n : Int) : 0 ≤ (drawF bs s n).1 ∧ (0 < n → (drawF bs s n).1 < n) ∧ (n ≤ 0 → (drawF bs s n).1 = 0) := by
  unfold drawF
  split
  · split
    · have := belowF_in bs (onceF bs s 2).2 6
      have h2 := this.2.1 (by omega)
      refine ⟨by simp; omega, fun _ => by simp; omega, fun _ => by omega⟩
    · exact belowF_in _ _ _
  · exact belowF_in _ _ _
theorem spec_l1Draw_m (H : List Blk) (cb : Nat) (bs : List Int) (s : Cu) (n : Int) (hc : cb < H.length) (hb : bs.length < 9223372036854775807) (hn : In64' n) : T 134 [.ptr cb 0 0, i6 n] (cur H cb bs s) (i6 (drawF bs s n).1) (cur H cb bs (drawF bs s n).2) := by
  refine semT' (S := (fun f => [123, 94, 91].contains f)) hm spec_l1Draw_ok (Nat.le_of_ble_eq_true rfl) ?_
  unfold spec_l1Draw; dsimp only
  obtain ⟨hn1, hn2⟩ := hn
  simp
  refine br_intro' (fun h => ?_) (fun h => ?_) <;> simp at h <;> simp [h]
  · refine cur_call rfl cb bs s (onceF bs s 2).2 (cur_cur ..) (by rw [cur_cur, cur_cur]; exact spec_l1Once_m H cb bs s 2 hc hb) ?_; simp
    refine br_intro' (fun g => ?_) (fun g => ?_) <;> simp [g]
    · refine cur_call rfl cb bs (onceF bs s 2).2 (belowF bs (onceF bs s 2).2 6).2 (cur_cur ..) (by rw [cur_cur, cur_cur]; exact spec_l1Below_m H cb bs _ 6 hc hb) ?_; simp
      have hi := belowF_in bs (onceF bs s 2).2 6
      have hi2 := hi.2.1 (by omega)
      rw [show drawF bs s n = (n - 1 - (belowF bs (onceF bs s 2).2 6).1, (belowF bs (onceF bs s 2).2 6).2) by simp [drawF, h, g]]
      generalize belowF bs (onceF bs s 2).2 6 = t at hi hi2 ⊢
      rw [wrap64 (n := n - 1) (by omega) (by omega), wrap64 (n := n - 1 - t.1) (by omega) (by omega)]
      exact LeV.refl _ _ _
    · rw [show drawF bs s n = belowF bs (onceF bs s 2).2 n by simp [drawF, h, g]]
      refine cur_call rfl cb bs (onceF bs s 2).2 (belowF bs (onceF bs s 2).2 n).2 (cur_cur ..) (by rw [cur_cur, cur_cur]; exact spec_l1Below_m H cb bs _ n hc hb) ?_; simp
      exact LeV.refl _ _ _
  · have h' : ¬ 6 < n := by omega
    simp [h']
    rw [show drawF bs s n = belowF bs s n from if_neg (by omega)]
    refine cur_call rfl cb bs s (belowF bs s n).2 (cur_cur ..) (by rw [cur_cur, cur_cur]; exact spec_l1Below_m H cb bs _ n hc hb) ?_; simp
    exact LeV.refl _ _ _
end Go.Proofs.Ytnbodfakblbmbaa.C

set_option linter.unusedVariables false
set_option linter.unusedSimpArgs false
namespace Go.Proofs.Ytnbodfakblbmbaa.C
open Go.Sym Go.Proofs.Ytnbodfakblbmbaa.I
theorem cur_closed {H : List Blk} {cb : Nat} (bs : List Int) (s : Cu) {n : Nat} (h : Closed1 n H = true) : Closed1 n (cur H cb bs s) = true := Closed1_set (by simp [inAs, inA, inAs_scals _ (bytes_scals bs)]) _ _ h
theorem cur_lt {H T : List Blk} {cb : Nat} (bs : List Int) (s : Cu) (hc : cb < H.length) : cb < (cur H cb bs s ++ T).length := by simp; omega
theorem cur_mid {H T : List Blk} {cb : Nat} {bs : List Int} {s s' : Cu} (hc : cb < H.length) : cur (cur H cb bs s ++ T) cb bs s' = cur H cb bs s' ++ T := by rw [cur_app (by simpa using hc), cur_cur]
/-- A call that moves the cursor, over rows of its caller's own. -/
theorem cur_call' {f : FuncId} {S : FuncId → Bool} {H T : List Blk} {K : A → Dl → Prop} (hS : S f = true) (cb : Nat) (bs : List Int) (s s' : Cu) {zs : List A} {r : A} (hc : cb < H.length)
    (hf : SemT Go.Proofs.Try.prog f zs (cur (cur H cb bs s ++ T) cb bs s) r (cur (cur H cb bs s ++ T) cb bs s')) (hK : K r (.full [cb] (cur H cb bs s' ++ T))) : @WCall' Go.Proofs.Try.prog S f zs (cur H cb bs s ++ T) ⟨K⟩ :=
  cur_call hS cb bs s s' (cur_mid hc) hf (by rw [cur_mid hc]; exact hK)
theorem LeV.trans {B : Nat} {r r' r'' : A} {H H' H'' : List Blk} (h : LeV B r H r' H') (g : LeV B r' H' r'' H'') : LeV B r H r'' H'' := by
  intro c0 c hB hr hH hs
  obtain ⟨c1, w1, h1, r1, s1, v1⟩ := h c0 c hB hr hH hs
  obtain ⟨c2, w2, h2, r2, s2, v2⟩ := g c0 c1 hB r1 h1 s1
  exact ⟨c2, w2.trans w1, h2, r2, s2, fun v hv => v2 v (v1 v hv)⟩
theorem LeV.nilsl (B : Nat) (H : List Blk) : LeV B (.agg [.nil]) H (.agg [.sl 0 []]) H := by
  intro c0 c hB hr hH hs
  refine ⟨c, rfl, hH, hr, hs, fun v hv => ?_⟩
  simp only [VR, VRs] at hv ⊢
  obtain ⟨vs, rfl, u, us, e, ⟨a, rfl⟩, rfl⟩ := hv
  exact ⟨_, rfl, _, _, e, ⟨a, 0, rfl, Nat.le_refl _, .inl trivial⟩, rfl⟩
/-- A slice over a row at the end, told as one that is only read, its row left out. -/
theorem VR_frz {c : Cx} {H1 T : List Blk} (hr : RelH c) (hH : c.H = fun b => (H1 ++ T)[b]?) {b m : Nat} {k : Blk} (hb : H1.length ≤ b) (hk : (H1 ++ T)[b]? = some k) (hsc : scals k.cs = true) (hm : m * k.esz ≤ k.cs.length) {v : Value} (h : VR c (.ref b k.v 0 m) v) :
    VR (c.cut H1.length) (.sl m (k.cs.take (m * k.esz))) v := by
  simp only [VR] at h ⊢
  obtain ⟨k', a, cap, g1, g2, rfl, gn, g4⟩ := h
  rw [hH] at g1
  simp only [hk, Option.some.injEq] at g1
  subst g1
  have hck : c.H b = some k := by rw [hH]; exact hk
  refine ⟨a, cap, rfl, gn, ?_⟩
  rcases g4 rfl with g4 | ⟨g0, rfl, g5⟩
  · left; omega
  · right
    obtain ⟨vs, i1, i2⟩ := rowVals hr hck
    refine ⟨c.at b 0, vs.take (m * k.esz), rfl, rfl, hr.lt b k hck g0, ?_, ?_, VRs.cut _ _ (inAs_scals _ (scals_take _ _ hsc)) (i2.take _)⟩
    · rintro (hx | ⟨d, kd, h1, h2, h3⟩)
      · exact hr.nx b k hck g0 hx
      · simp only [Cx.cut] at h1 h3
        split at h1
        · exact hr.uni d b kd k h1 hck h2 g0 (by omega) h3
        · cases h1
    · intro j u hj
      have := (i1.take (m * k.esz)) j u hj
      show c.w.cell? _ = some u
      simpa [Cx.at] using this
theorem LeV.frz {B : Nat} {H1 T : List Blk} (hlen : B ≤ H1.length) (hcl : Closed1 H1.length H1 = true) {b m : Nat} {k : Blk} (hb : H1.length ≤ b) (hk : (H1 ++ T)[b]? = some k) (hsc : scals k.cs = true) (hm : m * k.esz ≤ k.cs.length) :
    LeV B (.ref b k.v 0 m) (H1 ++ T) (.sl m (k.cs.take (m * k.esz))) H1 := by
  intro c0 c hB hr hH hs
  obtain ⟨h1, h2, h3⟩ := T_cut hB hr hH hs hlen hcl
  exact ⟨c.cut H1.length, rfl, h1, h2, h3, fun v hv => VR_frz hr hH hb hk hsc hm hv⟩
theorem LeV.frzA {B : Nat} {H1 T : List Blk} (hlen : B ≤ H1.length) (hcl : Closed1 H1.length H1 = true) {b m : Nat} {k : Blk} (hb : H1.length ≤ b) (hk : (H1 ++ T)[b]? = some k) (hsc : scals k.cs = true) (hm : m * k.esz ≤ k.cs.length) :
    LeV B (.agg [.ref b k.v 0 m]) (H1 ++ T) (.agg [.sl m (k.cs.take (m * k.esz))]) H1 := by
  intro c0 c hB hr hH hs
  obtain ⟨h1, h2, h3⟩ := T_cut hB hr hH hs hlen hcl
  refine ⟨c.cut H1.length, rfl, h1, h2, h3, fun v hv => ?_⟩
  rw [VR] at hv ⊢
  obtain ⟨vs, e1, hv⟩ := hv
  refine ⟨vs, e1, ?_⟩
  rw [VRs] at hv ⊢
  obtain ⟨u, us, e2, g1, g2⟩ := hv
  exact ⟨u, us, e2, VR_frz hr hH hb hk hsc hm g1, by simpa [VRs] using g2⟩
def names13 : List Int := [0, 1, 5, 6, 50, 51, 62, 90, 91, 100, 101, 102, 199]
def termF (bs : List Int) (s : Cu) (m : Nat) : Int × Cu :=
  if (onceF bs s 25).1 then pickF bs (onceF bs s 25).2 [-1, m] else drawF bs (onceF bs s 25).2 (max m 1)
theorem spec_l1DrawTerm_m (H : List Blk) (cb : Nat) (bs : List Int) (s : Cu) (ns : List Nd) (hc : cb < H.length) (hb : bs.length < 9223372036854775807) (hcl : Closed1 H.length H = true) (hl : ns.length < 9223372036854775807) : T 119 [.ptr cb 0 0, aP ns] (cur H cb bs s) (i6 (termF bs s ns.length).1) (cur H cb bs (termF bs s ns.length).2) := by
  refine semT' (S := (fun f => [123, 94, 91, 120, 134].contains f)) hm spec_l1DrawTerm_ok (Nat.le_of_ble_eq_true rfl) ?_
  unfold spec_l1DrawTerm; dsimp only
  simp
  refine cur_call' rfl cb bs s (onceF bs s 25).2 hc (spec_l1Once_m _ cb bs s 25 (cur_lt _ _ hc) hb) ?_; simp
  refine br_intro' (fun g => ?_) (fun g => ?_) <;> simp [g]
  · rw [show termF bs s ns.length = pickF bs (onceF bs s 25).2 [-1, ns.length] from if_pos g]
    refine cur_call' rfl cb bs (onceF bs s 25).2 (pickF bs (onceF bs s 25).2 [-1, ns.length]).2 hc (spec_l1PickInt_m _ cb bs _ (H.length + 1) 0 [-1, ns.length] (cur_lt _ _ hc) hb (by simp) (by simp) (by simp [ints]) (by omega)) ?_; simp
    exact LeV.drop (by simp) (by simpa using cur_closed _ _ hcl) (by simp)
  · rw [show termF bs s ns.length = drawF bs (onceF bs s 25).2 (max ns.length 1) from if_neg (by simp [g])]
    refine spec_l1Max_call (a := ns.length) (b := 1) rfl ?_; simp
    refine cur_call' rfl cb bs (onceF bs s 25).2 (drawF bs (onceF bs s 25).2 (max ns.length 1)).2 hc (spec_l1Draw_m _ cb bs _ (max ns.length 1) (cur_lt _ _ hc) hb ⟨by omega, by omega⟩) ?_; simp
    exact LeV.drop (by simp) (by simpa using cur_closed _ _ hcl) (by simp)
def nodeF (bs : List Int) (s : Cu) (many : Int) : Nd × Cu :=
  if many = 0 then (⟨1, (pickF bs s names13).1, 0⟩, (pickF bs s names13).2)
  else if (onceF bs s 4).1 then (⟨1, (pickF bs (onceF bs s 4).2 names13).1, 0⟩, (pickF bs (onceF bs s 4).2 names13).2)
  else
    if partsF (2 + (drawF bs (onceF bs s 4).2 7).1) = 2 then
      (⟨2 + (drawF bs (onceF bs s 4).2 7).1, (drawF bs (drawF bs (onceF bs s 4).2 7).2 many).1, (drawF bs (drawF bs (drawF bs (onceF bs s 4).2 7).2 many).2 many).1⟩, (drawF bs (drawF bs (drawF bs (onceF bs s 4).2 7).2 many).2 many).2)
    else (⟨2 + (drawF bs (onceF bs s 4).2 7).1, (drawF bs (drawF bs (onceF bs s 4).2 7).2 many).1, 0⟩, (drawF bs (drawF bs (onceF bs s 4).2 7).2 many).2)
theorem spec_l1DrawNode_m (H : List Blk) (cb : Nat) (bs : List Int) (s : Cu) (many : Int) (hc : cb < H.length) (hb : bs.length < 9223372036854775807) (hcl : Closed1 H.length H = true) (hn : In64' many) : T 133 [.ptr cb 0 0, i6 many] (cur H cb bs s) (aN (nodeF bs s many).1) (cur H cb bs (nodeF bs s many).2) := by
  refine semT' (S := (fun f => [123, 94, 91, 120, 134].contains f)) hm spec_l1DrawNode_ok (Nat.le_of_ble_eq_true rfl) ?_
  unfold spec_l1DrawNode; dsimp only
  by_cases h0 : many = 0
  · subst h0
    simp
    rw [show nodeF bs s 0 = (⟨1, (pickF bs s names13).1, 0⟩, (pickF bs s names13).2) from if_pos rfl]
    refine cur_call' rfl cb bs s (pickF bs s names13).2 hc (spec_l1PickInt_m _ cb bs _ (H.length + 1) 0 names13 (cur_lt _ _ hc) hb (by simp [names13]) (by simp [names13]) (by simp [ints, names13]) (by omega)) ?_; simp
    exact LeV.drop (by simp) (by simpa using cur_closed _ _ hcl) (by simp)
  simp [h0]
  refine cur_call' rfl cb bs s (onceF bs s 4).2 hc (spec_l1Once_m _ cb bs s 4 (cur_lt _ _ hc) hb) ?_; simp
  have en : nodeF bs s many = if (onceF bs s 4).1 then (⟨1, (pickF bs (onceF bs s 4).2 names13).1, 0⟩, (pickF bs (onceF bs s 4).2 names13).2)
    else
      if partsF (2 + (drawF bs (onceF bs s 4).2 7).1) = 2 then
        (⟨2 + (drawF bs (onceF bs s 4).2 7).1, (drawF bs (drawF bs (onceF bs s 4).2 7).2 many).1, (drawF bs (drawF bs (drawF bs (onceF bs s 4).2 7).2 many).2 many).1⟩, (drawF bs (drawF bs (drawF bs (onceF bs s 4).2 7).2 many).2 many).2)
      else (⟨2 + (drawF bs (onceF bs s 4).2 7).1, (drawF bs (drawF bs (onceF bs s 4).2 7).2 many).1, 0⟩, (drawF bs (drawF bs (onceF bs s 4).2 7).2 many).2) := if_neg h0
  rw [en]
  generalize onceF bs s 4 = o
  refine br_intro' (fun g => ?_) (fun g => ?_) <;> simp [g]
  · refine cur_call' rfl cb bs o.2 (pickF bs o.2 names13).2 hc (spec_l1PickInt_m _ cb bs _ (H.length + 1) 0 names13 (cur_lt _ _ hc) hb (by simp [names13]) (by simp [names13]) (by simp [ints, names13]) (by omega)) ?_; simp
    simp [g]
    exact LeV.drop (by simp) (by simpa using cur_closed _ _ hcl) (by simp)
  refine cur_call' rfl cb bs o.2 (drawF bs o.2 7).2 hc (spec_l1Draw_m _ cb bs _ 7 (cur_lt _ _ hc) hb ⟨by omega, by omega⟩) ?_; simp
  have d7 := drawF_in bs o.2 7
  have d7' := d7.2.1 (by omega)
  generalize drawF bs o.2 7 = k at d7 d7' ⊢
  have wk : IntKind.i64.wrap (2 + k.1) = 2 + k.1 := wrap64 (by omega) (by omega)
  refine cur_call' rfl cb bs k.2 (drawF bs k.2 many).2 hc (spec_l1Draw_m _ cb bs _ many (cur_lt _ _ hc) hb hn) ?_; simp
  generalize drawF bs k.2 many = a
  rw [wk]
  refine spec_l1Parts_call rfl ?_; simp
  refine br_intro' (fun f => ?_) (fun f => ?_) <;> simp at f <;> simp [f]
  · refine cur_call' rfl cb bs a.2 (drawF bs a.2 many).2 hc (spec_l1Draw_m _ cb bs _ many (cur_lt _ _ hc) hb hn) ?_; simp
    simp [g, f]
    exact LeV.drop (by simp) (by simpa using cur_closed _ _ hcl) (by simp)
  · simp [g, f]
    exact LeV.drop (by simp) (by simpa using cur_closed _ _ hcl) (by simp)
/-- A pool that is drawn: so many nodes added in turn. -/
def poolGo (bs : List Int) : Nat → List Nd → Cu → List Nd × Cu
  | 0, ns, s => (ns, s)
  | n + 1, ns, s => poolGo bs n (addF ns (nodeF bs s ns.length).1).1 (nodeF bs s ns.length).2
def poolD (bs : List Int) (s : Cu) (most : Int) : List Nd × Cu := poolGo bs (belowF bs s (most + 1)).1.toNat [] (belowF bs s (most + 1)).2
theorem poolGo_ok (bs : List Int) : ∀ (n : Nat) (ns : List Nd) (s : Cu), poolF ns = true → poolF (poolGo bs n ns s).1 = true
  | 0, ns, s, h => h
  | n + 1, ns, s, h => poolGo_ok bs n _ _ (addF_pool _ h)
theorem poolF_nil : poolF [] = true := by simp [poolF, okFrom]
theorem poolD_ok (bs : List Int) (s : Cu) (most : Int) : poolF (poolD bs s most).1 = true := poolGo_ok bs _ _ _ poolF_nil
theorem spec_l1DrawPool_m (H : List Blk) (cb : Nat) (bs : List Int) (s : Cu) (most : Int) (hc : cb < H.length) (hb : bs.length < 9223372036854775807) (hcl : Closed1 H.length H = true) (h0 : 0 ≤ most) (h1 : most < 1000) : T 132 [.ptr cb 0 0, i6 most] (cur H cb bs s) (aP (poolD bs s most).1) (cur H cb bs (poolD bs s most).2) := by
  refine semT' (S := (fun f => [123, 94, 91, 120, 134, 133].contains f)) hm spec_l1DrawPool_ok (Nat.le_of_ble_eq_true rfl) ?_
  unfold spec_l1DrawPool; dsimp only
  have hw : IntKind.i64.wrap (most + 1) = most + 1 := wrap64 (by omega) (by omega)
  simp
  rw [hw]
  have hi := belowF_in bs s (most + 1)
  have hi2 := hi.2.1 (by omega)
  refine cur_call' rfl cb bs s (belowF bs s (most + 1)).2 hc (spec_l1Below_m _ cb bs s (most + 1) (cur_lt _ _ hc) hb) ?_; simp
  have e : poolD bs s most = poolGo bs (belowF bs s (most + 1)).1.toNat [] (belowF bs s (most + 1)).2 := rfl
  rw [e]
  generalize belowF bs s (most + 1) = t at hi hi2 ⊢
  obtain ⟨n, hn⟩ : ∃ n : Nat, t.1 = n := ⟨t.1.toNat, by omega⟩
  rw [hn]
  refine WLoop_fam (fun p : Nat × List Nd × Cu × Bool => [(0, A.ptr cb 0 0), (4, A.ptr H.length 0 0), (5, A.ptr (H.length + 1) 0 0), (6, i6 n), (7, i6 p.1)])
    (fun p => cur H cb bs p.2.2.1 ++ [⟨0, false, 1, [A.nil], none⟩, ⟨0, false, 1, [if p.2.2.2 then A.nil else .sl p.2.1.length (enc p.2.1)], none⟩]) (fun p => n - p.1)
    (fun p => p.1 ≤ n ∧ (p.2.2.2 = true → p.2.1 = []) ∧ poolF p.2.1 = true ∧ poolGo bs n [] t.2 = poolGo bs (n - p.1) p.2.1 p.2.2.1) ?_ (0, [], t.2, true) ⟨Nat.zero_le _, fun _ => rfl, poolF_nil, rfl⟩
  rintro ⟨j, ns, s1, b⟩ ⟨hj, hbn, hp, hgo⟩ ih
  simp only at hj hbn hp hgo
  have hl := poolF_len hp
  have hne : cb ≠ H.length + 1 := by omega
  have hne' : cb ≠ H.length := by omega
  have hcl2 : ∀ x : A, inA (H.length + 2) x = true → Closed1 (cur H cb bs s1 ++ ([⟨0, false, 1, [A.nil], none⟩, ⟨0, false, 1, [x], none⟩] : List Blk)).length (cur H cb bs s1 ++ ([⟨0, false, 1, [A.nil], none⟩, ⟨0, false, 1, [x], none⟩] : List Blk)) = true := fun x hx =>
    Closed1_more (by simpa using cur_closed bs s1 hcl) (by simpa using hx)
  have fin : ¬ (j : Int) < n → poolGo bs n [] t.2 = (ns, s1) := fun h => by
    have : n - j = 0 := by omega
    rw [hgo, this]; rfl
  have nxt : j < n → poolGo bs n [] t.2 = poolGo bs (n - (j + 1)) (addF ns (nodeF bs s1 ns.length).1).1 (nodeF bs s1 ns.length).2 := fun h => by
    have : n - j = (n - (j + 1)) + 1 := by omega
    rw [hgo, this]; rfl
  cases b
  · simp
    refine br_intro' (fun h => ?_) (fun h => ?_) <;> (have h0 := h) <;> (try simp at h) <;> try simp [h0, h]
    · have h' := h
      have hwj : IntKind.i64.wrap ((j : Int) + 1) = j + 1 := wrap64 (by omega) (by omega)
      refine cur_call' rfl cb bs s1 (nodeF bs s1 ns.length).2 hc (spec_l1DrawNode_m _ cb bs s1 ns.length (cur_lt _ _ hc) hb (hcl2 _ (by simp)) ⟨by omega, by omega⟩) ?_
      simp
      refine spec_l1Add_k (ns := ns) (n := (nodeF bs s1 ns.length).1) hp rfl (by simp) (by simp) ?_; simp
      refine ck_intro' (regOk_ren (fun n => if n = cb then 0 else 1) (by simp [hne, hne', hne.symm, hne'.symm]; kernel_rfl)) ?_; simp
      rw [hwj]
      exact ih (j + 1, (addF ns (nodeF bs s1 ns.length).1).1, (nodeF bs s1 ns.length).2, false) ⟨h', by simp, addF_pool _ hp, nxt h'⟩ (by simp; omega)
    · rw [fin (by omega)]
      exact LeV.drop (by simp) (by simpa using cur_closed _ _ hcl) (by simp)
  · obtain rfl := hbn rfl
    simp
    refine br_intro' (fun h => ?_) (fun h => ?_) <;> (have h0 := h) <;> (try simp at h) <;> try simp [h0, h]
    · have h' := h
      have hwj : IntKind.i64.wrap ((j : Int) + 1) = j + 1 := wrap64 (by omega) (by omega)
      refine cur_call' rfl cb bs s1 (nodeF bs s1 0).2 hc (spec_l1DrawNode_m _ cb bs s1 0 (cur_lt _ _ hc) hb (hcl2 _ (by simp)) ⟨by omega, by omega⟩) ?_
      simp
      refine spec_l1Add_k (ns := []) (n := (nodeF bs s1 0).1) hp rfl (by simp) (by simp) ?_; simp
      refine ck_intro' (regOk_ren (fun n => if n = cb then 0 else 1) (by simp [hne, hne', hne.symm, hne'.symm]; kernel_rfl)) ?_; simp
      rw [hwj]
      exact ih (j + 1, (addF [] (nodeF bs s1 0).1).1, (nodeF bs s1 0).2, false) ⟨h', by simp, addF_pool _ hp, nxt h'⟩ (by simp; omega)
    · rw [fin (by omega)]
      exact LeV.trans (LeV.nilsl _ _) (LeV.drop (by simp) (by simpa using cur_closed _ _ hcl) (by simp))
end Go.Proofs.Ytnbodfakblbmbaa.C
