/- What sending and ending answer in the reference. Conditions: those that each theorem names. -/
import Derived.Test.YtnbodfakblbmbaaXC6
set_option linter.unusedVariables false
set_option linter.unusedSimpArgs false
namespace Go.Proofs.Ytnbodfakblbmbaa.C
open Go.Sym Go.Proofs.Ytnbodfakblbmbaa.I
/-- The word of a term; -1: it can't be. -/
def wordF (ns : List Nd) (key seq t : Int) : List Nd × Int :=
  if (addF ns ⟨1, 20 + seq, 0⟩).2 < 0 then (ns, -1)
  else if (addF (addF ns ⟨1, 20 + seq, 0⟩).1 ⟨2, (addF ns ⟨1, 20 + seq, 0⟩).2, t⟩).2 < 0 then (ns, -1)
  else if (sealF ns key seq t).2 < 0 then (ns, -1) else sealF ns key seq t
theorem sealF_eq {ns : List Nd} {key seq t : Int} (h1 : -9223372036854775808 ≤ 20 + seq) (h2 : 20 + seq < 9223372036854775808) : sealF ns key seq t = addF (addF (addF ns ⟨1, 20 + seq, 0⟩).1 ⟨2, (addF ns ⟨1, 20 + seq, 0⟩).2, t⟩).1 ⟨3, (addF (addF ns ⟨1, 20 + seq, 0⟩).1 ⟨2, (addF ns ⟨1, 20 + seq, 0⟩).2, t⟩).2, key⟩ := by
  simp only [sealF]
  rw [wrap64 h1 h2]
theorem sealF_m1 {ns : List Nd} {key seq t : Int} (h : (sealF ns key seq t).2 < 0) : (sealF ns key seq t).2 = -1 := addF_m1 h
theorem wordF_eq {ns : List Nd} {key seq t : Int} (h1 : -9223372036854775808 ≤ 20 + seq) (h2 : 20 + seq < 9223372036854775808) : wordF ns key seq t = if (sealF ns key seq t).2 < 0 then (ns, -1) else sealF ns key seq t := by
  unfold wordF
  split
  · rename_i h
    have e : (sealF ns key seq t).2 < 0 := by
      rw [sealF_eq h1 h2, addF_m1 h, addF_neg1 (by rfl) (by simp)]
      simp only
      rw [addF_neg1 (by rfl) (by simp)]
      simp
    rw [if_pos e]
  · split
    · rename_i h
      have e : (sealF ns key seq t).2 < 0 := by
        rw [sealF_eq h1 h2, addF_m1 h, addF_neg1 (by rfl) (by simp)]
        simp
      rw [if_pos e]
    · rfl
theorem spec_l18Word_c (ns : List Nd) (l : Lk) (t : Int) (hp : poolF ns = true) (hl : linkF ns.length l = true) : T 117 [aP ns, aL l, i6 t] [] (.tup [aP (wordF ns l.key l.seq t).1, i6 (wordF ns l.key l.seq t).2]) ([]) := by
  refine semT' (S := S0) hm spec_l18Word_ok (Nat.le_of_ble_eq_true rfl) ?_
  unfold spec_l18Word; dsimp only
  have hs1 : -9223372036854775808 ≤ 20 + l.seq := by simp [linkF, inF] at hl; omega
  have hs2 : 20 + l.seq < 9223372036854775808 := by simp [linkF, inF] at hl; omega
  have hw : IntKind.i64.wrap (20 + l.seq) = 20 + l.seq := wrap64 hs1 hs2
  simp
  rw [hw]
  refine spec_l2Name_call hp rfl ?_; simp
  have e : wordF ns l.key l.seq t = wordF ns l.key l.seq t := rfl
  conv at e => rhs; unfold wordF; rw [sealF_eq hs1 hs2]
  rw [e]
  have hp1 := addF_pool ⟨1, 20 + l.seq, 0⟩ hp
  generalize addF ns ⟨1, 20 + l.seq, 0⟩ = p at hp1 ⊢
  refine br_intro' (fun g => ?_) (fun g => ?_) <;> simp at g <;> simp [g]
  · exact LeV.ro rfl rfl (by simp [g])
  have g1 : ¬ p.2 < 0 := by omega
  refine spec_l1Add_call (n := ⟨2, p.2, t⟩) hp1 rfl ?_; simp
  have hp2 := addF_pool ⟨2, p.2, t⟩ hp1
  generalize addF p.1 ⟨2, p.2, t⟩ = q at hp2 ⊢
  refine br_intro' (fun g => ?_) (fun g => ?_) <;> simp at g <;> simp [g]
  · exact LeV.ro rfl rfl (by simp [g1, g])
  have g2 : ¬ q.2 < 0 := by omega
  refine spec_l1Add_call (n := ⟨3, q.2, l.key⟩) hp2 rfl ?_; simp
  generalize addF q.1 ⟨3, q.2, l.key⟩ = r
  refine br_intro' (fun g => ?_) (fun g => ?_) <;> simp at g <;> simp [g]
  · exact LeV.ro rfl rfl (by simp [g1, g2, g])
  have g3 : ¬ r.2 < 0 := by omega
  exact LeV.ro rfl rfl (by simp [g1, g2, g3])
theorem spec_l18Word_call {ns : List Nd} {l : Lk} {t : Int} (hp : poolF ns = true) (hl : linkF ns.length l = true) {S : FuncId → Bool} {H : List Blk} {K : A → Dl → Prop} (hS : S 117 = false) (hK : K (.tup [aP (wordF ns l.key l.seq t).1, i6 (wordF ns l.key l.seq t).2]) (.news [])) : @WCall' Go.Proofs.Try.prog S 117 [aP ns, aL l, i6 t] H ⟨K⟩ :=
  WCall_pure hS (spec_l18Word_c ns l t hp hl) (by simp) (by simp) (by simp) hK
theorem spec_l18Word_k {ns : List Nd} {l : Lk} {t : Int} (hp : poolF ns = true) (hl : linkF ns.length l = true) {S : FuncId → Bool} {H : List Blk} {K : A → Dl → Prop} {zs : List A} (hS : S 117 = false) (hv : viewL (viewA 8 H) zs = some [aP ns, aL l, i6 t]) (ho : noOwns zs = true ∨ nosl (.tup [aP (wordF ns l.key l.seq t).1, i6 (wordF ns l.key l.seq t).2]) = true) (hK : K (.tup [aP (wordF ns l.key l.seq t).1, i6 (wordF ns l.key l.seq t).2]) (.news [])) : @WCall' Go.Proofs.Try.prog S 117 zs H ⟨K⟩ :=
  WCall_pure hS (spec_l18Word_c ns l t hp hl) hv ho (by simp) hK
def nameF (ns : List Nd) (t x : Int) : Bool := decide (ns.getD t.toNat ⟨0, 0, 0⟩ = ⟨1, x, 0⟩)
def endF (ns : List Nd) (t : Int) : Bool := nameF ns t 8
theorem hasF_nat {m : Nat} {t : Int} (h : hasF m t = true) : ∃ j : Nat, t = j ∧ j < m := by
  simp [hasF, inF] at h
  exact ⟨t.toNat, by omega, by omega⟩
theorem spec_l18End_c (ns : List Nd) (t : Int) (hl : ns.length < 9223372036854775807) (ht : hasF ns.length t = true) : T 60 [aP ns, i6 t] [] (.bool (endF ns t)) ([]) := by
  refine semT' (S := S0) hm spec_l18End_ok (Nat.le_of_ble_eq_true rfl) ?_
  unfold spec_l18End; dsimp only
  obtain ⟨j, rfl, hj⟩ := hasF_nat ht
  obtain ⟨r, hr⟩ := enc_at hj
  have h3 : 3 ≤ ns.length * 3 - j * 3 := by omega
  simp [h3, hr, hj]
  exact LeV.ro rfl rfl (by simp [endF, nameF, hj, Nd_eq])
theorem spec_l18End_call {ns : List Nd} {t : Int} (hl : ns.length < 9223372036854775807) (ht : hasF ns.length t = true) {S : FuncId → Bool} {H : List Blk} {K : A → Dl → Prop} (hS : S 60 = false) (hK : K (.bool (endF ns t)) (.news [])) : @WCall' Go.Proofs.Try.prog S 60 [aP ns, i6 t] H ⟨K⟩ :=
  WCall_pure hS (spec_l18End_c ns t hl ht) (by simp) (by simp) (by simp) hK
theorem spec_l18End_k {ns : List Nd} {t : Int} (hl : ns.length < 9223372036854775807) (ht : hasF ns.length t = true) {S : FuncId → Bool} {H : List Blk} {K : A → Dl → Prop} {zs : List A} (hS : S 60 = false) (hv : viewL (viewA 8 H) zs = some [aP ns, i6 t]) (ho : noOwns zs = true ∨ nosl (.bool (endF ns t)) = true) (hK : K (.bool (endF ns t)) (.news [])) : @WCall' Go.Proofs.Try.prog S 60 zs H ⟨K⟩ :=
  WCall_pure hS (spec_l18End_c ns t hl ht) hv ho (by simp) hK
def sendF (ns : List Nd) (l : Lk) (t : Int) : List Nd × Lk × Int :=
  if hasF ns.length t = false ∨ endF ns t = true ∨ l.over = true ∨ l.seq = 20 then (ns, l, -1)
  else if (wordF ns l.key l.seq t).2 < 0 then (ns, l, -1)
  else ((wordF ns l.key l.seq t).1, ⟨l.key, l.epoch, l.seq + 1, l.over⟩, (wordF ns l.key l.seq t).2)
theorem spec_l18Send_c (ns : List Nd) (l : Lk) (t : Int) (hp : poolF ns = true) (hl : linkF ns.length l = true) : T 80 [aP ns, aL l, i6 t] [] (.tup [aP (sendF ns l t).1, aL (sendF ns l t).2.1, i6 (sendF ns l t).2.2]) ([]) := by
  refine semT' (S := S0) hm spec_l18Send_ok (Nat.le_of_ble_eq_true rfl) ?_
  unfold spec_l18Send; dsimp only
  have hlen := poolF_len hp
  have hw : IntKind.i64.wrap (l.seq + 1) = l.seq + 1 := by
    simp [linkF, inF] at hl
    exact wrap64 (by omega) (by omega)
  simp
  refine spec_l1Has_call (ns := ns) (t := t) (by omega) rfl ?_; simp
  refine br_intro' (fun g => ?_) (fun g => ?_) <;> simp [g]
  · refine spec_l18End_call (ns := ns) (t := t) (by omega) g rfl ?_; simp
    refine br_intro' (fun g1 => ?_) (fun g1 => ?_) <;> simp [g1]
    · first | (refine ck_intro' (by kernel_rfl) ?_; try simp) | skip
      exact LeV.ro rfl rfl (by simp [sendF, g, g1])
    refine br_intro' (fun g2 => ?_) (fun g2 => ?_) <;> simp [g2]
    · first | (refine ck_intro' (by kernel_rfl) ?_; try simp) | skip
      exact LeV.ro rfl rfl (by simp [sendF, g, g1, g2])
    refine br_intro' (fun g3 => ?_) (fun g3 => ?_) <;> simp at g3 <;> simp [g3]
    · first | (refine ck_intro' (by kernel_rfl) ?_; try simp) | skip
      exact LeV.ro rfl rfl (by simp [sendF, g, g1, g2, g3])
    refine spec_l18Word_k (ns := ns) (l := l) (t := t) hp hl rfl (by simp [g2]) (by simp) ?_; simp
    refine br_intro' (fun g4 => ?_) (fun g4 => ?_) <;> simp at g4 <;> simp [g4]
    · first | (refine ck_intro' (by kernel_rfl) ?_; try simp) | skip
      exact LeV.ro rfl rfl (by simp [sendF, g, g1, g2, g3, g4])
    · first | (refine ck_intro' (by kernel_rfl) ?_; try simp) | skip
      have g5 : ¬ (wordF ns l.key l.seq t).2 < 0 := by omega
      exact LeV.ro rfl rfl (by simp [sendF, g, g1, g2, g3, g5, hw])
  · first | (refine ck_intro' (by kernel_rfl) ?_; try simp) | skip
    exact LeV.ro rfl rfl (by simp [sendF, g])
theorem spec_l18Send_call {ns : List Nd} {l : Lk} {t : Int} (hp : poolF ns = true) (hl : linkF ns.length l = true) {S : FuncId → Bool} {H : List Blk} {K : A → Dl → Prop} (hS : S 80 = false) (hK : K (.tup [aP (sendF ns l t).1, aL (sendF ns l t).2.1, i6 (sendF ns l t).2.2]) (.news [])) : @WCall' Go.Proofs.Try.prog S 80 [aP ns, aL l, i6 t] H ⟨K⟩ :=
  WCall_pure hS (spec_l18Send_c ns l t hp hl) (by simp) (by simp) (by simp) hK
theorem spec_l18Send_k {ns : List Nd} {l : Lk} {t : Int} (hp : poolF ns = true) (hl : linkF ns.length l = true) {S : FuncId → Bool} {H : List Blk} {K : A → Dl → Prop} {zs : List A} (hS : S 80 = false) (hv : viewL (viewA 8 H) zs = some [aP ns, aL l, i6 t]) (ho : noOwns zs = true ∨ nosl (.tup [aP (sendF ns l t).1, aL (sendF ns l t).2.1, i6 (sendF ns l t).2.2]) = true) (hK : K (.tup [aP (sendF ns l t).1, aL (sendF ns l t).2.1, i6 (sendF ns l t).2.2]) (.news [])) : @WCall' Go.Proofs.Try.prog S 80 zs H ⟨K⟩ :=
  WCall_pure hS (spec_l18Send_c ns l t hp hl) hv ho (by simp) hK
theorem wordF_len (ns : List Nd) (key seq t : Int) (h : ns.length ≤ 500) : (wordF ns key seq t).1.length ≤ 500 := by
  unfold wordF
  split
  · exact h
  · split
    · exact h
    · split
      · exact h
      · exact sealF_len _ _ _ _ h
theorem sendF_len (ns : List Nd) (l : Lk) (t : Int) (h : ns.length ≤ 500) : (sendF ns l t).1.length ≤ 500 := by
  unfold sendF
  split
  · exact h
  · split
    · exact h
    · exact wordF_len _ _ _ _ h
/-- What LinkSend answers. -/
def linkSendF (ns : List Nd) (l : Lk) (t : Int) : List Nd × Lk × Int := if lkF ns l then sendF ns l t else (orE ns, l, -1)
theorem spec_LinkSend_c (ns : List Nd) (l : Lk) (t : Int) (hl : ns.length ≤ 4294967296) : T 31 [aP ns, aL l, i6 t] [] (.tup [.agg [pref 0 (linkSendF ns l t).1], aL (linkSendF ns l t).2.1, i6 (linkSendF ns l t).2.2]) ([pblk (linkSendF ns l t).1]) := by
  refine semT' (S := S0) hm spec_LinkSend_ok (Nat.le_of_ble_eq_true rfl) ?_
  unfold spec_LinkSend; dsimp only
  simp
  refine spec_PoolOk_call rfl ?_; simp
  refine br_intro' (fun h => ?_) (fun h => ?_) <;> simp [h]
  · refine spec_l18Link_call (ns := ns) (l := l) (by omega) rfl ?_; simp
    refine br_intro' (fun h1 => ?_) (fun h1 => ?_) <;> simp [h1]
    · refine spec_l18Send_call (t := t) h h1 rfl ?_; simp
      have e : linkSendF ns l t = sendF ns l t := by simp [linkSendF, lkF, h, h1]
      rw [e]
      have := sendF_len ns l t (poolF_len h)
      generalize sendF ns l t = r at this ⊢
      refine spec_l1Copy_k (ns := r.1) (by omega) rfl (by simp) (by simp [noslBlks]) ?_; simp [shiftB]
      first | (refine ck_intro' (by kernel_rfl) ?_; try simp) | skip
      first | (refine LeV.tell [none] ?_ ?_ ?_ <;> (simp; done)) | (refine LeV.tell [some 0] ?_ ?_ ?_ <;> (simp; done)) | (refine LeV.tell [some 1] ?_ ?_ ?_ <;> (simp; done)) | (refine LeV.tell [some 2] ?_ ?_ ?_ <;> (simp; done)) | (refine LeV.tell [some 3] ?_ ?_ ?_ <;> (simp; done)) | (refine LeV.tell [some 4] ?_ ?_ ?_ <;> (simp; done)) | (refine LeV.tell [some 5] ?_ ?_ ?_ <;> (simp; done)) | (refine LeV.tell [some 6] ?_ ?_ ?_ <;> (simp; done)) | (refine LeV.tell [some 7] ?_ ?_ ?_ <;> (simp; done)) | (refine LeV.tell [some 8] ?_ ?_ ?_ <;> (simp; done)) | (refine LeV.tell [some 9] ?_ ?_ ?_ <;> (simp; done)) | (refine LeV.tell [some 10] ?_ ?_ ?_ <;> (simp; done)) | (refine LeV.tell [some 11] ?_ ?_ ?_ <;> (simp; done)) | (refine LeV.tell [some 12] ?_ ?_ ?_ <;> (simp; done)) | (refine LeV.tell [some 13] ?_ ?_ ?_ <;> (simp; done)) | (refine LeV.tell [some 14] ?_ ?_ ?_ <;> (simp; done)) | (refine LeV.tell [some 15] ?_ ?_ ?_ <;> (simp; done))
    · have e : linkSendF ns l t = (ns, l, -1) := by simp [linkSendF, lkF, h, h1, orE]
      rw [e]
      refine spec_l1Copy_k (ns := ns) (by omega) rfl (by simp) (by simp [noslBlks]) ?_; simp [shiftB]
      first | (refine ck_intro' (by kernel_rfl) ?_; try simp) | skip
      first | (refine LeV.tell [none] ?_ ?_ ?_ <;> (simp; done)) | (refine LeV.tell [some 0] ?_ ?_ ?_ <;> (simp; done)) | (refine LeV.tell [some 1] ?_ ?_ ?_ <;> (simp; done)) | (refine LeV.tell [some 2] ?_ ?_ ?_ <;> (simp; done)) | (refine LeV.tell [some 3] ?_ ?_ ?_ <;> (simp; done)) | (refine LeV.tell [some 4] ?_ ?_ ?_ <;> (simp; done)) | (refine LeV.tell [some 5] ?_ ?_ ?_ <;> (simp; done)) | (refine LeV.tell [some 6] ?_ ?_ ?_ <;> (simp; done)) | (refine LeV.tell [some 7] ?_ ?_ ?_ <;> (simp; done)) | (refine LeV.tell [some 8] ?_ ?_ ?_ <;> (simp; done)) | (refine LeV.tell [some 9] ?_ ?_ ?_ <;> (simp; done)) | (refine LeV.tell [some 10] ?_ ?_ ?_ <;> (simp; done)) | (refine LeV.tell [some 11] ?_ ?_ ?_ <;> (simp; done)) | (refine LeV.tell [some 12] ?_ ?_ ?_ <;> (simp; done)) | (refine LeV.tell [some 13] ?_ ?_ ?_ <;> (simp; done)) | (refine LeV.tell [some 14] ?_ ?_ ?_ <;> (simp; done)) | (refine LeV.tell [some 15] ?_ ?_ ?_ <;> (simp; done))
  · have e : linkSendF ns l t = ([], l, -1) := by simp [linkSendF, lkF, h, orE]
    rw [e]
    first | (refine ck_intro' (by kernel_rfl) ?_; try simp) | skip
    first | (refine LeV.tell [none] ?_ ?_ ?_ <;> (simp; done)) | (refine LeV.tell [some 0] ?_ ?_ ?_ <;> (simp; done)) | (refine LeV.tell [some 1] ?_ ?_ ?_ <;> (simp; done)) | (refine LeV.tell [some 2] ?_ ?_ ?_ <;> (simp; done)) | (refine LeV.tell [some 3] ?_ ?_ ?_ <;> (simp; done)) | (refine LeV.tell [some 4] ?_ ?_ ?_ <;> (simp; done)) | (refine LeV.tell [some 5] ?_ ?_ ?_ <;> (simp; done)) | (refine LeV.tell [some 6] ?_ ?_ ?_ <;> (simp; done)) | (refine LeV.tell [some 7] ?_ ?_ ?_ <;> (simp; done)) | (refine LeV.tell [some 8] ?_ ?_ ?_ <;> (simp; done)) | (refine LeV.tell [some 9] ?_ ?_ ?_ <;> (simp; done)) | (refine LeV.tell [some 10] ?_ ?_ ?_ <;> (simp; done)) | (refine LeV.tell [some 11] ?_ ?_ ?_ <;> (simp; done)) | (refine LeV.tell [some 12] ?_ ?_ ?_ <;> (simp; done)) | (refine LeV.tell [some 13] ?_ ?_ ?_ <;> (simp; done)) | (refine LeV.tell [some 14] ?_ ?_ ?_ <;> (simp; done)) | (refine LeV.tell [some 15] ?_ ?_ ?_ <;> (simp; done))
theorem spec_LinkSend_k {ns : List Nd} {l : Lk} {t : Int} (hl : ns.length ≤ 4294967296) {S : FuncId → Bool} {H : List Blk} {K : A → Dl → Prop} {zs : List A} (hS : S 31 = false) (hv : viewL (viewA 8 H) zs = some [aP ns, aL l, i6 t]) (ho : noOwns zs = true ∨ nosl (.tup [.agg [pref 0 (linkSendF ns l t).1], aL (linkSendF ns l t).2.1, i6 (linkSendF ns l t).2.2]) = true ∧ noslBlks ([pblk (linkSendF ns l t).1]) = true) (hK : K (shiftA H.length (.tup [.agg [pref 0 (linkSendF ns l t).1], aL (linkSendF ns l t).2.1, i6 (linkSendF ns l t).2.2])) (.news (([pblk (linkSendF ns l t).1]).map (shiftB H.length)))) : @WCall' Go.Proofs.Try.prog S 31 zs H ⟨K⟩ :=
  WCall_ro' hS hv (spec_LinkSend_c ns l t hl) rfl ho hK
def closeF (ns : List Nd) (l : Lk) : List Nd × Lk × Int :=
  if l.over = true ∨ l.seq = 20 then (ns, l, -1)
  else if (addF ns ⟨1, 8, 0⟩).2 < 0 then (ns, l, -1)
  else if (wordF (addF ns ⟨1, 8, 0⟩).1 l.key l.seq (addF ns ⟨1, 8, 0⟩).2).2 < 0 then (ns, l, -1)
  else ((wordF (addF ns ⟨1, 8, 0⟩).1 l.key l.seq (addF ns ⟨1, 8, 0⟩).2).1, ⟨l.key, l.epoch, l.seq, true⟩, (wordF (addF ns ⟨1, 8, 0⟩).1 l.key l.seq (addF ns ⟨1, 8, 0⟩).2).2)
theorem linkF_mono {m m' : Nat} {l : Lk} (h : m ≤ m') (hl : linkF m l = true) : linkF m' l = true := by
  simp [linkF, hasF, inF] at hl ⊢
  omega
theorem spec_l18Close_c (ns : List Nd) (l : Lk) (hp : poolF ns = true) (hl : linkF ns.length l = true) : T 85 [aP ns, aL l] [] (.tup [aP (closeF ns l).1, aL (closeF ns l).2.1, i6 (closeF ns l).2.2]) ([]) := by
  refine semT' (S := S0) hm spec_l18Close_ok (Nat.le_of_ble_eq_true rfl) ?_
  unfold spec_l18Close; dsimp only
  have hlen := poolF_len hp
  simp
  refine br_intro' (fun g2 => ?_) (fun g2 => ?_) <;> simp [g2]
  · first | (refine ck_intro' (by kernel_rfl) ?_; try simp) | skip
    exact LeV.ro rfl rfl (by simp [closeF, g2])
  refine br_intro' (fun g3 => ?_) (fun g3 => ?_) <;> simp at g3 <;> simp [g3]
  · first | (refine ck_intro' (by kernel_rfl) ?_; try simp) | skip
    exact LeV.ro rfl rfl (by simp [closeF, g2, g3])
  refine spec_l2Name_call hp rfl ?_; simp
  have hp1 := addF_pool ⟨1, 8, 0⟩ hp
  have hl1 := linkF_mono (addF_ge ns ⟨1, 8, 0⟩) hl
  have e : closeF ns l = if (addF ns ⟨1, 8, 0⟩).2 < 0 then (ns, l, -1)
      else if (wordF (addF ns ⟨1, 8, 0⟩).1 l.key l.seq (addF ns ⟨1, 8, 0⟩).2).2 < 0 then (ns, l, -1)
      else ((wordF (addF ns ⟨1, 8, 0⟩).1 l.key l.seq (addF ns ⟨1, 8, 0⟩).2).1, ⟨l.key, l.epoch, l.seq, true⟩, (wordF (addF ns ⟨1, 8, 0⟩).1 l.key l.seq (addF ns ⟨1, 8, 0⟩).2).2) := by
    simp [closeF, g2, g3]
  rw [e]
  generalize addF ns ⟨1, 8, 0⟩ = p at hp1 hl1 ⊢
  refine br_intro' (fun g => ?_) (fun g => ?_) <;> simp at g <;> simp [g]
  · first | (refine ck_intro' (by kernel_rfl) ?_; try simp) | skip
    exact LeV.ro rfl rfl (by simp [g2, g])
  have g1 : ¬ p.2 < 0 := by omega
  refine spec_l18Word_k (ns := p.1) (l := l) (t := p.2) hp1 hl1 rfl (by simp [g2]) (by simp) ?_; simp
  generalize wordF p.1 l.key l.seq p.2 = q
  refine br_intro' (fun g4 => ?_) (fun g4 => ?_) <;> simp at g4 <;> simp [g4]
  · first | (refine ck_intro' (by kernel_rfl) ?_; try simp) | skip
    exact LeV.ro rfl rfl (by simp [g1, g2, g4])
  · first | (refine ck_intro' (by kernel_rfl) ?_; try simp) | skip
    have g5 : ¬ q.2 < 0 := by omega
    exact LeV.ro rfl rfl (by simp [g1, g5])
theorem spec_l18Close_call {ns : List Nd} {l : Lk} (hp : poolF ns = true) (hl : linkF ns.length l = true) {S : FuncId → Bool} {H : List Blk} {K : A → Dl → Prop} (hS : S 85 = false) (hK : K (.tup [aP (closeF ns l).1, aL (closeF ns l).2.1, i6 (closeF ns l).2.2]) (.news [])) : @WCall' Go.Proofs.Try.prog S 85 [aP ns, aL l] H ⟨K⟩ :=
  WCall_pure hS (spec_l18Close_c ns l hp hl) (by simp) (by simp) (by simp) hK
theorem spec_l18Close_k {ns : List Nd} {l : Lk} (hp : poolF ns = true) (hl : linkF ns.length l = true) {S : FuncId → Bool} {H : List Blk} {K : A → Dl → Prop} {zs : List A} (hS : S 85 = false) (hv : viewL (viewA 8 H) zs = some [aP ns, aL l]) (ho : noOwns zs = true ∨ nosl (.tup [aP (closeF ns l).1, aL (closeF ns l).2.1, i6 (closeF ns l).2.2]) = true) (hK : K (.tup [aP (closeF ns l).1, aL (closeF ns l).2.1, i6 (closeF ns l).2.2]) (.news [])) : @WCall' Go.Proofs.Try.prog S 85 zs H ⟨K⟩ :=
  WCall_pure hS (spec_l18Close_c ns l hp hl) hv ho (by simp) hK
theorem closeF_len (ns : List Nd) (l : Lk) (h : ns.length ≤ 500) : (closeF ns l).1.length ≤ 500 := by
  unfold closeF
  split
  · exact h
  · split
    · exact h
    · split
      · exact h
      · exact wordF_len _ _ _ _ (addF_len _ _ h)
/-- What LinkEnd answers. -/
def linkEndF (ns : List Nd) (l : Lk) : List Nd × Lk × Int := if lkF ns l then closeF ns l else (orE ns, l, -1)
theorem spec_LinkEnd_c (ns : List Nd) (l : Lk) (hl : ns.length ≤ 4294967296) : T 36 [aP ns, aL l] [] (.tup [.agg [pref 0 (linkEndF ns l).1], aL (linkEndF ns l).2.1, i6 (linkEndF ns l).2.2]) ([pblk (linkEndF ns l).1]) := by
  refine semT' (S := S0) hm spec_LinkEnd_ok (Nat.le_of_ble_eq_true rfl) ?_
  unfold spec_LinkEnd; dsimp only
  simp
  refine spec_PoolOk_call rfl ?_; simp
  refine br_intro' (fun h => ?_) (fun h => ?_) <;> simp [h]
  · refine spec_l18Link_call (ns := ns) (l := l) (by omega) rfl ?_; simp
    refine br_intro' (fun h1 => ?_) (fun h1 => ?_) <;> simp [h1]
    · refine spec_l18Close_call h h1 rfl ?_; simp
      have e : linkEndF ns l = closeF ns l := by simp [linkEndF, lkF, h, h1]
      rw [e]
      have := closeF_len ns l (poolF_len h)
      generalize closeF ns l = r at this ⊢
      refine spec_l1Copy_k (ns := r.1) (by omega) rfl (by simp) (by simp [noslBlks]) ?_; simp [shiftB]
      first | (refine ck_intro' (by kernel_rfl) ?_; try simp) | skip
      first | (refine LeV.tell [none] ?_ ?_ ?_ <;> (simp; done)) | (refine LeV.tell [some 0] ?_ ?_ ?_ <;> (simp; done)) | (refine LeV.tell [some 1] ?_ ?_ ?_ <;> (simp; done)) | (refine LeV.tell [some 2] ?_ ?_ ?_ <;> (simp; done)) | (refine LeV.tell [some 3] ?_ ?_ ?_ <;> (simp; done)) | (refine LeV.tell [some 4] ?_ ?_ ?_ <;> (simp; done)) | (refine LeV.tell [some 5] ?_ ?_ ?_ <;> (simp; done)) | (refine LeV.tell [some 6] ?_ ?_ ?_ <;> (simp; done)) | (refine LeV.tell [some 7] ?_ ?_ ?_ <;> (simp; done)) | (refine LeV.tell [some 8] ?_ ?_ ?_ <;> (simp; done)) | (refine LeV.tell [some 9] ?_ ?_ ?_ <;> (simp; done)) | (refine LeV.tell [some 10] ?_ ?_ ?_ <;> (simp; done)) | (refine LeV.tell [some 11] ?_ ?_ ?_ <;> (simp; done)) | (refine LeV.tell [some 12] ?_ ?_ ?_ <;> (simp; done)) | (refine LeV.tell [some 13] ?_ ?_ ?_ <;> (simp; done)) | (refine LeV.tell [some 14] ?_ ?_ ?_ <;> (simp; done)) | (refine LeV.tell [some 15] ?_ ?_ ?_ <;> (simp; done))
    · have e : linkEndF ns l = (ns, l, -1) := by simp [linkEndF, lkF, h, h1, orE]
      rw [e]
      refine spec_l1Copy_k (ns := ns) (by omega) rfl (by simp) (by simp [noslBlks]) ?_; simp [shiftB]
      first | (refine ck_intro' (by kernel_rfl) ?_; try simp) | skip
      first | (refine LeV.tell [none] ?_ ?_ ?_ <;> (simp; done)) | (refine LeV.tell [some 0] ?_ ?_ ?_ <;> (simp; done)) | (refine LeV.tell [some 1] ?_ ?_ ?_ <;> (simp; done)) | (refine LeV.tell [some 2] ?_ ?_ ?_ <;> (simp; done)) | (refine LeV.tell [some 3] ?_ ?_ ?_ <;> (simp; done)) | (refine LeV.tell [some 4] ?_ ?_ ?_ <;> (simp; done)) | (refine LeV.tell [some 5] ?_ ?_ ?_ <;> (simp; done)) | (refine LeV.tell [some 6] ?_ ?_ ?_ <;> (simp; done)) | (refine LeV.tell [some 7] ?_ ?_ ?_ <;> (simp; done)) | (refine LeV.tell [some 8] ?_ ?_ ?_ <;> (simp; done)) | (refine LeV.tell [some 9] ?_ ?_ ?_ <;> (simp; done)) | (refine LeV.tell [some 10] ?_ ?_ ?_ <;> (simp; done)) | (refine LeV.tell [some 11] ?_ ?_ ?_ <;> (simp; done)) | (refine LeV.tell [some 12] ?_ ?_ ?_ <;> (simp; done)) | (refine LeV.tell [some 13] ?_ ?_ ?_ <;> (simp; done)) | (refine LeV.tell [some 14] ?_ ?_ ?_ <;> (simp; done)) | (refine LeV.tell [some 15] ?_ ?_ ?_ <;> (simp; done))
  · have e : linkEndF ns l = ([], l, -1) := by simp [linkEndF, lkF, h, orE]
    rw [e]
    first | (refine ck_intro' (by kernel_rfl) ?_; try simp) | skip
    first | (refine LeV.tell [none] ?_ ?_ ?_ <;> (simp; done)) | (refine LeV.tell [some 0] ?_ ?_ ?_ <;> (simp; done)) | (refine LeV.tell [some 1] ?_ ?_ ?_ <;> (simp; done)) | (refine LeV.tell [some 2] ?_ ?_ ?_ <;> (simp; done)) | (refine LeV.tell [some 3] ?_ ?_ ?_ <;> (simp; done)) | (refine LeV.tell [some 4] ?_ ?_ ?_ <;> (simp; done)) | (refine LeV.tell [some 5] ?_ ?_ ?_ <;> (simp; done)) | (refine LeV.tell [some 6] ?_ ?_ ?_ <;> (simp; done)) | (refine LeV.tell [some 7] ?_ ?_ ?_ <;> (simp; done)) | (refine LeV.tell [some 8] ?_ ?_ ?_ <;> (simp; done)) | (refine LeV.tell [some 9] ?_ ?_ ?_ <;> (simp; done)) | (refine LeV.tell [some 10] ?_ ?_ ?_ <;> (simp; done)) | (refine LeV.tell [some 11] ?_ ?_ ?_ <;> (simp; done)) | (refine LeV.tell [some 12] ?_ ?_ ?_ <;> (simp; done)) | (refine LeV.tell [some 13] ?_ ?_ ?_ <;> (simp; done)) | (refine LeV.tell [some 14] ?_ ?_ ?_ <;> (simp; done)) | (refine LeV.tell [some 15] ?_ ?_ ?_ <;> (simp; done))
theorem spec_LinkEnd_k {ns : List Nd} {l : Lk} (hl : ns.length ≤ 4294967296) {S : FuncId → Bool} {H : List Blk} {K : A → Dl → Prop} {zs : List A} (hS : S 36 = false) (hv : viewL (viewA 8 H) zs = some [aP ns, aL l]) (ho : noOwns zs = true ∨ nosl (.tup [.agg [pref 0 (linkEndF ns l).1], aL (linkEndF ns l).2.1, i6 (linkEndF ns l).2.2]) = true ∧ noslBlks ([pblk (linkEndF ns l).1]) = true) (hK : K (shiftA H.length (.tup [.agg [pref 0 (linkEndF ns l).1], aL (linkEndF ns l).2.1, i6 (linkEndF ns l).2.2])) (.news (([pblk (linkEndF ns l).1]).map (shiftB H.length)))) : @WCall' Go.Proofs.Try.prog S 36 zs H ⟨K⟩ :=
  WCall_ro' hS hv (spec_LinkEnd_c ns l hl) rfl ho hK
end Go.Proofs.Ytnbodfakblbmbaa.C
