/- The law FnTakes: every call of it answers true. Conditions: those that each theorem names. -/
import Derived.Test.YtnbodfakblbmbaaXP2
import Derived.Test.YtnbodfakblbmbaaXD5
import Derived.Test.YtnbodfakblbmbaaXL1
set_option linter.unusedVariables false
set_option linter.unusedSimpArgs false
set_option maxRecDepth 4000
namespace Go.Proofs.Ytnbodfakblbmbaa.C
open Go.Sym Go.Proofs.Ytnbodfakblbmbaa.I
theorem laws_big_c (bs : List Int)  : T 33 [aB bs] [] (.bool (decide (1048576 < bs.length))) ([]) := by
  refine semT' (S := S0) hm laws_big_ok (Nat.le_of_ble_eq_true rfl) ?_
  unfold laws_big; dsimp only
  simp
  exact LeV.ro rfl rfl (by simp; omega)
theorem laws_big_call {bs : List Int}  {S : FuncId → Bool} {H : List Blk} {K : A → Dl → Prop} (hS : S 33 = false) (hK : K (.bool (decide (1048576 < bs.length))) (.news [])) : @WCall' Go.Proofs.Try.prog S 33 [aB bs] H ⟨K⟩ :=
  WCall_pure hS (laws_big_c bs) (by simp) (by simp) (by simp) hK
theorem laws_big_k {bs : List Int}  {S : FuncId → Bool} {H : List Blk} {K : A → Dl → Prop} {zs : List A} (hS : S 33 = false) (hv : viewL (viewA 8 H) zs = some [aB bs]) (ho : noOwns zs = true ∨ nosl (.bool (decide (1048576 < bs.length))) = true) (hK : K (.bool (decide (1048576 < bs.length))) (.news [])) : @WCall' Go.Proofs.Try.prog S 33 zs H ⟨K⟩ :=
  WCall_pure hS (laws_big_c bs) hv ho (by simp) hK
/-- What is taken: nothing, or a word under the link's key with its number. -/
theorem takeF_spec (ns : List Nd) (l : Lk) (w : Int) :
    ((takeF ns l w).2.2 ≠ 0 ∧ (takeF ns l w).1 = l ∧ (takeF ns l w).2.1 = -1) ∨
    ((takeF ns l w).2.2 = 0 ∧ hasF ns.length w = true ∧ lkF ns l = true ∧ l.over = false ∧ (nodeAt ns w).k = 3 ∧ (nodeAt ns w).b = l.key ∧ (nodeAt ns (nodeAt ns w).a).k = 2 ∧ nodeAt ns (nodeAt ns (nodeAt ns w).a).a = ⟨1, 20 + l.seq, 0⟩ ∧
      ((takeF ns l w).1 = ⟨l.key, l.epoch, l.seq, true⟩ ∧ (takeF ns l w).2.1 = -1 ∨ (takeF ns l w).1 = ⟨l.key, l.epoch, l.seq + 1, l.over⟩ ∧ (takeF ns l w).2.1 = (nodeAt ns (nodeAt ns w).a).b)) := by
  unfold takeF
  split
  · left; simp
  · rename_i h1
    split
    · left; simp
    · rename_i h2
      split
      · left; simp
      · rename_i h3
        split
        · left; simp
        · rename_i h4
          simp only [not_or] at h1 h3 h4
          have hs : nodeAt ns (nodeAt ns (nodeAt ns w).a).a = ⟨1, 20 + l.seq, 0⟩ := by simpa [nameF_at] using h4.2
          split
          · right
            exact ⟨rfl, by simpa using h1.1, by simpa using h1.2, by simpa using h2, by simpa using h3.1, by simpa using h3.2.1, by simpa using h3.2.2, hs, .inl ⟨rfl, rfl⟩⟩
          · right
            exact ⟨rfl, by simpa using h1.1, by simpa using h1.2, by simpa using h2, by simpa using h3.1, by simpa using h3.2.1, by simpa using h3.2.2, hs, .inr ⟨rfl, rfl⟩⟩
theorem laws_FnTakes_c (bs : List Int) (ha : bs.length < 9223372036854775808) : T 10 [aB bs] [] (.bool true) ([]) := by
  refine semT' (S := S0) hm laws_FnTakes_ok (Nat.le_of_ble_eq_true rfl) ?_
  unfold laws_FnTakes; dsimp only
  simp
  refine laws_big_k (bs := bs) rfl (by simp) (by simp) ?_; simp
  refine br_intro' (fun g => ?_) (fun g => ?_) <;> simp only [decide_eq_true_eq, decide_eq_false_iff_not] at g <;> simp [g]
  · exact LeV.ro rfl rfl rfl
  have hb : bs.length < 9223372036854775807 := by omega
  have hl := tkF_len bs
  have hq : (tkF bs).pool.length < 9223372036854775807 := by omega
  refine spec_DrawLinkTake_k (bs := bs) hb rfl (by simp) (by simp [noslBlks]) ?_; simp [shiftB]
  refine impl_LinkTake_k (ns := (tkF bs).pool) (l := (tkF bs).link) (w := (tkF bs).term) hq rfl (by simp) (by simp [noslBlks]) ?_; simp [shiftB]
  first | (refine ck_intro' (by kernel_rfl) ?_; try simp) | skip
  refine spec_LinkTake_k (ns := (tkF bs).pool) (l := (tkF bs).link) (w := (tkF bs).term) hq rfl (by simp) (by simp [noslBlks]) ?_; simp [shiftB]
  have hS := takeF_spec (tkF bs).pool (tkF bs).link (tkF bs).term
  generalize (tkF bs).pool = ns at hl hq hS ⊢
  generalize (tkF bs).link = l at hS ⊢
  generalize (tkF bs).term = w at hS ⊢
  generalize takeF ns l w = r at hS ⊢
  rcases hS with ⟨s1, s2, s3⟩ | ⟨s1, s2, s3, s4, s5, s6, s7, s8, s9⟩
  · simp [s1, s2, s3]
    first | (refine ck_intro' (by kernel_rfl) ?_; try simp) | skip
    exact LeV.ro rfl rfl rfl
  · simp [s1]
    have hp : poolF ns = true := by simp [lkF] at s3; exact s3.1
    obtain ⟨j, rfl, hj⟩ := hasF_nat s2
    rw [nodeAt_nat hj] at s5 s6 s7 s8 s9
    obtain ⟨⟨a, ea, la⟩, _⟩ := parts_in hp hj (by rw [s5]; rfl)
    have ha' : a < ns.length := by omega
    rw [ea, nodeAt_nat ha'] at s7 s8 s9
    obtain ⟨⟨x, ex, lx⟩, y, ey, ly⟩ := parts_in hp ha' (by rw [s7]; rfl)
    have hx' : x < ns.length := by omega
    rw [ex, nodeAt_nat hx'] at s8
    rw [ey] at s9
    have q1 : partsOfF ns j = [(a : Int), l.key] := by
      rw [partsOfF, if_pos ⟨s2, hp⟩, nodeAt_nat hj]
      simp [partsL, partsF, s5, s6, ea]
    have q2 : partsOfF ns a = [(x : Int), (y : Int)] := by
      rw [partsOfF, if_pos ⟨hasF_of ha', hp⟩, nodeAt_nat ha']
      simp [partsL, partsF, s7, ex, ey]
    obtain ⟨r1, hr1⟩ := enc_at hj
    obtain ⟨r2, hr2⟩ := enc_at ha'
    obtain ⟨r3, hr3⟩ := enc_at hx'
    have h31 : 3 ≤ ns.length * 3 - j * 3 := by omega
    have h32 : 3 ≤ ns.length * 3 - x * 3 := by omega
    have hsq : 0 ≤ l.seq ∧ l.seq ≤ 20 := by simp [lkF, linkF, inF] at s3; omega
    have w1 : IntKind.i64.wrap (20 + l.seq) = 20 + l.seq := wrap64 (by omega) (by omega)
    have w2 : IntKind.i64.wrap (l.seq + 1) = l.seq + 1 := wrap64 (by omega) (by omega)
    refine impl_PartsOf_k (ns := ns) (t := j) hq rfl (by simp) (by simp [noslBlks]) ?_; simp [shiftB]
    rw [q1]
    simp [hj, h31, hr1, s5]
    first | (refine ck_intro' (by kernel_rfl) ?_; try simp) | skip
    refine impl_PartsOf_k (ns := ns) (t := a) hq rfl (by simp) (by simp [noslBlks]) ?_; simp [shiftB]
    rw [q2]
    first | (refine ck_intro' (by kernel_rfl) ?_; try simp) | skip
    try simp [hx', h32, hr3, s8, w1, w2]
    first | (refine ck_intro' (by kernel_rfl) ?_; try simp) | skip
    rcases s9 with ⟨e1, e2⟩ | ⟨e1, e2⟩
    · simp [e1, e2, s4, w1, w2]
      exact LeV.ro rfl rfl rfl
    · simp [e1, e2, s4, w1, w2]
      exact LeV.ro rfl rfl rfl
end Go.Proofs.Ytnbodfakblbmbaa.C
