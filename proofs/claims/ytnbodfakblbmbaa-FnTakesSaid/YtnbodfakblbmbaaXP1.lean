/- Plain facts: what a word that was made is taken as; a link that was turned or ended. Conditions: those that each theorem names. -/
import Derived.Test.YtnbodfakblbmbaaXC9
set_option linter.unusedVariables false
set_option linter.unusedSimpArgs false
namespace Go.Proofs.Ytnbodfakblbmbaa.C
theorem addF_at {ns : List Nd} {n : Nd} (h : 0 ≤ (addF ns n).2) : ∃ j : Nat, (addF ns n).2 = j ∧ j < (addF ns n).1.length ∧ nodeAt (addF ns n).1 j = normN n := by
  unfold addF at h ⊢
  split
  · rename_i e; rw [if_pos e] at h; simp at h
  · rename_i e
    rw [if_neg e] at h
    split
    · rename_i e1
      obtain ⟨j, hj, e2, e3⟩ := findF_at ns (normN n) 0 e1
      exact ⟨j, by simpa using e2, hj, by rw [nodeAt_nat hj, e3]⟩
    · rename_i e1
      rw [if_neg e1] at h
      split
      · rename_i e2; rw [if_pos e2] at h; simp at h
      · exact ⟨ns.length, rfl, by simp, by rw [nodeAt_nat (by simp)]; simp⟩
theorem addF_pre {ns : List Nd} (n : Nd) {t : Int} (h0 : 0 ≤ t) (h : t < ns.length) : nodeAt (addF ns n).1 t = nodeAt ns t := by
  have key : ∀ ms : List Nd, nodeAt (ns ++ ms) t = nodeAt ns t := fun ms => by
    have : t.toNat < ns.length := by omega
    simp [nodeAt, List.getElem?_append_left this]
  unfold addF
  split
  · rfl
  · split
    · rfl
    · split
      · rfl
      · exact key _
/-- A word as it stands in a pool. -/
structure Sealed (q : List Nd) (key seq t w : Int) : Prop where
  ex : ∃ p s : Int, nodeAt q w = ⟨3, p, key⟩ ∧ nodeAt q p = ⟨2, s, t⟩ ∧ nodeAt q s = ⟨1, 20 + seq, 0⟩
  has : hasF q.length w = true
theorem hasF_int {m : Nat} {t : Int} (h0 : 0 ≤ t) (h : t < m) : hasF m t = true := by simp [hasF, inF]; omega
theorem sealF_made {ns : List Nd} {key seq t : Int} (h1 : -9223372036854775808 ≤ 20 + seq) (h2 : 20 + seq < 9223372036854775808) (hp : poolF ns = true) (h : 0 ≤ (sealF ns key seq t).2) :
    Sealed (sealF ns key seq t).1 key seq t (sealF ns key seq t).2 ∧ poolF (sealF ns key seq t).1 = true ∧ ns.length ≤ (sealF ns key seq t).1.length ∧ ∀ i : Int, 0 ≤ i → i < ns.length → nodeAt (sealF ns key seq t).1 i = nodeAt ns i := by
  rw [sealF_eq h1 h2] at h ⊢
  have n1 : normN ⟨1, 20 + seq, 0⟩ = ⟨1, 20 + seq, 0⟩ := by simp [normN]
  have a1 := @addF_at ns ⟨1, 20 + seq, 0⟩
  have p1 := addF_pool ⟨1, 20 + seq, 0⟩ hp
  have g1 := addF_ge ns ⟨1, 20 + seq, 0⟩
  have e1 : ∀ i : Int, 0 ≤ i → i < ns.length → nodeAt (addF ns ⟨1, 20 + seq, 0⟩).1 i = nodeAt ns i := fun i h0 h => addF_pre _ h0 h
  have m1 := @addF_m1 ns ⟨1, 20 + seq, 0⟩
  generalize addF ns ⟨1, 20 + seq, 0⟩ = x at *
  have n2 : normN ⟨2, x.2, t⟩ = ⟨2, x.2, t⟩ := by simp [normN]
  have a2 := @addF_at x.1 ⟨2, x.2, t⟩
  have p2 := addF_pool ⟨2, x.2, t⟩ p1
  have g2 := addF_ge x.1 ⟨2, x.2, t⟩
  have e2 : ∀ i : Int, 0 ≤ i → i < x.1.length → nodeAt (addF x.1 ⟨2, x.2, t⟩).1 i = nodeAt x.1 i := fun i h0 h => addF_pre _ h0 h
  have m2 := @addF_m1 x.1 ⟨2, x.2, t⟩
  have f2 : x.2 < 0 → (addF x.1 ⟨2, x.2, t⟩).2 = -1 := fun g => by rw [m1 g, addF_neg1 (by rfl) (by simp)]
  generalize addF x.1 ⟨2, x.2, t⟩ = y at *
  have n3 : normN ⟨3, y.2, key⟩ = ⟨3, y.2, key⟩ := by simp [normN]
  have a3 := @addF_at y.1 ⟨3, y.2, key⟩
  have p3 := addF_pool ⟨3, y.2, key⟩ p2
  have g3 := addF_ge y.1 ⟨3, y.2, key⟩
  have e3 : ∀ i : Int, 0 ≤ i → i < y.1.length → nodeAt (addF y.1 ⟨3, y.2, key⟩).1 i = nodeAt y.1 i := fun i h0 h => addF_pre _ h0 h
  have f3 : y.2 < 0 → (addF y.1 ⟨3, y.2, key⟩).2 = -1 := fun g => by rw [m2 g, addF_neg1 (by rfl) (by simp)]
  generalize addF y.1 ⟨3, y.2, key⟩ = z at *
  have hy : 0 ≤ y.2 := by
    rcases Int.lt_or_le y.2 0 with g | g
    · rw [f3 g] at h; omega
    · exact g
  have hx : 0 ≤ x.2 := by
    rcases Int.lt_or_le x.2 0 with g | g
    · rw [f2 g] at hy; omega
    · exact g
  obtain ⟨i1, c1, d1, w1⟩ := a1 hx
  obtain ⟨i2, c2, d2, w2⟩ := a2 hy
  obtain ⟨i3, c3, d3, w3⟩ := a3 h
  refine ⟨⟨⟨y.2, x.2, ?_, ?_, ?_⟩, hasF_int h (by omega)⟩, p3, by omega, fun i h0 hi => ?_⟩
  · rw [c3, w3, n3]
  · rw [e3 _ hy (by omega), c2, w2, n2]
  · rw [e3 _ hx (by omega), e2 _ hx (by omega), c1, w1, n1]
  · rw [e3 _ h0 (by omega), e2 _ h0 (by omega), e1 _ h0 hi]
theorem nameF_at {ns : List Nd} {t x : Int} : nameF ns t x = decide (nodeAt ns t = ⟨1, x, 0⟩) := rfl
theorem takeF_sealed {q : List Nd} {l : Lk} {t w : Int} (hs : Sealed q l.key l.seq t w) (hk : lkF q l = true) (ho : l.over = false) (h20 : ¬ l.seq = 20) :
    takeF q l w = if nameF q t 8 = true then (⟨l.key, l.epoch, l.seq, true⟩, -1, 0) else (⟨l.key, l.epoch, l.seq + 1, l.over⟩, t, 0) := by
  obtain ⟨⟨p, s, h1, h2, h3⟩, h4⟩ := hs
  unfold takeF
  rw [if_neg (by simp [h4, hk]), if_neg (by simp [ho])]
  simp only [h1, h2]
  rw [if_neg (by simp), if_neg (by simp [h20, nameF_at, h3])]
theorem takeF_twice {q : List Nd} {l m : Lk} {t w : Int} (hs : Sealed q l.key l.seq t w) (hm : m.key = l.key) (hq : m.seq = l.seq + 1) (hk : lkF q m = true) (ho : m.over = false) : takeF q m w = (m, -1, 2) := by
  obtain ⟨⟨p, s, h1, h2, h3⟩, h4⟩ := hs
  unfold takeF
  rw [if_neg (by simp [h4, hk]), if_neg (by simp [ho])]
  simp only [h1, h2]
  rw [if_neg (by simp [hm]), if_pos]
  right
  simp [nameF_at, h3, hq]
  omega
theorem takeF_over {q : List Nd} {l : Lk} {w : Int} (hw : hasF q.length w = true) (hk : lkF q l = true) (ho : l.over = true) : takeF q l w = (l, -1, 3) := by
  unfold takeF
  rw [if_neg (by simp [hw, hk]), if_pos ho]
theorem takeF_other {q : List Nd} {l m : Lk} {t w : Int} (hs : Sealed q l.key l.seq t w) (hm : m.key ≠ l.key) (hk : lkF q m = true) (ho : m.over = false) : takeF q m w = (m, -1, 1) := by
  obtain ⟨⟨p, s, h1, h2, h3⟩, h4⟩ := hs
  unfold takeF
  rw [if_neg (by simp [h4, hk]), if_neg (by simp [ho])]
  simp only [h1]
  rw [if_pos]
  right; left
  exact fun e => hm e.symm
/-- What sending comes to: nothing, or a word that stands in the new pool. -/
theorem linkSendF_spec (ns : List Nd) (l : Lk) (t : Int) :
    ((linkSendF ns l t).2.2 < 0 ∧ (linkSendF ns l t).2.2 = -1 ∧ (linkSendF ns l t).2.1 = l ∧ ((linkSendF ns l t).1.length = ns.length ∨ (linkSendF ns l t).1.length = 0)) ∨
    (0 ≤ (linkSendF ns l t).2.2 ∧ lkF ns l = true ∧ l.over = false ∧ ¬ l.seq = 20 ∧ (linkSendF ns l t).2.1 = ⟨l.key, l.epoch, l.seq + 1, l.over⟩ ∧ Sealed (linkSendF ns l t).1 l.key l.seq t (linkSendF ns l t).2.2 ∧ poolF (linkSendF ns l t).1 = true ∧ ns.length ≤ (linkSendF ns l t).1.length ∧ nameF (linkSendF ns l t).1 t 8 = false) := by
  unfold linkSendF
  split
  · rename_i hk
    have hp : poolF ns = true := by simp [lkF] at hk; exact hk.1
    have hs1 : -9223372036854775808 ≤ 20 + l.seq := by simp [lkF, linkF, inF] at hk; omega
    have hs2 : 20 + l.seq < 9223372036854775808 := by simp [lkF, linkF, inF] at hk; omega
    unfold sendF
    split
    · left; simp
    · rename_i hn
      simp only [not_or] at hn
      obtain ⟨n1, n2, n3, n4⟩ := hn
      split
      · left; simp
      · rename_i hw
        have hw' := hw
        rw [wordF_eq hs1 hs2] at hw' ⊢
        split
        · rename_i g; rw [if_pos g] at hw'; simp at hw'
        · rename_i g
          right
          have hm := sealF_made hs1 hs2 hp (key := l.key) (t := t) (by omega)
          have ht : hasF ns.length t = true := by simpa using n1
          have ht' : 0 ≤ t ∧ t < ns.length := by simp [hasF, inF] at ht; omega
          refine ⟨by simp only; omega, hk, by simpa using n3, n4, rfl, hm.1, hm.2.1, hm.2.2.1, ?_⟩
          rw [nameF_at, hm.2.2.2 t ht'.1 ht'.2]
          simpa [endF, nameF_at] using n2
  · rename_i hk
    left
    refine ⟨by simp, rfl, rfl, ?_⟩
    unfold orE
    split
    · exact .inl rfl
    · exact .inr rfl
/-- What ending comes to: nothing, or the word of an end. -/
theorem linkEndF_spec (ns : List Nd) (l : Lk) :
    ((linkEndF ns l).2.2 < 0 ∧ (linkEndF ns l).2.2 = -1 ∧ (linkEndF ns l).2.1 = l) ∨
    (0 ≤ (linkEndF ns l).2.2 ∧ lkF ns l = true ∧ l.over = false ∧ ¬ l.seq = 20 ∧ (linkEndF ns l).2.1 = ⟨l.key, l.epoch, l.seq, true⟩ ∧ poolF (linkEndF ns l).1 = true ∧ ns.length ≤ (linkEndF ns l).1.length ∧ ∃ t, Sealed (linkEndF ns l).1 l.key l.seq t (linkEndF ns l).2.2 ∧ nameF (linkEndF ns l).1 t 8 = true) := by
  unfold linkEndF
  split
  · rename_i hk
    have hp : poolF ns = true := by simp [lkF] at hk; exact hk.1
    have hs1 : -9223372036854775808 ≤ 20 + l.seq := by simp [lkF, linkF, inF] at hk; omega
    have hs2 : 20 + l.seq < 9223372036854775808 := by simp [lkF, linkF, inF] at hk; omega
    have hp1 := addF_pool ⟨1, 8, 0⟩ hp
    have hg1 := addF_ge ns ⟨1, 8, 0⟩
    have a1 := @addF_at ns ⟨1, 8, 0⟩
    unfold closeF
    split
    · left; simp
    · rename_i hn
      simp only [not_or] at hn
      generalize addF ns ⟨1, 8, 0⟩ = x at *
      split
      · left; simp
      · rename_i hx
        obtain ⟨i1, c1, d1, w1⟩ := a1 (by omega)
        split
        · left; simp
        · rename_i hw
          have hw' := hw
          rw [wordF_eq hs1 hs2] at hw' ⊢
          split
          · rename_i g; rw [if_pos g] at hw'; simp at hw'
          · rename_i g
            right
            have hm := sealF_made hs1 hs2 hp1 (key := l.key) (t := x.2) (by omega)
            refine ⟨by simp only; omega, hk, by simpa using hn.1, hn.2, rfl, hm.2.1, by have := hm.2.2.1; simp only; omega, x.2, hm.1, ?_⟩
            rw [nameF_at]
            simp only
            rw [hm.2.2.2 x.2 (by omega) (by omega), c1, w1]
            simp [normN]
  · left; simp
theorem lkF_send {ns q : List Nd} {l : Lk} (hk : lkF ns l = true) (hq : poolF q = true) (hl : ns.length ≤ q.length) (h20 : ¬ l.seq = 20) : lkF q ⟨l.key, l.epoch, l.seq + 1, l.over⟩ = true := by
  simp [lkF, linkF, hasF, inF] at hk ⊢
  exact ⟨hq, by omega⟩
theorem lkF_grow {ns q : List Nd} {l : Lk} (hk : lkF ns l = true) (hq : poolF q = true) (hl : ns.length ≤ q.length) : lkF q l = true := by
  simp [lkF, linkF, hasF, inF] at hk ⊢
  exact ⟨hq, by omega⟩
theorem lkF_over {q : List Nd} {l : Lk} {o : Bool} (hk : lkF q l = true) : lkF q ⟨l.key, l.epoch, l.seq, o⟩ = true := hk
theorem len_ok {ns : List Nd} (hp : poolF ns = true) : ns.length < 9223372036854775807 := by have := poolF_len hp; omega
end Go.Proofs.Ytnbodfakblbmbaa.C
