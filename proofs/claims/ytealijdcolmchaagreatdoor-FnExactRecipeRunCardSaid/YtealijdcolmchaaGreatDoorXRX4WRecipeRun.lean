/- RecipeRun, in the reference. Conditions: those that each theorem names. -/
import Derived.Test.YtealijdcolmchaaGreatDoorXX9RX3
set_option linter.unusedVariables false
set_option linter.unusedSimpArgs false
set_option maxRecDepth 4000
namespace Go.Proofs.YtealijdcolmchaaGreatDoor.C
open Go.Sym Go.Proofs.YtealijdcolmchaaGreatDoor.I
theorem fullF_pool {p : List Nd × Int} (h : poolF p.1 = true) : poolF (fullF p).1 = true := by
  unfold fullF
  split <;> exact h
theorem opF_pool {s : List Nd} (b t u : Int) (h : poolF s = true) : poolF (opF s b t u).1 = true := by
  unfold opF
  repeat' split
  all_goals first
    | exact h
    | exact fullF_pool (raiF_pool _ _ h)
theorem rr_pool {ns : List Nd} (hp : poolF ns = true) {tx : ByteArray} {ks : List Int} : poolF (rdF (rcpR tx ks) (tx.size + 1) ns 0 0).1 = true := by
  have key : ∀ (n : Nat) (s : List Nd) (i : Nat) (c : Int), poolF s = true → poolF (rdF (rcpR tx ks) n s i c).1 = true := by
    intro n
    induction n with
    | zero => intro s i c h; exact h
    | succ n ih =>
      intro s i c h
      have full : ∀ (s : List Nd) (m : Nd), poolF s = true → poolF (fullF (addF s m)).1 = true := fun s m hs => fullF_pool (addF_pool _ hs)
      have join : ∀ (s : List Nd) (b : Int) (ts : List Int), poolF s = true → poolF (rcJ s b ts).1 = true := fun s b ts hs => by
        unfold rcJ
        split
        · exact opF_pool _ _ _ hs
        · exact full _ _ hs
      have fin : ∀ (b : Int) (q : List Nd × List Int × Nat × Int), poolF q.1 = true → poolF ((rcpR tx ks).fin b q).1 = true := fun b q hq => by
        unfold Rdr.fin
        split
        · exact join _ _ _ hq
        · exact hq
      have two : ∀ (e : Int) (s : List Nd) (i : Nat) (c : Int), poolF s = true → poolF ((rcpR tx ks).two (rdF (rcpR tx ks) n) e s i c).1 = true := fun e s i c hs => ih _ _ _ (ih _ _ _ hs)
      unfold rdF
      split
      · exact h
      · split
        · exact h
        · split
          · show poolF (if bt tx i = 64 then plF tx ks s i else pbF tx s i).1 = true
            split
            · unfold plF
              split <;> exact h
            · unfold pbF
              split
              · exact full _ _ h
              · exact h
          · split
            · exact fin _ _ (two _ _ _ _ h)
            · split
              · exact fin _ _ (ih _ _ _ h)
              · split
                · exact fin _ _ (two _ _ _ _ h)
                · exact h
  exact key _ _ _ _ hp
theorem rr_end {ns : List Nd} {tx : ByteArray} {ks : List Int} (hW : rW ks ns) (hc : (rdF (rcpR tx ks) (tx.size + 1) ns 0 0).2.2.2 = 0) : (rdF (rcpR tx ks) (tx.size + 1) ns 0 0).2.2.1 ≤ tx.size :=
  ((rcpK tx ks).rd_good (tx.size + 1) (s := ns) (i := 0) (c := 0) hW (Nat.zero_le _) (by show tx.size - 0 < _; omega) hc).2.1
theorem spec_RecipeRun_c (ns : List Nd) (ks : List Int) (tx : ByteArray) (hl : ns.length ≤ 4294967296) (hk : ks.length ≤ 4294967296) (hs : tx.size ≤ 281474976710656) : T 5 [aP ns, aI ks, .str tx] [] (.tup [.agg [pref 0 (rrF ns ks tx).1], i6 (rrF ns ks tx).2.1, i6 (rrF ns ks tx).2.2.1, i6 (rrF ns ks tx).2.2.2]) ([pblk (rrF ns ks tx).1]) := by
  refine semT' (S := S0) hm spec_RecipeRun_ok (Nat.le_of_ble_eq_true rfl) ?_
  unfold spec_RecipeRun; dsimp only
  simp
  refine spec_PoolOk_call (ns := ns) rfl ?_; simp
  rcases Bool.eq_false_or_eq_true (poolF ns) with hp | hp
  case inr =>
    simp [hp]
    by_cases h2 : 2000 < tx.size
    · have b1 : decide ((2000 : Int) < tx.size) = true := decide_eq_true (by omega)
      simp [b1]
      rw [show rrF ns ks tx = ([], -1, 0, 1) by unfold rrF; rw [if_pos h2]; simp [orE, hp]]
      first | (refine LeV.tell [none] ?_ ?_ ?_ <;> (simp; done)) | (refine LeV.tell [some 0] ?_ ?_ ?_ <;> (simp; done)) | (refine LeV.tell [some 1] ?_ ?_ ?_ <;> (simp; done)) | (refine LeV.tell [some 2] ?_ ?_ ?_ <;> (simp; done)) | (refine LeV.tell [some 3] ?_ ?_ ?_ <;> (simp; done)) | (refine LeV.tell [some 4] ?_ ?_ ?_ <;> (simp; done)) | (refine LeV.tell [some 5] ?_ ?_ ?_ <;> (simp; done)) | (refine LeV.tell [some 6] ?_ ?_ ?_ <;> (simp; done)) | (refine LeV.tell [some 7] ?_ ?_ ?_ <;> (simp; done)) | (refine LeV.tell [some 8] ?_ ?_ ?_ <;> (simp; done)) | (refine LeV.tell [some 9] ?_ ?_ ?_ <;> (simp; done)) | (refine LeV.tell [some 10] ?_ ?_ ?_ <;> (simp; done)) | (refine LeV.tell [some 11] ?_ ?_ ?_ <;> (simp; done)) | (refine LeV.tell [some 12] ?_ ?_ ?_ <;> (simp; done)) | (refine LeV.tell [some 13] ?_ ?_ ?_ <;> (simp; done)) | (refine LeV.tell [some 14] ?_ ?_ ?_ <;> (simp; done)) | (refine LeV.tell [some 15] ?_ ?_ ?_ <;> (simp; done))
    · have b1 : decide ((2000 : Int) < tx.size) = false := decide_eq_false (by omega)
      have hkp : kpF ns ks = false := by simp [kpF, hp]
      simp [b1]
      refine spec_KnowOk_call (ns := ns) (ks := ks) (by omega) rfl ?_; simp [hkp]
      rw [show rrF ns ks tx = ([], -1, 0, 5) by unfold rrF; rw [if_neg h2, if_pos hkp]; simp [orE, hp]]
      first | (refine LeV.tell [none] ?_ ?_ ?_ <;> (simp; done)) | (refine LeV.tell [some 0] ?_ ?_ ?_ <;> (simp; done)) | (refine LeV.tell [some 1] ?_ ?_ ?_ <;> (simp; done)) | (refine LeV.tell [some 2] ?_ ?_ ?_ <;> (simp; done)) | (refine LeV.tell [some 3] ?_ ?_ ?_ <;> (simp; done)) | (refine LeV.tell [some 4] ?_ ?_ ?_ <;> (simp; done)) | (refine LeV.tell [some 5] ?_ ?_ ?_ <;> (simp; done)) | (refine LeV.tell [some 6] ?_ ?_ ?_ <;> (simp; done)) | (refine LeV.tell [some 7] ?_ ?_ ?_ <;> (simp; done)) | (refine LeV.tell [some 8] ?_ ?_ ?_ <;> (simp; done)) | (refine LeV.tell [some 9] ?_ ?_ ?_ <;> (simp; done)) | (refine LeV.tell [some 10] ?_ ?_ ?_ <;> (simp; done)) | (refine LeV.tell [some 11] ?_ ?_ ?_ <;> (simp; done)) | (refine LeV.tell [some 12] ?_ ?_ ?_ <;> (simp; done)) | (refine LeV.tell [some 13] ?_ ?_ ?_ <;> (simp; done)) | (refine LeV.tell [some 14] ?_ ?_ ?_ <;> (simp; done)) | (refine LeV.tell [some 15] ?_ ?_ ?_ <;> (simp; done))
  simp [hp]
  have hl5 := poolF_len hp
  refine spec_l1Copy_k (ns := ns) hl rfl (by simp) (by simp [noslBlks]) ?_; simp [shiftB]
  by_cases h2 : 2000 < tx.size
  · have b1 : decide ((2000 : Int) < tx.size) = true := decide_eq_true (by omega)
    simp [b1]
    rw [show rrF ns ks tx = (ns, -1, 0, 1) by unfold rrF; rw [if_pos h2]; simp [orE, hp]]
    first | (refine LeV.tell [none] ?_ ?_ ?_ <;> (simp; done)) | (refine LeV.tell [some 0] ?_ ?_ ?_ <;> (simp; done)) | (refine LeV.tell [some 1] ?_ ?_ ?_ <;> (simp; done)) | (refine LeV.tell [some 2] ?_ ?_ ?_ <;> (simp; done)) | (refine LeV.tell [some 3] ?_ ?_ ?_ <;> (simp; done)) | (refine LeV.tell [some 4] ?_ ?_ ?_ <;> (simp; done)) | (refine LeV.tell [some 5] ?_ ?_ ?_ <;> (simp; done)) | (refine LeV.tell [some 6] ?_ ?_ ?_ <;> (simp; done)) | (refine LeV.tell [some 7] ?_ ?_ ?_ <;> (simp; done)) | (refine LeV.tell [some 8] ?_ ?_ ?_ <;> (simp; done)) | (refine LeV.tell [some 9] ?_ ?_ ?_ <;> (simp; done)) | (refine LeV.tell [some 10] ?_ ?_ ?_ <;> (simp; done)) | (refine LeV.tell [some 11] ?_ ?_ ?_ <;> (simp; done)) | (refine LeV.tell [some 12] ?_ ?_ ?_ <;> (simp; done)) | (refine LeV.tell [some 13] ?_ ?_ ?_ <;> (simp; done)) | (refine LeV.tell [some 14] ?_ ?_ ?_ <;> (simp; done)) | (refine LeV.tell [some 15] ?_ ?_ ?_ <;> (simp; done))
  have b1 : decide ((2000 : Int) < tx.size) = false := decide_eq_false (by omega)
  simp [b1]
  refine spec_KnowOk_k (ns := ns) (ks := ks) (by omega) rfl (by simp) (by simp) ?_; simp
  rcases Bool.eq_false_or_eq_true (kpF ns ks) with hkp | hkp
  case inr =>
    simp [hkp]
    rw [show rrF ns ks tx = (ns, -1, 0, 5) by unfold rrF; rw [if_neg h2, if_pos hkp]; simp [orE, hp]]
    first | (refine LeV.tell [none] ?_ ?_ ?_ <;> (simp; done)) | (refine LeV.tell [some 0] ?_ ?_ ?_ <;> (simp; done)) | (refine LeV.tell [some 1] ?_ ?_ ?_ <;> (simp; done)) | (refine LeV.tell [some 2] ?_ ?_ ?_ <;> (simp; done)) | (refine LeV.tell [some 3] ?_ ?_ ?_ <;> (simp; done)) | (refine LeV.tell [some 4] ?_ ?_ ?_ <;> (simp; done)) | (refine LeV.tell [some 5] ?_ ?_ ?_ <;> (simp; done)) | (refine LeV.tell [some 6] ?_ ?_ ?_ <;> (simp; done)) | (refine LeV.tell [some 7] ?_ ?_ ?_ <;> (simp; done)) | (refine LeV.tell [some 8] ?_ ?_ ?_ <;> (simp; done)) | (refine LeV.tell [some 9] ?_ ?_ ?_ <;> (simp; done)) | (refine LeV.tell [some 10] ?_ ?_ ?_ <;> (simp; done)) | (refine LeV.tell [some 11] ?_ ?_ ?_ <;> (simp; done)) | (refine LeV.tell [some 12] ?_ ?_ ?_ <;> (simp; done)) | (refine LeV.tell [some 13] ?_ ?_ ?_ <;> (simp; done)) | (refine LeV.tell [some 14] ?_ ?_ ?_ <;> (simp; done)) | (refine LeV.tell [some 15] ?_ ?_ ?_ <;> (simp; done))
  simp [hkp]
  have hW : rW ks ns := kp_know hkp
  have hT : rrF ns ks tx = if (allRF (rcpR tx ks) 2000 ns).2.2.2 = 0 then ((allRF (rcpR tx ks) 2000 ns).1, (allRF (rcpR tx ks) 2000 ns).2.1, (tx.size : Int), 0) else (ns, -1, ((allRF (rcpR tx ks) 2000 ns).2.2.1 : Int), (allRF (rcpR tx ks) 2000 ns).2.2.2) := by
    unfold rrF; rw [if_neg h2, if_neg (by simp [hkp])]
  have htx : (rcpR tx ks).text = tx := rfl
  have hA : allRF (rcpR tx ks) 2000 ns = if (rdF (rcpR tx ks) (tx.size + 1) ns 0 0).2.2.2 = 0 ∧ (rdF (rcpR tx ks) (tx.size + 1) ns 0 0).2.2.1 < tx.size then ((rdF (rcpR tx ks) (tx.size + 1) ns 0 0).1, -1, (rdF (rcpR tx ks) (tx.size + 1) ns 0 0).2.2.1, 6) else rdF (rcpR tx ks) (tx.size + 1) ns 0 0 := by
    unfold allRF
    rw [htx, if_neg (by omega)]
  have hP := rparse_t (tx := tx) (ks := ks) (by omega) hk (tx.size + 1) ns 0 hW (Nat.zero_le _) (by omega)
  have hpp := rr_pool hp (tx := tx) (ks := ks)
  have hee := rr_end hW (tx := tx)
  obtain ⟨q, eq⟩ : ∃ q, rdF (rcpR tx ks) (tx.size + 1) ns 0 0 = q := ⟨_, rfl⟩
  rw [eq] at hP hpp hee hA
  obtain ⟨r, er⟩ : ∃ r, allRF (rcpR tx ks) 2000 ns = r := ⟨_, rfl⟩
  rw [er] at hT hA
  rw [hT]
  have hq5 := poolF_len hpp
  refine WCall_pure rfl hP (by simp) (by simp) (by simp) ?_; simp
  by_cases hc : q.2.2.2 = 0
  · have hle := hee hc
    by_cases hp2 : q.2.2.1 < tx.size
    · rw [if_pos ⟨hc, hp2⟩] at hA
      have b2 : decide (q.2.2.1 < tx.size) = true := decide_eq_true hp2
      simp [hc, b2]
      rw [hA]
      first | (refine LeV.tell [none] ?_ ?_ ?_ <;> (simp; done)) | (refine LeV.tell [some 0] ?_ ?_ ?_ <;> (simp; done)) | (refine LeV.tell [some 1] ?_ ?_ ?_ <;> (simp; done)) | (refine LeV.tell [some 2] ?_ ?_ ?_ <;> (simp; done)) | (refine LeV.tell [some 3] ?_ ?_ ?_ <;> (simp; done)) | (refine LeV.tell [some 4] ?_ ?_ ?_ <;> (simp; done)) | (refine LeV.tell [some 5] ?_ ?_ ?_ <;> (simp; done)) | (refine LeV.tell [some 6] ?_ ?_ ?_ <;> (simp; done)) | (refine LeV.tell [some 7] ?_ ?_ ?_ <;> (simp; done)) | (refine LeV.tell [some 8] ?_ ?_ ?_ <;> (simp; done)) | (refine LeV.tell [some 9] ?_ ?_ ?_ <;> (simp; done)) | (refine LeV.tell [some 10] ?_ ?_ ?_ <;> (simp; done)) | (refine LeV.tell [some 11] ?_ ?_ ?_ <;> (simp; done)) | (refine LeV.tell [some 12] ?_ ?_ ?_ <;> (simp; done)) | (refine LeV.tell [some 13] ?_ ?_ ?_ <;> (simp; done)) | (refine LeV.tell [some 14] ?_ ?_ ?_ <;> (simp; done)) | (refine LeV.tell [some 15] ?_ ?_ ?_ <;> (simp; done))
    · rw [if_neg (fun h => hp2 h.2)] at hA
      have b2 : decide (q.2.2.1 < tx.size) = false := decide_eq_false hp2
      simp [hc, b2]
      refine spec_l1Copy_k (ns := q.1) (by omega) rfl (by simp) (by simp [noslBlks]) ?_; simp [shiftB]
      repeat (refine ck_intro' (by first | omega | (simp; omega) | kernel_rfl) ?_; try simp)
      rw [hA, show q.2.2.1 = tx.size by omega, if_pos hc]
      first | (refine LeV.tell [none] ?_ ?_ ?_ <;> (simp [hc]; done)) | (refine LeV.tell [some 0] ?_ ?_ ?_ <;> (simp [hc]; done)) | (refine LeV.tell [some 1] ?_ ?_ ?_ <;> (simp [hc]; done)) | (refine LeV.tell [some 2] ?_ ?_ ?_ <;> (simp [hc]; done)) | (refine LeV.tell [some 3] ?_ ?_ ?_ <;> (simp [hc]; done)) | (refine LeV.tell [some 4] ?_ ?_ ?_ <;> (simp [hc]; done)) | (refine LeV.tell [some 5] ?_ ?_ ?_ <;> (simp [hc]; done)) | (refine LeV.tell [some 6] ?_ ?_ ?_ <;> (simp [hc]; done)) | (refine LeV.tell [some 7] ?_ ?_ ?_ <;> (simp [hc]; done)) | (refine LeV.tell [some 8] ?_ ?_ ?_ <;> (simp [hc]; done)) | (refine LeV.tell [some 9] ?_ ?_ ?_ <;> (simp [hc]; done)) | (refine LeV.tell [some 10] ?_ ?_ ?_ <;> (simp [hc]; done)) | (refine LeV.tell [some 11] ?_ ?_ ?_ <;> (simp [hc]; done)) | (refine LeV.tell [some 12] ?_ ?_ ?_ <;> (simp [hc]; done)) | (refine LeV.tell [some 13] ?_ ?_ ?_ <;> (simp [hc]; done)) | (refine LeV.tell [some 14] ?_ ?_ ?_ <;> (simp [hc]; done)) | (refine LeV.tell [some 15] ?_ ?_ ?_ <;> (simp [hc]; done))
  · rw [if_neg (fun h => hc h.1)] at hA
    simp [hc]
    rw [hA, if_neg hc]
    first | (refine LeV.tell [none] ?_ ?_ ?_ <;> (simp [hc]; done)) | (refine LeV.tell [some 0] ?_ ?_ ?_ <;> (simp [hc]; done)) | (refine LeV.tell [some 1] ?_ ?_ ?_ <;> (simp [hc]; done)) | (refine LeV.tell [some 2] ?_ ?_ ?_ <;> (simp [hc]; done)) | (refine LeV.tell [some 3] ?_ ?_ ?_ <;> (simp [hc]; done)) | (refine LeV.tell [some 4] ?_ ?_ ?_ <;> (simp [hc]; done)) | (refine LeV.tell [some 5] ?_ ?_ ?_ <;> (simp [hc]; done)) | (refine LeV.tell [some 6] ?_ ?_ ?_ <;> (simp [hc]; done)) | (refine LeV.tell [some 7] ?_ ?_ ?_ <;> (simp [hc]; done)) | (refine LeV.tell [some 8] ?_ ?_ ?_ <;> (simp [hc]; done)) | (refine LeV.tell [some 9] ?_ ?_ ?_ <;> (simp [hc]; done)) | (refine LeV.tell [some 10] ?_ ?_ ?_ <;> (simp [hc]; done)) | (refine LeV.tell [some 11] ?_ ?_ ?_ <;> (simp [hc]; done)) | (refine LeV.tell [some 12] ?_ ?_ ?_ <;> (simp [hc]; done)) | (refine LeV.tell [some 13] ?_ ?_ ?_ <;> (simp [hc]; done)) | (refine LeV.tell [some 14] ?_ ?_ ?_ <;> (simp [hc]; done)) | (refine LeV.tell [some 15] ?_ ?_ ?_ <;> (simp [hc]; done))
theorem spec_RecipeRun_k {ns : List Nd} {ks : List Int} {tx : ByteArray} (hl : ns.length ≤ 4294967296) (hk : ks.length ≤ 4294967296) (hs : tx.size ≤ 281474976710656) {S : FuncId → Bool} {H : List Blk} {K : A → Dl → Prop} {zs : List A} (hS : S 5 = false) (hv : viewL (viewA 8 H) zs = some [aP ns, aI ks, .str tx]) (ho : noOwns zs = true ∨ nosl (.tup [.agg [pref 0 (rrF ns ks tx).1], i6 (rrF ns ks tx).2.1, i6 (rrF ns ks tx).2.2.1, i6 (rrF ns ks tx).2.2.2]) = true ∧ noslBlks ([pblk (rrF ns ks tx).1]) = true) (hK : K (shiftA H.length (.tup [.agg [pref 0 (rrF ns ks tx).1], i6 (rrF ns ks tx).2.1, i6 (rrF ns ks tx).2.2.1, i6 (rrF ns ks tx).2.2.2])) (.news (([pblk (rrF ns ks tx).1]).map (shiftB H.length)))) : @WCall' Go.Proofs.Tryz.prog S 5 zs H ⟨K⟩ :=
  WCall_ro' hS hv (spec_RecipeRun_c ns ks tx hl hk hs) rfl ho hK
end Go.Proofs.YtealijdcolmchaaGreatDoor.C

set_option linter.unusedVariables false
set_option linter.unusedSimpArgs false
set_option maxRecDepth 4000
namespace Go.Proofs.YtealijdcolmchaaGreatDoor.C
open Go.Sym Go.Proofs.YtealijdcolmchaaGreatDoor.I
theorem arg_tx {x : A} (h : FitA .tx x) : ∃ s : ByteArray, x = .str s ∧ s.size ≤ maxLen := by
  obtain ⟨s, e, h⟩ := (show Fit .tx [x] from h)
  exact ⟨s, by simpa using e, h⟩
def mkI (k : Int) : Nat → List Int
  | 0 => []
  | n + 1 => mkI k n ++ [k + n]
@[simp] theorem mkI_len (k : Int) (n : Nat) : (mkI k n).length = n := by induction n with | zero => rfl | succ n ih => simp [mkI, ih]
@[simp] theorem mkI_take (k : Int) (n : Nat) : (ints (mkI k n)).take n = ints (mkI k n) := List.take_of_length_le (by simp)
theorem mkI_get (k : Int) : ∀ (n j : Nat) (h : j < (mkI k n).length), (mkI k n)[j] = k + j
  | 0, j, h => by simp at h
  | n + 1, j, h => by
    simp only [mkI]
    rcases Nat.lt_or_ge j n with g | g
    · rw [List.getElem_append_left (by simpa using g)]
      exact mkI_get k n j (by simpa using g)
    · have : j = n := by simp at h; omega
      subst this
      simp
theorem mkI_set (k : Int) (ns : List Int) (j : Nat) (h : j < ns.length) : (mkI k j ++ ns.drop j).set j (k + j) = mkI k (j + 1) ++ ns.drop (j + 1) := by
  rw [List.set_append_right _ _ (by simp), mkI_len, Nat.sub_self, List.drop_eq_getElem_cons h, List.set_cons_zero]
  simp [mkI]
theorem laws_markIntS_m (H : List Blk) (nb v : Nat) (ro : Bool) (ns : List Int) (k : Int) (hH : H[nb]? = some ⟨v, ro, 1, ints ns, none⟩) (hro : ro = true → ns = []) (hl : ns.length ≤ 4294967296) (hk : 0 ≤ k) (hk2 : k ≤ 1099511627776) : T 12 [.ref nb v 0 ns.length, i6 k] (H) (i6 (k + ns.length)) (H.set nb ⟨v, ro, 1, ints (mkI k ns.length), none⟩) := by
  refine semT' (S := S0) hm laws_markIntS_ok (Nat.le_of_ble_eq_true rfl) ?_
  unfold laws_markIntS; dsimp only
  have hlt : nb < H.length := (List.getElem?_eq_some_iff.1 hH).1
  have hs0 : H.set nb ⟨v, ro, 1, ints (mkI k 0 ++ ns.drop 0), none⟩ = H := set_self (by simpa [mkI] using hH)
  simp
  generalize hB : H.length = B
  rw [← hs0]
  refine WLoop_fam (fun p : Nat × Int => [(0, A.ref nb v 0 ns.length), (1, i6 p.2), (5, i6 p.1)]) (fun p => H.set nb ⟨v, ro, 1, ints (mkI k p.1 ++ ns.drop p.1), none⟩) (fun p => ns.length - p.1)
    (fun p => p.1 ≤ ns.length ∧ p.2 = k + p.1) ?_ (0, k) ⟨Nat.zero_le _, by simp⟩
  rintro ⟨j, k'⟩ ⟨hj, hk'⟩ ih
  simp at hk' hj
  subst hk'
  have hlen : (mkI k j ++ ns.drop j).length = ns.length := by simp; omega
  simp [hlt]
  refine br_intro' (fun h => ?_) (fun h => ?_) <;> (have h0 := h) <;> (try simp at h) <;> try simp [h0, h]
  · have h' := h
    have hr : ro = false := by cases ro with | false => rfl | true => rw [hro rfl] at h; simp at h
    subst hr
    have w1 : IntKind.i64.wrap (k + (j : Int) + 1) = k + j + 1 := wrap64 (by omega) (by omega)
    have hw : IntKind.i64.wrap ((j : Int) + 1) = j + 1 := wrap64 (by omega) (by omega)
    have hc : j + (ns.length - j) = ns.length := by omega
    simp [h', hlt, hc, w1, hw]
    refine ck_intro' (by omega) ?_; simp [h', hlt, hc, w1, hw]
    have e3 := ints_set (mkI k j ++ ns.drop j) j (k + j)
    rw [mkI_set k ns j h'] at e3
    rw [e3]
    exact ih (j + 1, k + j + 1) ⟨h', by push_cast; omega⟩ (by simp; omega)
  · have e : j = ns.length := by omega
    subst e
    simp
    exact LeV.refl _ _ _
theorem rrF_len (ns : List Nd) (ks : List Int) (tx : ByteArray) (h : ns.length ≤ 4294967296) : (rrF ns ks tx).1.length ≤ 4294967296 := by
  have ho : (orE ns).length ≤ 4294967296 := by
    unfold orE
    split
    · exact h
    · simp
  unfold rrF
  split
  · exact ho
  · split
    · exact ho
    · rename_i g
      have hp : poolF ns = true := by
        have : kpF ns ks = true := by simpa using g
        exact (kp_know this).1
      split
      · have := poolF_len (rr_pool hp (tx := tx) (ks := ks))
        unfold allRF
        split
        · exact h
        · split <;> simp only <;> exact Nat.le_trans this (by omega)
      · exact h
theorem laws_FnExactRecipeRun_c (ns : List Nd) (ks : List Int) (tx : ByteArray) (ha : ns.length < 9223372036854775808) (hb : ks.length < 9223372036854775808) (hc : tx.size ≤ maxLen) : T 3 [aP ns, aI ks, .str tx] [] (.bool true) ([]) := by
  refine semT' (S := (fun f => [11, 32, 12].contains f)) hm laws_FnExactRecipeRun_ok (Nat.le_of_ble_eq_true rfl) ?_
  unfold laws_FnExactRecipeRun; dsimp only
  simp
  refine br_intro' (fun g0 => ?_) (fun g0 => ?_) <;> (have g00 := g0) <;> simp only [decide_eq_true_eq, decide_eq_false_iff_not] at g0 <;> simp [g00]
  · exact LeV.ro rfl rfl rfl
  refine br_intro' (fun g1 => ?_) (fun g1 => ?_) <;> (have g10 := g1) <;> simp only [decide_eq_true_eq, decide_eq_false_iff_not] at g1 <;> simp [g10]
  · exact LeV.ro rfl rfl rfl
  refine laws_szPool_call (ns := ns) (x := 1048576) ha (by omega) (by omega) rfl ?_; simp
  refine br_intro' (fun g => ?_) (fun g => ?_) <;> simp only [decide_eq_true_eq, decide_eq_false_iff_not, szF_neg] at g <;> simp [szF_neg, g]
  · exact LeV.ro rfl rfl rfl
  have hl : ns.length ≤ 4294967296 := by omega
  have hk : ks.length ≤ 4294967296 := by omega
  have hs : tx.size ≤ 281474976710656 := by omega
  have hR := rrF_len ns ks tx hl
  refine laws_toPool_k (ns := ns) hl rfl (by simp) (by simp [noslBlks]) ?_; simp [shiftB]
  refine laws_toIntS_k (xs := ks) hk rfl (by simp) (by simp [noslBlks]) ?_; simp [shiftB]
  refine spec_RecipeRun_k (ns := ns) (ks := ks) (tx := tx) hl hk hs rfl (by simp) (by simp [noslBlks]) ?_; simp [shiftB]
  repeat (refine ck_intro' (by first | omega | (simp; omega) | kernel_rfl) ?_; try simp)
  refine laws_toPool_k (ns := ns) hl rfl (by simp) (by simp [noslBlks]) ?_; simp [shiftB]
  refine laws_toIntS_k (xs := ks) hk rfl (by simp) (by simp [noslBlks]) ?_; simp [shiftB]
  refine impl_RecipeRun_k (ns := ns) (ks := ks) (tx := tx) hl hk hs rfl (by simp) (by simp [noslBlks]) ?_; simp [shiftB]
  repeat (refine ck_intro' (by first | omega | (simp; omega) | kernel_rfl) ?_; try simp)
  refine laws_eqPool_k (ns := (rrF ns ks tx).1) (ms := (rrF ns ks tx).1) (by omega) (by omega) rfl (by simp) (by simp [noslBlks]) ?_; simp [shiftB]
  repeat (refine ck_intro' (by first | omega | (simp; omega) | kernel_rfl) ?_; try simp)
  refine laws_toPool_k (ns := ns) hl rfl (by simp) (by simp [noslBlks]) ?_; simp [shiftB]
  refine laws_eqPool_k (ns := ns) (ms := ns) (by omega) (by omega) rfl (by simp) (by simp [noslBlks]) ?_; simp [shiftB]
  first | (refine ck_intro' (by kernel_rfl) ?_; try simp) | skip
  refine laws_toIntS_k (xs := ks) hk rfl (by simp) (by simp [noslBlks]) ?_; simp [shiftB]
  refine laws_eqIntS_k (ns := ks) (ms := ks) (by omega) (by omega) rfl (by simp) (by simp [noslBlks]) ?_; simp [shiftB]
  first | (refine ck_intro' (by kernel_rfl) ?_; try simp) | skip
  have k1 : ¬ 1 + 3 * (ns.length : Int) + ks.length < 0 := by omega
  have k2 : ¬ 1 + 3 * ((rrF ns ks tx).1.length : Int) < 0 := by omega
  refine WCall_t' rfl [5] (laws_markPool_m _ 5 ns.length false ns 1 (by simp) (by simp) hl (by omega) (by omega) (by simp [inAs_scals _ (ints_scals ks)])) (by simp) (fun b hb _ => by simp at hb; rw [List.getElem?_set_ne (Ne.symm hb)]) ?_; simp
  refine WCall_t' rfl [7] (laws_markIntS_m _ 7 ks.length false ks (1 + 3 * ns.length) (by simp) (by simp) hk (by omega) (by omega)) (by simp) (fun b hb _ => by simp at hb; rw [List.getElem?_set_ne (Ne.symm hb)]) ?_; simp
  simp [k1]
  refine laws_eqPool_k (ns := (rrF ns ks tx).1) (ms := (rrF ns ks tx).1) (by omega) (by omega) rfl (by simp) (by simp [noslBlks]) ?_; simp [shiftB]
  repeat (refine ck_intro' (by first | omega | (simp; omega) | kernel_rfl) ?_; try simp)
  refine WCall_t' rfl [8] (laws_markPool_m _ 8 (rrF ns ks tx).1.length (decide ((rrF ns ks tx).1 = [])) (rrF ns ks tx).1 1 (by simp) (by simp) (by omega) (by omega) (by omega) (by simp [inAs_scals _ (ints_scals ks), inAs_scals _ (ints_scals (mkI (1 + 3 * (ns.length : Int)) ks.length))])) (by simp) (fun b hb _ => by simp at hb; rw [List.getElem?_set_ne (Ne.symm hb)]) ?_; simp
  refine laws_heldPool_k (n := (rrF ns ks tx).1.length) (k := 1) (by omega) (by omega) (by omega) rfl (by simp) (by simp [noslBlks]) ?_; simp [shiftB]
  simp [k2]
  refine laws_toPool_k (ns := ns) hl rfl (by simp) (by simp [noslBlks]) ?_; simp [shiftB]
  refine laws_toIntS_k (xs := ks) hk rfl (by simp) (by simp [noslBlks]) ?_; simp [shiftB]
  refine impl_RecipeRun_k (ns := ns) (ks := ks) (tx := tx) hl hk hs rfl (by simp) (by simp [noslBlks]) ?_; simp [shiftB]
  refine laws_eqPool_k (ns := (rrF ns ks tx).1) (ms := (rrF ns ks tx).1) (by omega) (by omega) rfl (by simp) (by simp [noslBlks]) ?_; simp [shiftB]
  repeat (refine ck_intro' (by first | omega | (simp; omega) | kernel_rfl) ?_; try simp)
  refine laws_heldPool_k (n := (rrF ns ks tx).1.length) (k := 1) (by omega) (by omega) (by omega) rfl (by simp) (by simp [noslBlks]) ?_; simp [shiftB]
  simp [k2]
  exact LeV.ro rfl rfl rfl
end Go.Proofs.YtealijdcolmchaaGreatDoor.C
