/- The reference's reader: names, signs. Conditions: those that each theorem names. -/
import Derived.Test.YtealijdcolmchaaGreatDoorXX4RX1
set_option linter.unusedVariables false
set_option linter.unusedSimpArgs false
set_option maxRecDepth 4000
namespace Go.Proofs.YtealijdcolmchaaGreatDoor.C
open Go.Sym Go.Proofs.YtealijdcolmchaaGreatDoor.I
/-- A name's number at a place. -/
def nmOk (tx : ByteArray) (i : Nat) : Bool := decide (0 ≤ figV 3 (dgRun tx i)) && decide (figV 3 (dgRun tx i) < 200)
theorem numF_nm (tx : ByteArray) (i : Nat) (fr : Int) : numF tx i fr = if nmOk tx i = true then (figV 3 (dgRun tx i), (dEnd tx i : Int), 0) else (-1, fr, 4) := by
  have hd := dgRun_dg tx i
  have h1 := figV_small (most := 9) hd 3 (by omega) (by omega)
  unfold numF nmOk
  by_cases h : 0 ≤ figV 3 (dgRun tx i)
  · have e := figV_eq (most := 9) (by omega) h
    rw [e]
    by_cases h2 : figV 3 (dgRun tx i) < 200
    · rw [if_pos ⟨h, by omega⟩, if_pos (by simp [h, h2])]
    · rw [if_neg (by omega), if_neg (by simp [h2])]
  · rw [if_neg (fun g => h (h1.1 ⟨g.1, by omega⟩)), if_neg (by simp [h])]
theorem spec_l4Want_c (tx : ByteArray) (i : Nat) (b : Int) (hs : tx.size ≤ 281474976710656) : T 65 [.str tx, i6 i, .int .u8 b] [] (.tup [i6 (takeF tx i 0 b).1, i6 (takeF tx i 0 b).2]) ([]) := by
  refine semT' (S := S0) hm spec_l4Want_ok (Nat.le_of_ble_eq_true rfl) ?_
  unfold spec_l4Want; dsimp only
  simp
  refine br_intro' (fun u => ?_) (fun u => ?_) <;> (have u0 := u) <;> simp only [decide_eq_true_eq, decide_eq_false_iff_not] at u <;> simp [u0]
  · exact LeV.ro rfl rfl (by simp [takeF, u])
  have hlt : i < tx.size := by omega
  simp [hlt]
  refine br_intro' (fun v => ?_) (fun v => ?_) <;> (have v0 := v) <;> simp only [decide_eq_true_eq, decide_eq_false_iff_not] at v <;> simp [v0]
  · rw [wrap_succ (n := i) (by omega)]
    exact LeV.ro rfl rfl (by simp [takeF, u, v])
  · exact LeV.ro rfl rfl (by simp [takeF, u, v])
theorem spec_l4Want_call {tx : ByteArray} {i : Nat} {b : Int} (hs : tx.size ≤ 281474976710656) {S : FuncId → Bool} {H : List Blk} {K : A → Dl → Prop} (hS : S 65 = false) (hK : K (.tup [i6 (takeF tx i 0 b).1, i6 (takeF tx i 0 b).2]) (.news [])) : @WCall' Go.Proofs.Tryz.prog S 65 [.str tx, i6 i, .int .u8 b] H ⟨K⟩ :=
  WCall_pure hS (spec_l4Want_c tx i b hs) (by simp) (by simp) (by simp) hK
theorem spec_l4Want_k {tx : ByteArray} {i : Nat} {b : Int} (hs : tx.size ≤ 281474976710656) {S : FuncId → Bool} {H : List Blk} {K : A → Dl → Prop} {zs : List A} (hS : S 65 = false) (hv : viewL (viewA 8 H) zs = some [.str tx, i6 i, .int .u8 b]) (ho : noOwns zs = true ∨ nosl (.tup [i6 (takeF tx i 0 b).1, i6 (takeF tx i 0 b).2]) = true) (hK : K (.tup [i6 (takeF tx i 0 b).1, i6 (takeF tx i 0 b).2]) (.news [])) : @WCall' Go.Proofs.Tryz.prog S 65 zs H ⟨K⟩ :=
  WCall_pure hS (spec_l4Want_c tx i b hs) hv ho (by simp) hK
theorem spec_l4Name_c (tx : ByteArray) (i : Nat) (hs : tx.size ≤ 281474976710656) (hi : i ≤ tx.size) : T 38 [.str tx, i6 i] [] (.tup [i6 (if nmOk tx i = true then figV 3 (dgRun tx i) else 0), i6 (if nmOk tx i = true then (dEnd tx i : Int) else 0), .bool (nmOk tx i)]) ([]) := by
  refine semT' (S := S0) hm spec_l4Name_ok (Nat.le_of_ble_eq_true rfl) ?_
  unfold spec_l4Name; dsimp only
  simp
  refine WLoop_fam (fun p : List UInt8 => [(0, A.str tx), (1, i6 (((i + p.length : Nat) : Int))), (7, i6 i), (8, i6 (valD p))]) (fun _ => []) (fun p => 5 - p.length)
    (fun p => dgRun tx i = p ++ dgRun tx (i + p.length) ∧ p.length ≤ 4 ∧ i + p.length ≤ tx.size) ?_ [] ⟨by simp, by simp, by simpa using hi⟩
  intro p ⟨hr, hl4, hsz⟩ ih
  have hdp : ∀ b ∈ p, isDg b = true := fun b hb => dgRun_dg tx i b (by rw [hr]; simp [hb])
  have hv := valD_lt p hdp
  have hv4 : valD p < 10000 := Nat.lt_of_lt_of_le hv (Nat.pow_le_pow_right (by omega) hl4)
  obtain ⟨j, hj⟩ : ∃ j, i + p.length = j := ⟨_, rfl⟩
  rw [hj] at hr hsz ⊢
  have hw0 : IntKind.i64.wrap ((j : Int) - i) = p.length := by rw [wrap64 (by omega) (by omega)]; omega
  simp [hw0]
  by_cases c1 : j < tx.size ∧ isDg (byt tx j) = true ∧ p.length < 4
  · obtain ⟨c1, c2, c3⟩ := c1
    have c2' := c2
    simp only [isDg, decide_eq_true_eq] at c2'
    have d2 : (48 : Int) ≤ ((byt tx j).toNat : Int) := by omega
    have d3 : ((byt tx j).toNat : Int) ≤ (57 : Int) := by omega
    have d4 : (p.length : Int) < 4 := by omega
    have w1 : IntKind.i64.wrap (10 * (valD p : Int)) = 10 * valD p := wrap64 (by omega) (by omega)
    have w2 : IntKind.i64.wrap ((byt tx j).toNat : Int) = (byt tx j).toNat := wrap64 (by omega) (by omega)
    have w3 : IntKind.i64.wrap (10 * (valD p : Int) + (byt tx j).toNat) = 10 * valD p + (byt tx j).toNat := wrap64 (by omega) (by omega)
    have w4 : IntKind.i64.wrap (10 * (valD p : Int) + (byt tx j).toNat - 48) = valD (p ++ [byt tx j]) := by rw [wrap64 (by omega) (by omega), valD_snoc]; push_cast; omega
    have w5 := wrap_succ (n := j) (by omega)
    have b1 : decide ((j : Int) < tx.size) = true := by simp; omega
    have b2 : decide ((48 : Int) ≤ ((byt tx j).toNat : Int)) = true := by simp; omega
    have b3 : decide (((byt tx j).toNat : Int) ≤ (57 : Int)) = true := by simp; omega
    have b4 : decide ((p.length : Int) < 4) = true := by simp; omega
    simp [b1, c1, b2, b3, b4, hw0, w1, w2, w3, w4, w5]
    have hl1 : (p ++ [byt tx j]).length = p.length + 1 := by simp
    have e5 : i + (p ++ [byt tx j]).length = j + 1 := by rw [hl1]; omega
    have := ih (p ++ [byt tx j]) ⟨by rw [e5, hr, dgRun_step c1 c2]; simp, by rw [hl1]; omega, by rw [e5]; omega⟩ (by rw [hl1]; omega)
    rw [e5] at this
    exact this
  · have hE : p.length = 4 ∨ dgRun tx j = [] := by
      rcases Nat.lt_or_ge p.length 4 with g | g
      · refine .inr (dgRun_stop ?_)
        rcases Nat.lt_or_ge j tx.size with g1 | g1
        · refine .inr ?_
          cases h : isDg (byt tx j) with
          | false => rfl
          | true => exact absurd ⟨g1, h, g⟩ c1
        · exact .inl g1
      · exact .inl (by omega)
    clear ih
    have key : (nmOk tx i = true ∧ figV 3 (dgRun tx i) = valD p ∧ (dEnd tx i : Int) = j ∧ j ≠ i ∧ p.length ≤ 3 ∧ ¬ ((byt tx i).toNat = 48 ∧ 1 < p.length) ∧ valD p < 200) ∨ (nmOk tx i = false ∧ (j = i ∨ 3 < p.length ∨ ((byt tx i).toNat = 48 ∧ 1 < p.length) ∨ 200 ≤ valD p)) := by
      rcases hE with g | g
      · right
        refine ⟨?_, .inr (.inl (by omega))⟩
        have : figV 3 (dgRun tx i) = -1 := figV_neg (.inr (.inl (by rw [hr]; simp; omega)))
        simp [nmOk, this]
      · rw [g, List.append_nil] at hr
        have hde : dEnd tx i = j := by unfold dEnd; rw [hr]; omega
        by_cases f1 : j = i
        · right
          have : p = [] := List.eq_nil_of_length_eq_zero (by omega)
          refine ⟨?_, .inl f1⟩
          have : figV 3 (dgRun tx i) = -1 := figV_neg (.inl (by rw [hr, this]))
          simp [nmOk, this]
        · have hne : p ≠ [] := by intro e; rw [e] at hj; simp at hj; omega
          have hit : i < tx.size := by omega
          have hh : lead0 (dgRun tx i) = decide ((byt tx i).toNat = 48 ∧ 1 < p.length) := by
            obtain ⟨b, q, rfl⟩ : ∃ b q, p = b :: q := by cases p with | nil => exact absurd rfl hne | cons b q => exact ⟨b, q, rfl⟩
            have hb : b = byt tx i := by
              have h1 : (dgRun tx i).head? = some b := by rw [hr]; rfl
              have h2 : isDg (byt tx i) = true := by
                cases h : isDg (byt tx i) with
                | true => rfl
                | false => rw [dgRun_stop (.inr h)] at h1; cases h1
              rw [dgRun_step hit h2] at h1
              exact (Option.some.inj h1).symm
            rw [hr]
            simp only [lead0, List.head?_cons, Option.some.injEq]
            rw [hb]
            have : (byt tx i = 48) ↔ (byt tx i).toNat = 48 := by
              constructor
              · intro e; rw [e]; rfl
              · intro e; exact UInt8.toNat_inj.1 e
            simp only [this]
            rw [Bool.eq_iff_iff]
            simp
            omega
          by_cases f2 : 3 < p.length
          · right
            refine ⟨?_, .inr (.inl f2)⟩
            have : figV 3 (dgRun tx i) = -1 := figV_neg (.inr (.inl (by rw [hr]; exact f2)))
            simp [nmOk, this]
          · by_cases f3 : (byt tx i).toNat = 48 ∧ 1 < p.length
            · right
              refine ⟨?_, .inr (.inr (.inl f3))⟩
              have : figV 3 (dgRun tx i) = -1 := figV_neg (.inr (.inr (by rw [hh]; simpa using f3)))
              simp [nmOk, this]
            · have hfv : figV 3 (dgRun tx i) = valD p := by
                have := figV_pos (most := 3) (l := dgRun tx i) (by rw [hr]; exact hne) (by rw [hr]; exact f2) (by rw [hh]; exact decide_eq_false f3)
                rw [this, hr]
              by_cases f5 : 200 ≤ valD p
              · right
                exact ⟨by simp [nmOk, hfv]; omega, .inr (.inr (.inr f5))⟩
              · left
                exact ⟨by simp [nmOk, hfv]; omega, hfv, by rw [hde], f1, by omega, f3, by omega⟩
    clear hE hr hdp hv
    by_cases e1 : j < tx.size
    · have b1 : decide ((j : Int) < tx.size) = true := by simp; omega
      by_cases e2 : 48 ≤ (byt tx j).toNat
      · have b2 : decide ((48 : Int) ≤ ((byt tx j).toNat : Int)) = true := by simp; omega
        by_cases e3 : (byt tx j).toNat ≤ 57
        · have e4 : ¬ p.length < 4 := fun e4 => c1 ⟨e1, by simp [isDg]; omega, e4⟩
          have b3 : decide (((byt tx j).toNat : Int) ≤ (57 : Int)) = true := by simp; omega
          have b4 : decide ((p.length : Int) < 4) = false := by simp; omega
          simp [b1, e1, b2, b3, b4, hw0]
          rcases key with ⟨k1, k2, k3, k4, k5, k6, k7⟩ | ⟨k1, k4⟩
          · have f1 : decide ((j : Int) = i) = false := by simp; omega
            have f2 : decide ((3 : Int) < p.length) = false := by simp; omega
            have hit : i < tx.size := by omega
            have f5 : decide ((200 : Int) ≤ valD p) = false := by simp; omega
            simp [f1, f2, hit, f5, hw0]
            by_cases f3 : (byt tx i).toNat = 48
            · have f4 : decide ((1 : Int) < p.length) = false := by simp; have := fun h => k6 ⟨f3, h⟩; omega
              have f3' : decide (((byt tx i).toNat : Int) = 48) = true := by simp; omega
              simp [f3', f4, f5, hw0]
              exact LeV.ro rfl rfl (by simp [k1, k2, k3])
            · have f3' : decide (((byt tx i).toNat : Int) = 48) = false := by simp; omega
              simp [f3', f5, hw0]
              exact LeV.ro rfl rfl (by simp [k1, k2, k3])
          · by_cases f1 : j = i
            · have f1' : decide ((j : Int) = i) = true := by simp; omega
              simp [f1', hw0]
              exact LeV.ro rfl rfl (by simp [k1])
            · have f1' : decide ((j : Int) = i) = false := by simp; omega
              have hit : i < tx.size := by omega
              simp [f1', hit, hw0]
              by_cases f2 : 3 < p.length
              · have f2' : decide ((3 : Int) < p.length) = true := by simp; omega
                simp [f2', hw0]
                exact LeV.ro rfl rfl (by simp [k1])
              · have f2' : decide ((3 : Int) < p.length) = false := by simp; omega
                simp [f2', hit, hw0]
                by_cases f3 : (byt tx i).toNat = 48
                · have f3' : decide (((byt tx i).toNat : Int) = 48) = true := by simp; omega
                  simp [f3', hw0]
                  by_cases f4 : 1 < p.length
                  · have f4' : decide ((1 : Int) < p.length) = true := by simp; omega
                    simp [f4', hw0]
                    exact LeV.ro rfl rfl (by simp [k1])
                  · have f4' : decide ((1 : Int) < p.length) = false := by simp; omega
                    have f5' : decide ((200 : Int) ≤ valD p) = true := by simp; omega
                    simp [f4', f5', hw0]
                    exact LeV.ro rfl rfl (by simp [k1])
                · have f3' : decide (((byt tx i).toNat : Int) = 48) = false := by simp; omega
                  have f5' : decide ((200 : Int) ≤ valD p) = true := by simp; omega
                  simp [f3', f5', hw0]
                  exact LeV.ro rfl rfl (by simp [k1])
        · have b3 : decide (((byt tx j).toNat : Int) ≤ (57 : Int)) = false := by simp; omega
          simp [b1, e1, b2, b3, hw0]
          rcases key with ⟨k1, k2, k3, k4, k5, k6, k7⟩ | ⟨k1, k4⟩
          · have f1 : decide ((j : Int) = i) = false := by simp; omega
            have f2 : decide ((3 : Int) < p.length) = false := by simp; omega
            have hit : i < tx.size := by omega
            have f5 : decide ((200 : Int) ≤ valD p) = false := by simp; omega
            simp [f1, f2, hit, f5, hw0]
            by_cases f3 : (byt tx i).toNat = 48
            · have f4 : decide ((1 : Int) < p.length) = false := by simp; have := fun h => k6 ⟨f3, h⟩; omega
              have f3' : decide (((byt tx i).toNat : Int) = 48) = true := by simp; omega
              simp [f3', f4, f5, hw0]
              exact LeV.ro rfl rfl (by simp [k1, k2, k3])
            · have f3' : decide (((byt tx i).toNat : Int) = 48) = false := by simp; omega
              simp [f3', f5, hw0]
              exact LeV.ro rfl rfl (by simp [k1, k2, k3])
          · by_cases f1 : j = i
            · have f1' : decide ((j : Int) = i) = true := by simp; omega
              simp [f1', hw0]
              exact LeV.ro rfl rfl (by simp [k1])
            · have f1' : decide ((j : Int) = i) = false := by simp; omega
              have hit : i < tx.size := by omega
              simp [f1', hit, hw0]
              by_cases f2 : 3 < p.length
              · have f2' : decide ((3 : Int) < p.length) = true := by simp; omega
                simp [f2', hw0]
                exact LeV.ro rfl rfl (by simp [k1])
              · have f2' : decide ((3 : Int) < p.length) = false := by simp; omega
                simp [f2', hit, hw0]
                by_cases f3 : (byt tx i).toNat = 48
                · have f3' : decide (((byt tx i).toNat : Int) = 48) = true := by simp; omega
                  simp [f3', hw0]
                  by_cases f4 : 1 < p.length
                  · have f4' : decide ((1 : Int) < p.length) = true := by simp; omega
                    simp [f4', hw0]
                    exact LeV.ro rfl rfl (by simp [k1])
                  · have f4' : decide ((1 : Int) < p.length) = false := by simp; omega
                    have f5' : decide ((200 : Int) ≤ valD p) = true := by simp; omega
                    simp [f4', f5', hw0]
                    exact LeV.ro rfl rfl (by simp [k1])
                · have f3' : decide (((byt tx i).toNat : Int) = 48) = false := by simp; omega
                  have f5' : decide ((200 : Int) ≤ valD p) = true := by simp; omega
                  simp [f3', f5', hw0]
                  exact LeV.ro rfl rfl (by simp [k1])
      · have b2 : decide ((48 : Int) ≤ ((byt tx j).toNat : Int)) = false := by simp; omega
        simp [b1, e1, b2, hw0]
        rcases key with ⟨k1, k2, k3, k4, k5, k6, k7⟩ | ⟨k1, k4⟩
        · have f1 : decide ((j : Int) = i) = false := by simp; omega
          have f2 : decide ((3 : Int) < p.length) = false := by simp; omega
          have hit : i < tx.size := by omega
          have f5 : decide ((200 : Int) ≤ valD p) = false := by simp; omega
          simp [f1, f2, hit, f5, hw0]
          by_cases f3 : (byt tx i).toNat = 48
          · have f4 : decide ((1 : Int) < p.length) = false := by simp; have := fun h => k6 ⟨f3, h⟩; omega
            have f3' : decide (((byt tx i).toNat : Int) = 48) = true := by simp; omega
            simp [f3', f4, f5, hw0]
            exact LeV.ro rfl rfl (by simp [k1, k2, k3])
          · have f3' : decide (((byt tx i).toNat : Int) = 48) = false := by simp; omega
            simp [f3', f5, hw0]
            exact LeV.ro rfl rfl (by simp [k1, k2, k3])
        · by_cases f1 : j = i
          · have f1' : decide ((j : Int) = i) = true := by simp; omega
            simp [f1', hw0]
            exact LeV.ro rfl rfl (by simp [k1])
          · have f1' : decide ((j : Int) = i) = false := by simp; omega
            have hit : i < tx.size := by omega
            simp [f1', hit, hw0]
            by_cases f2 : 3 < p.length
            · have f2' : decide ((3 : Int) < p.length) = true := by simp; omega
              simp [f2', hw0]
              exact LeV.ro rfl rfl (by simp [k1])
            · have f2' : decide ((3 : Int) < p.length) = false := by simp; omega
              simp [f2', hit, hw0]
              by_cases f3 : (byt tx i).toNat = 48
              · have f3' : decide (((byt tx i).toNat : Int) = 48) = true := by simp; omega
                simp [f3', hw0]
                by_cases f4 : 1 < p.length
                · have f4' : decide ((1 : Int) < p.length) = true := by simp; omega
                  simp [f4', hw0]
                  exact LeV.ro rfl rfl (by simp [k1])
                · have f4' : decide ((1 : Int) < p.length) = false := by simp; omega
                  have f5' : decide ((200 : Int) ≤ valD p) = true := by simp; omega
                  simp [f4', f5', hw0]
                  exact LeV.ro rfl rfl (by simp [k1])
              · have f3' : decide (((byt tx i).toNat : Int) = 48) = false := by simp; omega
                have f5' : decide ((200 : Int) ≤ valD p) = true := by simp; omega
                simp [f3', f5', hw0]
                exact LeV.ro rfl rfl (by simp [k1])
    · have b1 : decide ((j : Int) < tx.size) = false := by simp; omega
      simp [e1]
      rcases key with ⟨k1, k2, k3, k4, k5, k6, k7⟩ | ⟨k1, k4⟩
      · have f1 : decide ((j : Int) = i) = false := by simp; omega
        have f2 : decide ((3 : Int) < p.length) = false := by simp; omega
        have hit : i < tx.size := by omega
        have f5 : decide ((200 : Int) ≤ valD p) = false := by simp; omega
        simp [f1, f2, hit, f5, hw0]
        by_cases f3 : (byt tx i).toNat = 48
        · have f4 : decide ((1 : Int) < p.length) = false := by simp; have := fun h => k6 ⟨f3, h⟩; omega
          have f3' : decide (((byt tx i).toNat : Int) = 48) = true := by simp; omega
          simp [f3', f4, f5, hw0]
          exact LeV.ro rfl rfl (by simp [k1, k2, k3])
        · have f3' : decide (((byt tx i).toNat : Int) = 48) = false := by simp; omega
          simp [f3', f5, hw0]
          exact LeV.ro rfl rfl (by simp [k1, k2, k3])
      · by_cases f1 : j = i
        · have f1' : decide ((j : Int) = i) = true := by simp; omega
          simp [f1', hw0]
          exact LeV.ro rfl rfl (by simp [k1])
        · have f1' : decide ((j : Int) = i) = false := by simp; omega
          have hit : i < tx.size := by omega
          simp [f1', hit, hw0]
          by_cases f2 : 3 < p.length
          · have f2' : decide ((3 : Int) < p.length) = true := by simp; omega
            simp [f2', hw0]
            exact LeV.ro rfl rfl (by simp [k1])
          · have f2' : decide ((3 : Int) < p.length) = false := by simp; omega
            simp [f2', hit, hw0]
            by_cases f3 : (byt tx i).toNat = 48
            · have f3' : decide (((byt tx i).toNat : Int) = 48) = true := by simp; omega
              simp [f3', hw0]
              by_cases f4 : 1 < p.length
              · have f4' : decide ((1 : Int) < p.length) = true := by simp; omega
                simp [f4', hw0]
                exact LeV.ro rfl rfl (by simp [k1])
              · have f4' : decide ((1 : Int) < p.length) = false := by simp; omega
                have f5' : decide ((200 : Int) ≤ valD p) = true := by simp; omega
                simp [f4', f5', hw0]
                exact LeV.ro rfl rfl (by simp [k1])
            · have f3' : decide (((byt tx i).toNat : Int) = 48) = false := by simp; omega
              have f5' : decide ((200 : Int) ≤ valD p) = true := by simp; omega
              simp [f3', f5', hw0]
              exact LeV.ro rfl rfl (by simp [k1])
theorem spec_l4Name_call {tx : ByteArray} {i : Nat} (hs : tx.size ≤ 281474976710656) (hi : i ≤ tx.size) {S : FuncId → Bool} {H : List Blk} {K : A → Dl → Prop} (hS : S 38 = false) (hK : K (.tup [i6 (if nmOk tx i = true then figV 3 (dgRun tx i) else 0), i6 (if nmOk tx i = true then (dEnd tx i : Int) else 0), .bool (nmOk tx i)]) (.news [])) : @WCall' Go.Proofs.Tryz.prog S 38 [.str tx, i6 i] H ⟨K⟩ :=
  WCall_pure hS (spec_l4Name_c tx i hs hi) (by simp) (by simp) (by simp) hK
theorem spec_l4Name_k {tx : ByteArray} {i : Nat} (hs : tx.size ≤ 281474976710656) (hi : i ≤ tx.size) {S : FuncId → Bool} {H : List Blk} {K : A → Dl → Prop} {zs : List A} (hS : S 38 = false) (hv : viewL (viewA 8 H) zs = some [.str tx, i6 i]) (ho : noOwns zs = true ∨ nosl (.tup [i6 (if nmOk tx i = true then figV 3 (dgRun tx i) else 0), i6 (if nmOk tx i = true then (dEnd tx i : Int) else 0), .bool (nmOk tx i)]) = true) (hK : K (.tup [i6 (if nmOk tx i = true then figV 3 (dgRun tx i) else 0), i6 (if nmOk tx i = true then (dEnd tx i : Int) else 0), .bool (nmOk tx i)]) (.news [])) : @WCall' Go.Proofs.Tryz.prog S 38 zs H ⟨K⟩ :=
  WCall_pure hS (spec_l4Name_c tx i hs hi) hv ho (by simp) hK
/-- A sign with parts: its kind, how many signs it takes, the sign behind it. -/
def kd3 (b : Int) : Int × Int × Int := if b = 40 then (2, 1, 41) else if b = 123 then (3, 1, 125) else if b = 91 then (4, 1, 93) else if b = 35 then (5, 1, 0) else if b = 94 then (7, 1, 0) else if b = 107 then (6, 2, 41) else if b = 42 then (8, 2, 41) else (0, 0, 0)
theorem spec_l4Kind_c (tx : ByteArray) (i : Nat) (hi : i < tx.size) : T 44 [.str tx, i6 i] [] (.tup [i6 (kd3 (bt tx i)).1, i6 (kd3 (bt tx i)).2.1, .int .u8 (kd3 (bt tx i)).2.2]) ([]) := by
  refine semT' (S := S0) hm spec_l4Kind_ok (Nat.le_of_ble_eq_true rfl) ?_
  unfold spec_l4Kind; dsimp only
  simp [hi]
  repeat (any_goals (first | (refine br_intro' (fun h => ?_) (fun h => ?_) <;> (have h0 := h) <;> (try simp at h) <;> try simp [h0, h])))
  all_goals exact LeV.ro rfl rfl (by simp [kd3, *])
theorem spec_l4Kind_call {tx : ByteArray} {i : Nat} (hi : i < tx.size) {S : FuncId → Bool} {H : List Blk} {K : A → Dl → Prop} (hS : S 44 = false) (hK : K (.tup [i6 (kd3 (bt tx i)).1, i6 (kd3 (bt tx i)).2.1, .int .u8 (kd3 (bt tx i)).2.2]) (.news [])) : @WCall' Go.Proofs.Tryz.prog S 44 [.str tx, i6 i] H ⟨K⟩ :=
  WCall_pure hS (spec_l4Kind_c tx i hi) (by simp) (by simp) (by simp) hK
theorem spec_l4Kind_k {tx : ByteArray} {i : Nat} (hi : i < tx.size) {S : FuncId → Bool} {H : List Blk} {K : A → Dl → Prop} {zs : List A} (hS : S 44 = false) (hv : viewL (viewA 8 H) zs = some [.str tx, i6 i]) (ho : noOwns zs = true ∨ nosl (.tup [i6 (kd3 (bt tx i)).1, i6 (kd3 (bt tx i)).2.1, .int .u8 (kd3 (bt tx i)).2.2]) = true) (hK : K (.tup [i6 (kd3 (bt tx i)).1, i6 (kd3 (bt tx i)).2.1, .int .u8 (kd3 (bt tx i)).2.2]) (.news [])) : @WCall' Go.Proofs.Tryz.prog S 44 zs H ⟨K⟩ :=
  WCall_pure hS (spec_l4Kind_c tx i hi) hv ho (by simp) hK
end Go.Proofs.YtealijdcolmchaaGreatDoor.C

set_option linter.unusedVariables false
set_option linter.unusedSimpArgs false
set_option maxRecDepth 4000
namespace Go.Proofs.YtealijdcolmchaaGreatDoor.C
open Go.Sym Go.Proofs.YtealijdcolmchaaGreatDoor.I
/-- A place's number. -/
def n4Ok (tx : ByteArray) (i : Nat) : Bool := decide (0 ≤ figV 4 (dgRun tx i))
theorem addF_neg1 {s : List Nd} {n : Nd} {z : List Nd × Int} (h : addF s n = z) (h0 : z.2 < 0) : z.2 = -1 ∧ z.1 = s := by
  rw [← h] at h0 ⊢
  unfold addF at h0 ⊢
  split
  · exact ⟨rfl, rfl⟩
  · rename_i g
    rw [if_neg g] at h0
    split
    · rename_i g2
      rw [if_pos g2] at h0
      simp only at h0
      omega
    · rename_i g2
      rw [if_neg g2] at h0
      split
      · exact ⟨rfl, rfl⟩
      · rename_i g3
        rw [if_neg g3] at h0
        simp only at h0
        omega
theorem spec_l10Num_c (tx : ByteArray) (i : Nat) (hs : tx.size ≤ 281474976710656) (hi : i ≤ tx.size) : T 37 [.str tx, i6 i] [] (.tup [i6 (if n4Ok tx i = true then figV 4 (dgRun tx i) else 0), i6 (if n4Ok tx i = true then (dEnd tx i : Int) else 0), .bool (n4Ok tx i)]) ([]) := by
  refine semT' (S := S0) hm spec_l10Num_ok (Nat.le_of_ble_eq_true rfl) ?_
  unfold spec_l10Num; dsimp only
  simp
  refine WLoop_fam (fun p : List UInt8 => [(0, A.str tx), (1, i6 (((i + p.length : Nat) : Int))), (7, i6 i), (8, i6 (valD p))]) (fun _ => []) (fun p => 6 - p.length)
    (fun p => dgRun tx i = p ++ dgRun tx (i + p.length) ∧ p.length ≤ 5 ∧ i + p.length ≤ tx.size) ?_ [] ⟨by simp, by simp, by simpa using hi⟩
  intro p ⟨hr, hl4, hsz⟩ ih
  have hdp : ∀ b ∈ p, isDg b = true := fun b hb => dgRun_dg tx i b (by rw [hr]; simp [hb])
  have hv := valD_lt p hdp
  have hv4 : valD p < 100000 := Nat.lt_of_lt_of_le hv (Nat.pow_le_pow_right (by omega) hl4)
  obtain ⟨j, hj⟩ : ∃ j, i + p.length = j := ⟨_, rfl⟩
  rw [hj] at hr hsz ⊢
  have hw0 : IntKind.i64.wrap ((j : Int) - i) = p.length := by rw [wrap64 (by omega) (by omega)]; omega
  simp [hw0]
  by_cases c1 : j < tx.size ∧ isDg (byt tx j) = true ∧ p.length < 5
  · obtain ⟨c1, c2, c3⟩ := c1
    have c2' := c2
    simp only [isDg, decide_eq_true_eq] at c2'
    have d2 : (48 : Int) ≤ ((byt tx j).toNat : Int) := by omega
    have d3 : ((byt tx j).toNat : Int) ≤ (57 : Int) := by omega
    have d4 : (p.length : Int) < 5 := by omega
    have w1 : IntKind.i64.wrap (10 * (valD p : Int)) = 10 * valD p := wrap64 (by omega) (by omega)
    have w2 : IntKind.i64.wrap ((byt tx j).toNat : Int) = (byt tx j).toNat := wrap64 (by omega) (by omega)
    have w3 : IntKind.i64.wrap (10 * (valD p : Int) + (byt tx j).toNat) = 10 * valD p + (byt tx j).toNat := wrap64 (by omega) (by omega)
    have w4 : IntKind.i64.wrap (10 * (valD p : Int) + (byt tx j).toNat - 48) = valD (p ++ [byt tx j]) := by rw [wrap64 (by omega) (by omega), valD_snoc]; push_cast; omega
    have w5 := wrap_succ (n := j) (by omega)
    have b1 : decide ((j : Int) < tx.size) = true := by simp; omega
    have b2 : decide ((48 : Int) ≤ ((byt tx j).toNat : Int)) = true := by simp; omega
    have b3 : decide (((byt tx j).toNat : Int) ≤ (57 : Int)) = true := by simp; omega
    have b4 : decide ((p.length : Int) < 5) = true := by simp; omega
    simp [b1, c1, b2, b3, b4, hw0, w1, w2, w3, w4, w5]
    have hl1 : (p ++ [byt tx j]).length = p.length + 1 := by simp
    have e5 : i + (p ++ [byt tx j]).length = j + 1 := by rw [hl1]; omega
    have := ih (p ++ [byt tx j]) ⟨by rw [e5, hr, dgRun_step c1 c2]; simp, by rw [hl1]; omega, by rw [e5]; omega⟩ (by rw [hl1]; omega)
    rw [e5] at this
    exact this
  · have hE : p.length = 5 ∨ dgRun tx j = [] := by
      rcases Nat.lt_or_ge p.length 5 with g | g
      · refine .inr (dgRun_stop ?_)
        rcases Nat.lt_or_ge j tx.size with g1 | g1
        · refine .inr ?_
          cases h : isDg (byt tx j) with
          | false => rfl
          | true => exact absurd ⟨g1, h, g⟩ c1
        · exact .inl g1
      · exact .inl (by omega)
    clear ih
    have key : (n4Ok tx i = true ∧ figV 4 (dgRun tx i) = valD p ∧ (dEnd tx i : Int) = j ∧ j ≠ i ∧ p.length ≤ 4 ∧ ¬ ((byt tx i).toNat = 48 ∧ 1 < p.length)) ∨ (n4Ok tx i = false ∧ (j = i ∨ 4 < p.length ∨ ((byt tx i).toNat = 48 ∧ 1 < p.length))) := by
      rcases hE with g | g
      · right
        refine ⟨?_, .inr (.inl (by omega))⟩
        have : figV 4 (dgRun tx i) = -1 := figV_neg (.inr (.inl (by rw [hr]; simp; omega)))
        simp [n4Ok, this]
      · rw [g, List.append_nil] at hr
        have hde : dEnd tx i = j := by unfold dEnd; rw [hr]; omega
        by_cases f1 : j = i
        · right
          have : p = [] := List.eq_nil_of_length_eq_zero (by omega)
          refine ⟨?_, .inl f1⟩
          have : figV 4 (dgRun tx i) = -1 := figV_neg (.inl (by rw [hr, this]))
          simp [n4Ok, this]
        · have hne : p ≠ [] := by intro e; rw [e] at hj; simp at hj; omega
          have hit : i < tx.size := by omega
          have hh : lead0 (dgRun tx i) = decide ((byt tx i).toNat = 48 ∧ 1 < p.length) := by
            obtain ⟨b, q, rfl⟩ : ∃ b q, p = b :: q := by cases p with | nil => exact absurd rfl hne | cons b q => exact ⟨b, q, rfl⟩
            have hb : b = byt tx i := by
              have h1 : (dgRun tx i).head? = some b := by rw [hr]; rfl
              have h2 : isDg (byt tx i) = true := by
                cases h : isDg (byt tx i) with
                | true => rfl
                | false => rw [dgRun_stop (.inr h)] at h1; cases h1
              rw [dgRun_step hit h2] at h1
              exact (Option.some.inj h1).symm
            rw [hr]
            simp only [lead0, List.head?_cons, Option.some.injEq]
            rw [hb]
            have : (byt tx i = 48) ↔ (byt tx i).toNat = 48 := by
              constructor
              · intro e; rw [e]; rfl
              · intro e; exact UInt8.toNat_inj.1 e
            simp only [this]
            rw [Bool.eq_iff_iff]
            simp
            omega
          by_cases f2 : 4 < p.length
          · right
            refine ⟨?_, .inr (.inl f2)⟩
            have : figV 4 (dgRun tx i) = -1 := figV_neg (.inr (.inl (by rw [hr]; exact f2)))
            simp [n4Ok, this]
          · by_cases f3 : (byt tx i).toNat = 48 ∧ 1 < p.length
            · right
              refine ⟨?_, .inr (.inr f3)⟩
              have : figV 4 (dgRun tx i) = -1 := figV_neg (.inr (.inr (by rw [hh]; simpa using f3)))
              simp [n4Ok, this]
            · have hfv : figV 4 (dgRun tx i) = valD p := by
                have := figV_pos (most := 4) (l := dgRun tx i) (by rw [hr]; exact hne) (by rw [hr]; exact f2) (by rw [hh]; exact decide_eq_false f3)
                rw [this, hr]
              left
              exact ⟨by simp [n4Ok, hfv], hfv, by rw [hde], f1, by omega, f3⟩
    clear hE hr hdp hv
    by_cases e1 : j < tx.size
    · have b1 : decide ((j : Int) < tx.size) = true := by simp; omega
      by_cases e2 : 48 ≤ (byt tx j).toNat
      · have b2 : decide ((48 : Int) ≤ ((byt tx j).toNat : Int)) = true := by simp; omega
        by_cases e3 : (byt tx j).toNat ≤ 57
        · have e4 : ¬ p.length < 5 := fun e4 => c1 ⟨e1, by simp [isDg]; omega, e4⟩
          have b3 : decide (((byt tx j).toNat : Int) ≤ (57 : Int)) = true := by simp; omega
          have b4 : decide ((p.length : Int) < 5) = false := by simp; omega
          simp [b1, e1, b2, b3, b4, hw0]
          rcases key with ⟨k1, k2, k3, k4, k5, k6⟩ | ⟨k1, k4⟩
          · have f1 : decide ((j : Int) = i) = false := by simp; omega
            have f2 : decide ((4 : Int) < p.length) = false := by simp; omega
            have hit : i < tx.size := by omega
            simp [f1, f2, hit, hw0]
            by_cases f3 : (byt tx i).toNat = 48
            · have f4 : decide ((1 : Int) < p.length) = false := by simp; have := fun h => k6 ⟨f3, h⟩; omega
              have f3' : decide (((byt tx i).toNat : Int) = 48) = true := by simp; omega
              simp [f3', f4, hw0]
              exact LeV.ro rfl rfl (by simp [k1, k2, k3])
            · have f3' : decide (((byt tx i).toNat : Int) = 48) = false := by simp; omega
              simp [f3', hw0]
              exact LeV.ro rfl rfl (by simp [k1, k2, k3])
          · by_cases f1 : j = i
            · have f1' : decide ((j : Int) = i) = true := by simp; omega
              simp [f1', hw0]
              exact LeV.ro rfl rfl (by simp [k1])
            · have f1' : decide ((j : Int) = i) = false := by simp; omega
              have hit : i < tx.size := by omega
              simp [f1', hit, hw0]
              by_cases f2 : 4 < p.length
              · have f2' : decide ((4 : Int) < p.length) = true := by simp; omega
                simp [f2', hw0]
                exact LeV.ro rfl rfl (by simp [k1])
              · have f2' : decide ((4 : Int) < p.length) = false := by simp; omega
                have f3 : (byt tx i).toNat = 48 ∧ 1 < p.length := by omega
                have f3' : decide (((byt tx i).toNat : Int) = 48) = true := by simp; omega
                have f4' : decide ((1 : Int) < p.length) = true := by simp; omega
                simp [f2', hit, f3', f4', hw0]
                exact LeV.ro rfl rfl (by simp [k1])
        · have b3 : decide (((byt tx j).toNat : Int) ≤ (57 : Int)) = false := by simp; omega
          simp [b1, e1, b2, b3, hw0]
          rcases key with ⟨k1, k2, k3, k4, k5, k6⟩ | ⟨k1, k4⟩
          · have f1 : decide ((j : Int) = i) = false := by simp; omega
            have f2 : decide ((4 : Int) < p.length) = false := by simp; omega
            have hit : i < tx.size := by omega
            simp [f1, f2, hit, hw0]
            by_cases f3 : (byt tx i).toNat = 48
            · have f4 : decide ((1 : Int) < p.length) = false := by simp; have := fun h => k6 ⟨f3, h⟩; omega
              have f3' : decide (((byt tx i).toNat : Int) = 48) = true := by simp; omega
              simp [f3', f4, hw0]
              exact LeV.ro rfl rfl (by simp [k1, k2, k3])
            · have f3' : decide (((byt tx i).toNat : Int) = 48) = false := by simp; omega
              simp [f3', hw0]
              exact LeV.ro rfl rfl (by simp [k1, k2, k3])
          · by_cases f1 : j = i
            · have f1' : decide ((j : Int) = i) = true := by simp; omega
              simp [f1', hw0]
              exact LeV.ro rfl rfl (by simp [k1])
            · have f1' : decide ((j : Int) = i) = false := by simp; omega
              have hit : i < tx.size := by omega
              simp [f1', hit, hw0]
              by_cases f2 : 4 < p.length
              · have f2' : decide ((4 : Int) < p.length) = true := by simp; omega
                simp [f2', hw0]
                exact LeV.ro rfl rfl (by simp [k1])
              · have f2' : decide ((4 : Int) < p.length) = false := by simp; omega
                have f3 : (byt tx i).toNat = 48 ∧ 1 < p.length := by omega
                have f3' : decide (((byt tx i).toNat : Int) = 48) = true := by simp; omega
                have f4' : decide ((1 : Int) < p.length) = true := by simp; omega
                simp [f2', hit, f3', f4', hw0]
                exact LeV.ro rfl rfl (by simp [k1])
      · have b2 : decide ((48 : Int) ≤ ((byt tx j).toNat : Int)) = false := by simp; omega
        simp [b1, e1, b2, hw0]
        rcases key with ⟨k1, k2, k3, k4, k5, k6⟩ | ⟨k1, k4⟩
        · have f1 : decide ((j : Int) = i) = false := by simp; omega
          have f2 : decide ((4 : Int) < p.length) = false := by simp; omega
          have hit : i < tx.size := by omega
          simp [f1, f2, hit, hw0]
          by_cases f3 : (byt tx i).toNat = 48
          · have f4 : decide ((1 : Int) < p.length) = false := by simp; have := fun h => k6 ⟨f3, h⟩; omega
            have f3' : decide (((byt tx i).toNat : Int) = 48) = true := by simp; omega
            simp [f3', f4, hw0]
            exact LeV.ro rfl rfl (by simp [k1, k2, k3])
          · have f3' : decide (((byt tx i).toNat : Int) = 48) = false := by simp; omega
            simp [f3', hw0]
            exact LeV.ro rfl rfl (by simp [k1, k2, k3])
        · by_cases f1 : j = i
          · have f1' : decide ((j : Int) = i) = true := by simp; omega
            simp [f1', hw0]
            exact LeV.ro rfl rfl (by simp [k1])
          · have f1' : decide ((j : Int) = i) = false := by simp; omega
            have hit : i < tx.size := by omega
            simp [f1', hit, hw0]
            by_cases f2 : 4 < p.length
            · have f2' : decide ((4 : Int) < p.length) = true := by simp; omega
              simp [f2', hw0]
              exact LeV.ro rfl rfl (by simp [k1])
            · have f2' : decide ((4 : Int) < p.length) = false := by simp; omega
              have f3 : (byt tx i).toNat = 48 ∧ 1 < p.length := by omega
              have f3' : decide (((byt tx i).toNat : Int) = 48) = true := by simp; omega
              have f4' : decide ((1 : Int) < p.length) = true := by simp; omega
              simp [f2', hit, f3', f4', hw0]
              exact LeV.ro rfl rfl (by simp [k1])
    · have b1 : decide ((j : Int) < tx.size) = false := by simp; omega
      simp [e1]
      rcases key with ⟨k1, k2, k3, k4, k5, k6⟩ | ⟨k1, k4⟩
      · have f1 : decide ((j : Int) = i) = false := by simp; omega
        have f2 : decide ((4 : Int) < p.length) = false := by simp; omega
        have hit : i < tx.size := by omega
        simp [f1, f2, hit, hw0]
        by_cases f3 : (byt tx i).toNat = 48
        · have f4 : decide ((1 : Int) < p.length) = false := by simp; have := fun h => k6 ⟨f3, h⟩; omega
          have f3' : decide (((byt tx i).toNat : Int) = 48) = true := by simp; omega
          simp [f3', f4, hw0]
          exact LeV.ro rfl rfl (by simp [k1, k2, k3])
        · have f3' : decide (((byt tx i).toNat : Int) = 48) = false := by simp; omega
          simp [f3', hw0]
          exact LeV.ro rfl rfl (by simp [k1, k2, k3])
      · by_cases f1 : j = i
        · have f1' : decide ((j : Int) = i) = true := by simp; omega
          simp [f1', hw0]
          exact LeV.ro rfl rfl (by simp [k1])
        · have f1' : decide ((j : Int) = i) = false := by simp; omega
          have hit : i < tx.size := by omega
          simp [f1', hit, hw0]
          by_cases f2 : 4 < p.length
          · have f2' : decide ((4 : Int) < p.length) = true := by simp; omega
            simp [f2', hw0]
            exact LeV.ro rfl rfl (by simp [k1])
          · have f2' : decide ((4 : Int) < p.length) = false := by simp; omega
            have f3 : (byt tx i).toNat = 48 ∧ 1 < p.length := by omega
            have f3' : decide (((byt tx i).toNat : Int) = 48) = true := by simp; omega
            have f4' : decide ((1 : Int) < p.length) = true := by simp; omega
            simp [f2', hit, f3', f4', hw0]
            exact LeV.ro rfl rfl (by simp [k1])
theorem spec_l10Num_call {tx : ByteArray} {i : Nat} (hs : tx.size ≤ 281474976710656) (hi : i ≤ tx.size) {S : FuncId → Bool} {H : List Blk} {K : A → Dl → Prop} (hS : S 37 = false) (hK : K (.tup [i6 (if n4Ok tx i = true then figV 4 (dgRun tx i) else 0), i6 (if n4Ok tx i = true then (dEnd tx i : Int) else 0), .bool (n4Ok tx i)]) (.news [])) : @WCall' Go.Proofs.Tryz.prog S 37 [.str tx, i6 i] H ⟨K⟩ :=
  WCall_pure hS (spec_l10Num_c tx i hs hi) (by simp) (by simp) (by simp) hK
theorem spec_l10Num_k {tx : ByteArray} {i : Nat} (hs : tx.size ≤ 281474976710656) (hi : i ≤ tx.size) {S : FuncId → Bool} {H : List Blk} {K : A → Dl → Prop} {zs : List A} (hS : S 37 = false) (hv : viewL (viewA 8 H) zs = some [.str tx, i6 i]) (ho : noOwns zs = true ∨ nosl (.tup [i6 (if n4Ok tx i = true then figV 4 (dgRun tx i) else 0), i6 (if n4Ok tx i = true then (dEnd tx i : Int) else 0), .bool (n4Ok tx i)]) = true) (hK : K (.tup [i6 (if n4Ok tx i = true then figV 4 (dgRun tx i) else 0), i6 (if n4Ok tx i = true then (dEnd tx i : Int) else 0), .bool (n4Ok tx i)]) (.news [])) : @WCall' Go.Proofs.Tryz.prog S 37 zs H ⟨K⟩ :=
  WCall_pure hS (spec_l10Num_c tx i hs hi) hv ho (by simp) hK
theorem spec_IsPublic_c (x : Int)  : T 39 [i6 x] [] (.bool (inF x 0 49)) ([]) := by
  refine semT' (S := S0) hm spec_IsPublic_ok (Nat.le_of_ble_eq_true rfl) ?_
  unfold spec_IsPublic; dsimp only
  simp
  refine spec_l1In_call rfl ?_; simp
  exact LeV.ro rfl rfl (by simp)
theorem spec_IsPublic_call {x : Int}  {S : FuncId → Bool} {H : List Blk} {K : A → Dl → Prop} (hS : S 39 = false) (hK : K (.bool (inF x 0 49)) (.news [])) : @WCall' Go.Proofs.Tryz.prog S 39 [i6 x] H ⟨K⟩ :=
  WCall_pure hS (spec_IsPublic_c x) (by simp) (by simp) (by simp) hK
theorem spec_IsPublic_k {x : Int}  {S : FuncId → Bool} {H : List Blk} {K : A → Dl → Prop} {zs : List A} (hS : S 39 = false) (hv : viewL (viewA 8 H) zs = some [i6 x]) (ho : noOwns zs = true ∨ nosl (.bool (inF x 0 49)) = true) (hK : K (.bool (inF x 0 49)) (.news [])) : @WCall' Go.Proofs.Tryz.prog S 39 zs H ⟨K⟩ :=
  WCall_pure hS (spec_IsPublic_c x) hv ho (by simp) hK
/-- What one of the signs of opening does to a term. -/
def apF (s : List Nd) (b t : Int) : Int :=
  if b = 60 ∧ (ndG s t).k = 2 ∨ b = 33 ∧ (ndG s t).k = 4 then (ndG s t).a else if b = 62 ∧ (ndG s t).k = 2 then (ndG s t).b else -1
theorem spec_l10Apply_c (ns : List Nd) (b : Int) (j : Nat) (hl : ns.length < 9223372036854775807) (hj : j < ns.length) : T 41 [aP ns, .int .u8 b, i6 j] [] (i6 (apF ns b j)) ([]) := by
  refine semT' (S := S0) hm spec_l10Apply_ok (Nat.le_of_ble_eq_true rfl) ?_
  unfold spec_l10Apply; dsimp only
  obtain ⟨e, he⟩ := enc_at hj
  have h3 : 3 ≤ ns.length * 3 - j * 3 := by omega
  unfold apF
  rw [ndG_at hj]
  simp [hj, he, h3]
  repeat (any_goals (first | (refine br_intro' (fun h => ?_) (fun h => ?_) <;> (have h0 := h) <;> (try simp at h) <;> try simp [h0, h])))
  all_goals exact LeV.ro rfl rfl (by simp [*])
theorem spec_l10Apply_call {ns : List Nd} {b : Int} {j : Nat} (hl : ns.length < 9223372036854775807) (hj : j < ns.length) {S : FuncId → Bool} {H : List Blk} {K : A → Dl → Prop} (hS : S 41 = false) (hK : K (i6 (apF ns b j)) (.news [])) : @WCall' Go.Proofs.Tryz.prog S 41 [aP ns, .int .u8 b, i6 j] H ⟨K⟩ :=
  WCall_pure hS (spec_l10Apply_c ns b j hl hj) (by simp) (by simp) (by simp) hK
theorem spec_l10Apply_k {ns : List Nd} {b : Int} {j : Nat} (hl : ns.length < 9223372036854775807) (hj : j < ns.length) {S : FuncId → Bool} {H : List Blk} {K : A → Dl → Prop} {zs : List A} (hS : S 41 = false) (hv : viewL (viewA 8 H) zs = some [aP ns, .int .u8 b, i6 j]) (ho : noOwns zs = true ∨ nosl (i6 (apF ns b j)) = true) (hK : K (i6 (apF ns b j)) (.news [])) : @WCall' Go.Proofs.Tryz.prog S 41 zs H ⟨K⟩ :=
  WCall_pure hS (spec_l10Apply_c ns b j hl hj) hv ho (by simp) hK
/-- What the signs o and x do to two terms. -/
def boF (s : List Nd) (b x y : Int) : List Nd × Int × Int :=
  if b = 111 then if (ndG s x).k = 3 ∧ (ndG s x).b = y then (s, (ndG s x).a, 0) else (s, -1, 7)
  else if (ndG s y).k = 7 then fullF (raiF s y x) else (s, -1, 7)
theorem raiF_neg1 {s : List Nd} {t x : Int} {z : List Nd × Int} (h : raiF s t x = z) (h0 : z.2 < 0) : z.2 = -1 ∧ z.1 = s := by
  unfold raiF at h
  split at h
  · exact addF_neg1 h h0
  · subst h; exact ⟨rfl, rfl⟩
theorem spec_l10Both_c (ns : List Nd) (b : Int) (x y : Nat) (hp : poolF ns = true) (hx : x < ns.length) (hy : y < ns.length) : T 43 [aP ns, .int .u8 b, i6 x, i6 y] [] (.tup [aP (boF ns b x y).1, i6 (boF ns b x y).2.1, i6 (boF ns b x y).2.2]) ([]) := by
  refine semT' (S := S0) hm spec_l10Both_ok (Nat.le_of_ble_eq_true rfl) ?_
  unfold spec_l10Both; dsimp only
  have hl := poolF_len hp
  obtain ⟨e, he⟩ := enc_at hx
  obtain ⟨f, hf⟩ := enc_at hy
  have h3 : 3 ≤ ns.length * 3 - x * 3 := by omega
  have h4 : 3 ≤ ns.length * 3 - y * 3 := by omega
  unfold boF
  rw [ndG_at hx, ndG_at hy]
  simp [hx, hy]
  refine br_intro' (fun u => ?_) (fun u => ?_) <;> (have u0 := u) <;> simp only [decide_eq_true_eq, decide_eq_false_iff_not] at u <;> simp [u0, u, hx, he, h3, hy, hf, h4]
  · refine br_intro' (fun v => ?_) (fun v => ?_) <;> (have v0 := v) <;> simp only [decide_eq_true_eq, decide_eq_false_iff_not] at v <;> simp [v0]
    · refine br_intro' (fun w => ?_) (fun w => ?_) <;> (have w0 := w) <;> simp only [decide_eq_true_eq, decide_eq_false_iff_not] at w <;> try simp [w0]
      · repeat (refine ck_intro' (by first | omega | (simp; omega) | kernel_rfl) ?_; try simp)
        exact LeV.ro rfl rfl (by simp [u, v, w])
      · repeat (refine ck_intro' (by first | omega | (simp; omega) | kernel_rfl) ?_; try simp)
        exact LeV.ro rfl rfl (by simp [u, v, w])
    · exact LeV.ro rfl rfl (by simp [u, v])
  · refine br_intro' (fun v => ?_) (fun v => ?_) <;> (have v0 := v) <;> simp only [decide_eq_true_eq, decide_eq_false_iff_not] at v <;> simp [v0, v]
    · refine spec_l3Raise_k (ns := ns) (t := y) (x := x) hp rfl (by simp) (by simp) ?_; simp
      obtain ⟨z, ez⟩ : ∃ z, raiF ns y x = z := ⟨_, rfl⟩
      rw [ez]
      by_cases cz : z.2 < 0
      · simp [cz]
        exact LeV.ro rfl rfl (by simp [u, v, fullF, cz, raiF_neg1 ez cz])
      · simp [cz]
        exact LeV.ro rfl rfl (by simp [u, v, fullF, cz])
    · exact LeV.ro rfl rfl (by simp [u, v])
theorem spec_l10Both_call {ns : List Nd} {b : Int} {x y : Nat} (hp : poolF ns = true) (hx : x < ns.length) (hy : y < ns.length) {S : FuncId → Bool} {H : List Blk} {K : A → Dl → Prop} (hS : S 43 = false) (hK : K (.tup [aP (boF ns b x y).1, i6 (boF ns b x y).2.1, i6 (boF ns b x y).2.2]) (.news [])) : @WCall' Go.Proofs.Tryz.prog S 43 [aP ns, .int .u8 b, i6 x, i6 y] H ⟨K⟩ :=
  WCall_pure hS (spec_l10Both_c ns b x y hp hx hy) (by simp) (by simp) (by simp) hK
theorem spec_l10Both_k {ns : List Nd} {b : Int} {x y : Nat} (hp : poolF ns = true) (hx : x < ns.length) (hy : y < ns.length) {S : FuncId → Bool} {H : List Blk} {K : A → Dl → Prop} {zs : List A} (hS : S 43 = false) (hv : viewL (viewA 8 H) zs = some [aP ns, .int .u8 b, i6 x, i6 y]) (ho : noOwns zs = true ∨ nosl (.tup [aP (boF ns b x y).1, i6 (boF ns b x y).2.1, i6 (boF ns b x y).2.2]) = true) (hK : K (.tup [aP (boF ns b x y).1, i6 (boF ns b x y).2.1, i6 (boF ns b x y).2.2]) (.news [])) : @WCall' Go.Proofs.Tryz.prog S 43 zs H ⟨K⟩ :=
  WCall_pure hS (spec_l10Both_c ns b x y hp hx hy) hv ho (by simp) hK
end Go.Proofs.YtealijdcolmchaaGreatDoor.C

set_option linter.unusedVariables false
set_option linter.unusedSimpArgs false
set_option maxRecDepth 4000
namespace Go.Proofs.YtealijdcolmchaaGreatDoor.C
open Go.Sym Go.Proofs.YtealijdcolmchaaGreatDoor.I
def p0 (ts : List Int) : Int := ts.getD 0 0
def p1 (ts : List Int) : Int := ts.getD 1 0
@[simp] theorem p0_two (a b : Int) : p0 [a, b] = a := rfl
@[simp] theorem p1_two (a b : Int) : p1 [a, b] = b := rfl
@[simp] theorem p0_one (a : Int) : p0 [a] = a := rfl
@[simp] theorem p1_one (a : Int) : p1 [a] = 0 := rfl
theorem takeF_bad {tx : ByteArray} {i : Nat} {c e : Int} (h : c ≠ 0) : takeF tx i c e = (i, c) := if_pos h
abbrev rW (ks : List Int) (s : List Nd) : Prop := poolF s = true ∧ ∀ x ∈ ks, 0 ≤ x ∧ x < s.length
/-- What the reference's reader answers, so far. -/
def RParses (tx : ByteArray) (ks : List Int) (n : Nat) : Prop := ∀ (s : List Nd) (i : Nat), rW ks s → i ≤ tx.size → tx.size - i < n →
  T 18 [aP s, aI ks, .str tx, i6 i] [] (.tup [aP (rdF (rcpR tx ks) n s i 0).1, i6 (rdF (rcpR tx ks) n s i 0).2.1, i6 (rdF (rcpR tx ks) n s i 0).2.2.1, i6 (rdF (rcpR tx ks) n s i 0).2.2.2]) []
def opnF (tx : ByteArray) (i : Nat) (op : Bool) : Nat × Int := if op = true then takeF tx i 0 40 else (i, 0)
abbrev rtF (tx : ByteArray) (ks : List Int) (n : Nat) (s : List Nd) (i : Nat) (op : Bool) (e : Int) : List Nd × List Int × Nat × Int := (rcpR tx ks).two (rdF (rcpR tx ks) n) e s (opnF tx i op).1 (opnF tx i op).2
theorem rtwo_t {tx : ByteArray} {ks : List Int} (hs : tx.size ≤ 1000000) {n : Nat} (ih : RParses tx ks n) (s : List Nd) (i : Nat) (op : Bool) (e : Int) (hW : rW ks s) (hi : i ≤ tx.size) (hn : tx.size - i < n) :
    T 42 [aP s, aI ks, .str tx, i6 i, .bool op, .int .u8 e] [] (.tup [aP (rtF tx ks n s i op e).1, i6 (p0 (rtF tx ks n s i op e).2.1), i6 (p1 (rtF tx ks n s i op e).2.1), i6 (rtF tx ks n s i op e).2.2.1, i6 (rtF tx ks n s i op e).2.2.2]) [] := by
  obtain ⟨q, eq⟩ : ∃ q, rtF tx ks n s i op e = q := ⟨_, rfl⟩
  rw [eq]
  have htx : (rcpR tx ks).text = tx := rfl
  refine semT' (S := S0) hm spec_l10Two_ok (Nat.le_of_ble_eq_true rfl) ?_
  unfold spec_l10Two; dsimp only
  cases op with
  | false =>
    have ho : opnF tx i false = (i, 0) := rfl
    simp only [rtF, ho] at eq
    simp
    have ha := ih s i hW (by omega) (by omega)
    have hga := (rcpK tx ks).rd_good n (s := s) (i := i) (c := 0) hW (by rw [htx]; omega) (by rw [htx]; omega)
    obtain ⟨a, ea⟩ : ∃ a, rdF (rcpR tx ks) n s i 0 = a := ⟨_, rfl⟩
    rw [ea] at ha hga
    refine WCall_pure rfl ha (by simp) (by simp) (by simp) ?_; simp
    by_cases ca : a.2.2.2 = 0
    case neg =>
      simp [ca]
      have eq2 : q = (a.1, [a.2.1, -1], a.2.2.1, a.2.2.2) := by
        rw [← eq]
        simp only [Rdr.two, htx, ea, takeF_bad ca, rdF_bad n _ _ ca]
      exact LeV.ro rfl rfl (by rw [eq2]; simp)
    obtain ⟨g1, g2, ⟨g3, g4, g5⟩, g6⟩ := hga ca
    rw [htx] at g2
    have hWa : rW ks a.1 := (rcpK tx ks).W_E (i := i) (i' := i) hW ⟨g3, Nat.le_refl _, g5⟩
    simp [ca]
    have hC := spec_l4Want_c tx a.2.2.1 44 (by omega)
    obtain ⟨t, et⟩ : ∃ t, takeF tx a.2.2.1 0 44 = t := ⟨_, rfl⟩
    rw [et] at hC
    refine WCall_pure rfl hC (by simp) (by simp) (by simp) ?_; simp
    by_cases ct : t.2 = 0
    case neg =>
      simp [ct]
      have eq2 : q = (a.1, [a.2.1, -1], t.1, t.2) := by
        rw [← eq]
        simp only [Rdr.two, htx, ea, ca, et, rdF_bad n _ _ ct, takeF_bad ct]
      exact LeV.ro rfl rfl (by rw [eq2]; simp)
    obtain ⟨_, t2, t3⟩ := takeF_ok (show (takeF tx a.2.2.1 0 44).2 = 0 by rw [et]; exact ct)
    rw [et] at t3
    simp [ct]
    have hb := ih a.1 t.1 hWa (by omega) (by omega)
    have hgb := (rcpK tx ks).rd_good n (s := a.1) (i := t.1) (c := 0) hWa (by rw [htx]; omega) (by rw [htx]; omega)
    obtain ⟨b, eb⟩ : ∃ b, rdF (rcpR tx ks) n a.1 t.1 0 = b := ⟨_, rfl⟩
    rw [eb] at hb hgb
    refine WCall_pure rfl hb (by simp) (by simp) (by simp) ?_; simp
    by_cases cb : b.2.2.2 = 0
    case neg =>
      simp [cb]
      have eq2 : q = (b.1, [a.2.1, b.2.1], b.2.2.1, b.2.2.2) := by
        rw [← eq]
        simp only [Rdr.two, htx, ea, ca, et, ct, eb, takeF_bad cb]
      exact LeV.ro rfl rfl (by rw [eq2]; simp)
    obtain ⟨k1, k2, _, _⟩ := hgb cb
    rw [htx] at k2
    simp [cb]
    have hU := spec_l4Want_c tx b.2.2.1 e (by omega)
    obtain ⟨u, eu⟩ : ∃ u, takeF tx b.2.2.1 0 e = u := ⟨_, rfl⟩
    rw [eu] at hU
    refine WCall_pure rfl hU (by simp) (by simp) (by simp) ?_; simp
    have eq2 : q = (b.1, [a.2.1, b.2.1], u.1, u.2) := by
      rw [← eq]
      simp only [Rdr.two, htx, ea, ca, et, ct, eb, cb, eu]
    exact LeV.ro rfl rfl (by rw [eq2]; simp)
  | true =>
    have hO := spec_l4Want_c tx i 40 (by omega)
    have ho : opnF tx i true = takeF tx i 0 40 := rfl
    simp only [rtF, ho] at eq
    obtain ⟨o, eo⟩ : ∃ o, takeF tx i 0 40 = o := ⟨_, rfl⟩
    rw [eo] at hO eq
    simp
    refine WCall_pure rfl hO (by simp) (by simp) (by simp) ?_; simp
    by_cases co : o.2 = 0
    case neg =>
      simp [co]
      have eq2 : q = (s, [-1, -1], o.1, o.2) := by
        rw [← eq]
        simp only [Rdr.two, htx, rdF_bad n _ _ co, takeF_bad co]
      exact LeV.ro rfl rfl (by rw [eq2]; simp)
    obtain ⟨_, o2, o3⟩ := takeF_ok (show (takeF tx i 0 40).2 = 0 by rw [eo]; exact co)
    rw [eo] at o3
    rw [co] at eq
    simp [co]
    have ha := ih s o.1 hW (by omega) (by omega)
    have hga := (rcpK tx ks).rd_good n (s := s) (i := o.1) (c := 0) hW (by rw [htx]; omega) (by rw [htx]; omega)
    obtain ⟨a, ea⟩ : ∃ a, rdF (rcpR tx ks) n s o.1 0 = a := ⟨_, rfl⟩
    rw [ea] at ha hga
    refine WCall_pure rfl ha (by simp) (by simp) (by simp) ?_; simp
    by_cases ca : a.2.2.2 = 0
    case neg =>
      simp [ca]
      have eq2 : q = (a.1, [a.2.1, -1], a.2.2.1, a.2.2.2) := by
        rw [← eq]
        simp only [Rdr.two, htx, ea, takeF_bad ca, rdF_bad n _ _ ca]
      exact LeV.ro rfl rfl (by rw [eq2]; simp)
    obtain ⟨g1, g2, ⟨g3, g4, g5⟩, g6⟩ := hga ca
    rw [htx] at g2
    have hWa : rW ks a.1 := (rcpK tx ks).W_E (i := o.1) (i' := o.1) hW ⟨g3, Nat.le_refl _, g5⟩
    simp [ca]
    have hC := spec_l4Want_c tx a.2.2.1 44 (by omega)
    obtain ⟨t, et⟩ : ∃ t, takeF tx a.2.2.1 0 44 = t := ⟨_, rfl⟩
    rw [et] at hC
    refine WCall_pure rfl hC (by simp) (by simp) (by simp) ?_; simp
    by_cases ct : t.2 = 0
    case neg =>
      simp [ct]
      have eq2 : q = (a.1, [a.2.1, -1], t.1, t.2) := by
        rw [← eq]
        simp only [Rdr.two, htx, ea, ca, et, rdF_bad n _ _ ct, takeF_bad ct]
      exact LeV.ro rfl rfl (by rw [eq2]; simp)
    obtain ⟨_, t2, t3⟩ := takeF_ok (show (takeF tx a.2.2.1 0 44).2 = 0 by rw [et]; exact ct)
    rw [et] at t3
    simp [ct]
    have hb := ih a.1 t.1 hWa (by omega) (by omega)
    have hgb := (rcpK tx ks).rd_good n (s := a.1) (i := t.1) (c := 0) hWa (by rw [htx]; omega) (by rw [htx]; omega)
    obtain ⟨b, eb⟩ : ∃ b, rdF (rcpR tx ks) n a.1 t.1 0 = b := ⟨_, rfl⟩
    rw [eb] at hb hgb
    refine WCall_pure rfl hb (by simp) (by simp) (by simp) ?_; simp
    by_cases cb : b.2.2.2 = 0
    case neg =>
      simp [cb]
      have eq2 : q = (b.1, [a.2.1, b.2.1], b.2.2.1, b.2.2.2) := by
        rw [← eq]
        simp only [Rdr.two, htx, ea, ca, et, ct, eb, takeF_bad cb]
      exact LeV.ro rfl rfl (by rw [eq2]; simp)
    obtain ⟨k1, k2, _, _⟩ := hgb cb
    rw [htx] at k2
    simp [cb]
    have hU := spec_l4Want_c tx b.2.2.1 e (by omega)
    obtain ⟨u, eu⟩ : ∃ u, takeF tx b.2.2.1 0 e = u := ⟨_, rfl⟩
    rw [eu] at hU
    refine WCall_pure rfl hU (by simp) (by simp) (by simp) ?_; simp
    have eq2 : q = (b.1, [a.2.1, b.2.1], u.1, u.2) := by
      rw [← eq]
      simp only [Rdr.two, htx, ea, ca, et, ct, eb, cb, eu]
    exact LeV.ro rfl rfl (by rw [eq2]; simp)
theorem rcp_leaf {b : Int} {tx : ByteArray} {ks : List Int} : (rcpR tx ks).isLeaf b = true ↔ b = 110 ∨ b = 64 := by
  simp [Rdr.isLeaf, rcpR, rmore, inS, bl]
  omega
theorem rcp_two {b : Int} : isTwoB b = true ↔ b = 40 ∨ b = 123 ∨ b = 91 := by
  simp [isTwoB, inS, bl]
  omega
theorem rcp_one {b : Int} {tx : ByteArray} {ks : List Int} : (rcpR tx ks).isOne b = true ↔ b = 35 ∨ b = 94 ∨ b = 60 ∨ b = 62 ∨ b = 33 := by
  simp [Rdr.isOne, rcpR, rmore, inS, bl]
  omega
theorem rcp_arg {b : Int} {tx : ByteArray} {ks : List Int} : (rcpR tx ks).isArg b = true ↔ b = 107 ∨ b = 42 ∨ b = 111 ∨ b = 120 := by
  simp [Rdr.isArg, rcpR, rmore, inS, bl]
  omega
theorem rcp_more {b : Int} : inS b rmore = true ↔ b = 64 ∨ b = 60 ∨ b = 62 ∨ b = 33 ∨ b = 111 ∨ b = 120 := by
  simp [inS, rmore, bl]
  omega
theorem opF_bo {s : List Nd} {b t u : Int} (h : b = 111 ∨ b = 120) : opF s b t u = boF s b t u := by
  rcases h with rfl | rfl <;> simp [opF, boF]
theorem opF_ap {s : List Nd} {b u : Int} {j : Nat} (hp : poolF s = true) (hj : j < s.length) (h : b = 60 ∨ b = 62 ∨ b = 33) : opF s b j u = if apF s b j < 0 then (s, -1, 7) else (s, apF s b j, 0) := by
  have hpt := nd_parts hp hj
  unfold opF apF
  rw [ndG_at hj]
  generalize s[j] = x at hpt ⊢
  rcases h with rfl | rfl | rfl
  · by_cases c : x.k = 2
    · have := hpt (by omega)
      have h0 : ¬ x.a < 0 := by omega
      simp only [c, h0, Int.reduceEq, Int.reduceLT, Int.reduceNeg, true_and, false_and, and_true, and_false, or_false, false_or, reduceIte, not_true_eq_false, not_false_eq_true]
    · simp only [c, Int.reduceEq, Int.reduceLT, Int.reduceNeg, true_and, false_and, and_true, and_false, or_false, false_or, reduceIte]
  · by_cases c : x.k = 2
    · have := hpt (by omega)
      have h0 : ¬ x.b < 0 := by omega
      simp only [c, h0, Int.reduceEq, Int.reduceLT, Int.reduceNeg, true_and, false_and, and_true, and_false, or_false, false_or, reduceIte, not_true_eq_false, not_false_eq_true]
    · simp only [c, Int.reduceEq, Int.reduceLT, Int.reduceNeg, true_and, false_and, and_true, and_false, or_false, false_or, reduceIte]
  · by_cases c : x.k = 4
    · have := hpt (by omega)
      have h0 : ¬ x.a < 0 := by omega
      simp only [c, h0, Int.reduceEq, Int.reduceLT, Int.reduceNeg, true_and, false_and, and_true, and_false, or_false, false_or, reduceIte, not_true_eq_false, not_false_eq_true]
    · simp only [c, Int.reduceEq, Int.reduceLT, Int.reduceNeg, true_and, false_and, and_true, and_false, or_false, false_or, reduceIte]
set_option maxHeartbeats 4000000 in
theorem rparse_t {tx : ByteArray} {ks : List Int} (hs : tx.size ≤ 1000000) (hk : ks.length ≤ 4294967296) : ∀ n, RParses tx ks n
  | 0 => fun s i hp hi hn => by omega
  | n + 1 => fun s i hW hi hn => by
    have ih := rparse_t hs hk n
    obtain ⟨q, eq⟩ : ∃ q, rdF (rcpR tx ks) (n + 1) s i 0 = q := ⟨_, rfl⟩
    rw [eq]
    simp only [rdF] at eq
    rw [if_neg (by simp)] at eq
    have htx : (rcpR tx ks).text = tx := rfl
    rw [htx] at eq
    refine semT' (S := S0) hm spec_l10Run_ok (Nat.le_of_ble_eq_true rfl) ?_
    unfold spec_l10Run; dsimp only
    by_cases h1 : tx.size ≤ i
    · rw [if_pos h1] at eq
      simp [h1]
      exact LeV.ro rfl rfl (by rw [← eq]; simp)
    rw [if_neg h1] at eq
    have hlt : i < tx.size := by omega
    obtain ⟨i1, hi1⟩ : ∃ i1, i + 1 = i1 := ⟨_, rfl⟩
    have w1 : IntKind.i64.wrap ((i : Int) + 1) = (i1 : Int) := by rw [wrap64 (by omega) (by omega)]; omega
    obtain ⟨b, hb⟩ : ∃ b, bt tx i = b := ⟨_, rfl⟩
    have hb' : ((byt tx i).toNat : Int) = b := hb
    rw [hb, hi1] at eq
    by_cases c64 : b = 64
    · subst c64
      rw [if_pos (rcp_leaf.2 (.inr rfl))] at eq
      rw [show (rcpR tx ks).leaf s 64 i = plF tx ks s i from rfl] at eq
      unfold plF at eq
      rw [hi1] at eq
      simp [h1, hlt, hb', w1]
      refine WCall_pure rfl (spec_l10Num_c tx i1 (by omega) (by omega)) (by simp) (by simp) (by simp) ?_; simp
      rcases Bool.eq_false_or_eq_true (n4Ok tx i1) with nm | nm
      · have nm2 := nm
        simp only [n4Ok, decide_eq_true_eq] at nm2
        obtain ⟨x, hx⟩ : ∃ x : Nat, figV 4 (dgRun tx i1) = x := ⟨_, (Int.toNat_of_nonneg nm2).symm⟩
        rw [hx] at eq ⊢
        by_cases c : x < ks.length
        · rw [if_pos ⟨by omega, by omega⟩] at eq
          have c0 : decide (ks.length ≤ x) = false := decide_eq_false (by omega)
          simp [nm, c0, c]
          repeat (refine ck_intro' (by first | omega | (simp; omega) | kernel_rfl) ?_; try simp)
          exact LeV.ro rfl rfl (by rw [← eq]; simp [c])
        · rw [if_neg (by omega)] at eq
          have c0 : decide (ks.length ≤ x) = true := decide_eq_true (by omega)
          simp [nm, c0]
          exact LeV.ro rfl rfl (by rw [← eq]; simp)
      · have nm2 := nm
        simp only [n4Ok, decide_eq_false_iff_not] at nm2
        rw [if_neg (by omega)] at eq
        simp [nm]
        exact LeV.ro rfl rfl (by rw [← eq]; simp)
    by_cases c110 : b = 110
    · subst c110
      rw [if_pos (rcp_leaf.2 (.inl rfl))] at eq
      rw [show (rcpR tx ks).leaf s 110 i = pbF tx s i from rfl] at eq
      unfold pbF at eq
      rw [hi1, numF_nm] at eq
      simp [h1, hlt, hb', w1]
      refine WCall_pure rfl (spec_l4Name_c tx i1 (by omega) (by omega)) (by simp) (by simp) (by simp) ?_; simp
      rcases Bool.eq_false_or_eq_true (nmOk tx i1) with nm | nm
      · have nm2 := nm
        simp only [nmOk, Bool.and_eq_true, decide_eq_true_eq] at nm2
        simp [nm] at eq ⊢
        refine spec_IsPublic_call (x := figV 3 (dgRun tx i1)) rfl ?_; simp
        by_cases c : figV 3 (dgRun tx i1) ≤ 49
        · have c0 : inF (figV 3 (dgRun tx i1)) 0 49 = true := inF_iff.2 ⟨nm2.1, c⟩
          simp [c0]
          rw [if_pos c] at eq
          refine WCall_pure rfl (spec_l2Name_c s (figV 3 (dgRun tx i1)) hW.1) (by simp) (by simp) (by simp) ?_; simp
          obtain ⟨z, ez⟩ : ∃ z, addF s ⟨1, figV 3 (dgRun tx i1), 0⟩ = z := ⟨_, rfl⟩
          rw [ez] at eq ⊢
          by_cases cz : z.2 < 0
          · simp [cz]
            exact LeV.ro rfl rfl (by rw [← eq]; simp [fullF, cz, addF_neg1 ez cz])
          · simp [cz]
            exact LeV.ro rfl rfl (by rw [← eq]; simp [fullF, cz])
        · have c0 : inF (figV 3 (dgRun tx i1)) 0 49 = false := by
            cases h : inF (figV 3 (dgRun tx i1)) 0 49 with
            | false => rfl
            | true => exact absurd (inF_iff.1 h).2 c
          simp [c0]
          rw [if_neg c] at eq
          exact LeV.ro rfl rfl (by rw [← eq]; simp)
      · simp [nm] at eq ⊢
        exact LeV.ro rfl rfl (by rw [← eq]; simp)
    rw [if_neg (fun h => by have := rcp_leaf.1 h; omega)] at eq
    by_cases cone : b = 60 ∨ b = 62 ∨ b = 33
    · rw [if_neg (fun h => by have := rcp_two.1 h; omega), if_pos (rcp_one.2 (by omega))] at eq
      have ha := ih s i1 hW (by omega) (by omega)
      have hga := (rcpK tx ks).rd_good n (s := s) (i := i1) (c := 0) hW (by rw [htx]; omega) (by rw [htx]; omega)
      obtain ⟨a, ea⟩ : ∃ a, rdF (rcpR tx ks) n s i1 0 = a := ⟨_, rfl⟩
      rw [ea] at ha hga
      have hsim : ∀ {p : Prop}, (b = 60 → p) → (b = 62 → p) → (b = 33 → p) → p := fun h1 h2 h3 => by rcases cone with h | h | h; exact h1 h; exact h2 h; exact h3 h
      by_cases ca : a.2.2.2 = 0
      case neg =>
        have eq2 : q = (a.1, -1, a.2.2.1, a.2.2.2) := by
          rw [← eq]
          simp only [Rdr.fin, oneF, ea, if_neg ca]
        refine hsim (fun e => ?_) (fun e => ?_) (fun e => ?_) <;> subst e <;> simp [h1, hlt, hb', w1]
        all_goals
          refine WCall_pure rfl ha (by simp) (by simp) (by simp) ?_; simp [ca]
          exact LeV.ro rfl rfl (by rw [eq2]; simp)
      obtain ⟨g1, g2, ⟨g3, g4, g5⟩, g6, g7⟩ := hga ca
      have hpa := g5 hW.1
      have hla := poolF_len hpa
      obtain ⟨t, ht⟩ : ∃ t : Nat, a.2.1 = t := ⟨a.2.1.toNat, by omega⟩
      rw [ht] at g7 ha
      have hap := opF_ap (u := 0) hpa (j := t) (by omega) cone
      have eq2 : q = ((opF a.1 b t 0).1, (opF a.1 b t 0).2.1, a.2.2.1, (opF a.1 b t 0).2.2) := by
        rw [← eq]
        simp only [Rdr.fin, oneF, ea, if_pos ca]
        show ((rcJ a.1 b [a.2.1]).1, (rcJ a.1 b [a.2.1]).2.1, a.2.2.1, (rcJ a.1 b [a.2.1]).2.2) = _
        rw [show rcJ a.1 b [a.2.1] = opF a.1 b a.2.1 0 from if_pos (rcp_more.2 (by omega)), ht]
      rw [hap] at eq2
      have hA := spec_l10Apply_c a.1 b t (by omega) (by omega)
      obtain ⟨w, ew⟩ : ∃ w, apF a.1 b t = w := ⟨_, rfl⟩
      rw [ew] at eq2 hA
      refine hsim (fun e => ?_) (fun e => ?_) (fun e => ?_) <;> subst e <;> simp [h1, hlt, hb', w1]
      all_goals
        refine WCall_pure rfl ha (by simp) (by simp) (by simp) ?_; simp [ca]
        refine WCall_pure rfl hA (by simp) (by simp) (by simp) ?_; simp
        by_cases cx : w < 0
        · simp [cx]
          rw [if_pos cx] at eq2
          exact LeV.ro rfl rfl (by rw [eq2]; simp)
        · simp [cx]
          rw [if_neg cx] at eq2
          exact LeV.ro rfl rfl (by rw [eq2]; simp)
    by_cases cox : b = 111 ∨ b = 120
    · rw [if_neg (fun h => by have := rcp_two.1 h; omega), if_neg (fun h => by have := rcp_one.1 h; omega), if_pos (rcp_arg.2 (by omega))] at eq
      have hT := rtwo_t hs ih s i1 true 41 hW (by omega) (by omega)
      obtain ⟨z, ez⟩ : ∃ z, rtF tx ks n s i1 true 41 = z := ⟨_, rfl⟩
      rw [ez] at hT
      have hgood := (rcpK tx ks).arg_good n (s := s) (i := i) hW hlt (by rw [htx]; omega)
      have hlz : z.2.1.length = 2 := by rw [← ez]; rfl
      rw [htx, hi1] at hgood
      rw [show (rcpR tx ks).two (rdF (rcpR tx ks) n) 41 s (takeF tx i1 0 40).1 (takeF tx i1 0 40).2 = z from ez] at hgood eq
      have hsim : ∀ {p : Prop}, (b = 111 → p) → (b = 120 → p) → p := fun h1 h2 => by rcases cox with h | h; exact h1 h; exact h2 h
      by_cases cz : z.2.2.2 = 0
      case neg =>
        have eq2 : q = (z.1, -1, z.2.2.1, z.2.2.2) := by
          rw [← eq]
          unfold Rdr.fin
          rw [if_neg cz]
        refine hsim (fun e => ?_) (fun e => ?_) <;> subst e <;> simp [h1, hlt, hb', w1]
        all_goals
          refine WCall_pure rfl hT (by simp) (by simp) (by simp) ?_; simp [cz]
          exact LeV.ro rfl rfl (by rw [eq2]; simp)
      obtain ⟨g1, g2, ⟨g3, g4, g5⟩, g6⟩ := hgood cz
      have hpz := g5 hW.1
      have hm0 : p0 z.2.1 ∈ z.2.1 := by
        obtain ⟨x, y, e⟩ : ∃ x y, z.2.1 = [x, y] := by
          match z.2.1, hlz with
          | [x, y], _ => exact ⟨x, y, rfl⟩
        rw [e]; simp
      have hm1 : p1 z.2.1 ∈ z.2.1 := by
        obtain ⟨x, y, e⟩ : ∃ x y, z.2.1 = [x, y] := by
          match z.2.1, hlz with
          | [x, y], _ => exact ⟨x, y, rfl⟩
        rw [e]; simp
      obtain ⟨x0, x1⟩ := g6 _ hm0
      obtain ⟨y0, y1⟩ := g6 _ hm1
      obtain ⟨x, hx⟩ : ∃ x : Nat, p0 z.2.1 = x := ⟨(p0 z.2.1).toNat, by omega⟩
      obtain ⟨y, hy⟩ : ∃ y : Nat, p1 z.2.1 = y := ⟨(p1 z.2.1).toNat, by omega⟩
      have eq2 : q = ((boF z.1 b x y).1, (boF z.1 b x y).2.1, z.2.2.1, (boF z.1 b x y).2.2) := by
        rw [← eq]
        unfold Rdr.fin
        rw [if_pos cz]
        show ((rcJ z.1 b z.2.1).1, (rcJ z.1 b z.2.1).2.1, z.2.2.1, (rcJ z.1 b z.2.1).2.2) = _
        rw [show rcJ z.1 b z.2.1 = opF z.1 b (p0 z.2.1) (p1 z.2.1) from if_pos (rcp_more.2 (by omega)), hx, hy, opF_bo cox]
      rw [hx] at x1 hT
      rw [hy] at y1 hT
      have hB := spec_l10Both_c z.1 b x y hpz (by omega) (by omega)
      refine hsim (fun e => ?_) (fun e => ?_) <;> subst e <;> simp [h1, hlt, hb', w1]
      all_goals
        refine WCall_pure rfl hT (by simp) (by simp) (by simp) ?_; simp [cz]
        refine WCall_pure rfl hB (by simp) (by simp) (by simp) ?_; simp
        exact LeV.ro rfl rfl (by rw [eq2]; simp)
    have hK := spec_l4Kind_c tx i hlt
    rw [hb] at hK
    have nn : b ≠ 60 ∧ b ≠ 62 ∧ b ≠ 33 ∧ b ≠ 111 ∧ b ≠ 120 := by omega
    obtain ⟨n1, n2, n3, n4, n5⟩ := nn
    have hjn : ∀ (z : List Nd) (ts : List Int), rcJ z b ts = fullF (addF z ⟨kindF b, p0 ts, p1 ts⟩) := fun z ts => if_neg (fun h => by have := rcp_more.1 h; omega)
    simp [h1, hlt, hb', w1, c64, c110, n1, n2, n3, n4, n5]
    refine WCall_pure rfl hK (by simp) (by simp) (by simp) ?_
    by_cases c40 : b = 40
    · subst c40
      rw [if_pos (rcp_two.2 (by omega)), show closeF 40 = 41 from rfl] at eq
      simp [kd3, w1]
      have hT := rtwo_t hs ih s i1 false 41 hW (by omega) (by omega)
      obtain ⟨z, ez⟩ : ∃ z, rtF tx ks n s i1 false 41 = z := ⟨_, rfl⟩
      rw [ez] at hT
      have hgood := ((rcpK tx ks).two_good' n (s := s) (i := i) (e := 41) hW hlt (by rw [htx]; omega))
      rw [htx, hi1] at hgood
      rw [show (rcpR tx ks).two (rdF (rcpR tx ks) n) 41 s i1 0 = z from ez] at hgood eq
      refine WCall_pure rfl hT (by simp) (by simp) (by simp) ?_; simp
      by_cases cz : z.2.2.2 = 0
      case neg =>
        simp [cz]
        have eq2 : q = (z.1, -1, z.2.2.1, z.2.2.2) := by
          rw [← eq]
          unfold Rdr.fin
          rw [if_neg cz]
        exact LeV.ro rfl rfl (by rw [eq2]; simp)
      obtain ⟨g1, g2, ⟨g3, g4, g5⟩, g6⟩ := hgood cz
      have hpz := g5 hW.1
      simp [cz]
      refine WCall_pure rfl (spec_l1Add_c z.1 ⟨2, p0 z.2.1, p1 z.2.1⟩ hpz) (by simp) (by simp) (by simp) ?_; simp
      have eq3 : q = ((fullF (addF z.1 ⟨2, p0 z.2.1, p1 z.2.1⟩)).1, (fullF (addF z.1 ⟨2, p0 z.2.1, p1 z.2.1⟩)).2.1, z.2.2.1, (fullF (addF z.1 ⟨2, p0 z.2.1, p1 z.2.1⟩)).2.2) := by
        rw [← eq]
        unfold Rdr.fin
        rw [if_pos cz]
        (show ((rcJ z.1 40 z.2.1).1, (rcJ z.1 40 z.2.1).2.1, z.2.2.1, (rcJ z.1 40 z.2.1).2.2) = _; rw [hjn]; rfl)
      obtain ⟨y, ey⟩ : ∃ y, addF z.1 ⟨2, p0 z.2.1, p1 z.2.1⟩ = y := ⟨_, rfl⟩
      rw [ey] at eq3 ⊢
      by_cases cy : y.2 < 0
      · simp [cy]
        exact LeV.ro rfl rfl (by rw [eq3]; simp [fullF, cy, addF_neg1 ey cy])
      · simp [cy]
        exact LeV.ro rfl rfl (by rw [eq3]; simp [fullF, cy])
    by_cases c123 : b = 123
    · subst c123
      rw [if_pos (rcp_two.2 (by omega)), show closeF 123 = 125 from rfl] at eq
      simp [kd3, w1]
      have hT := rtwo_t hs ih s i1 false 125 hW (by omega) (by omega)
      obtain ⟨z, ez⟩ : ∃ z, rtF tx ks n s i1 false 125 = z := ⟨_, rfl⟩
      rw [ez] at hT
      have hgood := ((rcpK tx ks).two_good' n (s := s) (i := i) (e := 125) hW hlt (by rw [htx]; omega))
      rw [htx, hi1] at hgood
      rw [show (rcpR tx ks).two (rdF (rcpR tx ks) n) 125 s i1 0 = z from ez] at hgood eq
      refine WCall_pure rfl hT (by simp) (by simp) (by simp) ?_; simp
      by_cases cz : z.2.2.2 = 0
      case neg =>
        simp [cz]
        have eq2 : q = (z.1, -1, z.2.2.1, z.2.2.2) := by
          rw [← eq]
          unfold Rdr.fin
          rw [if_neg cz]
        exact LeV.ro rfl rfl (by rw [eq2]; simp)
      obtain ⟨g1, g2, ⟨g3, g4, g5⟩, g6⟩ := hgood cz
      have hpz := g5 hW.1
      simp [cz]
      refine WCall_pure rfl (spec_l1Add_c z.1 ⟨3, p0 z.2.1, p1 z.2.1⟩ hpz) (by simp) (by simp) (by simp) ?_; simp
      have eq3 : q = ((fullF (addF z.1 ⟨3, p0 z.2.1, p1 z.2.1⟩)).1, (fullF (addF z.1 ⟨3, p0 z.2.1, p1 z.2.1⟩)).2.1, z.2.2.1, (fullF (addF z.1 ⟨3, p0 z.2.1, p1 z.2.1⟩)).2.2) := by
        rw [← eq]
        unfold Rdr.fin
        rw [if_pos cz]
        (show ((rcJ z.1 123 z.2.1).1, (rcJ z.1 123 z.2.1).2.1, z.2.2.1, (rcJ z.1 123 z.2.1).2.2) = _; rw [hjn]; rfl)
      obtain ⟨y, ey⟩ : ∃ y, addF z.1 ⟨3, p0 z.2.1, p1 z.2.1⟩ = y := ⟨_, rfl⟩
      rw [ey] at eq3 ⊢
      by_cases cy : y.2 < 0
      · simp [cy]
        exact LeV.ro rfl rfl (by rw [eq3]; simp [fullF, cy, addF_neg1 ey cy])
      · simp [cy]
        exact LeV.ro rfl rfl (by rw [eq3]; simp [fullF, cy])
    by_cases c91 : b = 91
    · subst c91
      rw [if_pos (rcp_two.2 (by omega)), show closeF 91 = 93 from rfl] at eq
      simp [kd3, w1]
      have hT := rtwo_t hs ih s i1 false 93 hW (by omega) (by omega)
      obtain ⟨z, ez⟩ : ∃ z, rtF tx ks n s i1 false 93 = z := ⟨_, rfl⟩
      rw [ez] at hT
      have hgood := ((rcpK tx ks).two_good' n (s := s) (i := i) (e := 93) hW hlt (by rw [htx]; omega))
      rw [htx, hi1] at hgood
      rw [show (rcpR tx ks).two (rdF (rcpR tx ks) n) 93 s i1 0 = z from ez] at hgood eq
      refine WCall_pure rfl hT (by simp) (by simp) (by simp) ?_; simp
      by_cases cz : z.2.2.2 = 0
      case neg =>
        simp [cz]
        have eq2 : q = (z.1, -1, z.2.2.1, z.2.2.2) := by
          rw [← eq]
          unfold Rdr.fin
          rw [if_neg cz]
        exact LeV.ro rfl rfl (by rw [eq2]; simp)
      obtain ⟨g1, g2, ⟨g3, g4, g5⟩, g6⟩ := hgood cz
      have hpz := g5 hW.1
      simp [cz]
      refine WCall_pure rfl (spec_l1Add_c z.1 ⟨4, p0 z.2.1, p1 z.2.1⟩ hpz) (by simp) (by simp) (by simp) ?_; simp
      have eq3 : q = ((fullF (addF z.1 ⟨4, p0 z.2.1, p1 z.2.1⟩)).1, (fullF (addF z.1 ⟨4, p0 z.2.1, p1 z.2.1⟩)).2.1, z.2.2.1, (fullF (addF z.1 ⟨4, p0 z.2.1, p1 z.2.1⟩)).2.2) := by
        rw [← eq]
        unfold Rdr.fin
        rw [if_pos cz]
        (show ((rcJ z.1 91 z.2.1).1, (rcJ z.1 91 z.2.1).2.1, z.2.2.1, (rcJ z.1 91 z.2.1).2.2) = _; rw [hjn]; rfl)
      obtain ⟨y, ey⟩ : ∃ y, addF z.1 ⟨4, p0 z.2.1, p1 z.2.1⟩ = y := ⟨_, rfl⟩
      rw [ey] at eq3 ⊢
      by_cases cy : y.2 < 0
      · simp [cy]
        exact LeV.ro rfl rfl (by rw [eq3]; simp [fullF, cy, addF_neg1 ey cy])
      · simp [cy]
        exact LeV.ro rfl rfl (by rw [eq3]; simp [fullF, cy])
    rw [if_neg (fun h => by have := rcp_two.1 h; omega)] at eq
    by_cases c35 : b = 35
    · subst c35
      rw [if_pos (rcp_one.2 (by omega))] at eq
      simp [kd3, w1]
      have ha := ih s i1 hW (by omega) (by omega)
      have hga := (rcpK tx ks).rd_good n (s := s) (i := i1) (c := 0) hW (by rw [htx]; omega) (by rw [htx]; omega)
      obtain ⟨z, ez⟩ : ∃ z, oneF (rdF (rcpR tx ks) n) s i1 = z := ⟨_, rfl⟩
      have z1 : (rdF (rcpR tx ks) n s i1 0).1 = z.1 := by rw [← ez]; rfl
      have z2 : (rdF (rcpR tx ks) n s i1 0).2.1 = p0 z.2.1 := by rw [← ez]; rfl
      have z3 : (rdF (rcpR tx ks) n s i1 0).2.2.1 = z.2.2.1 := by rw [← ez]; rfl
      have z4 : (rdF (rcpR tx ks) n s i1 0).2.2.2 = z.2.2.2 := by rw [← ez]; rfl
      have hz1 : p1 z.2.1 = 0 := by rw [← ez]; rfl
      simp only [RdrOk.good, z1, z2, z3, z4] at ha hga
      rw [ez] at eq
      refine WCall_pure rfl ha (by simp) (by simp) (by simp) ?_; simp
      by_cases cz : z.2.2.2 = 0
      case neg =>
        simp [cz]
        have eq2 : q = (z.1, -1, z.2.2.1, z.2.2.2) := by
          rw [← eq]
          unfold Rdr.fin
          rw [if_neg cz]
        exact LeV.ro rfl rfl (by rw [eq2]; simp)
      obtain ⟨g1, g2, ⟨g3, g4, g5⟩, g6⟩ := hga cz
      have hpz := g5 hW.1
      simp [cz]
      refine WCall_pure rfl (spec_l1Add_c z.1 ⟨5, p0 z.2.1, 0⟩ hpz) (by simp) (by simp) (by simp) ?_; simp
      have eq3 : q = ((fullF (addF z.1 ⟨5, p0 z.2.1, 0⟩)).1, (fullF (addF z.1 ⟨5, p0 z.2.1, 0⟩)).2.1, z.2.2.1, (fullF (addF z.1 ⟨5, p0 z.2.1, 0⟩)).2.2) := by
        rw [← eq]
        unfold Rdr.fin
        rw [if_pos cz]
        (show ((rcJ z.1 35 z.2.1).1, (rcJ z.1 35 z.2.1).2.1, z.2.2.1, (rcJ z.1 35 z.2.1).2.2) = _; rw [hjn, hz1]; rfl)
      obtain ⟨y, ey⟩ : ∃ y, addF z.1 ⟨5, p0 z.2.1, 0⟩ = y := ⟨_, rfl⟩
      rw [ey] at eq3 ⊢
      by_cases cy : y.2 < 0
      · simp [cy]
        exact LeV.ro rfl rfl (by rw [eq3]; simp [fullF, cy, addF_neg1 ey cy])
      · simp [cy]
        exact LeV.ro rfl rfl (by rw [eq3]; simp [fullF, cy])
    by_cases c94 : b = 94
    · subst c94
      rw [if_pos (rcp_one.2 (by omega))] at eq
      simp [kd3, w1]
      have ha := ih s i1 hW (by omega) (by omega)
      have hga := (rcpK tx ks).rd_good n (s := s) (i := i1) (c := 0) hW (by rw [htx]; omega) (by rw [htx]; omega)
      obtain ⟨z, ez⟩ : ∃ z, oneF (rdF (rcpR tx ks) n) s i1 = z := ⟨_, rfl⟩
      have z1 : (rdF (rcpR tx ks) n s i1 0).1 = z.1 := by rw [← ez]; rfl
      have z2 : (rdF (rcpR tx ks) n s i1 0).2.1 = p0 z.2.1 := by rw [← ez]; rfl
      have z3 : (rdF (rcpR tx ks) n s i1 0).2.2.1 = z.2.2.1 := by rw [← ez]; rfl
      have z4 : (rdF (rcpR tx ks) n s i1 0).2.2.2 = z.2.2.2 := by rw [← ez]; rfl
      have hz1 : p1 z.2.1 = 0 := by rw [← ez]; rfl
      simp only [RdrOk.good, z1, z2, z3, z4] at ha hga
      rw [ez] at eq
      refine WCall_pure rfl ha (by simp) (by simp) (by simp) ?_; simp
      by_cases cz : z.2.2.2 = 0
      case neg =>
        simp [cz]
        have eq2 : q = (z.1, -1, z.2.2.1, z.2.2.2) := by
          rw [← eq]
          unfold Rdr.fin
          rw [if_neg cz]
        exact LeV.ro rfl rfl (by rw [eq2]; simp)
      obtain ⟨g1, g2, ⟨g3, g4, g5⟩, g6⟩ := hga cz
      have hpz := g5 hW.1
      simp [cz]
      refine WCall_pure rfl (spec_l1Add_c z.1 ⟨7, p0 z.2.1, 0⟩ hpz) (by simp) (by simp) (by simp) ?_; simp
      have eq3 : q = ((fullF (addF z.1 ⟨7, p0 z.2.1, 0⟩)).1, (fullF (addF z.1 ⟨7, p0 z.2.1, 0⟩)).2.1, z.2.2.1, (fullF (addF z.1 ⟨7, p0 z.2.1, 0⟩)).2.2) := by
        rw [← eq]
        unfold Rdr.fin
        rw [if_pos cz]
        (show ((rcJ z.1 94 z.2.1).1, (rcJ z.1 94 z.2.1).2.1, z.2.2.1, (rcJ z.1 94 z.2.1).2.2) = _; rw [hjn, hz1]; rfl)
      obtain ⟨y, ey⟩ : ∃ y, addF z.1 ⟨7, p0 z.2.1, 0⟩ = y := ⟨_, rfl⟩
      rw [ey] at eq3 ⊢
      by_cases cy : y.2 < 0
      · simp [cy]
        exact LeV.ro rfl rfl (by rw [eq3]; simp [fullF, cy, addF_neg1 ey cy])
      · simp [cy]
        exact LeV.ro rfl rfl (by rw [eq3]; simp [fullF, cy])
    rw [if_neg (fun h => by have := rcp_one.1 h; omega)] at eq
    by_cases c107 : b = 107
    · subst c107
      rw [if_pos (rcp_arg.2 (by omega))] at eq
      simp [kd3, w1]
      have hT := rtwo_t hs ih s i1 true 41 hW (by omega) (by omega)
      obtain ⟨z, ez⟩ : ∃ z, rtF tx ks n s i1 true 41 = z := ⟨_, rfl⟩
      rw [ez] at hT
      have hgood := ((rcpK tx ks).arg_good n (s := s) (i := i) hW hlt (by rw [htx]; omega))
      rw [htx, hi1] at hgood
      rw [show (rcpR tx ks).two (rdF (rcpR tx ks) n) 41 s (takeF tx i1 0 40).1 (takeF tx i1 0 40).2 = z from ez] at hgood eq
      refine WCall_pure rfl hT (by simp) (by simp) (by simp) ?_; simp
      by_cases cz : z.2.2.2 = 0
      case neg =>
        simp [cz]
        have eq2 : q = (z.1, -1, z.2.2.1, z.2.2.2) := by
          rw [← eq]
          unfold Rdr.fin
          rw [if_neg cz]
        exact LeV.ro rfl rfl (by rw [eq2]; simp)
      obtain ⟨g1, g2, ⟨g3, g4, g5⟩, g6⟩ := hgood cz
      have hpz := g5 hW.1
      simp [cz]
      refine WCall_pure rfl (spec_l1Add_c z.1 ⟨6, p0 z.2.1, p1 z.2.1⟩ hpz) (by simp) (by simp) (by simp) ?_; simp
      have eq3 : q = ((fullF (addF z.1 ⟨6, p0 z.2.1, p1 z.2.1⟩)).1, (fullF (addF z.1 ⟨6, p0 z.2.1, p1 z.2.1⟩)).2.1, z.2.2.1, (fullF (addF z.1 ⟨6, p0 z.2.1, p1 z.2.1⟩)).2.2) := by
        rw [← eq]
        unfold Rdr.fin
        rw [if_pos cz]
        (show ((rcJ z.1 107 z.2.1).1, (rcJ z.1 107 z.2.1).2.1, z.2.2.1, (rcJ z.1 107 z.2.1).2.2) = _; rw [hjn]; rfl)
      obtain ⟨y, ey⟩ : ∃ y, addF z.1 ⟨6, p0 z.2.1, p1 z.2.1⟩ = y := ⟨_, rfl⟩
      rw [ey] at eq3 ⊢
      by_cases cy : y.2 < 0
      · simp [cy]
        exact LeV.ro rfl rfl (by rw [eq3]; simp [fullF, cy, addF_neg1 ey cy])
      · simp [cy]
        exact LeV.ro rfl rfl (by rw [eq3]; simp [fullF, cy])
    by_cases c42 : b = 42
    · subst c42
      rw [if_pos (rcp_arg.2 (by omega))] at eq
      simp [kd3, w1]
      have hT := rtwo_t hs ih s i1 true 41 hW (by omega) (by omega)
      obtain ⟨z, ez⟩ : ∃ z, rtF tx ks n s i1 true 41 = z := ⟨_, rfl⟩
      rw [ez] at hT
      have hgood := ((rcpK tx ks).arg_good n (s := s) (i := i) hW hlt (by rw [htx]; omega))
      rw [htx, hi1] at hgood
      rw [show (rcpR tx ks).two (rdF (rcpR tx ks) n) 41 s (takeF tx i1 0 40).1 (takeF tx i1 0 40).2 = z from ez] at hgood eq
      refine WCall_pure rfl hT (by simp) (by simp) (by simp) ?_; simp
      by_cases cz : z.2.2.2 = 0
      case neg =>
        simp [cz]
        have eq2 : q = (z.1, -1, z.2.2.1, z.2.2.2) := by
          rw [← eq]
          unfold Rdr.fin
          rw [if_neg cz]
        exact LeV.ro rfl rfl (by rw [eq2]; simp)
      obtain ⟨g1, g2, ⟨g3, g4, g5⟩, g6⟩ := hgood cz
      have hpz := g5 hW.1
      simp [cz]
      refine WCall_pure rfl (spec_l1Add_c z.1 ⟨8, p0 z.2.1, p1 z.2.1⟩ hpz) (by simp) (by simp) (by simp) ?_; simp
      have eq3 : q = ((fullF (addF z.1 ⟨8, p0 z.2.1, p1 z.2.1⟩)).1, (fullF (addF z.1 ⟨8, p0 z.2.1, p1 z.2.1⟩)).2.1, z.2.2.1, (fullF (addF z.1 ⟨8, p0 z.2.1, p1 z.2.1⟩)).2.2) := by
        rw [← eq]
        unfold Rdr.fin
        rw [if_pos cz]
        (show ((rcJ z.1 42 z.2.1).1, (rcJ z.1 42 z.2.1).2.1, z.2.2.1, (rcJ z.1 42 z.2.1).2.2) = _; rw [hjn]; rfl)
      obtain ⟨y, ey⟩ : ∃ y, addF z.1 ⟨8, p0 z.2.1, p1 z.2.1⟩ = y := ⟨_, rfl⟩
      rw [ey] at eq3 ⊢
      by_cases cy : y.2 < 0
      · simp [cy]
        exact LeV.ro rfl rfl (by rw [eq3]; simp [fullF, cy, addF_neg1 ey cy])
      · simp [cy]
        exact LeV.ro rfl rfl (by rw [eq3]; simp [fullF, cy])
    rw [if_neg (fun h => by have := rcp_arg.1 h; omega)] at eq
    have hk0 : kd3 b = (0, 0, 0) := by simp [kd3, c40, c123, c91, c35, c94, c107, c42]
    rw [hk0]
    simp
    exact LeV.ro rfl rfl (by rw [← eq]; simp)
end Go.Proofs.YtealijdcolmchaaGreatDoor.C

set_option linter.unusedVariables false
set_option linter.unusedSimpArgs false
set_option maxRecDepth 4000
namespace Go.Proofs.YtealijdcolmchaaGreatDoor.C
open Go.Sym Go.Proofs.YtealijdcolmchaaGreatDoor.I
/-- Where a reader stands behind a term that may not be: place, what is wrong. -/
def fullR (t i c : Int) : Int × Int := if t < 0 then failF i c 5 i else (i, c)
theorem impl_reader_orFull_m (H : List Blk) (b : Nat) (tx mo : ByteArray) (lf jn : A) (i c t : Int) (hk : H[b]? = some (rrow tx mo lf jn i c)) : T 55 [rptr b, i6 t] (H) (i6 (if t < 0 then -1 else t)) (H.set b (rrow tx mo lf jn (fullR t i c).1 (fullR t i c).2)) := by
  refine semT' (S := (fun f => [52].contains f)) hm impl_reader_orFull_ok (Nat.le_of_ble_eq_true rfl) ?_
  unfold impl_reader_orFull; dsimp only
  simp [hk]
  refine br_intro' (fun u => ?_) (fun u => ?_) <;> (have u0 := u) <;> simp only [decide_eq_true_eq, decide_eq_false_iff_not] at u <;> simp [u0, hk]
  · refine row_call (b := b) rfl (impl_reader_fail_m H b tx mo lf jn i c 5 i hk) ?_; simp
    rw [if_pos u, show fullR t i c = failF i c 5 i from if_pos u]
    exact LeV.refl _ _ _
  · rw [if_neg u, show fullR t i c = (i, c) from if_neg u, rset_same hk]
    exact LeV.refl _ _ _
theorem fullF_eq {s : List Nd} {n : Nd} (i : Int) : (fullF (addF s n)).1 = (addF s n).1 ∧ (fullF (addF s n)).2.1 = (if (addF s n).2 < 0 then -1 else (addF s n).2) ∧ fullR (addF s n).2 i 0 = (i, (fullF (addF s n)).2.2) := by
  unfold fullF fullR failF
  split <;> simp
theorem impl_reader_added_m (H : List Blk) (b off nb vb eb : Nat) (cb : List A) (ns : List Nd) (rb lb : Nat) (tx mo : ByteArray) (lf jn : A) (i : Int) (sg : Int) (ts : List Int) (h : PIn H b off nb cb) (hl : ns.length ≤ 500) (hr : H[rb]? = some (rrow tx mo lf jn i 0)) (h1 : rb ≠ b) (h2 : rb ≠ nb) (hL : H[lb]? = some ⟨0, false, 1, ints ts, none⟩) (h3 : lb ≠ b) (h4 : lb ≠ nb) (h5 : lb ≠ rb) (hts : ts.length = 1 ∨ ts.length = 2) : T 29 [rptr rb, .ptr b vb off, .int .u8 sg, .ref lb 0 0 ts.length] (pset H b off nb vb eb cb ns) (i6 (jnF ns sg ts).2.1) ((pset H b off nb vb eb cb (jnF ns sg ts).1).set rb (rrow tx mo lf jn i (jnF ns sg ts).2.2)) := by
  refine semT' (S := (fun f => [58, 55].contains f)) hm impl_reader_added_ok (Nat.le_of_ble_eq_true rfl) ?_
  unfold impl_reader_added; dsimp only
  have gL : ∀ ns, (pset H b off nb vb eb cb ns)[lb]? = _ := fun ns => (pset_other vb eb ns h3 h4).trans hL
  have gR : ∀ ns, (pset H b off nb vb eb cb ns)[rb]? = _ := fun ns => (pset_other vb eb ns h1 h2).trans hr
  have fin : ∀ y : Int, y = ts.getD 1 0 → ∀ x : Int, x = ts.getD 0 0 → T 58 [.ptr b vb off, i6 (kindF sg), i6 x, i6 y] (pset H b off nb vb eb cb ns) (i6 (addF ns ⟨kindF sg, ts.getD 0 0, ts.getD 1 0⟩).2) (pset H b off nb vb eb cb (addF ns ⟨kindF sg, ts.getD 0 0, ts.getD 1 0⟩).1) := by
    rintro _ rfl _ rfl
    exact impl_Pool_add_m H b off nb vb eb cb ns (kindF sg) _ _ h hl
  obtain ⟨e1, e2, e3⟩ := fullF_eq (s := ns) (n := ⟨kindF sg, ts.getD 0 0, ts.getD 1 0⟩) i
  unfold jnF
  rw [e1, e2]
  rcases hts with hts | hts
  · obtain ⟨x, rfl⟩ : ∃ x, ts = [x] := by
      match ts, hts with
      | [x], _ => exact ⟨x, rfl⟩
    simp [gL, ints]
    refine impl_kindOf_call (x := sg) rfl ?_; simp [gL, ints]
    refine pool_call rfl b off nb vb eb cb ns (addF ns ⟨kindF sg, x, 0⟩).1 (h.pset vb eb ns) (pset_pset h vb eb ns ns) (by rw [pset_pset h, pset_pset h]; exact fin 0 rfl x rfl) ?_
    simp [pset_pset h, gR]
    refine row_call (b := rb) rfl (impl_reader_orFull_m _ rb tx mo lf jn i 0 (addF ns ⟨kindF sg, x, 0⟩).2 (gR _)) ?_; simp
    refine ck_intro' (regOk_ren (fun n => if n = lb then 0 else 1) (by simp [h3.symm, h4.symm, h5.symm]; kernel_rfl)) ?_; simp
    simp only [List.getD_cons_zero, List.getD_cons_succ, List.getD_nil] at e3 ⊢
    rw [e3]
    exact LeV.refl _ _ _
  · obtain ⟨x, y, rfl⟩ : ∃ x y, ts = [x, y] := by
      match ts, hts with
      | [x, y], _ => exact ⟨x, y, rfl⟩
    simp [gL, ints]
    refine impl_kindOf_call (x := sg) rfl ?_; simp [gL, ints]
    refine pool_call rfl b off nb vb eb cb ns (addF ns ⟨kindF sg, x, y⟩).1 (h.pset vb eb ns) (pset_pset h vb eb ns ns) (by rw [pset_pset h, pset_pset h]; exact fin y rfl x rfl) ?_
    simp [pset_pset h, gR]
    refine row_call (b := rb) rfl (impl_reader_orFull_m _ rb tx mo lf jn i 0 (addF ns ⟨kindF sg, x, y⟩).2 (gR _)) ?_; simp
    refine ck_intro' (regOk_ren (fun n => if n = lb then 0 else 1) (by simp [h3.symm, h4.symm, h5.symm]; kernel_rfl)) ?_; simp
    simp only [List.getD_cons_zero, List.getD_cons_succ, List.getD_nil] at e3 ⊢
    rw [e3]
    exact LeV.refl _ _ _
end Go.Proofs.YtealijdcolmchaaGreatDoor.C

set_option linter.unusedVariables false
set_option linter.unusedSimpArgs false
set_option maxRecDepth 4000
set_option linter.unusedSectionVars false
namespace Go.Proofs.YtealijdcolmchaaGreatDoor.C
open Go.Sym Go.Proofs.YtealijdcolmchaaGreatDoor.I
theorem impl_IsPublic_c (x : Int)  : T 54 [i6 x] [] (.bool (inF x 0 49)) ([]) := by
  refine semT' (S := S0) hm impl_IsPublic_ok (Nat.le_of_ble_eq_true rfl) ?_
  unfold impl_IsPublic; dsimp only
  simp
  refine impl_inRange_call rfl ?_; simp
  exact LeV.ro rfl rfl (by simp)
theorem impl_IsPublic_call {x : Int}  {S : FuncId → Bool} {H : List Blk} {K : A → Dl → Prop} (hS : S 54 = false) (hK : K (.bool (inF x 0 49)) (.news [])) : @WCall' Go.Proofs.Tryz.prog S 54 [i6 x] H ⟨K⟩ :=
  WCall_pure hS (impl_IsPublic_c x) (by simp) (by simp) (by simp) hK
theorem impl_IsPublic_k {x : Int}  {S : FuncId → Bool} {H : List Blk} {K : A → Dl → Prop} {zs : List A} (hS : S 54 = false) (hv : viewL (viewA 8 H) zs = some [i6 x]) (ho : noOwns zs = true ∨ nosl (.bool (inF x 0 49)) = true) (hK : K (.bool (inF x 0 49)) (.news [])) : @WCall' Go.Proofs.Tryz.prog S 54 zs H ⟨K⟩ :=
  WCall_pure hS (impl_IsPublic_c x) hv ho (by simp) hK
abbrev rHs (ns : List Nd) (ks : List Int) (tx : ByteArray) (s : List Nd) (i c : Int) : List Blk :=
  [⟨0, false, 1, [.sl ns.length (enc ns)], none⟩, ⟨0, false, 1, [.sl ks.length (ints ks)], none⟩, ⟨0, false, 1, [.nil], none⟩, pblk s, ⟨0, false, 1, [pref 3 s], none⟩, rrow tx rmore (.fn 23 [.ptr 1 0 0, .ptr 4 0 0]) (.fn 26 [.ptr 4 0 0]) i c]
theorem rHs_cl (ns : List Nd) (ks : List Int) (tx : ByteArray) (s : List Nd) (i c : Int) : Closed1 6 (rHs ns ks tx s i c) = true := by simp [inAs_scals _ (ints_scals ks)]
theorem fullF_eqG (p : List Nd × Int) (i : Int) : (fullF p).1 = p.1 ∧ (fullF p).2.1 = (if p.2 < 0 then -1 else p.2) ∧ fullR p.2 i 0 = (i, (fullF p).2.2) := by
  unfold fullF fullR failF
  split <;> simp
section
variable (ns : List Nd) (ks : List Int) (tx : ByteArray) (hs : tx.size ≤ 1000000) (hk : ks.length ≤ 4294967296)
include hs hk
theorem rFail_t (T : List Blk) (s : List Nd) (i c code at_ : Int) : C.T 52 [rptr 5, i6 code, i6 at_] (rHs ns ks tx s i c ++ T) (i6 (-1)) (rHs ns ks tx s (failF i c code at_).1 (failF i c code at_).2 ++ T) :=
  impl_reader_fail_m (rHs ns ks tx s i c ++ T) 5 tx _ _ _ i c code at_ rfl
theorem rFull_t (T : List Blk) (s : List Nd) (t i : Int) : C.T 55 [rptr 5, i6 t] (rHs ns ks tx s i 0 ++ T) (i6 (if t < 0 then -1 else t)) (rHs ns ks tx s (fullR t i 0).1 (fullR t i 0).2 ++ T) :=
  impl_reader_orFull_m (rHs ns ks tx s i 0 ++ T) 5 tx _ _ _ i 0 t rfl
theorem rPlace_t (s : List Nd) (i : Nat) (hi : i < tx.size) : T 24 [rptr 5, aI ks] (rHs ns ks tx s i 0) (i6 (plF tx ks s i).2.1) (rHs ns ks tx s (plF tx ks s i).2.2.1 (plF tx ks s i).2.2.2) := by
  have hw : IntKind.i64.wrap ((i : Int) + 1) = ((i + 1 : Nat) : Int) := by rw [wrap_succ (n := i) (by omega)]; rfl
  have hw2 : IntKind.i64.wrap ((ks.length : Int) - 1) = ks.length - 1 := wrap64 (by omega) (by omega)
  have hF := impl_reader_figures_m (rHs ns ks tx s ((i + 1 : Nat) : Int) 0) 5 tx _ _ _ (i + 1) 0 4 rfl (by omega) (by omega) (by omega)
  refine semT' (S := fun _ => true) hm impl_reader_place_ok (Nat.le_of_ble_eq_true rfl) ?_
  unfold impl_reader_place; dsimp only
  simp
  rw [hw]
  refine all_call rfl hF (by simp) ?_; simp
  rw [hw2]
  refine lift_call rfl (impl_inRange_c (figV 4 (dgRun tx (i + 1))) 0 (ks.length - 1)) (by simp) (by simp) ?_; simp
  unfold plF
  by_cases c : 0 ≤ figV 4 (dgRun tx (i + 1)) ∧ figV 4 (dgRun tx (i + 1)) < ks.length
  · rw [if_pos c]
    have c0 : inF (figV 4 (dgRun tx (i + 1))) 0 (ks.length - 1) = true := inF_iff.2 ⟨c.1, by omega⟩
    simp [c0]
    obtain ⟨x, hx⟩ : ∃ x : Nat, figV 4 (dgRun tx (i + 1)) = x := ⟨_, (Int.toNat_of_nonneg c.1).symm⟩
    rw [hx] at c ⊢
    have hx2 : x < ks.length := by omega
    simp [hx2]
    exact LeV.refl _ _ _
  · rw [if_neg c]
    have c0 : inF (figV 4 (dgRun tx (i + 1))) 0 (ks.length - 1) = false := by
      cases h : inF (figV 4 (dgRun tx (i + 1))) 0 (ks.length - 1) with
      | false => rfl
      | true => have := inF_iff.1 h; omega
    simp [c0]
    refine all_call rfl (impl_reader_fail_m (rHs ns ks tx s (dEnd tx (i + 1)) 0) 5 tx _ _ _ (dEnd tx (i + 1)) 0 4 i rfl) (by simp) ?_; simp [failF]
    exact LeV.refl _ _ _
theorem rPublic_t (s : List Nd) (hp : poolF s = true) (i : Nat) (hi : i < tx.size) : T 25 [rptr 5, .ptr 4 0 0] (rHs ns ks tx s i 0) (i6 (pbF tx s i).2.1) (rHs ns ks tx (pbF tx s i).1 (pbF tx s i).2.2.1 (pbF tx s i).2.2.2) := by
  have hw : IntKind.i64.wrap ((i : Int) + 1) = ((i + 1 : Nat) : Int) := by rw [wrap_succ (n := i) (by omega)]; rfl
  have hN := impl_reader_number_m (rHs ns ks tx s ((i + 1 : Nat) : Int) 0) 5 tx _ _ _ (i + 1) i rfl (by omega) (by omega)
  have hpl := poolF_len hp
  have nm : ∀ (x i c : Int), T 56 [.ptr 4 0 0, i6 x] (rHs ns ks tx s i c) (i6 (addF s ⟨1, x, 0⟩).2) (rHs ns ks tx (addF s ⟨1, x, 0⟩).1 i c) := fun x i c =>
    impl_Pool_name_m (rHs ns ks tx s i c) 4 0 3 0 1 [pref 3 s] s x ⟨by simp, by simp, by simp, by simp, by simp [inAs_scals _ (ints_scals ks)], by simp, ⟨[], by simp⟩⟩ hpl
  refine semT' (S := fun _ => true) hm impl_reader_public_ok (Nat.le_of_ble_eq_true rfl) ?_
  unfold impl_reader_public; dsimp only
  simp
  rw [hw]
  refine all_call rfl hN (by simp) ?_; simp
  unfold pbF
  by_cases hc : (numF tx (i + 1) i).2.2 = 0
  · obtain ⟨g1, _, _, g4⟩ := numF_ok hc
    obtain ⟨e1, e2, e3⟩ := fullF_eq (s := s) (n := ⟨1, (numF tx (i + 1) i).1, 0⟩) (dEnd tx (i + 1))
    have g5 : (numF tx (i + 1) i).2.1 = (dEnd tx (i + 1) : Int) := by rw [g4]
    have g0 : 0 ≤ (numF tx (i + 1) i).1 := by rw [g4]; simp only; omega
    simp [hc]
    refine lift_call rfl (impl_IsPublic_c (numF tx (i + 1) i).1) (by simp) (by simp) ?_; simp
    by_cases c : (numF tx (i + 1) i).1 ≤ 49
    · have c0 : inF (numF tx (i + 1) i).1 0 49 = true := inF_iff.2 ⟨g0, c⟩
      simp [c0, c]
      refine all_call rfl (nm _ _ _) (by simp) ?_; simp
      rw [g5]
      refine all_call rfl (impl_reader_orFull_m (rHs ns ks tx (addF s ⟨1, (numF tx (i + 1) i).1, 0⟩).1 (dEnd tx (i + 1)) 0) 5 tx _ _ _ (dEnd tx (i + 1)) 0 (addF s ⟨1, (numF tx (i + 1) i).1, 0⟩).2 rfl) (by simp) ?_; simp
      rw [e3, if_pos (show (numF tx (i + 1) i).2.2 = 0 ∧ (numF tx (i + 1) i).1 ≤ 49 from ⟨hc, c⟩)]
      dsimp only
      rw [e1, e2]
      exact LeV.refl _ _ _
    · have c0 : inF (numF tx (i + 1) i).1 0 49 = false := by
        cases h : inF (numF tx (i + 1) i).1 0 49 with
        | false => rfl
        | true => have := inF_iff.1 h; omega
      simp [c0, c]
      refine all_call rfl (impl_reader_fail_m (rHs ns ks tx s (numF tx (i + 1) i).2.1 0) 5 tx _ _ _ (numF tx (i + 1) i).2.1 0 4 i rfl) (by simp) ?_; simp [failF]
      rw [if_neg (show ¬ ((numF tx (i + 1) i).2.2 = 0 ∧ (numF tx (i + 1) i).1 ≤ 49) from fun g => c g.2)]
      exact LeV.refl _ _ _
  · have e : numF tx (i + 1) i = (-1, (i : Int), 4) := by
      unfold numF at hc ⊢
      split
      · rename_i g; rw [if_pos g] at hc; simp at hc
      · rfl
    simp [hc]
    rw [e]
    exact LeV.refl _ _ _
theorem rOpened_t (s : List Nd) (hp : poolF s = true) (i b : Int) (ts : List Int) (hV : ∀ t ∈ ts, 0 ≤ t ∧ t < s.length) (hb : (b = 60 ∨ b = 62 ∨ b = 33) ∧ ts.length = 1 ∨ (b = 111 ∨ b = 120) ∧ ts.length = 2) :
    T 28 [rptr 5, .ptr 4 0 0, .int .u8 b, .ref 6 0 0 ts.length] (rHs ns ks tx s i 0 ++ [⟨0, false, 1, ints ts, none⟩]) (i6 (opF s b (ts.getD 0 0) (ts.getD 1 0)).2.1) (rHs ns ks tx (opF s b (ts.getD 0 0) (ts.getD 1 0)).1 i (opF s b (ts.getD 0 0) (ts.getD 1 0)).2.2 ++ [⟨0, false, 1, ints ts, none⟩]) := by
  have hpl := poolF_len hp
  have h0 : 0 ≤ ts.getD 0 0 ∧ ts.getD 0 0 < s.length := by
    have hl : 0 < ts.length := by omega
    have := hV ts[0] (List.getElem_mem hl)
    simpa [hl] using this
  obtain ⟨t, ht⟩ : ∃ t : Nat, ts.getD 0 0 = t := ⟨(ts.getD 0 0).toNat, by omega⟩
  have htl : t < s.length := by omega
  obtain ⟨e, he⟩ := enc_at htl
  have h3 : 3 ≤ s.length * 3 - t * 3 := by omega
  rcases hb with ⟨hb, hl⟩ | ⟨hb, hl⟩
  · obtain ⟨x, rfl⟩ : ∃ x, ts = [x] := by
      match ts, hl with
      | [x], _ => exact ⟨x, rfl⟩
    obtain rfl : x = t := ht
    simp only [List.getD_cons_zero, List.getD_cons_succ, List.getD_nil]
    obtain ⟨R, eR⟩ : ∃ R, opF s b t 0 = R := ⟨_, rfl⟩
    rw [eR]
    unfold opF at eR
    rw [ndG_at htl] at eR
    refine semT' (S := fun _ => true) hm impl_reader_opened_ok (Nat.le_of_ble_eq_true rfl) ?_
    unfold impl_reader_opened; dsimp only
    simp [ints, htl, he, h3]
    repeat (refine ck_intro' (by first | omega | (simp; omega) | kernel_rfl) ?_; try simp)
    have cl : ∀ c, Closed1 7 (rHs ns ks tx s i c ++ [⟨0, false, 1, [i6 t], none⟩]) = true := fun c => by simp [inAs_scals _ (ints_scals ks)]
    have ok : ∀ x c, R = (s, x, c) → LeV 7 (i6 x) (rHs ns ks tx s i c ++ [⟨0, false, 1, [i6 t], none⟩, ⟨0, false, 1, [i6 s[t].k, i6 s[t].a, i6 s[t].b], none⟩]) (i6 R.2.1) (rHs ns ks tx R.1 i R.2.2 ++ [⟨0, false, 1, [i6 t], none⟩]) := fun x c e => by
      subst e
      have := LeV.drop (B := 7) (r := i6 x) (H1 := rHs ns ks tx s i c ++ [⟨0, false, 1, [i6 t], none⟩]) (T := [⟨0, false, 1, [i6 s[t].k, i6 s[t].a, i6 s[t].b], none⟩]) (by simp) (by simpa using cl c) (by simp)
      exact this
    have fl := rFail_t ns ks tx hs hk [⟨0, false, 1, [i6 t], none⟩, ⟨0, false, 1, [i6 s[t].k, i6 s[t].a, i6 s[t].b], none⟩] s i 0 7 i
    rcases hb with rfl | rfl | rfl
    · by_cases c : s[t].k = 2
      · have c0 : decide (s[t].k = 2) = true := decide_eq_true c
        simp [c] at eR
        simp [c0]
        repeat (refine ck_intro' (by first | omega | (simp; omega) | kernel_rfl) ?_; try simp)
        exact ok _ _ eR.symm
      · have c0 : decide (s[t].k = 2) = false := decide_eq_false c
        simp [c] at eR
        simp [c0]
        repeat (refine ck_intro' (by first | omega | (simp; omega) | kernel_rfl) ?_; try simp)
        refine all_call rfl fl (by simp) ?_; simp [failF]
        repeat (refine ck_intro' (by first | omega | (simp; omega) | kernel_rfl) ?_; try simp)
        exact ok _ _ eR.symm
    · by_cases c : s[t].k = 2
      · have c0 : decide (s[t].k = 2) = true := decide_eq_true c
        simp [c] at eR
        simp [c0]
        repeat (refine ck_intro' (by first | omega | (simp; omega) | kernel_rfl) ?_; try simp)
        exact ok _ _ eR.symm
      · have c0 : decide (s[t].k = 2) = false := decide_eq_false c
        simp [c] at eR
        simp [c0]
        repeat (refine ck_intro' (by first | omega | (simp; omega) | kernel_rfl) ?_; try simp)
        refine all_call rfl fl (by simp) ?_; simp [failF]
        repeat (refine ck_intro' (by first | omega | (simp; omega) | kernel_rfl) ?_; try simp)
        exact ok _ _ eR.symm
    · by_cases c : s[t].k = 4
      · have c0 : decide (s[t].k = 4) = true := decide_eq_true c
        simp [c] at eR
        simp [c0]
        repeat (refine ck_intro' (by first | omega | (simp; omega) | kernel_rfl) ?_; try simp)
        exact ok _ _ eR.symm
      · have c0 : decide (s[t].k = 4) = false := decide_eq_false c
        simp [c] at eR
        simp [c0]
        repeat (refine ck_intro' (by first | omega | (simp; omega) | kernel_rfl) ?_; try simp)
        refine all_call rfl fl (by simp) ?_; simp [failF]
        repeat (refine ck_intro' (by first | omega | (simp; omega) | kernel_rfl) ?_; try simp)
        exact ok _ _ eR.symm
  · obtain ⟨x, y, rfl⟩ : ∃ x y, ts = [x, y] := by
      match ts, hl with
      | [x, y], _ => exact ⟨x, y, rfl⟩
    obtain rfl : x = t := ht
    have hy := hV y (by simp)
    obtain ⟨u, rfl⟩ : ∃ u : Nat, y = u := ⟨y.toNat, by omega⟩
    have hul : u < s.length := by omega
    obtain ⟨f, hf⟩ := enc_at hul
    have f3 : 3 ≤ s.length * 3 - u * 3 := by omega
    simp only [List.getD_cons_zero, List.getD_cons_succ, List.getD_nil]
    obtain ⟨R, eR⟩ : ∃ R, opF s b t u = R := ⟨_, rfl⟩
    rw [eR]
    unfold opF at eR
    rw [ndG_at htl, ndG_at hul] at eR
    refine semT' (S := fun _ => true) hm impl_reader_opened_ok (Nat.le_of_ble_eq_true rfl) ?_
    unfold impl_reader_opened; dsimp only
    simp [ints, htl, he, h3]
    repeat (refine ck_intro' (by first | omega | (simp; omega) | kernel_rfl) ?_; try simp)
    have cl : ∀ s c, Closed1 7 (rHs ns ks tx s i c ++ [⟨0, false, 1, [i6 t, i6 u], none⟩]) = true := fun s c => by simp [inAs_scals _ (ints_scals ks)]
    have ok : ∀ s' x c (T : List Blk), R = (s', x, c) → LeV 7 (i6 x) (rHs ns ks tx s' i c ++ (⟨0, false, 1, [i6 t, i6 u], none⟩ :: T)) (i6 R.2.1) (rHs ns ks tx R.1 i R.2.2 ++ [⟨0, false, 1, [i6 t, i6 u], none⟩]) := fun s' x c T e => by
      subst e
      have := LeV.drop (B := 7) (r := i6 x) (H1 := rHs ns ks tx s' i c ++ [⟨0, false, 1, [i6 t, i6 u], none⟩]) (T := T) (by simp) (by simpa using cl s' c) (by simp)
      exact this
    have fl := rFail_t ns ks tx hs hk [⟨0, false, 1, [i6 t, i6 u], none⟩, ⟨0, false, 1, [i6 s[t].k, i6 s[t].a, i6 s[t].b], none⟩] s i 0 7 i
    rcases hb with rfl | rfl
    · by_cases c : s[t].k = 3
      · have c0 : decide (s[t].k = 3) = true := decide_eq_true c
        by_cases d : s[t].b = u
        · have d0 : decide (s[t].b = (u : Int)) = true := decide_eq_true d
          simp [c, d] at eR
          simp [c0, d0]
          repeat (refine ck_intro' (by first | omega | (simp; omega) | kernel_rfl) ?_; try simp)
          exact ok _ _ _ _ eR.symm
        · have d0 : decide (s[t].b = (u : Int)) = false := decide_eq_false d
          simp [c, d] at eR
          simp [c0, d0]
          repeat (refine ck_intro' (by first | omega | (simp; omega) | kernel_rfl) ?_; try simp)
          refine all_call rfl fl (by simp) ?_; simp [failF]
          repeat (refine ck_intro' (by first | omega | (simp; omega) | kernel_rfl) ?_; try simp)
          exact ok _ _ _ _ eR.symm
      · have c0 : decide (s[t].k = 3) = false := decide_eq_false c
        simp [c] at eR
        simp [c0]
        repeat (refine ck_intro' (by first | omega | (simp; omega) | kernel_rfl) ?_; try simp)
        refine all_call rfl fl (by simp) ?_; simp [failF]
        repeat (refine ck_intro' (by first | omega | (simp; omega) | kernel_rfl) ?_; try simp)
        exact ok _ _ _ _ eR.symm
    · have rs : T 57 [.ptr 4 0 0, i6 u, i6 t] (rHs ns ks tx s i 0 ++ [⟨0, false, 1, [i6 t, i6 u], none⟩, ⟨0, false, 1, [i6 s[t].k, i6 s[t].a, i6 s[t].b], none⟩]) (i6 (raiF s u t).2) (rHs ns ks tx (raiF s u t).1 i 0 ++ [⟨0, false, 1, [i6 t, i6 u], none⟩, ⟨0, false, 1, [i6 s[t].k, i6 s[t].a, i6 s[t].b], none⟩]) :=
        impl_Pool_raise_m (rHs ns ks tx s i 0 ++ [(⟨0, false, 1, [i6 t, i6 u], none⟩ : Blk), (⟨0, false, 1, [i6 s[t].k, i6 s[t].a, i6 s[t].b], none⟩ : Blk)]) 4 0 3 0 1 [pref 3 s] s u t ⟨by simp, by simp, by simp, by simp, by simp [inAs_scals _ (ints_scals ks)], by simp, ⟨[], by simp⟩⟩ hpl
      have fu := rFull_t ns ks tx hs hk [⟨0, false, 1, [i6 t, i6 u], none⟩, ⟨0, false, 1, [i6 s[t].k, i6 s[t].a, i6 s[t].b], none⟩] (raiF s u t).1 (raiF s u t).2 i
      obtain ⟨e1, e2, e3⟩ := fullF_eqG (raiF s u t) i
      simp [hul, hf, f3]
      repeat (refine ck_intro' (by first | omega | (simp; omega) | kernel_rfl) ?_; try simp)
      by_cases c : s[u].k = 7
      · have c0 : decide (s[u].k = 7) = true := decide_eq_true c
        simp [c] at eR
        simp [hul, hf, f3, enc_k hul, c0]
        repeat (refine ck_intro' (by first | omega | (simp; omega) | kernel_rfl) ?_; try simp)
        refine all_call rfl rs (by simp) ?_; simp
        repeat (refine ck_intro' (by first | omega | (simp; omega) | kernel_rfl) ?_; try simp)
        refine all_call rfl fu (by simp) ?_; simp
        repeat (refine ck_intro' (by first | omega | (simp; omega) | kernel_rfl) ?_; try simp)
        rw [e3]
        subst eR
        rw [← e2]
        have := ok (fullF (raiF s u t)).1 (fullF (raiF s u t)).2.1 (fullF (raiF s u t)).2.2 [⟨0, false, 1, [i6 s[t].k, i6 s[t].a, i6 s[t].b], none⟩] rfl
        rw [e1] at this ⊢
        exact this
      · have c0 : decide (s[u].k = 7) = false := decide_eq_false c
        simp [c] at eR
        simp [hul, hf, f3, enc_k hul, c0]
        repeat (refine ck_intro' (by first | omega | (simp; omega) | kernel_rfl) ?_; try simp)
        refine all_call rfl fl (by simp) ?_; simp [failF]
        repeat (refine ck_intro' (by first | omega | (simp; omega) | kernel_rfl) ?_; try simp)
        exact ok _ _ _ _ eR.symm
theorem plF_one (s : List Nd) (i : Nat) : (plF tx ks s i).1 = s := by
  unfold plF
  split <;> rfl
theorem rLeaf_t (s : List Nd) (hp : poolF s = true) (i : Nat) (b : Int) (hi : i < tx.size) :
    T 23 [rptr 5, .int .u8 b, .ptr 1 0 0, .ptr 4 0 0] (rHs ns ks tx s i 0) (i6 ((rcpR tx ks).leaf s b i).2.1) (rHs ns ks tx ((rcpR tx ks).leaf s b i).1 ((rcpR tx ks).leaf s b i).2.2.1 ((rcpR tx ks).leaf s b i).2.2.2) := by
  have hP := rPlace_t ns ks tx hs hk s i hi
  have hQ := rPublic_t ns ks tx hs hk s hp i hi
  by_cases c : b = 64
  · rw [show (rcpR tx ks).leaf s b i = plF tx ks s i from if_pos c]
    refine semT' (S := fun _ => true) hm impl_RecipeRun_1_ok (Nat.le_of_ble_eq_true rfl) ?_
    unfold impl_RecipeRun_1; dsimp only
    have c0 : decide (b = 64) = true := decide_eq_true c
    simp [c0]
    refine all_call rfl hP (by simp) ?_; simp
    rw [plF_one ks tx hs hk]
    exact LeV.refl _ _ _
  · rw [show (rcpR tx ks).leaf s b i = pbF tx s i from if_neg c]
    refine semT' (S := fun _ => true) hm impl_RecipeRun_1_ok (Nat.le_of_ble_eq_true rfl) ?_
    unfold impl_RecipeRun_1; dsimp only
    have c0 : decide (b = 64) = false := decide_eq_false c
    simp [c0]
    refine all_call rfl hQ (by simp) ?_; simp
    exact LeV.refl _ _ _
theorem rJoin_t (s : List Nd) (hp : poolF s = true) (i b : Int) (ts : List Int) (hV : ∀ t ∈ ts, 0 ≤ t ∧ t < s.length) (hS : (rcpR tx ks).Shape b ts.length) :
    ∃ G, 7 ≤ G.length ∧ T 26 [rptr 5, .int .u8 b, .ref 6 0 0 ts.length, .ptr 4 0 0] (rHs ns ks tx s i 0 ++ [⟨0, false, 1, ints ts, none⟩]) (i6 (rcJ s b ts).2.1) G ∧
      LeV 6 (i6 (rcJ s b ts).2.1) G (i6 (rcJ s b ts).2.1) (rHs ns ks tx (rcJ s b ts).1 i (rcJ s b ts).2.2) := by
  have hpl := poolF_len hp
  have hts : ts.length = 1 ∨ ts.length = 2 := by
    simp only [Rdr.Shape] at hS
    omega
  refine ⟨rHs ns ks tx (rcJ s b ts).1 i (rcJ s b ts).2.2 ++ [⟨0, false, 1, ints ts, none⟩], by simp, ?_, LeV.drop (by simp) (rHs_cl _ _ _ _ _ _) (by simp)⟩
  have one := impl_isOneOf_c b rmore (by decide)
  by_cases c : inS b rmore = true
  · have hO := rOpened_t ns ks tx hs hk s hp i b ts hV (by
      have g := rcp_more.1 c
      rcases hS with ⟨h1, h2⟩ | ⟨_, h1, h2⟩ | ⟨_, _, h1, h2⟩
      · have := rcp_two.1 h1; omega
      · have := rcp_one.1 h1; omega
      · have := rcp_arg.1 h1; omega)
    rw [show rcJ s b ts = opF s b (ts.getD 0 0) (ts.getD 1 0) from if_pos c]
    refine semT' (S := fun _ => true) hm impl_RecipeRun_2_ok (Nat.le_of_ble_eq_true rfl) ?_
    unfold impl_RecipeRun_2; dsimp only
    simp
    refine lift_call rfl one (by simp) (by simp) ?_; simp [c]
    refine all_call rfl hO (by simp) ?_; simp
    exact LeV.refl _ _ _
  · have c0 : inS b rmore = false := by simpa using c
    have hA := impl_reader_added_m (rHs ns ks tx s i 0 ++ [⟨0, false, 1, ints ts, none⟩]) 4 0 3 0 1 [pref 3 s] s 5 6 tx _ _ _ i b ts ⟨by simp, by simp, by simp, by simp, by simp [inAs_scals _ (ints_scals _)], by simp, ⟨[], by simp⟩⟩ hpl rfl (by decide) (by decide) rfl (by decide) (by decide) (by decide) hts
    rw [show rcJ s b ts = jnF s b ts from if_neg c]
    refine semT' (S := fun _ => true) hm impl_RecipeRun_2_ok (Nat.le_of_ble_eq_true rfl) ?_
    unfold impl_RecipeRun_2; dsimp only
    simp
    refine lift_call rfl one (by simp) (by simp) ?_; simp [c0]
    refine all_call rfl hA (by simp) ?_; simp
    exact LeV.refl _ _ _
/-- The reader of a recipe, in the program. -/
def rcpZ : RdrRun (rcpK tx ks) where
  Hs s i c := rHs ns ks tx s i c
  b := 5
  L := 6
  lf := 23
  jn := 26
  lc := [.ptr 1 0 0, .ptr 4 0 0]
  jc := [.ptr 4 0 0]
  size := by show tx.size ≤ _; omega
  msize := by show ByteArray.size rmore ≤ _; decide
  get _ _ _ := rfl
  set _ _ _ _ _ := rfl
  len _ _ _ := rfl
  cl s i c := rHs_cl ns ks tx s i c
  el := by kernel_rfl
  ej := by kernel_rfl
  leaf {s i} hW hi _ := rLeaf_t ns ks tx hs hk s hW.1 i _ hi
  join {s0 i s i' ts} hW hi hE hi' hS hV := rJoin_t ns ks tx hs hk s (hE.2.2 hW.1) i' _ ts hV hS
end
theorem allF_all3 {p : Nat → Bool} {n : Nat} (h : allF p n 0 = true) {i : Nat} (hi : i < n) : p i = true := by
  have : ∀ k, k ≤ i → allF p n k = true := by
    intro k
    induction k with
    | zero => intro _; exact h
    | succ k ih =>
      intro hk
      have := ih (by omega)
      rw [allF_at (by omega), Bool.and_eq_true] at this
      exact this.2
  have := this i (Nat.le_refl _)
  rw [allF_at hi, Bool.and_eq_true] at this
  exact this.1
theorem kp_know {ns : List Nd} {ks : List Int} (h : kpF ns ks = true) : poolF ns = true ∧ ∀ x ∈ ks, 0 ≤ x ∧ x < ns.length := by
  simp only [kpF, knowF, Bool.and_eq_true] at h
  refine ⟨h.1, fun x hx => ?_⟩
  obtain ⟨j, hj, rfl⟩ := List.getElem_of_mem hx
  have h1 := allF_all3 h.2.1 hj
  simp [kn, hj, hasF, inF] at h1
  omega
/-- What RecipeRun answers. -/
def rrF (ns : List Nd) (ks : List Int) (tx : ByteArray) : List Nd × Int × Int × Int :=
  if 2000 < tx.size then (orE ns, -1, 0, 1)
  else if kpF ns ks = false then (orE ns, -1, 0, 5)
  else if (allRF (rcpR tx ks) 2000 ns).2.2.2 = 0 then ((allRF (rcpR tx ks) 2000 ns).1, (allRF (rcpR tx ks) 2000 ns).2.1, (tx.size : Int), 0)
  else (ns, -1, ((allRF (rcpR tx ks) 2000 ns).2.2.1 : Int), (allRF (rcpR tx ks) 2000 ns).2.2.2)
theorem impl_RecipeRun_c (ns : List Nd) (ks : List Int) (tx : ByteArray) (hl : ns.length ≤ 4294967296) (hk : ks.length ≤ 4294967296) (hs : tx.size ≤ 281474976710656) : T 8 [aP ns, aI ks, .str tx] [] (.tup [.agg [pref 0 (rrF ns ks tx).1], i6 (rrF ns ks tx).2.1, i6 (rrF ns ks tx).2.2.1, i6 (rrF ns ks tx).2.2.2]) ([pblk (rrF ns ks tx).1]) := by
  refine semT' (S := (fun f => [30].contains f)) hm impl_RecipeRun_ok (Nat.le_of_ble_eq_true rfl) ?_
  unfold impl_RecipeRun; dsimp only
  simp
  by_cases h2 : 2000 < tx.size
  · have b1 : decide ((2000 : Int) < tx.size) = true := decide_eq_true (by omega)
    simp [b1]
    refine impl_orEmpty_k (ns := ns) hl rfl (by simp) (by simp [noslBlks]) ?_; simp [shiftB]
    rw [show rrF ns ks tx = (orE ns, -1, 0, 1) from if_pos h2]
    first | (refine LeV.tell [none] ?_ ?_ ?_ <;> (simp; done)) | (refine LeV.tell [some 0] ?_ ?_ ?_ <;> (simp; done)) | (refine LeV.tell [some 1] ?_ ?_ ?_ <;> (simp; done)) | (refine LeV.tell [some 2] ?_ ?_ ?_ <;> (simp; done)) | (refine LeV.tell [some 3] ?_ ?_ ?_ <;> (simp; done)) | (refine LeV.tell [some 4] ?_ ?_ ?_ <;> (simp; done)) | (refine LeV.tell [some 5] ?_ ?_ ?_ <;> (simp; done)) | (refine LeV.tell [some 6] ?_ ?_ ?_ <;> (simp; done)) | (refine LeV.tell [some 7] ?_ ?_ ?_ <;> (simp; done)) | (refine LeV.tell [some 8] ?_ ?_ ?_ <;> (simp; done)) | (refine LeV.tell [some 9] ?_ ?_ ?_ <;> (simp; done)) | (refine LeV.tell [some 10] ?_ ?_ ?_ <;> (simp; done)) | (refine LeV.tell [some 11] ?_ ?_ ?_ <;> (simp; done)) | (refine LeV.tell [some 12] ?_ ?_ ?_ <;> (simp; done)) | (refine LeV.tell [some 13] ?_ ?_ ?_ <;> (simp; done)) | (refine LeV.tell [some 14] ?_ ?_ ?_ <;> (simp; done)) | (refine LeV.tell [some 15] ?_ ?_ ?_ <;> (simp; done))
  have b1 : decide ((2000 : Int) < tx.size) = false := decide_eq_false (by omega)
  simp [b1]
  refine impl_KnowOk_call (ns := ns) (ks := ks) (by omega) (by omega) rfl ?_; simp
  rcases Bool.eq_false_or_eq_true (kpF ns ks) with hp | hp
  case inr =>
    simp [hp]
    refine impl_orEmpty_k (ns := ns) hl rfl (by simp) (by simp [noslBlks]) ?_; simp [shiftB]
    rw [show rrF ns ks tx = (orE ns, -1, 0, 5) by unfold rrF; rw [if_neg h2, if_pos hp]]
    first | (refine LeV.tell [none] ?_ ?_ ?_ <;> (simp; done)) | (refine LeV.tell [some 0] ?_ ?_ ?_ <;> (simp; done)) | (refine LeV.tell [some 1] ?_ ?_ ?_ <;> (simp; done)) | (refine LeV.tell [some 2] ?_ ?_ ?_ <;> (simp; done)) | (refine LeV.tell [some 3] ?_ ?_ ?_ <;> (simp; done)) | (refine LeV.tell [some 4] ?_ ?_ ?_ <;> (simp; done)) | (refine LeV.tell [some 5] ?_ ?_ ?_ <;> (simp; done)) | (refine LeV.tell [some 6] ?_ ?_ ?_ <;> (simp; done)) | (refine LeV.tell [some 7] ?_ ?_ ?_ <;> (simp; done)) | (refine LeV.tell [some 8] ?_ ?_ ?_ <;> (simp; done)) | (refine LeV.tell [some 9] ?_ ?_ ?_ <;> (simp; done)) | (refine LeV.tell [some 10] ?_ ?_ ?_ <;> (simp; done)) | (refine LeV.tell [some 11] ?_ ?_ ?_ <;> (simp; done)) | (refine LeV.tell [some 12] ?_ ?_ ?_ <;> (simp; done)) | (refine LeV.tell [some 13] ?_ ?_ ?_ <;> (simp; done)) | (refine LeV.tell [some 14] ?_ ?_ ?_ <;> (simp; done)) | (refine LeV.tell [some 15] ?_ ?_ ?_ <;> (simp; done))
  simp [hp]
  refine impl_copyPool_k (ns := ns) hl rfl (by simp) (by simp [noslBlks]) ?_; simp [shiftB]
  obtain ⟨hpp, hks⟩ := kp_know hp
  have hZ := (rcpZ ns ks tx (by omega) hk).all (s := ns) (most := 2000) ⟨hpp, hks⟩
  have hT : rrF ns ks tx = if (allRF (rcpR tx ks) 2000 ns).2.2.2 = 0 then ((allRF (rcpR tx ks) 2000 ns).1, (allRF (rcpR tx ks) 2000 ns).2.1, (tx.size : Int), 0) else (ns, -1, ((allRF (rcpR tx ks) 2000 ns).2.2.1 : Int), (allRF (rcpR tx ks) 2000 ns).2.2.2) := by
    unfold rrF; rw [if_neg h2, if_neg (by simp [hp])]
  rw [hT]
  obtain ⟨q, eq⟩ : ∃ q, allRF (rcpR tx ks) 2000 ns = q := ⟨_, rfl⟩
  rw [eq] at hZ ⊢
  rw [show decide (ns = []) = decide (ns.length = 0) by cases ns <;> simp]
  refine all_call rfl hZ (by simp [rcpZ]) ?_
  simp [rcpZ]
  by_cases hc : q.2.2.2 = 0
  · simp [hc]
    first | (refine LeV.tell [none] ?_ ?_ ?_ <;> (simp; done)) | (refine LeV.tell [some 0] ?_ ?_ ?_ <;> (simp; done)) | (refine LeV.tell [some 1] ?_ ?_ ?_ <;> (simp; done)) | (refine LeV.tell [some 2] ?_ ?_ ?_ <;> (simp; done)) | (refine LeV.tell [some 3] ?_ ?_ ?_ <;> (simp; done)) | (refine LeV.tell [some 4] ?_ ?_ ?_ <;> (simp; done)) | (refine LeV.tell [some 5] ?_ ?_ ?_ <;> (simp; done)) | (refine LeV.tell [some 6] ?_ ?_ ?_ <;> (simp; done)) | (refine LeV.tell [some 7] ?_ ?_ ?_ <;> (simp; done)) | (refine LeV.tell [some 8] ?_ ?_ ?_ <;> (simp; done)) | (refine LeV.tell [some 9] ?_ ?_ ?_ <;> (simp; done)) | (refine LeV.tell [some 10] ?_ ?_ ?_ <;> (simp; done)) | (refine LeV.tell [some 11] ?_ ?_ ?_ <;> (simp; done)) | (refine LeV.tell [some 12] ?_ ?_ ?_ <;> (simp; done)) | (refine LeV.tell [some 13] ?_ ?_ ?_ <;> (simp; done)) | (refine LeV.tell [some 14] ?_ ?_ ?_ <;> (simp; done)) | (refine LeV.tell [some 15] ?_ ?_ ?_ <;> (simp; done))
  · simp [hc]
    refine impl_copyPool_k (ns := ns) hl rfl (by simp) (by simp [noslBlks]) ?_; simp [shiftB]
    repeat (refine ck_intro' (by first | omega | (simp; omega) | kernel_rfl) ?_; try simp)
    first | (refine LeV.tell [none] ?_ ?_ ?_ <;> (simp [hc]; done)) | (refine LeV.tell [some 0] ?_ ?_ ?_ <;> (simp [hc]; done)) | (refine LeV.tell [some 1] ?_ ?_ ?_ <;> (simp [hc]; done)) | (refine LeV.tell [some 2] ?_ ?_ ?_ <;> (simp [hc]; done)) | (refine LeV.tell [some 3] ?_ ?_ ?_ <;> (simp [hc]; done)) | (refine LeV.tell [some 4] ?_ ?_ ?_ <;> (simp [hc]; done)) | (refine LeV.tell [some 5] ?_ ?_ ?_ <;> (simp [hc]; done)) | (refine LeV.tell [some 6] ?_ ?_ ?_ <;> (simp [hc]; done)) | (refine LeV.tell [some 7] ?_ ?_ ?_ <;> (simp [hc]; done)) | (refine LeV.tell [some 8] ?_ ?_ ?_ <;> (simp [hc]; done)) | (refine LeV.tell [some 9] ?_ ?_ ?_ <;> (simp [hc]; done)) | (refine LeV.tell [some 10] ?_ ?_ ?_ <;> (simp [hc]; done)) | (refine LeV.tell [some 11] ?_ ?_ ?_ <;> (simp [hc]; done)) | (refine LeV.tell [some 12] ?_ ?_ ?_ <;> (simp [hc]; done)) | (refine LeV.tell [some 13] ?_ ?_ ?_ <;> (simp [hc]; done)) | (refine LeV.tell [some 14] ?_ ?_ ?_ <;> (simp [hc]; done)) | (refine LeV.tell [some 15] ?_ ?_ ?_ <;> (simp [hc]; done))
theorem impl_RecipeRun_k {ns : List Nd} {ks : List Int} {tx : ByteArray} (hl : ns.length ≤ 4294967296) (hk : ks.length ≤ 4294967296) (hs : tx.size ≤ 281474976710656) {S : FuncId → Bool} {H : List Blk} {K : A → Dl → Prop} {zs : List A} (hS : S 8 = false) (hv : viewL (viewA 8 H) zs = some [aP ns, aI ks, .str tx]) (ho : noOwns zs = true ∨ nosl (.tup [.agg [pref 0 (rrF ns ks tx).1], i6 (rrF ns ks tx).2.1, i6 (rrF ns ks tx).2.2.1, i6 (rrF ns ks tx).2.2.2]) = true ∧ noslBlks ([pblk (rrF ns ks tx).1]) = true) (hK : K (shiftA H.length (.tup [.agg [pref 0 (rrF ns ks tx).1], i6 (rrF ns ks tx).2.1, i6 (rrF ns ks tx).2.2.1, i6 (rrF ns ks tx).2.2.2])) (.news (([pblk (rrF ns ks tx).1]).map (shiftB H.length)))) : @WCall' Go.Proofs.Tryz.prog S 8 zs H ⟨K⟩ :=
  WCall_ro' hS hv (impl_RecipeRun_c ns ks tx hl hk hs) rfl ho hK
end Go.Proofs.YtealijdcolmchaaGreatDoor.C
