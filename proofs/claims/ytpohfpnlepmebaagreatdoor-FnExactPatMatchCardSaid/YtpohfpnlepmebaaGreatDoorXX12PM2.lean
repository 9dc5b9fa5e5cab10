/- The reference's reader of patterns. Conditions: those that each theorem names. -/
import Derived.Test.YtpohfpnlepmebaaGreatDoorXX4X11
import Derived.Test.YtpohfpnlepmebaaGreatDoorXSymVirtA
import Derived.Test.YtpohfpnlepmebaaGreatDoorXC1X3
set_option linter.unusedVariables false
set_option linter.unusedSimpArgs false
set_option maxRecDepth 4000
namespace Go.Proofs.YtpohfpnlepmebaaGreatDoor.C
open Go.Sym Go.Proofs.YtpohfpnlepmebaaGreatDoor.I
theorem two_sign {b : Int} (h : isTwoB b = true) : b = 40 ∨ b = 123 ∨ b = 91 := by
  simp [isTwoB, inS, bl] at h; omega
theorem one_sign {b : Int} {tx : ByteArray} (h : (patR tx).isOne b = true) : b = 35 ∨ b = 94 := by
  simp [Rdr.isOne, patR, inS, bl] at h; omega
theorem arg_sign {b : Int} {tx : ByteArray} (h : (patR tx).isArg b = true) : b = 107 ∨ b = 42 ∨ b = 120 := by
  simp [Rdr.isArg, patR, inS, bl] at h; omega
theorem no_sign {b : Int} {tx : ByteArray} (h1 : ¬ (patR tx).isLeaf b = true) (h2 : ¬ isTwoB b = true) (h3 : ¬ (patR tx).isOne b = true) (h4 : ¬ (patR tx).isArg b = true) : b ≠ 36 ∧ b ≠ 63 ∧ b ≠ 110 ∧ b ≠ 120 ∧ kd3 b = (0, 0, 0) := by
  refine ⟨?_, ?_, ?_, ?_, ?_⟩
  · rintro rfl; exact h1 rfl
  · rintro rfl; exact h1 rfl
  · rintro rfl; exact h1 rfl
  · rintro rfl; exact h4 rfl
  · unfold kd3
    rw [if_neg (by rintro rfl; exact h2 rfl), if_neg (by rintro rfl; exact h2 rfl), if_neg (by rintro rfl; exact h2 rfl), if_neg (by rintro rfl; exact h3 rfl), if_neg (by rintro rfl; exact h3 rfl), if_neg (by rintro rfl; exact h4 rfl), if_neg (by rintro rfl; exact h4 rfl)]
abbrev nrow (k a b : Int) (q : Bool) : Blk := ⟨0, false, 1, [i6 k, i6 a, i6 b, .bool q], none⟩
set_option maxHeartbeats 8000000 in
theorem parse_t {tx : ByteArray} (hs : tx.size ≤ 200) : ∀ n, Parses tx n
  | 0 => fun s i H b hG hl hi hn _ _ => by omega
  | n + 1 => fun s i H b hG hl hi hn hb hcl => by
    have ih := parse_t hs n
    have hbl : b < H.length := (List.getElem?_eq_some_iff.1 hb).1
    have same : H.set b (nblk (nodesL s)) = H := rset_same hb
    have gN : ∀ (L : List Ln) (k : Blk) (T : List Blk), (H.set b (nblk L) ++ (k :: T))[H.length]? = some k := fun L k T => by
      rw [List.getElem?_append_right (by simp)]; simp
    have sN : ∀ (L : List Ln) (k y : Blk) (T : List Blk), (H.set b (nblk L) ++ (k :: T)).set H.length y = H.set b (nblk L) ++ (y :: T) := fun L k y T => by
      rw [List.set_append_right _ _ (by simp)]; simp
    have gB : ∀ (L : List Ln) (T : List Blk), (H.set b (nblk L) ++ T)[b]? = some (nblk L) := fun L T => (get_left (by simpa using hbl)).trans (by simp [hbl])
    have sB : ∀ (L : List Ln) (T : List Blk) (y : Blk), (H.set b (nblk L) ++ T).set b y = H.set b y ++ T := fun L T y => by rw [set_left (by simpa using hbl), List.set_set]
    have fin : ∀ (L : List Ln) (nd : Ln) (p : Int) (T : List Blk), LeV H.length (.tup [.ref b (L.length + 1) 0 (L.length + 1), i6 L.length, i6 p, .bool true]) (H.set b ⟨L.length + 1, false, 4, encLs L ++ encL nd, none⟩ ++ T) (.tup [nref b (L ++ [nd]), i6 L.length, i6 p, .bool true]) (H.set b (nblk (L ++ [nd]))) := fun L nd p T => by
      have e1 : nblk (L ++ [nd]) = ⟨L.length + 1, false, 4, encLs L ++ encL nd, none⟩ := by simp [encLs_snoc]
      have e2 : nref b (L ++ [nd]) = .ref b (L.length + 1) 0 (L.length + 1) := by simp
      rw [e1, e2]
      exact LeV.drop (by simp) (by rw [List.length_set]; exact Closed1_set (by rw [inAs_app]; simp [encL]) _ _ hcl) (by simp; omega)
    have bad : ∀ (L : List Ln) (T : List Blk), LeV H.length (.tup [nref b L, i6 0, i6 0, .bool false]) (H.set b (nblk L) ++ T) (.tup [nref b L, i6 0, i6 0, .bool false]) (H.set b (nblk L)) := fun L T =>
      LeV.drop (by simp) (by rw [List.length_set]; exact Closed1_set (by simp) _ _ hcl) (by simp; omega)
    obtain ⟨q, eq⟩ : ∃ q, rdF (patR tx) (n + 1) s i 0 = q := ⟨_, rfl⟩
    rw [eq]
    simp only [rdF] at eq
    rw [if_neg (by simp)] at eq
    have htx : (patR tx).text = tx := rfl
    rw [htx] at eq
    by_cases h1 : tx.size ≤ i
    · rw [if_pos h1] at eq
      subst eq
      refine ⟨fun h => by simp at h, fun _ => ⟨nodesL s, ?_⟩⟩
      rw [same]
      refine semT' (S := fun _ => true) hm spec_l11Parse_ok (Nat.le_of_ble_eq_true rfl) ?_
      unfold spec_l11Parse; dsimp only
      simp [h1]
      exact LeV.refl _ _ _
    rw [if_neg h1] at eq
    have hlt : i < tx.size := by omega
    rw [← same]
    by_cases h2 : (patR tx).isLeaf (bt tx i) = true
    · rw [if_pos h2] at eq
      rcases leaf_sign h2 with hv | hv | hv
      · rw [hv] at eq
        obtain ⟨i1, hi1⟩ : ∃ i1, i + 1 = i1 := ⟨_, rfl⟩
        have w1 : IntKind.i64.wrap ((i : Int) + 1) = (i1 : Int) := by rw [wrap64 (by omega) (by omega)]; omega
        have eL : (patR tx).leaf s 110 i = (s ++ [⟨110, (numF tx i1 i).1, []⟩], (s.length : Int), (numF tx i1 i).2.1.toNat, (numF tx i1 i).2.2) := by rw [← hi1]; rfl
        rw [eL, numF_nm] at eq
        have hN := spec_l4Name_c tx i1 (by omega) (by omega)
        by_cases nm : nmOk tx i1 = true
        · simp only [nm, if_true, Int.toNat_natCast] at eq hN
          subst eq
          refine ⟨fun _ => ?_, fun h => absurd rfl h⟩
          refine semT' (S := fun _ => true) hm spec_l11Parse_ok (Nat.le_of_ble_eq_true rfl) ?_
          unfold spec_l11Parse; dsimp only
          simp [hlt, h1, hv, w1]
          refine lift_call rfl hN (by simp) (by simp) ?_; simp [gN, sN]
          refine lift_call rfl (spec_l11Parts_c ⟨1, figV 3 (dgRun tx i1), 0, false⟩) (by simp) (by simp) ?_; simp [gN, gB, sB, lpF, partsF]
          refine ck_intro' (by omega) ?_; simp [gN, gB, sB]
          repeat (refine ck_intro' (by first | omega | (simp; omega) | kernel_rfl) ?_; try simp)
          have e9 : nodesL (s ++ [⟨110, figV 3 (dgRun tx i1), []⟩]) = nodesL s ++ [⟨1, figV 3 (dgRun tx i1), 0, false⟩] := by
            rw [nodesL_snoc]
            simp [nodeL, pkF]
          rw [e9]
          have f := fun T => fin (nodesL s) ⟨1, figV 3 (dgRun tx i1), 0, false⟩ (dEnd tx i1) T
          simp [encL] at f
          exact f _
        · simp only [nm] at eq hN
          subst eq
          refine ⟨fun h => by simp at h, fun _ => ⟨nodesL s, ?_⟩⟩
          refine semT' (S := fun _ => true) hm spec_l11Parse_ok (Nat.le_of_ble_eq_true rfl) ?_
          unfold spec_l11Parse; dsimp only
          simp [hlt, h1, hv, w1]
          refine lift_call rfl hN (by simp) (by simp) ?_; simp [gN, sN]
          exact bad _ _
      · rw [hv] at eq
        have eL : (patR tx).leaf s 36 i = (s ++ [⟨36, (letF tx i).1, []⟩], (s.length : Int), (letF tx i).2.1, (letF tx i).2.2) := rfl
        rw [eL] at eq
        obtain ⟨i1, hi1⟩ : ∃ i1, i + 1 = i1 := ⟨_, rfl⟩
        obtain ⟨i2, hi2⟩ : ∃ i2, i + 2 = i2 := ⟨_, rfl⟩
        have w1 : IntKind.i64.wrap ((i : Int) + 1) = (i1 : Int) := by rw [wrap64 (by omega) (by omega)]; omega
        have w2 : IntKind.i64.wrap ((i : Int) + 2) = (i2 : Int) := by rw [wrap64 (by omega) (by omega)]; omega
        have lt0 : letF tx i = if i1 < tx.size ∧ 97 ≤ bt tx i1 ∧ bt tx i1 ≤ 122 then (bt tx i1 - 97, i2, 0) else (-1, i1, 3) := by rw [← hi1, ← hi2]; rfl
        by_cases hc : i1 < tx.size ∧ 97 ≤ bt tx i1 ∧ bt tx i1 ≤ 122
        · rw [lt0, if_pos hc] at eq
          subst eq
          refine ⟨fun _ => ?_, fun h => absurd rfl h⟩
          obtain ⟨hj, hA, hB⟩ := hc
          have hA' : (97 : Int) ≤ ((byt tx i1).toNat : Int) := hA
          have hB' : ((byt tx i1).toNat : Int) ≤ 122 := hB
          have b1 : decide ((tx.size : Int) ≤ (i1 : Int)) = false := by simp; omega
          have b2 : decide (((byt tx i1).toNat : Int) < 97) = false := by simp; omega
          have b3 : decide ((122 : Int) < ((byt tx i1).toNat : Int)) = false := by simp; omega
          have w3 : IntKind.i64.wrap ((byt tx i1).toNat : Int) = (byt tx i1).toNat := wrap64 (by omega) (by omega)
          have w4 : IntKind.i64.wrap (((byt tx i1).toNat : Int) - 97) = (byt tx i1).toNat - 97 := wrap64 (by omega) (by omega)
          refine semT' (S := fun _ => true) hm spec_l11Parse_ok (Nat.le_of_ble_eq_true rfl) ?_
          unfold spec_l11Parse; dsimp only
          simp [hlt, h1, hv, w1, show ¬ tx.size ≤ i1 by omega, b2, b3, hj, w2, w3, w4, gN, sN]
          refine ck_intro' (regOk_ren (fun _ => 0) (by kernel_rfl)) ?_; simp [gN, sN, w2]
          refine lift_call rfl (spec_l11Parts_c ⟨9, (byt tx i1).toNat - 97, 0, false⟩) (by simp) (by simp) ?_; simp [gN, gB, sB, lpF]
          refine ck_intro' (by omega) ?_; simp [gN, gB, sB]
          repeat (refine ck_intro' (by first | omega | (simp; omega) | kernel_rfl) ?_; try simp)
          have e9 : nodesL (s ++ [⟨36, bt tx i1 - 97, []⟩]) = nodesL s ++ [⟨9, bt tx i1 - 97, 0, false⟩] := by
            rw [nodesL_snoc]
            simp [nodeL, pkF]
          rw [e9]
          have f := fun T => fin (nodesL s) ⟨9, bt tx i1 - 97, 0, false⟩ i2 T
          simp [encL] at f
          exact f _
        · rw [lt0, if_neg hc] at eq
          subst eq
          refine ⟨fun h => by simp at h, fun _ => ⟨nodesL s, ?_⟩⟩
          refine semT' (S := fun _ => true) hm spec_l11Parse_ok (Nat.le_of_ble_eq_true rfl) ?_
          unfold spec_l11Parse; dsimp only
          by_cases d1 : tx.size ≤ i1
          · have b1 : decide ((tx.size : Int) ≤ (i1 : Int)) = true := by simp; omega
            simp [hlt, h1, hv, w1, d1, gN, sN]
            exact bad _ _
          · have hj : i1 < tx.size := by omega
            have b1 : decide ((tx.size : Int) ≤ (i1 : Int)) = false := by simp; omega
            by_cases d2 : ((byt tx i1).toNat : Int) < 97
            · have b2 : decide (((byt tx i1).toNat : Int) < 97) = true := by simp; omega
              simp [hlt, h1, hv, w1, show ¬ tx.size ≤ i1 by omega, b2, hj, gN, sN]
              exact bad _ _
            · have b2 : decide (((byt tx i1).toNat : Int) < 97) = false := by simp; omega
              have b3 : decide ((122 : Int) < ((byt tx i1).toNat : Int)) = true := by
                simp
                have : ¬ bt tx i1 ≤ 122 := fun h => hc ⟨hj, by simp only [bt]; omega, h⟩
                simp only [bt] at this
                omega
              simp [hlt, h1, hv, w1, show ¬ tx.size ≤ i1 by omega, b2, b3, hj, gN, sN]
              exact bad _ _
      · rw [hv] at eq
        have eL : (patR tx).leaf s 63 i = (s ++ [⟨63, (letF tx i).1, []⟩], (s.length : Int), (letF tx i).2.1, (letF tx i).2.2) := rfl
        rw [eL] at eq
        obtain ⟨i1, hi1⟩ : ∃ i1, i + 1 = i1 := ⟨_, rfl⟩
        obtain ⟨i2, hi2⟩ : ∃ i2, i + 2 = i2 := ⟨_, rfl⟩
        have w1 : IntKind.i64.wrap ((i : Int) + 1) = (i1 : Int) := by rw [wrap64 (by omega) (by omega)]; omega
        have w2 : IntKind.i64.wrap ((i : Int) + 2) = (i2 : Int) := by rw [wrap64 (by omega) (by omega)]; omega
        have lt0 : letF tx i = if i1 < tx.size ∧ 97 ≤ bt tx i1 ∧ bt tx i1 ≤ 122 then (bt tx i1 - 97, i2, 0) else (-1, i1, 3) := by rw [← hi1, ← hi2]; rfl
        by_cases hc : i1 < tx.size ∧ 97 ≤ bt tx i1 ∧ bt tx i1 ≤ 122
        · rw [lt0, if_pos hc] at eq
          subst eq
          refine ⟨fun _ => ?_, fun h => absurd rfl h⟩
          obtain ⟨hj, hA, hB⟩ := hc
          have hA' : (97 : Int) ≤ ((byt tx i1).toNat : Int) := hA
          have hB' : ((byt tx i1).toNat : Int) ≤ 122 := hB
          have b1 : decide ((tx.size : Int) ≤ (i1 : Int)) = false := by simp; omega
          have b2 : decide (((byt tx i1).toNat : Int) < 97) = false := by simp; omega
          have b3 : decide ((122 : Int) < ((byt tx i1).toNat : Int)) = false := by simp; omega
          have w3 : IntKind.i64.wrap ((byt tx i1).toNat : Int) = (byt tx i1).toNat := wrap64 (by omega) (by omega)
          have w4 : IntKind.i64.wrap (((byt tx i1).toNat : Int) - 97) = (byt tx i1).toNat - 97 := wrap64 (by omega) (by omega)
          refine semT' (S := fun _ => true) hm spec_l11Parse_ok (Nat.le_of_ble_eq_true rfl) ?_
          unfold spec_l11Parse; dsimp only
          simp [hlt, h1, hv, w1, show ¬ tx.size ≤ i1 by omega, b2, b3, hj, w2, w3, w4, gN, sN]
          refine ck_intro' (regOk_ren (fun _ => 0) (by kernel_rfl)) ?_; simp [gN, sN, w2]
          refine lift_call rfl (spec_l11Parts_c ⟨9, (byt tx i1).toNat - 97, 0, true⟩) (by simp) (by simp) ?_; simp [gN, gB, sB, lpF]
          refine ck_intro' (by omega) ?_; simp [gN, gB, sB]
          repeat (refine ck_intro' (by first | omega | (simp; omega) | kernel_rfl) ?_; try simp)
          have e9 : nodesL (s ++ [⟨63, bt tx i1 - 97, []⟩]) = nodesL s ++ [⟨9, bt tx i1 - 97, 0, true⟩] := by
            rw [nodesL_snoc]
            simp [nodeL, pkF]
          rw [e9]
          have f := fun T => fin (nodesL s) ⟨9, bt tx i1 - 97, 0, true⟩ i2 T
          simp [encL] at f
          exact f _
        · rw [lt0, if_neg hc] at eq
          subst eq
          refine ⟨fun h => by simp at h, fun _ => ⟨nodesL s, ?_⟩⟩
          refine semT' (S := fun _ => true) hm spec_l11Parse_ok (Nat.le_of_ble_eq_true rfl) ?_
          unfold spec_l11Parse; dsimp only
          by_cases d1 : tx.size ≤ i1
          · have b1 : decide ((tx.size : Int) ≤ (i1 : Int)) = true := by simp; omega
            simp [hlt, h1, hv, w1, d1, gN, sN]
            exact bad _ _
          · have hj : i1 < tx.size := by omega
            have b1 : decide ((tx.size : Int) ≤ (i1 : Int)) = false := by simp; omega
            by_cases d2 : ((byt tx i1).toNat : Int) < 97
            · have b2 : decide (((byt tx i1).toNat : Int) < 97) = true := by simp; omega
              simp [hlt, h1, hv, w1, show ¬ tx.size ≤ i1 by omega, b2, hj, gN, sN]
              exact bad _ _
            · have b2 : decide (((byt tx i1).toNat : Int) < 97) = false := by simp; omega
              have b3 : decide ((122 : Int) < ((byt tx i1).toNat : Int)) = true := by
                simp
                have : ¬ bt tx i1 ≤ 122 := fun h => hc ⟨hj, by simp only [bt]; omega, h⟩
                simp only [bt] at this
                omega
              simp [hlt, h1, hv, w1, show ¬ tx.size ≤ i1 by omega, b2, b3, hj, gN, sN]
              exact bad _ _
    rw [if_neg h2] at eq
    obtain ⟨i1, hi1⟩ : ∃ i1, i + 1 = i1 := ⟨_, rfl⟩
    have w1 : IntKind.i64.wrap ((i : Int) + 1) = (i1 : Int) := by rw [wrap64 (by omega) (by omega)]; omega
    rw [hi1] at eq
    have hK := spec_l4Kind_c tx i hlt
    have hbN : ∀ k : Blk, (H.set b (nblk (nodesL s)) ++ [k])[b]? = some (nblk (nodesL s)) := fun k => gB _ _
    have hcN : ∀ k : Int, Closed1 (H.set b (nblk (nodesL s)) ++ [nrow k 0 0 false]).length (H.set b (nblk (nodesL s)) ++ [nrow k 0 0 false]) = true := fun k => by
      rw [same]; exact Closed1_box hcl (by simp)
    by_cases h3 : isTwoB (bt tx i) = true
    · rw [if_pos h3] at eq
      rcases two_sign h3 with hv | hv | hv
      · rw [hv] at eq hK
        rw [show closeF 40 = 41 from rfl] at eq
        have hT := two_t hs ih (s := s) (i := i1) (H := H.set b (nblk (nodesL s)) ++ [nrow 2 0 0 false]) (b := b) false 41 hG (by omega) (by omega) (by omega) (hbN _) (hcN _)
        dsimp only at hT
        have hgood := (patK tx).two_good' n (s := s) (i := i) (e := 41) ⟨hl, hG⟩ hlt (by rw [htx]; omega)
        simp only [htx] at hgood
        rw [hi1] at hgood
        obtain ⟨Q, eQ⟩ : ∃ Q, (patR tx).two (rdF (patR tx) n) 41 s (opF tx false i1).1 (opF tx false i1).2 = Q := ⟨_, rfl⟩
        have eQ' : (patR tx).two (rdF (patR tx) n) 41 s i1 0 = Q := eQ
        rw [eQ] at hT
        rw [eQ'] at hgood eq
        simp only [sB] at hT
        by_cases hq : Q.2.2.2 = 0
        · obtain ⟨x, y, exy, hTT⟩ := hT.1 hq
          obtain ⟨g1, g2, g3, g4⟩ := hgood hq
          obtain ⟨p1, p2, p3, p4⟩ := g3
          have vx := g4 x (by rw [exy]; simp)
          have vy := g4 y (by rw [exy]; simp)
          obtain ⟨x1, rfl⟩ : ∃ x1 : Nat, x = x1 := ⟨x.toNat, by have := vx.1; omega⟩
          obtain ⟨y1, rfl⟩ : ∃ y1 : Nat, y = y1 := ⟨y.toNat, by have := vy.1; omega⟩
          have hx1 : x1 < (nodesL Q.1).length := by have := vx.2; simp; omega
          have hy1 : y1 < (nodesL Q.1).length := by have := vy.2; simp; omega
          have hx2 : x1 < Q.1.length := by simpa using hx1
          have hy2 : y1 < Q.1.length := by simpa using hy1
          have lx := encLs_q hx1
          have ly := encLs_q hy1
          have eq2 : q = (Q.1 ++ [⟨40, 0, [(x1 : Int), (y1 : Int)]⟩], (Q.1.length : Int), Q.2.2.1, 0) := by
            rw [← eq]
            simp only [Rdr.fin, if_pos hq, exy]
            rfl
          subst eq2
          refine ⟨fun _ => ?_, fun h => absurd rfl h⟩
          have htx2 : Q.2.2.1 ≤ tx.size := g2
          have hQl : Q.1.length ≤ 300 := by omega
          refine semT' (S := fun _ => true) hm spec_l11Parse_ok (Nat.le_of_ble_eq_true rfl) ?_
          unfold spec_l11Parse; dsimp only
          simp [hlt, h1, hv, w1]
          (refine lift_call rfl hK (by simp) (by simp) ?_; simp [gN, sN, kd3, w1])
          refine all_call rfl hTT (by simp) ?_; simp [gN, sN]
          refine lift_call rfl (spec_l11Parts_c ⟨2, x1, y1, false⟩) (by simp) (by simp) ?_
          have e9 : nodesL (Q.1 ++ [⟨40, 0, [(x1 : Int), (y1 : Int)]⟩]) = nodesL Q.1 ++ [⟨2, x1, y1, (nodesL Q.1)[x1].q || (nodesL Q.1)[y1].q⟩] := by
            rw [nodesL_snoc]
            simp [nodeL, pkF, kd3, askAt, hx2, hy2]
          rcases Bool.eq_false_or_eq_true (nodesL Q.1)[x1].q with ax | ax
          · rw [e9, ax, Bool.true_or]
            simp [gN, gB, sN, sB, lpF, partsF, hx2, hy2, lx, ly, ax]
            refine ck_intro' (by omega) ?_; simp [gN, gB, sB]
            repeat (refine ck_intro' (by first | omega | (simp; omega) | kernel_rfl) ?_; try simp)
            have f := fun T => fin (nodesL Q.1) ⟨2, x1, y1, true⟩ Q.2.2.1 T
            simp [encL] at f
            exact f _
          · rw [e9, ax, Bool.false_or]
            simp [gN, gB, sN, sB, lpF, partsF, hx2, hy2, lx, ly, ax]
            refine ck_intro' (by omega) ?_; simp [gN, gB, sB]
            repeat (refine ck_intro' (by first | omega | (simp; omega) | kernel_rfl) ?_; try simp)
            have f := fun T => fin (nodesL Q.1) ⟨2, x1, y1, (nodesL Q.1)[y1].q⟩ Q.2.2.1 T
            simp [encL] at f
            exact f _
        · obtain ⟨L, x, y, z, hTT⟩ := hT.2 hq
          have eq2 : q = (Q.1, -1, Q.2.2.1, Q.2.2.2) := by rw [← eq]; simp only [Rdr.fin, if_neg hq]
          subst eq2
          refine ⟨fun h => absurd h hq, fun _ => ⟨L, ?_⟩⟩
          refine semT' (S := fun _ => true) hm spec_l11Parse_ok (Nat.le_of_ble_eq_true rfl) ?_
          unfold spec_l11Parse; dsimp only
          simp [hlt, h1, hv, w1]
          (refine lift_call rfl hK (by simp) (by simp) ?_; simp [gN, sN, kd3, w1])
          refine all_call rfl hTT (by simp) ?_; simp [gN, sN]
          exact bad _ _
      · rw [hv] at eq hK
        rw [show closeF 123 = 125 from rfl] at eq
        have hT := two_t hs ih (s := s) (i := i1) (H := H.set b (nblk (nodesL s)) ++ [nrow 3 0 0 false]) (b := b) false 125 hG (by omega) (by omega) (by omega) (hbN _) (hcN _)
        dsimp only at hT
        have hgood := (patK tx).two_good' n (s := s) (i := i) (e := 125) ⟨hl, hG⟩ hlt (by rw [htx]; omega)
        simp only [htx] at hgood
        rw [hi1] at hgood
        obtain ⟨Q, eQ⟩ : ∃ Q, (patR tx).two (rdF (patR tx) n) 125 s (opF tx false i1).1 (opF tx false i1).2 = Q := ⟨_, rfl⟩
        have eQ' : (patR tx).two (rdF (patR tx) n) 125 s i1 0 = Q := eQ
        rw [eQ] at hT
        rw [eQ'] at hgood eq
        simp only [sB] at hT
        by_cases hq : Q.2.2.2 = 0
        · obtain ⟨x, y, exy, hTT⟩ := hT.1 hq
          obtain ⟨g1, g2, g3, g4⟩ := hgood hq
          obtain ⟨p1, p2, p3, p4⟩ := g3
          have vx := g4 x (by rw [exy]; simp)
          have vy := g4 y (by rw [exy]; simp)
          obtain ⟨x1, rfl⟩ : ∃ x1 : Nat, x = x1 := ⟨x.toNat, by have := vx.1; omega⟩
          obtain ⟨y1, rfl⟩ : ∃ y1 : Nat, y = y1 := ⟨y.toNat, by have := vy.1; omega⟩
          have hx1 : x1 < (nodesL Q.1).length := by have := vx.2; simp; omega
          have hy1 : y1 < (nodesL Q.1).length := by have := vy.2; simp; omega
          have hx2 : x1 < Q.1.length := by simpa using hx1
          have hy2 : y1 < Q.1.length := by simpa using hy1
          have lx := encLs_q hx1
          have ly := encLs_q hy1
          have eq2 : q = (Q.1 ++ [⟨123, 0, [(x1 : Int), (y1 : Int)]⟩], (Q.1.length : Int), Q.2.2.1, 0) := by
            rw [← eq]
            simp only [Rdr.fin, if_pos hq, exy]
            rfl
          subst eq2
          refine ⟨fun _ => ?_, fun h => absurd rfl h⟩
          have htx2 : Q.2.2.1 ≤ tx.size := g2
          have hQl : Q.1.length ≤ 300 := by omega
          refine semT' (S := fun _ => true) hm spec_l11Parse_ok (Nat.le_of_ble_eq_true rfl) ?_
          unfold spec_l11Parse; dsimp only
          simp [hlt, h1, hv, w1]
          (refine lift_call rfl hK (by simp) (by simp) ?_; simp [gN, sN, kd3, w1])
          refine all_call rfl hTT (by simp) ?_; simp [gN, sN]
          refine lift_call rfl (spec_l11Parts_c ⟨3, x1, y1, false⟩) (by simp) (by simp) ?_
          have e9 : nodesL (Q.1 ++ [⟨123, 0, [(x1 : Int), (y1 : Int)]⟩]) = nodesL Q.1 ++ [⟨3, x1, y1, (nodesL Q.1)[x1].q || (nodesL Q.1)[y1].q⟩] := by
            rw [nodesL_snoc]
            simp [nodeL, pkF, kd3, askAt, hx2, hy2]
          rcases Bool.eq_false_or_eq_true (nodesL Q.1)[x1].q with ax | ax
          · rw [e9, ax, Bool.true_or]
            simp [gN, gB, sN, sB, lpF, partsF, hx2, hy2, lx, ly, ax]
            refine ck_intro' (by omega) ?_; simp [gN, gB, sB]
            repeat (refine ck_intro' (by first | omega | (simp; omega) | kernel_rfl) ?_; try simp)
            have f := fun T => fin (nodesL Q.1) ⟨3, x1, y1, true⟩ Q.2.2.1 T
            simp [encL] at f
            exact f _
          · rw [e9, ax, Bool.false_or]
            simp [gN, gB, sN, sB, lpF, partsF, hx2, hy2, lx, ly, ax]
            refine ck_intro' (by omega) ?_; simp [gN, gB, sB]
            repeat (refine ck_intro' (by first | omega | (simp; omega) | kernel_rfl) ?_; try simp)
            have f := fun T => fin (nodesL Q.1) ⟨3, x1, y1, (nodesL Q.1)[y1].q⟩ Q.2.2.1 T
            simp [encL] at f
            exact f _
        · obtain ⟨L, x, y, z, hTT⟩ := hT.2 hq
          have eq2 : q = (Q.1, -1, Q.2.2.1, Q.2.2.2) := by rw [← eq]; simp only [Rdr.fin, if_neg hq]
          subst eq2
          refine ⟨fun h => absurd h hq, fun _ => ⟨L, ?_⟩⟩
          refine semT' (S := fun _ => true) hm spec_l11Parse_ok (Nat.le_of_ble_eq_true rfl) ?_
          unfold spec_l11Parse; dsimp only
          simp [hlt, h1, hv, w1]
          (refine lift_call rfl hK (by simp) (by simp) ?_; simp [gN, sN, kd3, w1])
          refine all_call rfl hTT (by simp) ?_; simp [gN, sN]
          exact bad _ _
      · rw [hv] at eq hK
        rw [show closeF 91 = 93 from rfl] at eq
        have hT := two_t hs ih (s := s) (i := i1) (H := H.set b (nblk (nodesL s)) ++ [nrow 4 0 0 false]) (b := b) false 93 hG (by omega) (by omega) (by omega) (hbN _) (hcN _)
        dsimp only at hT
        have hgood := (patK tx).two_good' n (s := s) (i := i) (e := 93) ⟨hl, hG⟩ hlt (by rw [htx]; omega)
        simp only [htx] at hgood
        rw [hi1] at hgood
        obtain ⟨Q, eQ⟩ : ∃ Q, (patR tx).two (rdF (patR tx) n) 93 s (opF tx false i1).1 (opF tx false i1).2 = Q := ⟨_, rfl⟩
        have eQ' : (patR tx).two (rdF (patR tx) n) 93 s i1 0 = Q := eQ
        rw [eQ] at hT
        rw [eQ'] at hgood eq
        simp only [sB] at hT
        by_cases hq : Q.2.2.2 = 0
        · obtain ⟨x, y, exy, hTT⟩ := hT.1 hq
          obtain ⟨g1, g2, g3, g4⟩ := hgood hq
          obtain ⟨p1, p2, p3, p4⟩ := g3
          have vx := g4 x (by rw [exy]; simp)
          have vy := g4 y (by rw [exy]; simp)
          obtain ⟨x1, rfl⟩ : ∃ x1 : Nat, x = x1 := ⟨x.toNat, by have := vx.1; omega⟩
          obtain ⟨y1, rfl⟩ : ∃ y1 : Nat, y = y1 := ⟨y.toNat, by have := vy.1; omega⟩
          have hx1 : x1 < (nodesL Q.1).length := by have := vx.2; simp; omega
          have hy1 : y1 < (nodesL Q.1).length := by have := vy.2; simp; omega
          have hx2 : x1 < Q.1.length := by simpa using hx1
          have hy2 : y1 < Q.1.length := by simpa using hy1
          have lx := encLs_q hx1
          have ly := encLs_q hy1
          have eq2 : q = (Q.1 ++ [⟨91, 0, [(x1 : Int), (y1 : Int)]⟩], (Q.1.length : Int), Q.2.2.1, 0) := by
            rw [← eq]
            simp only [Rdr.fin, if_pos hq, exy]
            rfl
          subst eq2
          refine ⟨fun _ => ?_, fun h => absurd rfl h⟩
          have htx2 : Q.2.2.1 ≤ tx.size := g2
          have hQl : Q.1.length ≤ 300 := by omega
          refine semT' (S := fun _ => true) hm spec_l11Parse_ok (Nat.le_of_ble_eq_true rfl) ?_
          unfold spec_l11Parse; dsimp only
          simp [hlt, h1, hv, w1]
          (refine lift_call rfl hK (by simp) (by simp) ?_; simp [gN, sN, kd3, w1])
          refine all_call rfl hTT (by simp) ?_; simp [gN, sN]
          refine lift_call rfl (spec_l11Parts_c ⟨4, x1, y1, false⟩) (by simp) (by simp) ?_
          have e9 : nodesL (Q.1 ++ [⟨91, 0, [(x1 : Int), (y1 : Int)]⟩]) = nodesL Q.1 ++ [⟨4, x1, y1, (nodesL Q.1)[x1].q || (nodesL Q.1)[y1].q⟩] := by
            rw [nodesL_snoc]
            simp [nodeL, pkF, kd3, askAt, hx2, hy2]
          rcases Bool.eq_false_or_eq_true (nodesL Q.1)[x1].q with ax | ax
          · rw [e9, ax, Bool.true_or]
            simp [gN, gB, sN, sB, lpF, partsF, hx2, hy2, lx, ly, ax]
            refine ck_intro' (by omega) ?_; simp [gN, gB, sB]
            repeat (refine ck_intro' (by first | omega | (simp; omega) | kernel_rfl) ?_; try simp)
            have f := fun T => fin (nodesL Q.1) ⟨4, x1, y1, true⟩ Q.2.2.1 T
            simp [encL] at f
            exact f _
          · rw [e9, ax, Bool.false_or]
            simp [gN, gB, sN, sB, lpF, partsF, hx2, hy2, lx, ly, ax]
            refine ck_intro' (by omega) ?_; simp [gN, gB, sB]
            repeat (refine ck_intro' (by first | omega | (simp; omega) | kernel_rfl) ?_; try simp)
            have f := fun T => fin (nodesL Q.1) ⟨4, x1, y1, (nodesL Q.1)[y1].q⟩ Q.2.2.1 T
            simp [encL] at f
            exact f _
        · obtain ⟨L, x, y, z, hTT⟩ := hT.2 hq
          have eq2 : q = (Q.1, -1, Q.2.2.1, Q.2.2.2) := by rw [← eq]; simp only [Rdr.fin, if_neg hq]
          subst eq2
          refine ⟨fun h => absurd h hq, fun _ => ⟨L, ?_⟩⟩
          refine semT' (S := fun _ => true) hm spec_l11Parse_ok (Nat.le_of_ble_eq_true rfl) ?_
          unfold spec_l11Parse; dsimp only
          simp [hlt, h1, hv, w1]
          (refine lift_call rfl hK (by simp) (by simp) ?_; simp [gN, sN, kd3, w1])
          refine all_call rfl hTT (by simp) ?_; simp [gN, sN]
          exact bad _ _
    rw [if_neg h3] at eq
    by_cases h4 : (patR tx).isOne (bt tx i) = true
    · rw [if_pos h4] at eq
      rcases one_sign h4 with hv | hv
      · rw [hv] at eq hK
        have hT := ih s i1 (H.set b (nblk (nodesL s)) ++ [nrow 5 0 0 false]) b hG (by omega) (by omega) (by omega) (hbN _) (hcN _)
        have hgood := (patK tx).rd_good n (s := s) (i := i1) (c := 0) ⟨by omega, hG⟩ (by rw [htx]; omega) (by rw [htx]; omega)
        obtain ⟨d, ed⟩ : ∃ d, rdF (patR tx) n s i1 0 = d := ⟨_, rfl⟩
        simp only [oneF, ed] at eq
        rw [ed] at hT hgood
        simp only [sB] at hT
        by_cases hq : d.2.2.2 = 0
        · have hTT := hT.1 hq
          obtain ⟨g1, g2, g3, g4⟩ := hgood hq
          obtain ⟨p1, p2, p3, p4⟩ := g3
          obtain ⟨x1, hx⟩ : ∃ x1 : Nat, d.2.1 = x1 := ⟨d.2.1.toNat, by have := g4.1; omega⟩
          have hx2 : x1 < d.1.length := by have := g4.2; rw [hx] at this; omega
          have hx1 : x1 < (nodesL d.1).length := by simpa using hx2
          have lx := encLs_q hx1
          rw [hx] at hTT eq
          have eq2 : q = (d.1 ++ [⟨35, 0, [(x1 : Int)]⟩], (d.1.length : Int), d.2.2.1, 0) := by
            rw [← eq]
            simp only [Rdr.fin, if_pos hq]
            rfl
          subst eq2
          refine ⟨fun _ => ?_, fun h => absurd rfl h⟩
          have htx2 : d.2.2.1 ≤ tx.size := g2
          have hQl : d.1.length ≤ 300 := by omega
          have e9 : nodesL (d.1 ++ [⟨35, 0, [(x1 : Int)]⟩]) = nodesL d.1 ++ [⟨5, x1, 0, (nodesL d.1)[x1].q⟩] := by
            rw [nodesL_snoc]
            simp [nodeL, pkF, kd3, askAt, hx2]
          refine semT' (S := fun _ => true) hm spec_l11Parse_ok (Nat.le_of_ble_eq_true rfl) ?_
          unfold spec_l11Parse; dsimp only
          simp [hlt, h1, hv, w1]
          refine lift_call rfl hK (by simp) (by simp) ?_; simp [gN, sN, kd3, w1]
          refine all_call rfl hTT (by simp) ?_; simp [gN, sN]
          refine lift_call rfl (spec_l11Parts_c ⟨5, x1, 0, false⟩) (by simp) (by simp) ?_
          rw [e9]
          simp [gN, gB, sN, sB, lpF, partsF, hx2, lx]
          refine ck_intro' (by omega) ?_; simp [gN, gB, sB]
          repeat (refine ck_intro' (by first | omega | (simp; omega) | kernel_rfl) ?_; try simp)
          have f := fun T => fin (nodesL d.1) ⟨5, x1, 0, (nodesL d.1)[x1].q⟩ d.2.2.1 T
          simp [encL] at f
          exact f _
        · obtain ⟨L, hTT⟩ := hT.2 hq
          have eq2 : q = (d.1, -1, d.2.2.1, d.2.2.2) := by rw [← eq]; simp only [Rdr.fin, if_neg hq]
          subst eq2
          refine ⟨fun h => absurd h hq, fun _ => ⟨L, ?_⟩⟩
          refine semT' (S := fun _ => true) hm spec_l11Parse_ok (Nat.le_of_ble_eq_true rfl) ?_
          unfold spec_l11Parse; dsimp only
          simp [hlt, h1, hv, w1]
          refine lift_call rfl hK (by simp) (by simp) ?_; simp [gN, sN, kd3, w1]
          refine all_call rfl hTT (by simp) ?_; simp [gN, sN]
          exact bad _ _
      · rw [hv] at eq hK
        have hT := ih s i1 (H.set b (nblk (nodesL s)) ++ [nrow 7 0 0 false]) b hG (by omega) (by omega) (by omega) (hbN _) (hcN _)
        have hgood := (patK tx).rd_good n (s := s) (i := i1) (c := 0) ⟨by omega, hG⟩ (by rw [htx]; omega) (by rw [htx]; omega)
        obtain ⟨d, ed⟩ : ∃ d, rdF (patR tx) n s i1 0 = d := ⟨_, rfl⟩
        simp only [oneF, ed] at eq
        rw [ed] at hT hgood
        simp only [sB] at hT
        by_cases hq : d.2.2.2 = 0
        · have hTT := hT.1 hq
          obtain ⟨g1, g2, g3, g4⟩ := hgood hq
          obtain ⟨p1, p2, p3, p4⟩ := g3
          obtain ⟨x1, hx⟩ : ∃ x1 : Nat, d.2.1 = x1 := ⟨d.2.1.toNat, by have := g4.1; omega⟩
          have hx2 : x1 < d.1.length := by have := g4.2; rw [hx] at this; omega
          have hx1 : x1 < (nodesL d.1).length := by simpa using hx2
          have lx := encLs_q hx1
          rw [hx] at hTT eq
          have eq2 : q = (d.1 ++ [⟨94, 0, [(x1 : Int)]⟩], (d.1.length : Int), d.2.2.1, 0) := by
            rw [← eq]
            simp only [Rdr.fin, if_pos hq]
            rfl
          subst eq2
          refine ⟨fun _ => ?_, fun h => absurd rfl h⟩
          have htx2 : d.2.2.1 ≤ tx.size := g2
          have hQl : d.1.length ≤ 300 := by omega
          have e9 : nodesL (d.1 ++ [⟨94, 0, [(x1 : Int)]⟩]) = nodesL d.1 ++ [⟨7, x1, 0, (nodesL d.1)[x1].q⟩] := by
            rw [nodesL_snoc]
            simp [nodeL, pkF, kd3, askAt, hx2]
          refine semT' (S := fun _ => true) hm spec_l11Parse_ok (Nat.le_of_ble_eq_true rfl) ?_
          unfold spec_l11Parse; dsimp only
          simp [hlt, h1, hv, w1]
          refine lift_call rfl hK (by simp) (by simp) ?_; simp [gN, sN, kd3, w1]
          refine all_call rfl hTT (by simp) ?_; simp [gN, sN]
          refine lift_call rfl (spec_l11Parts_c ⟨7, x1, 0, false⟩) (by simp) (by simp) ?_
          rw [e9]
          simp [gN, gB, sN, sB, lpF, partsF, hx2, lx]
          refine ck_intro' (by omega) ?_; simp [gN, gB, sB]
          repeat (refine ck_intro' (by first | omega | (simp; omega) | kernel_rfl) ?_; try simp)
          have f := fun T => fin (nodesL d.1) ⟨7, x1, 0, (nodesL d.1)[x1].q⟩ d.2.2.1 T
          simp [encL] at f
          exact f _
        · obtain ⟨L, hTT⟩ := hT.2 hq
          have eq2 : q = (d.1, -1, d.2.2.1, d.2.2.2) := by rw [← eq]; simp only [Rdr.fin, if_neg hq]
          subst eq2
          refine ⟨fun h => absurd h hq, fun _ => ⟨L, ?_⟩⟩
          refine semT' (S := fun _ => true) hm spec_l11Parse_ok (Nat.le_of_ble_eq_true rfl) ?_
          unfold spec_l11Parse; dsimp only
          simp [hlt, h1, hv, w1]
          refine lift_call rfl hK (by simp) (by simp) ?_; simp [gN, sN, kd3, w1]
          refine all_call rfl hTT (by simp) ?_; simp [gN, sN]
          exact bad _ _
    rw [if_neg h4] at eq
    by_cases h5 : (patR tx).isArg (bt tx i) = true
    · rw [if_pos h5] at eq
      rcases arg_sign h5 with hv | hv | hv
      · rw [hv] at eq hK
        have hT := two_t hs ih (s := s) (i := i1) (H := H.set b (nblk (nodesL s)) ++ [nrow 6 0 0 false]) (b := b) true 41 hG (by omega) (by omega) (by omega) (hbN _) (hcN _)
        dsimp only at hT
        have hgood := (patK tx).arg_good n (s := s) (i := i) ⟨hl, hG⟩ hlt (by rw [htx]; omega)
        simp only [htx] at hgood
        rw [hi1] at hgood
        obtain ⟨Q, eQ⟩ : ∃ Q, (patR tx).two (rdF (patR tx) n) 41 s (opF tx true i1).1 (opF tx true i1).2 = Q := ⟨_, rfl⟩
        have eQ' : (patR tx).two (rdF (patR tx) n) 41 s (takeF tx i1 0 40).1 (takeF tx i1 0 40).2 = Q := eQ
        rw [eQ] at hT
        rw [eQ'] at hgood eq
        simp only [sB] at hT
        by_cases hq : Q.2.2.2 = 0
        · obtain ⟨x, y, exy, hTT⟩ := hT.1 hq
          obtain ⟨g1, g2, g3, g4⟩ := hgood hq
          obtain ⟨p1, p2, p3, p4⟩ := g3
          have vx := g4 x (by rw [exy]; simp)
          have vy := g4 y (by rw [exy]; simp)
          obtain ⟨x1, rfl⟩ : ∃ x1 : Nat, x = x1 := ⟨x.toNat, by have := vx.1; omega⟩
          obtain ⟨y1, rfl⟩ : ∃ y1 : Nat, y = y1 := ⟨y.toNat, by have := vy.1; omega⟩
          have hx1 : x1 < (nodesL Q.1).length := by have := vx.2; simp; omega
          have hy1 : y1 < (nodesL Q.1).length := by have := vy.2; simp; omega
          have hx2 : x1 < Q.1.length := by simpa using hx1
          have hy2 : y1 < Q.1.length := by simpa using hy1
          have lx := encLs_q hx1
          have ly := encLs_q hy1
          have eq2 : q = (Q.1 ++ [⟨107, 0, [(x1 : Int), (y1 : Int)]⟩], (Q.1.length : Int), Q.2.2.1, 0) := by
            rw [← eq]
            simp only [Rdr.fin, if_pos hq, exy]
            rfl
          subst eq2
          refine ⟨fun _ => ?_, fun h => absurd rfl h⟩
          have htx2 : Q.2.2.1 ≤ tx.size := g2
          have hQl : Q.1.length ≤ 300 := by omega
          refine semT' (S := fun _ => true) hm spec_l11Parse_ok (Nat.le_of_ble_eq_true rfl) ?_
          unfold spec_l11Parse; dsimp only
          simp [hlt, h1, hv, w1]
          (refine lift_call rfl hK (by simp) (by simp) ?_; simp [gN, sN, kd3, w1])
          refine all_call rfl hTT (by simp) ?_; simp [gN, sN]
          refine lift_call rfl (spec_l11Parts_c ⟨6, x1, y1, false⟩) (by simp) (by simp) ?_
          have e9 : nodesL (Q.1 ++ [⟨107, 0, [(x1 : Int), (y1 : Int)]⟩]) = nodesL Q.1 ++ [⟨6, x1, y1, (nodesL Q.1)[x1].q || (nodesL Q.1)[y1].q⟩] := by
            rw [nodesL_snoc]
            simp [nodeL, pkF, kd3, askAt, hx2, hy2]
          rcases Bool.eq_false_or_eq_true (nodesL Q.1)[x1].q with ax | ax
          · rw [e9, ax, Bool.true_or]
            simp [gN, gB, sN, sB, lpF, partsF, hx2, hy2, lx, ly, ax]
            refine ck_intro' (by omega) ?_; simp [gN, gB, sB]
            repeat (refine ck_intro' (by first | omega | (simp; omega) | kernel_rfl) ?_; try simp)
            have f := fun T => fin (nodesL Q.1) ⟨6, x1, y1, true⟩ Q.2.2.1 T
            simp [encL] at f
            exact f _
          · rw [e9, ax, Bool.false_or]
            simp [gN, gB, sN, sB, lpF, partsF, hx2, hy2, lx, ly, ax]
            refine ck_intro' (by omega) ?_; simp [gN, gB, sB]
            repeat (refine ck_intro' (by first | omega | (simp; omega) | kernel_rfl) ?_; try simp)
            have f := fun T => fin (nodesL Q.1) ⟨6, x1, y1, (nodesL Q.1)[y1].q⟩ Q.2.2.1 T
            simp [encL] at f
            exact f _
        · obtain ⟨L, x, y, z, hTT⟩ := hT.2 hq
          have eq2 : q = (Q.1, -1, Q.2.2.1, Q.2.2.2) := by rw [← eq]; simp only [Rdr.fin, if_neg hq]
          subst eq2
          refine ⟨fun h => absurd h hq, fun _ => ⟨L, ?_⟩⟩
          refine semT' (S := fun _ => true) hm spec_l11Parse_ok (Nat.le_of_ble_eq_true rfl) ?_
          unfold spec_l11Parse; dsimp only
          simp [hlt, h1, hv, w1]
          (refine lift_call rfl hK (by simp) (by simp) ?_; simp [gN, sN, kd3, w1])
          refine all_call rfl hTT (by simp) ?_; simp [gN, sN]
          exact bad _ _
      · rw [hv] at eq hK
        have hT := two_t hs ih (s := s) (i := i1) (H := H.set b (nblk (nodesL s)) ++ [nrow 8 0 0 false]) (b := b) true 41 hG (by omega) (by omega) (by omega) (hbN _) (hcN _)
        dsimp only at hT
        have hgood := (patK tx).arg_good n (s := s) (i := i) ⟨hl, hG⟩ hlt (by rw [htx]; omega)
        simp only [htx] at hgood
        rw [hi1] at hgood
        obtain ⟨Q, eQ⟩ : ∃ Q, (patR tx).two (rdF (patR tx) n) 41 s (opF tx true i1).1 (opF tx true i1).2 = Q := ⟨_, rfl⟩
        have eQ' : (patR tx).two (rdF (patR tx) n) 41 s (takeF tx i1 0 40).1 (takeF tx i1 0 40).2 = Q := eQ
        rw [eQ] at hT
        rw [eQ'] at hgood eq
        simp only [sB] at hT
        by_cases hq : Q.2.2.2 = 0
        · obtain ⟨x, y, exy, hTT⟩ := hT.1 hq
          obtain ⟨g1, g2, g3, g4⟩ := hgood hq
          obtain ⟨p1, p2, p3, p4⟩ := g3
          have vx := g4 x (by rw [exy]; simp)
          have vy := g4 y (by rw [exy]; simp)
          obtain ⟨x1, rfl⟩ : ∃ x1 : Nat, x = x1 := ⟨x.toNat, by have := vx.1; omega⟩
          obtain ⟨y1, rfl⟩ : ∃ y1 : Nat, y = y1 := ⟨y.toNat, by have := vy.1; omega⟩
          have hx1 : x1 < (nodesL Q.1).length := by have := vx.2; simp; omega
          have hy1 : y1 < (nodesL Q.1).length := by have := vy.2; simp; omega
          have hx2 : x1 < Q.1.length := by simpa using hx1
          have hy2 : y1 < Q.1.length := by simpa using hy1
          have lx := encLs_q hx1
          have ly := encLs_q hy1
          have eq2 : q = (Q.1 ++ [⟨42, 0, [(x1 : Int), (y1 : Int)]⟩], (Q.1.length : Int), Q.2.2.1, 0) := by
            rw [← eq]
            simp only [Rdr.fin, if_pos hq, exy]
            rfl
          subst eq2
          refine ⟨fun _ => ?_, fun h => absurd rfl h⟩
          have htx2 : Q.2.2.1 ≤ tx.size := g2
          have hQl : Q.1.length ≤ 300 := by omega
          refine semT' (S := fun _ => true) hm spec_l11Parse_ok (Nat.le_of_ble_eq_true rfl) ?_
          unfold spec_l11Parse; dsimp only
          simp [hlt, h1, hv, w1]
          (refine lift_call rfl hK (by simp) (by simp) ?_; simp [gN, sN, kd3, w1])
          refine all_call rfl hTT (by simp) ?_; simp [gN, sN]
          refine lift_call rfl (spec_l11Parts_c ⟨8, x1, y1, false⟩) (by simp) (by simp) ?_
          have e9 : nodesL (Q.1 ++ [⟨42, 0, [(x1 : Int), (y1 : Int)]⟩]) = nodesL Q.1 ++ [⟨8, x1, y1, (nodesL Q.1)[x1].q || (nodesL Q.1)[y1].q⟩] := by
            rw [nodesL_snoc]
            simp [nodeL, pkF, kd3, askAt, hx2, hy2]
          rcases Bool.eq_false_or_eq_true (nodesL Q.1)[x1].q with ax | ax
          · rw [e9, ax, Bool.true_or]
            simp [gN, gB, sN, sB, lpF, partsF, hx2, hy2, lx, ly, ax]
            refine ck_intro' (by omega) ?_; simp [gN, gB, sB]
            repeat (refine ck_intro' (by first | omega | (simp; omega) | kernel_rfl) ?_; try simp)
            have f := fun T => fin (nodesL Q.1) ⟨8, x1, y1, true⟩ Q.2.2.1 T
            simp [encL] at f
            exact f _
          · rw [e9, ax, Bool.false_or]
            simp [gN, gB, sN, sB, lpF, partsF, hx2, hy2, lx, ly, ax]
            refine ck_intro' (by omega) ?_; simp [gN, gB, sB]
            repeat (refine ck_intro' (by first | omega | (simp; omega) | kernel_rfl) ?_; try simp)
            have f := fun T => fin (nodesL Q.1) ⟨8, x1, y1, (nodesL Q.1)[y1].q⟩ Q.2.2.1 T
            simp [encL] at f
            exact f _
        · obtain ⟨L, x, y, z, hTT⟩ := hT.2 hq
          have eq2 : q = (Q.1, -1, Q.2.2.1, Q.2.2.2) := by rw [← eq]; simp only [Rdr.fin, if_neg hq]
          subst eq2
          refine ⟨fun h => absurd h hq, fun _ => ⟨L, ?_⟩⟩
          refine semT' (S := fun _ => true) hm spec_l11Parse_ok (Nat.le_of_ble_eq_true rfl) ?_
          unfold spec_l11Parse; dsimp only
          simp [hlt, h1, hv, w1]
          (refine lift_call rfl hK (by simp) (by simp) ?_; simp [gN, sN, kd3, w1])
          refine all_call rfl hTT (by simp) ?_; simp [gN, sN]
          exact bad _ _
      · rw [hv] at eq hK
        have hT := two_t hs ih (s := s) (i := i1) (H := H.set b (nblk (nodesL s)) ++ [nrow 10 0 0 false]) (b := b) true 41 hG (by omega) (by omega) (by omega) (hbN _) (hcN _)
        dsimp only at hT
        have hgood := (patK tx).arg_good n (s := s) (i := i) ⟨hl, hG⟩ hlt (by rw [htx]; omega)
        simp only [htx] at hgood
        rw [hi1] at hgood
        obtain ⟨Q, eQ⟩ : ∃ Q, (patR tx).two (rdF (patR tx) n) 41 s (opF tx true i1).1 (opF tx true i1).2 = Q := ⟨_, rfl⟩
        have eQ' : (patR tx).two (rdF (patR tx) n) 41 s (takeF tx i1 0 40).1 (takeF tx i1 0 40).2 = Q := eQ
        rw [eQ] at hT
        rw [eQ'] at hgood eq
        simp only [sB] at hT
        by_cases hq : Q.2.2.2 = 0
        · obtain ⟨x, y, exy, hTT⟩ := hT.1 hq
          obtain ⟨g1, g2, g3, g4⟩ := hgood hq
          obtain ⟨p1, p2, p3, p4⟩ := g3
          have vx := g4 x (by rw [exy]; simp)
          have vy := g4 y (by rw [exy]; simp)
          obtain ⟨x1, rfl⟩ : ∃ x1 : Nat, x = x1 := ⟨x.toNat, by have := vx.1; omega⟩
          obtain ⟨y1, rfl⟩ : ∃ y1 : Nat, y = y1 := ⟨y.toNat, by have := vy.1; omega⟩
          have hx1 : x1 < (nodesL Q.1).length := by have := vx.2; simp; omega
          have hy1 : y1 < (nodesL Q.1).length := by have := vy.2; simp; omega
          have hx2 : x1 < Q.1.length := by simpa using hx1
          have hy2 : y1 < Q.1.length := by simpa using hy1
          have lx := encLs_q hx1
          have ly := encLs_q hy1
          have eq2 : q = (Q.1 ++ [⟨120, 0, [(x1 : Int), (y1 : Int)]⟩], (Q.1.length : Int), Q.2.2.1, 0) := by
            rw [← eq]
            simp only [Rdr.fin, if_pos hq, exy]
            rfl
          subst eq2
          refine ⟨fun _ => ?_, fun h => absurd rfl h⟩
          have htx2 : Q.2.2.1 ≤ tx.size := g2
          have hQl : Q.1.length ≤ 300 := by omega
          refine semT' (S := fun _ => true) hm spec_l11Parse_ok (Nat.le_of_ble_eq_true rfl) ?_
          unfold spec_l11Parse; dsimp only
          simp [hlt, h1, hv, w1]
          skip
          refine all_call rfl hTT (by simp) ?_; simp [gN, sN]
          refine lift_call rfl (spec_l11Parts_c ⟨10, x1, y1, false⟩) (by simp) (by simp) ?_
          have e9 : nodesL (Q.1 ++ [⟨120, 0, [(x1 : Int), (y1 : Int)]⟩]) = nodesL Q.1 ++ [⟨10, x1, y1, (nodesL Q.1)[x1].q || (nodesL Q.1)[y1].q⟩] := by
            rw [nodesL_snoc]
            simp [nodeL, pkF, kd3, askAt, hx2, hy2]
          rcases Bool.eq_false_or_eq_true (nodesL Q.1)[x1].q with ax | ax
          · rw [e9, ax, Bool.true_or]
            simp [gN, gB, sN, sB, lpF, partsF, hx2, hy2, lx, ly, ax]
            refine ck_intro' (by omega) ?_; simp [gN, gB, sB]
            repeat (refine ck_intro' (by first | omega | (simp; omega) | kernel_rfl) ?_; try simp)
            have f := fun T => fin (nodesL Q.1) ⟨10, x1, y1, true⟩ Q.2.2.1 T
            simp [encL] at f
            exact f _
          · rw [e9, ax, Bool.false_or]
            simp [gN, gB, sN, sB, lpF, partsF, hx2, hy2, lx, ly, ax]
            refine ck_intro' (by omega) ?_; simp [gN, gB, sB]
            repeat (refine ck_intro' (by first | omega | (simp; omega) | kernel_rfl) ?_; try simp)
            have f := fun T => fin (nodesL Q.1) ⟨10, x1, y1, (nodesL Q.1)[y1].q⟩ Q.2.2.1 T
            simp [encL] at f
            exact f _
        · obtain ⟨L, x, y, z, hTT⟩ := hT.2 hq
          have eq2 : q = (Q.1, -1, Q.2.2.1, Q.2.2.2) := by rw [← eq]; simp only [Rdr.fin, if_neg hq]
          subst eq2
          refine ⟨fun h => absurd h hq, fun _ => ⟨L, ?_⟩⟩
          refine semT' (S := fun _ => true) hm spec_l11Parse_ok (Nat.le_of_ble_eq_true rfl) ?_
          unfold spec_l11Parse; dsimp only
          simp [hlt, h1, hv, w1]
          skip
          refine all_call rfl hTT (by simp) ?_; simp [gN, sN]
          exact bad _ _
    rw [if_neg h5] at eq
    subst eq
    obtain ⟨n1, n2, n3, n4, n5⟩ := no_sign h2 h3 h4 h5
    rw [n5] at hK
    refine ⟨fun h => by simp at h, fun _ => ⟨nodesL s, ?_⟩⟩
    refine semT' (S := fun _ => true) hm spec_l11Parse_ok (Nat.le_of_ble_eq_true rfl) ?_
    unfold spec_l11Parse; dsimp only
    simp [hlt, h1, n1, n2, n3, n4]
    refine lift_call rfl hK (by simp) (by simp) ?_; simp [gN, sN]
    exact bad _ _
end Go.Proofs.YtpohfpnlepmebaaGreatDoor.C

set_option linter.unusedVariables false
set_option linter.unusedSimpArgs false
set_option maxRecDepth 4000
namespace Go.Proofs.YtpohfpnlepmebaaGreatDoor.C
open Go.Sym Go.Proofs.YtpohfpnlepmebaaGreatDoor.I
theorem read_t {tx : ByteArray} (hs : tx.size ≤ 281474976710656) :
    ((patF tx).2 = true → T 17 [.str tx] [] (.tup [nref 0 (nodesL (patF tx).1), .bool true]) [nblk (nodesL (patF tx).1)]) ∧
    ((patF tx).2 = false → ∃ L : List Ln, T 17 [.str tx] [] (.tup [nref 0 L, .bool false]) [nblk L]) := by
  by_cases h2 : 200 < tx.size
  · rw [show patF tx = ([], false) from if_pos h2]
    refine ⟨fun h => by simp at h, fun _ => ⟨[], ?_⟩⟩
    refine semT' (S := fun _ => true) hm spec_l11Read_ok (Nat.le_of_ble_eq_true rfl) ?_
    unfold spec_l11Read; dsimp only
    have b1 : decide ((200 : Int) < tx.size) = true := by simp; omega
    simp [b1]
    exact LeV.tell [none] (by simp) (by simp) (by simp)
  have hs2 : tx.size ≤ 200 := by omega
  have htx : (patR tx).text = tx := rfl
  have b1 : decide ((200 : Int) < tx.size) = false := by simp; omega
  have hP := parse_t hs2 (tx.size + 1) [] 0 [nblk []] 0 (fun j h => by cases h) (by simp) (by omega) (by omega) rfl (by simp)
  have hgd := (patK tx).rd_good (tx.size + 1) (s := []) (i := 0) (c := 0) ⟨by simp, fun j h => by cases h⟩ (by omega) (by rw [htx]; omega)
  have e0 : patF tx = ((allRF (patR tx) 200 []).1, decide ((allRF (patR tx) 200 []).2.2.2 = 0)) := if_neg h2
  have e1 : allRF (patR tx) 200 [] = if (rdF (patR tx) (tx.size + 1) [] 0 0).2.2.2 = 0 ∧ (rdF (patR tx) (tx.size + 1) [] 0 0).2.2.1 < tx.size then ((rdF (patR tx) (tx.size + 1) [] 0 0).1, -1, (rdF (patR tx) (tx.size + 1) [] 0 0).2.2.1, 6) else rdF (patR tx) (tx.size + 1) [] 0 0 := by
    unfold allRF
    rw [htx, if_neg (by omega)]
  rw [e0, e1]
  obtain ⟨q, eq⟩ : ∃ q, rdF (patR tx) (tx.size + 1) [] 0 0 = q := ⟨_, rfl⟩
  rw [eq] at hP hgd ⊢
  have en : nodesL [] = [] := rfl
  by_cases hq : q.2.2.2 = 0
  · obtain ⟨g1, g2, _⟩ := hgd hq
    rw [htx] at g2
    have hT := SemT.virtA (xs := [.str tx, i6 0, .nil]) (H := []) (esz := 4) (by simp [NilR]) (hP.1 hq)
    by_cases hp : q.2.2.1 < tx.size
    · rw [if_pos ⟨hq, hp⟩]
      refine ⟨fun h => by simp at h, fun _ => ⟨nodesL q.1, ?_⟩⟩
      refine semT' (S := fun _ => true) hm spec_l11Read_ok (Nat.le_of_ble_eq_true rfl) ?_
      unfold spec_l11Read; dsimp only
      simp [b1]
      refine all_call rfl hT (by simp) ?_; simp
      exact LeV.eq (by have : ¬ (q.2.2.1 : Int) = tx.size := by omega
                       simp only [this, decide_false]) rfl
    · rw [if_neg (fun h => hp h.2)]
      refine ⟨fun _ => ?_, fun h => by simp [hq] at h⟩
      refine semT' (S := fun _ => true) hm spec_l11Read_ok (Nat.le_of_ble_eq_true rfl) ?_
      unfold spec_l11Read; dsimp only
      simp [b1]
      refine all_call rfl hT (by simp) ?_; simp [show q.2.2.1 = tx.size by omega]
      exact LeV.refl _ _ _
  · obtain ⟨L, hL⟩ := hP.2 hq
    have hT := SemT.virtA (xs := [.str tx, i6 0, .nil]) (H := []) (esz := 4) (by simp [NilR]) hL
    rw [if_neg (fun h => hq h.1)]
    refine ⟨fun h => absurd (by simpa using h) hq, fun _ => ⟨L, ?_⟩⟩
    refine semT' (S := fun _ => true) hm spec_l11Read_ok (Nat.le_of_ble_eq_true rfl) ?_
    unfold spec_l11Read; dsimp only
    simp [b1]
    refine all_call rfl hT (by simp) ?_; simp
    exact LeV.refl _ _ _
end Go.Proofs.YtpohfpnlepmebaaGreatDoor.C

set_option linter.unusedVariables false
set_option linter.unusedSimpArgs false
set_option maxRecDepth 4000
namespace Go.Proofs.YtpohfpnlepmebaaGreatDoor.C
open Go.Sym Go.Proofs.YtpohfpnlepmebaaGreatDoor.I
/-- A list that is told piece by piece, each by those ahead of it. -/
def accL {α β : Type} (f : List β → α → β) (s : List α) : List β := s.foldl (fun L p => L ++ [f L p]) []
section
variable {α β : Type} (f : List β → α → β)
theorem accL_snoc (s : List α) (p : α) : accL f (s ++ [p]) = accL f s ++ [f (accL f s) p] := by simp [accL, List.foldl_append]
theorem accL_go : ∀ (s : List α) (L : List β), (s.foldl (fun L p => L ++ [f L p]) L).length = L.length + s.length
  | [], L => rfl
  | p :: s, L => by simp only [List.foldl_cons]; rw [accL_go s]; simp; omega
@[simp] theorem accL_len (s : List α) : (accL f s).length = s.length := by simp [accL, accL_go]
theorem accL_pre : ∀ (s : List α) (L : List β), L <+: s.foldl (fun L p => L ++ [f L p]) L
  | [], L => List.prefix_refl _
  | p :: s, L => (List.prefix_append _ _).trans (accL_pre s _)
theorem accL_take (s : List α) (j : Nat) (h : j ≤ s.length) : accL f (s.take j) = (accL f s).take j := by
  have e : accL f s = (s.drop j).foldl (fun L p => L ++ [f L p]) (accL f (s.take j)) := by
    have h1 : accL f (s.take j ++ s.drop j) = (s.drop j).foldl (fun L p => L ++ [f L p]) (accL f (s.take j)) := by
      simp only [accL, List.foldl_append]
    rwa [List.take_append_drop] at h1
  have hp := accL_pre f (s.drop j) (accL f (s.take j))
  rw [← e] at hp
  have hl : (accL f (s.take j)).length = j := by simp; omega
  have := List.prefix_iff_eq_take.1 hp
  rw [hl] at this
  exact this
theorem accL_at {s : List α} {j : Nat} (h : j < s.length) : (accL f s)[j]? = some (f ((accL f s).take j) s[j]) := by
  have e1 : accL f (s.take (j + 1)) = accL f (s.take j) ++ [f (accL f (s.take j)) s[j]] := by
    rw [← List.take_append_getElem h, accL_snoc]
  rw [accL_take f s (j + 1) (by omega), accL_take f s j (by omega)] at e1
  have e2 : (accL f s)[j]? = ((accL f s).take (j + 1))[j]? := by rw [List.getElem?_take_of_lt (by omega)]
  rw [e2, e1, List.getElem?_append_right (by simp; omega)]
  have : j - ((accL f s).take j).length = 0 := by simp; omega
  rw [this]
  rfl
end
theorem any_same {α : Type} {p q : α → Bool} : ∀ {l : List α}, (∀ x ∈ l, p x = q x) → l.any p = l.any q
  | [], _ => rfl
  | x :: l, h => by
    simp only [List.any_cons]
    rw [h x (by simp), any_same fun y hy => h y (by simp [hy])]
theorem takeF_at {tx : ByteArray} {i : Nat} {c e : Int} (h : (takeF tx i c e).2 = 0) : bt tx i = e := by
  unfold takeF at h
  split at h
  · rename_i g; exact absurd h g
  · split at h
    · simp at h
    · split at h
      · simp at h
      · rename_i g3
        simpa using g3
section
variable {σ : Type} {R : Rdr σ}
structure TwoOk (R : Rdr σ) (rd : σ → Nat → Int → σ × Int × Nat × Int) (s : σ) (i : Nat) (e : Int) (a b : σ × Int × Nat × Int) : Prop where
  ha : rd s i 0 = a
  ca : a.2.2.2 = 0
  la : a.2.2.1 < R.text.size
  sa : bt R.text a.2.2.1 = 44
  hb : rd a.1 (a.2.2.1 + 1) 0 = b
  cb : b.2.2.2 = 0
  lb : b.2.2.1 < R.text.size
  sb : bt R.text b.2.2.1 = e
theorem two_inv {n : Nat} {e : Int} {s : σ} {i : Nat} {c : Int} (h : (R.two (rdF R n) e s i c).2.2.2 = 0) : c = 0 ∧ ∃ a b, TwoOk R (rdF R n) s i e a b ∧ R.two (rdF R n) e s i c = (b.1, [a.2.1, b.2.1], b.2.2.1 + 1, 0) := by
  obtain ⟨a, ea⟩ : ∃ a, rdF R n s i c = a := ⟨_, rfl⟩
  obtain ⟨t, et⟩ : ∃ t, takeF R.text a.2.2.1 a.2.2.2 44 = t := ⟨_, rfl⟩
  obtain ⟨b, eb⟩ : ∃ b, rdF R n a.1 t.1 t.2 = b := ⟨_, rfl⟩
  obtain ⟨u, eu⟩ : ∃ u, takeF R.text b.2.2.1 b.2.2.2 e = u := ⟨_, rfl⟩
  have e2 : R.two (rdF R n) e s i c = (b.1, [a.2.1, b.2.1], u.1, u.2) := by simp only [Rdr.two, ea, et, eb, eu]
  rw [e2] at h ⊢
  have hu : (takeF R.text b.2.2.1 b.2.2.2 e).2 = 0 := by rw [eu]; exact h
  obtain ⟨cb, lb, u1⟩ := takeF_ok hu
  have sb := takeF_at hu
  have t0 : t.2 = 0 := by
    rcases Decidable.em (t.2 = 0) with g | g
    · exact g
    · rw [rdF_bad n _ _ g] at eb; rw [← eb] at cb; exact absurd cb g
  have ht : (takeF R.text a.2.2.1 a.2.2.2 44).2 = 0 := by rw [et]; exact t0
  obtain ⟨ca, la, t1⟩ := takeF_ok ht
  have sa := takeF_at ht
  have c0 : c = 0 := by
    rcases Decidable.em (c = 0) with g | g
    · exact g
    · rw [rdF_bad n _ _ g] at ea; rw [← ea] at ca; exact absurd ca g
  subst c0
  rw [et] at t1
  rw [eu] at u1
  rw [t1, t0] at eb
  refine ⟨rfl, a, b, ⟨ea, ca, la, sa, eb, cb, lb, sb⟩, ?_⟩
  have h' : u.2 = 0 := h
  rw [u1, h']
/-- How a reading without fault came about. -/
inductive RdBy (R : Rdr σ) (n : Nat) (s : σ) (i : Nat) : σ × Int × Nat × Int → Prop where
  | leaf (q : σ × Int × Nat × Int) (h : R.isLeaf (bt R.text i) = true) (hq : q = R.leaf s (bt R.text i) i) (hc : q.2.2.2 = 0) : RdBy R n s i q
  | two (q a b : σ × Int × Nat × Int) (h0 : R.isLeaf (bt R.text i) = false) (h : isTwoB (bt R.text i) = true) (ht : TwoOk R (rdF R n) s (i + 1) (closeF (bt R.text i)) a b) (hj : (R.join b.1 (bt R.text i) [a.2.1, b.2.1] (b.2.2.1 + 1)).2.2 = 0)
      (hq : q = ((R.join b.1 (bt R.text i) [a.2.1, b.2.1] (b.2.2.1 + 1)).1, (R.join b.1 (bt R.text i) [a.2.1, b.2.1] (b.2.2.1 + 1)).2.1, b.2.2.1 + 1, 0)) : RdBy R n s i q
  | one (q a : σ × Int × Nat × Int) (h0 : R.isLeaf (bt R.text i) = false) (h1 : isTwoB (bt R.text i) = false) (h : R.isOne (bt R.text i) = true) (ha : rdF R n s (i + 1) 0 = a) (ca : a.2.2.2 = 0) (hj : (R.join a.1 (bt R.text i) [a.2.1] a.2.2.1).2.2 = 0)
      (hq : q = ((R.join a.1 (bt R.text i) [a.2.1] a.2.2.1).1, (R.join a.1 (bt R.text i) [a.2.1] a.2.2.1).2.1, a.2.2.1, 0)) : RdBy R n s i q
  | arg (q a b : σ × Int × Nat × Int) (h0 : R.isLeaf (bt R.text i) = false) (h1 : isTwoB (bt R.text i) = false) (h2 : R.isOne (bt R.text i) = false) (h : R.isArg (bt R.text i) = true) (hl : i + 1 < R.text.size) (ho : bt R.text (i + 1) = 40) (ht : TwoOk R (rdF R n) s (i + 1 + 1) 41 a b) (hj : (R.join b.1 (bt R.text i) [a.2.1, b.2.1] (b.2.2.1 + 1)).2.2 = 0)
      (hq : q = ((R.join b.1 (bt R.text i) [a.2.1, b.2.1] (b.2.2.1 + 1)).1, (R.join b.1 (bt R.text i) [a.2.1, b.2.1] (b.2.2.1 + 1)).2.1, b.2.2.1 + 1, 0)) : RdBy R n s i q
theorem fin_inv {b : Int} {q : σ × List Int × Nat × Int} (h : (R.fin b q).2.2.2 = 0) : q.2.2.2 = 0 ∧ (R.join q.1 b q.2.1 q.2.2.1).2.2 = 0 ∧ R.fin b q = ((R.join q.1 b q.2.1 q.2.2.1).1, (R.join q.1 b q.2.1 q.2.2.1).2.1, q.2.2.1, 0) := by
  unfold Rdr.fin at h ⊢
  split at h
  · rename_i g
    rw [if_pos g]
    have h' : (R.join q.1 b q.2.1 q.2.2.1).2.2 = 0 := h
    exact ⟨g, h', by rw [h']⟩
  · rename_i g
    exact absurd h g
theorem rdF_inv {n : Nat} {s : σ} {i : Nat} {c : Int} (h : (rdF R (n + 1) s i c).2.2.2 = 0) : c = 0 ∧ i < R.text.size ∧ RdBy R n s i (rdF R (n + 1) s i c) := by
  by_cases hc : c = 0
  case neg => rw [rdF_bad _ _ _ hc] at h; exact absurd h hc
  subst hc
  obtain ⟨q, eq⟩ : ∃ q, rdF R (n + 1) s i 0 = q := ⟨_, rfl⟩
  rw [eq] at h ⊢
  simp only [rdF] at eq
  rw [if_neg (by simp)] at eq
  by_cases hl : R.text.size ≤ i
  · rw [if_pos hl] at eq
    subst eq
    simp at h
  rw [if_neg hl] at eq
  refine ⟨rfl, by omega, ?_⟩
  by_cases h0 : R.isLeaf (bt R.text i) = true
  · rw [if_pos h0] at eq
    exact .leaf q h0 eq.symm h
  rw [if_neg h0] at eq
  by_cases h1 : isTwoB (bt R.text i) = true
  · rw [if_pos h1] at eq
    subst eq
    obtain ⟨k1, k2, k3⟩ := fin_inv h
    obtain ⟨_, a, b, ht, e2⟩ := two_inv k1
    rw [k3]
    rw [e2] at k2 ⊢
    exact .two _ a b (by simpa using h0) h1 ht k2 rfl
  rw [if_neg h1] at eq
  by_cases h2 : R.isOne (bt R.text i) = true
  · rw [if_pos h2] at eq
    subst eq
    obtain ⟨k1, k2, k3⟩ := fin_inv h
    rw [k3]
    exact .one _ (rdF R n s (i + 1) 0) (by simpa using h0) (by simpa using h1) h2 rfl k1 k2 rfl
  rw [if_neg h2] at eq
  by_cases h3 : R.isArg (bt R.text i) = true
  · rw [if_pos h3] at eq
    subst eq
    obtain ⟨k1, k2, k3⟩ := fin_inv h
    obtain ⟨t0, a, b, ht, e2⟩ := two_inv k1
    obtain ⟨_, t2, t3⟩ := takeF_ok t0
    have t4 := takeF_at t0
    rw [k3]
    rw [e2] at k2 ⊢
    rw [t3] at ht
    exact .arg _ a b (by simpa using h0) (by simpa using h1) (by simpa using h2) h3 t2 t4 ht k2 rfl
  rw [if_neg h3] at eq
  subst eq
  simp at h
end
theorem dg_at {tx : ByteArray} {i j : Nat} (hi : i ≤ j) (hj : j < dEnd tx i) : isDg (byt tx j) = true := by
  have h1 := dgRun_dg tx i
  have h2 : (dgRun tx i)[j - i]? = (bl tx)[j]? := by
    rw [dgRun_take, List.getElem?_take_of_lt (by omega), List.getElem?_drop]
    congr 1
    omega
  have h3 : j - i < (dgRun tx i).length := by unfold dEnd at hj; omega
  rw [List.getElem?_eq_getElem h3] at h2
  have h4 : byt tx j = (dgRun tx i)[j - i] := by
    simp only [byt, List.getD_eq_getElem?_getD]
    rw [← h2]
    rfl
  rw [h4]
  exact h1 _ (List.getElem_mem h3)
end Go.Proofs.YtpohfpnlepmebaaGreatDoor.C

set_option linter.unusedVariables false
set_option linter.unusedSimpArgs false
set_option maxRecDepth 4000
namespace Go.Proofs.YtpohfpnlepmebaaGreatDoor.C
open Go.Sym Go.Proofs.YtpohfpnlepmebaaGreatDoor.I
/-- Whether a sign is in a piece, by the pieces. -/
def hasL (sg : Int) : List Pt → List Bool := accL fun L p => decide (p.s = sg) || p.ps.any fun t => L.getD t.toNat false
def hasAt (s : List Pt) (sg : Int) (j : Nat) : Bool := (hasL sg s).getD j false
theorem hasAt_eq {s : List Pt} (hG : PGood s) {sg : Int} {j : Nat} (h : j < s.length) : hasAt s sg j = (decide (s[j].s = sg) || s[j].ps.any fun t => hasAt s sg t.toNat) := by
  have e := accL_at (fun (L : List Bool) (p : Pt) => decide (p.s = sg) || p.ps.any fun t => L.getD t.toNat false) h
  have e1 : hasAt s sg j = ((hasL sg s)[j]?).getD false := by simp only [hasAt, List.getD_eq_getElem?_getD]
  rw [e1]
  unfold hasL
  rw [e]
  simp only [Option.getD_some]
  congr 1
  refine any_same fun t ht => ?_
  have := (hG j h).lt t ht
  simp only [hasAt, hasL, List.getD_eq_getElem?_getD]
  rw [List.getElem?_take_of_lt (by omega)]
theorem nodesL_at {s : List Pt} {j : Nat} (h : j < s.length) : (nodesL s)[j]? = some (nodeL ((nodesL s).take j) s[j]) := accL_at nodeL h
/-- The signs of what has parts. -/
theorem PtOk.sign {j : Nat} {p : Pt} (h : PtOk j p) (hn : p.ps ≠ []) : (p.ps.length = 2 ∧ (p.s = 40 ∨ p.s = 123 ∨ p.s = 91 ∨ p.s = 107 ∨ p.s = 42 ∨ p.s = 120)) ∨ (p.ps.length = 1 ∧ (p.s = 35 ∨ p.s = 94)) := by
  obtain ⟨_, h1⟩ := h.join hn
  simp [isTwoB, inS, bl] at h1
  omega
theorem ps_two {p : Pt} (h : p.ps.length = 2) : ∃ a b, p.ps = [a, b] := by
  match hp : p.ps, h with
  | [a, b], _ => exact ⟨a, b, rfl⟩
theorem ps_one {p : Pt} (h : p.ps.length = 1) : ∃ a, p.ps = [a] := by
  match hp : p.ps, h with
  | [a], _ => exact ⟨a, rfl⟩
theorem askAt_take {L : List Ln} {j : Nat} {t : Int} (h0 : 0 ≤ t) (h : t < j) : askAt (L.take j) t = askAt L t := by
  simp only [askAt, List.getD_eq_getElem?_getD]
  rw [List.getElem?_take_of_lt (by omega)]
theorem ask_has {s : List Pt} (hG : PGood s) : ∀ (m j : Nat), j < m → j < s.length → askAt (nodesL s) j = hasAt s 63 j
  | 0, j, h, _ => by omega
  | m + 1, j, hm, h => by
    have ih := ask_has hG m
    have hp := hG j h
    have e : askAt (nodesL s) j = (nodeL ((nodesL s).take j) s[j]).q := by
      have := nodesL_at h
      simp only [askAt, List.getD_eq_getElem?_getD, Int.toNat_natCast, this, Option.getD_some]
    rw [e, hasAt_eq hG h]
    have arg : ∀ t ∈ s[j].ps, askAt ((nodesL s).take j) t = hasAt s 63 t.toNat := fun t ht => by
      have h1 := hp.lt t ht
      rw [askAt_take h1.1 h1.2]
      have := ih t.toNat (by omega) (by omega)
      rw [← this]
      congr 1
      omega
    by_cases hn : s[j].ps = []
    · simp [nodeL, hn]
    · rcases hp.sign hn with ⟨h1, h2⟩ | ⟨h1, h2⟩
      · obtain ⟨a, b, eab⟩ := ps_two h1
        have ea := arg a (by rw [eab]; simp)
        have eb := arg b (by rw [eab]; simp)
        have hs : ¬ s[j].s = 63 := by omega
        simp [nodeL, eab, ea, eb, hs]
      · obtain ⟨a, ea'⟩ := ps_one h1
        have ea := arg a (by rw [ea']; simp)
        have hs : ¬ s[j].s = 63 := by omega
        simp [nodeL, ea', ea, hs]
/-- The pieces of a right pattern. -/
theorem patF_good {tx : ByteArray} (h : (patF tx).2 = true) : PGood (patF tx).1 ∧ 0 < (patF tx).1.length ∧ (patF tx).1.length ≤ 200 := by
  by_cases h2 : 200 < tx.size
  · rw [show patF tx = ([], false) from if_pos h2] at h
    simp at h
  have htx : (patR tx).text = tx := rfl
  have hgd := (patK tx).rd_good (tx.size + 1) (s := []) (i := 0) (c := 0) ⟨by simp, fun j h => by cases h⟩ (by omega) (by rw [htx]; omega)
  have e0 : patF tx = ((allRF (patR tx) 200 []).1, decide ((allRF (patR tx) 200 []).2.2.2 = 0)) := if_neg h2
  have e1 : allRF (patR tx) 200 [] = if (rdF (patR tx) (tx.size + 1) [] 0 0).2.2.2 = 0 ∧ (rdF (patR tx) (tx.size + 1) [] 0 0).2.2.1 < tx.size then ((rdF (patR tx) (tx.size + 1) [] 0 0).1, -1, (rdF (patR tx) (tx.size + 1) [] 0 0).2.2.1, 6) else rdF (patR tx) (tx.size + 1) [] 0 0 := by
    unfold allRF
    rw [htx, if_neg (by omega)]
  rw [e0] at h ⊢
  rw [e1] at h ⊢
  obtain ⟨q, eq⟩ : ∃ q, rdF (patR tx) (tx.size + 1) [] 0 0 = q := ⟨_, rfl⟩
  rw [eq] at hgd h ⊢
  by_cases hp : q.2.2.2 = 0 ∧ q.2.2.1 < tx.size
  · rw [if_pos hp] at h
    simp at h
  · rw [if_neg hp] at h ⊢
    simp only [decide_eq_true_eq] at h
    obtain ⟨g1, g2, ⟨_, _, g3, g4⟩, g5, g6⟩ := hgd h
    rw [htx] at g2
    simp only [List.length_nil] at g3
    exact ⟨g4 fun j h => (by cases h), by show 0 < q.1.length; have : q.2.1 < (q.1.length : Int) := g6; have : (0 : Int) ≤ q.2.1 := g5; omega, by simp only; omega⟩
end Go.Proofs.YtpohfpnlepmebaaGreatDoor.C

set_option linter.unusedVariables false
set_option linter.unusedSimpArgs false
set_option maxRecDepth 4000
namespace Go.Proofs.YtpohfpnlepmebaaGreatDoor.C
open Go.Sym Go.Proofs.YtpohfpnlepmebaaGreatDoor.I
abbrev vP (p : Pt) : List A := [.int .u8 p.s, i6 p.n, aI p.ps]
abbrev vPs (xs : List Pt) : List A := xs.flatMap vP
theorem vP_len (p : Pt) : (vP p).length = 3 := rfl
@[simp] theorem vPs_len (xs : List Pt) : (vPs xs).length = xs.length * 3 := flat_len vP_len xs
theorem vPs_at {xs : List Pt} {j : Nat} (h : j < xs.length) : ∃ r, (vPs xs).drop (j * 3) = .int .u8 xs[j].s :: i6 xs[j].n :: aI xs[j].ps :: r := flat_at vP_len (List.getElem?_eq_getElem h)
@[simp] theorem vPs_view (n : Nat) (H : List Blk) : ∀ (xs : List Pt), viewL (viewA (n + 2) H) (vPs xs) = some (vPs xs)
  | [] => rfl
  | p :: xs => by
    have ih := vPs_view n H xs
    simp only [vPs, List.flatMap_cons] at ih ⊢
    simp [vP, ih]
@[simp] theorem vPs_noOwns : ∀ (xs : List Pt), noOwns (vPs xs) = true
  | [] => rfl
  | p :: xs => by
    have ih := vPs_noOwns xs
    simp only [vPs, List.flatMap_cons] at ih ⊢
    simp [vP, ih]
abbrev aPat (s : List Pt) : A := .pt [.sl s.length (vPs s)]
theorem has_t {s : List Pt} (hG : PGood s) (hl : s.length ≤ 1000000) (sg : Int) : ∀ (m j : Nat), j < m → j < s.length → T 50 [aPat s, i6 j, .int .u8 sg] [] (.bool (hasAt s sg j)) []
  | 0, j, h, _ => by omega
  | m + 1, j, hm', h => by
    have ih := has_t hG hl sg m
    refine semT' (S := S0) hm impl_pattern_has_ok (Nat.le_of_ble_eq_true rfl) ?_
    unfold impl_pattern_has; dsimp only
    obtain ⟨r, hr⟩ := vPs_at h
    have h3 : 3 ≤ s.length * 3 - j * 3 := by omega
    have hp := hG j h
    have hpl : s[j].ps.length ≤ 2 := by
      by_cases e : s[j].ps = []
      · rw [e]; simp
      · rcases hp.sign e with ⟨g, _⟩ | ⟨g, _⟩ <;> omega
    simp [h, h3, hr]
    refine WLoop_fam (fun k : Nat => [(0, aPat s), (2, A.int .u8 sg), (7, A.ptr 0 0 0), (18, aI s[j].ps), (19, i6 s[j].ps.length), (20, i6 k)]) (fun _ => [⟨0, false, 1, [.int .u8 s[j].s, i6 s[j].n, aI s[j].ps], none⟩]) (fun k => s[j].ps.length - k)
      (fun k => k ≤ s[j].ps.length ∧ hasAt s sg j = (decide (s[j].s = sg) || (s[j].ps.drop k).any fun t => hasAt s sg t.toNat)) ?_ 0 ⟨Nat.zero_le _, by rw [hasAt_eq hG h]; rfl⟩
    intro k ⟨hk, hf⟩ ihk
    simp
    refine br_intro' (fun u => ?_) (fun u => ?_) <;> (have u0 := u) <;> simp only [decide_eq_true_eq, decide_eq_false_iff_not] at u <;> simp [u0]
    · have hk' : k < s[j].ps.length := by omega
      have hd : s[j].ps.drop k = s[j].ps[k] :: s[j].ps.drop (k + 1) := List.drop_eq_getElem_cons hk'
      have hlt := hp.lt s[j].ps[k] (List.getElem_mem hk')
      obtain ⟨t, et⟩ : ∃ t : Nat, s[j].ps[k] = t := ⟨s[j].ps[k].toNat, by omega⟩
      rw [et] at hlt hd
      simp [hk', et]
      refine WCall_pure rfl (ih t (by omega) (by omega)) (by simp) (by simp) (by simp) ?_; simp
      refine br_intro' (fun g => ?_) (fun g => ?_) <;> simp [g]
      · exact LeV.ro rfl rfl (by rw [hf, hd]; simp [g])
      · rw [wrap_succ (n := k) (by omega)]
        exact ihk (k + 1) ⟨by omega, by rw [hf, hd]; simp [g]⟩ (by omega)
    · exact LeV.ro rfl rfl (by rw [hf, List.drop_eq_nil_of_le (by omega)]; simp)
end Go.Proofs.YtpohfpnlepmebaaGreatDoor.C

set_option linter.unusedVariables false
set_option linter.unusedSimpArgs false
set_option maxRecDepth 4000
namespace Go.Proofs.YtpohfpnlepmebaaGreatDoor.C
open Go.Sym Go.Proofs.YtpohfpnlepmebaaGreatDoor.I
@[simp] theorem encPs_shift (n : Nat) : ∀ (xs : List Pt), shiftAs n (encPs xs) = encPs xs
  | [] => rfl
  | p :: xs => by
    have ih := encPs_shift n xs
    simp only [encPs, List.flatMap_cons] at ih ⊢
    by_cases h : p.ps = []
    · simp [encP, h, ih]
    · simp [encP, h, ih]
@[simp] theorem encPs_take (xs : List Pt) : (encPs xs).take (xs.length * 3) = encPs xs := List.take_of_length_le (by simp)
@[simp] theorem encLs_shift (n : Nat) (xs : List Ln) : shiftAs n (encLs xs) = encLs xs := shiftAs_scals _ (encLs_scals xs)
/-- An act. -/
structure Ac where
  k : Int
  t : ByteArray
deriving DecidableEq
abbrev aAc (a : Ac) : A := .agg [i6 a.k, .str a.t]
/-- Whether the whole of a pattern asks. -/
def askF (tx : ByteArray) : Bool := hasAt (patF tx).1 63 ((patF tx).1.length - 1)
/-- One small letter. -/
def oneL (tx : ByteArray) : Bool := decide (tx.size = 1) && decide (97 ≤ bt tx 0) && decide (bt tx 0 ≤ 122)
def actF (a : Ac) : Bool :=
  if a.k = 1 then oneL a.t
  else if a.k = 2 ∨ a.k = 4 then (patF a.t).2 && !askF a.t
  else if a.k = 3 then (patF a.t).2
  else false
theorem impl_pattern_whole_c (s : List Pt) (hl : s.length ≤ 1000000) : T 30 [aPat s] [] (i6 ((s.length : Int) - 1)) ([]) := by
  refine semT' (S := S0) hm impl_pattern_whole_ok (Nat.le_of_ble_eq_true rfl) ?_
  unfold impl_pattern_whole; dsimp only
  simp [wrap_len (show s.length < 9223372036854775807 by omega)]
  exact LeV.ro rfl rfl rfl
theorem impl_pattern_whole_k {s : List Pt} (hl : s.length ≤ 1000000) {S : FuncId → Bool} {H : List Blk} {K : A → Dl → Prop} {zs : List A} (hS : S 30 = false) (hv : viewL (viewA 8 H) zs = some [aPat s]) (ho : noOwns zs = true ∨ nosl (i6 ((s.length : Int) - 1)) = true) (hK : K (i6 ((s.length : Int) - 1)) (.news [])) : @WCall' Go.Proofs.Tryz.prog S 30 zs H ⟨K⟩ :=
  WCall_pure hS (impl_pattern_whole_c s hl) hv ho (by simp) hK
end Go.Proofs.YtpohfpnlepmebaaGreatDoor.C

set_option linter.unusedVariables false
set_option linter.unusedSimpArgs false
namespace Go.Proofs.YtpohfpnlepmebaaGreatDoor.C
open Go.Sym Go.Proofs.YtpohfpnlepmebaaGreatDoor.I
def In64 (n : Int) : Prop := -9223372036854775808 ≤ n ∧ n < 9223372036854775808
abbrev shI : Sh := .i .i64
abbrev shN : Sh := .st (.p shI (.p shI (.p shI .u)))
abbrev shP : Sh := .st (.p (.sl shN) .u)
abbrev shL : Sh := .st (.p shI (.p shI (.p shI (.p .b .u))))
abbrev shIs : Sh := .sl shI
abbrev shS : Sh := .st (.p shP (.p shIs (.p shL (.p shL (.p shIs (.p shIs .u))))))
theorem fit_i {cs : List A} (h : Fit shI cs) : ∃ n, cs = [i6 n] ∧ In64 n := by
  obtain ⟨n, rfl, hn⟩ := h
  exact ⟨n, rfl, fit_i64 hn⟩
theorem fit_n {cs : List A} (h : Fit shN cs) : ∃ n : Nd, cs = encN n ∧ In64 n.k ∧ In64 n.a ∧ In64 n.b := by
  obtain ⟨x, y, rfl, hx, z, t, rfl, hz, u, w, rfl, hu, rfl⟩ := h
  obtain ⟨a, rfl, ha⟩ := fit_i hx
  obtain ⟨b, rfl, hb⟩ := fit_i hz
  obtain ⟨c, rfl, hc⟩ := fit_i hu
  exact ⟨⟨a, b, c⟩, rfl, ha, hb, hc⟩
theorem fit_p {cs : List A} (h : Fit shP cs) : ∃ ns : List Nd, cs = [.sl ns.length (enc ns)] ∧ ns.length < 9223372036854775808 := by
  obtain ⟨x, y, rfl, hx, rfl⟩ := h
  obtain ⟨ns, rfl, h1, _⟩ := fit_sl (f := encN) (fun r hr => fit_n hr) hx
  exact ⟨ns, by simp [enc], h1⟩
theorem fit_is {cs : List A} (h : Fit shIs cs) : ∃ xs : List Int, cs = [aI xs] ∧ xs.length < 9223372036854775808 := by
  obtain ⟨xs, rfl, h1, _⟩ := fit_sl (f := fun n => [i6 n]) (fun r hr => fit_i hr) h
  exact ⟨xs, by simp only [aI, ints]; rw [List.map_eq_flatMap], h1⟩
structure Lk.fit (l : Lk) : Prop where
  k : In64 l.key
  e : In64 l.epoch
  s : In64 l.seq
theorem fit_l {cs : List A} (h : Fit shL cs) : ∃ l : Lk, cs = [i6 l.key, i6 l.epoch, i6 l.seq, .bool l.over] ∧ l.fit := by
  obtain ⟨x, y, rfl, hx, z, t, rfl, hz, u, w, rfl, hu, b, w, rfl, ⟨o, rfl⟩, rfl⟩ := h
  obtain ⟨a, rfl, ha⟩ := fit_i hx
  obtain ⟨b, rfl, hb⟩ := fit_i hz
  obtain ⟨c, rfl, hc⟩ := fit_i hu
  exact ⟨⟨a, b, c, o⟩, rfl, ha, hb, hc⟩
structure St.fitA (s : St) : Prop where
  p : s.pool.length < 9223372036854775808
  k : s.know.length < 9223372036854775808
  t : s.sent.length < 9223372036854775808
  g : s.got.length < 9223372036854775808
  o : s.out.fit
  i : s.inn.fit
theorem fit_s {cs : List A} (h : Fit shS cs) : ∃ s : St, cs = cS s ∧ s.fitA := by
  obtain ⟨x, y, rfl, hx, z, t, rfl, hz, u, w, rfl, hu, b, w, rfl, hb, e, f, rfl, he, g, i, rfl, hg, rfl⟩ := h
  obtain ⟨ns, rfl, h1⟩ := fit_p hx
  obtain ⟨ks, rfl, h2⟩ := fit_is hz
  obtain ⟨l, rfl, h3⟩ := fit_l hu
  obtain ⟨m, rfl, h4⟩ := fit_l hb
  obtain ⟨ts, rfl, h5⟩ := fit_is he
  obtain ⟨gs, rfl, h6⟩ := fit_is hg
  exact ⟨⟨ns, ks, l, m, ts, gs⟩, rfl, h1, h2, h5, h6, h3, h4⟩
theorem arg_p {x : A} (h : FitA shP x) : ∃ ns : List Nd, x = aP ns ∧ ns.length < 9223372036854775808 := by
  obtain ⟨cs, rfl, h⟩ := h
  obtain ⟨ns, rfl, g⟩ := fit_p h
  exact ⟨ns, rfl, g⟩
theorem arg_l {x : A} (h : FitA shL x) : ∃ l : Lk, x = aL l ∧ l.fit := by
  obtain ⟨cs, rfl, h⟩ := h
  obtain ⟨ns, rfl, g⟩ := fit_l h
  exact ⟨ns, rfl, g⟩
theorem arg_s {x : A} (h : FitA shS x) : ∃ s : St, x = aS s ∧ s.fitA := by
  obtain ⟨cs, rfl, h⟩ := h
  obtain ⟨ns, rfl, g⟩ := fit_s h
  exact ⟨ns, rfl, g⟩
theorem arg_is {x : A} (h : FitA shIs x) : ∃ xs : List Int, x = aI xs ∧ xs.length < 9223372036854775808 := by
  obtain ⟨xs, e, h⟩ := fit_is (show Fit shIs [x] from h)
  exact ⟨xs, by simpa using e, h⟩
theorem arg_i {x : A} (h : FitA shI x) : ∃ n : Int, x = i6 n ∧ In64 n := by
  obtain ⟨n, e, h⟩ := fit_i (show Fit shI [x] from h)
  exact ⟨n, by simpa using e, h⟩
end Go.Proofs.YtpohfpnlepmebaaGreatDoor.C

set_option linter.unusedVariables false
set_option linter.unusedSimpArgs false
namespace Go.Proofs.YtpohfpnlepmebaaGreatDoor.C
open Go.Sym Go.Proofs.YtpohfpnlepmebaaGreatDoor.I
abbrev qblk (ns : List Nd) : Blk := ⟨ns.length, false, 3, enc ns, none⟩
abbrev iblk (xs : List Int) : Blk := ⟨xs.length, false, 1, ints xs, none⟩
abbrev iref (b : Nat) (xs : List Int) : A := .ref b xs.length 0 xs.length
def szF (x : Int) (n : Nat) : Int := if x - n < 0 then -1 else x - n
theorem laws_szNodeS_c (ns : List Nd) (x : Int) (hl : ns.length < 9223372036854775808) (h0 : 0 ≤ x) (h1 : x < 9223372036854775808) : T 15 [.sl ns.length (enc ns), i6 x] [] (i6 (szF x ns.length)) ([]) := by
  refine semT' (S := S0) hm laws_szNodeS_ok (Nat.le_of_ble_eq_true rfl) ?_
  unfold laws_szNodeS; dsimp only
  have hw : IntKind.i64.wrap (x - ns.length) = x - ns.length := wrap64 (by omega) (by omega)
  simp [hw]
  refine br_intro' (fun h => ?_) (fun h => ?_) <;> (have h0 := h) <;> (try simp at h) <;> try simp [h0, h]
  · exact LeV.ro rfl rfl (by simp [szF, h])
  · exact LeV.ro rfl rfl (by simp [szF]; omega)
theorem laws_szNodeS_call {ns : List Nd} {x : Int} (hl : ns.length < 9223372036854775808) (h0 : 0 ≤ x) (h1 : x < 9223372036854775808) {S : FuncId → Bool} {H : List Blk} {K : A → Dl → Prop} (hS : S 15 = false) (hK : K (i6 (szF x ns.length)) (.news [])) : @WCall' Go.Proofs.Tryz.prog S 15 [.sl ns.length (enc ns), i6 x] H ⟨K⟩ :=
  WCall_pure hS (laws_szNodeS_c ns x hl h0 h1) (by simp) (by simp) (by simp) hK
theorem laws_szNodeS_k {ns : List Nd} {x : Int} (hl : ns.length < 9223372036854775808) (h0 : 0 ≤ x) (h1 : x < 9223372036854775808) {S : FuncId → Bool} {H : List Blk} {K : A → Dl → Prop} {zs : List A} (hS : S 15 = false) (hv : viewL (viewA 8 H) zs = some [.sl ns.length (enc ns), i6 x]) (ho : noOwns zs = true ∨ nosl (i6 (szF x ns.length)) = true) (hK : K (i6 (szF x ns.length)) (.news [])) : @WCall' Go.Proofs.Tryz.prog S 15 zs H ⟨K⟩ :=
  WCall_pure hS (laws_szNodeS_c ns x hl h0 h1) hv ho (by simp) hK
theorem laws_szPool_c (ns : List Nd) (x : Int) (hl : ns.length < 9223372036854775808) (h0 : 0 ≤ x) (h1 : x < 9223372036854775808) : T 4 [aP ns, i6 x] [] (i6 (szF x ns.length)) ([]) := by
  refine semT' (S := S0) hm laws_szPool_ok (Nat.le_of_ble_eq_true rfl) ?_
  unfold laws_szPool; dsimp only
  simp
  refine laws_szNodeS_call (ns := ns) (x := x) hl h0 h1 rfl ?_; simp
  refine br_intro' (fun h => ?_) (fun h => ?_) <;> (have h0 := h) <;> (try simp at h) <;> try simp [h0, h]
  · exact LeV.ro rfl rfl (by simp [szF] at h ⊢; omega)
  · exact LeV.ro rfl rfl (by simp)
theorem laws_szPool_call {ns : List Nd} {x : Int} (hl : ns.length < 9223372036854775808) (h0 : 0 ≤ x) (h1 : x < 9223372036854775808) {S : FuncId → Bool} {H : List Blk} {K : A → Dl → Prop} (hS : S 4 = false) (hK : K (i6 (szF x ns.length)) (.news [])) : @WCall' Go.Proofs.Tryz.prog S 4 [aP ns, i6 x] H ⟨K⟩ :=
  WCall_pure hS (laws_szPool_c ns x hl h0 h1) (by simp) (by simp) (by simp) hK
theorem laws_szPool_k {ns : List Nd} {x : Int} (hl : ns.length < 9223372036854775808) (h0 : 0 ≤ x) (h1 : x < 9223372036854775808) {S : FuncId → Bool} {H : List Blk} {K : A → Dl → Prop} {zs : List A} (hS : S 4 = false) (hv : viewL (viewA 8 H) zs = some [aP ns, i6 x]) (ho : noOwns zs = true ∨ nosl (i6 (szF x ns.length)) = true) (hK : K (i6 (szF x ns.length)) (.news [])) : @WCall' Go.Proofs.Tryz.prog S 4 zs H ⟨K⟩ :=
  WCall_pure hS (laws_szPool_c ns x hl h0 h1) hv ho (by simp) hK
theorem laws_toNode_c (n : Nd)  : T 39 [aN n] [] (aN n) ([]) := by
  refine semT' (S := S0) hm laws_toNode_ok (Nat.le_of_ble_eq_true rfl) ?_
  unfold laws_toNode; dsimp only
  simp
  exact LeV.ro rfl rfl (by simp)
theorem laws_toNode_call {n : Nd}  {S : FuncId → Bool} {H : List Blk} {K : A → Dl → Prop} (hS : S 39 = false) (hK : K (aN n) (.news [])) : @WCall' Go.Proofs.Tryz.prog S 39 [aN n] H ⟨K⟩ :=
  WCall_pure hS (laws_toNode_c n) (by simp) (by simp) (by simp) hK
theorem laws_toNode_k {n : Nd}  {S : FuncId → Bool} {H : List Blk} {K : A → Dl → Prop} {zs : List A} (hS : S 39 = false) (hv : viewL (viewA 8 H) zs = some [aN n]) (ho : noOwns zs = true ∨ nosl (aN n) = true) (hK : K (aN n) (.news [])) : @WCall' Go.Proofs.Tryz.prog S 39 zs H ⟨K⟩ :=
  WCall_pure hS (laws_toNode_c n) hv ho (by simp) hK
theorem laws_eqNode_c (n m : Nd)  : T 52 [aN n, aN m] [] (.bool (decide (n = m))) ([]) := by
  refine semT' (S := S0) hm laws_eqNode_ok (Nat.le_of_ble_eq_true rfl) ?_
  unfold laws_eqNode; dsimp only
  simp
  repeat (any_goals (first | (refine br_intro' (fun h => ?_) (fun h => ?_) <;> (have h0 := h) <;> (try simp at h) <;> try simp [h0, h])))
  all_goals exact LeV.ro rfl rfl (by simp [Nd_eq, *])
theorem laws_eqNode_call {n m : Nd}  {S : FuncId → Bool} {H : List Blk} {K : A → Dl → Prop} (hS : S 52 = false) (hK : K (.bool (decide (n = m))) (.news [])) : @WCall' Go.Proofs.Tryz.prog S 52 [aN n, aN m] H ⟨K⟩ :=
  WCall_pure hS (laws_eqNode_c n m) (by simp) (by simp) (by simp) hK
theorem laws_eqNode_k {n m : Nd}  {S : FuncId → Bool} {H : List Blk} {K : A → Dl → Prop} {zs : List A} (hS : S 52 = false) (hv : viewL (viewA 8 H) zs = some [aN n, aN m]) (ho : noOwns zs = true ∨ nosl (.bool (decide (n = m))) = true) (hK : K (.bool (decide (n = m))) (.news [])) : @WCall' Go.Proofs.Tryz.prog S 52 zs H ⟨K⟩ :=
  WCall_pure hS (laws_eqNode_c n m) hv ho (by simp) hK
theorem Lk_eq {x y : Lk} : x = y ↔ x.key = y.key ∧ x.epoch = y.epoch ∧ x.seq = y.seq ∧ x.over = y.over := by cases x; cases y; simp
def zN (j : Nat) : List Nd := List.replicate j ⟨0, 0, 0⟩
/-- A copy that is made up to a place. -/
def upN (ns : List Nd) (j : Nat) : List Nd := ns.take j ++ zN (ns.length - j)
theorem upN_len (ns : List Nd) (j : Nat) (h : j ≤ ns.length) : (upN ns j).length = ns.length := by simp [upN, zN]; omega
theorem upN_zero (ns : List Nd) : upN ns 0 = zN ns.length := by simp [upN]
theorem upN_end (ns : List Nd) : upN ns ns.length = ns := by simp [upN, zN]
theorem enc_zN (j : Nat) : enc (zN j) = (List.replicate j [i6 0, i6 0, i6 0]).flatten := by
  induction j with
  | zero => rfl
  | succ j ih => simp only [zN, List.replicate_succ, enc, List.flatMap_cons, List.flatten_cons] at ih ⊢; rw [ih]; rfl
theorem upN_set (ns : List Nd) (j : Nat) (h : j < ns.length) : (upN ns j).set j ns[j] = upN ns (j + 1) := by
  have hl : (ns.take j).length = j := by simp; omega
  have e : ns.length - j = (ns.length - (j + 1)) + 1 := by omega
  simp only [upN, zN]
  rw [List.set_append_right _ _ (by omega), hl, Nat.sub_self, e, List.replicate_succ, List.set_cons_zero, List.take_succ_eq_append_getElem h, List.append_assoc]
  rfl
theorem set3 {x y z : A} : ∀ (cs : List A) (a b c : A) (r : List A), (((a :: b :: c :: r).set 0 x).set 1 y).set 2 z = x :: y :: z :: r := fun _ _ _ _ _ => rfl
theorem enc_set : ∀ (xs : List Nd) (j : Nat) (n : Nd), (((enc xs).set (j * 3) (i6 n.k)).set (j * 3 + 1) (i6 n.a)).set (j * 3 + 2) (i6 n.b) = enc (xs.set j n)
  | [], j, n => by simp
  | x :: xs, 0, n => rfl
  | x :: xs, j + 1, n => by
    have := enc_set xs j n
    have e : (j + 1) * 3 = j * 3 + 1 + 1 + 1 := by omega
    show ((([i6 x.k, i6 x.a, i6 x.b] ++ enc xs).set ((j + 1) * 3) _).set ((j + 1) * 3 + 1) _).set ((j + 1) * 3 + 2) _ = [i6 x.k, i6 x.a, i6 x.b] ++ enc (xs.set j n)
    rw [e, ← this]
    rfl
theorem laws_toNodeS_c (ns : List Nd) (hl : ns.length ≤ 4294967296) : T 22 [.sl ns.length (enc ns)] [] (pref 0 ns) ([qblk ns]) := by
  refine semT' (S := S0) hm laws_toNodeS_ok (Nat.le_of_ble_eq_true rfl) ?_
  unfold laws_toNodeS; dsimp only
  have h1 : ((ns.length : Int)) * 24 ≤ 17592186044416 := by omega
  have h2 : (ns.length : Int) ≤ 4294967296 := by omega
  simp
  refine ck_intro' (by omega) ?_; simp
  rw [← enc_zN, ← upN_zero]
  refine WLoop_fam (fun j : Nat => [(0, A.sl ns.length (enc ns)), (3, A.ref 0 0 0 ns.length), (4, i6 j)]) (fun j => [⟨0, false, 3, enc (upN ns j), none⟩]) (fun j => ns.length - j)
    (fun j => j ≤ ns.length) ?_ 0 (Nat.zero_le _)
  intro j hj ih
  simp [upN_len ns j hj]
  refine br_intro' (fun h => ?_) (fun h => ?_) <;> (have h0 := h) <;> (try simp at h) <;> try simp [h0, h]
  · obtain ⟨r, hr⟩ := enc_at h
    have h3 : 3 ≤ ns.length * 3 - j * 3 := by omega
    have hw : IntKind.i64.wrap ((j : Int) + 1) = j + 1 := wrap64 (by omega) (by omega)
    have h' := h
    simp [h3, hr, h']
    refine laws_toNode_call (n := ns[j]) rfl ?_; simp [upN_len ns j hj, h']
    refine ck_intro' (by omega) ?_; simp
    rw [hw, enc_set, upN_set ns j h']
    exact ih (j + 1) h' (by omega)
  · have h0 : j = ns.length := by omega
    subst h0
    rw [upN_end]
    first | (refine LeV.tell [none] ?_ ?_ ?_ <;> (simp; done)) | (refine LeV.tell [some 0] ?_ ?_ ?_ <;> (simp; done)) | (refine LeV.tell [some 1] ?_ ?_ ?_ <;> (simp; done)) | (refine LeV.tell [some 2] ?_ ?_ ?_ <;> (simp; done)) | (refine LeV.tell [some 3] ?_ ?_ ?_ <;> (simp; done)) | (refine LeV.tell [some 4] ?_ ?_ ?_ <;> (simp; done)) | (refine LeV.tell [some 5] ?_ ?_ ?_ <;> (simp; done)) | (refine LeV.tell [some 6] ?_ ?_ ?_ <;> (simp; done)) | (refine LeV.tell [some 7] ?_ ?_ ?_ <;> (simp; done)) | (refine LeV.tell [some 8] ?_ ?_ ?_ <;> (simp; done)) | (refine LeV.tell [some 9] ?_ ?_ ?_ <;> (simp; done)) | (refine LeV.tell [some 10] ?_ ?_ ?_ <;> (simp; done)) | (refine LeV.tell [some 11] ?_ ?_ ?_ <;> (simp; done)) | (refine LeV.tell [some 12] ?_ ?_ ?_ <;> (simp; done)) | (refine LeV.tell [some 13] ?_ ?_ ?_ <;> (simp; done)) | (refine LeV.tell [some 14] ?_ ?_ ?_ <;> (simp; done)) | (refine LeV.tell [some 15] ?_ ?_ ?_ <;> (simp; done))
theorem laws_toNodeS_k {ns : List Nd} (hl : ns.length ≤ 4294967296) {S : FuncId → Bool} {H : List Blk} {K : A → Dl → Prop} {zs : List A} (hS : S 22 = false) (hv : viewL (viewA 8 H) zs = some [.sl ns.length (enc ns)]) (ho : noOwns zs = true ∨ nosl (pref 0 ns) = true ∧ noslBlks ([qblk ns]) = true) (hK : K (shiftA H.length (pref 0 ns)) (.news (([qblk ns]).map (shiftB H.length)))) : @WCall' Go.Proofs.Tryz.prog S 22 zs H ⟨K⟩ :=
  WCall_ro' hS hv (laws_toNodeS_c ns hl) rfl ho hK
theorem laws_toPool_c (ns : List Nd) (hl : ns.length ≤ 4294967296) : T 6 [aP ns] [] (.agg [pref 0 ns]) ([qblk ns]) := by
  refine semT' (S := S0) hm laws_toPool_ok (Nat.le_of_ble_eq_true rfl) ?_
  unfold laws_toPool; dsimp only
  simp
  refine laws_toNodeS_k (ns := ns) hl rfl (by simp) (by simp [noslBlks]) ?_; simp [shiftB]
  first | (refine LeV.tell [none] ?_ ?_ ?_ <;> (simp; done)) | (refine LeV.tell [some 0] ?_ ?_ ?_ <;> (simp; done)) | (refine LeV.tell [some 1] ?_ ?_ ?_ <;> (simp; done)) | (refine LeV.tell [some 2] ?_ ?_ ?_ <;> (simp; done)) | (refine LeV.tell [some 3] ?_ ?_ ?_ <;> (simp; done)) | (refine LeV.tell [some 4] ?_ ?_ ?_ <;> (simp; done)) | (refine LeV.tell [some 5] ?_ ?_ ?_ <;> (simp; done)) | (refine LeV.tell [some 6] ?_ ?_ ?_ <;> (simp; done)) | (refine LeV.tell [some 7] ?_ ?_ ?_ <;> (simp; done)) | (refine LeV.tell [some 8] ?_ ?_ ?_ <;> (simp; done)) | (refine LeV.tell [some 9] ?_ ?_ ?_ <;> (simp; done)) | (refine LeV.tell [some 10] ?_ ?_ ?_ <;> (simp; done)) | (refine LeV.tell [some 11] ?_ ?_ ?_ <;> (simp; done)) | (refine LeV.tell [some 12] ?_ ?_ ?_ <;> (simp; done)) | (refine LeV.tell [some 13] ?_ ?_ ?_ <;> (simp; done)) | (refine LeV.tell [some 14] ?_ ?_ ?_ <;> (simp; done)) | (refine LeV.tell [some 15] ?_ ?_ ?_ <;> (simp; done))
theorem laws_toPool_k {ns : List Nd} (hl : ns.length ≤ 4294967296) {S : FuncId → Bool} {H : List Blk} {K : A → Dl → Prop} {zs : List A} (hS : S 6 = false) (hv : viewL (viewA 8 H) zs = some [aP ns]) (ho : noOwns zs = true ∨ nosl (.agg [pref 0 ns]) = true ∧ noslBlks ([qblk ns]) = true) (hK : K (shiftA H.length (.agg [pref 0 ns])) (.news (([qblk ns]).map (shiftB H.length)))) : @WCall' Go.Proofs.Tryz.prog S 6 zs H ⟨K⟩ :=
  WCall_ro' hS hv (laws_toPool_c ns hl) rfl ho hK
/-- A copy of numbers that is made up to a place. -/
def upI (xs : List Int) (j : Nat) : List Int := xs.take j ++ List.replicate (xs.length - j) 0
theorem upI_len (xs : List Int) (j : Nat) (h : j ≤ xs.length) : (upI xs j).length = xs.length := by simp [upI]; omega
theorem upI_zero (xs : List Int) : upI xs 0 = List.replicate xs.length 0 := by simp [upI]
theorem upI_end (xs : List Int) : upI xs xs.length = xs := by simp [upI]
theorem upI_set (ns : List Int) (j : Nat) (h : j < ns.length) : (upI ns j).set j ns[j] = upI ns (j + 1) := by
  have hl : (ns.take j).length = j := by simp; omega
  have e : ns.length - j = (ns.length - (j + 1)) + 1 := by omega
  simp only [upI]
  rw [List.set_append_right _ _ (by omega), hl, Nat.sub_self, e, List.replicate_succ, List.set_cons_zero, List.take_succ_eq_append_getElem h, List.append_assoc]
  rfl
theorem ints_set (xs : List Int) (j : Nat) (n : Int) : (ints xs).set j (i6 n) = ints (xs.set j n) := by simp [ints, List.map_set]
@[simp] theorem ints_tells (H H' : List Blk) (g : List (Option Nat)) (xs : List Int) : Tells H H' g (ints xs) (ints xs) := Tells_scals _ (ints_scals xs)
@[simp] theorem ints_take (xs : List Int) : (ints xs).take xs.length = ints xs := List.take_of_length_le (by simp)
theorem ints_rep (n : Nat) : ints (List.replicate n 0) = List.replicate n (i6 0) := by simp [ints]
theorem laws_toIntS_c (xs : List Int) (hl : xs.length ≤ 4294967296) : T 7 [aI xs] [] (iref 0 xs) ([iblk xs]) := by
  refine semT' (S := S0) hm laws_toIntS_ok (Nat.le_of_ble_eq_true rfl) ?_
  unfold laws_toIntS; dsimp only
  have h1 : ((xs.length : Int)) * 8 ≤ 17592186044416 := by omega
  have h2 : (xs.length : Int) ≤ 4294967296 := by omega
  simp
  refine ck_intro' (by omega) ?_; simp
  rw [← ints_rep, ← upI_zero]
  refine WLoop_fam (fun j : Nat => [(0, aI xs), (3, A.ref 0 0 0 xs.length), (4, i6 j)]) (fun j => [⟨0, false, 1, ints (upI xs j), none⟩]) (fun j => xs.length - j)
    (fun j => j ≤ xs.length) ?_ 0 (Nat.zero_le _)
  intro j hj ih
  simp [upI_len xs j hj]
  refine br_intro' (fun h => ?_) (fun h => ?_) <;> (have h0 := h) <;> (try simp at h) <;> try simp [h0, h]
  · have hw : IntKind.i64.wrap ((j : Int) + 1) = j + 1 := wrap64 (by omega) (by omega)
    have h' := h
    simp [h', upI_len xs j hj]
    refine ck_intro' (by omega) ?_; simp
    rw [hw, ints_set, upI_set xs j h']
    exact ih (j + 1) h' (by omega)
  · have h0 : j = xs.length := by omega
    subst h0
    rw [upI_end]
    first | (refine LeV.tell [none] ?_ ?_ ?_ <;> (simp; done)) | (refine LeV.tell [some 0] ?_ ?_ ?_ <;> (simp; done)) | (refine LeV.tell [some 1] ?_ ?_ ?_ <;> (simp; done)) | (refine LeV.tell [some 2] ?_ ?_ ?_ <;> (simp; done)) | (refine LeV.tell [some 3] ?_ ?_ ?_ <;> (simp; done)) | (refine LeV.tell [some 4] ?_ ?_ ?_ <;> (simp; done)) | (refine LeV.tell [some 5] ?_ ?_ ?_ <;> (simp; done)) | (refine LeV.tell [some 6] ?_ ?_ ?_ <;> (simp; done)) | (refine LeV.tell [some 7] ?_ ?_ ?_ <;> (simp; done)) | (refine LeV.tell [some 8] ?_ ?_ ?_ <;> (simp; done)) | (refine LeV.tell [some 9] ?_ ?_ ?_ <;> (simp; done)) | (refine LeV.tell [some 10] ?_ ?_ ?_ <;> (simp; done)) | (refine LeV.tell [some 11] ?_ ?_ ?_ <;> (simp; done)) | (refine LeV.tell [some 12] ?_ ?_ ?_ <;> (simp; done)) | (refine LeV.tell [some 13] ?_ ?_ ?_ <;> (simp; done)) | (refine LeV.tell [some 14] ?_ ?_ ?_ <;> (simp; done)) | (refine LeV.tell [some 15] ?_ ?_ ?_ <;> (simp; done))
theorem laws_toIntS_k {xs : List Int} (hl : xs.length ≤ 4294967296) {S : FuncId → Bool} {H : List Blk} {K : A → Dl → Prop} {zs : List A} (hS : S 7 = false) (hv : viewL (viewA 8 H) zs = some [aI xs]) (ho : noOwns zs = true ∨ nosl (iref 0 xs) = true ∧ noslBlks ([iblk xs]) = true) (hK : K (shiftA H.length (iref 0 xs)) (.news (([iblk xs]).map (shiftB H.length)))) : @WCall' Go.Proofs.Tryz.prog S 7 zs H ⟨K⟩ :=
  WCall_ro' hS hv (laws_toIntS_c xs hl) rfl ho hK
theorem laws_eqNodeS_c (ns ms : List Nd) (hl : ns.length < 9223372036854775807) (hl2 : ms.length < 9223372036854775807) : T 31 [.sl ns.length (enc ns), .sl ms.length (enc ms)] [] (.bool (decide (ns = ms))) ([]) := by
  refine semT' (S := S0) hm laws_eqNodeS_ok (Nat.le_of_ble_eq_true rfl) ?_
  unfold laws_eqNodeS; dsimp only
  simp
  refine br_intro' (fun h => ?_) (fun h => ?_) <;> (try simp at h) <;> (try simp [h])
  · refine WLoop_fam (fun j : Nat => [(0, A.sl ns.length (enc ns)), (1, A.sl ms.length (enc ms)), (5, i6 j)]) (fun _ => []) (fun j => ns.length - j)
      (fun j => j ≤ ns.length ∧ ns.take j = ms.take j) ?_ 0 ⟨Nat.zero_le _, by simp⟩
    intro j ⟨hj, hf⟩ ih
    simp
    have hq : ns.length = ms.length := by omega
    refine br_intro' (fun h => ?_) (fun h => ?_) <;> (have h0 := h) <;> (try simp at h) <;> try simp [h0, h]
    · obtain ⟨r, hr⟩ := enc_at h
      have hm : j < ms.length := by omega
      obtain ⟨r2, hr2⟩ := enc_at hm
      have h3 : 3 ≤ ms.length * 3 - j * 3 := by omega
      have h4 : 3 ≤ ns.length * 3 - j * 3 := by omega
      have hw : IntKind.i64.wrap ((j : Int) + 1) = j + 1 := wrap64 (by omega) (by omega)
      have h' := h
      simp [h3, h4, hr, h', hr2, hm]
      refine laws_eqNode_call (n := ns[j]) (m := ms[j]) rfl ?_; simp
      first | (refine ck_intro' (by kernel_rfl) ?_; try simp) | skip
      refine br_intro' (fun g => ?_) (fun g => ?_) <;> simp at g <;> simp [g]
      · rw [hw]
        exact ih (j + 1) ⟨h', by rw [List.take_succ_eq_append_getElem h', List.take_succ_eq_append_getElem hm, hf, g]⟩ (by omega)
      · exact LeV.ro rfl rfl (by simp; intro e; subst e; exact g rfl)
    · have h0 : j = ns.length := by omega
      exact LeV.ro rfl rfl (by rw [h0, List.take_length, hq, List.take_length] at hf; simp [hf])
  · exact LeV.ro rfl rfl (by simp; intro e; rw [e] at h; exact h rfl)
theorem laws_eqNodeS_call {ns ms : List Nd} (hl : ns.length < 9223372036854775807) (hl2 : ms.length < 9223372036854775807) {S : FuncId → Bool} {H : List Blk} {K : A → Dl → Prop} (hS : S 31 = false) (hK : K (.bool (decide (ns = ms))) (.news [])) : @WCall' Go.Proofs.Tryz.prog S 31 [.sl ns.length (enc ns), .sl ms.length (enc ms)] H ⟨K⟩ :=
  WCall_pure hS (laws_eqNodeS_c ns ms hl hl2) (by simp) (by simp) (by simp) hK
theorem laws_eqNodeS_k {ns ms : List Nd} (hl : ns.length < 9223372036854775807) (hl2 : ms.length < 9223372036854775807) {S : FuncId → Bool} {H : List Blk} {K : A → Dl → Prop} {zs : List A} (hS : S 31 = false) (hv : viewL (viewA 8 H) zs = some [.sl ns.length (enc ns), .sl ms.length (enc ms)]) (ho : noOwns zs = true ∨ nosl (.bool (decide (ns = ms))) = true) (hK : K (.bool (decide (ns = ms))) (.news [])) : @WCall' Go.Proofs.Tryz.prog S 31 zs H ⟨K⟩ :=
  WCall_pure hS (laws_eqNodeS_c ns ms hl hl2) hv ho (by simp) hK
theorem laws_eqPool_c (ns ms : List Nd) (hl : ns.length < 9223372036854775807) (hl2 : ms.length < 9223372036854775807) : T 9 [aP ns, aP ms] [] (.bool (decide (ns = ms))) ([]) := by
  refine semT' (S := S0) hm laws_eqPool_ok (Nat.le_of_ble_eq_true rfl) ?_
  unfold laws_eqPool; dsimp only
  simp
  refine laws_eqNodeS_call (ns := ns) (ms := ms) hl hl2 rfl ?_; simp
  refine br_intro' (fun g => ?_) (fun g => ?_) <;> simp at g <;> simp [g]
  · exact LeV.ro rfl rfl (by simp)
  · exact LeV.ro rfl rfl (by simp [g])
theorem laws_eqPool_call {ns ms : List Nd} (hl : ns.length < 9223372036854775807) (hl2 : ms.length < 9223372036854775807) {S : FuncId → Bool} {H : List Blk} {K : A → Dl → Prop} (hS : S 9 = false) (hK : K (.bool (decide (ns = ms))) (.news [])) : @WCall' Go.Proofs.Tryz.prog S 9 [aP ns, aP ms] H ⟨K⟩ :=
  WCall_pure hS (laws_eqPool_c ns ms hl hl2) (by simp) (by simp) (by simp) hK
theorem laws_eqPool_k {ns ms : List Nd} (hl : ns.length < 9223372036854775807) (hl2 : ms.length < 9223372036854775807) {S : FuncId → Bool} {H : List Blk} {K : A → Dl → Prop} {zs : List A} (hS : S 9 = false) (hv : viewL (viewA 8 H) zs = some [aP ns, aP ms]) (ho : noOwns zs = true ∨ nosl (.bool (decide (ns = ms))) = true) (hK : K (.bool (decide (ns = ms))) (.news [])) : @WCall' Go.Proofs.Tryz.prog S 9 zs H ⟨K⟩ :=
  WCall_pure hS (laws_eqPool_c ns ms hl hl2) hv ho (by simp) hK
theorem laws_eqIntS_c (ns ms : List Int) (hl : ns.length < 9223372036854775807) (hl2 : ms.length < 9223372036854775807) : T 10 [aI ns, aI ms] [] (.bool (decide (ns = ms))) ([]) := by
  refine semT' (S := S0) hm laws_eqIntS_ok (Nat.le_of_ble_eq_true rfl) ?_
  unfold laws_eqIntS; dsimp only
  simp
  refine br_intro' (fun h => ?_) (fun h => ?_) <;> (try simp at h) <;> (try simp [h])
  · refine WLoop_fam (fun j : Nat => [(0, aI ns), (1, aI ms), (5, i6 j)]) (fun _ => []) (fun j => ns.length - j)
      (fun j => j ≤ ns.length ∧ ns.take j = ms.take j) ?_ 0 ⟨Nat.zero_le _, by simp⟩
    intro j ⟨hj, hf⟩ ih
    simp
    have hq : ns.length = ms.length := by omega
    refine br_intro' (fun h => ?_) (fun h => ?_) <;> (have h0 := h) <;> (try simp at h) <;> try simp [h0, h]
    · have hm : j < ms.length := by omega
      have hw : IntKind.i64.wrap ((j : Int) + 1) = j + 1 := wrap64 (by omega) (by omega)
      have h' := h
      simp [h', hm]
      first | (refine ck_intro' (by kernel_rfl) ?_; try simp) | skip
      refine br_intro' (fun g => ?_) (fun g => ?_) <;> simp at g <;> simp [g]
      · rw [hw]
        exact ih (j + 1) ⟨h', by rw [List.take_succ_eq_append_getElem h', List.take_succ_eq_append_getElem hm, hf, g]⟩ (by omega)
      · exact LeV.ro rfl rfl (by simp; intro e; subst e; exact g rfl)
    · have h0 : j = ns.length := by omega
      exact LeV.ro rfl rfl (by rw [h0, List.take_length, hq, List.take_length] at hf; simp [hf])
  · exact LeV.ro rfl rfl (by simp; intro e; rw [e] at h; exact h rfl)
theorem laws_eqIntS_call {ns ms : List Int} (hl : ns.length < 9223372036854775807) (hl2 : ms.length < 9223372036854775807) {S : FuncId → Bool} {H : List Blk} {K : A → Dl → Prop} (hS : S 10 = false) (hK : K (.bool (decide (ns = ms))) (.news [])) : @WCall' Go.Proofs.Tryz.prog S 10 [aI ns, aI ms] H ⟨K⟩ :=
  WCall_pure hS (laws_eqIntS_c ns ms hl hl2) (by simp) (by simp) (by simp) hK
theorem laws_eqIntS_k {ns ms : List Int} (hl : ns.length < 9223372036854775807) (hl2 : ms.length < 9223372036854775807) {S : FuncId → Bool} {H : List Blk} {K : A → Dl → Prop} {zs : List A} (hS : S 10 = false) (hv : viewL (viewA 8 H) zs = some [aI ns, aI ms]) (ho : noOwns zs = true ∨ nosl (.bool (decide (ns = ms))) = true) (hK : K (.bool (decide (ns = ms))) (.news [])) : @WCall' Go.Proofs.Tryz.prog S 10 zs H ⟨K⟩ :=
  WCall_pure hS (laws_eqIntS_c ns ms hl hl2) hv ho (by simp) hK
theorem szF_neg {x : Int} {n : Nat} : szF x n < 0 ↔ x < n := by unfold szF; split <;> omega
theorem szF_pos {x : Int} {n : Nat} (h : ¬ x < n) : szF x n = x - n := by unfold szF; rw [if_neg (by omega)]
/-- The size of a stream. -/
def szStr (s : St) (x : Int) : Int := if x < s.pool.length + s.know.length + s.sent.length + s.got.length then -1 else x - (s.pool.length + s.know.length + s.sent.length + s.got.length)
theorem St_eq {x y : St} : x = y ↔ x.pool = y.pool ∧ x.know = y.know ∧ x.out = y.out ∧ x.inn = y.inn ∧ x.sent = y.sent ∧ x.got = y.got := by cases x; cases y; simp
end Go.Proofs.YtpohfpnlepmebaaGreatDoor.C

set_option linter.unusedVariables false
set_option linter.unusedSimpArgs false
namespace Go.Proofs.YtpohfpnlepmebaaGreatDoor.C
open Go.Sym Go.Proofs.YtpohfpnlepmebaaGreatDoor.I
def mkN (k : Int) : Nat → List Nd
  | 0 => []
  | n + 1 => mkN k n ++ [⟨k + 3 * n, k + 3 * n + 1, k + 3 * n + 2⟩]
@[simp] theorem mkN_len (k : Int) (n : Nat) : (mkN k n).length = n := by induction n with | zero => rfl | succ n ih => simp [mkN, ih]
@[simp] theorem mkN_take (k : Int) (n : Nat) : (enc (mkN k n)).take (n * 3) = enc (mkN k n) := List.take_of_length_le (by simp)
theorem mkN_get (k : Int) : ∀ (n j : Nat) (h : j < (mkN k n).length), (mkN k n)[j] = ⟨k + 3 * j, k + 3 * j + 1, k + 3 * j + 2⟩
  | 0, j, h => by simp at h
  | n + 1, j, h => by
    simp only [mkN]
    rcases Nat.lt_or_ge j n with g | g
    · rw [List.getElem_append_left (by simpa using g)]
      exact mkN_get k n j (by simpa using g)
    · have : j = n := by simp at h; omega
      subst this
      simp
theorem mkN_set (k : Int) (ns : List Nd) (j : Nat) (h : j < ns.length) : (mkN k j ++ ns.drop j).set j ⟨k + 3 * j, k + 3 * j + 1, k + 3 * j + 2⟩ = mkN k (j + 1) ++ ns.drop (j + 1) := by
  rw [List.set_append_right _ _ (by simp), mkN_len, Nat.sub_self, List.drop_eq_getElem_cons h, List.set_cons_zero]
  simp [mkN]
theorem set_self {α : Type} {H : List α} {n : Nat} {x : α} (h : H[n]? = some x) : H.set n x = H := by
  apply List.ext_getElem?
  intro i
  by_cases e : n = i
  · subst e
    rw [h, List.getElem?_set_self (List.getElem?_eq_some_iff.1 h).1]
  · rw [List.getElem?_set_ne e]
theorem laws_markNodeS_m (H : List Blk) (nb v : Nat) (ro : Bool) (ns : List Nd) (k : Int) (hH : H[nb]? = some ⟨v, ro, 3, enc ns, none⟩) (hro : ro = true → ns = []) (hl : ns.length ≤ 4294967296) (hk : 0 ≤ k) (hk2 : k ≤ 4294967296) : T 32 [.ref nb v 0 ns.length, i6 k] (H) (i6 (k + 3 * ns.length)) (H.set nb ⟨v, ro, 3, enc (mkN k ns.length), none⟩) := by
  refine semT' (S := S0) hm laws_markNodeS_ok (Nat.le_of_ble_eq_true rfl) ?_
  unfold laws_markNodeS; dsimp only
  have hlt : nb < H.length := (List.getElem?_eq_some_iff.1 hH).1
  have hs0 : H.set nb ⟨v, ro, 3, enc (mkN k 0 ++ ns.drop 0), none⟩ = H := set_self (by simpa [mkN] using hH)
  simp
  generalize hB : H.length = B
  rw [← hs0]
  refine WLoop_fam (fun p : Nat × Int => [(0, A.ref nb v 0 ns.length), (1, i6 p.2), (5, i6 p.1)]) (fun p => H.set nb ⟨v, ro, 3, enc (mkN k p.1 ++ ns.drop p.1), none⟩) (fun p => ns.length - p.1)
    (fun p => p.1 ≤ ns.length ∧ p.2 = k + 3 * p.1) ?_ (0, k) ⟨Nat.zero_le _, by simp⟩
  rintro ⟨j, k'⟩ ⟨hj, hk'⟩ ih
  simp at hk' hj
  subst hk'
  have hlen : (mkN k j ++ ns.drop j).length = ns.length := by simp; omega
  simp [hlt]
  refine br_intro' (fun h => ?_) (fun h => ?_) <;> (have h0 := h) <;> (try simp at h) <;> try simp [h0, h]
  · have h' := h
    have hr : ro = false := by cases ro with | false => rfl | true => rw [hro rfl] at h; simp at h
    subst hr
    have h3 : j * 3 < ns.length * 3 := by omega
    have h4 : j * 3 + 1 < ns.length * 3 := by omega
    have h5 : j * 3 + 2 < ns.length * 3 := by omega
    have w1 : IntKind.i64.wrap (k + 3 * (j : Int) + 1) = k + 3 * j + 1 := wrap64 (by omega) (by omega)
    have w2 : IntKind.i64.wrap (k + 3 * (j : Int) + 1 + 1) = k + 3 * j + 2 := by rw [wrap64 (by omega) (by omega)]; omega
    have w3 : IntKind.i64.wrap (k + 3 * (j : Int) + 2 + 1) = k + 3 * j + 3 := by rw [wrap64 (by omega) (by omega)]; omega
    have hw : IntKind.i64.wrap ((j : Int) + 1) = j + 1 := wrap64 (by omega) (by omega)
    have hc : (j + (ns.length - j)) * 3 = ns.length * 3 := by rw [Nat.add_sub_cancel' hj]
    simp [h', hlt, hc, w1, w2, w3, h3, h4, h5]
    refine ck_intro' (by omega) ?_; simp [h', hlt, hc, w1, w2, w3, h3, h4, h5]
    refine ck_intro' (by omega) ?_; simp [h', hlt, hc, w1, w2, w3, h3, h4, h5]
    refine ck_intro' (by omega) ?_; simp [h', hlt, hc, w1, w2, w3, h3, h4, h5, hw]
    have e3 := enc_set (mkN k j ++ ns.drop j) j ⟨k + 3 * j, k + 3 * j + 1, k + 3 * j + 2⟩
    rw [mkN_set k ns j h'] at e3
    rw [e3]
    exact ih (j + 1, k + 3 * j + 3) ⟨h', by push_cast; omega⟩ (by simp; omega)
  · have e : j = ns.length := by omega
    subst e
    simp
    exact LeV.refl _ _ _
theorem shift_len {H T : List Blk} {nb : Nat} {x : Blk} (h : nb < H.length) : (H ++ T).set nb x = H.set nb x ++ T := set_left h x
theorem laws_markPool_m (H : List Blk) (nb v : Nat) (ro : Bool) (ns : List Nd) (k : Int) (hH : H[nb]? = some ⟨v, ro, 3, enc ns, none⟩) (hro : ro = true → ns = []) (hl : ns.length ≤ 4294967296) (hk : 0 ≤ k) (hk2 : k ≤ 4294967296) (hcl : Closed1 H.length H = true) : T 11 [.agg [.ref nb v 0 ns.length], i6 k] (H) (i6 (k + 3 * ns.length)) (H.set nb ⟨v, ro, 3, enc (mkN k ns.length), none⟩) := by
  refine semT' (S := (fun f => [32].contains f)) hm laws_markPool_ok (Nat.le_of_ble_eq_true rfl) ?_
  unfold laws_markPool; dsimp only
  have hlt : nb < H.length := (List.getElem?_eq_some_iff.1 hH).1
  simp
  refine WCall_t' rfl [nb] (laws_markNodeS_m (H ++ [_]) nb v ro ns k (by rw [get_left hlt]; exact hH) hro hl hk hk2) (by simp) (fun b hb _ => by simp at hb; rw [List.getElem?_set_ne (Ne.symm hb)]) ?_
  simp [set_left hlt]
  exact LeV.drop (by simp) (by simpa using Closed1_set (by simp) _ _ hcl) (by simp)
theorem enc_gets {ns : List Nd} {j : Nat} (h : j < ns.length) : (enc ns)[j * 3]? = some (i6 ns[j].k) ∧ (enc ns)[j * 3 + 1]? = some (i6 ns[j].a) ∧ (enc ns)[j * 3 + 2]? = some (i6 ns[j].b) := by
  obtain ⟨r, hr⟩ := enc_at h
  have e : ∀ i, (enc ns)[j * 3 + i]? = (i6 ns[j].k :: i6 ns[j].a :: i6 ns[j].b :: r)[i]? := fun i => by rw [← hr, List.getElem?_drop]
  exact ⟨e 0, e 1, e 2⟩
theorem enc_k {ns : List Nd} {j : Nat} (h : j < ns.length) {h' : j * 3 < (enc ns).length} : (enc ns)[j * 3] = i6 ns[j].k := by
  have := (enc_gets h).1
  rw [List.getElem?_eq_getElem h'] at this
  simpa using this
theorem enc_a {ns : List Nd} {j : Nat} (h : j < ns.length) {h' : j * 3 + 1 < (enc ns).length} : (enc ns)[j * 3 + 1] = i6 ns[j].a := by
  have := (enc_gets h).2.1
  rw [List.getElem?_eq_getElem h'] at this
  simpa using this
theorem enc_b {ns : List Nd} {j : Nat} (h : j < ns.length) {h' : j * 3 + 2 < (enc ns).length} : (enc ns)[j * 3 + 2] = i6 ns[j].b := by
  have := (enc_gets h).2.2
  rw [List.getElem?_eq_getElem h'] at this
  simpa using this
theorem laws_heldNodeS_c (n : Nat) (k : Int) (hl : n ≤ 4294967296) (hk : 0 ≤ k) (hk2 : k ≤ 4294967296) : T 33 [.sl n (enc (mkN k n)), i6 k] [] (i6 (k + 3 * n)) ([]) := by
  refine semT' (S := S0) hm laws_heldNodeS_ok (Nat.le_of_ble_eq_true rfl) ?_
  unfold laws_heldNodeS; dsimp only
  simp
  refine WLoop_fam (fun p : Nat × Int => [(0, .sl n (enc (mkN k n))), (1, i6 p.2), (5, i6 p.1)]) (fun _ => []) (fun p => n - p.1)
    (fun p => p.1 ≤ n ∧ p.2 = k + 3 * p.1) ?_ (0, k) ⟨Nat.zero_le _, by simp⟩
  rintro ⟨j, k'⟩ ⟨hj, hk'⟩ ih
  simp at hk' hj
  subst hk'
  simp
  refine br_intro' (fun h => ?_) (fun h => ?_) <;> (have h0 := h) <;> (try simp at h) <;> try simp [h0, h]
  · have h' := h
    obtain ⟨r, hr⟩ := enc_at (ns := mkN k n) (j := j) (by simpa using h)
    rw [mkN_get] at hr
    have h3 : 3 ≤ n * 3 - j * 3 := by omega
    have h4 : j * 3 < n * 3 := by omega
    have w1 : IntKind.i64.wrap (k + 3 * (j : Int) + 1) = k + 3 * j + 1 := wrap64 (by omega) (by omega)
    have w2 : IntKind.i64.wrap (k + 3 * (j : Int) + 1 + 1) = k + 3 * j + 2 := by rw [wrap64 (by omega) (by omega)]; omega
    have w3 : IntKind.i64.wrap (k + 3 * (j : Int) + 2 + 1) = k + 3 * j + 3 := by rw [wrap64 (by omega) (by omega)]; omega
    have hw : IntKind.i64.wrap ((j : Int) + 1) = j + 1 := wrap64 (by omega) (by omega)
    have hj' : j < (mkN k n).length := by simpa using h
    have h5 : j * 3 + 1 < n * 3 := by omega
    have h6 : j * 3 + 2 < n * 3 := by omega
    simp [h', h3, h4, h5, h6, enc_k hj', enc_a hj', enc_b hj', mkN_get, w1, w2, w3, hw]
    exact ih (j + 1, k + 3 * j + 3) ⟨h', by push_cast; omega⟩ (by simp; omega)
  · have e : j = n := by omega
    subst e
    exact LeV.ro rfl rfl (by simp)
theorem laws_heldNodeS_call {n : Nat} {k : Int} (hl : n ≤ 4294967296) (hk : 0 ≤ k) (hk2 : k ≤ 4294967296) {S : FuncId → Bool} {H : List Blk} {K : A → Dl → Prop} (hS : S 33 = false) (hK : K (i6 (k + 3 * n)) (.news [])) : @WCall' Go.Proofs.Tryz.prog S 33 [.sl n (enc (mkN k n)), i6 k] H ⟨K⟩ :=
  WCall_pure hS (laws_heldNodeS_c n k hl hk hk2) (by simp) (by simp) (by simp) hK
theorem laws_heldNodeS_k {n : Nat} {k : Int} (hl : n ≤ 4294967296) (hk : 0 ≤ k) (hk2 : k ≤ 4294967296) {S : FuncId → Bool} {H : List Blk} {K : A → Dl → Prop} {zs : List A} (hS : S 33 = false) (hv : viewL (viewA 8 H) zs = some [.sl n (enc (mkN k n)), i6 k]) (ho : noOwns zs = true ∨ nosl (i6 (k + 3 * n)) = true) (hK : K (i6 (k + 3 * n)) (.news [])) : @WCall' Go.Proofs.Tryz.prog S 33 zs H ⟨K⟩ :=
  WCall_pure hS (laws_heldNodeS_c n k hl hk hk2) hv ho (by simp) hK
theorem laws_heldPool_c (n : Nat) (k : Int) (hl : n ≤ 4294967296) (hk : 0 ≤ k) (hk2 : k ≤ 4294967296) : T 13 [.agg [.sl n (enc (mkN k n))], i6 k] [] (i6 (k + 3 * n)) ([]) := by
  refine semT' (S := S0) hm laws_heldPool_ok (Nat.le_of_ble_eq_true rfl) ?_
  unfold laws_heldPool; dsimp only
  simp
  refine laws_heldNodeS_call (n := n) (k := k) hl hk hk2 rfl ?_; simp
  have e : ¬ k + 3 * (n : Int) < 0 := by omega
  simp [e]
  exact LeV.ro rfl rfl (by simp)
theorem laws_heldPool_call {n : Nat} {k : Int} (hl : n ≤ 4294967296) (hk : 0 ≤ k) (hk2 : k ≤ 4294967296) {S : FuncId → Bool} {H : List Blk} {K : A → Dl → Prop} (hS : S 13 = false) (hK : K (i6 (k + 3 * n)) (.news [])) : @WCall' Go.Proofs.Tryz.prog S 13 [.agg [.sl n (enc (mkN k n))], i6 k] H ⟨K⟩ :=
  WCall_pure hS (laws_heldPool_c n k hl hk hk2) (by simp) (by simp) (by simp) hK
theorem laws_heldPool_k {n : Nat} {k : Int} (hl : n ≤ 4294967296) (hk : 0 ≤ k) (hk2 : k ≤ 4294967296) {S : FuncId → Bool} {H : List Blk} {K : A → Dl → Prop} {zs : List A} (hS : S 13 = false) (hv : viewL (viewA 8 H) zs = some [.agg [.sl n (enc (mkN k n))], i6 k]) (ho : noOwns zs = true ∨ nosl (i6 (k + 3 * n)) = true) (hK : K (i6 (k + 3 * n)) (.news [])) : @WCall' Go.Proofs.Tryz.prog S 13 zs H ⟨K⟩ :=
  WCall_pure hS (laws_heldPool_c n k hl hk hk2) hv ho (by simp) hK
end Go.Proofs.YtpohfpnlepmebaaGreatDoor.C

set_option linter.unusedVariables false
set_option linter.unusedSimpArgs false
set_option maxRecDepth 4000
namespace Go.Proofs.YtpohfpnlepmebaaGreatDoor.C
open Go.Sym Go.Proofs.YtpohfpnlepmebaaGreatDoor.I
theorem hasF_nat {m : Nat} {t : Int} (h : hasF m t = true) : ∃ j : Nat, t = j ∧ j < m := by
  simp [hasF, inF] at h
  exact ⟨t.toNat, by omega, by omega⟩
def ndG (ns : List Nd) (t : Int) : Nd := ns.getD t.toNat ⟨0, 0, 0⟩
theorem ndG_at {ns : List Nd} {j : Nat} (h : j < ns.length) : ndG ns (j : Int) = ns[j] := by simp [ndG, h]
/-- A shared key's two parts. -/
def raiF (ns : List Nd) (t x : Int) : List Nd × Int := if hasF ns.length t = true ∧ hasF ns.length x = true ∧ (ndG ns t).k = 7 then addF ns ⟨8, x, (ndG ns t).a⟩ else (ns, -1)
theorem spec_l3Raise_c (ns : List Nd) (t x : Int) (hp : poolF ns = true) : T 70 [aP ns, i6 t, i6 x] [] (.tup [aP (raiF ns t x).1, i6 (raiF ns t x).2]) ([]) := by
  refine semT' (S := S0) hm spec_l3Raise_ok (Nat.le_of_ble_eq_true rfl) ?_
  unfold spec_l3Raise; dsimp only
  have hl := poolF_len hp
  simp
  refine spec_l1Has_k (ns := ns) (t := t) (by omega) rfl (by simp) (by simp) ?_; simp
  rcases Bool.eq_false_or_eq_true (hasF ns.length t) with q | q <;> simp [q]
  · refine spec_l1Has_k (ns := ns) (t := x) (by omega) rfl (by simp) (by simp) ?_; simp
    rcases Bool.eq_false_or_eq_true (hasF ns.length x) with r | r <;> simp [r]
    · obtain ⟨j, rfl, hj⟩ := hasF_nat q
      obtain ⟨e, he⟩ := enc_at hj
      have h3 : 3 ≤ ns.length * 3 - j * 3 := by omega
      simp [hj, he, h3]
      refine br_intro' (fun u => ?_) (fun u => ?_) <;> (have u0 := u) <;> simp only [decide_eq_true_eq, decide_eq_false_iff_not] at u <;> simp [u0, hj, he, h3]
      · rw [show raiF ns j x = addF ns ⟨8, x, ns[j].a⟩ by simp only [raiF, ndG_at hj]; exact if_pos ⟨q, r, u⟩]
        have h4 : 1 ≤ ns.length * 3 - (j * 3 + 1) := by omega
        have ga : (enc ns)[j * 3 + 1]? = some (i6 ns[j].a) := by
          have := congrArg (·[1]?) he
          simpa [List.getElem?_drop] using this
        refine spec_l1Add_k (ns := ns) (n := ⟨8, x, ns[j].a⟩) hp rfl (by simp) (by simp) ?_; simp
        repeat (refine ck_intro' (by first | omega | (simp; omega) | kernel_rfl) ?_; try simp)
        exact LeV.ro rfl rfl (by simp)
      · rw [show raiF ns j x = (ns, -1) by simp only [raiF, ndG_at hj]; exact if_neg (fun h => u h.2.2)]
        exact LeV.ro rfl rfl (by simp)
    · exact LeV.ro rfl rfl (by simp [raiF, r])
  · exact LeV.ro rfl rfl (by simp [raiF, q])
theorem spec_l3Raise_call {ns : List Nd} {t x : Int} (hp : poolF ns = true) {S : FuncId → Bool} {H : List Blk} {K : A → Dl → Prop} (hS : S 70 = false) (hK : K (.tup [aP (raiF ns t x).1, i6 (raiF ns t x).2]) (.news [])) : @WCall' Go.Proofs.Tryz.prog S 70 [aP ns, i6 t, i6 x] H ⟨K⟩ :=
  WCall_pure hS (spec_l3Raise_c ns t x hp) (by simp) (by simp) (by simp) hK
theorem spec_l3Raise_k {ns : List Nd} {t x : Int} (hp : poolF ns = true) {S : FuncId → Bool} {H : List Blk} {K : A → Dl → Prop} {zs : List A} (hS : S 70 = false) (hv : viewL (viewA 8 H) zs = some [aP ns, i6 t, i6 x]) (ho : noOwns zs = true ∨ nosl (.tup [aP (raiF ns t x).1, i6 (raiF ns t x).2]) = true) (hK : K (.tup [aP (raiF ns t x).1, i6 (raiF ns t x).2]) (.news [])) : @WCall' Go.Proofs.Tryz.prog S 70 zs H ⟨K⟩ :=
  WCall_pure hS (spec_l3Raise_c ns t x hp) hv ho (by simp) hK
theorem impl_Pool_raise_m (H : List Blk) (b off nb vb eb : Nat) (cb : List A) (ns : List Nd) (t x : Int) (h : PIn H b off nb cb) (hl : ns.length ≤ 500) : T 65 [.ptr b vb off, i6 t, i6 x] (pset H b off nb vb eb cb ns) (i6 (raiF ns t x).2) (pset H b off nb vb eb cb (raiF ns t x).1) := by
  refine semT' (S := (fun f => [66].contains f)) hm impl_Pool_raise_ok (Nat.le_of_ble_eq_true rfl) ?_
  unfold impl_Pool_raise; dsimp only
  have gb := h.at_b vb eb ns
  have gn := h.at_nb vb eb ns
  obtain ⟨rr, hrr0⟩ := h.rest
  have hrr : viewL (viewA 7 (pset H b off nb vb eb cb ns)) (cb.drop (off + 1)) = some rr := hrr0 _ fun q hq h1 h2 => by
    simp only [pset]
    rw [List.getElem?_set_ne (Ne.symm h1), List.getElem?_set_ne (Ne.symm h2)]
  have hd := set_drop cb off (pref nb ns) h.olt
  simp
  have fin0 : raiF ns t x = (ns, -1) → LeV H.length (i6 (-1)) (pset H b off nb vb eb cb ns) (i6 (raiF ns t x).2) (pset H b off nb vb eb cb (raiF ns t x).1) := by
    intro e
    rw [e]
    exact LeV.refl _ _ _
  refine WCall_pure rfl (impl_Pool_isTerm_c ns rr t (by omega)) (by simp [gb, gn, hd, hrr]) (by simp) (by simp) ?_; simp
  rcases Bool.eq_false_or_eq_true (hasF ns.length t) with q | q <;> simp [q]
  · refine WCall_pure rfl (impl_Pool_isTerm_c ns rr x (by omega)) (by simp [gb, gn, hd, hrr]) (by simp) (by simp) ?_; simp
    rcases Bool.eq_false_or_eq_true (hasF ns.length x) with r | r <;> simp [r]
    · obtain ⟨j, rfl, hj⟩ := hasF_nat q
      obtain ⟨e, he⟩ := enc_at hj
      have h3 : 3 ≤ ns.length * 3 - j * 3 := by omega
      simp [gb, gn, hd, hj, he, h3]
      refine br_intro' (fun u => ?_) (fun u => ?_) <;> (have u0 := u) <;> simp only [decide_eq_true_eq, decide_eq_false_iff_not] at u <;> simp [u0, gb, gn, hd, hj, he, h3]
      · have h4 : 1 ≤ ns.length * 3 - (j * 3 + 1) := by omega
        have hz : raiF ns j x = addF ns ⟨8, x, ns[j].a⟩ := by simp only [raiF, ndG_at hj]; exact if_pos ⟨q, r, u⟩
        rw [hz]
        have ga := (enc_gets hj).2.1
        simp [ga]
        refine pool_call rfl b off nb vb eb cb ns (addF ns ⟨8, x, ns[j].a⟩).1 (h.pset vb eb ns) (pset_pset h vb eb ns ns) (by rw [pset_pset h, pset_pset h]; exact impl_Pool_add_m H b off nb vb eb cb ns 8 x ns[j].a h hl) ?_
        simp [pset_pset h]
        exact LeV.refl _ _ _
      · exact fin0 (by simp only [raiF, ndG_at hj]; exact if_neg (fun g => u g.2.2))
    · exact fin0 (by simp [raiF, r])
  · exact fin0 (by simp [raiF, q])
end Go.Proofs.YtpohfpnlepmebaaGreatDoor.C

set_option linter.unusedVariables false
set_option linter.unusedSimpArgs false
set_option maxRecDepth 4000
namespace Go.Proofs.YtpohfpnlepmebaaGreatDoor.C
open Go.Sym Go.Proofs.YtpohfpnlepmebaaGreatDoor.I
def okV (m : Nat) (ks : List Int) (i : Nat) : Bool := decide (ks.getD i 0 = -1) || hasF m (ks.getD i 0)
def envF (m : Nat) (ks : List Int) : Bool := allF (okV m ks) ks.length 0 && decide (ks.length = 26)
theorem okV_at {m : Nat} {ks : List Int} {j : Nat} (h : j < ks.length) : okV m ks j = (decide (ks[j] = -1) || hasF m ks[j]) := by simp [okV, h]
theorem spec_l11Env_c (ns : List Nd) (ks : List Int) (hl : ns.length < 9223372036854775807) (hk : ks.length < 9223372036854775807) : T 18 [aP ns, aI ks] [] (.bool (envF ns.length ks)) ([]) := by
  refine semT' (S := S0) hm spec_l11Env_ok (Nat.le_of_ble_eq_true rfl) ?_
  unfold spec_l11Env; dsimp only
  simp
  refine br_intro' (fun u => ?_) (fun u => ?_) <;> (have u0 := u) <;> simp only [decide_eq_true_eq, decide_eq_false_iff_not] at u <;> simp [u0]
  case refine_2 => exact LeV.ro rfl rfl (by simp [envF]; intro _; omega)
  have h26 : ks.length = 26 := by omega
  refine WLoop_fam (fun j : Nat => [(1, aI ks), (2, A.ptr 0 0 0), (5, i6 j)]) (fun _ => [⟨0, false, 1, [A.sl ns.length (enc ns)], none⟩]) (fun j => ks.length - j)
    (fun j => j ≤ ks.length ∧ allF (okV ns.length ks) ks.length 0 = allF (okV ns.length ks) ks.length j) ?_ 0 ⟨Nat.zero_le _, rfl⟩
  intro j ⟨hj, hf⟩ ih
  simp
  refine br_intro' (fun v => ?_) (fun v => ?_) <;> (have v0 := v) <;> simp only [decide_eq_true_eq, decide_eq_false_iff_not] at v <;> simp [v0]
  · have h' : j < ks.length := by omega
    have hw := wrap_succ (n := j) (by omega)
    by_cases g : ks[j] = -1
    · simp [h', g, hw]
      repeat (refine ck_intro' (by first | omega | (simp; omega) | kernel_rfl) ?_; try simp)
      try rw [hw]
      exact ih (j + 1) ⟨h', by rw [hf, allF_at h', okV_at h', g]; simp⟩ (by omega)
    · simp [h', g]
      refine spec_l1Has_k (ns := ns) (t := ks[j]) (by omega) rfl (by simp) (by simp) ?_; simp
      repeat (refine ck_intro' (by first | omega | (simp; omega) | kernel_rfl) ?_; try simp)
      rcases Bool.eq_false_or_eq_true (hasF ns.length ks[j]) with q | q <;> simp [q, hw]
      · exact ih (j + 1) ⟨h', by rw [hf, allF_at h', okV_at h', q]; simp⟩ (by omega)
      · exact LeV.ro rfl rfl (by simp only [envF]; rw [hf, allF_at h', okV_at h', q]; simp [g])
  · exact LeV.ro rfl rfl (by simp only [envF]; rw [hf, allF_end (by omega)]; simp [h26])
theorem spec_l11Env_call {ns : List Nd} {ks : List Int} (hl : ns.length < 9223372036854775807) (hk : ks.length < 9223372036854775807) {S : FuncId → Bool} {H : List Blk} {K : A → Dl → Prop} (hS : S 18 = false) (hK : K (.bool (envF ns.length ks)) (.news [])) : @WCall' Go.Proofs.Tryz.prog S 18 [aP ns, aI ks] H ⟨K⟩ :=
  WCall_pure hS (spec_l11Env_c ns ks hl hk) (by simp) (by simp) (by simp) hK
theorem spec_l11Env_k {ns : List Nd} {ks : List Int} (hl : ns.length < 9223372036854775807) (hk : ks.length < 9223372036854775807) {S : FuncId → Bool} {H : List Blk} {K : A → Dl → Prop} {zs : List A} (hS : S 18 = false) (hv : viewL (viewA 8 H) zs = some [aP ns, aI ks]) (ho : noOwns zs = true ∨ nosl (.bool (envF ns.length ks)) = true) (hK : K (.bool (envF ns.length ks)) (.news [])) : @WCall' Go.Proofs.Tryz.prog S 18 zs H ⟨K⟩ :=
  WCall_pure hS (spec_l11Env_c ns ks hl hk) hv ho (by simp) hK
theorem impl_EnvOk_c (ns : List Nd) (ks : List Int) (hl : ns.length < 9223372036854775807) (hk : ks.length < 9223372036854775807) : T 26 [aP ns, aI ks] [] (.bool (envF ns.length ks && poolF ns)) ([]) := by
  refine semT' (S := S0) hm impl_EnvOk_ok (Nat.le_of_ble_eq_true rfl) ?_
  unfold impl_EnvOk; dsimp only
  simp
  refine WLoop_fam (fun j : Nat => [(1, aI ks), (2, A.ptr 0 0 0), (7, aI ks), (8, i6 ks.length), (9, i6 j)]) (fun _ => [⟨0, false, 1, [A.sl ns.length (enc ns)], none⟩]) (fun j => ks.length - j)
    (fun j => j ≤ ks.length ∧ allF (okV ns.length ks) ks.length 0 = allF (okV ns.length ks) ks.length j) ?_ 0 ⟨Nat.zero_le _, rfl⟩
  intro j ⟨hj, hf⟩ ih
  simp
  refine br_intro' (fun v => ?_) (fun v => ?_) <;> (have v0 := v) <;> simp only [decide_eq_true_eq, decide_eq_false_iff_not] at v <;> simp [v0]
  · have h' : j < ks.length := by omega
    have hw := wrap_succ (n := j) (by omega)
    by_cases g : ks[j] = -1
    · simp [h', g, hw]
      repeat (refine ck_intro' (by first | omega | (simp; omega) | kernel_rfl) ?_; try simp)
      try rw [hw]
      exact ih (j + 1) ⟨h', by rw [hf, allF_at h', okV_at h', g]; simp⟩ (by omega)
    · simp [h', g]
      refine WCall_pure rfl (impl_Pool_isTerm_c ns [] ks[j] hl) (by simp) (by simp) (by simp) ?_; simp
      repeat (refine ck_intro' (by first | omega | (simp; omega) | kernel_rfl) ?_; try simp)
      rcases Bool.eq_false_or_eq_true (hasF ns.length ks[j]) with q | q <;> simp [q, hw]
      · exact ih (j + 1) ⟨h', by rw [hf, allF_at h', okV_at h', q]; simp⟩ (by omega)
      · exact LeV.ro rfl rfl (by simp only [envF]; rw [hf, allF_at h', okV_at h', q]; simp [g])
  · have he : allF (okV ns.length ks) ks.length 0 = true := by rw [hf, allF_end (by omega)]
    by_cases c : ks.length = 26
    · have c0 : decide ((ks.length : Int) = 26) = true := decide_eq_true (by omega)
      simp [c0]
      refine impl_PoolOk_call rfl ?_; simp
      exact LeV.ro rfl rfl (by simp only [envF]; rw [he]; simp [c])
    · have c0 : decide ((ks.length : Int) = 26) = false := decide_eq_false (by omega)
      simp [c0]
      exact LeV.ro rfl rfl (by simp [envF, c])
theorem impl_EnvOk_call {ns : List Nd} {ks : List Int} (hl : ns.length < 9223372036854775807) (hk : ks.length < 9223372036854775807) {S : FuncId → Bool} {H : List Blk} {K : A → Dl → Prop} (hS : S 26 = false) (hK : K (.bool (envF ns.length ks && poolF ns)) (.news [])) : @WCall' Go.Proofs.Tryz.prog S 26 [aP ns, aI ks] H ⟨K⟩ :=
  WCall_pure hS (impl_EnvOk_c ns ks hl hk) (by simp) (by simp) (by simp) hK
theorem impl_EnvOk_k {ns : List Nd} {ks : List Int} (hl : ns.length < 9223372036854775807) (hk : ks.length < 9223372036854775807) {S : FuncId → Bool} {H : List Blk} {K : A → Dl → Prop} {zs : List A} (hS : S 26 = false) (hv : viewL (viewA 8 H) zs = some [aP ns, aI ks]) (ho : noOwns zs = true ∨ nosl (.bool (envF ns.length ks && poolF ns)) = true) (hK : K (.bool (envF ns.length ks && poolF ns)) (.news [])) : @WCall' Go.Proofs.Tryz.prog S 26 zs H ⟨K⟩ :=
  WCall_pure hS (impl_EnvOk_c ns ks hl hk) hv ho (by simp) hK
end Go.Proofs.YtpohfpnlepmebaaGreatDoor.C
