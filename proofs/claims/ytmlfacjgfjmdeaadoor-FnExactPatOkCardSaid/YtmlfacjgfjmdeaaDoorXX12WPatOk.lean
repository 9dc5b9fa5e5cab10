/- The reference's reader of patterns. Conditions: those that each theorem names. -/
import Derived.Test.YtmlfacjgfjmdeaaDoorXX4X11
import Derived.Test.YtmlfacjgfjmdeaaDoorXSymVirtA
import Derived.Test.YtmlfacjgfjmdeaaDoorXC1X3
set_option linter.unusedVariables false
set_option linter.unusedSimpArgs false
set_option maxRecDepth 4000
namespace Go.Proofs.YtmlfacjgfjmdeaaDoor.C
open Go.Sym Go.Proofs.YtmlfacjgfjmdeaaDoor.I
theorem two_sign {b : Int} (h : isTwoB b = true) : b = 40 ∨ b = 123 ∨ b = 91 := by
  simp [isTwoB, inS, bl] at h; omega
theorem one_sign {b : Int} {tx : ByteArray} (h : (patR tx).isOne b = true) : b = 35 ∨ b = 94 := by
  simp [Rdr.isOne, patR, inS, bl] at h; omega
theorem arg_sign {b : Int} {tx : ByteArray} (h : (patR tx).isArg b = true) : b = 107 ∨ b = 42 ∨ b = 120 := by
  simp [Rdr.isArg, patR, inS, bl] at h; omega
theorem no_sign {b : Int} {tx : ByteArray} (h1 : ¬ (patR tx).isLeaf b = true) (h2 : ¬ isTwoB b = true) (h3 : ¬ (patR tx).isOne b = true) (h4 : ¬ (patR tx).isArg b = true) : b ≠ 36 ∧ b ≠ 63 ∧ b ≠ 110 ∧ b ≠ 120 ∧ kd3 b = (0, 0, 0) := by
  refine ⟨?_, ?_, ?_, ?_, ?_⟩
  · rintro rfl; exact h1 rfl
  · rintro rfl; exact h1 rfl
  · rintro rfl; exact h1 rfl
  · rintro rfl; exact h4 rfl
  · unfold kd3
    rw [if_neg (by rintro rfl; exact h2 rfl), if_neg (by rintro rfl; exact h2 rfl), if_neg (by rintro rfl; exact h2 rfl), if_neg (by rintro rfl; exact h3 rfl), if_neg (by rintro rfl; exact h3 rfl), if_neg (by rintro rfl; exact h4 rfl), if_neg (by rintro rfl; exact h4 rfl)]
abbrev nrow (k a b : Int) (q : Bool) : Blk := ⟨0, false, 1, [i6 k, i6 a, i6 b, .bool q], none⟩
set_option maxHeartbeats 8000000 in
theorem parse_t {tx : ByteArray} (hs : tx.size ≤ 200) : ∀ n, Parses tx n
  | 0 => fun s i H b hG hl hi hn _ _ => by omega
  | n + 1 => fun s i H b hG hl hi hn hb hcl => by
    have ih := parse_t hs n
    have hbl : b < H.length := (List.getElem?_eq_some_iff.1 hb).1
    have same : H.set b (nblk (nodesL s)) = H := rset_same hb
    have gN : ∀ (L : List Ln) (k : Blk) (T : List Blk), (H.set b (nblk L) ++ (k :: T))[H.length]? = some k := fun L k T => by
      rw [List.getElem?_append_right (by simp)]; simp
    have sN : ∀ (L : List Ln) (k y : Blk) (T : List Blk), (H.set b (nblk L) ++ (k :: T)).set H.length y = H.set b (nblk L) ++ (y :: T) := fun L k y T => by
      rw [List.set_append_right _ _ (by simp)]; simp
    have gB : ∀ (L : List Ln) (T : List Blk), (H.set b (nblk L) ++ T)[b]? = some (nblk L) := fun L T => (get_left (by simpa using hbl)).trans (by simp [hbl])
    have sB : ∀ (L : List Ln) (T : List Blk) (y : Blk), (H.set b (nblk L) ++ T).set b y = H.set b y ++ T := fun L T y => by rw [set_left (by simpa using hbl), List.set_set]
    have fin : ∀ (L : List Ln) (nd : Ln) (p : Int) (T : List Blk), LeV H.length (.tup [.ref b (L.length + 1) 0 (L.length + 1), i6 L.length, i6 p, .bool true]) (H.set b ⟨L.length + 1, false, 4, encLs L ++ encL nd, none⟩ ++ T) (.tup [nref b (L ++ [nd]), i6 L.length, i6 p, .bool true]) (H.set b (nblk (L ++ [nd]))) := fun L nd p T => by
      have e1 : nblk (L ++ [nd]) = ⟨L.length + 1, false, 4, encLs L ++ encL nd, none⟩ := by simp [encLs_snoc]
      have e2 : nref b (L ++ [nd]) = .ref b (L.length + 1) 0 (L.length + 1) := by simp
      rw [e1, e2]
      exact LeV.drop (by simp) (by rw [List.length_set]; exact Closed1_set (by rw [inAs_app]; simp [encL]) _ _ hcl) (by simp; omega)
    have bad : ∀ (L : List Ln) (T : List Blk), LeV H.length (.tup [nref b L, i6 0, i6 0, .bool false]) (H.set b (nblk L) ++ T) (.tup [nref b L, i6 0, i6 0, .bool false]) (H.set b (nblk L)) := fun L T =>
      LeV.drop (by simp) (by rw [List.length_set]; exact Closed1_set (by simp) _ _ hcl) (by simp; omega)
    obtain ⟨q, eq⟩ : ∃ q, rdF (patR tx) (n + 1) s i 0 = q := ⟨_, rfl⟩
    rw [eq]
    simp only [rdF] at eq
    rw [if_neg (by simp)] at eq
    have htx : (patR tx).text = tx := rfl
    rw [htx] at eq
    by_cases h1 : tx.size ≤ i
    · rw [if_pos h1] at eq
      subst eq
      refine ⟨fun h => by simp at h, fun _ => ⟨nodesL s, ?_⟩⟩
      rw [same]
      refine semT' (S := fun _ => true) hm spec_l11Parse_ok (Nat.le_of_ble_eq_true rfl) ?_
      unfold spec_l11Parse; dsimp only
      simp [h1]
      exact LeV.refl _ _ _
    rw [if_neg h1] at eq
    have hlt : i < tx.size := by omega
    rw [← same]
    by_cases h2 : (patR tx).isLeaf (bt tx i) = true
    · rw [if_pos h2] at eq
      rcases leaf_sign h2 with hv | hv | hv
      · rw [hv] at eq
        obtain ⟨i1, hi1⟩ : ∃ i1, i + 1 = i1 := ⟨_, rfl⟩
        have w1 : IntKind.i64.wrap ((i : Int) + 1) = (i1 : Int) := by rw [wrap64 (by omega) (by omega)]; omega
        have eL : (patR tx).leaf s 110 i = (s ++ [⟨110, (numF tx i1 i).1, []⟩], (s.length : Int), (numF tx i1 i).2.1.toNat, (numF tx i1 i).2.2) := by rw [← hi1]; rfl
        rw [eL, numF_nm] at eq
        have hN := spec_l4Name_c tx i1 (by omega) (by omega)
        by_cases nm : nmOk tx i1 = true
        · simp only [nm, if_true, Int.toNat_natCast] at eq hN
          subst eq
          refine ⟨fun _ => ?_, fun h => absurd rfl h⟩
          refine semT' (S := fun _ => true) hm spec_l11Parse_ok (Nat.le_of_ble_eq_true rfl) ?_
          unfold spec_l11Parse; dsimp only
          simp [hlt, h1, hv, w1]
          refine lift_call rfl hN (by simp) (by simp) ?_; simp [gN, sN]
          refine lift_call rfl (spec_l11Parts_c ⟨1, figV 3 (dgRun tx i1), 0, false⟩) (by simp) (by simp) ?_; simp [gN, gB, sB, lpF, partsF]
          refine ck_intro' (by omega) ?_; simp [gN, gB, sB]
          repeat (refine ck_intro' (by first | omega | (simp; omega) | kernel_rfl) ?_; try simp)
          have e9 : nodesL (s ++ [⟨110, figV 3 (dgRun tx i1), []⟩]) = nodesL s ++ [⟨1, figV 3 (dgRun tx i1), 0, false⟩] := by
            rw [nodesL_snoc]
            simp [nodeL, pkF]
          rw [e9]
          have f := fun T => fin (nodesL s) ⟨1, figV 3 (dgRun tx i1), 0, false⟩ (dEnd tx i1) T
          simp [encL] at f
          exact f _
        · simp only [nm] at eq hN
          subst eq
          refine ⟨fun h => by simp at h, fun _ => ⟨nodesL s, ?_⟩⟩
          refine semT' (S := fun _ => true) hm spec_l11Parse_ok (Nat.le_of_ble_eq_true rfl) ?_
          unfold spec_l11Parse; dsimp only
          simp [hlt, h1, hv, w1]
          refine lift_call rfl hN (by simp) (by simp) ?_; simp [gN, sN]
          exact bad _ _
      · rw [hv] at eq
        have eL : (patR tx).leaf s 36 i = (s ++ [⟨36, (letF tx i).1, []⟩], (s.length : Int), (letF tx i).2.1, (letF tx i).2.2) := rfl
        rw [eL] at eq
        obtain ⟨i1, hi1⟩ : ∃ i1, i + 1 = i1 := ⟨_, rfl⟩
        obtain ⟨i2, hi2⟩ : ∃ i2, i + 2 = i2 := ⟨_, rfl⟩
        have w1 : IntKind.i64.wrap ((i : Int) + 1) = (i1 : Int) := by rw [wrap64 (by omega) (by omega)]; omega
        have w2 : IntKind.i64.wrap ((i : Int) + 2) = (i2 : Int) := by rw [wrap64 (by omega) (by omega)]; omega
        have lt0 : letF tx i = if i1 < tx.size ∧ 97 ≤ bt tx i1 ∧ bt tx i1 ≤ 122 then (bt tx i1 - 97, i2, 0) else (-1, i1, 3) := by rw [← hi1, ← hi2]; rfl
        by_cases hc : i1 < tx.size ∧ 97 ≤ bt tx i1 ∧ bt tx i1 ≤ 122
        · rw [lt0, if_pos hc] at eq
          subst eq
          refine ⟨fun _ => ?_, fun h => absurd rfl h⟩
          obtain ⟨hj, hA, hB⟩ := hc
          have hA' : (97 : Int) ≤ ((byt tx i1).toNat : Int) := hA
          have hB' : ((byt tx i1).toNat : Int) ≤ 122 := hB
          have b1 : decide ((tx.size : Int) ≤ (i1 : Int)) = false := by simp; omega
          have b2 : decide (((byt tx i1).toNat : Int) < 97) = false := by simp; omega
          have b3 : decide ((122 : Int) < ((byt tx i1).toNat : Int)) = false := by simp; omega
          have w3 : IntKind.i64.wrap ((byt tx i1).toNat : Int) = (byt tx i1).toNat := wrap64 (by omega) (by omega)
          have w4 : IntKind.i64.wrap (((byt tx i1).toNat : Int) - 97) = (byt tx i1).toNat - 97 := wrap64 (by omega) (by omega)
          refine semT' (S := fun _ => true) hm spec_l11Parse_ok (Nat.le_of_ble_eq_true rfl) ?_
          unfold spec_l11Parse; dsimp only
          simp [hlt, h1, hv, w1, show ¬ tx.size ≤ i1 by omega, b2, b3, hj, w2, w3, w4, gN, sN]
          refine ck_intro' (regOk_ren (fun _ => 0) (by kernel_rfl)) ?_; simp [gN, sN, w2]
          refine lift_call rfl (spec_l11Parts_c ⟨9, (byt tx i1).toNat - 97, 0, false⟩) (by simp) (by simp) ?_; simp [gN, gB, sB, lpF]
          refine ck_intro' (by omega) ?_; simp [gN, gB, sB]
          repeat (refine ck_intro' (by first | omega | (simp; omega) | kernel_rfl) ?_; try simp)
          have e9 : nodesL (s ++ [⟨36, bt tx i1 - 97, []⟩]) = nodesL s ++ [⟨9, bt tx i1 - 97, 0, false⟩] := by
            rw [nodesL_snoc]
            simp [nodeL, pkF]
          rw [e9]
          have f := fun T => fin (nodesL s) ⟨9, bt tx i1 - 97, 0, false⟩ i2 T
          simp [encL] at f
          exact f _
        · rw [lt0, if_neg hc] at eq
          subst eq
          refine ⟨fun h => by simp at h, fun _ => ⟨nodesL s, ?_⟩⟩
          refine semT' (S := fun _ => true) hm spec_l11Parse_ok (Nat.le_of_ble_eq_true rfl) ?_
          unfold spec_l11Parse; dsimp only
          by_cases d1 : tx.size ≤ i1
          · have b1 : decide ((tx.size : Int) ≤ (i1 : Int)) = true := by simp; omega
            simp [hlt, h1, hv, w1, d1, gN, sN]
            exact bad _ _
          · have hj : i1 < tx.size := by omega
            have b1 : decide ((tx.size : Int) ≤ (i1 : Int)) = false := by simp; omega
            by_cases d2 : ((byt tx i1).toNat : Int) < 97
            · have b2 : decide (((byt tx i1).toNat : Int) < 97) = true := by simp; omega
              simp [hlt, h1, hv, w1, show ¬ tx.size ≤ i1 by omega, b2, hj, gN, sN]
              exact bad _ _
            · have b2 : decide (((byt tx i1).toNat : Int) < 97) = false := by simp; omega
              have b3 : decide ((122 : Int) < ((byt tx i1).toNat : Int)) = true := by
                simp
                have : ¬ bt tx i1 ≤ 122 := fun h => hc ⟨hj, by simp only [bt]; omega, h⟩
                simp only [bt] at this
                omega
              simp [hlt, h1, hv, w1, show ¬ tx.size ≤ i1 by omega, b2, b3, hj, gN, sN]
              exact bad _ _
      · rw [hv] at eq
        have eL : (patR tx).leaf s 63 i = (s ++ [⟨63, (letF tx i).1, []⟩], (s.length : Int), (letF tx i).2.1, (letF tx i).2.2) := rfl
        rw [eL] at eq
        obtain ⟨i1, hi1⟩ : ∃ i1, i + 1 = i1 := ⟨_, rfl⟩
        obtain ⟨i2, hi2⟩ : ∃ i2, i + 2 = i2 := ⟨_, rfl⟩
        have w1 : IntKind.i64.wrap ((i : Int) + 1) = (i1 : Int) := by rw [wrap64 (by omega) (by omega)]; omega
        have w2 : IntKind.i64.wrap ((i : Int) + 2) = (i2 : Int) := by rw [wrap64 (by omega) (by omega)]; omega
        have lt0 : letF tx i = if i1 < tx.size ∧ 97 ≤ bt tx i1 ∧ bt tx i1 ≤ 122 then (bt tx i1 - 97, i2, 0) else (-1, i1, 3) := by rw [← hi1, ← hi2]; rfl
        by_cases hc : i1 < tx.size ∧ 97 ≤ bt tx i1 ∧ bt tx i1 ≤ 122
        · rw [lt0, if_pos hc] at eq
          subst eq
          refine ⟨fun _ => ?_, fun h => absurd rfl h⟩
          obtain ⟨hj, hA, hB⟩ := hc
          have hA' : (97 : Int) ≤ ((byt tx i1).toNat : Int) := hA
          have hB' : ((byt tx i1).toNat : Int) ≤ 122 := hB
          have b1 : decide ((tx.size : Int) ≤ (i1 : Int)) = false := by simp; omega
          have b2 : decide (((byt tx i1).toNat : Int) < 97) = false := by simp; omega
          have b3 : decide ((122 : Int) < ((byt tx i1).toNat : Int)) = false := by simp; omega
          have w3 : IntKind.i64.wrap ((byt tx i1).toNat : Int) = (byt tx i1).toNat := wrap64 (by omega) (by omega)
          have w4 : IntKind.i64.wrap (((byt tx i1).toNat : Int) - 97) = (byt tx i1).toNat - 97 := wrap64 (by omega) (by omega)
          refine semT' (S := fun _ => true) hm spec_l11Parse_ok (Nat.le_of_ble_eq_true rfl) ?_
          unfold spec_l11Parse; dsimp only
          simp [hlt, h1, hv, w1, show ¬ tx.size ≤ i1 by omega, b2, b3, hj, w2, w3, w4, gN, sN]
          refine ck_intro' (regOk_ren (fun _ => 0) (by kernel_rfl)) ?_; simp [gN, sN, w2]
          refine lift_call rfl (spec_l11Parts_c ⟨9, (byt tx i1).toNat - 97, 0, true⟩) (by simp) (by simp) ?_; simp [gN, gB, sB, lpF]
          refine ck_intro' (by omega) ?_; simp [gN, gB, sB]
          repeat (refine ck_intro' (by first | omega | (simp; omega) | kernel_rfl) ?_; try simp)
          have e9 : nodesL (s ++ [⟨63, bt tx i1 - 97, []⟩]) = nodesL s ++ [⟨9, bt tx i1 - 97, 0, true⟩] := by
            rw [nodesL_snoc]
            simp [nodeL, pkF]
          rw [e9]
          have f := fun T => fin (nodesL s) ⟨9, bt tx i1 - 97, 0, true⟩ i2 T
          simp [encL] at f
          exact f _
        · rw [lt0, if_neg hc] at eq
          subst eq
          refine ⟨fun h => by simp at h, fun _ => ⟨nodesL s, ?_⟩⟩
          refine semT' (S := fun _ => true) hm spec_l11Parse_ok (Nat.le_of_ble_eq_true rfl) ?_
          unfold spec_l11Parse; dsimp only
          by_cases d1 : tx.size ≤ i1
          · have b1 : decide ((tx.size : Int) ≤ (i1 : Int)) = true := by simp; omega
            simp [hlt, h1, hv, w1, d1, gN, sN]
            exact bad _ _
          · have hj : i1 < tx.size := by omega
            have b1 : decide ((tx.size : Int) ≤ (i1 : Int)) = false := by simp; omega
            by_cases d2 : ((byt tx i1).toNat : Int) < 97
            · have b2 : decide (((byt tx i1).toNat : Int) < 97) = true := by simp; omega
              simp [hlt, h1, hv, w1, show ¬ tx.size ≤ i1 by omega, b2, hj, gN, sN]
              exact bad _ _
            · have b2 : decide (((byt tx i1).toNat : Int) < 97) = false := by simp; omega
              have b3 : decide ((122 : Int) < ((byt tx i1).toNat : Int)) = true := by
                simp
                have : ¬ bt tx i1 ≤ 122 := fun h => hc ⟨hj, by simp only [bt]; omega, h⟩
                simp only [bt] at this
                omega
              simp [hlt, h1, hv, w1, show ¬ tx.size ≤ i1 by omega, b2, b3, hj, gN, sN]
              exact bad _ _
    rw [if_neg h2] at eq
    obtain ⟨i1, hi1⟩ : ∃ i1, i + 1 = i1 := ⟨_, rfl⟩
    have w1 : IntKind.i64.wrap ((i : Int) + 1) = (i1 : Int) := by rw [wrap64 (by omega) (by omega)]; omega
    rw [hi1] at eq
    have hK := spec_l4Kind_c tx i hlt
    have hbN : ∀ k : Blk, (H.set b (nblk (nodesL s)) ++ [k])[b]? = some (nblk (nodesL s)) := fun k => gB _ _
    have hcN : ∀ k : Int, Closed1 (H.set b (nblk (nodesL s)) ++ [nrow k 0 0 false]).length (H.set b (nblk (nodesL s)) ++ [nrow k 0 0 false]) = true := fun k => by
      rw [same]; exact Closed1_box hcl (by simp)
    by_cases h3 : isTwoB (bt tx i) = true
    · rw [if_pos h3] at eq
      rcases two_sign h3 with hv | hv | hv
      · rw [hv] at eq hK
        rw [show closeF 40 = 41 from rfl] at eq
        have hT := two_t hs ih (s := s) (i := i1) (H := H.set b (nblk (nodesL s)) ++ [nrow 2 0 0 false]) (b := b) false 41 hG (by omega) (by omega) (by omega) (hbN _) (hcN _)
        dsimp only at hT
        have hgood := (patK tx).two_good' n (s := s) (i := i) (e := 41) ⟨hl, hG⟩ hlt (by rw [htx]; omega)
        simp only [htx] at hgood
        rw [hi1] at hgood
        obtain ⟨Q, eQ⟩ : ∃ Q, (patR tx).two (rdF (patR tx) n) 41 s (opF tx false i1).1 (opF tx false i1).2 = Q := ⟨_, rfl⟩
        have eQ' : (patR tx).two (rdF (patR tx) n) 41 s i1 0 = Q := eQ
        rw [eQ] at hT
        rw [eQ'] at hgood eq
        simp only [sB] at hT
        by_cases hq : Q.2.2.2 = 0
        · obtain ⟨x, y, exy, hTT⟩ := hT.1 hq
          obtain ⟨g1, g2, g3, g4⟩ := hgood hq
          obtain ⟨p1, p2, p3, p4⟩ := g3
          have vx := g4 x (by rw [exy]; simp)
          have vy := g4 y (by rw [exy]; simp)
          obtain ⟨x1, rfl⟩ : ∃ x1 : Nat, x = x1 := ⟨x.toNat, by have := vx.1; omega⟩
          obtain ⟨y1, rfl⟩ : ∃ y1 : Nat, y = y1 := ⟨y.toNat, by have := vy.1; omega⟩
          have hx1 : x1 < (nodesL Q.1).length := by have := vx.2; simp; omega
          have hy1 : y1 < (nodesL Q.1).length := by have := vy.2; simp; omega
          have hx2 : x1 < Q.1.length := by simpa using hx1
          have hy2 : y1 < Q.1.length := by simpa using hy1
          have lx := encLs_q hx1
          have ly := encLs_q hy1
          have eq2 : q = (Q.1 ++ [⟨40, 0, [(x1 : Int), (y1 : Int)]⟩], (Q.1.length : Int), Q.2.2.1, 0) := by
            rw [← eq]
            simp only [Rdr.fin, if_pos hq, exy]
            rfl
          subst eq2
          refine ⟨fun _ => ?_, fun h => absurd rfl h⟩
          have htx2 : Q.2.2.1 ≤ tx.size := g2
          have hQl : Q.1.length ≤ 300 := by omega
          refine semT' (S := fun _ => true) hm spec_l11Parse_ok (Nat.le_of_ble_eq_true rfl) ?_
          unfold spec_l11Parse; dsimp only
          simp [hlt, h1, hv, w1]
          (refine lift_call rfl hK (by simp) (by simp) ?_; simp [gN, sN, kd3, w1])
          refine all_call rfl hTT (by simp) ?_; simp [gN, sN]
          refine lift_call rfl (spec_l11Parts_c ⟨2, x1, y1, false⟩) (by simp) (by simp) ?_
          have e9 : nodesL (Q.1 ++ [⟨40, 0, [(x1 : Int), (y1 : Int)]⟩]) = nodesL Q.1 ++ [⟨2, x1, y1, (nodesL Q.1)[x1].q || (nodesL Q.1)[y1].q⟩] := by
            rw [nodesL_snoc]
            simp [nodeL, pkF, kd3, askAt, hx2, hy2]
          rcases Bool.eq_false_or_eq_true (nodesL Q.1)[x1].q with ax | ax
          · rw [e9, ax, Bool.true_or]
            simp [gN, gB, sN, sB, lpF, partsF, hx2, hy2, lx, ly, ax]
            refine ck_intro' (by omega) ?_; simp [gN, gB, sB]
            repeat (refine ck_intro' (by first | omega | (simp; omega) | kernel_rfl) ?_; try simp)
            have f := fun T => fin (nodesL Q.1) ⟨2, x1, y1, true⟩ Q.2.2.1 T
            simp [encL] at f
            exact f _
          · rw [e9, ax, Bool.false_or]
            simp [gN, gB, sN, sB, lpF, partsF, hx2, hy2, lx, ly, ax]
            refine ck_intro' (by omega) ?_; simp [gN, gB, sB]
            repeat (refine ck_intro' (by first | omega | (simp; omega) | kernel_rfl) ?_; try simp)
            have f := fun T => fin (nodesL Q.1) ⟨2, x1, y1, (nodesL Q.1)[y1].q⟩ Q.2.2.1 T
            simp [encL] at f
            exact f _
        · obtain ⟨L, x, y, z, hTT⟩ := hT.2 hq
          have eq2 : q = (Q.1, -1, Q.2.2.1, Q.2.2.2) := by rw [← eq]; simp only [Rdr.fin, if_neg hq]
          subst eq2
          refine ⟨fun h => absurd h hq, fun _ => ⟨L, ?_⟩⟩
          refine semT' (S := fun _ => true) hm spec_l11Parse_ok (Nat.le_of_ble_eq_true rfl) ?_
          unfold spec_l11Parse; dsimp only
          simp [hlt, h1, hv, w1]
          (refine lift_call rfl hK (by simp) (by simp) ?_; simp [gN, sN, kd3, w1])
          refine all_call rfl hTT (by simp) ?_; simp [gN, sN]
          exact bad _ _
      · rw [hv] at eq hK
        rw [show closeF 123 = 125 from rfl] at eq
        have hT := two_t hs ih (s := s) (i := i1) (H := H.set b (nblk (nodesL s)) ++ [nrow 3 0 0 false]) (b := b) false 125 hG (by omega) (by omega) (by omega) (hbN _) (hcN _)
        dsimp only at hT
        have hgood := (patK tx).two_good' n (s := s) (i := i) (e := 125) ⟨hl, hG⟩ hlt (by rw [htx]; omega)
        simp only [htx] at hgood
        rw [hi1] at hgood
        obtain ⟨Q, eQ⟩ : ∃ Q, (patR tx).two (rdF (patR tx) n) 125 s (opF tx false i1).1 (opF tx false i1).2 = Q := ⟨_, rfl⟩
        have eQ' : (patR tx).two (rdF (patR tx) n) 125 s i1 0 = Q := eQ
        rw [eQ] at hT
        rw [eQ'] at hgood eq
        simp only [sB] at hT
        by_cases hq : Q.2.2.2 = 0
        · obtain ⟨x, y, exy, hTT⟩ := hT.1 hq
          obtain ⟨g1, g2, g3, g4⟩ := hgood hq
          obtain ⟨p1, p2, p3, p4⟩ := g3
          have vx := g4 x (by rw [exy]; simp)
          have vy := g4 y (by rw [exy]; simp)
          obtain ⟨x1, rfl⟩ : ∃ x1 : Nat, x = x1 := ⟨x.toNat, by have := vx.1; omega⟩
          obtain ⟨y1, rfl⟩ : ∃ y1 : Nat, y = y1 := ⟨y.toNat, by have := vy.1; omega⟩
          have hx1 : x1 < (nodesL Q.1).length := by have := vx.2; simp; omega
          have hy1 : y1 < (nodesL Q.1).length := by have := vy.2; simp; omega
          have hx2 : x1 < Q.1.length := by simpa using hx1
          have hy2 : y1 < Q.1.length := by simpa using hy1
          have lx := encLs_q hx1
          have ly := encLs_q hy1
          have eq2 : q = (Q.1 ++ [⟨123, 0, [(x1 : Int), (y1 : Int)]⟩], (Q.1.length : Int), Q.2.2.1, 0) := by
            rw [← eq]
            simp only [Rdr.fin, if_pos hq, exy]
            rfl
          subst eq2
          refine ⟨fun _ => ?_, fun h => absurd rfl h⟩
          have htx2 : Q.2.2.1 ≤ tx.size := g2
          have hQl : Q.1.length ≤ 300 := by omega
          refine semT' (S := fun _ => true) hm spec_l11Parse_ok (Nat.le_of_ble_eq_true rfl) ?_
          unfold spec_l11Parse; dsimp only
          simp [hlt, h1, hv, w1]
          (refine lift_call rfl hK (by simp) (by simp) ?_; simp [gN, sN, kd3, w1])
          refine all_call rfl hTT (by simp) ?_; simp [gN, sN]
          refine lift_call rfl (spec_l11Parts_c ⟨3, x1, y1, false⟩) (by simp) (by simp) ?_
          have e9 : nodesL (Q.1 ++ [⟨123, 0, [(x1 : Int), (y1 : Int)]⟩]) = nodesL Q.1 ++ [⟨3, x1, y1, (nodesL Q.1)[x1].q || (nodesL Q.1)[y1].q⟩] := by
            rw [nodesL_snoc]
            simp [nodeL, pkF, kd3, askAt, hx2, hy2]
          rcases Bool.eq_false_or_eq_true (nodesL Q.1)[x1].q with ax | ax
          · rw [e9, ax, Bool.true_or]
            simp [gN, gB, sN, sB, lpF, partsF, hx2, hy2, lx, ly, ax]
            refine ck_intro' (by omega) ?_; simp [gN, gB, sB]
            repeat (refine ck_intro' (by first | omega | (simp; omega) | kernel_rfl) ?_; try simp)
            have f := fun T => fin (nodesL Q.1) ⟨3, x1, y1, true⟩ Q.2.2.1 T
            simp [encL] at f
            exact f _
          · rw [e9, ax, Bool.false_or]
            simp [gN, gB, sN, sB, lpF, partsF, hx2, hy2, lx, ly, ax]
            refine ck_intro' (by omega) ?_; simp [gN, gB, sB]
            repeat (refine ck_intro' (by first | omega | (simp; omega) | kernel_rfl) ?_; try simp)
            have f := fun T => fin (nodesL Q.1) ⟨3, x1, y1, (nodesL Q.1)[y1].q⟩ Q.2.2.1 T
            simp [encL] at f
            exact f _
        · obtain ⟨L, x, y, z, hTT⟩ := hT.2 hq
          have eq2 : q = (Q.1, -1, Q.2.2.1, Q.2.2.2) := by rw [← eq]; simp only [Rdr.fin, if_neg hq]
          subst eq2
          refine ⟨fun h => absurd h hq, fun _ => ⟨L, ?_⟩⟩
          refine semT' (S := fun _ => true) hm spec_l11Parse_ok (Nat.le_of_ble_eq_true rfl) ?_
          unfold spec_l11Parse; dsimp only
          simp [hlt, h1, hv, w1]
          (refine lift_call rfl hK (by simp) (by simp) ?_; simp [gN, sN, kd3, w1])
          refine all_call rfl hTT (by simp) ?_; simp [gN, sN]
          exact bad _ _
      · rw [hv] at eq hK
        rw [show closeF 91 = 93 from rfl] at eq
        have hT := two_t hs ih (s := s) (i := i1) (H := H.set b (nblk (nodesL s)) ++ [nrow 4 0 0 false]) (b := b) false 93 hG (by omega) (by omega) (by omega) (hbN _) (hcN _)
        dsimp only at hT
        have hgood := (patK tx).two_good' n (s := s) (i := i) (e := 93) ⟨hl, hG⟩ hlt (by rw [htx]; omega)
        simp only [htx] at hgood
        rw [hi1] at hgood
        obtain ⟨Q, eQ⟩ : ∃ Q, (patR tx).two (rdF (patR tx) n) 93 s (opF tx false i1).1 (opF tx false i1).2 = Q := ⟨_, rfl⟩
        have eQ' : (patR tx).two (rdF (patR tx) n) 93 s i1 0 = Q := eQ
        rw [eQ] at hT
        rw [eQ'] at hgood eq
        simp only [sB] at hT
        by_cases hq : Q.2.2.2 = 0
        · obtain ⟨x, y, exy, hTT⟩ := hT.1 hq
          obtain ⟨g1, g2, g3, g4⟩ := hgood hq
          obtain ⟨p1, p2, p3, p4⟩ := g3
          have vx := g4 x (by rw [exy]; simp)
          have vy := g4 y (by rw [exy]; simp)
          obtain ⟨x1, rfl⟩ : ∃ x1 : Nat, x = x1 := ⟨x.toNat, by have := vx.1; omega⟩
          obtain ⟨y1, rfl⟩ : ∃ y1 : Nat, y = y1 := ⟨y.toNat, by have := vy.1; omega⟩
          have hx1 : x1 < (nodesL Q.1).length := by have := vx.2; simp; omega
          have hy1 : y1 < (nodesL Q.1).length := by have := vy.2; simp; omega
          have hx2 : x1 < Q.1.length := by simpa using hx1
          have hy2 : y1 < Q.1.length := by simpa using hy1
          have lx := encLs_q hx1
          have ly := encLs_q hy1
          have eq2 : q = (Q.1 ++ [⟨91, 0, [(x1 : Int), (y1 : Int)]⟩], (Q.1.length : Int), Q.2.2.1, 0) := by
            rw [← eq]
            simp only [Rdr.fin, if_pos hq, exy]
            rfl
          subst eq2
          refine ⟨fun _ => ?_, fun h => absurd rfl h⟩
          have htx2 : Q.2.2.1 ≤ tx.size := g2
          have hQl : Q.1.length ≤ 300 := by omega
          refine semT' (S := fun _ => true) hm spec_l11Parse_ok (Nat.le_of_ble_eq_true rfl) ?_
          unfold spec_l11Parse; dsimp only
          simp [hlt, h1, hv, w1]
          (refine lift_call rfl hK (by simp) (by simp) ?_; simp [gN, sN, kd3, w1])
          refine all_call rfl hTT (by simp) ?_; simp [gN, sN]
          refine lift_call rfl (spec_l11Parts_c ⟨4, x1, y1, false⟩) (by simp) (by simp) ?_
          have e9 : nodesL (Q.1 ++ [⟨91, 0, [(x1 : Int), (y1 : Int)]⟩]) = nodesL Q.1 ++ [⟨4, x1, y1, (nodesL Q.1)[x1].q || (nodesL Q.1)[y1].q⟩] := by
            rw [nodesL_snoc]
            simp [nodeL, pkF, kd3, askAt, hx2, hy2]
          rcases Bool.eq_false_or_eq_true (nodesL Q.1)[x1].q with ax | ax
          · rw [e9, ax, Bool.true_or]
            simp [gN, gB, sN, sB, lpF, partsF, hx2, hy2, lx, ly, ax]
            refine ck_intro' (by omega) ?_; simp [gN, gB, sB]
            repeat (refine ck_intro' (by first | omega | (simp; omega) | kernel_rfl) ?_; try simp)
            have f := fun T => fin (nodesL Q.1) ⟨4, x1, y1, true⟩ Q.2.2.1 T
            simp [encL] at f
            exact f _
          · rw [e9, ax, Bool.false_or]
            simp [gN, gB, sN, sB, lpF, partsF, hx2, hy2, lx, ly, ax]
            refine ck_intro' (by omega) ?_; simp [gN, gB, sB]
            repeat (refine ck_intro' (by first | omega | (simp; omega) | kernel_rfl) ?_; try simp)
            have f := fun T => fin (nodesL Q.1) ⟨4, x1, y1, (nodesL Q.1)[y1].q⟩ Q.2.2.1 T
            simp [encL] at f
            exact f _
        · obtain ⟨L, x, y, z, hTT⟩ := hT.2 hq
          have eq2 : q = (Q.1, -1, Q.2.2.1, Q.2.2.2) := by rw [← eq]; simp only [Rdr.fin, if_neg hq]
          subst eq2
          refine ⟨fun h => absurd h hq, fun _ => ⟨L, ?_⟩⟩
          refine semT' (S := fun _ => true) hm spec_l11Parse_ok (Nat.le_of_ble_eq_true rfl) ?_
          unfold spec_l11Parse; dsimp only
          simp [hlt, h1, hv, w1]
          (refine lift_call rfl hK (by simp) (by simp) ?_; simp [gN, sN, kd3, w1])
          refine all_call rfl hTT (by simp) ?_; simp [gN, sN]
          exact bad _ _
    rw [if_neg h3] at eq
    by_cases h4 : (patR tx).isOne (bt tx i) = true
    · rw [if_pos h4] at eq
      rcases one_sign h4 with hv | hv
      · rw [hv] at eq hK
        have hT := ih s i1 (H.set b (nblk (nodesL s)) ++ [nrow 5 0 0 false]) b hG (by omega) (by omega) (by omega) (hbN _) (hcN _)
        have hgood := (patK tx).rd_good n (s := s) (i := i1) (c := 0) ⟨by omega, hG⟩ (by rw [htx]; omega) (by rw [htx]; omega)
        obtain ⟨d, ed⟩ : ∃ d, rdF (patR tx) n s i1 0 = d := ⟨_, rfl⟩
        simp only [oneF, ed] at eq
        rw [ed] at hT hgood
        simp only [sB] at hT
        by_cases hq : d.2.2.2 = 0
        · have hTT := hT.1 hq
          obtain ⟨g1, g2, g3, g4⟩ := hgood hq
          obtain ⟨p1, p2, p3, p4⟩ := g3
          obtain ⟨x1, hx⟩ : ∃ x1 : Nat, d.2.1 = x1 := ⟨d.2.1.toNat, by have := g4.1; omega⟩
          have hx2 : x1 < d.1.length := by have := g4.2; rw [hx] at this; omega
          have hx1 : x1 < (nodesL d.1).length := by simpa using hx2
          have lx := encLs_q hx1
          rw [hx] at hTT eq
          have eq2 : q = (d.1 ++ [⟨35, 0, [(x1 : Int)]⟩], (d.1.length : Int), d.2.2.1, 0) := by
            rw [← eq]
            simp only [Rdr.fin, if_pos hq]
            rfl
          subst eq2
          refine ⟨fun _ => ?_, fun h => absurd rfl h⟩
          have htx2 : d.2.2.1 ≤ tx.size := g2
          have hQl : d.1.length ≤ 300 := by omega
          have e9 : nodesL (d.1 ++ [⟨35, 0, [(x1 : Int)]⟩]) = nodesL d.1 ++ [⟨5, x1, 0, (nodesL d.1)[x1].q⟩] := by
            rw [nodesL_snoc]
            simp [nodeL, pkF, kd3, askAt, hx2]
          refine semT' (S := fun _ => true) hm spec_l11Parse_ok (Nat.le_of_ble_eq_true rfl) ?_
          unfold spec_l11Parse; dsimp only
          simp [hlt, h1, hv, w1]
          refine lift_call rfl hK (by simp) (by simp) ?_; simp [gN, sN, kd3, w1]
          refine all_call rfl hTT (by simp) ?_; simp [gN, sN]
          refine lift_call rfl (spec_l11Parts_c ⟨5, x1, 0, false⟩) (by simp) (by simp) ?_
          rw [e9]
          simp [gN, gB, sN, sB, lpF, partsF, hx2, lx]
          refine ck_intro' (by omega) ?_; simp [gN, gB, sB]
          repeat (refine ck_intro' (by first | omega | (simp; omega) | kernel_rfl) ?_; try simp)
          have f := fun T => fin (nodesL d.1) ⟨5, x1, 0, (nodesL d.1)[x1].q⟩ d.2.2.1 T
          simp [encL] at f
          exact f _
        · obtain ⟨L, hTT⟩ := hT.2 hq
          have eq2 : q = (d.1, -1, d.2.2.1, d.2.2.2) := by rw [← eq]; simp only [Rdr.fin, if_neg hq]
          subst eq2
          refine ⟨fun h => absurd h hq, fun _ => ⟨L, ?_⟩⟩
          refine semT' (S := fun _ => true) hm spec_l11Parse_ok (Nat.le_of_ble_eq_true rfl) ?_
          unfold spec_l11Parse; dsimp only
          simp [hlt, h1, hv, w1]
          refine lift_call rfl hK (by simp) (by simp) ?_; simp [gN, sN, kd3, w1]
          refine all_call rfl hTT (by simp) ?_; simp [gN, sN]
          exact bad _ _
      · rw [hv] at eq hK
        have hT := ih s i1 (H.set b (nblk (nodesL s)) ++ [nrow 7 0 0 false]) b hG (by omega) (by omega) (by omega) (hbN _) (hcN _)
        have hgood := (patK tx).rd_good n (s := s) (i := i1) (c := 0) ⟨by omega, hG⟩ (by rw [htx]; omega) (by rw [htx]; omega)
        obtain ⟨d, ed⟩ : ∃ d, rdF (patR tx) n s i1 0 = d := ⟨_, rfl⟩
        simp only [oneF, ed] at eq
        rw [ed] at hT hgood
        simp only [sB] at hT
        by_cases hq : d.2.2.2 = 0
        · have hTT := hT.1 hq
          obtain ⟨g1, g2, g3, g4⟩ := hgood hq
          obtain ⟨p1, p2, p3, p4⟩ := g3
          obtain ⟨x1, hx⟩ : ∃ x1 : Nat, d.2.1 = x1 := ⟨d.2.1.toNat, by have := g4.1; omega⟩
          have hx2 : x1 < d.1.length := by have := g4.2; rw [hx] at this; omega
          have hx1 : x1 < (nodesL d.1).length := by simpa using hx2
          have lx := encLs_q hx1
          rw [hx] at hTT eq
          have eq2 : q = (d.1 ++ [⟨94, 0, [(x1 : Int)]⟩], (d.1.length : Int), d.2.2.1, 0) := by
            rw [← eq]
            simp only [Rdr.fin, if_pos hq]
            rfl
          subst eq2
          refine ⟨fun _ => ?_, fun h => absurd rfl h⟩
          have htx2 : d.2.2.1 ≤ tx.size := g2
          have hQl : d.1.length ≤ 300 := by omega
          have e9 : nodesL (d.1 ++ [⟨94, 0, [(x1 : Int)]⟩]) = nodesL d.1 ++ [⟨7, x1, 0, (nodesL d.1)[x1].q⟩] := by
            rw [nodesL_snoc]
            simp [nodeL, pkF, kd3, askAt, hx2]
          refine semT' (S := fun _ => true) hm spec_l11Parse_ok (Nat.le_of_ble_eq_true rfl) ?_
          unfold spec_l11Parse; dsimp only
          simp [hlt, h1, hv, w1]
          refine lift_call rfl hK (by simp) (by simp) ?_; simp [gN, sN, kd3, w1]
          refine all_call rfl hTT (by simp) ?_; simp [gN, sN]
          refine lift_call rfl (spec_l11Parts_c ⟨7, x1, 0, false⟩) (by simp) (by simp) ?_
          rw [e9]
          simp [gN, gB, sN, sB, lpF, partsF, hx2, lx]
          refine ck_intro' (by omega) ?_; simp [gN, gB, sB]
          repeat (refine ck_intro' (by first | omega | (simp; omega) | kernel_rfl) ?_; try simp)
          have f := fun T => fin (nodesL d.1) ⟨7, x1, 0, (nodesL d.1)[x1].q⟩ d.2.2.1 T
          simp [encL] at f
          exact f _
        · obtain ⟨L, hTT⟩ := hT.2 hq
          have eq2 : q = (d.1, -1, d.2.2.1, d.2.2.2) := by rw [← eq]; simp only [Rdr.fin, if_neg hq]
          subst eq2
          refine ⟨fun h => absurd h hq, fun _ => ⟨L, ?_⟩⟩
          refine semT' (S := fun _ => true) hm spec_l11Parse_ok (Nat.le_of_ble_eq_true rfl) ?_
          unfold spec_l11Parse; dsimp only
          simp [hlt, h1, hv, w1]
          refine lift_call rfl hK (by simp) (by simp) ?_; simp [gN, sN, kd3, w1]
          refine all_call rfl hTT (by simp) ?_; simp [gN, sN]
          exact bad _ _
    rw [if_neg h4] at eq
    by_cases h5 : (patR tx).isArg (bt tx i) = true
    · rw [if_pos h5] at eq
      rcases arg_sign h5 with hv | hv | hv
      · rw [hv] at eq hK
        have hT := two_t hs ih (s := s) (i := i1) (H := H.set b (nblk (nodesL s)) ++ [nrow 6 0 0 false]) (b := b) true 41 hG (by omega) (by omega) (by omega) (hbN _) (hcN _)
        dsimp only at hT
        have hgood := (patK tx).arg_good n (s := s) (i := i) ⟨hl, hG⟩ hlt (by rw [htx]; omega)
        simp only [htx] at hgood
        rw [hi1] at hgood
        obtain ⟨Q, eQ⟩ : ∃ Q, (patR tx).two (rdF (patR tx) n) 41 s (opF tx true i1).1 (opF tx true i1).2 = Q := ⟨_, rfl⟩
        have eQ' : (patR tx).two (rdF (patR tx) n) 41 s (takeF tx i1 0 40).1 (takeF tx i1 0 40).2 = Q := eQ
        rw [eQ] at hT
        rw [eQ'] at hgood eq
        simp only [sB] at hT
        by_cases hq : Q.2.2.2 = 0
        · obtain ⟨x, y, exy, hTT⟩ := hT.1 hq
          obtain ⟨g1, g2, g3, g4⟩ := hgood hq
          obtain ⟨p1, p2, p3, p4⟩ := g3
          have vx := g4 x (by rw [exy]; simp)
          have vy := g4 y (by rw [exy]; simp)
          obtain ⟨x1, rfl⟩ : ∃ x1 : Nat, x = x1 := ⟨x.toNat, by have := vx.1; omega⟩
          obtain ⟨y1, rfl⟩ : ∃ y1 : Nat, y = y1 := ⟨y.toNat, by have := vy.1; omega⟩
          have hx1 : x1 < (nodesL Q.1).length := by have := vx.2; simp; omega
          have hy1 : y1 < (nodesL Q.1).length := by have := vy.2; simp; omega
          have hx2 : x1 < Q.1.length := by simpa using hx1
          have hy2 : y1 < Q.1.length := by simpa using hy1
          have lx := encLs_q hx1
          have ly := encLs_q hy1
          have eq2 : q = (Q.1 ++ [⟨107, 0, [(x1 : Int), (y1 : Int)]⟩], (Q.1.length : Int), Q.2.2.1, 0) := by
            rw [← eq]
            simp only [Rdr.fin, if_pos hq, exy]
            rfl
          subst eq2
          refine ⟨fun _ => ?_, fun h => absurd rfl h⟩
          have htx2 : Q.2.2.1 ≤ tx.size := g2
          have hQl : Q.1.length ≤ 300 := by omega
          refine semT' (S := fun _ => true) hm spec_l11Parse_ok (Nat.le_of_ble_eq_true rfl) ?_
          unfold spec_l11Parse; dsimp only
          simp [hlt, h1, hv, w1]
          (refine lift_call rfl hK (by simp) (by simp) ?_; simp [gN, sN, kd3, w1])
          refine all_call rfl hTT (by simp) ?_; simp [gN, sN]
          refine lift_call rfl (spec_l11Parts_c ⟨6, x1, y1, false⟩) (by simp) (by simp) ?_
          have e9 : nodesL (Q.1 ++ [⟨107, 0, [(x1 : Int), (y1 : Int)]⟩]) = nodesL Q.1 ++ [⟨6, x1, y1, (nodesL Q.1)[x1].q || (nodesL Q.1)[y1].q⟩] := by
            rw [nodesL_snoc]
            simp [nodeL, pkF, kd3, askAt, hx2, hy2]
          rcases Bool.eq_false_or_eq_true (nodesL Q.1)[x1].q with ax | ax
          · rw [e9, ax, Bool.true_or]
            simp [gN, gB, sN, sB, lpF, partsF, hx2, hy2, lx, ly, ax]
            refine ck_intro' (by omega) ?_; simp [gN, gB, sB]
            repeat (refine ck_intro' (by first | omega | (simp; omega) | kernel_rfl) ?_; try simp)
            have f := fun T => fin (nodesL Q.1) ⟨6, x1, y1, true⟩ Q.2.2.1 T
            simp [encL] at f
            exact f _
          · rw [e9, ax, Bool.false_or]
            simp [gN, gB, sN, sB, lpF, partsF, hx2, hy2, lx, ly, ax]
            refine ck_intro' (by omega) ?_; simp [gN, gB, sB]
            repeat (refine ck_intro' (by first | omega | (simp; omega) | kernel_rfl) ?_; try simp)
            have f := fun T => fin (nodesL Q.1) ⟨6, x1, y1, (nodesL Q.1)[y1].q⟩ Q.2.2.1 T
            simp [encL] at f
            exact f _
        · obtain ⟨L, x, y, z, hTT⟩ := hT.2 hq
          have eq2 : q = (Q.1, -1, Q.2.2.1, Q.2.2.2) := by rw [← eq]; simp only [Rdr.fin, if_neg hq]
          subst eq2
          refine ⟨fun h => absurd h hq, fun _ => ⟨L, ?_⟩⟩
          refine semT' (S := fun _ => true) hm spec_l11Parse_ok (Nat.le_of_ble_eq_true rfl) ?_
          unfold spec_l11Parse; dsimp only
          simp [hlt, h1, hv, w1]
          (refine lift_call rfl hK (by simp) (by simp) ?_; simp [gN, sN, kd3, w1])
          refine all_call rfl hTT (by simp) ?_; simp [gN, sN]
          exact bad _ _
      · rw [hv] at eq hK
        have hT := two_t hs ih (s := s) (i := i1) (H := H.set b (nblk (nodesL s)) ++ [nrow 8 0 0 false]) (b := b) true 41 hG (by omega) (by omega) (by omega) (hbN _) (hcN _)
        dsimp only at hT
        have hgood := (patK tx).arg_good n (s := s) (i := i) ⟨hl, hG⟩ hlt (by rw [htx]; omega)
        simp only [htx] at hgood
        rw [hi1] at hgood
        obtain ⟨Q, eQ⟩ : ∃ Q, (patR tx).two (rdF (patR tx) n) 41 s (opF tx true i1).1 (opF tx true i1).2 = Q := ⟨_, rfl⟩
        have eQ' : (patR tx).two (rdF (patR tx) n) 41 s (takeF tx i1 0 40).1 (takeF tx i1 0 40).2 = Q := eQ
        rw [eQ] at hT
        rw [eQ'] at hgood eq
        simp only [sB] at hT
        by_cases hq : Q.2.2.2 = 0
        · obtain ⟨x, y, exy, hTT⟩ := hT.1 hq
          obtain ⟨g1, g2, g3, g4⟩ := hgood hq
          obtain ⟨p1, p2, p3, p4⟩ := g3
          have vx := g4 x (by rw [exy]; simp)
          have vy := g4 y (by rw [exy]; simp)
          obtain ⟨x1, rfl⟩ : ∃ x1 : Nat, x = x1 := ⟨x.toNat, by have := vx.1; omega⟩
          obtain ⟨y1, rfl⟩ : ∃ y1 : Nat, y = y1 := ⟨y.toNat, by have := vy.1; omega⟩
          have hx1 : x1 < (nodesL Q.1).length := by have := vx.2; simp; omega
          have hy1 : y1 < (nodesL Q.1).length := by have := vy.2; simp; omega
          have hx2 : x1 < Q.1.length := by simpa using hx1
          have hy2 : y1 < Q.1.length := by simpa using hy1
          have lx := encLs_q hx1
          have ly := encLs_q hy1
          have eq2 : q = (Q.1 ++ [⟨42, 0, [(x1 : Int), (y1 : Int)]⟩], (Q.1.length : Int), Q.2.2.1, 0) := by
            rw [← eq]
            simp only [Rdr.fin, if_pos hq, exy]
            rfl
          subst eq2
          refine ⟨fun _ => ?_, fun h => absurd rfl h⟩
          have htx2 : Q.2.2.1 ≤ tx.size := g2
          have hQl : Q.1.length ≤ 300 := by omega
          refine semT' (S := fun _ => true) hm spec_l11Parse_ok (Nat.le_of_ble_eq_true rfl) ?_
          unfold spec_l11Parse; dsimp only
          simp [hlt, h1, hv, w1]
          (refine lift_call rfl hK (by simp) (by simp) ?_; simp [gN, sN, kd3, w1])
          refine all_call rfl hTT (by simp) ?_; simp [gN, sN]
          refine lift_call rfl (spec_l11Parts_c ⟨8, x1, y1, false⟩) (by simp) (by simp) ?_
          have e9 : nodesL (Q.1 ++ [⟨42, 0, [(x1 : Int), (y1 : Int)]⟩]) = nodesL Q.1 ++ [⟨8, x1, y1, (nodesL Q.1)[x1].q || (nodesL Q.1)[y1].q⟩] := by
            rw [nodesL_snoc]
            simp [nodeL, pkF, kd3, askAt, hx2, hy2]
          rcases Bool.eq_false_or_eq_true (nodesL Q.1)[x1].q with ax | ax
          · rw [e9, ax, Bool.true_or]
            simp [gN, gB, sN, sB, lpF, partsF, hx2, hy2, lx, ly, ax]
            refine ck_intro' (by omega) ?_; simp [gN, gB, sB]
            repeat (refine ck_intro' (by first | omega | (simp; omega) | kernel_rfl) ?_; try simp)
            have f := fun T => fin (nodesL Q.1) ⟨8, x1, y1, true⟩ Q.2.2.1 T
            simp [encL] at f
            exact f _
          · rw [e9, ax, Bool.false_or]
            simp [gN, gB, sN, sB, lpF, partsF, hx2, hy2, lx, ly, ax]
            refine ck_intro' (by omega) ?_; simp [gN, gB, sB]
            repeat (refine ck_intro' (by first | omega | (simp; omega) | kernel_rfl) ?_; try simp)
            have f := fun T => fin (nodesL Q.1) ⟨8, x1, y1, (nodesL Q.1)[y1].q⟩ Q.2.2.1 T
            simp [encL] at f
            exact f _
        · obtain ⟨L, x, y, z, hTT⟩ := hT.2 hq
          have eq2 : q = (Q.1, -1, Q.2.2.1, Q.2.2.2) := by rw [← eq]; simp only [Rdr.fin, if_neg hq]
          subst eq2
          refine ⟨fun h => absurd h hq, fun _ => ⟨L, ?_⟩⟩
          refine semT' (S := fun _ => true) hm spec_l11Parse_ok (Nat.le_of_ble_eq_true rfl) ?_
          unfold spec_l11Parse; dsimp only
          simp [hlt, h1, hv, w1]
          (refine lift_call rfl hK (by simp) (by simp) ?_; simp [gN, sN, kd3, w1])
          refine all_call rfl hTT (by simp) ?_; simp [gN, sN]
          exact bad _ _
      · rw [hv] at eq hK
        have hT := two_t hs ih (s := s) (i := i1) (H := H.set b (nblk (nodesL s)) ++ [nrow 10 0 0 false]) (b := b) true 41 hG (by omega) (by omega) (by omega) (hbN _) (hcN _)
        dsimp only at hT
        have hgood := (patK tx).arg_good n (s := s) (i := i) ⟨hl, hG⟩ hlt (by rw [htx]; omega)
        simp only [htx] at hgood
        rw [hi1] at hgood
        obtain ⟨Q, eQ⟩ : ∃ Q, (patR tx).two (rdF (patR tx) n) 41 s (opF tx true i1).1 (opF tx true i1).2 = Q := ⟨_, rfl⟩
        have eQ' : (patR tx).two (rdF (patR tx) n) 41 s (takeF tx i1 0 40).1 (takeF tx i1 0 40).2 = Q := eQ
        rw [eQ] at hT
        rw [eQ'] at hgood eq
        simp only [sB] at hT
        by_cases hq : Q.2.2.2 = 0
        · obtain ⟨x, y, exy, hTT⟩ := hT.1 hq
          obtain ⟨g1, g2, g3, g4⟩ := hgood hq
          obtain ⟨p1, p2, p3, p4⟩ := g3
          have vx := g4 x (by rw [exy]; simp)
          have vy := g4 y (by rw [exy]; simp)
          obtain ⟨x1, rfl⟩ : ∃ x1 : Nat, x = x1 := ⟨x.toNat, by have := vx.1; omega⟩
          obtain ⟨y1, rfl⟩ : ∃ y1 : Nat, y = y1 := ⟨y.toNat, by have := vy.1; omega⟩
          have hx1 : x1 < (nodesL Q.1).length := by have := vx.2; simp; omega
          have hy1 : y1 < (nodesL Q.1).length := by have := vy.2; simp; omega
          have hx2 : x1 < Q.1.length := by simpa using hx1
          have hy2 : y1 < Q.1.length := by simpa using hy1
          have lx := encLs_q hx1
          have ly := encLs_q hy1
          have eq2 : q = (Q.1 ++ [⟨120, 0, [(x1 : Int), (y1 : Int)]⟩], (Q.1.length : Int), Q.2.2.1, 0) := by
            rw [← eq]
            simp only [Rdr.fin, if_pos hq, exy]
            rfl
          subst eq2
          refine ⟨fun _ => ?_, fun h => absurd rfl h⟩
          have htx2 : Q.2.2.1 ≤ tx.size := g2
          have hQl : Q.1.length ≤ 300 := by omega
          refine semT' (S := fun _ => true) hm spec_l11Parse_ok (Nat.le_of_ble_eq_true rfl) ?_
          unfold spec_l11Parse; dsimp only
          simp [hlt, h1, hv, w1]
          skip
          refine all_call rfl hTT (by simp) ?_; simp [gN, sN]
          refine lift_call rfl (spec_l11Parts_c ⟨10, x1, y1, false⟩) (by simp) (by simp) ?_
          have e9 : nodesL (Q.1 ++ [⟨120, 0, [(x1 : Int), (y1 : Int)]⟩]) = nodesL Q.1 ++ [⟨10, x1, y1, (nodesL Q.1)[x1].q || (nodesL Q.1)[y1].q⟩] := by
            rw [nodesL_snoc]
            simp [nodeL, pkF, kd3, askAt, hx2, hy2]
          rcases Bool.eq_false_or_eq_true (nodesL Q.1)[x1].q with ax | ax
          · rw [e9, ax, Bool.true_or]
            simp [gN, gB, sN, sB, lpF, partsF, hx2, hy2, lx, ly, ax]
            refine ck_intro' (by omega) ?_; simp [gN, gB, sB]
            repeat (refine ck_intro' (by first | omega | (simp; omega) | kernel_rfl) ?_; try simp)
            have f := fun T => fin (nodesL Q.1) ⟨10, x1, y1, true⟩ Q.2.2.1 T
            simp [encL] at f
            exact f _
          · rw [e9, ax, Bool.false_or]
            simp [gN, gB, sN, sB, lpF, partsF, hx2, hy2, lx, ly, ax]
            refine ck_intro' (by omega) ?_; simp [gN, gB, sB]
            repeat (refine ck_intro' (by first | omega | (simp; omega) | kernel_rfl) ?_; try simp)
            have f := fun T => fin (nodesL Q.1) ⟨10, x1, y1, (nodesL Q.1)[y1].q⟩ Q.2.2.1 T
            simp [encL] at f
            exact f _
        · obtain ⟨L, x, y, z, hTT⟩ := hT.2 hq
          have eq2 : q = (Q.1, -1, Q.2.2.1, Q.2.2.2) := by rw [← eq]; simp only [Rdr.fin, if_neg hq]
          subst eq2
          refine ⟨fun h => absurd h hq, fun _ => ⟨L, ?_⟩⟩
          refine semT' (S := fun _ => true) hm spec_l11Parse_ok (Nat.le_of_ble_eq_true rfl) ?_
          unfold spec_l11Parse; dsimp only
          simp [hlt, h1, hv, w1]
          skip
          refine all_call rfl hTT (by simp) ?_; simp [gN, sN]
          exact bad _ _
    rw [if_neg h5] at eq
    subst eq
    obtain ⟨n1, n2, n3, n4, n5⟩ := no_sign h2 h3 h4 h5
    rw [n5] at hK
    refine ⟨fun h => by simp at h, fun _ => ⟨nodesL s, ?_⟩⟩
    refine semT' (S := fun _ => true) hm spec_l11Parse_ok (Nat.le_of_ble_eq_true rfl) ?_
    unfold spec_l11Parse; dsimp only
    simp [hlt, h1, n1, n2, n3, n4]
    refine lift_call rfl hK (by simp) (by simp) ?_; simp [gN, sN]
    exact bad _ _
end Go.Proofs.YtmlfacjgfjmdeaaDoor.C

set_option linter.unusedVariables false
set_option linter.unusedSimpArgs false
set_option maxRecDepth 4000
namespace Go.Proofs.YtmlfacjgfjmdeaaDoor.C
open Go.Sym Go.Proofs.YtmlfacjgfjmdeaaDoor.I
theorem read_t {tx : ByteArray} (hs : tx.size ≤ 281474976710656) :
    ((patF tx).2 = true → T 42 [.str tx] [] (.tup [nref 0 (nodesL (patF tx).1), .bool true]) [nblk (nodesL (patF tx).1)]) ∧
    ((patF tx).2 = false → ∃ L : List Ln, T 42 [.str tx] [] (.tup [nref 0 L, .bool false]) [nblk L]) := by
  by_cases h2 : 200 < tx.size
  · rw [show patF tx = ([], false) from if_pos h2]
    refine ⟨fun h => by simp at h, fun _ => ⟨[], ?_⟩⟩
    refine semT' (S := fun _ => true) hm spec_l11Read_ok (Nat.le_of_ble_eq_true rfl) ?_
    unfold spec_l11Read; dsimp only
    have b1 : decide ((200 : Int) < tx.size) = true := by simp; omega
    simp [b1]
    exact LeV.tell [none] (by simp) (by simp) (by simp)
  have hs2 : tx.size ≤ 200 := by omega
  have htx : (patR tx).text = tx := rfl
  have b1 : decide ((200 : Int) < tx.size) = false := by simp; omega
  have hP := parse_t hs2 (tx.size + 1) [] 0 [nblk []] 0 (fun j h => by cases h) (by simp) (by omega) (by omega) rfl (by simp)
  have hgd := (patK tx).rd_good (tx.size + 1) (s := []) (i := 0) (c := 0) ⟨by simp, fun j h => by cases h⟩ (by omega) (by rw [htx]; omega)
  have e0 : patF tx = ((allRF (patR tx) 200 []).1, decide ((allRF (patR tx) 200 []).2.2.2 = 0)) := if_neg h2
  have e1 : allRF (patR tx) 200 [] = if (rdF (patR tx) (tx.size + 1) [] 0 0).2.2.2 = 0 ∧ (rdF (patR tx) (tx.size + 1) [] 0 0).2.2.1 < tx.size then ((rdF (patR tx) (tx.size + 1) [] 0 0).1, -1, (rdF (patR tx) (tx.size + 1) [] 0 0).2.2.1, 6) else rdF (patR tx) (tx.size + 1) [] 0 0 := by
    unfold allRF
    rw [htx, if_neg (by omega)]
  rw [e0, e1]
  obtain ⟨q, eq⟩ : ∃ q, rdF (patR tx) (tx.size + 1) [] 0 0 = q := ⟨_, rfl⟩
  rw [eq] at hP hgd ⊢
  have en : nodesL [] = [] := rfl
  by_cases hq : q.2.2.2 = 0
  · obtain ⟨g1, g2, _⟩ := hgd hq
    rw [htx] at g2
    have hT := SemT.virtA (xs := [.str tx, i6 0, .nil]) (H := []) (esz := 4) (by simp [NilR]) (hP.1 hq)
    by_cases hp : q.2.2.1 < tx.size
    · rw [if_pos ⟨hq, hp⟩]
      refine ⟨fun h => by simp at h, fun _ => ⟨nodesL q.1, ?_⟩⟩
      refine semT' (S := fun _ => true) hm spec_l11Read_ok (Nat.le_of_ble_eq_true rfl) ?_
      unfold spec_l11Read; dsimp only
      simp [b1]
      refine all_call rfl hT (by simp) ?_; simp
      exact LeV.eq (by have : ¬ (q.2.2.1 : Int) = tx.size := by omega
                       simp only [this, decide_false]) rfl
    · rw [if_neg (fun h => hp h.2)]
      refine ⟨fun _ => ?_, fun h => by simp [hq] at h⟩
      refine semT' (S := fun _ => true) hm spec_l11Read_ok (Nat.le_of_ble_eq_true rfl) ?_
      unfold spec_l11Read; dsimp only
      simp [b1]
      refine all_call rfl hT (by simp) ?_; simp [show q.2.2.1 = tx.size by omega]
      exact LeV.refl _ _ _
  · obtain ⟨L, hL⟩ := hP.2 hq
    have hT := SemT.virtA (xs := [.str tx, i6 0, .nil]) (H := []) (esz := 4) (by simp [NilR]) hL
    rw [if_neg (fun h => hq h.1)]
    refine ⟨fun h => absurd (by simpa using h) hq, fun _ => ⟨L, ?_⟩⟩
    refine semT' (S := fun _ => true) hm spec_l11Read_ok (Nat.le_of_ble_eq_true rfl) ?_
    unfold spec_l11Read; dsimp only
    simp [b1]
    refine all_call rfl hT (by simp) ?_; simp
    exact LeV.refl _ _ _
theorem spec_PatOk_c (tx : ByteArray) (hs : tx.size ≤ 281474976710656) : T 11 [.str tx] [] (.bool (patF tx).2) ([]) := by
  refine semT' (S := (fun f => [42].contains f)) hm spec_PatOk_ok (Nat.le_of_ble_eq_true rfl) ?_
  unfold spec_PatOk; dsimp only
  obtain ⟨r1, r2⟩ := read_t hs
  simp
  rcases Bool.eq_false_or_eq_true (patF tx).2 with h | h
  · refine WCall_t' rfl [] (r1 h) (by simp) (by simp) ?_; simp
    exact LeV.ro rfl rfl (by simp [h])
  · obtain ⟨L, hL⟩ := r2 h
    refine WCall_t' rfl [] hL (by simp) (by simp) ?_; simp
    exact LeV.ro rfl rfl (by simp [h])
theorem spec_PatOk_call {tx : ByteArray} (hs : tx.size ≤ 281474976710656) {S : FuncId → Bool} {H : List Blk} {K : A → Dl → Prop} (hS : S 11 = false) (hK : K (.bool (patF tx).2) (.news [])) : @WCall' Go.Proofs.Tryd.prog S 11 [.str tx] H ⟨K⟩ :=
  WCall_pure hS (spec_PatOk_c tx hs) (by simp) (by simp) (by simp) hK
theorem spec_PatOk_k {tx : ByteArray} (hs : tx.size ≤ 281474976710656) {S : FuncId → Bool} {H : List Blk} {K : A → Dl → Prop} {zs : List A} (hS : S 11 = false) (hv : viewL (viewA 8 H) zs = some [.str tx]) (ho : noOwns zs = true ∨ nosl (.bool (patF tx).2) = true) (hK : K (.bool (patF tx).2) (.news [])) : @WCall' Go.Proofs.Tryd.prog S 11 zs H ⟨K⟩ :=
  WCall_pure hS (spec_PatOk_c tx hs) hv ho (by simp) hK
theorem impl_PatOk_c (tx : ByteArray) (hs : tx.size ≤ 281474976710656) : T 12 [.str tx] [] (.bool (patF tx).2) ([]) := by
  refine semT' (S := S0) hm impl_PatOk_ok (Nat.le_of_ble_eq_true rfl) ?_
  unfold impl_PatOk; dsimp only
  simp
  refine impl_patternOf_k (tx := tx) hs rfl (by simp) (by simp [noslBlks]) ?_; simp [shiftB]
  exact LeV.ro rfl rfl (by simp)
theorem impl_PatOk_call {tx : ByteArray} (hs : tx.size ≤ 281474976710656) {S : FuncId → Bool} {H : List Blk} {K : A → Dl → Prop} (hS : S 12 = false) (hK : K (.bool (patF tx).2) (.news [])) : @WCall' Go.Proofs.Tryd.prog S 12 [.str tx] H ⟨K⟩ :=
  WCall_pure hS (impl_PatOk_c tx hs) (by simp) (by simp) (by simp) hK
theorem impl_PatOk_k {tx : ByteArray} (hs : tx.size ≤ 281474976710656) {S : FuncId → Bool} {H : List Blk} {K : A → Dl → Prop} {zs : List A} (hS : S 12 = false) (hv : viewL (viewA 8 H) zs = some [.str tx]) (ho : noOwns zs = true ∨ nosl (.bool (patF tx).2) = true) (hK : K (.bool (patF tx).2) (.news [])) : @WCall' Go.Proofs.Tryd.prog S 12 zs H ⟨K⟩ :=
  WCall_pure hS (impl_PatOk_c tx hs) hv ho (by simp) hK
end Go.Proofs.YtmlfacjgfjmdeaaDoor.C

set_option linter.unusedVariables false
set_option linter.unusedSimpArgs false
namespace Go.Proofs.YtmlfacjgfjmdeaaDoor.C
open Go.Sym Go.Proofs.YtmlfacjgfjmdeaaDoor.I
def In64 (n : Int) : Prop := -9223372036854775808 ≤ n ∧ n < 9223372036854775808
abbrev shI : Sh := .i .i64
abbrev shN : Sh := .st (.p shI (.p shI (.p shI .u)))
abbrev shP : Sh := .st (.p (.sl shN) .u)
abbrev shL : Sh := .st (.p shI (.p shI (.p shI (.p .b .u))))
abbrev shIs : Sh := .sl shI
abbrev shS : Sh := .st (.p shP (.p shIs (.p shL (.p shL (.p shIs (.p shIs .u))))))
theorem fit_i {cs : List A} (h : Fit shI cs) : ∃ n, cs = [i6 n] ∧ In64 n := by
  obtain ⟨n, rfl, hn⟩ := h
  exact ⟨n, rfl, fit_i64 hn⟩
theorem fit_n {cs : List A} (h : Fit shN cs) : ∃ n : Nd, cs = encN n ∧ In64 n.k ∧ In64 n.a ∧ In64 n.b := by
  obtain ⟨x, y, rfl, hx, z, t, rfl, hz, u, w, rfl, hu, rfl⟩ := h
  obtain ⟨a, rfl, ha⟩ := fit_i hx
  obtain ⟨b, rfl, hb⟩ := fit_i hz
  obtain ⟨c, rfl, hc⟩ := fit_i hu
  exact ⟨⟨a, b, c⟩, rfl, ha, hb, hc⟩
theorem fit_p {cs : List A} (h : Fit shP cs) : ∃ ns : List Nd, cs = [.sl ns.length (enc ns)] ∧ ns.length < 9223372036854775808 := by
  obtain ⟨x, y, rfl, hx, rfl⟩ := h
  obtain ⟨ns, rfl, h1, _⟩ := fit_sl (f := encN) (fun r hr => fit_n hr) hx
  exact ⟨ns, by simp [enc], h1⟩
theorem fit_is {cs : List A} (h : Fit shIs cs) : ∃ xs : List Int, cs = [aI xs] ∧ xs.length < 9223372036854775808 := by
  obtain ⟨xs, rfl, h1, _⟩ := fit_sl (f := fun n => [i6 n]) (fun r hr => fit_i hr) h
  exact ⟨xs, by simp only [aI, ints]; rw [List.map_eq_flatMap], h1⟩
structure Lk.fit (l : Lk) : Prop where
  k : In64 l.key
  e : In64 l.epoch
  s : In64 l.seq
theorem fit_l {cs : List A} (h : Fit shL cs) : ∃ l : Lk, cs = [i6 l.key, i6 l.epoch, i6 l.seq, .bool l.over] ∧ l.fit := by
  obtain ⟨x, y, rfl, hx, z, t, rfl, hz, u, w, rfl, hu, b, w, rfl, ⟨o, rfl⟩, rfl⟩ := h
  obtain ⟨a, rfl, ha⟩ := fit_i hx
  obtain ⟨b, rfl, hb⟩ := fit_i hz
  obtain ⟨c, rfl, hc⟩ := fit_i hu
  exact ⟨⟨a, b, c, o⟩, rfl, ha, hb, hc⟩
structure St.fitA (s : St) : Prop where
  p : s.pool.length < 9223372036854775808
  k : s.know.length < 9223372036854775808
  t : s.sent.length < 9223372036854775808
  g : s.got.length < 9223372036854775808
  o : s.out.fit
  i : s.inn.fit
theorem fit_s {cs : List A} (h : Fit shS cs) : ∃ s : St, cs = cS s ∧ s.fitA := by
  obtain ⟨x, y, rfl, hx, z, t, rfl, hz, u, w, rfl, hu, b, w, rfl, hb, e, f, rfl, he, g, i, rfl, hg, rfl⟩ := h
  obtain ⟨ns, rfl, h1⟩ := fit_p hx
  obtain ⟨ks, rfl, h2⟩ := fit_is hz
  obtain ⟨l, rfl, h3⟩ := fit_l hu
  obtain ⟨m, rfl, h4⟩ := fit_l hb
  obtain ⟨ts, rfl, h5⟩ := fit_is he
  obtain ⟨gs, rfl, h6⟩ := fit_is hg
  exact ⟨⟨ns, ks, l, m, ts, gs⟩, rfl, h1, h2, h5, h6, h3, h4⟩
theorem arg_p {x : A} (h : FitA shP x) : ∃ ns : List Nd, x = aP ns ∧ ns.length < 9223372036854775808 := by
  obtain ⟨cs, rfl, h⟩ := h
  obtain ⟨ns, rfl, g⟩ := fit_p h
  exact ⟨ns, rfl, g⟩
theorem arg_l {x : A} (h : FitA shL x) : ∃ l : Lk, x = aL l ∧ l.fit := by
  obtain ⟨cs, rfl, h⟩ := h
  obtain ⟨ns, rfl, g⟩ := fit_l h
  exact ⟨ns, rfl, g⟩
theorem arg_s {x : A} (h : FitA shS x) : ∃ s : St, x = aS s ∧ s.fitA := by
  obtain ⟨cs, rfl, h⟩ := h
  obtain ⟨ns, rfl, g⟩ := fit_s h
  exact ⟨ns, rfl, g⟩
theorem arg_is {x : A} (h : FitA shIs x) : ∃ xs : List Int, x = aI xs ∧ xs.length < 9223372036854775808 := by
  obtain ⟨xs, e, h⟩ := fit_is (show Fit shIs [x] from h)
  exact ⟨xs, by simpa using e, h⟩
theorem arg_i {x : A} (h : FitA shI x) : ∃ n : Int, x = i6 n ∧ In64 n := by
  obtain ⟨n, e, h⟩ := fit_i (show Fit shI [x] from h)
  exact ⟨n, by simpa using e, h⟩
end Go.Proofs.YtmlfacjgfjmdeaaDoor.C

set_option linter.unusedVariables false
set_option linter.unusedSimpArgs false
set_option maxRecDepth 4000
namespace Go.Proofs.YtmlfacjgfjmdeaaDoor.C
open Go.Sym Go.Proofs.YtmlfacjgfjmdeaaDoor.I
theorem arg_tx {x : A} (h : FitA .tx x) : ∃ s : ByteArray, x = .str s ∧ s.size ≤ maxLen := by
  obtain ⟨s, e, h⟩ := (show Fit .tx [x] from h)
  exact ⟨s, by simpa using e, h⟩
theorem laws_FnExactPatOk_c (tx : ByteArray) (ha : tx.size ≤ maxLen) : T 3 [.str tx] [] (.bool true) ([]) := by
  refine semT' (S := S0) hm laws_FnExactPatOk_ok (Nat.le_of_ble_eq_true rfl) ?_
  unfold laws_FnExactPatOk; dsimp only
  simp
  refine br_intro' (fun g => ?_) (fun g => ?_) <;> (have g0 := g) <;> simp only [decide_eq_true_eq, decide_eq_false_iff_not] at g <;> simp [g0]
  · exact LeV.ro rfl rfl rfl
  have hs : tx.size ≤ 281474976710656 := by omega
  refine spec_PatOk_call (tx := tx) hs rfl ?_; simp
  refine impl_PatOk_call (tx := tx) hs rfl ?_; simp
  exact LeV.ro rfl rfl rfl
end Go.Proofs.YtmlfacjgfjmdeaaDoor.C
