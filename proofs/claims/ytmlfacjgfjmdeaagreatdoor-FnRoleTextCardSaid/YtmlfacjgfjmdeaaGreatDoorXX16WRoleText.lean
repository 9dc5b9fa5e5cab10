/- What stands behind a reading without fault; the letters that a pattern asks. Conditions: those that each theorem names. -/
import Derived.Test.YtmlfacjgfjmdeaaGreatDoorXX12L2
import Derived.Test.YtmlfacjgfjmdeaaGreatDoorXX18X34
set_option linter.unusedVariables false
set_option linter.unusedSimpArgs false
set_option maxRecDepth 4000
namespace Go.Proofs.YtmlfacjgfjmdeaaGreatDoor.C
open Go.Sym Go.Proofs.YtmlfacjgfjmdeaaGreatDoor.I
/-- The letters that pieces ask, and those behind the signs of a stretch of text. -/
def letsP (s : List Pt) : List UInt8 := (s.filter fun p => decide (p.s = 63)).map fun p => UInt8.ofNat (97 + p.n.toNat)
def letT (tx : ByteArray) (i k : Nat) : List UInt8 := ((List.range' i k).filter fun j => decide (bt tx j = 63)).map fun j => byt tx (j + 1)
theorem letsP_snoc (s : List Pt) (p : Pt) : letsP (s ++ [p]) = letsP s ++ (if p.s = 63 then [UInt8.ofNat (97 + p.n.toNat)] else []) := by
  by_cases h : p.s = 63 <;> simp [letsP, h]
theorem letT_split (tx : ByteArray) (i a b : Nat) : letT tx i (a + b) = letT tx i a ++ letT tx (i + a) b := by
  simp only [letT]
  rw [← List.range'_append_1, List.filter_append, List.map_append]
theorem letT_cut (tx : ByteArray) {i j k : Nat} (h1 : i ≤ j) (h2 : j ≤ k) : letT tx i (k - i) = letT tx i (j - i) ++ letT tx j (k - j) := by
  have := letT_split tx i (j - i) (k - j)
  rw [show j - i + (k - j) = k - i by omega, show i + (j - i) = j by omega] at this
  exact this
theorem letT_none {tx : ByteArray} {i k : Nat} (h : ∀ j, i ≤ j → j < i + k → bt tx j ≠ 63) : letT tx i k = [] := by
  simp only [letT]
  rw [List.filter_eq_nil_iff.2]
  · rfl
  · intro j hj
    rw [List.mem_range'_1] at hj
    simpa using h j hj.1 hj.2
theorem letT_step {tx : ByteArray} {i : Nat} (h : bt tx i ≠ 63) : letT tx i 1 = [] := letT_none fun j h1 h2 => by
  obtain rfl : j = i := by omega
  exact h
theorem lets_rd (tx : ByteArray) : ∀ (n : Nat) (s : List Pt) (i : Nat), (rdF (patR tx) n s i 0).2.2.2 = 0 → i ≤ (rdF (patR tx) n s i 0).2.2.1 ∧ letsP (rdF (patR tx) n s i 0).1 = letsP s ++ letT tx i ((rdF (patR tx) n s i 0).2.2.1 - i)
  | 0, s, i, h => ⟨Nat.le_refl _, by simp [rdF, letT]⟩
  | n + 1, s, i, h => by
    have ih := lets_rd tx n
    obtain ⟨_, hi, hb⟩ := rdF_inv h
    have htx : (patR tx).text = tx := rfl
    have two : ∀ {s : List Pt} {i : Nat} {e : Int} {a b : List Pt × Int × Nat × Int}, TwoOk (patR tx) (rdF (patR tx) n) s i e a b → e ≠ 63 → i ≤ b.2.2.1 + 1 ∧ letsP b.1 = letsP s ++ letT tx i (b.2.2.1 + 1 - i) := by
      intro s i e a b ht he
      have h1 := ih s i
      rw [ht.ha] at h1
      obtain ⟨g1, g2⟩ := h1 ht.ca
      have h2 := ih a.1 (a.2.2.1 + 1)
      rw [ht.hb] at h2
      obtain ⟨g3, g4⟩ := h2 ht.cb
      have sa := ht.sa
      have sb := ht.sb
      rw [htx] at sa sb
      refine ⟨by omega, ?_⟩
      rw [letT_cut tx (show i ≤ a.2.2.1 by omega) (show a.2.2.1 ≤ b.2.2.1 + 1 by omega), letT_cut tx (show a.2.2.1 ≤ a.2.2.1 + 1 by omega) (show a.2.2.1 + 1 ≤ b.2.2.1 + 1 by omega), letT_cut tx g3 (show b.2.2.1 ≤ b.2.2.1 + 1 by omega)]
      rw [show a.2.2.1 + 1 - a.2.2.1 = 1 by omega, show b.2.2.1 + 1 - b.2.2.1 = 1 by omega, letT_step (i := a.2.2.1) (by omega), letT_step (i := b.2.2.1) (by omega), g4, g2]
      simp
    have first : ∀ {j : Nat}, i + 1 ≤ j → bt tx i ≠ 63 → letT tx i (j - i) = letT tx (i + 1) (j - (i + 1)) := fun {j} hj hn => by
      rw [letT_cut tx (show i ≤ i + 1 by omega) hj, show i + 1 - i = 1 by omega, letT_step hn]
      rfl
    cases hb with
    | leaf hl hq hc =>
      rw [hq] at hc ⊢
      simp only [patR] at hc ⊢
      have hb := leaf_sign hl
      rw [htx] at hb
      rw [letsP_snoc]
      unfold lfF at hc ⊢
      by_cases h1 : bt tx i = 110
      · rw [if_pos h1] at hc ⊢
        unfold numF at hc ⊢
        split at hc
        · rename_i g
          rw [if_pos g]
          have hd := dEnd_ge tx (i + 1)
          simp only [Int.toNat_natCast]
          refine ⟨by omega, ?_⟩
          rw [first (by omega) (by omega), letT_none (fun j k1 k2 => ?_)]
          · simp [h1]
          · have := dg_at k1 (show j < dEnd tx (i + 1) by omega)
            simp only [isDg, decide_eq_true_eq] at this
            simp only [bt]
            omega
        · simp at hc
      · rw [if_neg h1] at hc ⊢
        unfold letF at hc ⊢
        split at hc
        · rename_i g
          rw [if_pos g]
          simp only
          refine ⟨by omega, ?_⟩
          rw [show i + 2 - i = 1 + 1 by omega, letT_split, letT_step (i := i + 1) (by omega), List.append_nil]
          congr 1
          by_cases h2 : bt tx i = 63
          · rw [if_pos h2]
            have e1 : letT tx i 1 = [byt tx (i + 1)] := by simp [letT, h2]
            rw [e1]
            have : UInt8.ofNat (97 + (bt tx (i + 1) - 97).toNat) = byt tx (i + 1) := by
              apply UInt8.toNat_inj.1
              have := (bt_range tx (i + 1)).2
              simp only [bt] at this g ⊢
              simp
              omega
            rw [this]
          · rw [if_neg h2, letT_step h2]
        · simp at hc
    | two a b h0 h1 ht hj hq =>
      rw [hq]
      simp only [patR] at hj ⊢
      have hb := two_sign h1
      rw [htx] at hb
      obtain ⟨g1, g2⟩ := two ht (by unfold closeF; split <;> (try split) <;> decide)
      refine ⟨by omega, ?_⟩
      rw [letsP_snoc, if_neg (by simp only [htx]; omega), List.append_nil, first (by omega) (by omega), g2]
    | one a h0 h1 h2 ha ca hj hq =>
      rw [hq]
      simp only [patR] at hj ⊢
      have hb := one_sign h2
      rw [htx] at hb
      have h3 := ih s (i + 1)
      rw [ha] at h3
      obtain ⟨g1, g2⟩ := h3 ca
      refine ⟨by omega, ?_⟩
      rw [letsP_snoc, if_neg (by simp only [htx]; omega), List.append_nil, first (by omega) (by omega), g2]
    | arg a b h0 h1 h2 h3 hl ho ht hj hq =>
      rw [hq]
      simp only [patR] at hj ⊢
      have hb := arg_sign h3
      rw [htx] at hb ho
      obtain ⟨g1, g2⟩ := two ht (by decide)
      refine ⟨by omega, ?_⟩
      rw [letsP_snoc, if_neg (by simp only [htx]; omega), List.append_nil, first (by omega) (by omega), letT_cut tx (show i + 1 ≤ i + 1 + 1 by omega) (show i + 1 + 1 ≤ b.2.2.1 + 1 by omega), show i + 1 + 1 - (i + 1) = 1 by omega, letT_step (i := i + 1) (by omega), g2]
      simp
end Go.Proofs.YtmlfacjgfjmdeaaGreatDoor.C

set_option linter.unusedVariables false
set_option linter.unusedSimpArgs false
set_option maxRecDepth 4000
namespace Go.Proofs.YtmlfacjgfjmdeaaGreatDoor.C
open Go.Sym Go.Proofs.YtmlfacjgfjmdeaaGreatDoor.I
/-- The letters that a pattern asks. -/
def lettersF (tx : ByteArray) : ByteArray := if (patF tx).2 = true then ⟨(letsP (patF tx).1).toArray⟩ else ⟨#[]⟩
theorem letsP_text {tx : ByteArray} (h : (patF tx).2 = true) : letsP (patF tx).1 = letT tx 0 tx.size := by
  by_cases h2 : 200 < tx.size
  · rw [show patF tx = ([], false) from if_pos h2] at h
    simp at h
  have htx : (patR tx).text = tx := rfl
  have hgd := (patK tx).rd_good (tx.size + 1) (s := []) (i := 0) (c := 0) ⟨by simp, fun j h => by cases h⟩ (by omega) (by rw [htx]; omega)
  have hls := lets_rd tx (tx.size + 1) [] 0
  have e0 : patF tx = ((allRF (patR tx) 200 []).1, decide ((allRF (patR tx) 200 []).2.2.2 = 0)) := if_neg h2
  have e1 : allRF (patR tx) 200 [] = if (rdF (patR tx) (tx.size + 1) [] 0 0).2.2.2 = 0 ∧ (rdF (patR tx) (tx.size + 1) [] 0 0).2.2.1 < tx.size then ((rdF (patR tx) (tx.size + 1) [] 0 0).1, -1, (rdF (patR tx) (tx.size + 1) [] 0 0).2.2.1, 6) else rdF (patR tx) (tx.size + 1) [] 0 0 := by
    unfold allRF
    rw [htx, if_neg (by omega)]
  rw [e0] at h ⊢
  rw [e1] at h ⊢
  obtain ⟨q, eq⟩ : ∃ q, rdF (patR tx) (tx.size + 1) [] 0 0 = q := ⟨_, rfl⟩
  rw [eq] at hgd h hls ⊢
  by_cases hp : q.2.2.2 = 0 ∧ q.2.2.1 < tx.size
  · rw [if_pos hp] at h
    simp at h
  · rw [if_neg hp] at h ⊢
    simp only [decide_eq_true_eq] at h
    obtain ⟨g1, g2, _⟩ := hgd h
    rw [htx] at g2
    obtain ⟨_, g3⟩ := hls h
    simp only
    rw [g3, show q.2.2.1 = tx.size by omega]
    rfl
abbrev u8s (xs : List UInt8) : List A := xs.map b8
@[simp] theorem u8s_scals (xs : List UInt8) : scals (u8s xs) = true := scals_map _ (fun _ => rfl) xs
theorem b8s_u8s : ∀ (xs : List UInt8), b8s (u8s xs) = some xs
  | [] => rfl
  | x :: xs => by simp [b8, b8s, b8s_u8s xs]
@[simp] theorem u8s_len (xs : List UInt8) : (u8s xs).length = xs.length := List.length_map ..
@[simp] theorem u8s_take (xs : List UInt8) : (u8s xs).take xs.length = u8s xs := List.take_of_length_le (by simp)
@[simp] theorem u8s_inAs (n : Nat) (xs : List UInt8) : inAs n (u8s xs) = true := inAs_scals _ (u8s_scals xs)
@[simp] theorem u8s_one (xs : List UInt8) : (u8s xs).all A.one = true := one_scals _ (u8s_scals xs)
end Go.Proofs.YtmlfacjgfjmdeaaGreatDoor.C

set_option linter.unusedVariables false
set_option linter.unusedSimpArgs false
set_option maxRecDepth 4000
namespace Go.Proofs.YtmlfacjgfjmdeaaGreatDoor.C
open Go.Sym Go.Proofs.YtmlfacjgfjmdeaaGreatDoor.I
theorem nonl_rd (tx : ByteArray) : ∀ (n : Nat) (s : List Pt) (i : Nat), (rdF (patR tx) n s i 0).2.2.2 = 0 → ∀ k, i ≤ k → k < (rdF (patR tx) n s i 0).2.2.1 → bt tx k ≠ 10
  | 0, s, i, h => fun k h1 h2 => absurd h2 (by simp [rdF]; omega)
  | n + 1, s, i, h => by
    have ih := nonl_rd tx n
    obtain ⟨_, hi, hb⟩ := rdF_inv h
    have htx : (patR tx).text = tx := rfl
    have two : ∀ {s : List Pt} {i : Nat} {e : Int} {a b : List Pt × Int × Nat × Int}, TwoOk (patR tx) (rdF (patR tx) n) s i e a b → e ≠ 10 → ∀ k, i ≤ k → k < b.2.2.1 + 1 → bt tx k ≠ 10 := by
      intro s i e a b ht he k k1 k2
      have h1 := ih s i
      rw [ht.ha] at h1
      have g1 := h1 ht.ca
      have h2 := ih a.1 (a.2.2.1 + 1)
      rw [ht.hb] at h2
      have g2 := h2 ht.cb
      have sa := ht.sa
      have sb := ht.sb
      rw [htx] at sa sb
      rcases Nat.lt_trichotomy k a.2.2.1 with x | x | x
      · exact g1 k k1 x
      · rw [x, sa]; decide
      · rcases Nat.lt_or_ge k b.2.2.1 with y | y
        · exact g2 k x y
        · rw [show k = b.2.2.1 by omega, sb]; exact he
    cases hb with
    | leaf hl hq hc =>
      rw [hq] at hc ⊢
      simp only [patR] at hc ⊢
      have hb := leaf_sign hl
      rw [htx] at hb
      unfold lfF at hc ⊢
      intro k k1
      by_cases h1 : bt tx i = 110
      · rw [if_pos h1] at hc ⊢
        unfold numF at hc ⊢
        split at hc
        · rename_i g
          rw [if_pos g]
          simp only [Int.toNat_natCast]
          intro k2
          rcases Nat.lt_or_ge i k with y | y
          · have := dg_at (show i + 1 ≤ k by omega) k2
            simp only [isDg, decide_eq_true_eq] at this
            simp only [bt]
            omega
          · rw [show k = i by omega]; omega
        · simp at hc
      · rw [if_neg h1] at hc ⊢
        unfold letF at hc ⊢
        split at hc
        · rename_i g
          rw [if_pos g]
          simp only
          intro k2
          rcases Nat.lt_or_ge i k with y | y
          · rw [show k = i + 1 by omega]; omega
          · rw [show k = i by omega]; omega
        · simp at hc
    | two a b h0 h1 ht hj hq =>
      rw [hq]
      simp only [patR]
      have hb := two_sign h1
      rw [htx] at hb
      intro k k1 k2
      rcases Nat.lt_or_ge i k with y | y
      · exact two ht (by unfold closeF; split <;> (try split) <;> decide) k (by omega) k2
      · rw [show k = i by omega]; omega
    | one a h0 h1 h2 ha ca hj hq =>
      rw [hq]
      simp only [patR]
      have hb := one_sign h2
      rw [htx] at hb
      have h3 := ih s (i + 1)
      rw [ha] at h3
      intro k k1 k2
      rcases Nat.lt_or_ge i k with y | y
      · exact h3 ca k (by omega) k2
      · rw [show k = i by omega]; omega
    | arg a b h0 h1 h2 h3 hl ho ht hj hq =>
      rw [hq]
      simp only [patR]
      have hb := arg_sign h3
      rw [htx] at hb ho
      intro k k1 k2
      rcases Nat.lt_trichotomy (i + 1) k with y | y | y
      · exact two ht (by decide) k (by omega) k2
      · rw [← y, ho]; decide
      · rw [show k = i by omega]; omega
theorem patF_nonl {tx : ByteArray} (h : (patF tx).2 = true) {k : Nat} (hk : k < tx.size) : bt tx k ≠ 10 := by
  by_cases h2 : 200 < tx.size
  · rw [show patF tx = ([], false) from if_pos h2] at h
    simp at h
  have htx : (patR tx).text = tx := rfl
  have hls := nonl_rd tx (tx.size + 1) [] 0
  have e0 : patF tx = ((allRF (patR tx) 200 []).1, decide ((allRF (patR tx) 200 []).2.2.2 = 0)) := if_neg h2
  rw [e0] at h
  simp only [decide_eq_true_eq] at h
  unfold allRF at h
  rw [htx, if_neg (by omega)] at h
  have hgd := (patK tx).rd_good (tx.size + 1) (s := []) (i := 0) (c := 0) ⟨by simp, fun j h => by cases h⟩ (by omega) (by rw [htx]; omega)
  obtain ⟨q, eq⟩ : ∃ q, rdF (patR tx) (tx.size + 1) [] 0 0 = q := ⟨_, rfl⟩
  rw [eq] at hgd h hls
  by_cases hp : q.2.2.2 = 0 ∧ q.2.2.1 < tx.size
  · rw [if_pos hp] at h
    simp at h
  · rw [if_neg hp] at h
    obtain ⟨g1, g2, _⟩ := hgd h
    rw [htx] at g2
    exact hls h k (Nat.zero_le _) (by omega)
end Go.Proofs.YtmlfacjgfjmdeaaGreatDoor.C

set_option linter.unusedVariables false
set_option linter.unusedSimpArgs false
set_option maxRecDepth 4000
namespace Go.Proofs.YtmlfacjgfjmdeaaGreatDoor.C
open Go.Sym Go.Proofs.YtmlfacjgfjmdeaaGreatDoor.I
theorem bt_ne {s : ByteArray} {k : Nat} (h : bt s k ≠ 10) : byt s k ≠ 10 := fun e => h (by rw [bt, e]; rfl)
theorem act_nonl {a : Ac} (h : actF a = true) {k : Nat} (hk : k < a.t.size) : bt a.t k ≠ 10 := by
  unfold actF at h
  split at h
  · simp only [oneL, Bool.and_eq_true, decide_eq_true_eq] at h
    have : k = 0 := by omega
    subst this
    omega
  · split at h
    · rw [Bool.and_eq_true] at h
      exact patF_nonl h.1 hk
    · split at h
      · exact patF_nonl h hk
      · simp at h
theorem word_nonl (k : Int) : ∀ b ∈ bl (wordB k), b ≠ 10 := by
  unfold wordB
  repeat' split
  all_goals decide
theorem nlI_line {l r : ByteArray} (h : ∀ b ∈ bl l, b ≠ 10) : nlI (l ++ ⟨#[10]⟩ ++ r) = l.size := by
  have e : bl (l ++ ⟨#[10]⟩ ++ r) = bl l ++ 10 :: bl r := by simp [bl_app, bl]
  unfold nlI
  rw [e]
  refine indexByte_eq ?_ fun k hk => ?_
  · rw [List.getElem?_append_right (by simp)]
    simp
  · rw [List.getElem?_append_left (by simpa using hk)]
    intro g
    exact h _ (List.mem_of_getElem? g) rfl
theorem cut_line {l r : ByteArray} (h : ∀ b ∈ bl l, b ≠ 10) : cutB (l ++ ⟨#[10]⟩ ++ r) = (l, r, true) := by
  have e : bl (l ++ ⟨#[10]⟩ ++ r) = bl l ++ 10 :: bl r := by simp [bl_app, bl]
  have hn := nlI_line (r := r) h
  have hz : (l ++ ⟨#[10]⟩ ++ r).size = l.size + 1 + r.size := by
    rw [← bl_len, e]
    simp
    omega
  unfold cutB
  rw [if_pos (by omega), hn]
  simp only [Int.toNat_natCast, Prod.mk.injEq, and_true]
  refine ⟨ba_ext ?_, ba_ext ?_⟩
  · rw [bl_extract (Nat.zero_le _) (by omega), e]
    simp
  · rw [bl_extract (by omega) (Nat.le_refl _), e, List.take_of_length_le (by simp [hz]; omega)]
    rw [List.drop_append, List.drop_of_length_le (by simp)]
    simp
theorem linesB_cons (a : Ac) (xs : List Ac) : linesB (a :: xs) = wordB a.k ++ a.t ++ ⟨#[10]⟩ ++ linesB xs := by
  apply ba_ext
  simp [linesB, linesL, lineB, bl]
theorem linesR_of : ∀ (xs : List Ac) (n : Nat), xs.length ≤ n → (∀ a ∈ xs, ∀ b ∈ bl (wordB a.k ++ a.t), b ≠ 10) → linesR n (linesB xs) = (xs.map fun a => wordB a.k ++ a.t, ⟨#[]⟩)
  | [], n, _, _ => by
    rw [show linesB [] = ⟨#[]⟩ from rfl, linesR_nil]
    rfl
  | a :: xs, 0, h, _ => by simp at h
  | a :: xs, n + 1, h, hn => by
    have h1 := hn a (List.mem_cons_self ..)
    have h2 := linesR_of xs n (by simpa using h) (fun x hx => hn x (List.mem_cons_of_mem _ hx))
    unfold linesR
    rw [linesB_cons, cut_line h1, nlI_line h1, if_pos (by omega), h2]
    rfl
theorem actFrom_of {s : ByteArray} {k : Int} (h1 : 1 ≤ k) (h2 : k ≤ 4) (hp : preF s (wordB k) = true) : ∀ {n : Nat}, n ≤ 4 → 4 - (n : Int) < k → actFrom n s = ⟨k, s.extract (wordB k).size s.size⟩
  | 0, _, h => by omega
  | n + 1, hn, h => by
    unfold actFrom
    by_cases e : 4 - (n : Int) = k
    · rw [e, if_pos hp]
    · rw [if_neg (fun g => e (wordB_one (by omega) (by omega) h1 h2 g hp))]
      exact actFrom_of h1 h2 hp (by omega) (by omega)
theorem actL_of {k : Int} (h1 : 1 ≤ k) (h2 : k ≤ 4) (t : ByteArray) : actL (wordB k ++ t) = ⟨k, t⟩ := by
  have hz : (wordB k ++ t).size = (wordB k).size + t.size := ByteArray.size_append
  have e1 : (wordB k ++ t).extract 0 (wordB k).size = wordB k := by
    apply ba_ext
    rw [bl_extract (Nat.zero_le _) (by omega), bl_app]
    simp
  have e2 : (wordB k ++ t).extract (wordB k).size (wordB k ++ t).size = t := by
    apply ba_ext
    rw [bl_extract (by omega) (Nat.le_refl _), bl_app, List.take_of_length_le (by simp [hz])]
    simp
  have := actFrom_of (s := wordB k ++ t) h1 h2 (by simp [preF, hz, e1]) (n := 4) (Nat.le_refl _) (by omega)
  rw [e2] at this
  exact this
/-- What is printed is read as it was. -/
theorem rp_back {xs : List Ac} (h : roleF xs = true) : rpF (printB xs) = (xs, true) := by
  obtain ⟨ha, hl1, hl2⟩ := roleF_mem h
  have hp : printB xs = linesB xs := by
    show (⟨(printL xs).toArray⟩ : ByteArray) = _
    unfold printL
    rw [if_pos h]
    rfl
  have hr := linesR_of xs 21 (by omega) (fun a hx b hb => by
    rw [bl_app, List.mem_append] at hb
    rcases hb with hb | hb
    · exact word_nonl _ b hb
    · obtain ⟨j, hj, rfl⟩ := List.getElem_of_mem hb
      rw [byt_at]
      exact bt_ne (act_nonl (ha a hx) (by simpa using hj)))
  have hA : actsOf (linesB xs) = xs := by
    unfold actsOf
    rw [hr]
    simp only [List.map_map]
    conv => rhs; rw [← List.map_id xs]
    apply List.map_congr_left
    intro a hx
    have := actF_k (ha a hx)
    exact actL_of this.1 this.2 a.t
  rw [hp]
  unfold rpF
  rw [hA, hr, if_pos ⟨rfl, h⟩]
end Go.Proofs.YtmlfacjgfjmdeaaGreatDoor.C

set_option linter.unusedVariables false
set_option linter.unusedSimpArgs false
set_option maxRecDepth 40000
namespace Go.Proofs.YtmlfacjgfjmdeaaGreatDoor.C
open Go.Sym Go.Proofs.YtmlfacjgfjmdeaaGreatDoor.I
/-- A text turned in one place. -/
def dentG (bs : List Int) (tx : ByteArray) (xs : List ByteArray) (a : Int) (b : Int × Cu) : ByteArray × Cu :=
  if b.1 = 0 then (tx.extract 0 a.toNat, b.2)
  else if b.1 = 1 then (tx.extract 0 a.toNat ++ (pickS bs b.2 xs).1 ++ tx.extract (min (a + 1) tx.size).toNat tx.size, (pickS bs b.2 xs).2)
  else (tx.extract 0 a.toNat ++ (pickS bs b.2 xs).1 ++ tx.extract a.toNat tx.size, (pickS bs b.2 xs).2)
def dentF (bs : List Int) (s : Cu) (tx : ByteArray) (xs : List ByteArray) : ByteArray × Cu := dentG bs tx xs (belowF bs s ((tx.size : Int) + 1)).1 (belowF bs (belowF bs s ((tx.size : Int) + 1)).2 3)
theorem dentF_size (bs : List Int) (s : Cu) (tx : ByteArray) {xs : List ByteArray} (h : ∀ x ∈ xs, x.size ≤ 1000) : (dentF bs s tx xs).1.size ≤ 2 * tx.size + 1000 := by
  have hp := pickS_size bs (belowF bs (belowF bs s ((tx.size : Int) + 1)).2 3).2 h
  simp only [dentF, dentG]
  split
  · simp; omega
  · split <;> simp only [ByteArray.size_append, ByteArray.size_extract] <;> omega
theorem spec_l4Dent_m (H : List Blk) (cb : Nat) (bs : List Int) (s : Cu) (tx : ByteArray) (lb v : Nat) (xs : List ByteArray) (hc : cb < H.length) (hb : bs.length < 9223372036854775807) (hl : xs.length < 9223372036854775807) (hx : xs ≠ []) (hL : H[lb]? = some ⟨v, false, 1, strs xs, none⟩) (hne : lb ≠ cb) (hs : tx.size ≤ 281474976710656) (hz : ∀ x ∈ xs, x.size ≤ 1000) : T 40 [.ptr cb 0 0, .str tx, .ref lb v 0 xs.length] (cur H cb bs s) (.str (dentF bs s tx xs).1) (cur H cb bs (dentF bs s tx xs).2) := by
  refine semT' (S := (fun f => [87, 62, 63].contains f)) hm spec_l4Dent_ok (Nat.le_of_ble_eq_true rfl) ?_
  unfold spec_l4Dent; dsimp only
  have hi := belowF_in bs s ((tx.size : Int) + 1)
  simp
  have w0 : IntKind.i64.wrap ((tx.size : Int) + 1) = tx.size + 1 := wrap_succ (by omega)
  rw [w0]
  refine cur_call rfl cb bs s (belowF bs s ((tx.size : Int) + 1)).2 (cur_cur ..) (by rw [cur_cur, cur_cur]; exact spec_l1Below_m H cb bs s _ hc hb) ?_; simp
  rw [show dentF bs s tx xs = dentG bs tx xs (belowF bs s ((tx.size : Int) + 1)).1 (belowF bs (belowF bs s ((tx.size : Int) + 1)).2 3) from rfl]
  generalize belowF bs s ((tx.size : Int) + 1) = a at hi ⊢
  obtain ⟨k, hk⟩ : ∃ k : Nat, a.1 = k := ⟨a.1.toNat, by omega⟩
  have hk2 : k ≤ tx.size := by have := hi.2.1 (by omega); omega
  rw [hk]
  refine cur_call rfl cb bs a.2 (belowF bs a.2 3).2 (cur_cur ..) (by rw [cur_cur, cur_cur]; exact spec_l1Below_m H cb bs _ 3 hc hb) ?_; simp
  have hj := belowF_in bs a.2 3
  generalize belowF bs a.2 3 = b at hj ⊢
  have hp := pickS_size bs b.2 hz
  refine br_intro' (fun c => ?_) (fun c => ?_) <;> (have c0 := c) <;> simp only [decide_eq_true_eq, decide_eq_false_iff_not] at c <;> simp [c0]
  · rw [show dentG bs tx xs k b = (tx.extract 0 k, b.2) by simp [dentG, c]]
    repeat (refine ck_intro' (by first | omega | (simp; omega) | kernel_rfl) ?_; try simp [hk2])
    exact LeV.refl _ _ _
  refine br_intro' (fun c1 => ?_) (fun c1 => ?_) <;> (have c10 := c1) <;> simp only [decide_eq_true_eq, decide_eq_false_iff_not] at c1 <;> simp [c10]
  · rw [show dentG bs tx xs k b = (tx.extract 0 k ++ (pickS bs b.2 xs).1 ++ tx.extract (min ((k : Int) + 1) tx.size).toNat tx.size, (pickS bs b.2 xs).2) by simp [dentG, c1]]
    repeat (refine ck_intro' (by first | omega | (simp; omega) | kernel_rfl) ?_; try simp [hk2])
    refine cur_call rfl cb bs b.2 (pickS bs b.2 xs).2 (cur_cur ..) (by rw [cur_cur, cur_cur]; exact spec_l1Pick_m H cb bs b.2 lb v xs hc hb hl hx hL hne.symm) ?_; simp
    generalize pickS bs b.2 xs = u at hp ⊢
    have h1 : (tx.extract 0 k).size = k := by simp; omega
    have w1 : IntKind.i64.wrap ((k : Int) + 1) = k + 1 := wrap_succ (by omega)
    have h2 : min ((k : Int) + 1) tx.size = ((min (k + 1) tx.size : Nat) : Int) := by omega
    have h3 : (tx.extract (min (k + 1) tx.size) tx.size).size ≤ tx.size := by simp
    have h4 : min (k + 1) tx.size ≤ tx.size := Nat.min_le_right _ _
    refine ck_intro' (by omega) ?_; simp
    rw [w1]
    refine spec_l1Min_call (a := (k : Int) + 1) (b := tx.size) rfl ?_; simp
    repeat (refine ck_intro' (by first | omega | (constructor <;> omega) | (simp only [ByteArray.size_append]; omega) | kernel_rfl) ?_; try simp)
    exact LeV.refl _ _ _
  · rw [show dentG bs tx xs k b = (tx.extract 0 k ++ (pickS bs b.2 xs).1 ++ tx.extract k tx.size, (pickS bs b.2 xs).2) by simp [dentG, c, c1]]
    repeat (refine ck_intro' (by first | omega | (simp; omega) | kernel_rfl) ?_; try simp [hk2])
    refine cur_call rfl cb bs b.2 (pickS bs b.2 xs).2 (cur_cur ..) (by rw [cur_cur, cur_cur]; exact spec_l1Pick_m H cb bs b.2 lb v xs hc hb hl hx hL hne.symm) ?_; simp
    generalize pickS bs b.2 xs = u at hp ⊢
    have h1 : (tx.extract 0 k).size = k := by simp; omega
    have h3 : (tx.extract k tx.size).size ≤ tx.size := by simp
    refine ck_intro' (by omega) ?_; simp
    repeat (refine ck_intro' (by first | omega | (constructor <;> omega) | (simp only [ByteArray.size_append]; omega) | kernel_rfl) ?_; try simp)
    exact LeV.refl _ _ _
theorem spec_DrawRolePrint_c (bs : List Int) (hb : bs.length < 9223372036854775807) : T 6 [aB bs] [] (aAs (dAF bs ⟨0, newH bs⟩).1) ([]) := by
  refine semT' (S := (fun f => [87, 62, 63, 27].contains f)) hm spec_DrawRolePrint_ok (Nat.le_of_ble_eq_true rfl) ?_
  unfold spec_DrawRolePrint; dsimp only
  simp
  refine spec_l1New_k (bs := bs) hb rfl (by simp) (by simp [noslBlks]) ?_; simp [shiftB]
  refine cur_callR rfl 0 bs ⟨0, newH bs⟩ _ rfl (spec_l12DrawActs_m _ 0 bs _ (by simp) hb (by simp)) ?_; simp [cur]
  exact LeV.ro rfl rfl (by simp)
theorem spec_DrawRolePrint_call {bs : List Int} (hb : bs.length < 9223372036854775807) {S : FuncId → Bool} {H : List Blk} {K : A → Dl → Prop} (hS : S 6 = false) (hK : K (aAs (dAF bs ⟨0, newH bs⟩).1) (.news [])) : @WCall' Go.Proofs.Tryz.prog S 6 [aB bs] H ⟨K⟩ :=
  WCall_pure hS (spec_DrawRolePrint_c bs hb) (by simp) (by simp) (by simp) hK
theorem spec_DrawRolePrint_k {bs : List Int} (hb : bs.length < 9223372036854775807) {S : FuncId → Bool} {H : List Blk} {K : A → Dl → Prop} {zs : List A} (hS : S 6 = false) (hv : viewL (viewA 8 H) zs = some [aB bs]) (ho : noOwns zs = true ∨ nosl (aAs (dAF bs ⟨0, newH bs⟩).1) = true) (hK : K (aAs (dAF bs ⟨0, newH bs⟩).1) (.news [])) : @WCall' Go.Proofs.Tryz.prog S 6 zs H ⟨K⟩ :=
  WCall_pure hS (spec_DrawRolePrint_c bs hb) hv ho (by simp) hK
def bits7 : List ByteArray := [⟨#[10]⟩, ⟨#[115, 101, 110, 100, 32]⟩, ⟨#[116, 97, 107, 101, 32, 110, 53, 10]⟩, ⟨#[32]⟩, ⟨#[120]⟩, ⟨#[99, 108, 97, 105, 109, 32, 110, 53, 10]⟩, ⟨#[63]⟩]
/-- A role's text, as it is drawn. -/
def drpH (bs : List Int) (s : ByteArray) (o : Bool × Cu) : ByteArray := if o.1 = true then (dentF bs o.2 s bits7).1 else s
def drpG (bs : List Int) (p : List Ac × Cu) : ByteArray := drpH bs (printB p.1) (onceF bs p.2 2)
def drpF (bs : List Int) : ByteArray := drpG bs (dAF bs ⟨0, newH bs⟩)
theorem totA_le {m : Nat} : ∀ {xs : List Ac}, (∀ a ∈ xs, a.t.size ≤ m) → totA xs ≤ m * xs.length
  | [], _ => Nat.zero_le _
  | a :: xs, h => by
    have h1 := totA_le (xs := xs) (fun x hx => h x (List.mem_cons_of_mem _ hx))
    have h2 := h a (List.mem_cons_self ..)
    simp only [totA, List.length_cons, Nat.mul_add]
    omega
theorem dA_lines (bs : List Int) (s : Cu) : (linesL (dAF bs s).1).length ≤ 30000 := by
  obtain ⟨_, h1, h2⟩ := dAF_ok bs s
  have h3 := totA_le h2
  have h4 := linesL_tot (dAF bs s).1
  omega
theorem printB_size (xs : List Ac) : (printB xs).size ≤ (linesL xs).length := by
  show (printL xs).toArray.size ≤ _
  unfold printL
  split <;> simp
theorem drpF_size (bs : List Int) : (drpF bs).size ≤ 100000 := by
  have h1 := Nat.le_trans (printB_size _) (dA_lines bs ⟨0, newH bs⟩)
  unfold drpF drpG drpH
  split
  · have hd := dentF_size bs (onceF bs (dAF bs ⟨0, newH bs⟩).2 2).2 (printB (dAF bs ⟨0, newH bs⟩).1) (xs := bits7) (by simp [bits7]; decide)
    omega
  · omega
theorem spec_DrawRoleParse_c (bs : List Int) (hb : bs.length < 9223372036854775807) : T 13 [aB bs] [] (.str (drpF bs)) ([]) := by
  refine semT' (S := (fun f => [87, 62, 63, 27, 39, 40].contains f)) hm spec_DrawRoleParse_ok (Nat.le_of_ble_eq_true rfl) ?_
  unfold spec_DrawRoleParse; dsimp only
  simp
  refine spec_l1New_k (bs := bs) hb rfl (by simp) (by simp [noslBlks]) ?_; simp [shiftB]
  refine cur_callR rfl 0 bs ⟨0, newH bs⟩ _ rfl (spec_l12DrawActs_m _ 0 bs _ (by simp) hb (by simp)) ?_; simp [cur]
  obtain ⟨h0, h1, h2⟩ := dAF_ok bs ⟨0, newH bs⟩
  have h3 := dA_lines bs ⟨0, newH bs⟩
  rw [show drpF bs = drpG bs (dAF bs ⟨0, newH bs⟩) from rfl]
  generalize dAF bs ⟨0, newH bs⟩ = p at h0 h1 h2 h3 ⊢
  refine spec_RolePrint_k (xs := p.1) (by omega) (fun a ha => by have := h2 a ha; omega) (by omega) rfl (by simp) (by simp) ?_; simp
  rw [show drpG bs p = drpH bs (printB p.1) (onceF bs p.2 2) from rfl]
  have hp := printB_size p.1
  refine cur_callR rfl 0 bs p.2 _ rfl (spec_l1Once_m _ 0 bs _ 2 (by simp) hb) ?_; simp [cur]
  generalize onceF bs p.2 2 = o
  refine br_intro' (fun g => ?_) (fun g => ?_) <;> simp [g]
  · refine cur_callR rfl 0 bs o.2 _ rfl (spec_l4Dent_m _ 0 bs o.2 (printB p.1) 1 0 bits7 (by simp) hb (by simp [bits7]) (by simp [bits7]) (by simp [bits7, strs]) (by simp) (by omega) (by simp [bits7]; decide)) ?_; simp [cur]
    exact LeV.ro rfl rfl (by simp [drpH, g])
  · exact LeV.ro rfl rfl (by simp [drpH, g])
theorem spec_DrawRoleParse_call {bs : List Int} (hb : bs.length < 9223372036854775807) {S : FuncId → Bool} {H : List Blk} {K : A → Dl → Prop} (hS : S 13 = false) (hK : K (.str (drpF bs)) (.news [])) : @WCall' Go.Proofs.Tryz.prog S 13 [aB bs] H ⟨K⟩ :=
  WCall_pure hS (spec_DrawRoleParse_c bs hb) (by simp) (by simp) (by simp) hK
theorem spec_DrawRoleParse_k {bs : List Int} (hb : bs.length < 9223372036854775807) {S : FuncId → Bool} {H : List Blk} {K : A → Dl → Prop} {zs : List A} (hS : S 13 = false) (hv : viewL (viewA 8 H) zs = some [aB bs]) (ho : noOwns zs = true ∨ nosl (.str (drpF bs)) = true) (hK : K (.str (drpF bs)) (.news [])) : @WCall' Go.Proofs.Tryz.prog S 13 zs H ⟨K⟩ :=
  WCall_pure hS (spec_DrawRoleParse_c bs hb) hv ho (by simp) hK
theorem laws_sameActs_c (ns ms : List Ac) (hl : ns.length < 9223372036854775807) (hl2 : ms.length < 9223372036854775807) : T 12 [aAs ns, aAs ms] [] (.bool (decide (ns = ms))) ([]) := by
  refine semT' (S := S0) hm laws_sameActs_ok (Nat.le_of_ble_eq_true rfl) ?_
  unfold laws_sameActs; dsimp only
  simp
  refine br_intro' (fun h => ?_) (fun h => ?_) <;> (have h0 := h) <;> simp only [decide_eq_true_eq, decide_eq_false_iff_not] at h <;> simp [h0]
  case refine_2 =>
    exact LeV.ro rfl rfl (by simp; intro e; rw [e] at h; exact h rfl)
  refine WLoop_fam (fun j : Nat => [(0, aAs ns), (1, aAs ms), (5, i6 j)]) (fun _ => []) (fun j => ns.length - j)
    (fun j => j ≤ ns.length ∧ ns.take j = ms.take j) ?_ 0 ⟨Nat.zero_le _, by simp⟩
  intro j ⟨hj, hf⟩ ih
  have hq : ns.length = ms.length := by omega
  simp
  refine br_intro' (fun u => ?_) (fun u => ?_) <;> (have u0 := u) <;> simp only [decide_eq_true_eq, decide_eq_false_iff_not] at u <;> simp [u0]
  · have h' : j < ns.length := by omega
    obtain ⟨r, hr⟩ := encAs_at h'
    have hm : j < ms.length := by omega
    obtain ⟨r2, hr2⟩ := encAs_at hm
    have h3 : 2 ≤ ms.length * 2 - j * 2 := by omega
    have h4 : 2 ≤ ns.length * 2 - j * 2 := by omega
    have hw := wrap_succ (n := j) (by omega)
    simp [h3, h4, hr, h', hr2, hm]
    first | (refine ck_intro' (by kernel_rfl) ?_; try simp) | skip
    have hx : (ns[j].k = ms[j].k ∧ ns[j].t = ms[j].t) ↔ ns[j] = ms[j] := Ac_eq.symm
    by_cases g : ns[j] = ms[j]
    · have e1 : ns[j].k = ms[j].k := by rw [g]
      have e2 : ns[j].t = ms[j].t := by rw [g]
      simp [e1, e2, hw]
      exact ih (j + 1) ⟨h', by rw [List.take_succ_eq_append_getElem h', List.take_succ_eq_append_getElem hm, hf, g]⟩ (by omega)
    · have e3 : ¬ (ns[j].k = ms[j].k ∧ ns[j].t = ms[j].t) := fun e => g (hx.1 e)
      refine br_intro' (fun w => ?_) (fun w => absurd w (by simp; exact fun x y => e3 ⟨x, y⟩))
      simp
      exact LeV.ro rfl rfl (by simp; intro e; subst e; exact g rfl)
  · have h0 : j = ns.length := by omega
    exact LeV.ro rfl rfl (by rw [h0, List.take_length, hq, List.take_length] at hf; simp [hf])
theorem laws_sameActs_call {ns ms : List Ac} (hl : ns.length < 9223372036854775807) (hl2 : ms.length < 9223372036854775807) {S : FuncId → Bool} {H : List Blk} {K : A → Dl → Prop} (hS : S 12 = false) (hK : K (.bool (decide (ns = ms))) (.news [])) : @WCall' Go.Proofs.Tryz.prog S 12 [aAs ns, aAs ms] H ⟨K⟩ :=
  WCall_pure hS (laws_sameActs_c ns ms hl hl2) (by simp) (by simp) (by simp) hK
theorem laws_sameActs_k {ns ms : List Ac} (hl : ns.length < 9223372036854775807) (hl2 : ms.length < 9223372036854775807) {S : FuncId → Bool} {H : List Blk} {K : A → Dl → Prop} {zs : List A} (hS : S 12 = false) (hv : viewL (viewA 8 H) zs = some [aAs ns, aAs ms]) (ho : noOwns zs = true ∨ nosl (.bool (decide (ns = ms))) = true) (hK : K (.bool (decide (ns = ms))) (.news [])) : @WCall' Go.Proofs.Tryz.prog S 12 zs H ⟨K⟩ :=
  WCall_pure hS (laws_sameActs_c ns ms hl hl2) hv ho (by simp) hK
end Go.Proofs.YtmlfacjgfjmdeaaGreatDoor.C

set_option linter.unusedVariables false
set_option linter.unusedSimpArgs false
set_option maxRecDepth 40000
namespace Go.Proofs.YtmlfacjgfjmdeaaGreatDoor.C
open Go.Sym Go.Proofs.YtmlfacjgfjmdeaaGreatDoor.I
def rtxt (w s : Int) : ByteArray := if (1 ≤ w ∧ w ≤ 3) ∧ 0 ≤ s ∧ s ≤ 1 then rtB w s else ⟨#[]⟩
theorem impl_RoleText_c (w s : Int) (hw : -9223372036854775808 ≤ w) (hw2 : w < 9223372036854775808) : T 15 [i6 w, i6 s] [] (.str (rtxt w s)) ([]) := by
  refine semT' (S := S0) hm impl_RoleText_ok (Nat.le_of_ble_eq_true rfl) ?_
  unfold impl_RoleText; dsimp only
  simp
  refine impl_inRange_call (x := w) (lo := 1) (hi := 3) rfl ?_; simp
  by_cases h1 : 1 ≤ w ∧ w ≤ 3
  · have e1 : inF w 1 3 = true := by simp [inF, h1]
    simp [e1]
    refine impl_inRange_call (x := s) (lo := 0) (hi := 1) rfl ?_; simp
    by_cases h2 : 0 ≤ s ∧ s ≤ 1
    · have e2 : inF s 0 1 = true := by simp [inF, h2]
      simp [e2]
      rcases (by omega : w = 1 ∨ w = 2 ∨ w = 3) with rfl | rfl | rfl <;> rcases (by omega : s = 0 ∨ s = 1) with rfl | rfl <;> simp [show IntKind.i64.wrap 0 = 0 from by decide, show IntKind.i64.wrap 1 = 1 from by decide, show IntKind.i64.wrap 2 = 2 from by decide]
      all_goals repeat (refine ck_intro' (by first | omega | (simp; omega) | kernel_rfl) ?_; try simp)
      all_goals exact LeV.ro rfl rfl rfl
    · have e2 : inF s 0 1 = false := by simp [inF]; omega
      simp [e2]
      exact LeV.ro rfl rfl (by simp [rtxt, h2])
  · have e1 : inF w 1 3 = false := by simp [inF]; omega
    simp [e1]
    exact LeV.ro rfl rfl (by simp [rtxt, h1])
theorem impl_RoleText_call {w s : Int} (hw : -9223372036854775808 ≤ w) (hw2 : w < 9223372036854775808) {S : FuncId → Bool} {H : List Blk} {K : A → Dl → Prop} (hS : S 15 = false) (hK : K (.str (rtxt w s)) (.news [])) : @WCall' Go.Proofs.Tryz.prog S 15 [i6 w, i6 s] H ⟨K⟩ :=
  WCall_pure hS (impl_RoleText_c w s hw hw2) (by simp) (by simp) (by simp) hK
theorem impl_RoleText_k {w s : Int} (hw : -9223372036854775808 ≤ w) (hw2 : w < 9223372036854775808) {S : FuncId → Bool} {H : List Blk} {K : A → Dl → Prop} {zs : List A} (hS : S 15 = false) (hv : viewL (viewA 8 H) zs = some [i6 w, i6 s]) (ho : noOwns zs = true ∨ nosl (.str (rtxt w s)) = true) (hK : K (.str (rtxt w s)) (.news [])) : @WCall' Go.Proofs.Tryz.prog S 15 zs H ⟨K⟩ :=
  WCall_pure hS (impl_RoleText_c w s hw hw2) hv ho (by simp) hK
theorem role_last {r : ByteArray} (h : ((linesR 21 r).2.size = 0 ∧ (actsOf r).length = 5) ∧ roleF (actsOf r) = true) : ∃ a b c d e, rpF r = ([a, b, c, d, e], true) ∧ e.k = 4 := by
  have hr := (rpF_of h).1
  obtain ⟨⟨_, hl⟩, hq⟩ := h
  simp only [roleF, Bool.and_eq_true] at hq
  have h4 := allF_all2 hq.1 (i := 4) (by omega)
  generalize actsOf r = L at hr hl h4
  match L, hl with
  | [a, b, c, d, e], _ =>
    refine ⟨a, b, c, d, e, hr, ?_⟩
    simp [actAt] at h4
    exact h4.2
theorem roles_last {w s : Int} (h1 : 1 ≤ w) (h2 : w ≤ 3) (h3 : 0 ≤ s) (h4 : s ≤ 1) : ∃ a b c d e, rpF (rtB w s) = ([a, b, c, d, e], true) ∧ e.k = 4 := by
  rcases (by omega : w = 1 ∨ w = 2 ∨ w = 3) with rfl | rfl | rfl <;> rcases (by omega : s = 0 ∨ s = 1) with rfl | rfl
  · exact role_last rt10_ok
  · exact role_last rt11_ok
  · exact role_last rt20_ok
  · exact role_last rt21_ok
  · exact role_last rt30_ok
  · exact role_last rt31_ok
end Go.Proofs.YtmlfacjgfjmdeaaGreatDoor.C

set_option linter.unusedVariables false
set_option linter.unusedSimpArgs false
set_option maxRecDepth 40000
namespace Go.Proofs.YtmlfacjgfjmdeaaGreatDoor.C
open Go.Sym Go.Proofs.YtmlfacjgfjmdeaaGreatDoor.I
theorem laws_big_c (bs : List Int)  : T 5 [aB bs] [] (.bool (decide (1048576 < bs.length))) ([]) := by
  refine semT' (S := S0) hm laws_big_ok (Nat.le_of_ble_eq_true rfl) ?_
  unfold laws_big; dsimp only
  simp
  exact LeV.ro rfl rfl (by simp; omega)
theorem laws_big_call {bs : List Int}  {S : FuncId → Bool} {H : List Blk} {K : A → Dl → Prop} (hS : S 5 = false) (hK : K (.bool (decide (1048576 < bs.length))) (.news [])) : @WCall' Go.Proofs.Tryz.prog S 5 [aB bs] H ⟨K⟩ :=
  WCall_pure hS (laws_big_c bs) (by simp) (by simp) (by simp) hK
theorem laws_big_k {bs : List Int}  {S : FuncId → Bool} {H : List Blk} {K : A → Dl → Prop} {zs : List A} (hS : S 5 = false) (hv : viewL (viewA 8 H) zs = some [aB bs]) (ho : noOwns zs = true ∨ nosl (.bool (decide (1048576 < bs.length))) = true) (hK : K (.bool (decide (1048576 < bs.length))) (.news [])) : @WCall' Go.Proofs.Tryz.prog S 5 zs H ⟨K⟩ :=
  WCall_pure hS (laws_big_c bs) hv ho (by simp) hK
theorem laws_FnRoleText_c (bs : List Int) (ha : bs.length < 9223372036854775808) : T 3 [aB bs] [] (.bool true) ([]) := by
  refine semT' (S := S0) hm laws_FnRoleText_ok (Nat.le_of_ble_eq_true rfl) ?_
  unfold laws_FnRoleText; dsimp only
  simp
  refine laws_big_call (bs := bs) rfl ?_; simp
  refine br_intro' (fun g => ?_) (fun g => ?_) <;> (have g0 := g) <;> simp only [decide_eq_true_eq, decide_eq_false_iff_not] at g <;> simp [g0]
  · exact LeV.ro rfl rfl rfl
  have hb : bs.length < 9223372036854775807 := by omega
  have hD := drpF_size bs
  refine WCall_pure rfl (spec_DrawRolePrint_c bs hb) (by simp) (by simp) (by simp) ?_; simp
  obtain ⟨h0, h1, h2⟩ := dAF_ok bs ⟨0, newH bs⟩
  have h3 := dA_lines bs ⟨0, newH bs⟩
  generalize (dAF bs ⟨0, newH bs⟩).1 = L at h0 h1 h2 h3 ⊢
  have h4 : ∀ a ∈ L, a.t.size ≤ 281474976710656 := fun a ha => by have := h2 a ha; omega
  have h5 := printB_size L
  refine impl_RolePrint_k (xs := L) (by omega) h4 (by omega) rfl (by simp) (by simp) ?_; simp
  refine impl_RoleOk_k (xs := L) (by omega) h4 rfl (by simp) (by simp) ?_; simp
  refine spec_RoleOk_k (xs := L) (by omega) h4 rfl (by simp) (by simp) ?_; simp
  refine spec_RolePrint_k (xs := L) (by omega) h4 (by omega) rfl (by simp) (by simp) ?_; simp
  rcases Bool.eq_false_or_eq_true (roleF L) with q | q <;> simp [q]
  · refine impl_RoleParse_k (s := printB L) (by omega) rfl (by simp) (by simp [noslBlks]) ?_; simp [shiftB]
    rw [rp_back q]
    simp
    refine laws_sameActs_k (ns := L) (ms := L) (by omega) (by omega) rfl (by simp) (by simp) ?_; simp
    refine WCall_pure rfl (spec_DrawRoleParse_c bs hb) (by simp) (by simp) (by simp) ?_; simp
    refine impl_RoleParse_k (s := drpF bs) (by omega) rfl (by simp) (by simp [noslBlks]) ?_; simp [shiftB]
    refine spec_RoleParse_k (s := drpF bs) (by omega) rfl (by simp) (by simp [noslBlks]) ?_; simp [shiftB]
    by_cases hq : (linesR 21 (drpF bs)).2.size = 0 ∧ roleF (actsOf (drpF bs)) = true
    · rw [show rpF (drpF bs) = (actsOf (drpF bs), true) from if_pos hq]
      simp
      refine impl_RolePrint_k (xs := actsOf (drpF bs)) (by have := actsOf_len (drpF bs); omega) (fun a ha => by have := actsOf_size ha; omega) (by have := rp_size hq.2; omega) rfl (by simp) (by simp) ?_; simp
      rw [rp_print hq.2 hq.1]
      simp
      refine WLoop_drop [] _ rfl (by simp) (by simp) (by simp) ?_
      refine WLoop_fam (fun w : Nat => [(13, i6 w)]) (fun _ => []) (fun w => 4 - w) (fun w => 1 ≤ w ∧ w ≤ 4) ?_ 1 ⟨Nat.le_refl _, by omega⟩
      intro w ⟨hw1, hw4⟩ ih
      have hww := wrap_succ (n := w) (by omega)
      simp
      refine br_intro' (fun u => ?_) (fun u => ?_) <;> (have u0 := u) <;> simp only [decide_eq_true_eq, decide_eq_false_iff_not] at u <;> simp [u0]
      · refine WLoop_fam (fun s : Nat => [(13, i6 w), (14, i6 s)]) (fun _ => []) (fun s => 2 - s) (fun s => s ≤ 2) ?_ 0 (Nat.zero_le _)
        intro s hs ih2
        have hws := wrap_succ (n := s) (by omega)
        simp
        refine br_intro' (fun v => ?_) (fun v => ?_) <;> (have v0 := v) <;> simp only [decide_eq_true_eq, decide_eq_false_iff_not] at v <;> simp [v0]
        · refine impl_RoleText_call (w := w) (s := s) (by omega) (by omega) rfl ?_; simp
          have ht : rtxt w s = rtB w s := if_pos ⟨⟨by omega, by omega⟩, by omega, by omega⟩
          rw [ht]
          have hzz := rtB_size w s
          obtain ⟨x1, x2, x3, x4, x5, hx, hk⟩ := roles_last (w := w) (s := s) (by omega) (by omega) (by omega) (by omega)
          refine impl_RoleParse_k (s := rtB w s) (by omega) rfl (by simp) (by simp [noslBlks]) ?_; simp [shiftB]
          rw [hx]
          simp [encAs, encA, hk, hws]
          refine WLoop_drop [] _ rfl (by simp) (by simp) (by simp) ?_
          exact ih2 (s + 1) (by omega) (by omega)
        · simp [hww]
          exact ih (w + 1) ⟨by omega, by omega⟩ (by omega)
      · refine impl_RoleText_call (w := 4) (s := 0) (by omega) (by omega) rfl ?_; simp [rtxt]
        refine impl_RoleText_call (w := 1) (s := 2) (by omega) (by omega) rfl ?_; simp [rtxt]
        exact LeV.ro rfl rfl rfl
    · rw [show rpF (drpF bs) = ([], false) from if_neg hq]
      simp
      refine WLoop_drop [] _ rfl (by simp) (by simp) (by simp) ?_
      refine WLoop_fam (fun w : Nat => [(13, i6 w)]) (fun _ => []) (fun w => 4 - w) (fun w => 1 ≤ w ∧ w ≤ 4) ?_ 1 ⟨Nat.le_refl _, by omega⟩
      intro w ⟨hw1, hw4⟩ ih
      have hww := wrap_succ (n := w) (by omega)
      simp
      refine br_intro' (fun u => ?_) (fun u => ?_) <;> (have u0 := u) <;> simp only [decide_eq_true_eq, decide_eq_false_iff_not] at u <;> simp [u0]
      · refine WLoop_fam (fun s : Nat => [(13, i6 w), (14, i6 s)]) (fun _ => []) (fun s => 2 - s) (fun s => s ≤ 2) ?_ 0 (Nat.zero_le _)
        intro s hs ih2
        have hws := wrap_succ (n := s) (by omega)
        simp
        refine br_intro' (fun v => ?_) (fun v => ?_) <;> (have v0 := v) <;> simp only [decide_eq_true_eq, decide_eq_false_iff_not] at v <;> simp [v0]
        · refine impl_RoleText_call (w := w) (s := s) (by omega) (by omega) rfl ?_; simp
          have ht : rtxt w s = rtB w s := if_pos ⟨⟨by omega, by omega⟩, by omega, by omega⟩
          rw [ht]
          have hzz := rtB_size w s
          obtain ⟨x1, x2, x3, x4, x5, hx, hk⟩ := roles_last (w := w) (s := s) (by omega) (by omega) (by omega) (by omega)
          refine impl_RoleParse_k (s := rtB w s) (by omega) rfl (by simp) (by simp [noslBlks]) ?_; simp [shiftB]
          rw [hx]
          simp [encAs, encA, hk, hws]
          refine WLoop_drop [] _ rfl (by simp) (by simp) (by simp) ?_
          exact ih2 (s + 1) (by omega) (by omega)
        · simp [hww]
          exact ih (w + 1) ⟨by omega, by omega⟩ (by omega)
      · refine impl_RoleText_call (w := 4) (s := 0) (by omega) (by omega) rfl ?_; simp [rtxt]
        refine impl_RoleText_call (w := 1) (s := 2) (by omega) (by omega) rfl ?_; simp [rtxt]
        exact LeV.ro rfl rfl rfl
  · refine WCall_pure rfl (spec_DrawRoleParse_c bs hb) (by simp) (by simp) (by simp) ?_; simp
    refine impl_RoleParse_k (s := drpF bs) (by omega) rfl (by simp) (by simp [noslBlks]) ?_; simp [shiftB]
    refine spec_RoleParse_k (s := drpF bs) (by omega) rfl (by simp) (by simp [noslBlks]) ?_; simp [shiftB]
    by_cases hq : (linesR 21 (drpF bs)).2.size = 0 ∧ roleF (actsOf (drpF bs)) = true
    · rw [show rpF (drpF bs) = (actsOf (drpF bs), true) from if_pos hq]
      simp
      refine impl_RolePrint_k (xs := actsOf (drpF bs)) (by have := actsOf_len (drpF bs); omega) (fun a ha => by have := actsOf_size ha; omega) (by have := rp_size hq.2; omega) rfl (by simp) (by simp) ?_; simp
      rw [rp_print hq.2 hq.1]
      simp
      refine WLoop_drop [] _ rfl (by simp) (by simp) (by simp) ?_
      refine WLoop_fam (fun w : Nat => [(13, i6 w)]) (fun _ => []) (fun w => 4 - w) (fun w => 1 ≤ w ∧ w ≤ 4) ?_ 1 ⟨Nat.le_refl _, by omega⟩
      intro w ⟨hw1, hw4⟩ ih
      have hww := wrap_succ (n := w) (by omega)
      simp
      refine br_intro' (fun u => ?_) (fun u => ?_) <;> (have u0 := u) <;> simp only [decide_eq_true_eq, decide_eq_false_iff_not] at u <;> simp [u0]
      · refine WLoop_fam (fun s : Nat => [(13, i6 w), (14, i6 s)]) (fun _ => []) (fun s => 2 - s) (fun s => s ≤ 2) ?_ 0 (Nat.zero_le _)
        intro s hs ih2
        have hws := wrap_succ (n := s) (by omega)
        simp
        refine br_intro' (fun v => ?_) (fun v => ?_) <;> (have v0 := v) <;> simp only [decide_eq_true_eq, decide_eq_false_iff_not] at v <;> simp [v0]
        · refine impl_RoleText_call (w := w) (s := s) (by omega) (by omega) rfl ?_; simp
          have ht : rtxt w s = rtB w s := if_pos ⟨⟨by omega, by omega⟩, by omega, by omega⟩
          rw [ht]
          have hzz := rtB_size w s
          obtain ⟨x1, x2, x3, x4, x5, hx, hk⟩ := roles_last (w := w) (s := s) (by omega) (by omega) (by omega) (by omega)
          refine impl_RoleParse_k (s := rtB w s) (by omega) rfl (by simp) (by simp [noslBlks]) ?_; simp [shiftB]
          rw [hx]
          simp [encAs, encA, hk, hws]
          refine WLoop_drop [] _ rfl (by simp) (by simp) (by simp) ?_
          exact ih2 (s + 1) (by omega) (by omega)
        · simp [hww]
          exact ih (w + 1) ⟨by omega, by omega⟩ (by omega)
      · refine impl_RoleText_call (w := 4) (s := 0) (by omega) (by omega) rfl ?_; simp [rtxt]
        refine impl_RoleText_call (w := 1) (s := 2) (by omega) (by omega) rfl ?_; simp [rtxt]
        exact LeV.ro rfl rfl rfl
    · rw [show rpF (drpF bs) = ([], false) from if_neg hq]
      simp
      refine WLoop_drop [] _ rfl (by simp) (by simp) (by simp) ?_
      refine WLoop_fam (fun w : Nat => [(13, i6 w)]) (fun _ => []) (fun w => 4 - w) (fun w => 1 ≤ w ∧ w ≤ 4) ?_ 1 ⟨Nat.le_refl _, by omega⟩
      intro w ⟨hw1, hw4⟩ ih
      have hww := wrap_succ (n := w) (by omega)
      simp
      refine br_intro' (fun u => ?_) (fun u => ?_) <;> (have u0 := u) <;> simp only [decide_eq_true_eq, decide_eq_false_iff_not] at u <;> simp [u0]
      · refine WLoop_fam (fun s : Nat => [(13, i6 w), (14, i6 s)]) (fun _ => []) (fun s => 2 - s) (fun s => s ≤ 2) ?_ 0 (Nat.zero_le _)
        intro s hs ih2
        have hws := wrap_succ (n := s) (by omega)
        simp
        refine br_intro' (fun v => ?_) (fun v => ?_) <;> (have v0 := v) <;> simp only [decide_eq_true_eq, decide_eq_false_iff_not] at v <;> simp [v0]
        · refine impl_RoleText_call (w := w) (s := s) (by omega) (by omega) rfl ?_; simp
          have ht : rtxt w s = rtB w s := if_pos ⟨⟨by omega, by omega⟩, by omega, by omega⟩
          rw [ht]
          have hzz := rtB_size w s
          obtain ⟨x1, x2, x3, x4, x5, hx, hk⟩ := roles_last (w := w) (s := s) (by omega) (by omega) (by omega) (by omega)
          refine impl_RoleParse_k (s := rtB w s) (by omega) rfl (by simp) (by simp [noslBlks]) ?_; simp [shiftB]
          rw [hx]
          simp [encAs, encA, hk, hws]
          refine WLoop_drop [] _ rfl (by simp) (by simp) (by simp) ?_
          exact ih2 (s + 1) (by omega) (by omega)
        · simp [hww]
          exact ih (w + 1) ⟨by omega, by omega⟩ (by omega)
      · refine impl_RoleText_call (w := 4) (s := 0) (by omega) (by omega) rfl ?_; simp [rtxt]
        refine impl_RoleText_call (w := 1) (s := 2) (by omega) (by omega) rfl ?_; simp [rtxt]
        exact LeV.ro rfl rfl rfl
end Go.Proofs.YtmlfacjgfjmdeaaGreatDoor.C
