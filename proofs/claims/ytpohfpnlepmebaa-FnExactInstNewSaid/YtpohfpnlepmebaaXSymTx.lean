/- Plain facts: texts by their bytes, runs of digits and what they spell. Conditions: those that each theorem names. -/
import Derived.Test.YtpohfpnlepmebaaXSymStr
set_option linter.unusedVariables false
set_option linter.unusedSimpArgs false
namespace Go.Sym
abbrev bl (s : ByteArray) : List UInt8 := s.data.toList
def byt (s : ByteArray) (i : Nat) : UInt8 := (bl s).getD i 0
abbrev bt (s : ByteArray) (i : Nat) : Int := ((byt s i).toNat : Int)
@[simp] theorem bl_len (s : ByteArray) : (bl s).length = s.size := by simp [bl]
theorem byt_get {s : ByteArray} {i : Nat} (h : i < s.size) : s[i]? = some (byt s i) := by
  rw [ByteArray.getElem?_lt' s i h]
  congr 1
  have h2 : i < (bl s).length := by simpa using h
  simp only [byt, List.getD_eq_getElem?_getD, List.getElem?_eq_getElem h2, Option.getD_some]
  simp [bl]
  rfl
@[simp] theorem byt_eq {s : ByteArray} {i : Nat} (h : i < s.size) : s[i] = byt s i := by
  have := byt_get h
  rw [ByteArray.getElem?_lt' s i h] at this
  exact Option.some.inj this
theorem byt_at {s : ByteArray} {i : Nat} (h : i < (bl s).length) : (bl s)[i] = byt s i := by
  simp [byt, List.getD_eq_getElem?_getD, List.getElem?_eq_getElem h]
theorem bl_drop {s : ByteArray} {i : Nat} (h : i < s.size) : (bl s).drop i = byt s i :: (bl s).drop (i + 1) := by
  have h2 : i < (bl s).length := by simpa using h
  rw [List.drop_eq_getElem_cons h2, byt_at h2]
theorem bt_range (s : ByteArray) (i : Nat) : 0 ≤ bt s i ∧ bt s i < 256 := by
  have := (byt s i).toNat_lt
  simp only [bt]
  omega
theorem bl_extract {s : ByteArray} {i j : Nat} (h : i ≤ j) (hj : j ≤ s.size) : bl (s.extract i j) = ((bl s).drop i).take (j - i) := by
  simp only [bl, ByteArray.data_extract, Array.toList_extract, List.extract_eq_take_drop]
theorem ba_ext {s t : ByteArray} (h : bl s = bl t) : s = t := by
  obtain ⟨a⟩ := s
  obtain ⟨b⟩ := t
  simp only [bl] at h
  congr 1
  exact Array.toList_inj.1 h
theorem ba_mk (s : ByteArray) : (⟨(bl s).toArray⟩ : ByteArray) = s := ba_ext (by simp [bl])
theorem bl_app (s t : ByteArray) : bl (s ++ t) = bl s ++ bl t := by simp [bl]
/-! ### Digits -/
def isDg (b : UInt8) : Bool := decide (48 ≤ b.toNat ∧ b.toNat ≤ 57)
def dgRun (s : ByteArray) (i : Nat) : List UInt8 := ((bl s).drop i).takeWhile isDg
def dEnd (s : ByteArray) (i : Nat) : Nat := i + (dgRun s i).length
theorem dgRun_step {s : ByteArray} {i : Nat} (h : i < s.size) (hd : isDg (byt s i) = true) : dgRun s i = byt s i :: dgRun s (i + 1) := by
  unfold dgRun
  rw [bl_drop h, List.takeWhile_cons_of_pos hd]
theorem dgRun_stop {s : ByteArray} {i : Nat} (h : s.size ≤ i ∨ isDg (byt s i) = false) : dgRun s i = [] := by
  unfold dgRun
  rcases Nat.lt_or_ge i s.size with g | g
  · rcases h with h | h
    · omega
    · rw [bl_drop g, List.takeWhile_cons_of_neg (by simp [h])]
  · rw [List.drop_eq_nil_of_le (by simpa using g)]; rfl
theorem dEnd_step {s : ByteArray} {i : Nat} (h : i < s.size) (hd : isDg (byt s i) = true) : dEnd s i = dEnd s (i + 1) := by
  simp only [dEnd, dgRun_step h hd, List.length_cons]; omega
theorem dEnd_stop {s : ByteArray} {i : Nat} (h : s.size ≤ i ∨ isDg (byt s i) = false) : dEnd s i = i := by simp [dEnd, dgRun_stop h]
theorem dEnd_ge (s : ByteArray) (i : Nat) : i ≤ dEnd s i := by unfold dEnd; omega
theorem dgRun_take (s : ByteArray) (i : Nat) : dgRun s i = ((bl s).drop i).take (dEnd s i - i) := by
  have h : dgRun s i <+: (bl s).drop i := List.takeWhile_prefix _
  have e : dEnd s i - i = (dgRun s i).length := by unfold dEnd; omega
  rw [e]
  exact List.prefix_iff_eq_take.1 h
theorem dEnd_le {s : ByteArray} {i : Nat} (h : i ≤ s.size) : dEnd s i ≤ s.size := by
  have h1 : (dgRun s i).length ≤ ((bl s).drop i).length := (List.takeWhile_prefix _).length_le
  simp only [List.length_drop, bl_len] at h1
  unfold dEnd; omega
theorem dgRun_dg (s : ByteArray) (i : Nat) : ∀ b ∈ dgRun s i, isDg b = true := fun b hb => by
  have := List.all_takeWhile (p := isDg) (l := (bl s).drop i)
  exact List.all_eq_true.1 this b hb
/-- The number that digits spell. -/
def valD (l : List UInt8) : Nat := l.foldl (fun a b => a * 10 + (b.toNat - 48)) 0
theorem valD_snoc (l : List UInt8) (b : UInt8) : valD (l ++ [b]) = valD l * 10 + (b.toNat - 48) := by simp [valD]
/-- Needless noughts. -/
def lead0 (l : List UInt8) : Bool := decide (1 < l.length) && decide (l.head? = some 48)
theorem decFrom_val : ∀ (l : List UInt8) (a : Nat), (∀ b ∈ l, isDg b = true) → Lib.decFrom a l = some (l.foldl (fun a b => a * 10 + (b.toNat - 48)) a)
  | [], a, _ => rfl
  | b :: l, a, h => by
    have hb := h b (by simp)
    simp only [isDg, decide_eq_true_eq] at hb
    simp only [Lib.decFrom, Lib.digitVal, if_pos hb, List.foldl_cons]
    exact decFrom_val l _ fun c hc => h c (by simp [hc])
theorem atoi_dig {l : List UInt8} (h0 : l ≠ []) (h : ∀ b ∈ l, isDg b = true) (hl : l.length ≤ 18) : atoiV l = ((valD l : Int), false) := by
  have e : Lib.atoi l = some (valD l : Int) := by
    cases l with
    | nil => exact absurd rfl h0
    | cons b r =>
      have hb := h b (by simp)
      simp only [isDg, decide_eq_true_eq] at hb
      have h45 : (b == 45) = false := by
        rw [beq_eq_false_iff_ne]; intro e; subst e; simp at hb
      have h43 : (b == 43) = false := by
        rw [beq_eq_false_iff_ne]; intro e; subst e; simp at hb
      simp only [Lib.atoi, h45, h43, Bool.false_eq_true, if_false, Lib.decNat, List.isEmpty_cons]
      rw [decFrom_val _ _ h]
      rfl
  unfold atoiV
  rw [Lib.atoiAll_short l hl, e]
  rfl
theorem valD_lt : ∀ (l : List UInt8), (∀ b ∈ l, isDg b = true) → valD l < 10 ^ l.length := by
  intro l h
  have := Lib.decFrom_lt l 0 (valD l) (by rw [decFrom_val l 0 h]; rfl)
  simpa using this
theorem valD_pos {b : UInt8} {l : List UInt8} (hb : isDg b = true) (h0 : b ≠ 48) : 10 ^ l.length ≤ valD (b :: l) := by
  have key : ∀ (l : List UInt8) (a k : Nat), 1 ≤ a → a * 10 ^ l.length ≤ l.foldl (fun a b => a * 10 + (b.toNat - 48)) a := by
    intro l
    induction l with
    | nil => intro a k h; simp
    | cons c l ih =>
      intro a k h
      simp only [List.foldl_cons, List.length_cons]
      have := ih (a * 10 + (c.toNat - 48)) k (by omega)
      refine Nat.le_trans ?_ this
      rw [Nat.pow_succ]
      calc a * (10 ^ l.length * 10) = a * 10 * 10 ^ l.length := by rw [Nat.mul_comm (10 ^ l.length) 10, Nat.mul_assoc]
        _ ≤ (a * 10 + (c.toNat - 48)) * 10 ^ l.length := Nat.mul_le_mul_right _ (by omega)
  simp only [isDg, decide_eq_true_eq] at hb
  have hne : b.toNat ≠ 48 := fun e => h0 (by apply UInt8.toNat_inj.1; simpa using e)
  have h1 := key l (0 * 10 + (b.toNat - 48)) 0 (by omega)
  unfold valD
  rw [List.foldl_cons]
  refine Nat.le_trans ?_ h1
  exact Nat.le_mul_of_pos_left _ (by omega)
theorem dec_val : ∀ (l : List UInt8), l ≠ [] → (∀ b ∈ l, isDg b = true) → lead0 l = false → Lib.decDigits (valD l) = l := by
  intro l
  induction hn : l.length using Nat.strongRecOn generalizing l with
  | ind n ih =>
    intro h0 hd hl
    obtain ⟨l', b, rfl⟩ : ∃ l' b, l = l' ++ [b] := ⟨l.dropLast, l.getLast h0, (List.dropLast_concat_getLast h0).symm⟩
    have hb := hd b (by simp)
    simp only [isDg, decide_eq_true_eq] at hb
    have eb : UInt8.ofNat (48 + (b.toNat - 48)) = b := by
      apply UInt8.toNat_inj.1
      have := b.toNat_lt
      simp only [UInt8.toNat_ofNat']
      omega
    rw [valD_snoc]
    by_cases hz : l' = []
    · subst hz
      simp only [valD, List.foldl_nil, Nat.zero_mul, Nat.zero_add, List.nil_append]
      rw [Lib.decDigits, dif_pos (by omega), eb]
    · obtain ⟨c, r, rfl⟩ : ∃ c r, l' = c :: r := List.exists_cons_of_ne_nil hz
      have hc : c ≠ 48 := by
        intro e
        subst e
        simp [lead0] at hl
      have hp := valD_pos (l := r) (hd c (by simp)) hc
      have h10 : 1 ≤ 10 ^ r.length := Nat.pow_pos (by omega)
      have hlt := ih (c :: r).length (by rw [← hn]; simp) (c :: r) rfl (by simp) (fun x hx => hd x (by simp at hx ⊢; rcases hx with hx | hx <;> simp [hx])) (by
        simp only [lead0, Bool.and_eq_false_iff, decide_eq_false_iff_not]
        right
        simpa using hc)
      have h1 : (valD (c :: r) * 10 + (b.toNat - 48)) / 10 = valD (c :: r) := by omega
      have h2 : (valD (c :: r) * 10 + (b.toNat - 48)) % 10 = b.toNat - 48 := by omega
      rw [Lib.decDigits, dif_neg (by omega), h1, h2, hlt, eb]
theorem dec_lead (u : Nat) : lead0 (Lib.decDigits u) = false := by
  induction u using Nat.strongRecOn with
  | ind u ih =>
    by_cases h : u < 10
    · rw [Lib.decDigits_one h]; rfl
    · have e : Lib.decDigits u = Lib.decDigits (u / 10) ++ [UInt8.ofNat (48 + u % 10)] := by rw [Lib.decDigits, dif_neg h]
      rw [e]
      have h1 := ih (u / 10) (by omega)
      have hne : Lib.decDigits (u / 10) ≠ [] := by
        intro e0
        have := Lib.decDigits_length (u / 10)
        have h3 := Lib.nDigits_pos (u / 10)
        rw [e0] at this
        simp at this
        omega
      obtain ⟨c, r, e2⟩ := List.exists_cons_of_ne_nil hne
      rw [e2] at h1 ⊢
      cases r with
      | nil =>
        have hd : u / 10 < 10 := by
          rcases Nat.lt_or_ge (u / 10) 10 with g | g
          · exact g
          · have h5 := Lib.decDigits_length (u / 10)
            rw [Lib.nDigits_big (by omega)] at h5
            have h6 := Lib.nDigits_pos (u / 10 / 10)
            rw [e2] at h5
            simp at h5
            omega
        have e3 := Lib.decDigits_one hd
        rw [e2] at e3
        simp only [List.cons.injEq, and_true] at e3
        simp only [lead0, Bool.and_eq_false_iff, decide_eq_false_iff_not]
        right
        simp only [List.cons_append, List.head?_cons, Option.some.injEq]
        intro e4
        rw [e4] at e3
        have := congrArg UInt8.toNat e3
        simp only [UInt8.toNat_ofNat'] at this
        have h48 : (48 : UInt8).toNat = 48 := rfl
        rw [h48] at this
        omega
      | cons d r =>
        simp only [lead0, Bool.and_eq_false_iff, decide_eq_false_iff_not] at h1 ⊢
        right
        rcases h1 with h1 | h1
        · simp at h1
        · simpa using h1
theorem itoa_dig {l : List UInt8} (h0 : l ≠ []) (h : ∀ b ∈ l, isDg b = true) : (Lib.itoa (valD l : Int) = l) ↔ lead0 l = false := by
  have e : Lib.itoa (valD l : Int) = Lib.decDigits (valD l) := by
    unfold Lib.itoa
    rw [if_neg (by omega)]
    simp
  rw [e]
  constructor
  · intro g; rw [← g]; exact dec_lead _
  · exact dec_val l h0 h
/-- What a run of digits is as a number of at most so many: -1 where it is none. -/
def figV (most : Nat) (l : List UInt8) : Int := if l = [] ∨ most < l.length ∨ lead0 l = true then -1 else valD l
theorem figV_small {most : Nat} {l : List UInt8} (h : ∀ b ∈ l, isDg b = true) (k : Nat) (hk0 : 1 ≤ k) (hk : k ≤ most) : (0 ≤ figV most l ∧ figV most l < 10 ^ k) ↔ (0 ≤ figV k l) := by
  unfold figV
  by_cases h1 : l = []
  · simp [h1]
  by_cases h3 : lead0 l = true
  · simp [h3]
  by_cases h4 : k < l.length
  · rw [if_pos (show l = [] ∨ k < l.length ∨ lead0 l = true from .inr (.inl h4))]
    constructor
    · rintro ⟨g1, g2⟩
      exfalso
      by_cases h2 : most < l.length
      · rw [if_pos (.inr (.inl h2))] at g1; omega
      · rw [if_neg (by simp [h1, h2, h3])] at g2
        obtain ⟨b, r, rfl⟩ := List.exists_cons_of_ne_nil h1
        by_cases hr : r = []
        · subst hr
          simp at h4; omega
        · have hb : b ≠ 48 := by
            intro e; subst e
            apply h3
            simp only [lead0, Bool.and_eq_true, decide_eq_true_eq]
            refine ⟨?_, by simp⟩
            have := List.length_pos_iff.2 hr
            simp; omega
          have hp := valD_pos (l := r) (h b (by simp)) hb
          have hle : 10 ^ k ≤ 10 ^ r.length := Nat.pow_le_pow_right (by omega) (by simp at h4; omega)
          have : ((10 : Nat) ^ k : Int) ≤ ((10 ^ r.length : Nat) : Int) := by exact_mod_cast hle
          have h5 : ((10 ^ r.length : Nat) : Int) ≤ (valD (b :: r) : Int) := by exact_mod_cast hp
          push_cast at *
          omega
    · intro g; omega
  · have h2 : ¬ most < l.length := by omega
    rw [if_neg (by simp [h1, h2, h3]), if_neg (by simp [h1, h4, h3])]
    have hv := valD_lt l h
    have hle : 10 ^ l.length ≤ 10 ^ k := Nat.pow_le_pow_right (by omega) (by omega)
    have h6 : (valD l : Int) < ((10 ^ k : Nat) : Int) := by exact_mod_cast Nat.lt_of_lt_of_le hv hle
    push_cast at h6
    constructor
    · intro _; omega
    · intro _; exact ⟨by omega, h6⟩
theorem figV_eq {most k : Nat} {l : List UInt8} (hk : k ≤ most) (h : 0 ≤ figV k l) : figV most l = figV k l := by
  unfold figV at h ⊢
  split at h
  · omega
  · rename_i g
    simp only [not_or] at g
    rw [if_neg (by simp only [not_or]; exact ⟨g.1, by omega, g.2.2⟩), if_neg (by simp only [not_or]; exact g)]
/-- A call that is handed and answers plain things, over the caller's own rows. -/
theorem SemT.lift {P : Program} {f : FuncId} {xs : List A} {r : A} (h : SemT P f xs [] r []) (hx : noOwns xs = true) (hs : ∀ n, shiftA n r = r) (H : List Blk) : SemT P f xs H r H := by
  intro c vs hgd hr hH hvs
  have hZ : ∀ k, c.Z k → k < c.w.heap.size := by
    rintro k (h | ⟨b, blk, h1, h2, h3⟩)
    · exact hr.xlt k h
    · rw [← h3]; exact hr.lt b blk h1 h2
  refine (h (c.bare c.Z) vs (hgd.bare _) (bare_rel hZ) rfl (VRs.bare xs _ hx hvs)).mono ?_
  rintro e w' ⟨v, c1, rfl, rfl, h3, h4, h5, h6⟩
  obtain ⟨j1, j2, j3⟩ := join_rel hr (X := c.Z) rfl h6 h4 (Hr := []) h3 rfl (n := H.length) (fun b h1 h2 => by simp at h2; omega) true (fun _ => rfl) (.inl rfl)
  refine ⟨v, c.join c1 H.length [], rfl, rfl, ?_, j1, ?_, j2⟩
  · rw [← hH]
    funext b
    have : ¬ (H.length ≤ b ∧ b < H.length + ([] : List Blk).length) := fun g => by simp at g; omega
    simp only [Cx.join, this, if_false]
  · have := j3 r v (.inl rfl) h5
    rwa [hs] at this
/-- A sign is one of some. -/
def inS (b : Int) (signs : ByteArray) : Bool := (bl signs).any fun c => decide ((c.toNat : Int) = b)
end Go.Sym
