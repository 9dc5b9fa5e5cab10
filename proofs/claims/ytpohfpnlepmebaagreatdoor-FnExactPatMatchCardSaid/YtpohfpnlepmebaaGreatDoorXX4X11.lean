/- A reader's walk. Conditions: those that each theorem names. -/
import Derived.Test.YtpohfpnlepmebaaGreatDoorXC1X3
import Derived.Test.YtpohfpnlepmebaaGreatDoorXSymVirt
set_option linter.unusedVariables false
set_option linter.unusedSimpArgs false
set_option maxRecDepth 4000
namespace Go.Proofs.YtpohfpnlepmebaaGreatDoor.C
open Go.Sym Go.Proofs.YtpohfpnlepmebaaGreatDoor.I
theorem RdrOk.two_good' {σ : Type} {R : Rdr σ} (K : RdrOk R) (n : Nat) {s : σ} {i : Nat} {e : Int} (hW : K.W s i) (hlt : i < R.text.size) (hn : R.text.size - (i + 1) < n) (h : (R.two (rdF R n) e s (i + 1) 0).2.2.2 = 0) :
    i < (R.two (rdF R n) e s (i + 1) 0).2.2.1 ∧ (R.two (rdF R n) e s (i + 1) 0).2.2.1 ≤ R.text.size ∧ K.E s (i + 1) (R.two (rdF R n) e s (i + 1) 0).1 (R.two (rdF R n) e s (i + 1) 0).2.2.1 ∧ ∀ t ∈ (R.two (rdF R n) e s (i + 1) 0).2.1, K.V (R.two (rdF R n) e s (i + 1) 0).1 t := by
  obtain ⟨h1, h2, h3, h4⟩ := K.two_good (rd := rdF R n) (fun s i c h => rdF_bad n s i h) (fun g1 g2 g3 => K.rd_good n g2 g3 (by omega)) (K.W_E hW (K.E_step s i)) (by omega) h
  exact ⟨Nat.lt_trans (show i < i + 1 by omega) h1, h2, h3, h4⟩
theorem RdrOk.arg_good {σ : Type} {R : Rdr σ} (K : RdrOk R) (n : Nat) {s : σ} {i : Nat} (hW : K.W s i) (hlt : i < R.text.size) (hn : R.text.size - (i + 1) < n) (h : (R.two (rdF R n) 41 s (takeF R.text (i + 1) 0 40).1 (takeF R.text (i + 1) 0 40).2).2.2.2 = 0) :
    i < (R.two (rdF R n) 41 s (takeF R.text (i + 1) 0 40).1 (takeF R.text (i + 1) 0 40).2).2.2.1 ∧ (R.two (rdF R n) 41 s (takeF R.text (i + 1) 0 40).1 (takeF R.text (i + 1) 0 40).2).2.2.1 ≤ R.text.size ∧ K.E s (i + 1) (R.two (rdF R n) 41 s (takeF R.text (i + 1) 0 40).1 (takeF R.text (i + 1) 0 40).2).1 (R.two (rdF R n) 41 s (takeF R.text (i + 1) 0 40).1 (takeF R.text (i + 1) 0 40).2).2.2.1 ∧ ∀ t ∈ (R.two (rdF R n) 41 s (takeF R.text (i + 1) 0 40).1 (takeF R.text (i + 1) 0 40).2).2.1, K.V (R.two (rdF R n) 41 s (takeF R.text (i + 1) 0 40).1 (takeF R.text (i + 1) 0 40).2).1 t := by
  have hW1 := K.W_E hW (K.E_step s i)
  have ht : (takeF R.text (i + 1) 0 40).2 = 0 := by
    rcases Decidable.em ((takeF R.text (i + 1) 0 40).2 = 0) with g | g
    · exact g
    · simp only [Rdr.two, rdF_bad n _ _ g] at h
      have g1 := (takeF_ok h).1
      have g2 : (takeF R.text (takeF R.text (i + 1) 0 40).1 (takeF R.text (i + 1) 0 40).2 44).2 ≠ 0 := fun e => g (takeF_ok e).1
      rw [rdF_bad n _ _ g2] at g1
      exact absurd g1 g2
  obtain ⟨_, t2, t3⟩ := takeF_ok ht
  rw [ht, t3] at h ⊢
  have hW2 := K.W_E hW1 (K.E_step s (i + 1))
  obtain ⟨h1, h2, h3, h4⟩ := K.two_good (rd := rdF R n) (fun s i c h => rdF_bad n s i h) (fun g1 g2 g3 => K.rd_good n g2 g3 (by omega)) hW2 (by omega) h
  exact ⟨Nat.lt_trans (show i < i + 1 + 1 by omega) h1, h2, K.E_trans (K.E_step _ _) h3, h4⟩
theorem lift_call {f : FuncId} {S : FuncId → Bool} {H : List Blk} {K : A → Dl → Prop} {zs : List A} {r : A} (hS : S f = true) (h : T f zs [] r []) (hx : noOwns zs = true) (hs : ∀ n, shiftA n r = r) (hK : K r (.full [] H)) : @WCall' Go.Proofs.Tryz.prog S f zs H ⟨K⟩ :=
  same_call hS (h.lift hx hs H) hK
theorem all_call {f : FuncId} {S : FuncId → Bool} {H H' : List Blk} {K : A → Dl → Prop} {zs : List A} {r : A} (hS : S f = true) (hf : T f zs H r H') (hlen : H.length ≤ H'.length) (hK : K r (.full (List.range H.length) H')) : @WCall' Go.Proofs.Tryz.prog S f zs H ⟨K⟩ :=
  WCall_t' hS (List.range H.length) hf hlen (fun q hq hl => absurd (List.mem_range.2 hl) hq) hK
structure RdrRun {σ : Type} {R : Rdr σ} (K : RdrOk R) where
  Hs : σ → Int → Int → List Blk
  b : Nat
  L : Nat
  lf : FuncId
  jn : FuncId
  lc : List A
  jc : List A
  size : R.text.size ≤ 281474976710656
  msize : R.more.size ≤ 281474976710656
  get : ∀ s i c, (Hs s i c)[b]? = some (rrow R.text R.more (.fn lf lc) (.fn jn jc) i c)
  set : ∀ s i c i' c', (Hs s i c).set b (rrow R.text R.more (.fn lf lc) (.fn jn jc) i' c') = Hs s i' c'
  len : ∀ s i c, (Hs s i c).length = L
  cl : ∀ s i c, Closed1 L (Hs s i c) = true
  el : canEnter Go.Proofs.Tryz.prog lf = true
  ej : canEnter Go.Proofs.Tryz.prog jn = true
  leaf : ∀ {s i}, K.W s i → i < R.text.size → R.isLeaf (bt R.text i) = true → T lf ([rptr b, .int .u8 (bt R.text i)] ++ lc) (Hs s i 0) (i6 (R.leaf s (bt R.text i) i).2.1) (Hs (R.leaf s (bt R.text i) i).1 (R.leaf s (bt R.text i) i).2.2.1 (R.leaf s (bt R.text i) i).2.2.2)
  join : ∀ {s0 i s i' ts}, K.W s0 i → i < R.text.size → K.E s0 (i + 1) s i' → i' ≤ R.text.size → R.Shape (bt R.text i) ts.length → (∀ t ∈ ts, K.V s t) →
    ∃ G, L + 1 ≤ G.length ∧ T jn ([rptr b, .int .u8 (bt R.text i), .ref L 0 0 ts.length] ++ jc) (Hs s i' 0 ++ [⟨0, false, 1, ints ts, none⟩]) (i6 (R.join s (bt R.text i) ts i').2.1) G ∧
      LeV L (i6 (R.join s (bt R.text i) ts i').2.1) G (i6 (R.join s (bt R.text i) ts i').2.1) (Hs (R.join s (bt R.text i) ts i').1 i' (R.join s (bt R.text i) ts i').2.2)
section
variable {σ : Type} {R : Rdr σ} {K : RdrOk R} (Z : RdrRun K)
theorem RdrRun.lt (s : σ) (i c : Int) : Z.b < Z.L := by
  rw [← Z.len s i c]
  exact (List.getElem?_eq_some_iff.1 (Z.get s i c)).1
theorem RdrRun.fail (s : σ) (i c code at_ : Int) : T 61 [rptr Z.b, i6 code, i6 at_] (Z.Hs s i c) (i6 (-1)) (Z.Hs s (failF i c code at_).1 (failF i c code at_).2) := by
  have := impl_reader_fail_m (Z.Hs s i c) Z.b _ _ _ _ i c code at_ (Z.get s i c)
  rwa [Z.set] at this
theorem RdrRun.take (s : σ) (i : Nat) (c sign : Int) : T 77 [rptr Z.b, .int .u8 sign] (Z.Hs s i c) (.tup []) (Z.Hs s (takeF R.text i c sign).1 (takeF R.text i c sign).2) := by
  have hz := Z.size
  have := impl_reader_take_m (Z.Hs s i c) Z.b _ _ _ _ i c sign (Z.get s i c) (by omega)
  rwa [Z.set] at this
theorem RdrRun.peek (s : σ) (i : Nat) (c : Int) : T 62 [rptr Z.b] (Z.Hs s i c) (.int .u8 (peekF R.text i)) (Z.Hs s i c) := impl_reader_peek_m (Z.Hs s i c) Z.b _ _ _ _ i c (Z.get s i c)
/-- What a reader's first function answers, so far. -/
def RdrRun.Reads (n : Nat) : Prop := ∀ (s : σ) (i : Nat) (c : Int), (c = 0 → K.W s i ∧ i ≤ R.text.size ∧ R.text.size - i < n) → T 63 [rptr Z.b] (Z.Hs s i c) (i6 (rdF R n s i c).2.1) (Z.Hs (rdF R n s i c).1 (rdF R n s i c).2.2.1 (rdF R n s i c).2.2.2)
theorem RdrRun.two {n : Nat} (ih : Z.Reads n) {s : σ} {i : Nat} {c e : Int} (h : c = 0 → K.W s i ∧ i ≤ R.text.size ∧ R.text.size - i < n) :
    T 75 [rptr Z.b, .int .u8 e] (Z.Hs s i c) (.ref Z.L 0 0 2) (Z.Hs (R.two (rdF R n) e s i c).1 (R.two (rdF R n) e s i c).2.2.1 (R.two (rdF R n) e s i c).2.2.2 ++ [⟨0, false, 1, ints (R.two (rdF R n) e s i c).2.1, none⟩]) := by
  have ga := fun hc : c = 0 => K.rd_good n (h hc).1 (h hc).2.1 (h hc).2.2 (c := c)
  have hA := ih s i c h
  obtain ⟨a, ea⟩ : ∃ a, rdF R n s i c = a := ⟨_, rfl⟩
  obtain ⟨t, et⟩ : ∃ t, takeF R.text a.2.2.1 a.2.2.2 44 = t := ⟨_, rfl⟩
  obtain ⟨b, eb⟩ : ∃ b, rdF R n a.1 t.1 t.2 = b := ⟨_, rfl⟩
  obtain ⟨u, eu⟩ : ∃ u, takeF R.text b.2.2.1 b.2.2.2 e = u := ⟨_, rfl⟩
  have e2 : R.two (rdF R n) e s i c = (b.1, [a.2.1, b.2.1], u.1, u.2) := by simp only [Rdr.two, ea, et, eb, eu]
  rw [ea] at hA ga
  rw [e2]
  have hB : T 63 [rptr Z.b] (Z.Hs a.1 t.1 t.2) (i6 b.2.1) (Z.Hs b.1 b.2.2.1 b.2.2.2) := by
    rw [← eb]
    refine ih _ _ _ (fun h0 => ?_)
    · rw [← et] at h0
      obtain ⟨t1, t2, t3⟩ := takeF_ok h0
      have hc : c = 0 := by
        rcases Decidable.em (c = 0) with g | g
        · exact g
        · rw [rdF_bad n s i g] at ea; rw [← ea] at t1; exact absurd t1 g
      obtain ⟨a1, a2, a3, a4⟩ := ga hc t1
      rw [← et, t3]
      have := (h hc).2.2
      exact ⟨K.W_E (h hc).1 (K.E_trans a3 (K.E_step _ _)), by omega, by omega⟩
  have hT := Z.take a.1 a.2.2.1 a.2.2.2 44
  have hU := Z.take b.1 b.2.2.1 b.2.2.2 e
  rw [et] at hT
  rw [eu] at hU
  refine semT' (S := fun _ => true) hm impl_reader_two_ok (Nat.le_of_ble_eq_true rfl) ?_
  unfold impl_reader_two; dsimp only
  simp
  refine all_call rfl hA (by simp [Z.len]) ?_; simp
  refine all_call rfl hT (by simp [Z.len]) ?_; simp
  refine all_call rfl hB (by simp [Z.len]) ?_; simp
  refine all_call rfl hU (by simp [Z.len]) ?_; simp
  exact LeV.eq (by simp [Z.len]) (by simp [ints])
/-- A reader reads. -/
theorem RdrRun.reads : ∀ n, Z.Reads n
  | 0 => fun s i c h => by
    have hc : c ≠ 0 := fun e => by have := (h e).2.2; omega
    refine semT' (S := fun _ => true) hm impl_reader_read_ok (Nat.le_of_ble_eq_true rfl) ?_
    unfold impl_reader_read; dsimp only
    simp [Z.get, hc, rdF]
    exact LeV.refl _ _ _
  | n + 1 => fun s i c h => by
    have ih := RdrRun.reads n
    have hz := Z.size
    have hmz := Z.msize
    by_cases hc : c = 0
    case neg =>
      rw [rdF_bad (n + 1) s i hc]
      refine semT' (S := fun _ => true) hm impl_reader_read_ok (Nat.le_of_ble_eq_true rfl) ?_
      unfold impl_reader_read; dsimp only
      simp [Z.get, hc]
      exact LeV.refl _ _ _
    subst hc
    obtain ⟨hW, hi, hn⟩ := h rfl
    obtain ⟨q, eq⟩ : ∃ q, rdF R (n + 1) s i 0 = q := ⟨_, rfl⟩
    rw [eq]
    refine semT' (S := fun _ => true) hm impl_reader_read_ok (Nat.le_of_ble_eq_true rfl) ?_
    unfold impl_reader_read; dsimp only
    simp [Z.get]
    refine all_call rfl (Z.peek s i 0) (by simp [Z.len]) ?_; simp [Z.get]
    repeat (refine ck_intro' (by first | omega | (simp; omega) | kernel_rfl) ?_; try simp [Z.get])
    refine br_intro' (fun u => ?_) (fun u => ?_) <;> (have u0 := u) <;> simp only [decide_eq_true_eq, decide_eq_false_iff_not] at u <;> simp [u0, u, Z.get]
    · refine all_call rfl (Z.fail s i 0 2 R.text.size) (by simp [Z.len]) ?_; simp [failF]
      have : q = (s, -1, R.text.size, 2) := by
        rw [← eq]
        simp only [rdF]
        rw [if_neg (by simp), if_pos (by omega)]
      rw [this]
      exact LeV.refl _ _ _
    have hlt : i < R.text.size := by omega
    rw [show peekF R.text i = bt R.text i from if_neg (by omega)]
    have one : ∀ {S : FuncId → Bool} {H : List Blk} {K' : A → Dl → Prop} (ss : ByteArray), ss.size ≤ 281474976710656 → S 74 = true → K' (.bool (inS (bt R.text i) ss)) (.full [] H) → @WCall' Go.Proofs.Tryz.prog S 74 [.int .u8 (bt R.text i), .str ss] H ⟨K'⟩ := fun ss hs hS hK =>
      lift_call hS (impl_isOneOf_c _ ss (by omega)) (by simp) (by simp) hK
    have hset : (Z.Hs s i 0).set Z.b ⟨0, false, 1, [.str R.text, .int .i64 (IntKind.i64.wrap ((i : Int) + 1)), i6 0, .str R.more, .fn Z.lf Z.lc, .fn Z.jn Z.jc], none⟩ = Z.Hs s ((i + 1 : Nat) : Int) 0 := by
      rw [wrap_succ (n := i) (by omega)]
      exact Z.set s i 0 ((i + 1 : Nat) : Int) 0
    have getA : ∀ (s : σ) (i c : Int) (T : List Blk), (Z.Hs s i c ++ T)[Z.b]? = some (rrow R.text R.more (.fn Z.lf Z.lc) (.fn Z.jn Z.jc) i c) := fun s i c T => (get_left (by rw [Z.len]; exact Z.lt s i c)).trans (Z.get s i c)
    by_cases hL : R.isLeaf (bt R.text i) = true
    · have hq : q = R.leaf s (bt R.text i) i := by
        rw [← eq]
        simp only [rdF]
        rw [if_neg (by simp), if_neg u, if_pos hL]
      have tail := Z.leaf hW hlt hL
      refine br_intro' (fun v => ?_) (fun v => ?_) <;> (have v0 := v) <;> simp only [decide_eq_true_eq, decide_eq_false_iff_not] at v <;> simp [v0, Z.get]
      · refine ck_intro' Z.el ?_; simp
        refine all_call rfl (by simpa using tail) (by simp [Z.len]) ?_; simp
        rw [hq]; exact LeV.refl _ _ _
      · refine one _ (by decide) rfl ?_; simp
        refine br_intro' (fun v1 => ?_) (fun v1 => ?_) <;> simp [v1, Z.get]
        · refine one _ hmz rfl ?_; simp
          refine br_intro' (fun v2 => ?_) (fun v2 => ?_) <;> simp [v2, Z.get]
          · refine ck_intro' Z.el ?_; simp
            refine all_call rfl (by simpa using tail) (by simp [Z.len]) ?_; simp
            rw [hq]; exact LeV.refl _ _ _
          · exact absurd hL (by simp [Rdr.isLeaf, v0, v1, v2])
        · exact absurd hL (by simp [Rdr.isLeaf, v0, v1])
    · have hW1 := K.W_E hW (K.E_step s i)
      refine br_intro' (fun v => ?_) (fun v => ?_) <;> (have v0 := v) <;> simp only [decide_eq_true_eq, decide_eq_false_iff_not] at v <;> simp [v0, Z.get]
      · exact absurd (show R.isLeaf (bt R.text i) = true by simp [Rdr.isLeaf, v0]) hL
      refine one _ (by decide) rfl ?_; simp
      refine br_intro' (fun v1 => ?_) (fun v1 => ?_) <;> simp [v1, Z.get]
      · refine one _ hmz rfl ?_; simp
        refine br_intro' (fun v2 => ?_) (fun v2 => ?_) <;> simp [v2, Z.get]
        · exact absurd (show R.isLeaf (bt R.text i) = true by simp [Rdr.isLeaf, v0, v1, v2]) hL
        · refine one _ (by decide) rfl ?_; simp
          by_cases hT : isTwoB (bt R.text i) = true
          · have hT' : inS (bt R.text i) ⟨#[40, 123, 91]⟩ = true := hT
            have hq : q = R.fin (bt R.text i) (R.two (rdF R n) (closeF (bt R.text i)) s (i + 1) 0) := by
              rw [← eq]
              simp only [rdF]
              rw [if_neg (by simp), if_neg u, if_neg hL, if_pos hT]
            simp [hT', Z.get]
            refine lift_call rfl (impl_closing_c _) (by simp) (by simp) ?_; simp
            rw [hset]
            have hX := Z.two ih (s := s) (i := i + 1) (c := 0) (e := closeF (bt R.text i)) (fun _ => ⟨hW1, by omega, by omega⟩)
            have hg := K.two_good' n (s := s) (i := i) (e := closeF (bt R.text i)) hW hlt (by omega)
            have hl : (R.two (rdF R n) (closeF (bt R.text i)) s (i + 1) 0).2.1.length = 2 := rfl
            have hts : R.Shape (bt R.text i) (R.two (rdF R n) (closeF (bt R.text i)) s (i + 1) 0).2.1.length := .inl ⟨hT, rfl⟩
            obtain ⟨p, ep⟩ : ∃ p, R.two (rdF R n) (closeF (bt R.text i)) s (i + 1) 0 = p := ⟨_, rfl⟩
            rw [ep] at hq hX hg hts hl
            refine all_call rfl hX (by simp [Z.len]) ?_; simp
            simp [getA]
            by_cases hc : p.2.2.2 = 0
            · obtain ⟨g1, g2, g3, g4⟩ := hg hc
              obtain ⟨G, j1, j2, j3⟩ := Z.join hW hlt g3 g2 hts g4
              have hqq : q = ((R.join p.1 (bt R.text i) p.2.1 p.2.2.1).1, (R.join p.1 (bt R.text i) p.2.1 p.2.2.1).2.1, p.2.2.1, (R.join p.1 (bt R.text i) p.2.1 p.2.2.1).2.2) := by rw [hq]; unfold Rdr.fin; rw [if_pos hc]
              simp [hc, getA]
              refine ck_intro' Z.ej ?_; simp
              rw [hl] at j2
              refine all_call rfl (by simpa using j2) (by simp [Z.len]; omega) ?_; simp
              rw [hqq, Z.len]
              exact j3
            · simp [hc]
              rw [hq, show R.fin (bt R.text i) p = (p.1, -1, p.2.2.1, p.2.2.2) from if_neg hc]
              exact LeV.drop (by simp [Z.len]) (by rw [Z.len]; exact Z.cl _ _ _) (by simp)
          · have hT' : inS (bt R.text i) ⟨#[40, 123, 91]⟩ = false := by simpa [isTwoB] using hT
            simp [hT']
            refine one _ (by decide) rfl ?_; simp
            by_cases hO : R.isOne (bt R.text i) = true
            · have hq : q = R.fin (bt R.text i) (oneF (rdF R n) s (i + 1)) := by
                rw [← eq]
                simp only [rdF]
                rw [if_neg (by simp), if_neg u, if_neg hL, if_neg hT, if_pos hO]
              have hX := ih s (i + 1) 0 (fun _ => ⟨hW1, by omega, by omega⟩)
              have hg0 := K.rd_good n (s := s) (i := i + 1) (c := 0) hW1 (by omega) (by omega)
              have hg : (oneF (rdF R n) s (i + 1)).2.2.2 = 0 → i < (oneF (rdF R n) s (i + 1)).2.2.1 ∧ (oneF (rdF R n) s (i + 1)).2.2.1 ≤ R.text.size ∧ K.E s (i + 1) (oneF (rdF R n) s (i + 1)).1 (oneF (rdF R n) s (i + 1)).2.2.1 ∧ ∀ t ∈ (oneF (rdF R n) s (i + 1)).2.1, K.V (oneF (rdF R n) s (i + 1)).1 t := fun h => by
                obtain ⟨h1, h2, h3, h4⟩ := hg0 h
                refine ⟨Nat.lt_trans (show i < i + 1 by omega) h1, h2, h3, fun t ht => ?_⟩
                simp only [oneF, List.mem_cons, List.mem_nil_iff, or_false] at ht
                rw [ht]; exact h4
              have hl : (oneF (rdF R n) s (i + 1)).2.1.length = 1 := rfl
              have hts : R.Shape (bt R.text i) (oneF (rdF R n) s (i + 1)).2.1.length := .inr (.inl ⟨by simpa using hT, hO, rfl⟩)
              have hrow : ∀ (H : List Blk), H ++ [(⟨0, false, 1, [i6 (rdF R n s (i + 1) 0).2.1], none⟩ : Blk)] = H ++ [⟨0, false, 1, ints (oneF (rdF R n) s (i + 1)).2.1, none⟩] := fun H => rfl
              have hp1 : (rdF R n s (i + 1) 0).1 = (oneF (rdF R n) s (i + 1)).1 := rfl
              have hp2 : (rdF R n s (i + 1) 0).2.2.1 = (oneF (rdF R n) s (i + 1)).2.2.1 := rfl
              have hp3 : (rdF R n s (i + 1) 0).2.2.2 = (oneF (rdF R n) s (i + 1)).2.2.2 := rfl
              obtain ⟨p, ep⟩ : ∃ p, oneF (rdF R n) s (i + 1) = p := ⟨_, rfl⟩
              rw [ep] at hq hg hts hl hp1 hp2 hp3
              refine br_intro' (fun z => ?_) (fun z => ?_) <;> simp [z, Z.get]
              · rw [hset]
                refine all_call rfl hX (by simp [Z.len]) ?_; simp
                rw [hrow, ep, hp1, hp2, hp3, Z.len]
                simp [getA]
                by_cases hc : p.2.2.2 = 0
                · obtain ⟨g1, g2, g3, g4⟩ := hg hc
                  obtain ⟨G, j1, j2, j3⟩ := Z.join hW hlt g3 g2 hts g4
                  have hqq : q = ((R.join p.1 (bt R.text i) p.2.1 p.2.2.1).1, (R.join p.1 (bt R.text i) p.2.1 p.2.2.1).2.1, p.2.2.1, (R.join p.1 (bt R.text i) p.2.1 p.2.2.1).2.2) := by rw [hq]; unfold Rdr.fin; rw [if_pos hc]
                  simp [hc, getA]
                  refine ck_intro' Z.ej ?_; simp
                  rw [hl] at j2
                  refine all_call rfl (by simpa using j2) (by simp [Z.len]; omega) ?_; simp
                  rw [hqq, Z.len]
                  exact j3
                · simp [hc]
                  rw [hq, show R.fin (bt R.text i) p = (p.1, -1, p.2.2.1, p.2.2.2) from if_neg hc]
                  exact LeV.drop (by simp [Z.len]) (by rw [Z.len]; exact Z.cl _ _ _) (by simp)
              · refine one _ (by decide) rfl ?_; simp
                refine br_intro' (fun z1 => ?_) (fun z1 => ?_) <;> simp [z1, Z.get]
                · refine one _ hmz rfl ?_; simp
                  refine br_intro' (fun z2 => ?_) (fun z2 => ?_) <;> simp [z2, Z.get]
                  · rw [hset]
                    refine all_call rfl hX (by simp [Z.len]) ?_; simp
                    rw [hrow, ep, hp1, hp2, hp3, Z.len]
                    simp [getA]
                    by_cases hc : p.2.2.2 = 0
                    · obtain ⟨g1, g2, g3, g4⟩ := hg hc
                      obtain ⟨G, j1, j2, j3⟩ := Z.join hW hlt g3 g2 hts g4
                      have hqq : q = ((R.join p.1 (bt R.text i) p.2.1 p.2.2.1).1, (R.join p.1 (bt R.text i) p.2.1 p.2.2.1).2.1, p.2.2.1, (R.join p.1 (bt R.text i) p.2.1 p.2.2.1).2.2) := by rw [hq]; unfold Rdr.fin; rw [if_pos hc]
                      simp [hc, getA]
                      refine ck_intro' Z.ej ?_; simp
                      rw [hl] at j2
                      refine all_call rfl (by simpa using j2) (by simp [Z.len]; omega) ?_; simp
                      rw [hqq, Z.len]
                      exact j3
                    · simp [hc]
                      rw [hq, show R.fin (bt R.text i) p = (p.1, -1, p.2.2.1, p.2.2.2) from if_neg hc]
                      exact LeV.drop (by simp [Z.len]) (by rw [Z.len]; exact Z.cl _ _ _) (by simp)
                  · exact absurd hO (by simp [Rdr.isOne, z, z1, z2])
                · exact absurd hO (by simp [Rdr.isOne, z, z1])
            · refine br_intro' (fun z => ?_) (fun z => ?_) <;> simp [z, Z.get]
              · exact absurd (show R.isOne (bt R.text i) = true by simp [Rdr.isOne, z]) hO
              · refine one _ (by decide) rfl ?_; simp
                refine br_intro' (fun z1 => ?_) (fun z1 => ?_) <;> simp [z1, Z.get]
                · refine one _ hmz rfl ?_; simp
                  refine br_intro' (fun z2 => ?_) (fun z2 => ?_) <;> simp [z2, Z.get]
                  · exact absurd (show R.isOne (bt R.text i) = true by simp [Rdr.isOne, z, z1, z2]) hO
                  · clear z z1 z2
                    refine one _ (by decide) rfl ?_; simp
                    by_cases hA : R.isArg (bt R.text i) = true
                    · have hq : q = R.fin (bt R.text i) (R.two (rdF R n) 41 s (takeF R.text (i + 1) 0 40).1 (takeF R.text (i + 1) 0 40).2) := by
                        rw [← eq]
                        simp only [rdF]
                        rw [if_neg (by simp), if_neg u, if_neg hL, if_neg hT, if_neg hO, if_pos hA]
                      have hX := Z.two ih (s := s) (i := (takeF R.text (i + 1) 0 40).1) (c := (takeF R.text (i + 1) 0 40).2) (e := 41) (fun h0 => by
                        obtain ⟨_, t2, t3⟩ := takeF_ok h0
                        rw [t3]
                        exact ⟨K.W_E hW1 (K.E_step _ _), by omega, by omega⟩)
                      have hg := K.arg_good n (s := s) (i := i) hW hlt (by omega)
                      have hl : (R.two (rdF R n) 41 s (takeF R.text (i + 1) 0 40).1 (takeF R.text (i + 1) 0 40).2).2.1.length = 2 := rfl
                      have hts : R.Shape (bt R.text i) (R.two (rdF R n) 41 s (takeF R.text (i + 1) 0 40).1 (takeF R.text (i + 1) 0 40).2).2.1.length := .inr (.inr ⟨by simpa using hT, by simpa using hO, hA, rfl⟩)
                      have hK := Z.take s (i + 1) 0 40
                      obtain ⟨p, ep⟩ : ∃ p, R.two (rdF R n) 41 s (takeF R.text (i + 1) 0 40).1 (takeF R.text (i + 1) 0 40).2 = p := ⟨_, rfl⟩
                      rw [ep] at hq hX hg hts hl
                      refine br_intro' (fun z => ?_) (fun z => ?_) <;> simp [z, Z.get]
                      · rw [hset]
                        refine all_call rfl hK (by simp [Z.len]) ?_; simp
                        refine all_call rfl hX (by simp [Z.len]) ?_; simp
                        simp [getA]
                        by_cases hc : p.2.2.2 = 0
                        · obtain ⟨g1, g2, g3, g4⟩ := hg hc
                          obtain ⟨G, j1, j2, j3⟩ := Z.join hW hlt g3 g2 hts g4
                          have hqq : q = ((R.join p.1 (bt R.text i) p.2.1 p.2.2.1).1, (R.join p.1 (bt R.text i) p.2.1 p.2.2.1).2.1, p.2.2.1, (R.join p.1 (bt R.text i) p.2.1 p.2.2.1).2.2) := by rw [hq]; unfold Rdr.fin; rw [if_pos hc]
                          simp [hc, getA]
                          refine ck_intro' Z.ej ?_; simp
                          rw [hl] at j2
                          refine all_call rfl (by simpa using j2) (by simp [Z.len]; omega) ?_; simp
                          rw [hqq, Z.len]
                          exact j3
                        · simp [hc]
                          rw [hq, show R.fin (bt R.text i) p = (p.1, -1, p.2.2.1, p.2.2.2) from if_neg hc]
                          exact LeV.drop (by simp [Z.len]) (by rw [Z.len]; exact Z.cl _ _ _) (by simp)
                      · refine one _ (by decide) rfl ?_; simp
                        refine br_intro' (fun z1 => ?_) (fun z1 => ?_) <;> simp [z1, Z.get]
                        · refine one _ hmz rfl ?_; simp
                          refine br_intro' (fun z2 => ?_) (fun z2 => ?_) <;> simp [z2, Z.get]
                          · rw [hset]
                            refine all_call rfl hK (by simp [Z.len]) ?_; simp
                            refine all_call rfl hX (by simp [Z.len]) ?_; simp
                            simp [getA]
                            by_cases hc : p.2.2.2 = 0
                            · obtain ⟨g1, g2, g3, g4⟩ := hg hc
                              obtain ⟨G, j1, j2, j3⟩ := Z.join hW hlt g3 g2 hts g4
                              have hqq : q = ((R.join p.1 (bt R.text i) p.2.1 p.2.2.1).1, (R.join p.1 (bt R.text i) p.2.1 p.2.2.1).2.1, p.2.2.1, (R.join p.1 (bt R.text i) p.2.1 p.2.2.1).2.2) := by rw [hq]; unfold Rdr.fin; rw [if_pos hc]
                              simp [hc, getA]
                              refine ck_intro' Z.ej ?_; simp
                              rw [hl] at j2
                              refine all_call rfl (by simpa using j2) (by simp [Z.len]; omega) ?_; simp
                              rw [hqq, Z.len]
                              exact j3
                            · simp [hc]
                              rw [hq, show R.fin (bt R.text i) p = (p.1, -1, p.2.2.1, p.2.2.2) from if_neg hc]
                              exact LeV.drop (by simp [Z.len]) (by rw [Z.len]; exact Z.cl _ _ _) (by simp)
                          · exact absurd hA (by simp [Rdr.isArg, z, z1, z2])
                        · exact absurd hA (by simp [Rdr.isArg, z, z1])
                    · have hq : q = (s, -1, i, 3) := by
                        rw [← eq]
                        simp only [rdF]
                        rw [if_neg (by simp), if_neg u, if_neg hL, if_neg hT, if_neg hO, if_neg hA]
                      refine br_intro' (fun z => ?_) (fun z => ?_) <;> simp [z, Z.get]
                      · exact absurd (show R.isArg (bt R.text i) = true by simp [Rdr.isArg, z]) hA
                      · refine one _ (by decide) rfl ?_; simp
                        refine br_intro' (fun z1 => ?_) (fun z1 => ?_) <;> simp [z1, Z.get]
                        · refine one _ hmz rfl ?_; simp
                          refine br_intro' (fun z2 => ?_) (fun z2 => ?_) <;> simp [z2, Z.get]
                          · exact absurd (show R.isArg (bt R.text i) = true by simp [Rdr.isArg, z, z1, z2]) hA
                          · refine all_call rfl (Z.fail s i 0 3 i) (by simp [Z.len]) ?_; simp [failF]
                            rw [hq]
                            exact LeV.refl _ _ _
                        · refine all_call rfl (Z.fail s i 0 3 i) (by simp [Z.len]) ?_; simp [failF]
                          rw [hq]
                          exact LeV.refl _ _ _
                · clear z z1
                  refine one _ (by decide) rfl ?_; simp
                  by_cases hA : R.isArg (bt R.text i) = true
                  · have hq : q = R.fin (bt R.text i) (R.two (rdF R n) 41 s (takeF R.text (i + 1) 0 40).1 (takeF R.text (i + 1) 0 40).2) := by
                      rw [← eq]
                      simp only [rdF]
                      rw [if_neg (by simp), if_neg u, if_neg hL, if_neg hT, if_neg hO, if_pos hA]
                    have hX := Z.two ih (s := s) (i := (takeF R.text (i + 1) 0 40).1) (c := (takeF R.text (i + 1) 0 40).2) (e := 41) (fun h0 => by
                      obtain ⟨_, t2, t3⟩ := takeF_ok h0
                      rw [t3]
                      exact ⟨K.W_E hW1 (K.E_step _ _), by omega, by omega⟩)
                    have hg := K.arg_good n (s := s) (i := i) hW hlt (by omega)
                    have hl : (R.two (rdF R n) 41 s (takeF R.text (i + 1) 0 40).1 (takeF R.text (i + 1) 0 40).2).2.1.length = 2 := rfl
                    have hts : R.Shape (bt R.text i) (R.two (rdF R n) 41 s (takeF R.text (i + 1) 0 40).1 (takeF R.text (i + 1) 0 40).2).2.1.length := .inr (.inr ⟨by simpa using hT, by simpa using hO, hA, rfl⟩)
                    have hK := Z.take s (i + 1) 0 40
                    obtain ⟨p, ep⟩ : ∃ p, R.two (rdF R n) 41 s (takeF R.text (i + 1) 0 40).1 (takeF R.text (i + 1) 0 40).2 = p := ⟨_, rfl⟩
                    rw [ep] at hq hX hg hts hl
                    refine br_intro' (fun z => ?_) (fun z => ?_) <;> simp [z, Z.get]
                    · rw [hset]
                      refine all_call rfl hK (by simp [Z.len]) ?_; simp
                      refine all_call rfl hX (by simp [Z.len]) ?_; simp
                      simp [getA]
                      by_cases hc : p.2.2.2 = 0
                      · obtain ⟨g1, g2, g3, g4⟩ := hg hc
                        obtain ⟨G, j1, j2, j3⟩ := Z.join hW hlt g3 g2 hts g4
                        have hqq : q = ((R.join p.1 (bt R.text i) p.2.1 p.2.2.1).1, (R.join p.1 (bt R.text i) p.2.1 p.2.2.1).2.1, p.2.2.1, (R.join p.1 (bt R.text i) p.2.1 p.2.2.1).2.2) := by rw [hq]; unfold Rdr.fin; rw [if_pos hc]
                        simp [hc, getA]
                        refine ck_intro' Z.ej ?_; simp
                        rw [hl] at j2
                        refine all_call rfl (by simpa using j2) (by simp [Z.len]; omega) ?_; simp
                        rw [hqq, Z.len]
                        exact j3
                      · simp [hc]
                        rw [hq, show R.fin (bt R.text i) p = (p.1, -1, p.2.2.1, p.2.2.2) from if_neg hc]
                        exact LeV.drop (by simp [Z.len]) (by rw [Z.len]; exact Z.cl _ _ _) (by simp)
                    · refine one _ (by decide) rfl ?_; simp
                      refine br_intro' (fun z1 => ?_) (fun z1 => ?_) <;> simp [z1, Z.get]
                      · refine one _ hmz rfl ?_; simp
                        refine br_intro' (fun z2 => ?_) (fun z2 => ?_) <;> simp [z2, Z.get]
                        · rw [hset]
                          refine all_call rfl hK (by simp [Z.len]) ?_; simp
                          refine all_call rfl hX (by simp [Z.len]) ?_; simp
                          simp [getA]
                          by_cases hc : p.2.2.2 = 0
                          · obtain ⟨g1, g2, g3, g4⟩ := hg hc
                            obtain ⟨G, j1, j2, j3⟩ := Z.join hW hlt g3 g2 hts g4
                            have hqq : q = ((R.join p.1 (bt R.text i) p.2.1 p.2.2.1).1, (R.join p.1 (bt R.text i) p.2.1 p.2.2.1).2.1, p.2.2.1, (R.join p.1 (bt R.text i) p.2.1 p.2.2.1).2.2) := by rw [hq]; unfold Rdr.fin; rw [if_pos hc]
                            simp [hc, getA]
                            refine ck_intro' Z.ej ?_; simp
                            rw [hl] at j2
                            refine all_call rfl (by simpa using j2) (by simp [Z.len]; omega) ?_; simp
                            rw [hqq, Z.len]
                            exact j3
                          · simp [hc]
                            rw [hq, show R.fin (bt R.text i) p = (p.1, -1, p.2.2.1, p.2.2.2) from if_neg hc]
                            exact LeV.drop (by simp [Z.len]) (by rw [Z.len]; exact Z.cl _ _ _) (by simp)
                        · exact absurd hA (by simp [Rdr.isArg, z, z1, z2])
                      · exact absurd hA (by simp [Rdr.isArg, z, z1])
                  · have hq : q = (s, -1, i, 3) := by
                      rw [← eq]
                      simp only [rdF]
                      rw [if_neg (by simp), if_neg u, if_neg hL, if_neg hT, if_neg hO, if_neg hA]
                    refine br_intro' (fun z => ?_) (fun z => ?_) <;> simp [z, Z.get]
                    · exact absurd (show R.isArg (bt R.text i) = true by simp [Rdr.isArg, z]) hA
                    · refine one _ (by decide) rfl ?_; simp
                      refine br_intro' (fun z1 => ?_) (fun z1 => ?_) <;> simp [z1, Z.get]
                      · refine one _ hmz rfl ?_; simp
                        refine br_intro' (fun z2 => ?_) (fun z2 => ?_) <;> simp [z2, Z.get]
                        · exact absurd (show R.isArg (bt R.text i) = true by simp [Rdr.isArg, z, z1, z2]) hA
                        · refine all_call rfl (Z.fail s i 0 3 i) (by simp [Z.len]) ?_; simp [failF]
                          rw [hq]
                          exact LeV.refl _ _ _
                      · refine all_call rfl (Z.fail s i 0 3 i) (by simp [Z.len]) ?_; simp [failF]
                        rw [hq]
                        exact LeV.refl _ _ _
      · refine one _ (by decide) rfl ?_; simp
        by_cases hT : isTwoB (bt R.text i) = true
        · have hT' : inS (bt R.text i) ⟨#[40, 123, 91]⟩ = true := hT
          have hq : q = R.fin (bt R.text i) (R.two (rdF R n) (closeF (bt R.text i)) s (i + 1) 0) := by
            rw [← eq]
            simp only [rdF]
            rw [if_neg (by simp), if_neg u, if_neg hL, if_pos hT]
          simp [hT', Z.get]
          refine lift_call rfl (impl_closing_c _) (by simp) (by simp) ?_; simp
          rw [hset]
          have hX := Z.two ih (s := s) (i := i + 1) (c := 0) (e := closeF (bt R.text i)) (fun _ => ⟨hW1, by omega, by omega⟩)
          have hg := K.two_good' n (s := s) (i := i) (e := closeF (bt R.text i)) hW hlt (by omega)
          have hl : (R.two (rdF R n) (closeF (bt R.text i)) s (i + 1) 0).2.1.length = 2 := rfl
          have hts : R.Shape (bt R.text i) (R.two (rdF R n) (closeF (bt R.text i)) s (i + 1) 0).2.1.length := .inl ⟨hT, rfl⟩
          obtain ⟨p, ep⟩ : ∃ p, R.two (rdF R n) (closeF (bt R.text i)) s (i + 1) 0 = p := ⟨_, rfl⟩
          rw [ep] at hq hX hg hts hl
          refine all_call rfl hX (by simp [Z.len]) ?_; simp
          simp [getA]
          by_cases hc : p.2.2.2 = 0
          · obtain ⟨g1, g2, g3, g4⟩ := hg hc
            obtain ⟨G, j1, j2, j3⟩ := Z.join hW hlt g3 g2 hts g4
            have hqq : q = ((R.join p.1 (bt R.text i) p.2.1 p.2.2.1).1, (R.join p.1 (bt R.text i) p.2.1 p.2.2.1).2.1, p.2.2.1, (R.join p.1 (bt R.text i) p.2.1 p.2.2.1).2.2) := by rw [hq]; unfold Rdr.fin; rw [if_pos hc]
            simp [hc, getA]
            refine ck_intro' Z.ej ?_; simp
            rw [hl] at j2
            refine all_call rfl (by simpa using j2) (by simp [Z.len]; omega) ?_; simp
            rw [hqq, Z.len]
            exact j3
          · simp [hc]
            rw [hq, show R.fin (bt R.text i) p = (p.1, -1, p.2.2.1, p.2.2.2) from if_neg hc]
            exact LeV.drop (by simp [Z.len]) (by rw [Z.len]; exact Z.cl _ _ _) (by simp)
        · have hT' : inS (bt R.text i) ⟨#[40, 123, 91]⟩ = false := by simpa [isTwoB] using hT
          simp [hT']
          refine one _ (by decide) rfl ?_; simp
          by_cases hO : R.isOne (bt R.text i) = true
          · have hq : q = R.fin (bt R.text i) (oneF (rdF R n) s (i + 1)) := by
              rw [← eq]
              simp only [rdF]
              rw [if_neg (by simp), if_neg u, if_neg hL, if_neg hT, if_pos hO]
            have hX := ih s (i + 1) 0 (fun _ => ⟨hW1, by omega, by omega⟩)
            have hg0 := K.rd_good n (s := s) (i := i + 1) (c := 0) hW1 (by omega) (by omega)
            have hg : (oneF (rdF R n) s (i + 1)).2.2.2 = 0 → i < (oneF (rdF R n) s (i + 1)).2.2.1 ∧ (oneF (rdF R n) s (i + 1)).2.2.1 ≤ R.text.size ∧ K.E s (i + 1) (oneF (rdF R n) s (i + 1)).1 (oneF (rdF R n) s (i + 1)).2.2.1 ∧ ∀ t ∈ (oneF (rdF R n) s (i + 1)).2.1, K.V (oneF (rdF R n) s (i + 1)).1 t := fun h => by
              obtain ⟨h1, h2, h3, h4⟩ := hg0 h
              refine ⟨Nat.lt_trans (show i < i + 1 by omega) h1, h2, h3, fun t ht => ?_⟩
              simp only [oneF, List.mem_cons, List.mem_nil_iff, or_false] at ht
              rw [ht]; exact h4
            have hl : (oneF (rdF R n) s (i + 1)).2.1.length = 1 := rfl
            have hts : R.Shape (bt R.text i) (oneF (rdF R n) s (i + 1)).2.1.length := .inr (.inl ⟨by simpa using hT, hO, rfl⟩)
            have hrow : ∀ (H : List Blk), H ++ [(⟨0, false, 1, [i6 (rdF R n s (i + 1) 0).2.1], none⟩ : Blk)] = H ++ [⟨0, false, 1, ints (oneF (rdF R n) s (i + 1)).2.1, none⟩] := fun H => rfl
            have hp1 : (rdF R n s (i + 1) 0).1 = (oneF (rdF R n) s (i + 1)).1 := rfl
            have hp2 : (rdF R n s (i + 1) 0).2.2.1 = (oneF (rdF R n) s (i + 1)).2.2.1 := rfl
            have hp3 : (rdF R n s (i + 1) 0).2.2.2 = (oneF (rdF R n) s (i + 1)).2.2.2 := rfl
            obtain ⟨p, ep⟩ : ∃ p, oneF (rdF R n) s (i + 1) = p := ⟨_, rfl⟩
            rw [ep] at hq hg hts hl hp1 hp2 hp3
            refine br_intro' (fun z => ?_) (fun z => ?_) <;> simp [z, Z.get]
            · rw [hset]
              refine all_call rfl hX (by simp [Z.len]) ?_; simp
              rw [hrow, ep, hp1, hp2, hp3, Z.len]
              simp [getA]
              by_cases hc : p.2.2.2 = 0
              · obtain ⟨g1, g2, g3, g4⟩ := hg hc
                obtain ⟨G, j1, j2, j3⟩ := Z.join hW hlt g3 g2 hts g4
                have hqq : q = ((R.join p.1 (bt R.text i) p.2.1 p.2.2.1).1, (R.join p.1 (bt R.text i) p.2.1 p.2.2.1).2.1, p.2.2.1, (R.join p.1 (bt R.text i) p.2.1 p.2.2.1).2.2) := by rw [hq]; unfold Rdr.fin; rw [if_pos hc]
                simp [hc, getA]
                refine ck_intro' Z.ej ?_; simp
                rw [hl] at j2
                refine all_call rfl (by simpa using j2) (by simp [Z.len]; omega) ?_; simp
                rw [hqq, Z.len]
                exact j3
              · simp [hc]
                rw [hq, show R.fin (bt R.text i) p = (p.1, -1, p.2.2.1, p.2.2.2) from if_neg hc]
                exact LeV.drop (by simp [Z.len]) (by rw [Z.len]; exact Z.cl _ _ _) (by simp)
            · refine one _ (by decide) rfl ?_; simp
              refine br_intro' (fun z1 => ?_) (fun z1 => ?_) <;> simp [z1, Z.get]
              · refine one _ hmz rfl ?_; simp
                refine br_intro' (fun z2 => ?_) (fun z2 => ?_) <;> simp [z2, Z.get]
                · rw [hset]
                  refine all_call rfl hX (by simp [Z.len]) ?_; simp
                  rw [hrow, ep, hp1, hp2, hp3, Z.len]
                  simp [getA]
                  by_cases hc : p.2.2.2 = 0
                  · obtain ⟨g1, g2, g3, g4⟩ := hg hc
                    obtain ⟨G, j1, j2, j3⟩ := Z.join hW hlt g3 g2 hts g4
                    have hqq : q = ((R.join p.1 (bt R.text i) p.2.1 p.2.2.1).1, (R.join p.1 (bt R.text i) p.2.1 p.2.2.1).2.1, p.2.2.1, (R.join p.1 (bt R.text i) p.2.1 p.2.2.1).2.2) := by rw [hq]; unfold Rdr.fin; rw [if_pos hc]
                    simp [hc, getA]
                    refine ck_intro' Z.ej ?_; simp
                    rw [hl] at j2
                    refine all_call rfl (by simpa using j2) (by simp [Z.len]; omega) ?_; simp
                    rw [hqq, Z.len]
                    exact j3
                  · simp [hc]
                    rw [hq, show R.fin (bt R.text i) p = (p.1, -1, p.2.2.1, p.2.2.2) from if_neg hc]
                    exact LeV.drop (by simp [Z.len]) (by rw [Z.len]; exact Z.cl _ _ _) (by simp)
                · exact absurd hO (by simp [Rdr.isOne, z, z1, z2])
              · exact absurd hO (by simp [Rdr.isOne, z, z1])
          · refine br_intro' (fun z => ?_) (fun z => ?_) <;> simp [z, Z.get]
            · exact absurd (show R.isOne (bt R.text i) = true by simp [Rdr.isOne, z]) hO
            · refine one _ (by decide) rfl ?_; simp
              refine br_intro' (fun z1 => ?_) (fun z1 => ?_) <;> simp [z1, Z.get]
              · refine one _ hmz rfl ?_; simp
                refine br_intro' (fun z2 => ?_) (fun z2 => ?_) <;> simp [z2, Z.get]
                · exact absurd (show R.isOne (bt R.text i) = true by simp [Rdr.isOne, z, z1, z2]) hO
                · clear z z1 z2
                  refine one _ (by decide) rfl ?_; simp
                  by_cases hA : R.isArg (bt R.text i) = true
                  · have hq : q = R.fin (bt R.text i) (R.two (rdF R n) 41 s (takeF R.text (i + 1) 0 40).1 (takeF R.text (i + 1) 0 40).2) := by
                      rw [← eq]
                      simp only [rdF]
                      rw [if_neg (by simp), if_neg u, if_neg hL, if_neg hT, if_neg hO, if_pos hA]
                    have hX := Z.two ih (s := s) (i := (takeF R.text (i + 1) 0 40).1) (c := (takeF R.text (i + 1) 0 40).2) (e := 41) (fun h0 => by
                      obtain ⟨_, t2, t3⟩ := takeF_ok h0
                      rw [t3]
                      exact ⟨K.W_E hW1 (K.E_step _ _), by omega, by omega⟩)
                    have hg := K.arg_good n (s := s) (i := i) hW hlt (by omega)
                    have hl : (R.two (rdF R n) 41 s (takeF R.text (i + 1) 0 40).1 (takeF R.text (i + 1) 0 40).2).2.1.length = 2 := rfl
                    have hts : R.Shape (bt R.text i) (R.two (rdF R n) 41 s (takeF R.text (i + 1) 0 40).1 (takeF R.text (i + 1) 0 40).2).2.1.length := .inr (.inr ⟨by simpa using hT, by simpa using hO, hA, rfl⟩)
                    have hK := Z.take s (i + 1) 0 40
                    obtain ⟨p, ep⟩ : ∃ p, R.two (rdF R n) 41 s (takeF R.text (i + 1) 0 40).1 (takeF R.text (i + 1) 0 40).2 = p := ⟨_, rfl⟩
                    rw [ep] at hq hX hg hts hl
                    refine br_intro' (fun z => ?_) (fun z => ?_) <;> simp [z, Z.get]
                    · rw [hset]
                      refine all_call rfl hK (by simp [Z.len]) ?_; simp
                      refine all_call rfl hX (by simp [Z.len]) ?_; simp
                      simp [getA]
                      by_cases hc : p.2.2.2 = 0
                      · obtain ⟨g1, g2, g3, g4⟩ := hg hc
                        obtain ⟨G, j1, j2, j3⟩ := Z.join hW hlt g3 g2 hts g4
                        have hqq : q = ((R.join p.1 (bt R.text i) p.2.1 p.2.2.1).1, (R.join p.1 (bt R.text i) p.2.1 p.2.2.1).2.1, p.2.2.1, (R.join p.1 (bt R.text i) p.2.1 p.2.2.1).2.2) := by rw [hq]; unfold Rdr.fin; rw [if_pos hc]
                        simp [hc, getA]
                        refine ck_intro' Z.ej ?_; simp
                        rw [hl] at j2
                        refine all_call rfl (by simpa using j2) (by simp [Z.len]; omega) ?_; simp
                        rw [hqq, Z.len]
                        exact j3
                      · simp [hc]
                        rw [hq, show R.fin (bt R.text i) p = (p.1, -1, p.2.2.1, p.2.2.2) from if_neg hc]
                        exact LeV.drop (by simp [Z.len]) (by rw [Z.len]; exact Z.cl _ _ _) (by simp)
                    · refine one _ (by decide) rfl ?_; simp
                      refine br_intro' (fun z1 => ?_) (fun z1 => ?_) <;> simp [z1, Z.get]
                      · refine one _ hmz rfl ?_; simp
                        refine br_intro' (fun z2 => ?_) (fun z2 => ?_) <;> simp [z2, Z.get]
                        · rw [hset]
                          refine all_call rfl hK (by simp [Z.len]) ?_; simp
                          refine all_call rfl hX (by simp [Z.len]) ?_; simp
                          simp [getA]
                          by_cases hc : p.2.2.2 = 0
                          · obtain ⟨g1, g2, g3, g4⟩ := hg hc
                            obtain ⟨G, j1, j2, j3⟩ := Z.join hW hlt g3 g2 hts g4
                            have hqq : q = ((R.join p.1 (bt R.text i) p.2.1 p.2.2.1).1, (R.join p.1 (bt R.text i) p.2.1 p.2.2.1).2.1, p.2.2.1, (R.join p.1 (bt R.text i) p.2.1 p.2.2.1).2.2) := by rw [hq]; unfold Rdr.fin; rw [if_pos hc]
                            simp [hc, getA]
                            refine ck_intro' Z.ej ?_; simp
                            rw [hl] at j2
                            refine all_call rfl (by simpa using j2) (by simp [Z.len]; omega) ?_; simp
                            rw [hqq, Z.len]
                            exact j3
                          · simp [hc]
                            rw [hq, show R.fin (bt R.text i) p = (p.1, -1, p.2.2.1, p.2.2.2) from if_neg hc]
                            exact LeV.drop (by simp [Z.len]) (by rw [Z.len]; exact Z.cl _ _ _) (by simp)
                        · exact absurd hA (by simp [Rdr.isArg, z, z1, z2])
                      · exact absurd hA (by simp [Rdr.isArg, z, z1])
                  · have hq : q = (s, -1, i, 3) := by
                      rw [← eq]
                      simp only [rdF]
                      rw [if_neg (by simp), if_neg u, if_neg hL, if_neg hT, if_neg hO, if_neg hA]
                    refine br_intro' (fun z => ?_) (fun z => ?_) <;> simp [z, Z.get]
                    · exact absurd (show R.isArg (bt R.text i) = true by simp [Rdr.isArg, z]) hA
                    · refine one _ (by decide) rfl ?_; simp
                      refine br_intro' (fun z1 => ?_) (fun z1 => ?_) <;> simp [z1, Z.get]
                      · refine one _ hmz rfl ?_; simp
                        refine br_intro' (fun z2 => ?_) (fun z2 => ?_) <;> simp [z2, Z.get]
                        · exact absurd (show R.isArg (bt R.text i) = true by simp [Rdr.isArg, z, z1, z2]) hA
                        · refine all_call rfl (Z.fail s i 0 3 i) (by simp [Z.len]) ?_; simp [failF]
                          rw [hq]
                          exact LeV.refl _ _ _
                      · refine all_call rfl (Z.fail s i 0 3 i) (by simp [Z.len]) ?_; simp [failF]
                        rw [hq]
                        exact LeV.refl _ _ _
              · clear z z1
                refine one _ (by decide) rfl ?_; simp
                by_cases hA : R.isArg (bt R.text i) = true
                · have hq : q = R.fin (bt R.text i) (R.two (rdF R n) 41 s (takeF R.text (i + 1) 0 40).1 (takeF R.text (i + 1) 0 40).2) := by
                    rw [← eq]
                    simp only [rdF]
                    rw [if_neg (by simp), if_neg u, if_neg hL, if_neg hT, if_neg hO, if_pos hA]
                  have hX := Z.two ih (s := s) (i := (takeF R.text (i + 1) 0 40).1) (c := (takeF R.text (i + 1) 0 40).2) (e := 41) (fun h0 => by
                    obtain ⟨_, t2, t3⟩ := takeF_ok h0
                    rw [t3]
                    exact ⟨K.W_E hW1 (K.E_step _ _), by omega, by omega⟩)
                  have hg := K.arg_good n (s := s) (i := i) hW hlt (by omega)
                  have hl : (R.two (rdF R n) 41 s (takeF R.text (i + 1) 0 40).1 (takeF R.text (i + 1) 0 40).2).2.1.length = 2 := rfl
                  have hts : R.Shape (bt R.text i) (R.two (rdF R n) 41 s (takeF R.text (i + 1) 0 40).1 (takeF R.text (i + 1) 0 40).2).2.1.length := .inr (.inr ⟨by simpa using hT, by simpa using hO, hA, rfl⟩)
                  have hK := Z.take s (i + 1) 0 40
                  obtain ⟨p, ep⟩ : ∃ p, R.two (rdF R n) 41 s (takeF R.text (i + 1) 0 40).1 (takeF R.text (i + 1) 0 40).2 = p := ⟨_, rfl⟩
                  rw [ep] at hq hX hg hts hl
                  refine br_intro' (fun z => ?_) (fun z => ?_) <;> simp [z, Z.get]
                  · rw [hset]
                    refine all_call rfl hK (by simp [Z.len]) ?_; simp
                    refine all_call rfl hX (by simp [Z.len]) ?_; simp
                    simp [getA]
                    by_cases hc : p.2.2.2 = 0
                    · obtain ⟨g1, g2, g3, g4⟩ := hg hc
                      obtain ⟨G, j1, j2, j3⟩ := Z.join hW hlt g3 g2 hts g4
                      have hqq : q = ((R.join p.1 (bt R.text i) p.2.1 p.2.2.1).1, (R.join p.1 (bt R.text i) p.2.1 p.2.2.1).2.1, p.2.2.1, (R.join p.1 (bt R.text i) p.2.1 p.2.2.1).2.2) := by rw [hq]; unfold Rdr.fin; rw [if_pos hc]
                      simp [hc, getA]
                      refine ck_intro' Z.ej ?_; simp
                      rw [hl] at j2
                      refine all_call rfl (by simpa using j2) (by simp [Z.len]; omega) ?_; simp
                      rw [hqq, Z.len]
                      exact j3
                    · simp [hc]
                      rw [hq, show R.fin (bt R.text i) p = (p.1, -1, p.2.2.1, p.2.2.2) from if_neg hc]
                      exact LeV.drop (by simp [Z.len]) (by rw [Z.len]; exact Z.cl _ _ _) (by simp)
                  · refine one _ (by decide) rfl ?_; simp
                    refine br_intro' (fun z1 => ?_) (fun z1 => ?_) <;> simp [z1, Z.get]
                    · refine one _ hmz rfl ?_; simp
                      refine br_intro' (fun z2 => ?_) (fun z2 => ?_) <;> simp [z2, Z.get]
                      · rw [hset]
                        refine all_call rfl hK (by simp [Z.len]) ?_; simp
                        refine all_call rfl hX (by simp [Z.len]) ?_; simp
                        simp [getA]
                        by_cases hc : p.2.2.2 = 0
                        · obtain ⟨g1, g2, g3, g4⟩ := hg hc
                          obtain ⟨G, j1, j2, j3⟩ := Z.join hW hlt g3 g2 hts g4
                          have hqq : q = ((R.join p.1 (bt R.text i) p.2.1 p.2.2.1).1, (R.join p.1 (bt R.text i) p.2.1 p.2.2.1).2.1, p.2.2.1, (R.join p.1 (bt R.text i) p.2.1 p.2.2.1).2.2) := by rw [hq]; unfold Rdr.fin; rw [if_pos hc]
                          simp [hc, getA]
                          refine ck_intro' Z.ej ?_; simp
                          rw [hl] at j2
                          refine all_call rfl (by simpa using j2) (by simp [Z.len]; omega) ?_; simp
                          rw [hqq, Z.len]
                          exact j3
                        · simp [hc]
                          rw [hq, show R.fin (bt R.text i) p = (p.1, -1, p.2.2.1, p.2.2.2) from if_neg hc]
                          exact LeV.drop (by simp [Z.len]) (by rw [Z.len]; exact Z.cl _ _ _) (by simp)
                      · exact absurd hA (by simp [Rdr.isArg, z, z1, z2])
                    · exact absurd hA (by simp [Rdr.isArg, z, z1])
                · have hq : q = (s, -1, i, 3) := by
                    rw [← eq]
                    simp only [rdF]
                    rw [if_neg (by simp), if_neg u, if_neg hL, if_neg hT, if_neg hO, if_neg hA]
                  refine br_intro' (fun z => ?_) (fun z => ?_) <;> simp [z, Z.get]
                  · exact absurd (show R.isArg (bt R.text i) = true by simp [Rdr.isArg, z]) hA
                  · refine one _ (by decide) rfl ?_; simp
                    refine br_intro' (fun z1 => ?_) (fun z1 => ?_) <;> simp [z1, Z.get]
                    · refine one _ hmz rfl ?_; simp
                      refine br_intro' (fun z2 => ?_) (fun z2 => ?_) <;> simp [z2, Z.get]
                      · exact absurd (show R.isArg (bt R.text i) = true by simp [Rdr.isArg, z, z1, z2]) hA
                      · refine all_call rfl (Z.fail s i 0 3 i) (by simp [Z.len]) ?_; simp [failF]
                        rw [hq]
                        exact LeV.refl _ _ _
                    · refine all_call rfl (Z.fail s i 0 3 i) (by simp [Z.len]) ?_; simp [failF]
                      rw [hq]
                      exact LeV.refl _ _ _
end
end Go.Proofs.YtpohfpnlepmebaaGreatDoor.C

set_option linter.unusedVariables false
set_option linter.unusedSimpArgs false
set_option maxRecDepth 4000
namespace Go.Proofs.YtpohfpnlepmebaaGreatDoor.C
open Go.Sym Go.Proofs.YtpohfpnlepmebaaGreatDoor.I
/-- All of a text. -/
def allRF {σ : Type} (R : Rdr σ) (most : Int) (s : σ) : σ × Int × Nat × Int :=
  if most < R.text.size then (s, -1, 0, 1)
  else if (rdF R (R.text.size + 1) s 0 0).2.2.2 = 0 ∧ (rdF R (R.text.size + 1) s 0 0).2.2.1 < R.text.size then ((rdF R (R.text.size + 1) s 0 0).1, -1, (rdF R (R.text.size + 1) s 0 0).2.2.1, 6)
  else rdF R (R.text.size + 1) s 0 0
theorem RdrRun.all {σ : Type} {R : Rdr σ} {K : RdrOk R} (Z : RdrRun K) {s : σ} {most : Int} (hW : K.W s 0) : T 46 [rptr Z.b, i6 most] (Z.Hs s 0 0) (i6 (allRF R most s).2.1) (Z.Hs (allRF R most s).1 (allRF R most s).2.2.1 (allRF R most s).2.2.2) := by
  obtain ⟨a, ea⟩ : ∃ a, allRF R most s = a := ⟨_, rfl⟩
  have hX := Z.reads (R.text.size + 1) s 0 0 (fun _ => ⟨hW, Nat.zero_le _, by omega⟩)
  obtain ⟨p, ep⟩ : ∃ p, rdF R (R.text.size + 1) s 0 0 = p := ⟨_, rfl⟩
  have hz := Z.size
  simp only [allRF, ep] at ea
  rw [ep] at hX
  rw [show allRF R most s = a by simp only [allRF, ep]; exact ea]
  refine semT' (S := fun _ => true) hm impl_reader_all_ok (Nat.le_of_ble_eq_true rfl) ?_
  unfold impl_reader_all; dsimp only
  simp [Z.get]
  refine br_intro' (fun u => ?_) (fun u => ?_) <;> (have u0 := u) <;> simp only [decide_eq_true_eq, decide_eq_false_iff_not] at u <;> simp [u0, Z.get]
  · rw [if_pos u] at ea
    refine all_call rfl (Z.fail s 0 0 1 0) (by simp [Z.len]) ?_; simp [failF]
    rw [← ea]
    exact LeV.refl _ _ _
  rw [if_neg u] at ea
  refine all_call rfl (by simpa using hX) (by simp [Z.len]) ?_; simp [Z.get]
  by_cases hc : p.2.2.2 = 0
  · simp [hc, Z.get]
    repeat (refine ck_intro' (by first | omega | (simp; omega) | kernel_rfl) ?_; try simp [Z.get])
    refine br_intro' (fun v => ?_) (fun v => ?_) <;> (have v0 := v) <;> simp only [decide_eq_true_eq, decide_eq_false_iff_not] at v <;> simp [v0, Z.get]
    · rw [if_pos ⟨hc, by omega⟩] at ea
      refine all_call rfl (Z.fail p.1 p.2.2.1 0 6 p.2.2.1) (by simp [Z.len]) ?_; simp [failF]
      rw [← ea]
      exact LeV.refl _ _ _
    · rw [if_neg (by omega)] at ea
      rw [← ea, hc]
      exact LeV.refl _ _ _
  · simp [hc, Z.get]
    repeat (refine ck_intro' (by first | omega | (simp; omega) | kernel_rfl) ?_; try simp [Z.get])
    rw [if_neg (fun g => hc g.1)] at ea
    rw [← ea]
    exact LeV.refl _ _ _
end Go.Proofs.YtpohfpnlepmebaaGreatDoor.C

set_option linter.unusedVariables false
set_option linter.unusedSimpArgs false
set_option maxRecDepth 4000
namespace Go.Proofs.YtpohfpnlepmebaaGreatDoor.C
open Go.Sym Go.Proofs.YtpohfpnlepmebaaGreatDoor.I
/-- A name's number at a place. -/
def nmOk (tx : ByteArray) (i : Nat) : Bool := decide (0 ≤ figV 3 (dgRun tx i)) && decide (figV 3 (dgRun tx i) < 200)
theorem numF_nm (tx : ByteArray) (i : Nat) (fr : Int) : numF tx i fr = if nmOk tx i = true then (figV 3 (dgRun tx i), (dEnd tx i : Int), 0) else (-1, fr, 4) := by
  have hd := dgRun_dg tx i
  have h1 := figV_small (most := 9) hd 3 (by omega) (by omega)
  unfold numF nmOk
  by_cases h : 0 ≤ figV 3 (dgRun tx i)
  · have e := figV_eq (most := 9) (by omega) h
    rw [e]
    by_cases h2 : figV 3 (dgRun tx i) < 200
    · rw [if_pos ⟨h, by omega⟩, if_pos (by simp [h, h2])]
    · rw [if_neg (by omega), if_neg (by simp [h2])]
  · rw [if_neg (fun g => h (h1.1 ⟨g.1, by omega⟩)), if_neg (by simp [h])]
theorem spec_l4Want_c (tx : ByteArray) (i : Nat) (b : Int) (hs : tx.size ≤ 281474976710656) : T 67 [.str tx, i6 i, .int .u8 b] [] (.tup [i6 (takeF tx i 0 b).1, i6 (takeF tx i 0 b).2]) ([]) := by
  refine semT' (S := S0) hm spec_l4Want_ok (Nat.le_of_ble_eq_true rfl) ?_
  unfold spec_l4Want; dsimp only
  simp
  refine br_intro' (fun u => ?_) (fun u => ?_) <;> (have u0 := u) <;> simp only [decide_eq_true_eq, decide_eq_false_iff_not] at u <;> simp [u0]
  · exact LeV.ro rfl rfl (by simp [takeF, u])
  have hlt : i < tx.size := by omega
  simp [hlt]
  refine br_intro' (fun v => ?_) (fun v => ?_) <;> (have v0 := v) <;> simp only [decide_eq_true_eq, decide_eq_false_iff_not] at v <;> simp [v0]
  · rw [wrap_succ (n := i) (by omega)]
    exact LeV.ro rfl rfl (by simp [takeF, u, v])
  · exact LeV.ro rfl rfl (by simp [takeF, u, v])
theorem spec_l4Want_call {tx : ByteArray} {i : Nat} {b : Int} (hs : tx.size ≤ 281474976710656) {S : FuncId → Bool} {H : List Blk} {K : A → Dl → Prop} (hS : S 67 = false) (hK : K (.tup [i6 (takeF tx i 0 b).1, i6 (takeF tx i 0 b).2]) (.news [])) : @WCall' Go.Proofs.Tryz.prog S 67 [.str tx, i6 i, .int .u8 b] H ⟨K⟩ :=
  WCall_pure hS (spec_l4Want_c tx i b hs) (by simp) (by simp) (by simp) hK
theorem spec_l4Want_k {tx : ByteArray} {i : Nat} {b : Int} (hs : tx.size ≤ 281474976710656) {S : FuncId → Bool} {H : List Blk} {K : A → Dl → Prop} {zs : List A} (hS : S 67 = false) (hv : viewL (viewA 8 H) zs = some [.str tx, i6 i, .int .u8 b]) (ho : noOwns zs = true ∨ nosl (.tup [i6 (takeF tx i 0 b).1, i6 (takeF tx i 0 b).2]) = true) (hK : K (.tup [i6 (takeF tx i 0 b).1, i6 (takeF tx i 0 b).2]) (.news [])) : @WCall' Go.Proofs.Tryz.prog S 67 zs H ⟨K⟩ :=
  WCall_pure hS (spec_l4Want_c tx i b hs) hv ho (by simp) hK
theorem spec_l4Name_c (tx : ByteArray) (i : Nat) (hs : tx.size ≤ 281474976710656) (hi : i ≤ tx.size) : T 54 [.str tx, i6 i] [] (.tup [i6 (if nmOk tx i = true then figV 3 (dgRun tx i) else 0), i6 (if nmOk tx i = true then (dEnd tx i : Int) else 0), .bool (nmOk tx i)]) ([]) := by
  refine semT' (S := S0) hm spec_l4Name_ok (Nat.le_of_ble_eq_true rfl) ?_
  unfold spec_l4Name; dsimp only
  simp
  refine WLoop_fam (fun p : List UInt8 => [(0, A.str tx), (1, i6 (((i + p.length : Nat) : Int))), (7, i6 i), (8, i6 (valD p))]) (fun _ => []) (fun p => 5 - p.length)
    (fun p => dgRun tx i = p ++ dgRun tx (i + p.length) ∧ p.length ≤ 4 ∧ i + p.length ≤ tx.size) ?_ [] ⟨by simp, by simp, by simpa using hi⟩
  intro p ⟨hr, hl4, hsz⟩ ih
  have hdp : ∀ b ∈ p, isDg b = true := fun b hb => dgRun_dg tx i b (by rw [hr]; simp [hb])
  have hv := valD_lt p hdp
  have hv4 : valD p < 10000 := Nat.lt_of_lt_of_le hv (Nat.pow_le_pow_right (by omega) hl4)
  obtain ⟨j, hj⟩ : ∃ j, i + p.length = j := ⟨_, rfl⟩
  rw [hj] at hr hsz ⊢
  have hw0 : IntKind.i64.wrap ((j : Int) - i) = p.length := by rw [wrap64 (by omega) (by omega)]; omega
  simp [hw0]
  by_cases c1 : j < tx.size ∧ isDg (byt tx j) = true ∧ p.length < 4
  · obtain ⟨c1, c2, c3⟩ := c1
    have c2' := c2
    simp only [isDg, decide_eq_true_eq] at c2'
    have d2 : (48 : Int) ≤ ((byt tx j).toNat : Int) := by omega
    have d3 : ((byt tx j).toNat : Int) ≤ (57 : Int) := by omega
    have d4 : (p.length : Int) < 4 := by omega
    have w1 : IntKind.i64.wrap (10 * (valD p : Int)) = 10 * valD p := wrap64 (by omega) (by omega)
    have w2 : IntKind.i64.wrap ((byt tx j).toNat : Int) = (byt tx j).toNat := wrap64 (by omega) (by omega)
    have w3 : IntKind.i64.wrap (10 * (valD p : Int) + (byt tx j).toNat) = 10 * valD p + (byt tx j).toNat := wrap64 (by omega) (by omega)
    have w4 : IntKind.i64.wrap (10 * (valD p : Int) + (byt tx j).toNat - 48) = valD (p ++ [byt tx j]) := by rw [wrap64 (by omega) (by omega), valD_snoc]; push_cast; omega
    have w5 := wrap_succ (n := j) (by omega)
    have b1 : decide ((j : Int) < tx.size) = true := by simp; omega
    have b2 : decide ((48 : Int) ≤ ((byt tx j).toNat : Int)) = true := by simp; omega
    have b3 : decide (((byt tx j).toNat : Int) ≤ (57 : Int)) = true := by simp; omega
    have b4 : decide ((p.length : Int) < 4) = true := by simp; omega
    simp [b1, c1, b2, b3, b4, hw0, w1, w2, w3, w4, w5]
    have hl1 : (p ++ [byt tx j]).length = p.length + 1 := by simp
    have e5 : i + (p ++ [byt tx j]).length = j + 1 := by rw [hl1]; omega
    have := ih (p ++ [byt tx j]) ⟨by rw [e5, hr, dgRun_step c1 c2]; simp, by rw [hl1]; omega, by rw [e5]; omega⟩ (by rw [hl1]; omega)
    rw [e5] at this
    exact this
  · have hE : p.length = 4 ∨ dgRun tx j = [] := by
      rcases Nat.lt_or_ge p.length 4 with g | g
      · refine .inr (dgRun_stop ?_)
        rcases Nat.lt_or_ge j tx.size with g1 | g1
        · refine .inr ?_
          cases h : isDg (byt tx j) with
          | false => rfl
          | true => exact absurd ⟨g1, h, g⟩ c1
        · exact .inl g1
      · exact .inl (by omega)
    clear ih
    have key : (nmOk tx i = true ∧ figV 3 (dgRun tx i) = valD p ∧ (dEnd tx i : Int) = j ∧ j ≠ i ∧ p.length ≤ 3 ∧ ¬ ((byt tx i).toNat = 48 ∧ 1 < p.length) ∧ valD p < 200) ∨ (nmOk tx i = false ∧ (j = i ∨ 3 < p.length ∨ ((byt tx i).toNat = 48 ∧ 1 < p.length) ∨ 200 ≤ valD p)) := by
      rcases hE with g | g
      · right
        refine ⟨?_, .inr (.inl (by omega))⟩
        have : figV 3 (dgRun tx i) = -1 := figV_neg (.inr (.inl (by rw [hr]; simp; omega)))
        simp [nmOk, this]
      · rw [g, List.append_nil] at hr
        have hde : dEnd tx i = j := by unfold dEnd; rw [hr]; omega
        by_cases f1 : j = i
        · right
          have : p = [] := List.eq_nil_of_length_eq_zero (by omega)
          refine ⟨?_, .inl f1⟩
          have : figV 3 (dgRun tx i) = -1 := figV_neg (.inl (by rw [hr, this]))
          simp [nmOk, this]
        · have hne : p ≠ [] := by intro e; rw [e] at hj; simp at hj; omega
          have hit : i < tx.size := by omega
          have hh : lead0 (dgRun tx i) = decide ((byt tx i).toNat = 48 ∧ 1 < p.length) := by
            obtain ⟨b, q, rfl⟩ : ∃ b q, p = b :: q := by cases p with | nil => exact absurd rfl hne | cons b q => exact ⟨b, q, rfl⟩
            have hb : b = byt tx i := by
              have h1 : (dgRun tx i).head? = some b := by rw [hr]; rfl
              have h2 : isDg (byt tx i) = true := by
                cases h : isDg (byt tx i) with
                | true => rfl
                | false => rw [dgRun_stop (.inr h)] at h1; cases h1
              rw [dgRun_step hit h2] at h1
              exact (Option.some.inj h1).symm
            rw [hr]
            simp only [lead0, List.head?_cons, Option.some.injEq]
            rw [hb]
            have : (byt tx i = 48) ↔ (byt tx i).toNat = 48 := by
              constructor
              · intro e; rw [e]; rfl
              · intro e; exact UInt8.toNat_inj.1 e
            simp only [this]
            rw [Bool.eq_iff_iff]
            simp
            omega
          by_cases f2 : 3 < p.length
          · right
            refine ⟨?_, .inr (.inl f2)⟩
            have : figV 3 (dgRun tx i) = -1 := figV_neg (.inr (.inl (by rw [hr]; exact f2)))
            simp [nmOk, this]
          · by_cases f3 : (byt tx i).toNat = 48 ∧ 1 < p.length
            · right
              refine ⟨?_, .inr (.inr (.inl f3))⟩
              have : figV 3 (dgRun tx i) = -1 := figV_neg (.inr (.inr (by rw [hh]; simpa using f3)))
              simp [nmOk, this]
            · have hfv : figV 3 (dgRun tx i) = valD p := by
                have := figV_pos (most := 3) (l := dgRun tx i) (by rw [hr]; exact hne) (by rw [hr]; exact f2) (by rw [hh]; exact decide_eq_false f3)
                rw [this, hr]
              by_cases f5 : 200 ≤ valD p
              · right
                exact ⟨by simp [nmOk, hfv]; omega, .inr (.inr (.inr f5))⟩
              · left
                exact ⟨by simp [nmOk, hfv]; omega, hfv, by rw [hde], f1, by omega, f3, by omega⟩
    clear hE hr hdp hv
    by_cases e1 : j < tx.size
    · have b1 : decide ((j : Int) < tx.size) = true := by simp; omega
      by_cases e2 : 48 ≤ (byt tx j).toNat
      · have b2 : decide ((48 : Int) ≤ ((byt tx j).toNat : Int)) = true := by simp; omega
        by_cases e3 : (byt tx j).toNat ≤ 57
        · have e4 : ¬ p.length < 4 := fun e4 => c1 ⟨e1, by simp [isDg]; omega, e4⟩
          have b3 : decide (((byt tx j).toNat : Int) ≤ (57 : Int)) = true := by simp; omega
          have b4 : decide ((p.length : Int) < 4) = false := by simp; omega
          simp [b1, e1, b2, b3, b4, hw0]
          rcases key with ⟨k1, k2, k3, k4, k5, k6, k7⟩ | ⟨k1, k4⟩
          · have f1 : decide ((j : Int) = i) = false := by simp; omega
            have f2 : decide ((3 : Int) < p.length) = false := by simp; omega
            have hit : i < tx.size := by omega
            have f5 : decide ((200 : Int) ≤ valD p) = false := by simp; omega
            simp [f1, f2, hit, f5, hw0]
            by_cases f3 : (byt tx i).toNat = 48
            · have f4 : decide ((1 : Int) < p.length) = false := by simp; have := fun h => k6 ⟨f3, h⟩; omega
              have f3' : decide (((byt tx i).toNat : Int) = 48) = true := by simp; omega
              simp [f3', f4, f5, hw0]
              exact LeV.ro rfl rfl (by simp [k1, k2, k3])
            · have f3' : decide (((byt tx i).toNat : Int) = 48) = false := by simp; omega
              simp [f3', f5, hw0]
              exact LeV.ro rfl rfl (by simp [k1, k2, k3])
          · by_cases f1 : j = i
            · have f1' : decide ((j : Int) = i) = true := by simp; omega
              simp [f1', hw0]
              exact LeV.ro rfl rfl (by simp [k1])
            · have f1' : decide ((j : Int) = i) = false := by simp; omega
              have hit : i < tx.size := by omega
              simp [f1', hit, hw0]
              by_cases f2 : 3 < p.length
              · have f2' : decide ((3 : Int) < p.length) = true := by simp; omega
                simp [f2', hw0]
                exact LeV.ro rfl rfl (by simp [k1])
              · have f2' : decide ((3 : Int) < p.length) = false := by simp; omega
                simp [f2', hit, hw0]
                by_cases f3 : (byt tx i).toNat = 48
                · have f3' : decide (((byt tx i).toNat : Int) = 48) = true := by simp; omega
                  simp [f3', hw0]
                  by_cases f4 : 1 < p.length
                  · have f4' : decide ((1 : Int) < p.length) = true := by simp; omega
                    simp [f4', hw0]
                    exact LeV.ro rfl rfl (by simp [k1])
                  · have f4' : decide ((1 : Int) < p.length) = false := by simp; omega
                    have f5' : decide ((200 : Int) ≤ valD p) = true := by simp; omega
                    simp [f4', f5', hw0]
                    exact LeV.ro rfl rfl (by simp [k1])
                · have f3' : decide (((byt tx i).toNat : Int) = 48) = false := by simp; omega
                  have f5' : decide ((200 : Int) ≤ valD p) = true := by simp; omega
                  simp [f3', f5', hw0]
                  exact LeV.ro rfl rfl (by simp [k1])
        · have b3 : decide (((byt tx j).toNat : Int) ≤ (57 : Int)) = false := by simp; omega
          simp [b1, e1, b2, b3, hw0]
          rcases key with ⟨k1, k2, k3, k4, k5, k6, k7⟩ | ⟨k1, k4⟩
          · have f1 : decide ((j : Int) = i) = false := by simp; omega
            have f2 : decide ((3 : Int) < p.length) = false := by simp; omega
            have hit : i < tx.size := by omega
            have f5 : decide ((200 : Int) ≤ valD p) = false := by simp; omega
            simp [f1, f2, hit, f5, hw0]
            by_cases f3 : (byt tx i).toNat = 48
            · have f4 : decide ((1 : Int) < p.length) = false := by simp; have := fun h => k6 ⟨f3, h⟩; omega
              have f3' : decide (((byt tx i).toNat : Int) = 48) = true := by simp; omega
              simp [f3', f4, f5, hw0]
              exact LeV.ro rfl rfl (by simp [k1, k2, k3])
            · have f3' : decide (((byt tx i).toNat : Int) = 48) = false := by simp; omega
              simp [f3', f5, hw0]
              exact LeV.ro rfl rfl (by simp [k1, k2, k3])
          · by_cases f1 : j = i
            · have f1' : decide ((j : Int) = i) = true := by simp; omega
              simp [f1', hw0]
              exact LeV.ro rfl rfl (by simp [k1])
            · have f1' : decide ((j : Int) = i) = false := by simp; omega
              have hit : i < tx.size := by omega
              simp [f1', hit, hw0]
              by_cases f2 : 3 < p.length
              · have f2' : decide ((3 : Int) < p.length) = true := by simp; omega
                simp [f2', hw0]
                exact LeV.ro rfl rfl (by simp [k1])
              · have f2' : decide ((3 : Int) < p.length) = false := by simp; omega
                simp [f2', hit, hw0]
                by_cases f3 : (byt tx i).toNat = 48
                · have f3' : decide (((byt tx i).toNat : Int) = 48) = true := by simp; omega
                  simp [f3', hw0]
                  by_cases f4 : 1 < p.length
                  · have f4' : decide ((1 : Int) < p.length) = true := by simp; omega
                    simp [f4', hw0]
                    exact LeV.ro rfl rfl (by simp [k1])
                  · have f4' : decide ((1 : Int) < p.length) = false := by simp; omega
                    have f5' : decide ((200 : Int) ≤ valD p) = true := by simp; omega
                    simp [f4', f5', hw0]
                    exact LeV.ro rfl rfl (by simp [k1])
                · have f3' : decide (((byt tx i).toNat : Int) = 48) = false := by simp; omega
                  have f5' : decide ((200 : Int) ≤ valD p) = true := by simp; omega
                  simp [f3', f5', hw0]
                  exact LeV.ro rfl rfl (by simp [k1])
      · have b2 : decide ((48 : Int) ≤ ((byt tx j).toNat : Int)) = false := by simp; omega
        simp [b1, e1, b2, hw0]
        rcases key with ⟨k1, k2, k3, k4, k5, k6, k7⟩ | ⟨k1, k4⟩
        · have f1 : decide ((j : Int) = i) = false := by simp; omega
          have f2 : decide ((3 : Int) < p.length) = false := by simp; omega
          have hit : i < tx.size := by omega
          have f5 : decide ((200 : Int) ≤ valD p) = false := by simp; omega
          simp [f1, f2, hit, f5, hw0]
          by_cases f3 : (byt tx i).toNat = 48
          · have f4 : decide ((1 : Int) < p.length) = false := by simp; have := fun h => k6 ⟨f3, h⟩; omega
            have f3' : decide (((byt tx i).toNat : Int) = 48) = true := by simp; omega
            simp [f3', f4, f5, hw0]
            exact LeV.ro rfl rfl (by simp [k1, k2, k3])
          · have f3' : decide (((byt tx i).toNat : Int) = 48) = false := by simp; omega
            simp [f3', f5, hw0]
            exact LeV.ro rfl rfl (by simp [k1, k2, k3])
        · by_cases f1 : j = i
          · have f1' : decide ((j : Int) = i) = true := by simp; omega
            simp [f1', hw0]
            exact LeV.ro rfl rfl (by simp [k1])
          · have f1' : decide ((j : Int) = i) = false := by simp; omega
            have hit : i < tx.size := by omega
            simp [f1', hit, hw0]
            by_cases f2 : 3 < p.length
            · have f2' : decide ((3 : Int) < p.length) = true := by simp; omega
              simp [f2', hw0]
              exact LeV.ro rfl rfl (by simp [k1])
            · have f2' : decide ((3 : Int) < p.length) = false := by simp; omega
              simp [f2', hit, hw0]
              by_cases f3 : (byt tx i).toNat = 48
              · have f3' : decide (((byt tx i).toNat : Int) = 48) = true := by simp; omega
                simp [f3', hw0]
                by_cases f4 : 1 < p.length
                · have f4' : decide ((1 : Int) < p.length) = true := by simp; omega
                  simp [f4', hw0]
                  exact LeV.ro rfl rfl (by simp [k1])
                · have f4' : decide ((1 : Int) < p.length) = false := by simp; omega
                  have f5' : decide ((200 : Int) ≤ valD p) = true := by simp; omega
                  simp [f4', f5', hw0]
                  exact LeV.ro rfl rfl (by simp [k1])
              · have f3' : decide (((byt tx i).toNat : Int) = 48) = false := by simp; omega
                have f5' : decide ((200 : Int) ≤ valD p) = true := by simp; omega
                simp [f3', f5', hw0]
                exact LeV.ro rfl rfl (by simp [k1])
    · have b1 : decide ((j : Int) < tx.size) = false := by simp; omega
      simp [e1]
      rcases key with ⟨k1, k2, k3, k4, k5, k6, k7⟩ | ⟨k1, k4⟩
      · have f1 : decide ((j : Int) = i) = false := by simp; omega
        have f2 : decide ((3 : Int) < p.length) = false := by simp; omega
        have hit : i < tx.size := by omega
        have f5 : decide ((200 : Int) ≤ valD p) = false := by simp; omega
        simp [f1, f2, hit, f5, hw0]
        by_cases f3 : (byt tx i).toNat = 48
        · have f4 : decide ((1 : Int) < p.length) = false := by simp; have := fun h => k6 ⟨f3, h⟩; omega
          have f3' : decide (((byt tx i).toNat : Int) = 48) = true := by simp; omega
          simp [f3', f4, f5, hw0]
          exact LeV.ro rfl rfl (by simp [k1, k2, k3])
        · have f3' : decide (((byt tx i).toNat : Int) = 48) = false := by simp; omega
          simp [f3', f5, hw0]
          exact LeV.ro rfl rfl (by simp [k1, k2, k3])
      · by_cases f1 : j = i
        · have f1' : decide ((j : Int) = i) = true := by simp; omega
          simp [f1', hw0]
          exact LeV.ro rfl rfl (by simp [k1])
        · have f1' : decide ((j : Int) = i) = false := by simp; omega
          have hit : i < tx.size := by omega
          simp [f1', hit, hw0]
          by_cases f2 : 3 < p.length
          · have f2' : decide ((3 : Int) < p.length) = true := by simp; omega
            simp [f2', hw0]
            exact LeV.ro rfl rfl (by simp [k1])
          · have f2' : decide ((3 : Int) < p.length) = false := by simp; omega
            simp [f2', hit, hw0]
            by_cases f3 : (byt tx i).toNat = 48
            · have f3' : decide (((byt tx i).toNat : Int) = 48) = true := by simp; omega
              simp [f3', hw0]
              by_cases f4 : 1 < p.length
              · have f4' : decide ((1 : Int) < p.length) = true := by simp; omega
                simp [f4', hw0]
                exact LeV.ro rfl rfl (by simp [k1])
              · have f4' : decide ((1 : Int) < p.length) = false := by simp; omega
                have f5' : decide ((200 : Int) ≤ valD p) = true := by simp; omega
                simp [f4', f5', hw0]
                exact LeV.ro rfl rfl (by simp [k1])
            · have f3' : decide (((byt tx i).toNat : Int) = 48) = false := by simp; omega
              have f5' : decide ((200 : Int) ≤ valD p) = true := by simp; omega
              simp [f3', f5', hw0]
              exact LeV.ro rfl rfl (by simp [k1])
theorem spec_l4Name_call {tx : ByteArray} {i : Nat} (hs : tx.size ≤ 281474976710656) (hi : i ≤ tx.size) {S : FuncId → Bool} {H : List Blk} {K : A → Dl → Prop} (hS : S 54 = false) (hK : K (.tup [i6 (if nmOk tx i = true then figV 3 (dgRun tx i) else 0), i6 (if nmOk tx i = true then (dEnd tx i : Int) else 0), .bool (nmOk tx i)]) (.news [])) : @WCall' Go.Proofs.Tryz.prog S 54 [.str tx, i6 i] H ⟨K⟩ :=
  WCall_pure hS (spec_l4Name_c tx i hs hi) (by simp) (by simp) (by simp) hK
theorem spec_l4Name_k {tx : ByteArray} {i : Nat} (hs : tx.size ≤ 281474976710656) (hi : i ≤ tx.size) {S : FuncId → Bool} {H : List Blk} {K : A → Dl → Prop} {zs : List A} (hS : S 54 = false) (hv : viewL (viewA 8 H) zs = some [.str tx, i6 i]) (ho : noOwns zs = true ∨ nosl (.tup [i6 (if nmOk tx i = true then figV 3 (dgRun tx i) else 0), i6 (if nmOk tx i = true then (dEnd tx i : Int) else 0), .bool (nmOk tx i)]) = true) (hK : K (.tup [i6 (if nmOk tx i = true then figV 3 (dgRun tx i) else 0), i6 (if nmOk tx i = true then (dEnd tx i : Int) else 0), .bool (nmOk tx i)]) (.news [])) : @WCall' Go.Proofs.Tryz.prog S 54 zs H ⟨K⟩ :=
  WCall_pure hS (spec_l4Name_c tx i hs hi) hv ho (by simp) hK
/-- A sign with parts: its kind, how many signs it takes, the sign behind it. -/
def kd3 (b : Int) : Int × Int × Int := if b = 40 then (2, 1, 41) else if b = 123 then (3, 1, 125) else if b = 91 then (4, 1, 93) else if b = 35 then (5, 1, 0) else if b = 94 then (7, 1, 0) else if b = 107 then (6, 2, 41) else if b = 42 then (8, 2, 41) else (0, 0, 0)
theorem spec_l4Kind_c (tx : ByteArray) (i : Nat) (hi : i < tx.size) : T 56 [.str tx, i6 i] [] (.tup [i6 (kd3 (bt tx i)).1, i6 (kd3 (bt tx i)).2.1, .int .u8 (kd3 (bt tx i)).2.2]) ([]) := by
  refine semT' (S := S0) hm spec_l4Kind_ok (Nat.le_of_ble_eq_true rfl) ?_
  unfold spec_l4Kind; dsimp only
  simp [hi]
  repeat (any_goals (first | (refine br_intro' (fun h => ?_) (fun h => ?_) <;> (have h0 := h) <;> (try simp at h) <;> try simp [h0, h])))
  all_goals exact LeV.ro rfl rfl (by simp [kd3, *])
theorem spec_l4Kind_call {tx : ByteArray} {i : Nat} (hi : i < tx.size) {S : FuncId → Bool} {H : List Blk} {K : A → Dl → Prop} (hS : S 56 = false) (hK : K (.tup [i6 (kd3 (bt tx i)).1, i6 (kd3 (bt tx i)).2.1, .int .u8 (kd3 (bt tx i)).2.2]) (.news [])) : @WCall' Go.Proofs.Tryz.prog S 56 [.str tx, i6 i] H ⟨K⟩ :=
  WCall_pure hS (spec_l4Kind_c tx i hi) (by simp) (by simp) (by simp) hK
theorem spec_l4Kind_k {tx : ByteArray} {i : Nat} (hi : i < tx.size) {S : FuncId → Bool} {H : List Blk} {K : A → Dl → Prop} {zs : List A} (hS : S 56 = false) (hv : viewL (viewA 8 H) zs = some [.str tx, i6 i]) (ho : noOwns zs = true ∨ nosl (.tup [i6 (kd3 (bt tx i)).1, i6 (kd3 (bt tx i)).2.1, .int .u8 (kd3 (bt tx i)).2.2]) = true) (hK : K (.tup [i6 (kd3 (bt tx i)).1, i6 (kd3 (bt tx i)).2.1, .int .u8 (kd3 (bt tx i)).2.2]) (.news [])) : @WCall' Go.Proofs.Tryz.prog S 56 zs H ⟨K⟩ :=
  WCall_pure hS (spec_l4Kind_c tx i hi) hv ho (by simp) hK
end Go.Proofs.YtpohfpnlepmebaaGreatDoor.C

set_option linter.unusedVariables false
set_option linter.unusedSimpArgs false
set_option maxRecDepth 4000
namespace Go.Proofs.YtpohfpnlepmebaaGreatDoor.C
open Go.Sym Go.Proofs.YtpohfpnlepmebaaGreatDoor.I
/-- A piece of a pattern. -/
structure Pt where
  s : Int
  n : Int
  ps : List Int
def encP (p : Pt) : List A := [.int .u8 p.s, i6 p.n, if p.ps = [] then .nil else aI p.ps]
def encPs (xs : List Pt) : List A := xs.flatMap encP
theorem encP_len (p : Pt) : (encP p).length = 3 := rfl
@[simp] theorem encPs_len (xs : List Pt) : (encPs xs).length = xs.length * 3 := flat_len encP_len xs
@[simp] theorem encPs_nil : encPs [] = [] := rfl
theorem encPs_snoc (xs : List Pt) (p : Pt) : encPs (xs ++ [p]) = encPs xs ++ encP p := by simp [encPs]
abbrev plblk (s : List Pt) : Blk := ⟨s.length, decide (s.length = 0), 3, encPs s, none⟩
abbrev plref (b : Nat) (s : List Pt) : A := .ref b s.length 0 s.length
theorem impl_pattern_put_m (H : List Blk) (b l m : Nat) (cs : List A) (sg n : Int) (z : A) (hb : H[b]? = some ⟨0, false, 1, [.ref l m 0 m], none⟩) (hl : H[l]? = some ⟨m, decide (m = 0), 3, cs, none⟩) (hbl : b ≠ l) (hc : cs.length = m * 3) (hmx : m ≤ 1000000) (hcl : Closed1 H.length H = true) (hcs : inAs H.length cs = true) (hz : inA H.length z = true) (hz1 : A.one z = true) : T 44 [.ptr b 0 0, .agg [.int .u8 sg, i6 n, z]] (H) (i6 m) ((H.set l ⟨m + 1, false, 3, cs ++ [.int .u8 sg, i6 n, z], none⟩).set b ⟨0, false, 1, [.ref l (m + 1) 0 (m + 1)], none⟩) := by
  refine semT' (S := S0) hm impl_pattern_put_ok (Nat.le_of_ble_eq_true rfl) ?_
  unfold impl_pattern_put; dsimp only
  have hbL : b < H.length := (List.getElem?_eq_some_iff.1 hb).1
  have hlL : l < H.length := (List.getElem?_eq_some_iff.1 hl).1
  have gb : ∀ T : List Blk, (H ++ T)[b]? = _ := fun T => (get_left hbL).trans hb
  have gl : ∀ T : List Blk, (H ++ T)[l]? = _ := fun T => (get_left hlL).trans hl
  have sl : ∀ (T : List Blk) x, (H ++ T).set l x = H.set l x ++ T := fun T x => set_left hlL x
  have sb : ∀ (T : List Blk) x y, (H.set l x ++ T).set b y = (H.set l x).set b y ++ T := fun T x y => set_left (by simpa using hbL) y
  have gs : ∀ (T : List Blk) x, (H.set l x ++ T)[b]? = some ⟨0, false, 1, [.ref l m 0 m], none⟩ := fun T x => (get_left (by simpa using hbL)).trans ((List.getElem?_set_ne hbl.symm).trans hb)
  have g2 : ∀ (T : List Blk) x y, ((H.set l x).set b y ++ T)[b]? = some y := fun T x y => (get_left (by simpa using hbL)).trans (by simp [hbL])
  simp [gb, gl]
  refine ck_intro' ⟨hc.symm, hz1, by omega, by omega⟩ ?_; simp [gb, gl, sl, sb, gs, g2]
  repeat (refine ck_intro' (by first | omega | (simp; omega) | kernel_rfl) ?_; try simp [gb, gl, sl, sb, gs, g2])
  rw [wrap64 (show (-9223372036854775808 : Int) ≤ m by omega) (by omega)]
  exact LeV.drop (by simp) (by simp only [List.length_set]; exact Closed1_set (by simp [hlL]) _ _ (Closed1_set (by rw [inAs_app]; simp [hcs, hz]) _ _ hcl)) (by simp)
/-- What is asked of a piece. -/
structure PtOk (j : Nat) (p : Pt) : Prop where
  lt : ∀ t ∈ p.ps, 0 ≤ t ∧ t < j
  leaf : p.ps = [] → (p.s = 110 ∧ 0 ≤ p.n ∧ p.n ≤ 199) ∨ ((p.s = 36 ∨ p.s = 63) ∧ 0 ≤ p.n ∧ p.n < 26)
  join : p.ps ≠ [] → p.n = 0 ∧ (isTwoB p.s = true ∧ p.ps.length = 2 ∨ isTwoB p.s = false ∧ (inS p.s ⟨#[35, 94]⟩ = true ∨ inS p.s ⟨#[60, 62, 33]⟩ = true ∧ inS p.s ⟨#[36, 63, 120]⟩ = true) ∧ p.ps.length = 1 ∨ isTwoB p.s = false ∧ (inS p.s ⟨#[107, 42]⟩ = true ∨ inS p.s ⟨#[111, 120]⟩ = true ∧ inS p.s ⟨#[36, 63, 120]⟩ = true) ∧ p.ps.length = 2)
def PGood (s : List Pt) : Prop := ∀ (j : Nat) (h : j < s.length), PtOk j s[j]
theorem PGood.snoc {s : List Pt} {p : Pt} (h : PGood s) (hp : PtOk s.length p) : PGood (s ++ [p]) := by
  intro j hj
  rcases Nat.lt_or_ge j s.length with g | g
  · rw [List.getElem_append_left g]; exact h j g
  · have : j = s.length := by simp at hj; omega
    subst this
    simpa using hp
/-- What a sign with no parts is. -/
def lfF (tx : ByteArray) (b : Int) (i : Nat) : Int × Nat × Int := if b = 110 then ((numF tx (i + 1) i).1, (numF tx (i + 1) i).2.1.toNat, (numF tx (i + 1) i).2.2) else letF tx i
/-- The reader of a pattern. -/
def patR (tx : ByteArray) : Rdr (List Pt) where
  text := tx
  more := ⟨#[36, 63, 120]⟩
  leaf s b i := (s ++ [⟨b, (lfF tx b i).1, []⟩], s.length, (lfF tx b i).2.1, (lfF tx b i).2.2)
  join s b ts _ := (s ++ [⟨b, 0, ts⟩], s.length, 0)
theorem lfF_ok {tx : ByteArray} {b : Int} {i : Nat} (hi : i < tx.size) (h : (lfF tx b i).2.2 = 0) : i < (lfF tx b i).2.1 ∧ (lfF tx b i).2.1 ≤ tx.size ∧ 0 ≤ (lfF tx b i).1 ∧ (lfF tx b i).1 ≤ 199 ∧ (b ≠ 110 → (lfF tx b i).1 < 26) := by
  unfold lfF at h ⊢
  split
  · rename_i e
    rw [if_pos e] at h
    unfold numF at h ⊢
    split
    · rename_i g
      have h1 := dEnd_ge tx (i + 1)
      have h2 := dEnd_le (s := tx) (i := i + 1) (by omega)
      exact ⟨by simp; omega, by simpa using h2, g.1, g.2, fun hb => absurd e hb⟩
    · rename_i g
      rw [if_neg g] at h
      simp at h
  · rename_i e
    rw [if_neg e] at h
    unfold letF at h ⊢
    split
    · rename_i g
      exact ⟨by simp only; omega, by simp only; omega, by simp only; omega, by simp only; omega, fun _ => by simp only; omega⟩
    · rename_i g
      rw [if_neg g] at h
      simp at h
theorem leaf_sign {b : Int} {tx : ByteArray} (h : (patR tx).isLeaf b = true) : b = 110 ∨ b = 36 ∨ b = 63 := by
  simp only [Rdr.isLeaf, patR, Bool.or_eq_true, Bool.and_eq_true, decide_eq_true_eq, inS, bl] at h
  rcases h with h | ⟨h1, h2⟩
  · exact .inl h
  · simp at h1 h2
    omega
/-- What leaves and joints keep. -/
def patK (tx : ByteArray) : RdrOk (patR tx) where
  W s i := s.length ≤ i ∧ PGood s
  E s i s' i' := s <+: s' ∧ i ≤ i' ∧ s'.length + i ≤ s.length + i' ∧ (PGood s → PGood s')
  V s t := 0 ≤ t ∧ t < s.length
  E_step s i := ⟨List.prefix_refl _, by omega, by omega, id⟩
  E_trans h1 h2 := ⟨h1.1.trans h2.1, by have := h1.2.1; have := h2.2.1; omega, by have := h1.2.2.1; have := h2.2.2.1; omega, fun h => h2.2.2.2 (h1.2.2.2 h)⟩
  W_E h1 h2 := ⟨by have := h1.1; have := h2.2.2.1; omega, h2.2.2.2 h1.2⟩
  V_E h1 h2 := ⟨h1.1, by have := h2.1.length_le; omega⟩
  leaf_ok {s i} hW hi hL h := by
    obtain ⟨h1, h2, h3, h4, h5⟩ := lfF_ok (tx := tx) (b := bt (patR tx).text i) hi h
    refine ⟨h1, h2, ⟨List.prefix_append _ _, Nat.le_of_lt h1, ?_, fun hg => PGood.snoc hg ⟨fun t ht => (by cases ht), fun _ => ?_, fun hne => absurd rfl hne⟩⟩, ?_, ?_⟩
    · simp only [patR, List.length_append, List.length_singleton] at *; omega
    · rcases leaf_sign hL with g | g
      · exact .inl ⟨g, h3, h4⟩
      · exact .inr ⟨g, h3, h5 (by omega)⟩
    · simp only [patR]; omega
    · simp only [patR, List.length_append, List.length_singleton]; omega
  join_ok {s0 i s i' ts} hW hE hS hV h := by
    refine ⟨⟨hE.1.trans (List.prefix_append _ _), by have := hE.2.1; omega, ?_, fun hg => PGood.snoc (hE.2.2.2 hg) ⟨hV, fun e => ?_, fun hne => ⟨rfl, ?_⟩⟩⟩, ?_, ?_⟩
    · have := hE.2.2.1
      simp only [patR, List.length_append, List.length_singleton]; omega
    · exfalso
      have e' : ts = [] := e
      subst e'
      simp [Rdr.Shape] at hS
    · have h1 := hS
      simp [Rdr.Shape, Rdr.isOne, Rdr.isArg, patR] at h1
      rcases h1 with g | g | ⟨g1, _, g3⟩
      · exact .inl g
      · exact .inr (.inl g)
      · exact .inr (.inr ⟨g1, g3⟩)
    · simp only [patR]; omega
    · simp only [patR, List.length_append, List.length_singleton]; omega
end Go.Proofs.YtpohfpnlepmebaaGreatDoor.C

set_option linter.unusedVariables false
set_option linter.unusedSimpArgs false
set_option maxRecDepth 4000
namespace Go.Proofs.YtpohfpnlepmebaaGreatDoor.C
open Go.Sym Go.Proofs.YtpohfpnlepmebaaGreatDoor.I
theorem numF_nat (tx : ByteArray) (j i : Nat) : (((numF tx j i).2.1.toNat : Nat) : Int) = (numF tx j i).2.1 := by
  unfold numF
  split <;> simp
theorem encPs_inAs (n : Nat) : ∀ (xs : List Pt), inAs n (encPs xs) = true
  | [] => rfl
  | p :: xs => by
    have := encPs_inAs n xs
    simp only [encPs, List.flatMap_cons] at this ⊢
    rw [inAs_app, this]
    simp only [encP]
    split <;> simp [inAs_scals _ (ints_scals _)]
theorem Ices_app {n : Nat} {k : Blk} : ∀ {xs ys xs' ys' : List A}, Ices n k xs ys → Ices n k xs' ys' → Ices n k (xs ++ xs') (ys ++ ys')
  | [], ys, xs', ys', h, g => by
    simp only [Ices] at h
    subst h
    simpa using g
  | x :: xs, ys, xs', ys', h, g => by
    simp only [Ices] at h
    obtain ⟨y, zs, rfl, h1, h2⟩ := h
    simp only [List.cons_append, Ices]
    exact ⟨y, zs ++ ys', rfl, h1, Ices_app h2 g⟩
theorem Ices_cons {n : Nat} {k : Blk} {x y : A} {xs ys : List A} (h : Ice n k x y) (g : Ices n k xs ys) : Ices n k (x :: xs) (y :: ys) := ⟨y, ys, rfl, h, g⟩
theorem IceB_cons {n : Nat} {k a b : Blk} {as1 bs : List Blk} (h : b.v = a.v ∧ b.ro = a.ro ∧ b.esz = a.esz ∧ b.mp = a.mp ∧ Ices n k a.cs b.cs) (g : IceB n k as1 bs) : IceB n k (a :: as1) (b :: bs) := ⟨b, bs, rfl, h, g⟩
theorem Ices_nil {n : Nat} {k : Blk} : Ices n k [] [] := rfl
theorem Ices_P {n : Nat} {k : Blk} : ∀ (s : List Pt), Ices n k (encPs s) (encPs s)
  | [] => by simp [Ices]
  | p :: s => by
    have ih := Ices_P (n := n) (k := k) s
    simp only [encPs, List.flatMap_cons] at ih ⊢
    refine Ices_app ?_ ih
    simp only [encP]
    refine Ices_cons (by simp [Ice]) (Ices_cons (by simp [Ice]) (Ices_cons ?_ Ices_nil))
    split <;> simp [Ice, inAs_scals _ (ints_scals _)]
abbrev pHs (tx : ByteArray) (s : List Pt) (i c : Int) : List Blk :=
  [⟨0, false, 1, [plref 3 s], none⟩, ⟨0, false, 1, [.ptr 0 0 0], none⟩, rrow tx ⟨#[36, 63, 120]⟩ (.fn 41 [.ptr 1 0 0]) (.fn 45 [.ptr 1 0 0]) i c, plblk s]
theorem pHs_cl (tx : ByteArray) (s : List Pt) (i c : Int) : Closed1 4 (pHs tx s i c) = true := by
  simp [encPs_inAs]
theorem patLeaf_t (tx : ByteArray) (hs : tx.size ≤ 200) (s : List Pt) (i : Nat) (b : Int) (hl : s.length ≤ i) (hi : i < tx.size) :
    T 41 [rptr 2, .int .u8 b, .ptr 1 0 0] (pHs tx s i 0) (i6 s.length) (pHs tx (s ++ [⟨b, (lfF tx b i).1, []⟩]) (lfF tx b i).2.1 (lfF tx b i).2.2) := by
  have put : ∀ (i' c' n : Int), T 44 [.ptr 0 0 0, .agg [.int .u8 b, i6 n, .nil]] (pHs tx s i' c') (i6 s.length) (pHs tx (s ++ [⟨b, n, []⟩]) i' c') := fun i' c' n => by
    have := impl_pattern_put_m (pHs tx s i' c') 0 3 s.length (encPs s) b n .nil rfl rfl (by decide) (by simp) (by omega) (pHs_cl tx s i' c') (encPs_inAs _ _) rfl rfl
    have e2 : pHs tx (s ++ [⟨b, n, []⟩]) i' c' = [⟨0, false, 1, [.ref 3 (s.length + 1) 0 (s.length + 1)], none⟩, ⟨0, false, 1, [.ptr 0 0 0], none⟩, rrow tx ⟨#[36, 63, 120]⟩ (.fn 41 [.ptr 1 0 0]) (.fn 45 [.ptr 1 0 0]) i' c', ⟨s.length + 1, false, 3, encPs s ++ [.int .u8 b, i6 n, .nil], none⟩] := by
      simp only [pHs, plref, plblk, encPs_snoc, encP]
      simp
    rw [e2]
    simpa using this
  have hw : IntKind.i64.wrap ((i : Int) + 1) = ((i + 1 : Nat) : Int) := by rw [wrap_succ (n := i) (by omega)]; rfl
  by_cases hb : b = 110
  · subst hb
    have hN := impl_reader_number_m (pHs tx s ((i + 1 : Nat) : Int) 0) 2 tx _ _ _ (i + 1) i rfl (by omega) (by omega)
    have e : lfF tx 110 i = ((numF tx (i + 1) i).1, (numF tx (i + 1) i).2.1.toNat, (numF tx (i + 1) i).2.2) := if_pos rfl
    rw [e, numF_nat]
    obtain ⟨q, eq⟩ : ∃ q, numF tx (i + 1) i = q := ⟨_, rfl⟩
    rw [eq] at hN ⊢
    refine semT' (S := fun _ => true) hm impl_patternOf_1_ok (Nat.le_of_ble_eq_true rfl) ?_
    unfold impl_patternOf_1; dsimp only
    simp
    rw [hw]
    refine all_call rfl hN (by simp) ?_; simp
    refine all_call rfl (put q.2.1 q.2.2 q.1) (by simp) ?_; simp
    exact LeV.refl _ _ _
  · have hN := impl_reader_letter_m (pHs tx s i 0) 2 tx _ _ _ i rfl (by omega) (by omega)
    have e : lfF tx b i = letF tx i := if_neg hb
    rw [e]
    obtain ⟨q, eq⟩ : ∃ q, letF tx i = q := ⟨_, rfl⟩
    rw [eq] at hN ⊢
    refine semT' (S := fun _ => true) hm impl_patternOf_1_ok (Nat.le_of_ble_eq_true rfl) ?_
    unfold impl_patternOf_1; dsimp only
    simp [hb]
    refine all_call rfl hN (by simp) ?_; simp
    refine all_call rfl (put q.2.1 q.2.2 q.1) (by simp) ?_; simp
    exact LeV.refl _ _ _
theorem patJoin_t (tx : ByteArray) (hs : tx.size ≤ 200) (s : List Pt) (i' : Nat) (c b : Int) (ts : List Int) (hl : s.length ≤ 100000) (hne : ts ≠ []) :
    ∃ G, 5 ≤ G.length ∧ T 45 [rptr 2, .int .u8 b, .ref 4 0 0 ts.length, .ptr 1 0 0] (pHs tx s i' c ++ [⟨0, false, 1, ints ts, none⟩]) (i6 s.length) G ∧
      LeV 4 (i6 s.length) G (i6 s.length) (pHs tx (s ++ [⟨b, 0, ts⟩]) i' c) := by
  refine ⟨[⟨0, false, 1, [.ref 3 (s.length + 1) 0 (s.length + 1)], none⟩, ⟨0, false, 1, [.ptr 0 0 0], none⟩, rrow tx ⟨#[36, 63, 120]⟩ (.fn 41 [.ptr 1 0 0]) (.fn 45 [.ptr 1 0 0]) i' c, ⟨s.length + 1, false, 3, encPs s ++ [.int .u8 b, i6 0, .ref 4 0 0 ts.length], none⟩] ++ [⟨0, false, 1, ints ts, none⟩], by simp, ?_, ?_⟩
  · have put := impl_pattern_put_m (pHs tx s i' c ++ [⟨0, false, 1, ints ts, none⟩]) 0 3 s.length (encPs s) b 0 (.ref 4 0 0 ts.length) rfl rfl (by decide) (by simp) (by omega) (by simp [encPs_inAs, inAs_scals _ (ints_scals _)]) (encPs_inAs _ _) (by simp) rfl
    refine semT' (S := fun _ => true) hm impl_patternOf_2_ok (Nat.le_of_ble_eq_true rfl) ?_
    unfold impl_patternOf_2; dsimp only
    simp
    refine all_call rfl put (by simp) ?_; simp
    exact LeV.refl _ _ _
  · refine LeV.ice (by simp) rfl (inAs_scals _ (ints_scals _)) ?_ (by simp [Ice])
    have e2 : pHs tx (s ++ [⟨b, 0, ts⟩]) i' c = [⟨0, false, 1, [.ref 3 (s.length + 1) 0 (s.length + 1)], none⟩, ⟨0, false, 1, [.ptr 0 0 0], none⟩, rrow tx ⟨#[36, 63, 120]⟩ (.fn 41 [.ptr 1 0 0]) (.fn 45 [.ptr 1 0 0]) i' c, ⟨s.length + 1, false, 3, encPs s ++ [.int .u8 b, i6 0, aI ts], none⟩] := by
      simp only [pHs, plref, plblk, encPs_snoc, encP, if_neg hne]
      simp
    rw [e2]
    have htk : (ints ts).take ts.length = ints ts := List.take_of_length_le (by simp)
    have hq : Ices 4 ⟨0, false, 1, ints ts, none⟩ (encPs s ++ [.int .u8 b, i6 0, .ref 4 0 0 ts.length]) (encPs s ++ [.int .u8 b, i6 0, aI ts]) := Ices_app (Ices_P s) (Ices_cons (by simp [Ice]) (Ices_cons (by simp [Ice]) (Ices_cons (by simp [Ice, htk]) Ices_nil)))
    refine IceB_cons ⟨rfl, rfl, rfl, rfl, Ices_cons (by simp [Ice]) Ices_nil⟩ (IceB_cons ⟨rfl, rfl, rfl, rfl, Ices_cons (by simp [Ice]) Ices_nil⟩ (IceB_cons ⟨rfl, rfl, rfl, rfl, Ices_cons (by simp [Ice]) (Ices_cons (by simp [Ice]) (Ices_cons (by simp [Ice]) (Ices_cons (by simp [Ice]) (Ices_cons (by simp [Ice]) (Ices_cons (by simp [Ice]) Ices_nil)))))⟩ (IceB_cons ⟨rfl, rfl, rfl, rfl, hq⟩ rfl)))
/-- The reader of a pattern, in the program. -/
def patZ (tx : ByteArray) (hs : tx.size ≤ 200) : RdrRun (patK tx) where
  Hs s i c := pHs tx s i c
  b := 2
  L := 4
  lf := 41
  jn := 45
  lc := [.ptr 1 0 0]
  jc := [.ptr 1 0 0]
  size := by show tx.size ≤ _; omega
  msize := by show ByteArray.size ⟨#[36, 63, 120]⟩ ≤ _; decide
  get _ _ _ := rfl
  set _ _ _ _ _ := rfl
  len _ _ _ := rfl
  cl s i c := pHs_cl tx s i c
  el := by kernel_rfl
  ej := by kernel_rfl
  leaf {s i} hW hi _ := patLeaf_t tx hs s i _ hW.1 hi
  join {s0 i s i' ts} hW hi hE hi' hS _ := by
    have h1 := hW.1
    have h2 := hE.2.2.1
    have h3 : i' ≤ tx.size := hi'
    exact patJoin_t tx hs s i' 0 _ ts (by omega) (by rintro rfl; simp [Rdr.Shape] at hS)
/-- The pattern that a text is, and whether it is one. -/
def patF (tx : ByteArray) : List Pt × Bool := if 200 < tx.size then ([], false) else ((allRF (patR tx) 200 []).1, decide ((allRF (patR tx) 200 []).2.2.2 = 0))
theorem all_long (H : List Blk) (b : Nat) (tx mo : ByteArray) (lf jn : A) (hk : H[b]? = some (rrow tx mo lf jn 0 0)) (h2 : 200 < tx.size) (h3 : tx.size ≤ 281474976710656) : T 46 [rptr b, i6 200] H (i6 (-1)) (H.set b (rrow tx mo lf jn 0 1)) := by
  have hf := impl_reader_fail_m H b tx mo lf jn 0 0 1 0 hk
  refine semT' (S := fun _ => true) hm impl_reader_all_ok (Nat.le_of_ble_eq_true rfl) ?_
  unfold impl_reader_all; dsimp only
  have u0 : decide ((200 : Int) < tx.size) = true := by simp; omega
  simp [hk, u0]
  refine all_call rfl hf (by simp) ?_; simp [failF]
  exact LeV.refl _ _ _
end Go.Proofs.YtpohfpnlepmebaaGreatDoor.C

set_option linter.unusedVariables false
set_option linter.unusedSimpArgs false
set_option maxRecDepth 4000
namespace Go.Proofs.YtpohfpnlepmebaaGreatDoor.C
open Go.Sym Go.Proofs.YtpohfpnlepmebaaGreatDoor.I
@[simp] theorem encPs_view (n : Nat) (H : List Blk) : ∀ (xs : List Pt), viewL (viewA (n + 2) H) (encPs xs) = some (xs.flatMap fun p => [.int .u8 p.s, i6 p.n, aI p.ps])
  | [] => rfl
  | p :: xs => by
    have ih := encPs_view n H xs
    simp only [encPs, List.flatMap_cons] at ih ⊢
    by_cases h : p.ps = []
    · simp [encP, h, ih]; rfl
    · simp [encP, h, ih]
@[simp] theorem encPs_tells (H H' : List Blk) (g : List (Option Nat)) : ∀ (xs : List Pt), Tells H H' g (encPs xs) (encPs xs)
  | [] => by simp
  | p :: xs => by
    have ih := encPs_tells H H' g xs
    simp only [encPs, List.flatMap_cons] at ih ⊢
    by_cases h : p.ps = []
    · simp [encP, h, ih, Tells, Tell]
    · simp [encP, h, ih, Tells, Tell, Tells_scals _ (ints_scals _)]
theorem impl_patternOf_c (tx : ByteArray) (hs : tx.size ≤ 281474976710656) : T 24 [.str tx] [] (.tup [.ptr 0 0 0, .bool (patF tx).2]) ([⟨0, false, 1, [plref 1 (patF tx).1], none⟩, plblk (patF tx).1]) := by
  refine semT' (S := (fun f => [46].contains f)) hm impl_patternOf_ok (Nat.le_of_ble_eq_true rfl) ?_
  unfold impl_patternOf; dsimp only
  simp
  by_cases h2 : 200 < tx.size
  · refine WCall_t' rfl [0, 1, 2] (all_long _ 2 tx _ _ _ rfl h2 hs) (by simp) (fun q hq hl => ?_) ?_
    · simp at hq hl; omega
    simp
    repeat (refine ck_intro' (by first | omega | (simp; omega) | kernel_rfl) ?_; try simp)
    rw [show patF tx = ([], false) from if_pos h2]
    exact LeV.tell [some 0, none] (by simp) (by simp) (by simp)
  · have hZ := (patZ tx (by omega)).all (s := []) (most := 200) ⟨Nat.le_refl _, fun j h => by cases h⟩
    rw [show patF tx = ((allRF (patR tx) 200 []).1, decide ((allRF (patR tx) 200 []).2.2.2 = 0)) from if_neg h2]
    obtain ⟨q, eq⟩ : ∃ q, allRF (patR tx) 200 [] = q := ⟨_, rfl⟩
    rw [eq] at hZ ⊢
    refine WCall_t' rfl [0, 1, 2] (SemT.virt (b := 0) (off := 0) (esz := 3) rfl rfl rfl rfl hZ) (by simp [patZ]) (fun q hq hl => ?_) ?_
    · simp at hq hl; omega
    simp [patZ]
    repeat (refine ck_intro' (by first | omega | (simp; omega) | kernel_rfl) ?_; try simp)
    exact LeV.tell [some 0, some 3] (by simp) (by simp) (by simp)
theorem impl_patternOf_k {tx : ByteArray} (hs : tx.size ≤ 281474976710656) {S : FuncId → Bool} {H : List Blk} {K : A → Dl → Prop} {zs : List A} (hS : S 24 = false) (hv : viewL (viewA 8 H) zs = some [.str tx]) (ho : noOwns zs = true ∨ nosl (.tup [.ptr 0 0 0, .bool (patF tx).2]) = true ∧ noslBlks ([⟨0, false, 1, [plref 1 (patF tx).1], none⟩, plblk (patF tx).1]) = true) (hK : K (shiftA H.length (.tup [.ptr 0 0 0, .bool (patF tx).2])) (.news (([⟨0, false, 1, [plref 1 (patF tx).1], none⟩, plblk (patF tx).1]).map (shiftB H.length)))) : @WCall' Go.Proofs.Tryz.prog S 24 zs H ⟨K⟩ :=
  WCall_ro' hS hv (impl_patternOf_c tx hs) rfl ho hK
end Go.Proofs.YtpohfpnlepmebaaGreatDoor.C

set_option linter.unusedVariables false
set_option linter.unusedSimpArgs false
set_option maxRecDepth 4000
namespace Go.Proofs.YtpohfpnlepmebaaGreatDoor.C
open Go.Sym Go.Proofs.YtpohfpnlepmebaaGreatDoor.I
/-- A node of a pattern. -/
structure Ln where
  k : Int
  a : Int
  b : Int
  q : Bool
def encL (n : Ln) : List A := [i6 n.k, i6 n.a, i6 n.b, .bool n.q]
def encLs (xs : List Ln) : List A := xs.flatMap encL
theorem encL_len (p : Ln) : (encL p).length = 4 := rfl
@[simp] theorem encLs_len (xs : List Ln) : (encLs xs).length = xs.length * 4 := flat_len encL_len xs
@[simp] theorem encLs_scals (xs : List Ln) : scals (encLs xs) = true := scals_flat encL (fun _ => rfl) xs
@[simp] theorem encLs_nil : encLs [] = [] := rfl
theorem encLs_snoc (xs : List Ln) (p : Ln) : encLs (xs ++ [p]) = encLs xs ++ encL p := by simp [encLs]
theorem encLs_at {ns : List Ln} {j : Nat} (h : j < ns.length) : ∃ r, (encLs ns).drop (j * 4) = i6 ns[j].k :: i6 ns[j].a :: i6 ns[j].b :: .bool ns[j].q :: r := flat_at encL_len (List.getElem?_eq_getElem h)
theorem encLs_q {ns : List Ln} {j : Nat} (h : j < ns.length) : (encLs ns)[j * 4 + 3]? = some (.bool ns[j].q) := by
  obtain ⟨r, hr⟩ := encLs_at h
  rw [← List.getElem?_drop, hr]
  rfl
abbrev nref (b : Nat) (s : List Ln) : A := .ref b s.length 0 s.length
abbrev nblk (s : List Ln) : Blk := ⟨s.length, decide (s.length = 0), 4, encLs s, none⟩
def lpF (k : Int) : Int := if k = 9 then 0 else if k = 10 then 2 else partsF k
theorem spec_l11Parts_c (n : Ln)  : T 57 [.agg [i6 n.k, i6 n.a, i6 n.b, .bool n.q]] [] (i6 (lpF n.k)) ([]) := by
  refine semT' (S := S0) hm spec_l11Parts_ok (Nat.le_of_ble_eq_true rfl) ?_
  unfold spec_l11Parts; dsimp only
  simp
  refine br_intro' (fun u => ?_) (fun u => ?_) <;> (have u0 := u) <;> simp only [decide_eq_true_eq, decide_eq_false_iff_not] at u <;> simp [u0]
  · exact LeV.ro rfl rfl (by simp [lpF, u])
  refine br_intro' (fun v => ?_) (fun v => ?_) <;> (have v0 := v) <;> simp only [decide_eq_true_eq, decide_eq_false_iff_not] at v <;> simp [v0]
  · exact LeV.ro rfl rfl (by simp [lpF, v])
  refine spec_l1Parts_call (x := n.k) rfl ?_; simp
  exact LeV.ro rfl rfl (by simp [lpF, u, v])
theorem spec_l11Parts_call {n : Ln}  {S : FuncId → Bool} {H : List Blk} {K : A → Dl → Prop} (hS : S 57 = false) (hK : K (i6 (lpF n.k)) (.news [])) : @WCall' Go.Proofs.Tryz.prog S 57 [.agg [i6 n.k, i6 n.a, i6 n.b, .bool n.q]] H ⟨K⟩ :=
  WCall_pure hS (spec_l11Parts_c n) (by simp) (by simp) (by simp) hK
theorem spec_l11Parts_k {n : Ln}  {S : FuncId → Bool} {H : List Blk} {K : A → Dl → Prop} {zs : List A} (hS : S 57 = false) (hv : viewL (viewA 8 H) zs = some [.agg [i6 n.k, i6 n.a, i6 n.b, .bool n.q]]) (ho : noOwns zs = true ∨ nosl (i6 (lpF n.k)) = true) (hK : K (i6 (lpF n.k)) (.news [])) : @WCall' Go.Proofs.Tryz.prog S 57 zs H ⟨K⟩ :=
  WCall_pure hS (spec_l11Parts_c n) hv ho (by simp) hK
def askAt (L : List Ln) (t : Int) : Bool := (L.getD t.toNat ⟨0, 0, 0, false⟩).q
/-- The kind of a piece. -/
def pkF (s : Int) : Int := if s = 36 ∨ s = 63 then 9 else if s = 110 then 1 else if s = 120 then 10 else (kd3 s).1
/-- The node that a piece is. -/
def nodeL (L : List Ln) (p : Pt) : Ln := ⟨pkF p.s, if p.ps = [] then p.n else p.ps.getD 0 0, p.ps.getD 1 0, if p.ps = [] then decide (p.s = 63) else askAt L (p.ps.getD 0 0) || (decide (1 < p.ps.length) && askAt L (p.ps.getD 1 0))⟩
def nodesL (s : List Pt) : List Ln := s.foldl (fun L p => L ++ [nodeL L p]) []
theorem nodesL_snoc (s : List Pt) (p : Pt) : nodesL (s ++ [p]) = nodesL s ++ [nodeL (nodesL s) p] := by simp [nodesL, List.foldl_append]
theorem foldL_len : ∀ (s : List Pt) (L : List Ln), (s.foldl (fun L p => L ++ [nodeL L p]) L).length = L.length + s.length
  | [], L => rfl
  | p :: s, L => by simp only [List.foldl_cons]; rw [foldL_len s]; simp; omega
@[simp] theorem nodesL_len (s : List Pt) : (nodesL s).length = s.length := by simp [nodesL, foldL_len]
end Go.Proofs.YtpohfpnlepmebaaGreatDoor.C

set_option linter.unusedVariables false
set_option linter.unusedSimpArgs false
set_option maxRecDepth 4000
namespace Go.Proofs.YtpohfpnlepmebaaGreatDoor.C
open Go.Sym Go.Proofs.YtpohfpnlepmebaaGreatDoor.I
/-- What the reference's reader answers, so far. -/
def Parses (tx : ByteArray) (n : Nat) : Prop := ∀ (s : List Pt) (i : Nat) (H : List Blk) (b : Nat), PGood s → s.length ≤ i → i ≤ tx.size → tx.size - i < n → H[b]? = some (nblk (nodesL s)) → Closed1 H.length H = true →
  ((rdF (patR tx) n s i 0).2.2.2 = 0 → T 36 [.str tx, i6 i, nref b (nodesL s)] H (.tup [nref b (nodesL (rdF (patR tx) n s i 0).1), i6 (rdF (patR tx) n s i 0).2.1, i6 (rdF (patR tx) n s i 0).2.2.1, .bool true]) (H.set b (nblk (nodesL (rdF (patR tx) n s i 0).1)))) ∧
  ((rdF (patR tx) n s i 0).2.2.2 ≠ 0 → ∃ L : List Ln, T 36 [.str tx, i6 i, nref b (nodesL s)] H (.tup [nref b L, i6 0, i6 0, .bool false]) (H.set b (nblk L)))
/-- Where two parts begin. -/
def opF (tx : ByteArray) (op : Bool) (i : Nat) : Nat × Int := if op then takeF tx i 0 40 else (i, 0)
@[simp] theorem encLs_inAs (n : Nat) (xs : List Ln) : inAs n (encLs xs) = true := inAs_scals _ (encLs_scals xs)
theorem set_cl {H : List Blk} {b : Nat} {L : List Ln} (hcl : Closed1 H.length H = true) : Closed1 (H.set b (nblk L)).length (H.set b (nblk L)) = true := by
  rw [List.length_set]
  exact Closed1_set (by simp) _ _ hcl
theorem two_t {tx : ByteArray} (hs : tx.size ≤ 200) {n : Nat} (ih : Parses tx n) {s : List Pt} {i : Nat} {H : List Blk} {b : Nat} (op : Bool) (e : Int) (hG : PGood s) (hl : s.length ≤ i) (hi : i ≤ tx.size) (hn : tx.size - i < n) (hb : H[b]? = some (nblk (nodesL s))) (hcl : Closed1 H.length H = true) :
    let Q := (patR tx).two (rdF (patR tx) n) e s (opF tx op i).1 (opF tx op i).2
    (Q.2.2.2 = 0 → ∃ a c, Q.2.1 = [a, c] ∧ T 55 [.str tx, i6 i, .bool op, .int .u8 e, nref b (nodesL s)] H (.tup [nref b (nodesL Q.1), i6 a, i6 c, i6 Q.2.2.1, .bool true]) (H.set b (nblk (nodesL Q.1)))) ∧
    (Q.2.2.2 ≠ 0 → ∃ (L : List Ln) (x y z : Int), T 55 [.str tx, i6 i, .bool op, .int .u8 e, nref b (nodesL s)] H (.tup [nref b L, i6 x, i6 y, i6 z, .bool false]) (H.set b (nblk L))) := by
  have hbl : b < H.length := (List.getElem?_eq_some_iff.1 hb).1
  have same : H.set b (nblk (nodesL s)) = H := rset_same hb
  have hsz : tx.size ≤ 281474976710656 := by omega
  have hz : ∀ {s' : List Pt} {i' : Nat} {c : Int}, c ≠ 0 → rdF (patR tx) n s' i' c = (s', -1, i', c) := fun h => rdF_bad n _ _ h
  have htx : (patR tx).text = tx := rfl
  intro Q
  have hQ : Q = (patR tx).two (rdF (patR tx) n) e s (opF tx op i).1 (opF tx op i).2 := rfl
  obtain ⟨o, eo⟩ : ∃ o, opF tx op i = o := ⟨_, rfl⟩
  rw [eo] at hQ
  have hW := spec_l4Want_c tx i 40 hsz
  have start : ∀ {r : A} {H' : List Blk}, (o.2 = 0 → T 55 [.str tx, i6 i, .bool op, .int .u8 e, nref b (nodesL s)] H r H') → True := fun _ => trivial
  by_cases ho : o.2 = 0
  case neg =>
    have hop : op = true := by
      cases op with
      | true => rfl
      | false => exfalso; apply ho; rw [← eo]; rfl
    subst hop
    have eo2 : takeF tx i 0 40 = o := eo
    have hq : Q.2.2.2 ≠ 0 := by
      intro h
      rw [hQ] at h
      simp only [Rdr.two, hz ho] at h
      have g1 := (takeF_ok h).1
      have g2 : (takeF (patR tx).text o.1 o.2 44).2 ≠ 0 := fun e => ho (takeF_ok e).1
      rw [hz g2] at g1
      exact absurd g1 g2
    refine ⟨fun h => absurd h hq, fun _ => ⟨nodesL s, 0, 0, 0, ?_⟩⟩
    rw [same]
    refine semT' (S := fun _ => true) hm spec_l11Two_ok (Nat.le_of_ble_eq_true rfl) ?_
    unfold spec_l11Two; dsimp only
    simp
    rw [eo2] at hW
    refine lift_call rfl hW (by simp) (by simp) ?_; simp [ho]
    exact LeV.refl _ _ _
  case pos =>
    have ho1 : i ≤ o.1 ∧ o.1 ≤ tx.size := by
      cases op with
      | false => rw [← eo]; exact ⟨Nat.le_refl _, hi⟩
      | true =>
        have eo2 : takeF tx i 0 40 = o := eo
        have h0 : (takeF tx i 0 40).2 = 0 := by rw [eo2]; exact ho
        obtain ⟨_, t2, t3⟩ := takeF_ok h0
        rw [eo2] at t3
        omega
    obtain ⟨a, ea⟩ : ∃ a, rdF (patR tx) n s o.1 0 = a := ⟨_, rfl⟩
    obtain ⟨t, et⟩ : ∃ t, takeF tx a.2.2.1 a.2.2.2 44 = t := ⟨_, rfl⟩
    obtain ⟨d, ed⟩ : ∃ d, rdF (patR tx) n a.1 t.1 t.2 = d := ⟨_, rfl⟩
    obtain ⟨u, eu⟩ : ∃ u, takeF tx d.2.2.1 d.2.2.2 e = u := ⟨_, rfl⟩
    have hQ2 : Q = (d.1, [a.2.1, d.2.1], u.1, u.2) := by
      rw [hQ, ho]
      simp only [Rdr.two, htx, ea, et, ed, eu]
    have chain : u.2 = 0 → a.2.2.2 = 0 ∧ t.2 = 0 ∧ d.2.2.2 = 0 := fun h => by
      rw [← eu] at h
      have d0 := (takeF_ok h).1
      have t0 : t.2 = 0 := by
        rcases Decidable.em (t.2 = 0) with g | g
        · exact g
        · rw [hz g] at ed; rw [← ed] at d0; exact absurd d0 g
      have a0 : a.2.2.2 = 0 := by rw [← et] at t0; exact (takeF_ok t0).1
      exact ⟨a0, t0, d0⟩
    have hga := (patK tx).rd_good n (s := s) (i := o.1) (c := 0) ⟨by omega, hG⟩ ho1.2 (by rw [htx]; omega)
    have hpa := ih s o.1 H b hG (by omega) ho1.2 (by omega) hb hcl
    rw [ea] at hga hpa
    rw [hQ2]
    dsimp only
    by_cases ha : a.2.2.2 = 0
    case neg =>
      obtain ⟨L, hL⟩ := hpa.2 ha
      refine ⟨fun h => absurd (chain h).1 ha, fun _ => ⟨L, 0, 0, 0, ?_⟩⟩
      refine semT' (S := fun _ => true) hm spec_l11Two_ok (Nat.le_of_ble_eq_true rfl) ?_
      unfold spec_l11Two; dsimp only
      cases op
      case' true =>
        have eo2 : takeF tx i 0 40 = o := eo
        rw [eo2] at hW
        simp
        refine lift_call rfl hW (by simp) (by simp) ?_
        simp [ho]
      case' false =>
        have eo2 : (i, (0 : Int)) = o := eo
        subst eo2
        simp
      · refine all_call rfl hL (by simp) ?_; simp
        exact LeV.refl _ _ _
      · refine all_call rfl hL (by simp) ?_; simp
        exact LeV.refl _ _ _
    obtain ⟨ga1, ga2, ga3, ga4⟩ := hga ha
    have hPa := hpa.1 ha
    rw [htx] at ga2
    have hW2 := spec_l4Want_c tx a.2.2.1 44 hsz
    rw [ha] at et
    rw [et] at hW2
    by_cases ht : t.2 = 0
    case neg =>
      refine ⟨fun h => absurd (chain h).2.1 ht, fun _ => ⟨nodesL a.1, 0, 0, 0, ?_⟩⟩
      refine semT' (S := fun _ => true) hm spec_l11Two_ok (Nat.le_of_ble_eq_true rfl) ?_
      unfold spec_l11Two; dsimp only
      cases op
      case' true =>
        have eo2 : takeF tx i 0 40 = o := eo
        rw [eo2] at hW
        simp
        refine lift_call rfl hW (by simp) (by simp) ?_
        simp [ho]
      case' false =>
        have eo2 : (i, (0 : Int)) = o := eo
        subst eo2
        simp
      · refine all_call rfl hPa (by simp) ?_; simp
        refine lift_call rfl hW2 (by simp) (by simp) ?_; simp [ht]
        exact LeV.refl _ _ _
      · refine all_call rfl hPa (by simp) ?_; simp
        refine lift_call rfl hW2 (by simp) (by simp) ?_; simp [ht]
        exact LeV.refl _ _ _
    have ht3 : t.1 = a.2.2.1 + 1 ∧ a.2.2.1 < tx.size := by
      have h0 : (takeF tx a.2.2.1 0 44).2 = 0 := by rw [et]; exact ht
      obtain ⟨_, t2, t3⟩ := takeF_ok h0
      rw [et] at t3
      exact ⟨t3, t2⟩
    obtain ⟨q1, q2, q3, q4⟩ := ga3
    have hGa := q4 hG
    have hla : a.1.length ≤ a.2.2.1 := by omega
    have hb1 : (H.set b (nblk (nodesL a.1)))[b]? = some (nblk (nodesL a.1)) := by simp [hbl]
    have hpd := ih a.1 t.1 (H.set b (nblk (nodesL a.1))) b hGa (by omega) (by omega) (by omega) hb1 (set_cl hcl)
    rw [ht] at ed
    rw [ed] at hpd
    simp only [List.set_set] at hpd
    by_cases hd : d.2.2.2 = 0
    case neg =>
      obtain ⟨L, hL⟩ := hpd.2 hd
      refine ⟨fun h => absurd (chain h).2.2 hd, fun _ => ⟨L, 0, 0, 0, ?_⟩⟩
      refine semT' (S := fun _ => true) hm spec_l11Two_ok (Nat.le_of_ble_eq_true rfl) ?_
      unfold spec_l11Two; dsimp only
      cases op
      case' true =>
        have eo2 : takeF tx i 0 40 = o := eo
        rw [eo2] at hW
        simp
        refine lift_call rfl hW (by simp) (by simp) ?_
        simp [ho]
      case' false =>
        have eo2 : (i, (0 : Int)) = o := eo
        subst eo2
        simp
      · refine all_call rfl hPa (by simp) ?_; simp
        refine lift_call rfl hW2 (by simp) (by simp) ?_; simp [ht]
        refine all_call rfl hL (by simp) ?_; simp
        exact LeV.refl _ _ _
      · refine all_call rfl hPa (by simp) ?_; simp
        refine lift_call rfl hW2 (by simp) (by simp) ?_; simp [ht]
        refine all_call rfl hL (by simp) ?_; simp
        exact LeV.refl _ _ _
    have hPd := hpd.1 hd
    have hW3 := spec_l4Want_c tx d.2.2.1 e hsz
    rw [hd] at eu
    rw [eu] at hW3
    by_cases hu : u.2 = 0
    · refine ⟨fun _ => ⟨a.2.1, d.2.1, rfl, ?_⟩, fun h => absurd hu h⟩
      refine semT' (S := fun _ => true) hm spec_l11Two_ok (Nat.le_of_ble_eq_true rfl) ?_
      unfold spec_l11Two; dsimp only
      cases op
      case' true =>
        have eo2 : takeF tx i 0 40 = o := eo
        rw [eo2] at hW
        simp
        refine lift_call rfl hW (by simp) (by simp) ?_
        simp [ho]
      case' false =>
        have eo2 : (i, (0 : Int)) = o := eo
        subst eo2
        simp
      · refine all_call rfl hPa (by simp) ?_; simp
        refine lift_call rfl hW2 (by simp) (by simp) ?_; simp [ht]
        refine all_call rfl hPd (by simp) ?_; simp
        refine lift_call rfl hW3 (by simp) (by simp) ?_; simp [hu]
        exact LeV.refl _ _ _
      · refine all_call rfl hPa (by simp) ?_; simp
        refine lift_call rfl hW2 (by simp) (by simp) ?_; simp [ht]
        refine all_call rfl hPd (by simp) ?_; simp
        refine lift_call rfl hW3 (by simp) (by simp) ?_; simp [hu]
        exact LeV.refl _ _ _
    · refine ⟨fun h => absurd h hu, fun _ => ⟨nodesL d.1, a.2.1, d.2.1, u.1, ?_⟩⟩
      refine semT' (S := fun _ => true) hm spec_l11Two_ok (Nat.le_of_ble_eq_true rfl) ?_
      unfold spec_l11Two; dsimp only
      cases op
      case' true =>
        have eo2 : takeF tx i 0 40 = o := eo
        rw [eo2] at hW
        simp
        refine lift_call rfl hW (by simp) (by simp) ?_
        simp [ho]
      case' false =>
        have eo2 : (i, (0 : Int)) = o := eo
        subst eo2
        simp
      · refine all_call rfl hPa (by simp) ?_; simp
        refine lift_call rfl hW2 (by simp) (by simp) ?_; simp [ht]
        refine all_call rfl hPd (by simp) ?_; simp
        refine lift_call rfl hW3 (by simp) (by simp) ?_; simp [hu]
        exact LeV.refl _ _ _
      · refine all_call rfl hPa (by simp) ?_; simp
        refine lift_call rfl hW2 (by simp) (by simp) ?_; simp [ht]
        refine all_call rfl hPd (by simp) ?_; simp
        refine lift_call rfl hW3 (by simp) (by simp) ?_; simp [hu]
        exact LeV.refl _ _ _
end Go.Proofs.YtpohfpnlepmebaaGreatDoor.C
