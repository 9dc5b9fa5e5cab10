/- A reader's walk. Conditions: those that each theorem names. -/
import Derived.Test.YtoegiepfcdkjaaaDoorXC1X3
import Derived.Test.YtoegiepfcdkjaaaDoorXSymVirt
set_option linter.unusedVariables false
set_option linter.unusedSimpArgs false
set_option maxRecDepth 4000
namespace Go.Proofs.YtoegiepfcdkjaaaDoor.C
open Go.Sym Go.Proofs.YtoegiepfcdkjaaaDoor.I
theorem RdrOk.two_good' {σ : Type} {R : Rdr σ} (K : RdrOk R) (n : Nat) {s : σ} {i : Nat} {e : Int} (hW : K.W s i) (hlt : i < R.text.size) (hn : R.text.size - (i + 1) < n) (h : (R.two (rdF R n) e s (i + 1) 0).2.2.2 = 0) :
    i < (R.two (rdF R n) e s (i + 1) 0).2.2.1 ∧ (R.two (rdF R n) e s (i + 1) 0).2.2.1 ≤ R.text.size ∧ K.E s (i + 1) (R.two (rdF R n) e s (i + 1) 0).1 (R.two (rdF R n) e s (i + 1) 0).2.2.1 ∧ ∀ t ∈ (R.two (rdF R n) e s (i + 1) 0).2.1, K.V (R.two (rdF R n) e s (i + 1) 0).1 t := by
  obtain ⟨h1, h2, h3, h4⟩ := K.two_good (rd := rdF R n) (fun s i c h => rdF_bad n s i h) (fun g1 g2 g3 => K.rd_good n g2 g3 (by omega)) (K.W_E hW (K.E_step s i)) (by omega) h
  exact ⟨Nat.lt_trans (show i < i + 1 by omega) h1, h2, h3, h4⟩
theorem RdrOk.arg_good {σ : Type} {R : Rdr σ} (K : RdrOk R) (n : Nat) {s : σ} {i : Nat} (hW : K.W s i) (hlt : i < R.text.size) (hn : R.text.size - (i + 1) < n) (h : (R.two (rdF R n) 41 s (takeF R.text (i + 1) 0 40).1 (takeF R.text (i + 1) 0 40).2).2.2.2 = 0) :
    i < (R.two (rdF R n) 41 s (takeF R.text (i + 1) 0 40).1 (takeF R.text (i + 1) 0 40).2).2.2.1 ∧ (R.two (rdF R n) 41 s (takeF R.text (i + 1) 0 40).1 (takeF R.text (i + 1) 0 40).2).2.2.1 ≤ R.text.size ∧ K.E s (i + 1) (R.two (rdF R n) 41 s (takeF R.text (i + 1) 0 40).1 (takeF R.text (i + 1) 0 40).2).1 (R.two (rdF R n) 41 s (takeF R.text (i + 1) 0 40).1 (takeF R.text (i + 1) 0 40).2).2.2.1 ∧ ∀ t ∈ (R.two (rdF R n) 41 s (takeF R.text (i + 1) 0 40).1 (takeF R.text (i + 1) 0 40).2).2.1, K.V (R.two (rdF R n) 41 s (takeF R.text (i + 1) 0 40).1 (takeF R.text (i + 1) 0 40).2).1 t := by
  have hW1 := K.W_E hW (K.E_step s i)
  have ht : (takeF R.text (i + 1) 0 40).2 = 0 := by
    rcases Decidable.em ((takeF R.text (i + 1) 0 40).2 = 0) with g | g
    · exact g
    · simp only [Rdr.two, rdF_bad n _ _ g] at h
      have g1 := (takeF_ok h).1
      have g2 : (takeF R.text (takeF R.text (i + 1) 0 40).1 (takeF R.text (i + 1) 0 40).2 44).2 ≠ 0 := fun e => g (takeF_ok e).1
      rw [rdF_bad n _ _ g2] at g1
      exact absurd g1 g2
  obtain ⟨_, t2, t3⟩ := takeF_ok ht
  rw [ht, t3] at h ⊢
  have hW2 := K.W_E hW1 (K.E_step s (i + 1))
  obtain ⟨h1, h2, h3, h4⟩ := K.two_good (rd := rdF R n) (fun s i c h => rdF_bad n s i h) (fun g1 g2 g3 => K.rd_good n g2 g3 (by omega)) hW2 (by omega) h
  exact ⟨Nat.lt_trans (show i < i + 1 + 1 by omega) h1, h2, K.E_trans (K.E_step _ _) h3, h4⟩
theorem lift_call {f : FuncId} {S : FuncId → Bool} {H : List Blk} {K : A → Dl → Prop} {zs : List A} {r : A} (hS : S f = true) (h : T f zs [] r []) (hx : noOwns zs = true) (hs : ∀ n, shiftA n r = r) (hK : K r (.full [] H)) : @WCall' Go.Proofs.Tryd.prog S f zs H ⟨K⟩ :=
  same_call hS (h.lift hx hs H) hK
theorem all_call {f : FuncId} {S : FuncId → Bool} {H H' : List Blk} {K : A → Dl → Prop} {zs : List A} {r : A} (hS : S f = true) (hf : T f zs H r H') (hlen : H.length ≤ H'.length) (hK : K r (.full (List.range H.length) H')) : @WCall' Go.Proofs.Tryd.prog S f zs H ⟨K⟩ :=
  WCall_t' hS (List.range H.length) hf hlen (fun q hq hl => absurd (List.mem_range.2 hl) hq) hK
structure RdrRun {σ : Type} {R : Rdr σ} (K : RdrOk R) where
  Hs : σ → Int → Int → List Blk
  b : Nat
  L : Nat
  lf : FuncId
  jn : FuncId
  lc : List A
  jc : List A
  size : R.text.size ≤ 281474976710656
  msize : R.more.size ≤ 281474976710656
  get : ∀ s i c, (Hs s i c)[b]? = some (rrow R.text R.more (.fn lf lc) (.fn jn jc) i c)
  set : ∀ s i c i' c', (Hs s i c).set b (rrow R.text R.more (.fn lf lc) (.fn jn jc) i' c') = Hs s i' c'
  len : ∀ s i c, (Hs s i c).length = L
  cl : ∀ s i c, Closed1 L (Hs s i c) = true
  el : canEnter Go.Proofs.Tryd.prog lf = true
  ej : canEnter Go.Proofs.Tryd.prog jn = true
  leaf : ∀ {s i}, K.W s i → i < R.text.size → R.isLeaf (bt R.text i) = true → T lf ([rptr b, .int .u8 (bt R.text i)] ++ lc) (Hs s i 0) (i6 (R.leaf s (bt R.text i) i).2.1) (Hs (R.leaf s (bt R.text i) i).1 (R.leaf s (bt R.text i) i).2.2.1 (R.leaf s (bt R.text i) i).2.2.2)
  join : ∀ {s0 i s i' ts}, K.W s0 i → i < R.text.size → K.E s0 (i + 1) s i' → i' ≤ R.text.size → R.Shape (bt R.text i) ts.length → (∀ t ∈ ts, K.V s t) →
    ∃ G, L + 1 ≤ G.length ∧ T jn ([rptr b, .int .u8 (bt R.text i), .ref L 0 0 ts.length] ++ jc) (Hs s i' 0 ++ [⟨0, false, 1, ints ts, none⟩]) (i6 (R.join s (bt R.text i) ts i').2.1) G ∧
      LeV L (i6 (R.join s (bt R.text i) ts i').2.1) G (i6 (R.join s (bt R.text i) ts i').2.1) (Hs (R.join s (bt R.text i) ts i').1 i' (R.join s (bt R.text i) ts i').2.2)
section
variable {σ : Type} {R : Rdr σ} {K : RdrOk R} (Z : RdrRun K)
theorem RdrRun.lt (s : σ) (i c : Int) : Z.b < Z.L := by
  rw [← Z.len s i c]
  exact (List.getElem?_eq_some_iff.1 (Z.get s i c)).1
theorem RdrRun.fail (s : σ) (i c code at_ : Int) : T 62 [rptr Z.b, i6 code, i6 at_] (Z.Hs s i c) (i6 (-1)) (Z.Hs s (failF i c code at_).1 (failF i c code at_).2) := by
  have := impl_reader_fail_m (Z.Hs s i c) Z.b _ _ _ _ i c code at_ (Z.get s i c)
  rwa [Z.set] at this
theorem RdrRun.take (s : σ) (i : Nat) (c sign : Int) : T 89 [rptr Z.b, .int .u8 sign] (Z.Hs s i c) (.tup []) (Z.Hs s (takeF R.text i c sign).1 (takeF R.text i c sign).2) := by
  have hz := Z.size
  have := impl_reader_take_m (Z.Hs s i c) Z.b _ _ _ _ i c sign (Z.get s i c) (by omega)
  rwa [Z.set] at this
theorem RdrRun.peek (s : σ) (i : Nat) (c : Int) : T 83 [rptr Z.b] (Z.Hs s i c) (.int .u8 (peekF R.text i)) (Z.Hs s i c) := impl_reader_peek_m (Z.Hs s i c) Z.b _ _ _ _ i c (Z.get s i c)
/-- What a reader's first function answers, so far. -/
def RdrRun.Reads (n : Nat) : Prop := ∀ (s : σ) (i : Nat) (c : Int), (c = 0 → K.W s i ∧ i ≤ R.text.size ∧ R.text.size - i < n) → T 65 [rptr Z.b] (Z.Hs s i c) (i6 (rdF R n s i c).2.1) (Z.Hs (rdF R n s i c).1 (rdF R n s i c).2.2.1 (rdF R n s i c).2.2.2)
theorem RdrRun.two {n : Nat} (ih : Z.Reads n) {s : σ} {i : Nat} {c e : Int} (h : c = 0 → K.W s i ∧ i ≤ R.text.size ∧ R.text.size - i < n) :
    T 87 [rptr Z.b, .int .u8 e] (Z.Hs s i c) (.ref Z.L 0 0 2) (Z.Hs (R.two (rdF R n) e s i c).1 (R.two (rdF R n) e s i c).2.2.1 (R.two (rdF R n) e s i c).2.2.2 ++ [⟨0, false, 1, ints (R.two (rdF R n) e s i c).2.1, none⟩]) := by
  have ga := fun hc : c = 0 => K.rd_good n (h hc).1 (h hc).2.1 (h hc).2.2 (c := c)
  have hA := ih s i c h
  obtain ⟨a, ea⟩ : ∃ a, rdF R n s i c = a := ⟨_, rfl⟩
  obtain ⟨t, et⟩ : ∃ t, takeF R.text a.2.2.1 a.2.2.2 44 = t := ⟨_, rfl⟩
  obtain ⟨b, eb⟩ : ∃ b, rdF R n a.1 t.1 t.2 = b := ⟨_, rfl⟩
  obtain ⟨u, eu⟩ : ∃ u, takeF R.text b.2.2.1 b.2.2.2 e = u := ⟨_, rfl⟩
  have e2 : R.two (rdF R n) e s i c = (b.1, [a.2.1, b.2.1], u.1, u.2) := by simp only [Rdr.two, ea, et, eb, eu]
  rw [ea] at hA ga
  rw [e2]
  have hB : T 65 [rptr Z.b] (Z.Hs a.1 t.1 t.2) (i6 b.2.1) (Z.Hs b.1 b.2.2.1 b.2.2.2) := by
    rw [← eb]
    refine ih _ _ _ (fun h0 => ?_)
    · rw [← et] at h0
      obtain ⟨t1, t2, t3⟩ := takeF_ok h0
      have hc : c = 0 := by
        rcases Decidable.em (c = 0) with g | g
        · exact g
        · rw [rdF_bad n s i g] at ea; rw [← ea] at t1; exact absurd t1 g
      obtain ⟨a1, a2, a3, a4⟩ := ga hc t1
      rw [← et, t3]
      have := (h hc).2.2
      exact ⟨K.W_E (h hc).1 (K.E_trans a3 (K.E_step _ _)), by omega, by omega⟩
  have hT := Z.take a.1 a.2.2.1 a.2.2.2 44
  have hU := Z.take b.1 b.2.2.1 b.2.2.2 e
  rw [et] at hT
  rw [eu] at hU
  refine semT' (S := fun _ => true) hm impl_reader_two_ok (Nat.le_of_ble_eq_true rfl) ?_
  unfold impl_reader_two; dsimp only
  simp
  refine all_call rfl hA (by simp [Z.len]) ?_; simp
  refine all_call rfl hT (by simp [Z.len]) ?_; simp
  refine all_call rfl hB (by simp [Z.len]) ?_; simp
  refine all_call rfl hU (by simp [Z.len]) ?_; simp
  exact LeV.eq (by simp [Z.len]) (by simp [ints])
/-- A reader reads. -/
theorem RdrRun.reads : ∀ n, Z.Reads n
  | 0 => fun s i c h => by
    have hc : c ≠ 0 := fun e => by have := (h e).2.2; omega
    refine semT' (S := fun _ => true) hm impl_reader_read_ok (Nat.le_of_ble_eq_true rfl) ?_
    unfold impl_reader_read; dsimp only
    simp [Z.get, hc, rdF]
    exact LeV.refl _ _ _
  | n + 1 => fun s i c h => by
    have ih := RdrRun.reads n
    have hz := Z.size
    have hmz := Z.msize
    by_cases hc : c = 0
    case neg =>
      rw [rdF_bad (n + 1) s i hc]
      refine semT' (S := fun _ => true) hm impl_reader_read_ok (Nat.le_of_ble_eq_true rfl) ?_
      unfold impl_reader_read; dsimp only
      simp [Z.get, hc]
      exact LeV.refl _ _ _
    subst hc
    obtain ⟨hW, hi, hn⟩ := h rfl
    obtain ⟨q, eq⟩ : ∃ q, rdF R (n + 1) s i 0 = q := ⟨_, rfl⟩
    rw [eq]
    refine semT' (S := fun _ => true) hm impl_reader_read_ok (Nat.le_of_ble_eq_true rfl) ?_
    unfold impl_reader_read; dsimp only
    simp [Z.get]
    refine all_call rfl (Z.peek s i 0) (by simp [Z.len]) ?_; simp [Z.get]
    repeat (refine ck_intro' (by first | omega | (simp; omega) | kernel_rfl) ?_; try simp [Z.get])
    refine br_intro' (fun u => ?_) (fun u => ?_) <;> (have u0 := u) <;> simp only [decide_eq_true_eq, decide_eq_false_iff_not] at u <;> simp [u0, u, Z.get]
    · refine all_call rfl (Z.fail s i 0 2 R.text.size) (by simp [Z.len]) ?_; simp [failF]
      have : q = (s, -1, R.text.size, 2) := by
        rw [← eq]
        simp only [rdF]
        rw [if_neg (by simp), if_pos (by omega)]
      rw [this]
      exact LeV.refl _ _ _
    have hlt : i < R.text.size := by omega
    rw [show peekF R.text i = bt R.text i from if_neg (by omega)]
    have one : ∀ {S : FuncId → Bool} {H : List Blk} {K' : A → Dl → Prop} (ss : ByteArray), ss.size ≤ 281474976710656 → S 86 = true → K' (.bool (inS (bt R.text i) ss)) (.full [] H) → @WCall' Go.Proofs.Tryd.prog S 86 [.int .u8 (bt R.text i), .str ss] H ⟨K'⟩ := fun ss hs hS hK =>
      lift_call hS (impl_isOneOf_c _ ss (by omega)) (by simp) (by simp) hK
    have hset : (Z.Hs s i 0).set Z.b ⟨0, false, 1, [.str R.text, .int .i64 (IntKind.i64.wrap ((i : Int) + 1)), i6 0, .str R.more, .fn Z.lf Z.lc, .fn Z.jn Z.jc], none⟩ = Z.Hs s ((i + 1 : Nat) : Int) 0 := by
      rw [wrap_succ (n := i) (by omega)]
      exact Z.set s i 0 ((i + 1 : Nat) : Int) 0
    have getA : ∀ (s : σ) (i c : Int) (T : List Blk), (Z.Hs s i c ++ T)[Z.b]? = some (rrow R.text R.more (.fn Z.lf Z.lc) (.fn Z.jn Z.jc) i c) := fun s i c T => (get_left (by rw [Z.len]; exact Z.lt s i c)).trans (Z.get s i c)
    by_cases hL : R.isLeaf (bt R.text i) = true
    · have hq : q = R.leaf s (bt R.text i) i := by
        rw [← eq]
        simp only [rdF]
        rw [if_neg (by simp), if_neg u, if_pos hL]
      have tail := Z.leaf hW hlt hL
      refine br_intro' (fun v => ?_) (fun v => ?_) <;> (have v0 := v) <;> simp only [decide_eq_true_eq, decide_eq_false_iff_not] at v <;> simp [v0, Z.get]
      · refine ck_intro' Z.el ?_; simp
        refine all_call rfl (by simpa using tail) (by simp [Z.len]) ?_; simp
        rw [hq]; exact LeV.refl _ _ _
      · refine one _ (by decide) rfl ?_; simp
        refine br_intro' (fun v1 => ?_) (fun v1 => ?_) <;> simp [v1, Z.get]
        · refine one _ hmz rfl ?_; simp
          refine br_intro' (fun v2 => ?_) (fun v2 => ?_) <;> simp [v2, Z.get]
          · refine ck_intro' Z.el ?_; simp
            refine all_call rfl (by simpa using tail) (by simp [Z.len]) ?_; simp
            rw [hq]; exact LeV.refl _ _ _
          · exact absurd hL (by simp [Rdr.isLeaf, v0, v1, v2])
        · exact absurd hL (by simp [Rdr.isLeaf, v0, v1])
    · have hW1 := K.W_E hW (K.E_step s i)
      refine br_intro' (fun v => ?_) (fun v => ?_) <;> (have v0 := v) <;> simp only [decide_eq_true_eq, decide_eq_false_iff_not] at v <;> simp [v0, Z.get]
      · exact absurd (show R.isLeaf (bt R.text i) = true by simp [Rdr.isLeaf, v0]) hL
      refine one _ (by decide) rfl ?_; simp
      refine br_intro' (fun v1 => ?_) (fun v1 => ?_) <;> simp [v1, Z.get]
      · refine one _ hmz rfl ?_; simp
        refine br_intro' (fun v2 => ?_) (fun v2 => ?_) <;> simp [v2, Z.get]
        · exact absurd (show R.isLeaf (bt R.text i) = true by simp [Rdr.isLeaf, v0, v1, v2]) hL
        · refine one _ (by decide) rfl ?_; simp
          by_cases hT : isTwoB (bt R.text i) = true
          · have hT' : inS (bt R.text i) ⟨#[40, 123, 91]⟩ = true := hT
            have hq : q = R.fin (bt R.text i) (R.two (rdF R n) (closeF (bt R.text i)) s (i + 1) 0) := by
              rw [← eq]
              simp only [rdF]
              rw [if_neg (by simp), if_neg u, if_neg hL, if_pos hT]
            simp [hT', Z.get]
            refine lift_call rfl (impl_closing_c _) (by simp) (by simp) ?_; simp
            rw [hset]
            have hX := Z.two ih (s := s) (i := i + 1) (c := 0) (e := closeF (bt R.text i)) (fun _ => ⟨hW1, by omega, by omega⟩)
            have hg := K.two_good' n (s := s) (i := i) (e := closeF (bt R.text i)) hW hlt (by omega)
            have hl : (R.two (rdF R n) (closeF (bt R.text i)) s (i + 1) 0).2.1.length = 2 := rfl
            have hts : R.Shape (bt R.text i) (R.two (rdF R n) (closeF (bt R.text i)) s (i + 1) 0).2.1.length := .inl ⟨hT, rfl⟩
            obtain ⟨p, ep⟩ : ∃ p, R.two (rdF R n) (closeF (bt R.text i)) s (i + 1) 0 = p := ⟨_, rfl⟩
            rw [ep] at hq hX hg hts hl
            refine all_call rfl hX (by simp [Z.len]) ?_; simp
            simp [getA]
            by_cases hc : p.2.2.2 = 0
            · obtain ⟨g1, g2, g3, g4⟩ := hg hc
              obtain ⟨G, j1, j2, j3⟩ := Z.join hW hlt g3 g2 hts g4
              have hqq : q = ((R.join p.1 (bt R.text i) p.2.1 p.2.2.1).1, (R.join p.1 (bt R.text i) p.2.1 p.2.2.1).2.1, p.2.2.1, (R.join p.1 (bt R.text i) p.2.1 p.2.2.1).2.2) := by rw [hq]; unfold Rdr.fin; rw [if_pos hc]
              simp [hc, getA]
              refine ck_intro' Z.ej ?_; simp
              rw [hl] at j2
              refine all_call rfl (by simpa using j2) (by simp [Z.len]; omega) ?_; simp
              rw [hqq, Z.len]
              exact j3
            · simp [hc]
              rw [hq, show R.fin (bt R.text i) p = (p.1, -1, p.2.2.1, p.2.2.2) from if_neg hc]
              exact LeV.drop (by simp [Z.len]) (by rw [Z.len]; exact Z.cl _ _ _) (by simp)
          · have hT' : inS (bt R.text i) ⟨#[40, 123, 91]⟩ = false := by simpa [isTwoB] using hT
            simp [hT']
            refine one _ (by decide) rfl ?_; simp
            by_cases hO : R.isOne (bt R.text i) = true
            · have hq : q = R.fin (bt R.text i) (oneF (rdF R n) s (i + 1)) := by
                rw [← eq]
                simp only [rdF]
                rw [if_neg (by simp), if_neg u, if_neg hL, if_neg hT, if_pos hO]
              have hX := ih s (i + 1) 0 (fun _ => ⟨hW1, by omega, by omega⟩)
              have hg0 := K.rd_good n (s := s) (i := i + 1) (c := 0) hW1 (by omega) (by omega)
              have hg : (oneF (rdF R n) s (i + 1)).2.2.2 = 0 → i < (oneF (rdF R n) s (i + 1)).2.2.1 ∧ (oneF (rdF R n) s (i + 1)).2.2.1 ≤ R.text.size ∧ K.E s (i + 1) (oneF (rdF R n) s (i + 1)).1 (oneF (rdF R n) s (i + 1)).2.2.1 ∧ ∀ t ∈ (oneF (rdF R n) s (i + 1)).2.1, K.V (oneF (rdF R n) s (i + 1)).1 t := fun h => by
                obtain ⟨h1, h2, h3, h4⟩ := hg0 h
                refine ⟨Nat.lt_trans (show i < i + 1 by omega) h1, h2, h3, fun t ht => ?_⟩
                simp only [oneF, List.mem_cons, List.mem_nil_iff, or_false] at ht
                rw [ht]; exact h4
              have hl : (oneF (rdF R n) s (i + 1)).2.1.length = 1 := rfl
              have hts : R.Shape (bt R.text i) (oneF (rdF R n) s (i + 1)).2.1.length := .inr (.inl ⟨by simpa using hT, hO, rfl⟩)
              have hrow : ∀ (H : List Blk), H ++ [(⟨0, false, 1, [i6 (rdF R n s (i + 1) 0).2.1], none⟩ : Blk)] = H ++ [⟨0, false, 1, ints (oneF (rdF R n) s (i + 1)).2.1, none⟩] := fun H => rfl
              have hp1 : (rdF R n s (i + 1) 0).1 = (oneF (rdF R n) s (i + 1)).1 := rfl
              have hp2 : (rdF R n s (i + 1) 0).2.2.1 = (oneF (rdF R n) s (i + 1)).2.2.1 := rfl
              have hp3 : (rdF R n s (i + 1) 0).2.2.2 = (oneF (rdF R n) s (i + 1)).2.2.2 := rfl
              obtain ⟨p, ep⟩ : ∃ p, oneF (rdF R n) s (i + 1) = p := ⟨_, rfl⟩
              rw [ep] at hq hg hts hl hp1 hp2 hp3
              refine br_intro' (fun z => ?_) (fun z => ?_) <;> simp [z, Z.get]
              · rw [hset]
                refine all_call rfl hX (by simp [Z.len]) ?_; simp
                rw [hrow, ep, hp1, hp2, hp3, Z.len]
                simp [getA]
                by_cases hc : p.2.2.2 = 0
                · obtain ⟨g1, g2, g3, g4⟩ := hg hc
                  obtain ⟨G, j1, j2, j3⟩ := Z.join hW hlt g3 g2 hts g4
                  have hqq : q = ((R.join p.1 (bt R.text i) p.2.1 p.2.2.1).1, (R.join p.1 (bt R.text i) p.2.1 p.2.2.1).2.1, p.2.2.1, (R.join p.1 (bt R.text i) p.2.1 p.2.2.1).2.2) := by rw [hq]; unfold Rdr.fin; rw [if_pos hc]
                  simp [hc, getA]
                  refine ck_intro' Z.ej ?_; simp
                  rw [hl] at j2
                  refine all_call rfl (by simpa using j2) (by simp [Z.len]; omega) ?_; simp
                  rw [hqq, Z.len]
                  exact j3
                · simp [hc]
                  rw [hq, show R.fin (bt R.text i) p = (p.1, -1, p.2.2.1, p.2.2.2) from if_neg hc]
                  exact LeV.drop (by simp [Z.len]) (by rw [Z.len]; exact Z.cl _ _ _) (by simp)
              · refine one _ (by decide) rfl ?_; simp
                refine br_intro' (fun z1 => ?_) (fun z1 => ?_) <;> simp [z1, Z.get]
                · refine one _ hmz rfl ?_; simp
                  refine br_intro' (fun z2 => ?_) (fun z2 => ?_) <;> simp [z2, Z.get]
                  · rw [hset]
                    refine all_call rfl hX (by simp [Z.len]) ?_; simp
                    rw [hrow, ep, hp1, hp2, hp3, Z.len]
                    simp [getA]
                    by_cases hc : p.2.2.2 = 0
                    · obtain ⟨g1, g2, g3, g4⟩ := hg hc
                      obtain ⟨G, j1, j2, j3⟩ := Z.join hW hlt g3 g2 hts g4
                      have hqq : q = ((R.join p.1 (bt R.text i) p.2.1 p.2.2.1).1, (R.join p.1 (bt R.text i) p.2.1 p.2.2.1).2.1, p.2.2.1, (R.join p.1 (bt R.text i) p.2.1 p.2.2.1).2.2) := by rw [hq]; unfold Rdr.fin; rw [if_pos hc]
                      simp [hc, getA]
                      refine ck_intro' Z.ej ?_; simp
                      rw [hl] at j2
                      refine all_call rfl (by simpa using j2) (by simp [Z.len]; omega) ?_; simp
                      rw [hqq, Z.len]
                      exact j3
                    · simp [hc]
                      rw [hq, show R.fin (bt R.text i) p = (p.1, -1, p.2.2.1, p.2.2.2) from if_neg hc]
                      exact LeV.drop (by simp [Z.len]) (by rw [Z.len]; exact Z.cl _ _ _) (by simp)
                  · exact absurd hO (by simp [Rdr.isOne, z, z1, z2])
                · exact absurd hO (by simp [Rdr.isOne, z, z1])
            · refine br_intro' (fun z => ?_) (fun z => ?_) <;> simp [z, Z.get]
              · exact absurd (show R.isOne (bt R.text i) = true by simp [Rdr.isOne, z]) hO
              · refine one _ (by decide) rfl ?_; simp
                refine br_intro' (fun z1 => ?_) (fun z1 => ?_) <;> simp [z1, Z.get]
                · refine one _ hmz rfl ?_; simp
                  refine br_intro' (fun z2 => ?_) (fun z2 => ?_) <;> simp [z2, Z.get]
                  · exact absurd (show R.isOne (bt R.text i) = true by simp [Rdr.isOne, z, z1, z2]) hO
                  · clear z z1 z2
                    refine one _ (by decide) rfl ?_; simp
                    by_cases hA : R.isArg (bt R.text i) = true
                    · have hq : q = R.fin (bt R.text i) (R.two (rdF R n) 41 s (takeF R.text (i + 1) 0 40).1 (takeF R.text (i + 1) 0 40).2) := by
                        rw [← eq]
                        simp only [rdF]
                        rw [if_neg (by simp), if_neg u, if_neg hL, if_neg hT, if_neg hO, if_pos hA]
                      have hX := Z.two ih (s := s) (i := (takeF R.text (i + 1) 0 40).1) (c := (takeF R.text (i + 1) 0 40).2) (e := 41) (fun h0 => by
                        obtain ⟨_, t2, t3⟩ := takeF_ok h0
                        rw [t3]
                        exact ⟨K.W_E hW1 (K.E_step _ _), by omega, by omega⟩)
                      have hg := K.arg_good n (s := s) (i := i) hW hlt (by omega)
                      have hl : (R.two (rdF R n) 41 s (takeF R.text (i + 1) 0 40).1 (takeF R.text (i + 1) 0 40).2).2.1.length = 2 := rfl
                      have hts : R.Shape (bt R.text i) (R.two (rdF R n) 41 s (takeF R.text (i + 1) 0 40).1 (takeF R.text (i + 1) 0 40).2).2.1.length := .inr (.inr ⟨by simpa using hT, by simpa using hO, hA, rfl⟩)
                      have hK := Z.take s (i + 1) 0 40
                      obtain ⟨p, ep⟩ : ∃ p, R.two (rdF R n) 41 s (takeF R.text (i + 1) 0 40).1 (takeF R.text (i + 1) 0 40).2 = p := ⟨_, rfl⟩
                      rw [ep] at hq hX hg hts hl
                      refine br_intro' (fun z => ?_) (fun z => ?_) <;> simp [z, Z.get]
                      · rw [hset]
                        refine all_call rfl hK (by simp [Z.len]) ?_; simp
                        refine all_call rfl hX (by simp [Z.len]) ?_; simp
                        simp [getA]
                        by_cases hc : p.2.2.2 = 0
                        · obtain ⟨g1, g2, g3, g4⟩ := hg hc
                          obtain ⟨G, j1, j2, j3⟩ := Z.join hW hlt g3 g2 hts g4
                          have hqq : q = ((R.join p.1 (bt R.text i) p.2.1 p.2.2.1).1, (R.join p.1 (bt R.text i) p.2.1 p.2.2.1).2.1, p.2.2.1, (R.join p.1 (bt R.text i) p.2.1 p.2.2.1).2.2) := by rw [hq]; unfold Rdr.fin; rw [if_pos hc]
                          simp [hc, getA]
                          refine ck_intro' Z.ej ?_; simp
                          rw [hl] at j2
                          refine all_call rfl (by simpa using j2) (by simp [Z.len]; omega) ?_; simp
                          rw [hqq, Z.len]
                          exact j3
                        · simp [hc]
                          rw [hq, show R.fin (bt R.text i) p = (p.1, -1, p.2.2.1, p.2.2.2) from if_neg hc]
                          exact LeV.drop (by simp [Z.len]) (by rw [Z.len]; exact Z.cl _ _ _) (by simp)
                      · refine one _ (by decide) rfl ?_; simp
                        refine br_intro' (fun z1 => ?_) (fun z1 => ?_) <;> simp [z1, Z.get]
                        · refine one _ hmz rfl ?_; simp
                          refine br_intro' (fun z2 => ?_) (fun z2 => ?_) <;> simp [z2, Z.get]
                          · rw [hset]
                            refine all_call rfl hK (by simp [Z.len]) ?_; simp
                            refine all_call rfl hX (by simp [Z.len]) ?_; simp
                            simp [getA]
                            by_cases hc : p.2.2.2 = 0
                            · obtain ⟨g1, g2, g3, g4⟩ := hg hc
                              obtain ⟨G, j1, j2, j3⟩ := Z.join hW hlt g3 g2 hts g4
                              have hqq : q = ((R.join p.1 (bt R.text i) p.2.1 p.2.2.1).1, (R.join p.1 (bt R.text i) p.2.1 p.2.2.1).2.1, p.2.2.1, (R.join p.1 (bt R.text i) p.2.1 p.2.2.1).2.2) := by rw [hq]; unfold Rdr.fin; rw [if_pos hc]
                              simp [hc, getA]
                              refine ck_intro' Z.ej ?_; simp
                              rw [hl] at j2
                              refine all_call rfl (by simpa using j2) (by simp [Z.len]; omega) ?_; simp
                              rw [hqq, Z.len]
                              exact j3
                            · simp [hc]
                              rw [hq, show R.fin (bt R.text i) p = (p.1, -1, p.2.2.1, p.2.2.2) from if_neg hc]
                              exact LeV.drop (by simp [Z.len]) (by rw [Z.len]; exact Z.cl _ _ _) (by simp)
                          · exact absurd hA (by simp [Rdr.isArg, z, z1, z2])
                        · exact absurd hA (by simp [Rdr.isArg, z, z1])
                    · have hq : q = (s, -1, i, 3) := by
                        rw [← eq]
                        simp only [rdF]
                        rw [if_neg (by simp), if_neg u, if_neg hL, if_neg hT, if_neg hO, if_neg hA]
                      refine br_intro' (fun z => ?_) (fun z => ?_) <;> simp [z, Z.get]
                      · exact absurd (show R.isArg (bt R.text i) = true by simp [Rdr.isArg, z]) hA
                      · refine one _ (by decide) rfl ?_; simp
                        refine br_intro' (fun z1 => ?_) (fun z1 => ?_) <;> simp [z1, Z.get]
                        · refine one _ hmz rfl ?_; simp
                          refine br_intro' (fun z2 => ?_) (fun z2 => ?_) <;> simp [z2, Z.get]
                          · exact absurd (show R.isArg (bt R.text i) = true by simp [Rdr.isArg, z, z1, z2]) hA
                          · refine all_call rfl (Z.fail s i 0 3 i) (by simp [Z.len]) ?_; simp [failF]
                            rw [hq]
                            exact LeV.refl _ _ _
                        · refine all_call rfl (Z.fail s i 0 3 i) (by simp [Z.len]) ?_; simp [failF]
                          rw [hq]
                          exact LeV.refl _ _ _
                · clear z z1
                  refine one _ (by decide) rfl ?_; simp
                  by_cases hA : R.isArg (bt R.text i) = true
                  · have hq : q = R.fin (bt R.text i) (R.two (rdF R n) 41 s (takeF R.text (i + 1) 0 40).1 (takeF R.text (i + 1) 0 40).2) := by
                      rw [← eq]
                      simp only [rdF]
                      rw [if_neg (by simp), if_neg u, if_neg hL, if_neg hT, if_neg hO, if_pos hA]
                    have hX := Z.two ih (s := s) (i := (takeF R.text (i + 1) 0 40).1) (c := (takeF R.text (i + 1) 0 40).2) (e := 41) (fun h0 => by
                      obtain ⟨_, t2, t3⟩ := takeF_ok h0
                      rw [t3]
                      exact ⟨K.W_E hW1 (K.E_step _ _), by omega, by omega⟩)
                    have hg := K.arg_good n (s := s) (i := i) hW hlt (by omega)
                    have hl : (R.two (rdF R n) 41 s (takeF R.text (i + 1) 0 40).1 (takeF R.text (i + 1) 0 40).2).2.1.length = 2 := rfl
                    have hts : R.Shape (bt R.text i) (R.two (rdF R n) 41 s (takeF R.text (i + 1) 0 40).1 (takeF R.text (i + 1) 0 40).2).2.1.length := .inr (.inr ⟨by simpa using hT, by simpa using hO, hA, rfl⟩)
                    have hK := Z.take s (i + 1) 0 40
                    obtain ⟨p, ep⟩ : ∃ p, R.two (rdF R n) 41 s (takeF R.text (i + 1) 0 40).1 (takeF R.text (i + 1) 0 40).2 = p := ⟨_, rfl⟩
                    rw [ep] at hq hX hg hts hl
                    refine br_intro' (fun z => ?_) (fun z => ?_) <;> simp [z, Z.get]
                    · rw [hset]
                      refine all_call rfl hK (by simp [Z.len]) ?_; simp
                      refine all_call rfl hX (by simp [Z.len]) ?_; simp
                      simp [getA]
                      by_cases hc : p.2.2.2 = 0
                      · obtain ⟨g1, g2, g3, g4⟩ := hg hc
                        obtain ⟨G, j1, j2, j3⟩ := Z.join hW hlt g3 g2 hts g4
                        have hqq : q = ((R.join p.1 (bt R.text i) p.2.1 p.2.2.1).1, (R.join p.1 (bt R.text i) p.2.1 p.2.2.1).2.1, p.2.2.1, (R.join p.1 (bt R.text i) p.2.1 p.2.2.1).2.2) := by rw [hq]; unfold Rdr.fin; rw [if_pos hc]
                        simp [hc, getA]
                        refine ck_intro' Z.ej ?_; simp
                        rw [hl] at j2
                        refine all_call rfl (by simpa using j2) (by simp [Z.len]; omega) ?_; simp
                        rw [hqq, Z.len]
                        exact j3
                      · simp [hc]
                        rw [hq, show R.fin (bt R.text i) p = (p.1, -1, p.2.2.1, p.2.2.2) from if_neg hc]
                        exact LeV.drop (by simp [Z.len]) (by rw [Z.len]; exact Z.cl _ _ _) (by simp)
                    · refine one _ (by decide) rfl ?_; simp
                      refine br_intro' (fun z1 => ?_) (fun z1 => ?_) <;> simp [z1, Z.get]
                      · refine one _ hmz rfl ?_; simp
                        refine br_intro' (fun z2 => ?_) (fun z2 => ?_) <;> simp [z2, Z.get]
                        · rw [hset]
                          refine all_call rfl hK (by simp [Z.len]) ?_; simp
                          refine all_call rfl hX (by simp [Z.len]) ?_; simp
                          simp [getA]
                          by_cases hc : p.2.2.2 = 0
                          · obtain ⟨g1, g2, g3, g4⟩ := hg hc
                            obtain ⟨G, j1, j2, j3⟩ := Z.join hW hlt g3 g2 hts g4
                            have hqq : q = ((R.join p.1 (bt R.text i) p.2.1 p.2.2.1).1, (R.join p.1 (bt R.text i) p.2.1 p.2.2.1).2.1, p.2.2.1, (R.join p.1 (bt R.text i) p.2.1 p.2.2.1).2.2) := by rw [hq]; unfold Rdr.fin; rw [if_pos hc]
                            simp [hc, getA]
                            refine ck_intro' Z.ej ?_; simp
                            rw [hl] at j2
                            refine all_call rfl (by simpa using j2) (by simp [Z.len]; omega) ?_; simp
                            rw [hqq, Z.len]
                            exact j3
                          · simp [hc]
                            rw [hq, show R.fin (bt R.text i) p = (p.1, -1, p.2.2.1, p.2.2.2) from if_neg hc]
                            exact LeV.drop (by simp [Z.len]) (by rw [Z.len]; exact Z.cl _ _ _) (by simp)
                        · exact absurd hA (by simp [Rdr.isArg, z, z1, z2])
                      · exact absurd hA (by simp [Rdr.isArg, z, z1])
                  · have hq : q = (s, -1, i, 3) := by
                      rw [← eq]
                      simp only [rdF]
                      rw [if_neg (by simp), if_neg u, if_neg hL, if_neg hT, if_neg hO, if_neg hA]
                    refine br_intro' (fun z => ?_) (fun z => ?_) <;> simp [z, Z.get]
                    · exact absurd (show R.isArg (bt R.text i) = true by simp [Rdr.isArg, z]) hA
                    · refine one _ (by decide) rfl ?_; simp
                      refine br_intro' (fun z1 => ?_) (fun z1 => ?_) <;> simp [z1, Z.get]
                      · refine one _ hmz rfl ?_; simp
                        refine br_intro' (fun z2 => ?_) (fun z2 => ?_) <;> simp [z2, Z.get]
                        · exact absurd (show R.isArg (bt R.text i) = true by simp [Rdr.isArg, z, z1, z2]) hA
                        · refine all_call rfl (Z.fail s i 0 3 i) (by simp [Z.len]) ?_; simp [failF]
                          rw [hq]
                          exact LeV.refl _ _ _
                      · refine all_call rfl (Z.fail s i 0 3 i) (by simp [Z.len]) ?_; simp [failF]
                        rw [hq]
                        exact LeV.refl _ _ _
      · refine one _ (by decide) rfl ?_; simp
        by_cases hT : isTwoB (bt R.text i) = true
        · have hT' : inS (bt R.text i) ⟨#[40, 123, 91]⟩ = true := hT
          have hq : q = R.fin (bt R.text i) (R.two (rdF R n) (closeF (bt R.text i)) s (i + 1) 0) := by
            rw [← eq]
            simp only [rdF]
            rw [if_neg (by simp), if_neg u, if_neg hL, if_pos hT]
          simp [hT', Z.get]
          refine lift_call rfl (impl_closing_c _) (by simp) (by simp) ?_; simp
          rw [hset]
          have hX := Z.two ih (s := s) (i := i + 1) (c := 0) (e := closeF (bt R.text i)) (fun _ => ⟨hW1, by omega, by omega⟩)
          have hg := K.two_good' n (s := s) (i := i) (e := closeF (bt R.text i)) hW hlt (by omega)
          have hl : (R.two (rdF R n) (closeF (bt R.text i)) s (i + 1) 0).2.1.length = 2 := rfl
          have hts : R.Shape (bt R.text i) (R.two (rdF R n) (closeF (bt R.text i)) s (i + 1) 0).2.1.length := .inl ⟨hT, rfl⟩
          obtain ⟨p, ep⟩ : ∃ p, R.two (rdF R n) (closeF (bt R.text i)) s (i + 1) 0 = p := ⟨_, rfl⟩
          rw [ep] at hq hX hg hts hl
          refine all_call rfl hX (by simp [Z.len]) ?_; simp
          simp [getA]
          by_cases hc : p.2.2.2 = 0
          · obtain ⟨g1, g2, g3, g4⟩ := hg hc
            obtain ⟨G, j1, j2, j3⟩ := Z.join hW hlt g3 g2 hts g4
            have hqq : q = ((R.join p.1 (bt R.text i) p.2.1 p.2.2.1).1, (R.join p.1 (bt R.text i) p.2.1 p.2.2.1).2.1, p.2.2.1, (R.join p.1 (bt R.text i) p.2.1 p.2.2.1).2.2) := by rw [hq]; unfold Rdr.fin; rw [if_pos hc]
            simp [hc, getA]
            refine ck_intro' Z.ej ?_; simp
            rw [hl] at j2
            refine all_call rfl (by simpa using j2) (by simp [Z.len]; omega) ?_; simp
            rw [hqq, Z.len]
            exact j3
          · simp [hc]
            rw [hq, show R.fin (bt R.text i) p = (p.1, -1, p.2.2.1, p.2.2.2) from if_neg hc]
            exact LeV.drop (by simp [Z.len]) (by rw [Z.len]; exact Z.cl _ _ _) (by simp)
        · have hT' : inS (bt R.text i) ⟨#[40, 123, 91]⟩ = false := by simpa [isTwoB] using hT
          simp [hT']
          refine one _ (by decide) rfl ?_; simp
          by_cases hO : R.isOne (bt R.text i) = true
          · have hq : q = R.fin (bt R.text i) (oneF (rdF R n) s (i + 1)) := by
              rw [← eq]
              simp only [rdF]
              rw [if_neg (by simp), if_neg u, if_neg hL, if_neg hT, if_pos hO]
            have hX := ih s (i + 1) 0 (fun _ => ⟨hW1, by omega, by omega⟩)
            have hg0 := K.rd_good n (s := s) (i := i + 1) (c := 0) hW1 (by omega) (by omega)
            have hg : (oneF (rdF R n) s (i + 1)).2.2.2 = 0 → i < (oneF (rdF R n) s (i + 1)).2.2.1 ∧ (oneF (rdF R n) s (i + 1)).2.2.1 ≤ R.text.size ∧ K.E s (i + 1) (oneF (rdF R n) s (i + 1)).1 (oneF (rdF R n) s (i + 1)).2.2.1 ∧ ∀ t ∈ (oneF (rdF R n) s (i + 1)).2.1, K.V (oneF (rdF R n) s (i + 1)).1 t := fun h => by
              obtain ⟨h1, h2, h3, h4⟩ := hg0 h
              refine ⟨Nat.lt_trans (show i < i + 1 by omega) h1, h2, h3, fun t ht => ?_⟩
              simp only [oneF, List.mem_cons, List.mem_nil_iff, or_false] at ht
              rw [ht]; exact h4
            have hl : (oneF (rdF R n) s (i + 1)).2.1.length = 1 := rfl
            have hts : R.Shape (bt R.text i) (oneF (rdF R n) s (i + 1)).2.1.length := .inr (.inl ⟨by simpa using hT, hO, rfl⟩)
            have hrow : ∀ (H : List Blk), H ++ [(⟨0, false, 1, [i6 (rdF R n s (i + 1) 0).2.1], none⟩ : Blk)] = H ++ [⟨0, false, 1, ints (oneF (rdF R n) s (i + 1)).2.1, none⟩] := fun H => rfl
            have hp1 : (rdF R n s (i + 1) 0).1 = (oneF (rdF R n) s (i + 1)).1 := rfl
            have hp2 : (rdF R n s (i + 1) 0).2.2.1 = (oneF (rdF R n) s (i + 1)).2.2.1 := rfl
            have hp3 : (rdF R n s (i + 1) 0).2.2.2 = (oneF (rdF R n) s (i + 1)).2.2.2 := rfl
            obtain ⟨p, ep⟩ : ∃ p, oneF (rdF R n) s (i + 1) = p := ⟨_, rfl⟩
            rw [ep] at hq hg hts hl hp1 hp2 hp3
            refine br_intro' (fun z => ?_) (fun z => ?_) <;> simp [z, Z.get]
            · rw [hset]
              refine all_call rfl hX (by simp [Z.len]) ?_; simp
              rw [hrow, ep, hp1, hp2, hp3, Z.len]
              simp [getA]
              by_cases hc : p.2.2.2 = 0
              · obtain ⟨g1, g2, g3, g4⟩ := hg hc
                obtain ⟨G, j1, j2, j3⟩ := Z.join hW hlt g3 g2 hts g4
                have hqq : q = ((R.join p.1 (bt R.text i) p.2.1 p.2.2.1).1, (R.join p.1 (bt R.text i) p.2.1 p.2.2.1).2.1, p.2.2.1, (R.join p.1 (bt R.text i) p.2.1 p.2.2.1).2.2) := by rw [hq]; unfold Rdr.fin; rw [if_pos hc]
                simp [hc, getA]
                refine ck_intro' Z.ej ?_; simp
                rw [hl] at j2
                refine all_call rfl (by simpa using j2) (by simp [Z.len]; omega) ?_; simp
                rw [hqq, Z.len]
                exact j3
              · simp [hc]
                rw [hq, show R.fin (bt R.text i) p = (p.1, -1, p.2.2.1, p.2.2.2) from if_neg hc]
                exact LeV.drop (by simp [Z.len]) (by rw [Z.len]; exact Z.cl _ _ _) (by simp)
            · refine one _ (by decide) rfl ?_; simp
              refine br_intro' (fun z1 => ?_) (fun z1 => ?_) <;> simp [z1, Z.get]
              · refine one _ hmz rfl ?_; simp
                refine br_intro' (fun z2 => ?_) (fun z2 => ?_) <;> simp [z2, Z.get]
                · rw [hset]
                  refine all_call rfl hX (by simp [Z.len]) ?_; simp
                  rw [hrow, ep, hp1, hp2, hp3, Z.len]
                  simp [getA]
                  by_cases hc : p.2.2.2 = 0
                  · obtain ⟨g1, g2, g3, g4⟩ := hg hc
                    obtain ⟨G, j1, j2, j3⟩ := Z.join hW hlt g3 g2 hts g4
                    have hqq : q = ((R.join p.1 (bt R.text i) p.2.1 p.2.2.1).1, (R.join p.1 (bt R.text i) p.2.1 p.2.2.1).2.1, p.2.2.1, (R.join p.1 (bt R.text i) p.2.1 p.2.2.1).2.2) := by rw [hq]; unfold Rdr.fin; rw [if_pos hc]
                    simp [hc, getA]
                    refine ck_intro' Z.ej ?_; simp
                    rw [hl] at j2
                    refine all_call rfl (by simpa using j2) (by simp [Z.len]; omega) ?_; simp
                    rw [hqq, Z.len]
                    exact j3
                  · simp [hc]
                    rw [hq, show R.fin (bt R.text i) p = (p.1, -1, p.2.2.1, p.2.2.2) from if_neg hc]
                    exact LeV.drop (by simp [Z.len]) (by rw [Z.len]; exact Z.cl _ _ _) (by simp)
                · exact absurd hO (by simp [Rdr.isOne, z, z1, z2])
              · exact absurd hO (by simp [Rdr.isOne, z, z1])
          · refine br_intro' (fun z => ?_) (fun z => ?_) <;> simp [z, Z.get]
            · exact absurd (show R.isOne (bt R.text i) = true by simp [Rdr.isOne, z]) hO
            · refine one _ (by decide) rfl ?_; simp
              refine br_intro' (fun z1 => ?_) (fun z1 => ?_) <;> simp [z1, Z.get]
              · refine one _ hmz rfl ?_; simp
                refine br_intro' (fun z2 => ?_) (fun z2 => ?_) <;> simp [z2, Z.get]
                · exact absurd (show R.isOne (bt R.text i) = true by simp [Rdr.isOne, z, z1, z2]) hO
                · clear z z1 z2
                  refine one _ (by decide) rfl ?_; simp
                  by_cases hA : R.isArg (bt R.text i) = true
                  · have hq : q = R.fin (bt R.text i) (R.two (rdF R n) 41 s (takeF R.text (i + 1) 0 40).1 (takeF R.text (i + 1) 0 40).2) := by
                      rw [← eq]
                      simp only [rdF]
                      rw [if_neg (by simp), if_neg u, if_neg hL, if_neg hT, if_neg hO, if_pos hA]
                    have hX := Z.two ih (s := s) (i := (takeF R.text (i + 1) 0 40).1) (c := (takeF R.text (i + 1) 0 40).2) (e := 41) (fun h0 => by
                      obtain ⟨_, t2, t3⟩ := takeF_ok h0
                      rw [t3]
                      exact ⟨K.W_E hW1 (K.E_step _ _), by omega, by omega⟩)
                    have hg := K.arg_good n (s := s) (i := i) hW hlt (by omega)
                    have hl : (R.two (rdF R n) 41 s (takeF R.text (i + 1) 0 40).1 (takeF R.text (i + 1) 0 40).2).2.1.length = 2 := rfl
                    have hts : R.Shape (bt R.text i) (R.two (rdF R n) 41 s (takeF R.text (i + 1) 0 40).1 (takeF R.text (i + 1) 0 40).2).2.1.length := .inr (.inr ⟨by simpa using hT, by simpa using hO, hA, rfl⟩)
                    have hK := Z.take s (i + 1) 0 40
                    obtain ⟨p, ep⟩ : ∃ p, R.two (rdF R n) 41 s (takeF R.text (i + 1) 0 40).1 (takeF R.text (i + 1) 0 40).2 = p := ⟨_, rfl⟩
                    rw [ep] at hq hX hg hts hl
                    refine br_intro' (fun z => ?_) (fun z => ?_) <;> simp [z, Z.get]
                    · rw [hset]
                      refine all_call rfl hK (by simp [Z.len]) ?_; simp
                      refine all_call rfl hX (by simp [Z.len]) ?_; simp
                      simp [getA]
                      by_cases hc : p.2.2.2 = 0
                      · obtain ⟨g1, g2, g3, g4⟩ := hg hc
                        obtain ⟨G, j1, j2, j3⟩ := Z.join hW hlt g3 g2 hts g4
                        have hqq : q = ((R.join p.1 (bt R.text i) p.2.1 p.2.2.1).1, (R.join p.1 (bt R.text i) p.2.1 p.2.2.1).2.1, p.2.2.1, (R.join p.1 (bt R.text i) p.2.1 p.2.2.1).2.2) := by rw [hq]; unfold Rdr.fin; rw [if_pos hc]
                        simp [hc, getA]
                        refine ck_intro' Z.ej ?_; simp
                        rw [hl] at j2
                        refine all_call rfl (by simpa using j2) (by simp [Z.len]; omega) ?_; simp
                        rw [hqq, Z.len]
                        exact j3
                      · simp [hc]
                        rw [hq, show R.fin (bt R.text i) p = (p.1, -1, p.2.2.1, p.2.2.2) from if_neg hc]
                        exact LeV.drop (by simp [Z.len]) (by rw [Z.len]; exact Z.cl _ _ _) (by simp)
                    · refine one _ (by decide) rfl ?_; simp
                      refine br_intro' (fun z1 => ?_) (fun z1 => ?_) <;> simp [z1, Z.get]
                      · refine one _ hmz rfl ?_; simp
                        refine br_intro' (fun z2 => ?_) (fun z2 => ?_) <;> simp [z2, Z.get]
                        · rw [hset]
                          refine all_call rfl hK (by simp [Z.len]) ?_; simp
                          refine all_call rfl hX (by simp [Z.len]) ?_; simp
                          simp [getA]
                          by_cases hc : p.2.2.2 = 0
                          · obtain ⟨g1, g2, g3, g4⟩ := hg hc
                            obtain ⟨G, j1, j2, j3⟩ := Z.join hW hlt g3 g2 hts g4
                            have hqq : q = ((R.join p.1 (bt R.text i) p.2.1 p.2.2.1).1, (R.join p.1 (bt R.text i) p.2.1 p.2.2.1).2.1, p.2.2.1, (R.join p.1 (bt R.text i) p.2.1 p.2.2.1).2.2) := by rw [hq]; unfold Rdr.fin; rw [if_pos hc]
                            simp [hc, getA]
                            refine ck_intro' Z.ej ?_; simp
                            rw [hl] at j2
                            refine all_call rfl (by simpa using j2) (by simp [Z.len]; omega) ?_; simp
                            rw [hqq, Z.len]
                            exact j3
                          · simp [hc]
                            rw [hq, show R.fin (bt R.text i) p = (p.1, -1, p.2.2.1, p.2.2.2) from if_neg hc]
                            exact LeV.drop (by simp [Z.len]) (by rw [Z.len]; exact Z.cl _ _ _) (by simp)
                        · exact absurd hA (by simp [Rdr.isArg, z, z1, z2])
                      · exact absurd hA (by simp [Rdr.isArg, z, z1])
                  · have hq : q = (s, -1, i, 3) := by
                      rw [← eq]
                      simp only [rdF]
                      rw [if_neg (by simp), if_neg u, if_neg hL, if_neg hT, if_neg hO, if_neg hA]
                    refine br_intro' (fun z => ?_) (fun z => ?_) <;> simp [z, Z.get]
                    · exact absurd (show R.isArg (bt R.text i) = true by simp [Rdr.isArg, z]) hA
                    · refine one _ (by decide) rfl ?_; simp
                      refine br_intro' (fun z1 => ?_) (fun z1 => ?_) <;> simp [z1, Z.get]
                      · refine one _ hmz rfl ?_; simp
                        refine br_intro' (fun z2 => ?_) (fun z2 => ?_) <;> simp [z2, Z.get]
                        · exact absurd (show R.isArg (bt R.text i) = true by simp [Rdr.isArg, z, z1, z2]) hA
                        · refine all_call rfl (Z.fail s i 0 3 i) (by simp [Z.len]) ?_; simp [failF]
                          rw [hq]
                          exact LeV.refl _ _ _
                      · refine all_call rfl (Z.fail s i 0 3 i) (by simp [Z.len]) ?_; simp [failF]
                        rw [hq]
                        exact LeV.refl _ _ _
              · clear z z1
                refine one _ (by decide) rfl ?_; simp
                by_cases hA : R.isArg (bt R.text i) = true
                · have hq : q = R.fin (bt R.text i) (R.two (rdF R n) 41 s (takeF R.text (i + 1) 0 40).1 (takeF R.text (i + 1) 0 40).2) := by
                    rw [← eq]
                    simp only [rdF]
                    rw [if_neg (by simp), if_neg u, if_neg hL, if_neg hT, if_neg hO, if_pos hA]
                  have hX := Z.two ih (s := s) (i := (takeF R.text (i + 1) 0 40).1) (c := (takeF R.text (i + 1) 0 40).2) (e := 41) (fun h0 => by
                    obtain ⟨_, t2, t3⟩ := takeF_ok h0
                    rw [t3]
                    exact ⟨K.W_E hW1 (K.E_step _ _), by omega, by omega⟩)
                  have hg := K.arg_good n (s := s) (i := i) hW hlt (by omega)
                  have hl : (R.two (rdF R n) 41 s (takeF R.text (i + 1) 0 40).1 (takeF R.text (i + 1) 0 40).2).2.1.length = 2 := rfl
                  have hts : R.Shape (bt R.text i) (R.two (rdF R n) 41 s (takeF R.text (i + 1) 0 40).1 (takeF R.text (i + 1) 0 40).2).2.1.length := .inr (.inr ⟨by simpa using hT, by simpa using hO, hA, rfl⟩)
                  have hK := Z.take s (i + 1) 0 40
                  obtain ⟨p, ep⟩ : ∃ p, R.two (rdF R n) 41 s (takeF R.text (i + 1) 0 40).1 (takeF R.text (i + 1) 0 40).2 = p := ⟨_, rfl⟩
                  rw [ep] at hq hX hg hts hl
                  refine br_intro' (fun z => ?_) (fun z => ?_) <;> simp [z, Z.get]
                  · rw [hset]
                    refine all_call rfl hK (by simp [Z.len]) ?_; simp
                    refine all_call rfl hX (by simp [Z.len]) ?_; simp
                    simp [getA]
                    by_cases hc : p.2.2.2 = 0
                    · obtain ⟨g1, g2, g3, g4⟩ := hg hc
                      obtain ⟨G, j1, j2, j3⟩ := Z.join hW hlt g3 g2 hts g4
                      have hqq : q = ((R.join p.1 (bt R.text i) p.2.1 p.2.2.1).1, (R.join p.1 (bt R.text i) p.2.1 p.2.2.1).2.1, p.2.2.1, (R.join p.1 (bt R.text i) p.2.1 p.2.2.1).2.2) := by rw [hq]; unfold Rdr.fin; rw [if_pos hc]
                      simp [hc, getA]
                      refine ck_intro' Z.ej ?_; simp
                      rw [hl] at j2
                      refine all_call rfl (by simpa using j2) (by simp [Z.len]; omega) ?_; simp
                      rw [hqq, Z.len]
                      exact j3
                    · simp [hc]
                      rw [hq, show R.fin (bt R.text i) p = (p.1, -1, p.2.2.1, p.2.2.2) from if_neg hc]
                      exact LeV.drop (by simp [Z.len]) (by rw [Z.len]; exact Z.cl _ _ _) (by simp)
                  · refine one _ (by decide) rfl ?_; simp
                    refine br_intro' (fun z1 => ?_) (fun z1 => ?_) <;> simp [z1, Z.get]
                    · refine one _ hmz rfl ?_; simp
                      refine br_intro' (fun z2 => ?_) (fun z2 => ?_) <;> simp [z2, Z.get]
                      · rw [hset]
                        refine all_call rfl hK (by simp [Z.len]) ?_; simp
                        refine all_call rfl hX (by simp [Z.len]) ?_; simp
                        simp [getA]
                        by_cases hc : p.2.2.2 = 0
                        · obtain ⟨g1, g2, g3, g4⟩ := hg hc
                          obtain ⟨G, j1, j2, j3⟩ := Z.join hW hlt g3 g2 hts g4
                          have hqq : q = ((R.join p.1 (bt R.text i) p.2.1 p.2.2.1).1, (R.join p.1 (bt R.text i) p.2.1 p.2.2.1).2.1, p.2.2.1, (R.join p.1 (bt R.text i) p.2.1 p.2.2.1).2.2) := by rw [hq]; unfold Rdr.fin; rw [if_pos hc]
                          simp [hc, getA]
                          refine ck_intro' Z.ej ?_; simp
                          rw [hl] at j2
                          refine all_call rfl (by simpa using j2) (by simp [Z.len]; omega) ?_; simp
                          rw [hqq, Z.len]
                          exact j3
                        · simp [hc]
                          rw [hq, show R.fin (bt R.text i) p = (p.1, -1, p.2.2.1, p.2.2.2) from if_neg hc]
                          exact LeV.drop (by simp [Z.len]) (by rw [Z.len]; exact Z.cl _ _ _) (by simp)
                      · exact absurd hA (by simp [Rdr.isArg, z, z1, z2])
                    · exact absurd hA (by simp [Rdr.isArg, z, z1])
                · have hq : q = (s, -1, i, 3) := by
                    rw [← eq]
                    simp only [rdF]
                    rw [if_neg (by simp), if_neg u, if_neg hL, if_neg hT, if_neg hO, if_neg hA]
                  refine br_intro' (fun z => ?_) (fun z => ?_) <;> simp [z, Z.get]
                  · exact absurd (show R.isArg (bt R.text i) = true by simp [Rdr.isArg, z]) hA
                  · refine one _ (by decide) rfl ?_; simp
                    refine br_intro' (fun z1 => ?_) (fun z1 => ?_) <;> simp [z1, Z.get]
                    · refine one _ hmz rfl ?_; simp
                      refine br_intro' (fun z2 => ?_) (fun z2 => ?_) <;> simp [z2, Z.get]
                      · exact absurd (show R.isArg (bt R.text i) = true by simp [Rdr.isArg, z, z1, z2]) hA
                      · refine all_call rfl (Z.fail s i 0 3 i) (by simp [Z.len]) ?_; simp [failF]
                        rw [hq]
                        exact LeV.refl _ _ _
                    · refine all_call rfl (Z.fail s i 0 3 i) (by simp [Z.len]) ?_; simp [failF]
                      rw [hq]
                      exact LeV.refl _ _ _
end
end Go.Proofs.YtoegiepfcdkjaaaDoor.C

set_option linter.unusedVariables false
set_option linter.unusedSimpArgs false
set_option maxRecDepth 4000
namespace Go.Proofs.YtoegiepfcdkjaaaDoor.C
open Go.Sym Go.Proofs.YtoegiepfcdkjaaaDoor.I
/-- All of a text. -/
def allRF {σ : Type} (R : Rdr σ) (most : Int) (s : σ) : σ × Int × Nat × Int :=
  if most < R.text.size then (s, -1, 0, 1)
  else if (rdF R (R.text.size + 1) s 0 0).2.2.2 = 0 ∧ (rdF R (R.text.size + 1) s 0 0).2.2.1 < R.text.size then ((rdF R (R.text.size + 1) s 0 0).1, -1, (rdF R (R.text.size + 1) s 0 0).2.2.1, 6)
  else rdF R (R.text.size + 1) s 0 0
theorem RdrRun.all {σ : Type} {R : Rdr σ} {K : RdrOk R} (Z : RdrRun K) {s : σ} {most : Int} (hW : K.W s 0) : T 33 [rptr Z.b, i6 most] (Z.Hs s 0 0) (i6 (allRF R most s).2.1) (Z.Hs (allRF R most s).1 (allRF R most s).2.2.1 (allRF R most s).2.2.2) := by
  obtain ⟨a, ea⟩ : ∃ a, allRF R most s = a := ⟨_, rfl⟩
  have hX := Z.reads (R.text.size + 1) s 0 0 (fun _ => ⟨hW, Nat.zero_le _, by omega⟩)
  obtain ⟨p, ep⟩ : ∃ p, rdF R (R.text.size + 1) s 0 0 = p := ⟨_, rfl⟩
  have hz := Z.size
  simp only [allRF, ep] at ea
  rw [ep] at hX
  rw [show allRF R most s = a by simp only [allRF, ep]; exact ea]
  refine semT' (S := fun _ => true) hm impl_reader_all_ok (Nat.le_of_ble_eq_true rfl) ?_
  unfold impl_reader_all; dsimp only
  simp [Z.get]
  refine br_intro' (fun u => ?_) (fun u => ?_) <;> (have u0 := u) <;> simp only [decide_eq_true_eq, decide_eq_false_iff_not] at u <;> simp [u0, Z.get]
  · rw [if_pos u] at ea
    refine all_call rfl (Z.fail s 0 0 1 0) (by simp [Z.len]) ?_; simp [failF]
    rw [← ea]
    exact LeV.refl _ _ _
  rw [if_neg u] at ea
  refine all_call rfl (by simpa using hX) (by simp [Z.len]) ?_; simp [Z.get]
  by_cases hc : p.2.2.2 = 0
  · simp [hc, Z.get]
    repeat (refine ck_intro' (by first | omega | (simp; omega) | kernel_rfl) ?_; try simp [Z.get])
    refine br_intro' (fun v => ?_) (fun v => ?_) <;> (have v0 := v) <;> simp only [decide_eq_true_eq, decide_eq_false_iff_not] at v <;> simp [v0, Z.get]
    · rw [if_pos ⟨hc, by omega⟩] at ea
      refine all_call rfl (Z.fail p.1 p.2.2.1 0 6 p.2.2.1) (by simp [Z.len]) ?_; simp [failF]
      rw [← ea]
      exact LeV.refl _ _ _
    · rw [if_neg (by omega)] at ea
      rw [← ea, hc]
      exact LeV.refl _ _ _
  · simp [hc, Z.get]
    repeat (refine ck_intro' (by first | omega | (simp; omega) | kernel_rfl) ?_; try simp [Z.get])
    rw [if_neg (fun g => hc g.1)] at ea
    rw [← ea]
    exact LeV.refl _ _ _
end Go.Proofs.YtoegiepfcdkjaaaDoor.C

set_option linter.unusedVariables false
set_option linter.unusedSimpArgs false
set_option maxRecDepth 4000
namespace Go.Proofs.YtoegiepfcdkjaaaDoor.C
open Go.Sym Go.Proofs.YtoegiepfcdkjaaaDoor.I
/-- A term put into a pool, by a reader: what is wrong where it may not. -/
def fullF (p : List Nd × Int) : List Nd × Int × Int := if p.2 < 0 then (p.1, -1, 5) else (p.1, p.2, 0)
/-- A name in a reader of terms. -/
def nmF (tx : ByteArray) (s : List Nd) (i : Nat) : List Nd × Int × Nat × Int :=
  if (numF tx (i + 1) i).2.2 = 0 then ((fullF (addF s ⟨1, (numF tx (i + 1) i).1, 0⟩)).1, (fullF (addF s ⟨1, (numF tx (i + 1) i).1, 0⟩)).2.1, dEnd tx (i + 1), (fullF (addF s ⟨1, (numF tx (i + 1) i).1, 0⟩)).2.2)
  else (s, -1, i, 4)
/-- A sign with parts in a reader of terms. -/
def jnF (s : List Nd) (b : Int) (ts : List Int) : List Nd × Int × Int := fullF (addF s ⟨kindF b, ts.getD 0 0, ts.getD 1 0⟩)
def trmR (tx : ByteArray) : Rdr (List Nd) where
  text := tx
  more := ⟨#[]⟩
  leaf s _ i := nmF tx s i
  join s b ts _ := jnF s b ts
theorem addF_rng (ns : List Nd) (n : Nd) : (addF ns n).2 = -1 ∨ (0 ≤ (addF ns n).2 ∧ (addF ns n).2 < (addF ns n).1.length) := by
  unfold addF
  split
  · exact .inl rfl
  · split
    · rename_i h
      right
      refine ⟨h, ?_⟩
      simp only
      have : ∀ (xs : List Nd) (n : Nd) (i : Int), 0 ≤ i → findF xs n i = -1 ∨ (i ≤ findF xs n i ∧ findF xs n i < i + xs.length) := by
        intro xs
        induction xs with
        | nil => intro n i _; exact .inl rfl
        | cons x xs ih =>
          intro n i hi
          unfold findF
          split
          · right; simp; omega
          · rcases ih n (i + 1) (by omega) with g | g
            · exact .inl g
            · right; simp; omega
      rcases this ns (normN n) 0 (by omega) with g | g <;> omega
    · split
      · exact .inl rfl
      · right; simp; omega
theorem addF_ext (ns : List Nd) (n : Nd) : ns <+: (addF ns n).1 := by
  unfold addF
  split
  · exact List.prefix_refl _
  · split
    · exact List.prefix_refl _
    · split
      · exact List.prefix_refl _
      · exact List.prefix_append _ _
theorem fullF_ok {p : List Nd × Int} (h : (fullF p).2.2 = 0) : 0 ≤ p.2 ∧ (fullF p).1 = p.1 ∧ (fullF p).2.1 = p.2 := by
  unfold fullF at h ⊢
  split
  · rename_i g; rw [if_pos g] at h; simp at h
  · rename_i g; exact ⟨by omega, rfl, rfl⟩
theorem numF_ok {tx : ByteArray} {i : Nat} {fr : Int} (h : (numF tx i fr).2.2 = 0) : (numF tx i fr).1 = figV 9 (dgRun tx i) ∧ 0 ≤ figV 9 (dgRun tx i) ∧ figV 9 (dgRun tx i) ≤ 199 ∧ numF tx i fr = (figV 9 (dgRun tx i), (dEnd tx i : Int), 0) := by
  unfold numF at h ⊢
  split
  · rename_i g; exact ⟨rfl, g.1, g.2, rfl⟩
  · rename_i g; rw [if_neg g] at h; simp at h
/-- What a reader of terms keeps. -/
def trmK (tx : ByteArray) : RdrOk (trmR tx) where
  W s _ := poolF s = true
  E s i s' i' := s <+: s' ∧ i ≤ i' ∧ (poolF s = true → poolF s' = true)
  V s t := 0 ≤ t ∧ t < s.length
  E_step s i := ⟨List.prefix_refl _, by omega, id⟩
  E_trans h1 h2 := ⟨h1.1.trans h2.1, Nat.le_trans h1.2.1 h2.2.1, fun h => h2.2.2 (h1.2.2 h)⟩
  W_E h1 h2 := h2.2.2 h1
  V_E h1 h2 := ⟨h1.1, by have := h2.1.length_le; omega⟩
  leaf_ok {s i} hW hi hL h := by
    have hi : i < tx.size := hi
    simp only [trmR, nmF] at h ⊢
    split at h
    · rename_i g
      rw [if_pos g]
      obtain ⟨g1, g2, g3⟩ := fullF_ok h
      rw [g2, g3]
      have h1 := dEnd_ge tx (i + 1)
      have h2 := dEnd_le (s := tx) (i := i + 1) (by omega)
      refine ⟨by simp only; omega, h2, ⟨addF_ext _ _, by simp only; omega, fun h => addF_pool _ h⟩, ?_⟩
      rcases addF_rng s ⟨1, (numF tx (i + 1) i).1, 0⟩ with k | k
      · omega
      · exact k
    · simp at h
  join_ok {s0 i s i' ts} hW hE hS hV h := by
    simp only [trmR, jnF] at h ⊢
    obtain ⟨g1, g2, g3⟩ := fullF_ok h
    rw [g2, g3]
    refine ⟨⟨hE.1.trans (addF_ext _ _), Nat.le_trans (Nat.le_succ i) hE.2.1, fun h => addF_pool _ (hE.2.2 h)⟩, ?_⟩
    rcases addF_rng s ⟨kindF (bt tx i), ts.getD 0 0, ts.getD 1 0⟩ with k | k
    · omega
    · exact k
end Go.Proofs.YtoegiepfcdkjaaaDoor.C

set_option linter.unusedVariables false
set_option linter.unusedSimpArgs false
set_option maxRecDepth 4000
namespace Go.Proofs.YtoegiepfcdkjaaaDoor.C
open Go.Sym Go.Proofs.YtoegiepfcdkjaaaDoor.I
/-- A name's number at a place. -/
def nmOk (tx : ByteArray) (i : Nat) : Bool := decide (0 ≤ figV 3 (dgRun tx i)) && decide (figV 3 (dgRun tx i) < 200)
theorem numF_nm (tx : ByteArray) (i : Nat) (fr : Int) : numF tx i fr = if nmOk tx i = true then (figV 3 (dgRun tx i), (dEnd tx i : Int), 0) else (-1, fr, 4) := by
  have hd := dgRun_dg tx i
  have h1 := figV_small (most := 9) hd 3 (by omega) (by omega)
  unfold numF nmOk
  by_cases h : 0 ≤ figV 3 (dgRun tx i)
  · have e := figV_eq (most := 9) (by omega) h
    rw [e]
    by_cases h2 : figV 3 (dgRun tx i) < 200
    · rw [if_pos ⟨h, by omega⟩, if_pos (by simp [h, h2])]
    · rw [if_neg (by omega), if_neg (by simp [h2])]
  · rw [if_neg (fun g => h (h1.1 ⟨g.1, by omega⟩)), if_neg (by simp [h])]
theorem spec_l4Want_c (tx : ByteArray) (i : Nat) (b : Int) (hs : tx.size ≤ 281474976710656) : T 57 [.str tx, i6 i, .int .u8 b] [] (.tup [i6 (takeF tx i 0 b).1, i6 (takeF tx i 0 b).2]) ([]) := by
  refine semT' (S := S0) hm spec_l4Want_ok (Nat.le_of_ble_eq_true rfl) ?_
  unfold spec_l4Want; dsimp only
  simp
  refine br_intro' (fun u => ?_) (fun u => ?_) <;> (have u0 := u) <;> simp only [decide_eq_true_eq, decide_eq_false_iff_not] at u <;> simp [u0]
  · exact LeV.ro rfl rfl (by simp [takeF, u])
  have hlt : i < tx.size := by omega
  simp [hlt]
  refine br_intro' (fun v => ?_) (fun v => ?_) <;> (have v0 := v) <;> simp only [decide_eq_true_eq, decide_eq_false_iff_not] at v <;> simp [v0]
  · rw [wrap_succ (n := i) (by omega)]
    exact LeV.ro rfl rfl (by simp [takeF, u, v])
  · exact LeV.ro rfl rfl (by simp [takeF, u, v])
theorem spec_l4Want_call {tx : ByteArray} {i : Nat} {b : Int} (hs : tx.size ≤ 281474976710656) {S : FuncId → Bool} {H : List Blk} {K : A → Dl → Prop} (hS : S 57 = false) (hK : K (.tup [i6 (takeF tx i 0 b).1, i6 (takeF tx i 0 b).2]) (.news [])) : @WCall' Go.Proofs.Tryd.prog S 57 [.str tx, i6 i, .int .u8 b] H ⟨K⟩ :=
  WCall_pure hS (spec_l4Want_c tx i b hs) (by simp) (by simp) (by simp) hK
theorem spec_l4Want_k {tx : ByteArray} {i : Nat} {b : Int} (hs : tx.size ≤ 281474976710656) {S : FuncId → Bool} {H : List Blk} {K : A → Dl → Prop} {zs : List A} (hS : S 57 = false) (hv : viewL (viewA 8 H) zs = some [.str tx, i6 i, .int .u8 b]) (ho : noOwns zs = true ∨ nosl (.tup [i6 (takeF tx i 0 b).1, i6 (takeF tx i 0 b).2]) = true) (hK : K (.tup [i6 (takeF tx i 0 b).1, i6 (takeF tx i 0 b).2]) (.news [])) : @WCall' Go.Proofs.Tryd.prog S 57 zs H ⟨K⟩ :=
  WCall_pure hS (spec_l4Want_c tx i b hs) hv ho (by simp) hK
theorem spec_l4Name_c (tx : ByteArray) (i : Nat) (hs : tx.size ≤ 281474976710656) (hi : i ≤ tx.size) : T 54 [.str tx, i6 i] [] (.tup [i6 (if nmOk tx i = true then figV 3 (dgRun tx i) else 0), i6 (if nmOk tx i = true then (dEnd tx i : Int) else 0), .bool (nmOk tx i)]) ([]) := by
  refine semT' (S := S0) hm spec_l4Name_ok (Nat.le_of_ble_eq_true rfl) ?_
  unfold spec_l4Name; dsimp only
  simp
  refine WLoop_fam (fun p : List UInt8 => [(0, A.str tx), (1, i6 (((i + p.length : Nat) : Int))), (7, i6 i), (8, i6 (valD p))]) (fun _ => []) (fun p => 5 - p.length)
    (fun p => dgRun tx i = p ++ dgRun tx (i + p.length) ∧ p.length ≤ 4 ∧ i + p.length ≤ tx.size) ?_ [] ⟨by simp, by simp, by simpa using hi⟩
  intro p ⟨hr, hl4, hsz⟩ ih
  have hdp : ∀ b ∈ p, isDg b = true := fun b hb => dgRun_dg tx i b (by rw [hr]; simp [hb])
  have hv := valD_lt p hdp
  have hv4 : valD p < 10000 := Nat.lt_of_lt_of_le hv (Nat.pow_le_pow_right (by omega) hl4)
  obtain ⟨j, hj⟩ : ∃ j, i + p.length = j := ⟨_, rfl⟩
  rw [hj] at hr hsz ⊢
  have hw0 : IntKind.i64.wrap ((j : Int) - i) = p.length := by rw [wrap64 (by omega) (by omega)]; omega
  simp [hw0]
  by_cases c1 : j < tx.size ∧ isDg (byt tx j) = true ∧ p.length < 4
  · obtain ⟨c1, c2, c3⟩ := c1
    have c2' := c2
    simp only [isDg, decide_eq_true_eq] at c2'
    have d2 : (48 : Int) ≤ ((byt tx j).toNat : Int) := by omega
    have d3 : ((byt tx j).toNat : Int) ≤ (57 : Int) := by omega
    have d4 : (p.length : Int) < 4 := by omega
    have w1 : IntKind.i64.wrap (10 * (valD p : Int)) = 10 * valD p := wrap64 (by omega) (by omega)
    have w2 : IntKind.i64.wrap ((byt tx j).toNat : Int) = (byt tx j).toNat := wrap64 (by omega) (by omega)
    have w3 : IntKind.i64.wrap (10 * (valD p : Int) + (byt tx j).toNat) = 10 * valD p + (byt tx j).toNat := wrap64 (by omega) (by omega)
    have w4 : IntKind.i64.wrap (10 * (valD p : Int) + (byt tx j).toNat - 48) = valD (p ++ [byt tx j]) := by rw [wrap64 (by omega) (by omega), valD_snoc]; push_cast; omega
    have w5 := wrap_succ (n := j) (by omega)
    have b1 : decide ((j : Int) < tx.size) = true := by simp; omega
    have b2 : decide ((48 : Int) ≤ ((byt tx j).toNat : Int)) = true := by simp; omega
    have b3 : decide (((byt tx j).toNat : Int) ≤ (57 : Int)) = true := by simp; omega
    have b4 : decide ((p.length : Int) < 4) = true := by simp; omega
    simp [b1, c1, b2, b3, b4, hw0, w1, w2, w3, w4, w5]
    have hl1 : (p ++ [byt tx j]).length = p.length + 1 := by simp
    have e5 : i + (p ++ [byt tx j]).length = j + 1 := by rw [hl1]; omega
    have := ih (p ++ [byt tx j]) ⟨by rw [e5, hr, dgRun_step c1 c2]; simp, by rw [hl1]; omega, by rw [e5]; omega⟩ (by rw [hl1]; omega)
    rw [e5] at this
    exact this
  · have hE : p.length = 4 ∨ dgRun tx j = [] := by
      rcases Nat.lt_or_ge p.length 4 with g | g
      · refine .inr (dgRun_stop ?_)
        rcases Nat.lt_or_ge j tx.size with g1 | g1
        · refine .inr ?_
          cases h : isDg (byt tx j) with
          | false => rfl
          | true => exact absurd ⟨g1, h, g⟩ c1
        · exact .inl g1
      · exact .inl (by omega)
    clear ih
    have key : (nmOk tx i = true ∧ figV 3 (dgRun tx i) = valD p ∧ (dEnd tx i : Int) = j ∧ j ≠ i ∧ p.length ≤ 3 ∧ ¬ ((byt tx i).toNat = 48 ∧ 1 < p.length) ∧ valD p < 200) ∨ (nmOk tx i = false ∧ (j = i ∨ 3 < p.length ∨ ((byt tx i).toNat = 48 ∧ 1 < p.length) ∨ 200 ≤ valD p)) := by
      rcases hE with g | g
      · right
        refine ⟨?_, .inr (.inl (by omega))⟩
        have : figV 3 (dgRun tx i) = -1 := figV_neg (.inr (.inl (by rw [hr]; simp; omega)))
        simp [nmOk, this]
      · rw [g, List.append_nil] at hr
        have hde : dEnd tx i = j := by unfold dEnd; rw [hr]; omega
        by_cases f1 : j = i
        · right
          have : p = [] := List.eq_nil_of_length_eq_zero (by omega)
          refine ⟨?_, .inl f1⟩
          have : figV 3 (dgRun tx i) = -1 := figV_neg (.inl (by rw [hr, this]))
          simp [nmOk, this]
        · have hne : p ≠ [] := by intro e; rw [e] at hj; simp at hj; omega
          have hit : i < tx.size := by omega
          have hh : lead0 (dgRun tx i) = decide ((byt tx i).toNat = 48 ∧ 1 < p.length) := by
            obtain ⟨b, q, rfl⟩ : ∃ b q, p = b :: q := by cases p with | nil => exact absurd rfl hne | cons b q => exact ⟨b, q, rfl⟩
            have hb : b = byt tx i := by
              have h1 : (dgRun tx i).head? = some b := by rw [hr]; rfl
              have h2 : isDg (byt tx i) = true := by
                cases h : isDg (byt tx i) with
                | true => rfl
                | false => rw [dgRun_stop (.inr h)] at h1; cases h1
              rw [dgRun_step hit h2] at h1
              exact (Option.some.inj h1).symm
            rw [hr]
            simp only [lead0, List.head?_cons, Option.some.injEq]
            rw [hb]
            have : (byt tx i = 48) ↔ (byt tx i).toNat = 48 := by
              constructor
              · intro e; rw [e]; rfl
              · intro e; exact UInt8.toNat_inj.1 e
            simp only [this]
            rw [Bool.eq_iff_iff]
            simp
            omega
          by_cases f2 : 3 < p.length
          · right
            refine ⟨?_, .inr (.inl f2)⟩
            have : figV 3 (dgRun tx i) = -1 := figV_neg (.inr (.inl (by rw [hr]; exact f2)))
            simp [nmOk, this]
          · by_cases f3 : (byt tx i).toNat = 48 ∧ 1 < p.length
            · right
              refine ⟨?_, .inr (.inr (.inl f3))⟩
              have : figV 3 (dgRun tx i) = -1 := figV_neg (.inr (.inr (by rw [hh]; simpa using f3)))
              simp [nmOk, this]
            · have hfv : figV 3 (dgRun tx i) = valD p := by
                have := figV_pos (most := 3) (l := dgRun tx i) (by rw [hr]; exact hne) (by rw [hr]; exact f2) (by rw [hh]; exact decide_eq_false f3)
                rw [this, hr]
              by_cases f5 : 200 ≤ valD p
              · right
                exact ⟨by simp [nmOk, hfv]; omega, .inr (.inr (.inr f5))⟩
              · left
                exact ⟨by simp [nmOk, hfv]; omega, hfv, by rw [hde], f1, by omega, f3, by omega⟩
    clear hE hr hdp hv
    by_cases e1 : j < tx.size
    · have b1 : decide ((j : Int) < tx.size) = true := by simp; omega
      by_cases e2 : 48 ≤ (byt tx j).toNat
      · have b2 : decide ((48 : Int) ≤ ((byt tx j).toNat : Int)) = true := by simp; omega
        by_cases e3 : (byt tx j).toNat ≤ 57
        · have e4 : ¬ p.length < 4 := fun e4 => c1 ⟨e1, by simp [isDg]; omega, e4⟩
          have b3 : decide (((byt tx j).toNat : Int) ≤ (57 : Int)) = true := by simp; omega
          have b4 : decide ((p.length : Int) < 4) = false := by simp; omega
          simp [b1, e1, b2, b3, b4, hw0]
          rcases key with ⟨k1, k2, k3, k4, k5, k6, k7⟩ | ⟨k1, k4⟩
          · have f1 : decide ((j : Int) = i) = false := by simp; omega
            have f2 : decide ((3 : Int) < p.length) = false := by simp; omega
            have hit : i < tx.size := by omega
            have f5 : decide ((200 : Int) ≤ valD p) = false := by simp; omega
            simp [f1, f2, hit, f5, hw0]
            by_cases f3 : (byt tx i).toNat = 48
            · have f4 : decide ((1 : Int) < p.length) = false := by simp; have := fun h => k6 ⟨f3, h⟩; omega
              have f3' : decide (((byt tx i).toNat : Int) = 48) = true := by simp; omega
              simp [f3', f4, f5, hw0]
              exact LeV.ro rfl rfl (by simp [k1, k2, k3])
            · have f3' : decide (((byt tx i).toNat : Int) = 48) = false := by simp; omega
              simp [f3', f5, hw0]
              exact LeV.ro rfl rfl (by simp [k1, k2, k3])
          · by_cases f1 : j = i
            · have f1' : decide ((j : Int) = i) = true := by simp; omega
              simp [f1', hw0]
              exact LeV.ro rfl rfl (by simp [k1])
            · have f1' : decide ((j : Int) = i) = false := by simp; omega
              have hit : i < tx.size := by omega
              simp [f1', hit, hw0]
              by_cases f2 : 3 < p.length
              · have f2' : decide ((3 : Int) < p.length) = true := by simp; omega
                simp [f2', hw0]
                exact LeV.ro rfl rfl (by simp [k1])
              · have f2' : decide ((3 : Int) < p.length) = false := by simp; omega
                simp [f2', hit, hw0]
                by_cases f3 : (byt tx i).toNat = 48
                · have f3' : decide (((byt tx i).toNat : Int) = 48) = true := by simp; omega
                  simp [f3', hw0]
                  by_cases f4 : 1 < p.length
                  · have f4' : decide ((1 : Int) < p.length) = true := by simp; omega
                    simp [f4', hw0]
                    exact LeV.ro rfl rfl (by simp [k1])
                  · have f4' : decide ((1 : Int) < p.length) = false := by simp; omega
                    have f5' : decide ((200 : Int) ≤ valD p) = true := by simp; omega
                    simp [f4', f5', hw0]
                    exact LeV.ro rfl rfl (by simp [k1])
                · have f3' : decide (((byt tx i).toNat : Int) = 48) = false := by simp; omega
                  have f5' : decide ((200 : Int) ≤ valD p) = true := by simp; omega
                  simp [f3', f5', hw0]
                  exact LeV.ro rfl rfl (by simp [k1])
        · have b3 : decide (((byt tx j).toNat : Int) ≤ (57 : Int)) = false := by simp; omega
          simp [b1, e1, b2, b3, hw0]
          rcases key with ⟨k1, k2, k3, k4, k5, k6, k7⟩ | ⟨k1, k4⟩
          · have f1 : decide ((j : Int) = i) = false := by simp; omega
            have f2 : decide ((3 : Int) < p.length) = false := by simp; omega
            have hit : i < tx.size := by omega
            have f5 : decide ((200 : Int) ≤ valD p) = false := by simp; omega
            simp [f1, f2, hit, f5, hw0]
            by_cases f3 : (byt tx i).toNat = 48
            · have f4 : decide ((1 : Int) < p.length) = false := by simp; have := fun h => k6 ⟨f3, h⟩; omega
              have f3' : decide (((byt tx i).toNat : Int) = 48) = true := by simp; omega
              simp [f3', f4, f5, hw0]
              exact LeV.ro rfl rfl (by simp [k1, k2, k3])
            · have f3' : decide (((byt tx i).toNat : Int) = 48) = false := by simp; omega
              simp [f3', f5, hw0]
              exact LeV.ro rfl rfl (by simp [k1, k2, k3])
          · by_cases f1 : j = i
            · have f1' : decide ((j : Int) = i) = true := by simp; omega
              simp [f1', hw0]
              exact LeV.ro rfl rfl (by simp [k1])
            · have f1' : decide ((j : Int) = i) = false := by simp; omega
              have hit : i < tx.size := by omega
              simp [f1', hit, hw0]
              by_cases f2 : 3 < p.length
              · have f2' : decide ((3 : Int) < p.length) = true := by simp; omega
                simp [f2', hw0]
                exact LeV.ro rfl rfl (by simp [k1])
              · have f2' : decide ((3 : Int) < p.length) = false := by simp; omega
                simp [f2', hit, hw0]
                by_cases f3 : (byt tx i).toNat = 48
                · have f3' : decide (((byt tx i).toNat : Int) = 48) = true := by simp; omega
                  simp [f3', hw0]
                  by_cases f4 : 1 < p.length
                  · have f4' : decide ((1 : Int) < p.length) = true := by simp; omega
                    simp [f4', hw0]
                    exact LeV.ro rfl rfl (by simp [k1])
                  · have f4' : decide ((1 : Int) < p.length) = false := by simp; omega
                    have f5' : decide ((200 : Int) ≤ valD p) = true := by simp; omega
                    simp [f4', f5', hw0]
                    exact LeV.ro rfl rfl (by simp [k1])
                · have f3' : decide (((byt tx i).toNat : Int) = 48) = false := by simp; omega
                  have f5' : decide ((200 : Int) ≤ valD p) = true := by simp; omega
                  simp [f3', f5', hw0]
                  exact LeV.ro rfl rfl (by simp [k1])
      · have b2 : decide ((48 : Int) ≤ ((byt tx j).toNat : Int)) = false := by simp; omega
        simp [b1, e1, b2, hw0]
        rcases key with ⟨k1, k2, k3, k4, k5, k6, k7⟩ | ⟨k1, k4⟩
        · have f1 : decide ((j : Int) = i) = false := by simp; omega
          have f2 : decide ((3 : Int) < p.length) = false := by simp; omega
          have hit : i < tx.size := by omega
          have f5 : decide ((200 : Int) ≤ valD p) = false := by simp; omega
          simp [f1, f2, hit, f5, hw0]
          by_cases f3 : (byt tx i).toNat = 48
          · have f4 : decide ((1 : Int) < p.length) = false := by simp; have := fun h => k6 ⟨f3, h⟩; omega
            have f3' : decide (((byt tx i).toNat : Int) = 48) = true := by simp; omega
            simp [f3', f4, f5, hw0]
            exact LeV.ro rfl rfl (by simp [k1, k2, k3])
          · have f3' : decide (((byt tx i).toNat : Int) = 48) = false := by simp; omega
            simp [f3', f5, hw0]
            exact LeV.ro rfl rfl (by simp [k1, k2, k3])
        · by_cases f1 : j = i
          · have f1' : decide ((j : Int) = i) = true := by simp; omega
            simp [f1', hw0]
            exact LeV.ro rfl rfl (by simp [k1])
          · have f1' : decide ((j : Int) = i) = false := by simp; omega
            have hit : i < tx.size := by omega
            simp [f1', hit, hw0]
            by_cases f2 : 3 < p.length
            · have f2' : decide ((3 : Int) < p.length) = true := by simp; omega
              simp [f2', hw0]
              exact LeV.ro rfl rfl (by simp [k1])
            · have f2' : decide ((3 : Int) < p.length) = false := by simp; omega
              simp [f2', hit, hw0]
              by_cases f3 : (byt tx i).toNat = 48
              · have f3' : decide (((byt tx i).toNat : Int) = 48) = true := by simp; omega
                simp [f3', hw0]
                by_cases f4 : 1 < p.length
                · have f4' : decide ((1 : Int) < p.length) = true := by simp; omega
                  simp [f4', hw0]
                  exact LeV.ro rfl rfl (by simp [k1])
                · have f4' : decide ((1 : Int) < p.length) = false := by simp; omega
                  have f5' : decide ((200 : Int) ≤ valD p) = true := by simp; omega
                  simp [f4', f5', hw0]
                  exact LeV.ro rfl rfl (by simp [k1])
              · have f3' : decide (((byt tx i).toNat : Int) = 48) = false := by simp; omega
                have f5' : decide ((200 : Int) ≤ valD p) = true := by simp; omega
                simp [f3', f5', hw0]
                exact LeV.ro rfl rfl (by simp [k1])
    · have b1 : decide ((j : Int) < tx.size) = false := by simp; omega
      simp [e1]
      rcases key with ⟨k1, k2, k3, k4, k5, k6, k7⟩ | ⟨k1, k4⟩
      · have f1 : decide ((j : Int) = i) = false := by simp; omega
        have f2 : decide ((3 : Int) < p.length) = false := by simp; omega
        have hit : i < tx.size := by omega
        have f5 : decide ((200 : Int) ≤ valD p) = false := by simp; omega
        simp [f1, f2, hit, f5, hw0]
        by_cases f3 : (byt tx i).toNat = 48
        · have f4 : decide ((1 : Int) < p.length) = false := by simp; have := fun h => k6 ⟨f3, h⟩; omega
          have f3' : decide (((byt tx i).toNat : Int) = 48) = true := by simp; omega
          simp [f3', f4, f5, hw0]
          exact LeV.ro rfl rfl (by simp [k1, k2, k3])
        · have f3' : decide (((byt tx i).toNat : Int) = 48) = false := by simp; omega
          simp [f3', f5, hw0]
          exact LeV.ro rfl rfl (by simp [k1, k2, k3])
      · by_cases f1 : j = i
        · have f1' : decide ((j : Int) = i) = true := by simp; omega
          simp [f1', hw0]
          exact LeV.ro rfl rfl (by simp [k1])
        · have f1' : decide ((j : Int) = i) = false := by simp; omega
          have hit : i < tx.size := by omega
          simp [f1', hit, hw0]
          by_cases f2 : 3 < p.length
          · have f2' : decide ((3 : Int) < p.length) = true := by simp; omega
            simp [f2', hw0]
            exact LeV.ro rfl rfl (by simp [k1])
          · have f2' : decide ((3 : Int) < p.length) = false := by simp; omega
            simp [f2', hit, hw0]
            by_cases f3 : (byt tx i).toNat = 48
            · have f3' : decide (((byt tx i).toNat : Int) = 48) = true := by simp; omega
              simp [f3', hw0]
              by_cases f4 : 1 < p.length
              · have f4' : decide ((1 : Int) < p.length) = true := by simp; omega
                simp [f4', hw0]
                exact LeV.ro rfl rfl (by simp [k1])
              · have f4' : decide ((1 : Int) < p.length) = false := by simp; omega
                have f5' : decide ((200 : Int) ≤ valD p) = true := by simp; omega
                simp [f4', f5', hw0]
                exact LeV.ro rfl rfl (by simp [k1])
            · have f3' : decide (((byt tx i).toNat : Int) = 48) = false := by simp; omega
              have f5' : decide ((200 : Int) ≤ valD p) = true := by simp; omega
              simp [f3', f5', hw0]
              exact LeV.ro rfl rfl (by simp [k1])
theorem spec_l4Name_call {tx : ByteArray} {i : Nat} (hs : tx.size ≤ 281474976710656) (hi : i ≤ tx.size) {S : FuncId → Bool} {H : List Blk} {K : A → Dl → Prop} (hS : S 54 = false) (hK : K (.tup [i6 (if nmOk tx i = true then figV 3 (dgRun tx i) else 0), i6 (if nmOk tx i = true then (dEnd tx i : Int) else 0), .bool (nmOk tx i)]) (.news [])) : @WCall' Go.Proofs.Tryd.prog S 54 [.str tx, i6 i] H ⟨K⟩ :=
  WCall_pure hS (spec_l4Name_c tx i hs hi) (by simp) (by simp) (by simp) hK
theorem spec_l4Name_k {tx : ByteArray} {i : Nat} (hs : tx.size ≤ 281474976710656) (hi : i ≤ tx.size) {S : FuncId → Bool} {H : List Blk} {K : A → Dl → Prop} {zs : List A} (hS : S 54 = false) (hv : viewL (viewA 8 H) zs = some [.str tx, i6 i]) (ho : noOwns zs = true ∨ nosl (.tup [i6 (if nmOk tx i = true then figV 3 (dgRun tx i) else 0), i6 (if nmOk tx i = true then (dEnd tx i : Int) else 0), .bool (nmOk tx i)]) = true) (hK : K (.tup [i6 (if nmOk tx i = true then figV 3 (dgRun tx i) else 0), i6 (if nmOk tx i = true then (dEnd tx i : Int) else 0), .bool (nmOk tx i)]) (.news [])) : @WCall' Go.Proofs.Tryd.prog S 54 zs H ⟨K⟩ :=
  WCall_pure hS (spec_l4Name_c tx i hs hi) hv ho (by simp) hK
/-- A sign with parts: its kind, how many signs it takes, the sign behind it. -/
def kd3 (b : Int) : Int × Int × Int := if b = 40 then (2, 1, 41) else if b = 123 then (3, 1, 125) else if b = 91 then (4, 1, 93) else if b = 35 then (5, 1, 0) else if b = 94 then (7, 1, 0) else if b = 107 then (6, 2, 41) else if b = 42 then (8, 2, 41) else (0, 0, 0)
theorem spec_l4Kind_c (tx : ByteArray) (i : Nat) (hi : i < tx.size) : T 56 [.str tx, i6 i] [] (.tup [i6 (kd3 (bt tx i)).1, i6 (kd3 (bt tx i)).2.1, .int .u8 (kd3 (bt tx i)).2.2]) ([]) := by
  refine semT' (S := S0) hm spec_l4Kind_ok (Nat.le_of_ble_eq_true rfl) ?_
  unfold spec_l4Kind; dsimp only
  simp [hi]
  repeat (any_goals (first | (refine br_intro' (fun h => ?_) (fun h => ?_) <;> (have h0 := h) <;> (try simp at h) <;> try simp [h0, h])))
  all_goals exact LeV.ro rfl rfl (by simp [kd3, *])
theorem spec_l4Kind_call {tx : ByteArray} {i : Nat} (hi : i < tx.size) {S : FuncId → Bool} {H : List Blk} {K : A → Dl → Prop} (hS : S 56 = false) (hK : K (.tup [i6 (kd3 (bt tx i)).1, i6 (kd3 (bt tx i)).2.1, .int .u8 (kd3 (bt tx i)).2.2]) (.news [])) : @WCall' Go.Proofs.Tryd.prog S 56 [.str tx, i6 i] H ⟨K⟩ :=
  WCall_pure hS (spec_l4Kind_c tx i hi) (by simp) (by simp) (by simp) hK
theorem spec_l4Kind_k {tx : ByteArray} {i : Nat} (hi : i < tx.size) {S : FuncId → Bool} {H : List Blk} {K : A → Dl → Prop} {zs : List A} (hS : S 56 = false) (hv : viewL (viewA 8 H) zs = some [.str tx, i6 i]) (ho : noOwns zs = true ∨ nosl (.tup [i6 (kd3 (bt tx i)).1, i6 (kd3 (bt tx i)).2.1, .int .u8 (kd3 (bt tx i)).2.2]) = true) (hK : K (.tup [i6 (kd3 (bt tx i)).1, i6 (kd3 (bt tx i)).2.1, .int .u8 (kd3 (bt tx i)).2.2]) (.news [])) : @WCall' Go.Proofs.Tryd.prog S 56 zs H ⟨K⟩ :=
  WCall_pure hS (spec_l4Kind_c tx i hi) hv ho (by simp) hK
end Go.Proofs.YtoegiepfcdkjaaaDoor.C

set_option linter.unusedVariables false
set_option linter.unusedSimpArgs false
set_option maxRecDepth 4000
namespace Go.Proofs.YtoegiepfcdkjaaaDoor.C
open Go.Sym Go.Proofs.YtoegiepfcdkjaaaDoor.I
/-- What the reference's reader answers, so far. -/
def TParses (tx : ByteArray) (n : Nat) : Prop := ∀ (s : List Nd) (i : Nat), poolF s = true → i ≤ tx.size → tx.size - i < n →
  T 23 [aP s, .str tx, i6 i] [] (.tup [aP (rdF (trmR tx) n s i 0).1, i6 (rdF (trmR tx) n s i 0).2.1, i6 (rdF (trmR tx) n s i 0).2.2.1, i6 (rdF (trmR tx) n s i 0).2.2.2]) []
theorem takeF_bad {tx : ByteArray} {i : Nat} {c e : Int} (h : c ≠ 0) : takeF tx i c e = (i, c) := if_pos h
theorem trm_leaf {b : Int} {tx : ByteArray} : (trmR tx).isLeaf b = decide (b = 110) := by
  simp [Rdr.isLeaf, trmR, inS, bl]
theorem trm_one {b : Int} {tx : ByteArray} : (trmR tx).isOne b = (decide (b = 35) || decide (b = 94)) := by
  simp [Rdr.isOne, trmR, inS, bl, eq_comm]
theorem trm_arg {b : Int} {tx : ByteArray} : (trmR tx).isArg b = (decide (b = 107) || decide (b = 42)) := by
  simp [Rdr.isArg, trmR, inS, bl, eq_comm]
theorem two_is {b : Int} : isTwoB b = (decide (b = 40) || (decide (b = 123) || decide (b = 91))) := by
  simp [isTwoB, inS, bl, eq_comm]
theorem addF_neg1 {s : List Nd} {n : Nd} {z : List Nd × Int} (h : addF s n = z) (h0 : z.2 < 0) : z.2 = -1 ∧ z.1 = s := by
  rw [← h] at h0 ⊢
  unfold addF at h0 ⊢
  split
  · exact ⟨rfl, rfl⟩
  · rename_i g
    rw [if_neg g] at h0
    split
    · rename_i g2
      rw [if_pos g2] at h0
      simp only at h0
      omega
    · rename_i g2
      rw [if_neg g2] at h0
      split
      · exact ⟨rfl, rfl⟩
      · rename_i g3
        rw [if_neg g3] at h0
        simp only at h0
        omega
set_option maxHeartbeats 4000000 in
theorem tparse_t {tx : ByteArray} (hs : tx.size ≤ 1000000) : ∀ n, TParses tx n
  | 0 => fun s i hp hi hn => by omega
  | n + 1 => fun s i hp hi hn => by
    have ih := tparse_t hs n
    obtain ⟨q, eq⟩ : ∃ q, rdF (trmR tx) (n + 1) s i 0 = q := ⟨_, rfl⟩
    rw [eq]
    simp only [rdF] at eq
    rw [if_neg (by simp)] at eq
    have htx : (trmR tx).text = tx := rfl
    rw [htx] at eq
    refine semT' (S := S0) hm spec_l4Parse_ok (Nat.le_of_ble_eq_true rfl) ?_
    unfold spec_l4Parse; dsimp only
    by_cases h1 : tx.size ≤ i
    · rw [if_pos h1] at eq
      simp [h1]
      exact LeV.ro rfl rfl (by rw [← eq]; simp)
    rw [if_neg h1] at eq
    have hlt : i < tx.size := by omega
    obtain ⟨i1, hi1⟩ : ∃ i1, i + 1 = i1 := ⟨_, rfl⟩
    have w1 : IntKind.i64.wrap ((i : Int) + 1) = (i1 : Int) := by rw [wrap64 (by omega) (by omega)]; omega
    rw [trm_leaf] at eq
    by_cases h2 : bt tx i = 110
    · rw [if_pos (by simpa using h2)] at eq
      have eL : (trmR tx).leaf s (bt tx i) i = nmF tx s i := rfl
      rw [eL] at eq
      unfold nmF at eq
      rw [hi1, numF_nm] at eq
      have hN := spec_l4Name_c tx i1 (by omega) (by omega)
      have h2' : ((byt tx i).toNat : Int) = 110 := h2
      simp [h1, hlt, h2', w1]
      refine WCall_pure rfl hN (by simp) (by simp) (by simp) ?_; simp
      rcases Bool.eq_false_or_eq_true (nmOk tx i1) with nm | nm
      · simp [nm] at eq ⊢
        refine WCall_pure rfl (spec_l2Name_c s (figV 3 (dgRun tx i1)) hp) (by simp) (by simp) (by simp) ?_; simp
        obtain ⟨z, ez⟩ : ∃ z, addF s ⟨1, figV 3 (dgRun tx i1), 0⟩ = z := ⟨_, rfl⟩
        rw [ez] at eq ⊢
        by_cases cz : z.2 < 0
        · simp [cz]
          exact LeV.ro rfl rfl (by rw [← eq]; simp [fullF, cz, addF_neg1 ez cz])
        · simp [cz]
          exact LeV.ro rfl rfl (by rw [← eq]; simp [fullF, cz])
      · simp [nm] at eq ⊢
        exact LeV.ro rfl rfl (by rw [← eq]; simp)
    rw [if_neg (by simpa using h2)] at eq
    have h2' : ¬ ((byt tx i).toNat : Int) = 110 := h2
    have hK := spec_l4Kind_c tx i hlt
    simp [h1, hlt, h2', w1]
    refine WCall_pure rfl hK (by simp) (by simp) (by simp) ?_
    rw [hi1, two_is, trm_one, trm_arg] at eq
    by_cases c40 : bt tx i = 40
    · rw [c40] at eq ⊢
      simp [closeF] at eq
      simp [kd3, w1]
      have ha := ih s i1 hp (by omega) (by omega)
      have hga := (trmK tx).rd_good n (s := s) (i := i1) (c := 0) hp (by rw [htx]; omega) (by rw [htx]; omega)
      obtain ⟨a, ea⟩ : ∃ a, rdF (trmR tx) n s i1 0 = a := ⟨_, rfl⟩
      rw [ea] at ha hga
      refine WCall_pure rfl ha (by simp) (by simp) (by simp) ?_; simp
      by_cases ca : a.2.2.2 = 0
      case neg =>
        simp [ca]
        have eq2 : q = (a.1, -1, a.2.2.1, a.2.2.2) := by
          rw [← eq]
          simp only [Rdr.fin, Rdr.two, htx, ea, takeF_bad ca, rdF_bad n _ _ ca, if_neg ca]
        exact LeV.ro rfl rfl (by rw [eq2]; simp)
      obtain ⟨g1, g2, ⟨g3, g4, g5⟩, g6⟩ := hga ca
      rw [htx] at g2
      have hpa := g5 hp
      simp [ca]
      have hW := spec_l4Want_c tx a.2.2.1 44 (by omega)
      obtain ⟨t, et⟩ : ∃ t, takeF tx a.2.2.1 0 44 = t := ⟨_, rfl⟩
      rw [et] at hW
      refine WCall_pure rfl hW (by simp) (by simp) (by simp) ?_; simp
      by_cases ct : t.2 = 0
      case neg =>
        simp [ct]
        have eq2 : q = (a.1, -1, t.1, t.2) := by
          rw [← eq]
          simp only [Rdr.fin, Rdr.two, htx, ea, ca, et, rdF_bad n _ _ ct, takeF_bad ct, if_neg ct]
        exact LeV.ro rfl rfl (by rw [eq2]; simp)
      obtain ⟨_, t2, t3⟩ := takeF_ok (show (takeF tx a.2.2.1 0 44).2 = 0 by rw [et]; exact ct)
      rw [et] at t3
      simp [ct]
      have hb := ih a.1 t.1 hpa (by omega) (by omega)
      have hgb := (trmK tx).rd_good n (s := a.1) (i := t.1) (c := 0) hpa (by rw [htx]; omega) (by rw [htx]; omega)
      obtain ⟨b, eb⟩ : ∃ b, rdF (trmR tx) n a.1 t.1 0 = b := ⟨_, rfl⟩
      rw [eb] at hb hgb
      refine WCall_pure rfl hb (by simp) (by simp) (by simp) ?_; simp
      by_cases cb : b.2.2.2 = 0
      case neg =>
        simp [cb]
        have eq2 : q = (b.1, -1, b.2.2.1, b.2.2.2) := by
          rw [← eq]
          simp only [Rdr.fin, Rdr.two, htx, ea, ca, et, ct, eb, takeF_bad cb, if_neg cb]
        exact LeV.ro rfl rfl (by rw [eq2]; simp)
      obtain ⟨k1, k2, ⟨k3, k4, k5⟩, k6⟩ := hgb cb
      rw [htx] at k2
      have hpb := k5 hpa
      simp [cb]
      have hU := spec_l4Want_c tx b.2.2.1 41 (by omega)
      obtain ⟨u, eu⟩ : ∃ u, takeF tx b.2.2.1 0 41 = u := ⟨_, rfl⟩
      rw [eu] at hU
      refine WCall_pure rfl hU (by simp) (by simp) (by simp) ?_; simp
      by_cases cu : u.2 = 0
      case neg =>
        simp [cu]
        have eq2 : q = (b.1, -1, u.1, u.2) := by
          rw [← eq]
          simp only [Rdr.fin, Rdr.two, htx, ea, ca, et, ct, eb, cb, eu, if_neg cu]
        exact LeV.ro rfl rfl (by rw [eq2]; simp)
      simp [cu]
      have eq2 : q = ((fullF (addF b.1 ⟨2, a.2.1, b.2.1⟩)).1, (fullF (addF b.1 ⟨2, a.2.1, b.2.1⟩)).2.1, u.1, (fullF (addF b.1 ⟨2, a.2.1, b.2.1⟩)).2.2) := by
        rw [← eq]
        simp only [Rdr.fin, Rdr.two, htx, ea, ca, et, ct, eb, cb, eu, if_pos cu]
        rfl
      clear eq
      have eq := eq2.symm
      refine WCall_pure rfl (spec_l1Add_c b.1 ⟨2, a.2.1, b.2.1⟩ hpb) (by simp) (by simp) (by simp) ?_; simp
      obtain ⟨z, ez⟩ : ∃ z, addF b.1 ⟨2, a.2.1, b.2.1⟩ = z := ⟨_, rfl⟩
      rw [ez] at eq ⊢
      by_cases cz : z.2 < 0
      · simp [cz]
        exact LeV.ro rfl rfl (by rw [← eq]; simp [fullF, cz, addF_neg1 ez cz])
      · simp [cz]
        exact LeV.ro rfl rfl (by rw [← eq]; simp [fullF, cz])
    by_cases c123 : bt tx i = 123
    · rw [c123] at eq ⊢
      simp [closeF] at eq
      simp [kd3, w1]
      have ha := ih s i1 hp (by omega) (by omega)
      have hga := (trmK tx).rd_good n (s := s) (i := i1) (c := 0) hp (by rw [htx]; omega) (by rw [htx]; omega)
      obtain ⟨a, ea⟩ : ∃ a, rdF (trmR tx) n s i1 0 = a := ⟨_, rfl⟩
      rw [ea] at ha hga
      refine WCall_pure rfl ha (by simp) (by simp) (by simp) ?_; simp
      by_cases ca : a.2.2.2 = 0
      case neg =>
        simp [ca]
        have eq2 : q = (a.1, -1, a.2.2.1, a.2.2.2) := by
          rw [← eq]
          simp only [Rdr.fin, Rdr.two, htx, ea, takeF_bad ca, rdF_bad n _ _ ca, if_neg ca]
        exact LeV.ro rfl rfl (by rw [eq2]; simp)
      obtain ⟨g1, g2, ⟨g3, g4, g5⟩, g6⟩ := hga ca
      rw [htx] at g2
      have hpa := g5 hp
      simp [ca]
      have hW := spec_l4Want_c tx a.2.2.1 44 (by omega)
      obtain ⟨t, et⟩ : ∃ t, takeF tx a.2.2.1 0 44 = t := ⟨_, rfl⟩
      rw [et] at hW
      refine WCall_pure rfl hW (by simp) (by simp) (by simp) ?_; simp
      by_cases ct : t.2 = 0
      case neg =>
        simp [ct]
        have eq2 : q = (a.1, -1, t.1, t.2) := by
          rw [← eq]
          simp only [Rdr.fin, Rdr.two, htx, ea, ca, et, rdF_bad n _ _ ct, takeF_bad ct, if_neg ct]
        exact LeV.ro rfl rfl (by rw [eq2]; simp)
      obtain ⟨_, t2, t3⟩ := takeF_ok (show (takeF tx a.2.2.1 0 44).2 = 0 by rw [et]; exact ct)
      rw [et] at t3
      simp [ct]
      have hb := ih a.1 t.1 hpa (by omega) (by omega)
      have hgb := (trmK tx).rd_good n (s := a.1) (i := t.1) (c := 0) hpa (by rw [htx]; omega) (by rw [htx]; omega)
      obtain ⟨b, eb⟩ : ∃ b, rdF (trmR tx) n a.1 t.1 0 = b := ⟨_, rfl⟩
      rw [eb] at hb hgb
      refine WCall_pure rfl hb (by simp) (by simp) (by simp) ?_; simp
      by_cases cb : b.2.2.2 = 0
      case neg =>
        simp [cb]
        have eq2 : q = (b.1, -1, b.2.2.1, b.2.2.2) := by
          rw [← eq]
          simp only [Rdr.fin, Rdr.two, htx, ea, ca, et, ct, eb, takeF_bad cb, if_neg cb]
        exact LeV.ro rfl rfl (by rw [eq2]; simp)
      obtain ⟨k1, k2, ⟨k3, k4, k5⟩, k6⟩ := hgb cb
      rw [htx] at k2
      have hpb := k5 hpa
      simp [cb]
      have hU := spec_l4Want_c tx b.2.2.1 125 (by omega)
      obtain ⟨u, eu⟩ : ∃ u, takeF tx b.2.2.1 0 125 = u := ⟨_, rfl⟩
      rw [eu] at hU
      refine WCall_pure rfl hU (by simp) (by simp) (by simp) ?_; simp
      by_cases cu : u.2 = 0
      case neg =>
        simp [cu]
        have eq2 : q = (b.1, -1, u.1, u.2) := by
          rw [← eq]
          simp only [Rdr.fin, Rdr.two, htx, ea, ca, et, ct, eb, cb, eu, if_neg cu]
        exact LeV.ro rfl rfl (by rw [eq2]; simp)
      simp [cu]
      have eq2 : q = ((fullF (addF b.1 ⟨3, a.2.1, b.2.1⟩)).1, (fullF (addF b.1 ⟨3, a.2.1, b.2.1⟩)).2.1, u.1, (fullF (addF b.1 ⟨3, a.2.1, b.2.1⟩)).2.2) := by
        rw [← eq]
        simp only [Rdr.fin, Rdr.two, htx, ea, ca, et, ct, eb, cb, eu, if_pos cu]
        rfl
      clear eq
      have eq := eq2.symm
      refine WCall_pure rfl (spec_l1Add_c b.1 ⟨3, a.2.1, b.2.1⟩ hpb) (by simp) (by simp) (by simp) ?_; simp
      obtain ⟨z, ez⟩ : ∃ z, addF b.1 ⟨3, a.2.1, b.2.1⟩ = z := ⟨_, rfl⟩
      rw [ez] at eq ⊢
      by_cases cz : z.2 < 0
      · simp [cz]
        exact LeV.ro rfl rfl (by rw [← eq]; simp [fullF, cz, addF_neg1 ez cz])
      · simp [cz]
        exact LeV.ro rfl rfl (by rw [← eq]; simp [fullF, cz])
    by_cases c91 : bt tx i = 91
    · rw [c91] at eq ⊢
      simp [closeF] at eq
      simp [kd3, w1]
      have ha := ih s i1 hp (by omega) (by omega)
      have hga := (trmK tx).rd_good n (s := s) (i := i1) (c := 0) hp (by rw [htx]; omega) (by rw [htx]; omega)
      obtain ⟨a, ea⟩ : ∃ a, rdF (trmR tx) n s i1 0 = a := ⟨_, rfl⟩
      rw [ea] at ha hga
      refine WCall_pure rfl ha (by simp) (by simp) (by simp) ?_; simp
      by_cases ca : a.2.2.2 = 0
      case neg =>
        simp [ca]
        have eq2 : q = (a.1, -1, a.2.2.1, a.2.2.2) := by
          rw [← eq]
          simp only [Rdr.fin, Rdr.two, htx, ea, takeF_bad ca, rdF_bad n _ _ ca, if_neg ca]
        exact LeV.ro rfl rfl (by rw [eq2]; simp)
      obtain ⟨g1, g2, ⟨g3, g4, g5⟩, g6⟩ := hga ca
      rw [htx] at g2
      have hpa := g5 hp
      simp [ca]
      have hW := spec_l4Want_c tx a.2.2.1 44 (by omega)
      obtain ⟨t, et⟩ : ∃ t, takeF tx a.2.2.1 0 44 = t := ⟨_, rfl⟩
      rw [et] at hW
      refine WCall_pure rfl hW (by simp) (by simp) (by simp) ?_; simp
      by_cases ct : t.2 = 0
      case neg =>
        simp [ct]
        have eq2 : q = (a.1, -1, t.1, t.2) := by
          rw [← eq]
          simp only [Rdr.fin, Rdr.two, htx, ea, ca, et, rdF_bad n _ _ ct, takeF_bad ct, if_neg ct]
        exact LeV.ro rfl rfl (by rw [eq2]; simp)
      obtain ⟨_, t2, t3⟩ := takeF_ok (show (takeF tx a.2.2.1 0 44).2 = 0 by rw [et]; exact ct)
      rw [et] at t3
      simp [ct]
      have hb := ih a.1 t.1 hpa (by omega) (by omega)
      have hgb := (trmK tx).rd_good n (s := a.1) (i := t.1) (c := 0) hpa (by rw [htx]; omega) (by rw [htx]; omega)
      obtain ⟨b, eb⟩ : ∃ b, rdF (trmR tx) n a.1 t.1 0 = b := ⟨_, rfl⟩
      rw [eb] at hb hgb
      refine WCall_pure rfl hb (by simp) (by simp) (by simp) ?_; simp
      by_cases cb : b.2.2.2 = 0
      case neg =>
        simp [cb]
        have eq2 : q = (b.1, -1, b.2.2.1, b.2.2.2) := by
          rw [← eq]
          simp only [Rdr.fin, Rdr.two, htx, ea, ca, et, ct, eb, takeF_bad cb, if_neg cb]
        exact LeV.ro rfl rfl (by rw [eq2]; simp)
      obtain ⟨k1, k2, ⟨k3, k4, k5⟩, k6⟩ := hgb cb
      rw [htx] at k2
      have hpb := k5 hpa
      simp [cb]
      have hU := spec_l4Want_c tx b.2.2.1 93 (by omega)
      obtain ⟨u, eu⟩ : ∃ u, takeF tx b.2.2.1 0 93 = u := ⟨_, rfl⟩
      rw [eu] at hU
      refine WCall_pure rfl hU (by simp) (by simp) (by simp) ?_; simp
      by_cases cu : u.2 = 0
      case neg =>
        simp [cu]
        have eq2 : q = (b.1, -1, u.1, u.2) := by
          rw [← eq]
          simp only [Rdr.fin, Rdr.two, htx, ea, ca, et, ct, eb, cb, eu, if_neg cu]
        exact LeV.ro rfl rfl (by rw [eq2]; simp)
      simp [cu]
      have eq2 : q = ((fullF (addF b.1 ⟨4, a.2.1, b.2.1⟩)).1, (fullF (addF b.1 ⟨4, a.2.1, b.2.1⟩)).2.1, u.1, (fullF (addF b.1 ⟨4, a.2.1, b.2.1⟩)).2.2) := by
        rw [← eq]
        simp only [Rdr.fin, Rdr.two, htx, ea, ca, et, ct, eb, cb, eu, if_pos cu]
        rfl
      clear eq
      have eq := eq2.symm
      refine WCall_pure rfl (spec_l1Add_c b.1 ⟨4, a.2.1, b.2.1⟩ hpb) (by simp) (by simp) (by simp) ?_; simp
      obtain ⟨z, ez⟩ : ∃ z, addF b.1 ⟨4, a.2.1, b.2.1⟩ = z := ⟨_, rfl⟩
      rw [ez] at eq ⊢
      by_cases cz : z.2 < 0
      · simp [cz]
        exact LeV.ro rfl rfl (by rw [← eq]; simp [fullF, cz, addF_neg1 ez cz])
      · simp [cz]
        exact LeV.ro rfl rfl (by rw [← eq]; simp [fullF, cz])
    rw [if_neg (by simp [c40, c123, c91])] at eq
    by_cases c35 : bt tx i = 35
    · rw [c35] at eq ⊢
      simp at eq
      simp [kd3, w1]
      have ha := ih s i1 hp (by omega) (by omega)
      have hga := (trmK tx).rd_good n (s := s) (i := i1) (c := 0) hp (by rw [htx]; omega) (by rw [htx]; omega)
      obtain ⟨a, ea⟩ : ∃ a, rdF (trmR tx) n s i1 0 = a := ⟨_, rfl⟩
      rw [ea] at ha hga
      refine WCall_pure rfl ha (by simp) (by simp) (by simp) ?_; simp
      by_cases ca : a.2.2.2 = 0
      case neg =>
        simp [ca]
        have eq2 : q = (a.1, -1, a.2.2.1, a.2.2.2) := by
          rw [← eq]
          simp only [Rdr.fin, oneF, ea, if_neg ca]
        exact LeV.ro rfl rfl (by rw [eq2]; simp)
      obtain ⟨g1, g2, ⟨g3, g4, g5⟩, g6⟩ := hga ca
      have hpa := g5 hp
      simp [ca]
      have eq2 : q = ((fullF (addF a.1 ⟨5, a.2.1, 0⟩)).1, (fullF (addF a.1 ⟨5, a.2.1, 0⟩)).2.1, a.2.2.1, (fullF (addF a.1 ⟨5, a.2.1, 0⟩)).2.2) := by
        rw [← eq]
        simp only [Rdr.fin, oneF, ea, if_pos ca]
        rfl
      clear eq
      have eq := eq2.symm
      refine WCall_pure rfl (spec_l1Add_c a.1 ⟨5, a.2.1, 0⟩ hpa) (by simp) (by simp) (by simp) ?_; simp
      obtain ⟨z, ez⟩ : ∃ z, addF a.1 ⟨5, a.2.1, 0⟩ = z := ⟨_, rfl⟩
      rw [ez] at eq ⊢
      by_cases cz : z.2 < 0
      · simp [cz]
        exact LeV.ro rfl rfl (by rw [← eq]; simp [fullF, cz, addF_neg1 ez cz])
      · simp [cz]
        exact LeV.ro rfl rfl (by rw [← eq]; simp [fullF, cz])
    by_cases c94 : bt tx i = 94
    · rw [c94] at eq ⊢
      simp at eq
      simp [kd3, w1]
      have ha := ih s i1 hp (by omega) (by omega)
      have hga := (trmK tx).rd_good n (s := s) (i := i1) (c := 0) hp (by rw [htx]; omega) (by rw [htx]; omega)
      obtain ⟨a, ea⟩ : ∃ a, rdF (trmR tx) n s i1 0 = a := ⟨_, rfl⟩
      rw [ea] at ha hga
      refine WCall_pure rfl ha (by simp) (by simp) (by simp) ?_; simp
      by_cases ca : a.2.2.2 = 0
      case neg =>
        simp [ca]
        have eq2 : q = (a.1, -1, a.2.2.1, a.2.2.2) := by
          rw [← eq]
          simp only [Rdr.fin, oneF, ea, if_neg ca]
        exact LeV.ro rfl rfl (by rw [eq2]; simp)
      obtain ⟨g1, g2, ⟨g3, g4, g5⟩, g6⟩ := hga ca
      have hpa := g5 hp
      simp [ca]
      have eq2 : q = ((fullF (addF a.1 ⟨7, a.2.1, 0⟩)).1, (fullF (addF a.1 ⟨7, a.2.1, 0⟩)).2.1, a.2.2.1, (fullF (addF a.1 ⟨7, a.2.1, 0⟩)).2.2) := by
        rw [← eq]
        simp only [Rdr.fin, oneF, ea, if_pos ca]
        rfl
      clear eq
      have eq := eq2.symm
      refine WCall_pure rfl (spec_l1Add_c a.1 ⟨7, a.2.1, 0⟩ hpa) (by simp) (by simp) (by simp) ?_; simp
      obtain ⟨z, ez⟩ : ∃ z, addF a.1 ⟨7, a.2.1, 0⟩ = z := ⟨_, rfl⟩
      rw [ez] at eq ⊢
      by_cases cz : z.2 < 0
      · simp [cz]
        exact LeV.ro rfl rfl (by rw [← eq]; simp [fullF, cz, addF_neg1 ez cz])
      · simp [cz]
        exact LeV.ro rfl rfl (by rw [← eq]; simp [fullF, cz])
    rw [if_neg (by simp [c35, c94])] at eq
    by_cases c107 : bt tx i = 107
    · rw [c107] at eq ⊢
      simp at eq
      simp [kd3, w1]
      have hO := spec_l4Want_c tx i1 40 (by omega)
      obtain ⟨o, eo⟩ : ∃ o, takeF tx i1 0 40 = o := ⟨_, rfl⟩
      rw [eo] at hO eq
      refine WCall_pure rfl hO (by simp) (by simp) (by simp) ?_; simp
      by_cases co : o.2 = 0
      case neg =>
        simp [co]
        have eq2 : q = (s, -1, o.1, o.2) := by
          rw [← eq]
          simp only [Rdr.fin, Rdr.two, htx, rdF_bad n _ _ co, takeF_bad co, if_neg co]
        exact LeV.ro rfl rfl (by rw [eq2]; simp)
      obtain ⟨_, o2, o3⟩ := takeF_ok (show (takeF tx i1 0 40).2 = 0 by rw [eo]; exact co)
      rw [eo] at o3
      rw [co] at eq
      simp [co]
      have ha := ih s o.1 hp (by omega) (by omega)
      have hga := (trmK tx).rd_good n (s := s) (i := o.1) (c := 0) hp (by rw [htx]; omega) (by rw [htx]; omega)
      obtain ⟨a, ea⟩ : ∃ a, rdF (trmR tx) n s o.1 0 = a := ⟨_, rfl⟩
      rw [ea] at ha hga
      refine WCall_pure rfl ha (by simp) (by simp) (by simp) ?_; simp
      by_cases ca : a.2.2.2 = 0
      case neg =>
        simp [ca]
        have eq2 : q = (a.1, -1, a.2.2.1, a.2.2.2) := by
          rw [← eq]
          simp only [Rdr.fin, Rdr.two, htx, ea, takeF_bad ca, rdF_bad n _ _ ca, if_neg ca]
        exact LeV.ro rfl rfl (by rw [eq2]; simp)
      obtain ⟨g1, g2, ⟨g3, g4, g5⟩, g6⟩ := hga ca
      rw [htx] at g2
      have hpa := g5 hp
      simp [ca]
      have hW := spec_l4Want_c tx a.2.2.1 44 (by omega)
      obtain ⟨t, et⟩ : ∃ t, takeF tx a.2.2.1 0 44 = t := ⟨_, rfl⟩
      rw [et] at hW
      refine WCall_pure rfl hW (by simp) (by simp) (by simp) ?_; simp
      by_cases ct : t.2 = 0
      case neg =>
        simp [ct]
        have eq2 : q = (a.1, -1, t.1, t.2) := by
          rw [← eq]
          simp only [Rdr.fin, Rdr.two, htx, ea, ca, et, rdF_bad n _ _ ct, takeF_bad ct, if_neg ct]
        exact LeV.ro rfl rfl (by rw [eq2]; simp)
      obtain ⟨_, t2, t3⟩ := takeF_ok (show (takeF tx a.2.2.1 0 44).2 = 0 by rw [et]; exact ct)
      rw [et] at t3
      simp [ct]
      have hb := ih a.1 t.1 hpa (by omega) (by omega)
      have hgb := (trmK tx).rd_good n (s := a.1) (i := t.1) (c := 0) hpa (by rw [htx]; omega) (by rw [htx]; omega)
      obtain ⟨b, eb⟩ : ∃ b, rdF (trmR tx) n a.1 t.1 0 = b := ⟨_, rfl⟩
      rw [eb] at hb hgb
      refine WCall_pure rfl hb (by simp) (by simp) (by simp) ?_; simp
      by_cases cb : b.2.2.2 = 0
      case neg =>
        simp [cb]
        have eq2 : q = (b.1, -1, b.2.2.1, b.2.2.2) := by
          rw [← eq]
          simp only [Rdr.fin, Rdr.two, htx, ea, ca, et, ct, eb, takeF_bad cb, if_neg cb]
        exact LeV.ro rfl rfl (by rw [eq2]; simp)
      obtain ⟨k1, k2, ⟨k3, k4, k5⟩, k6⟩ := hgb cb
      rw [htx] at k2
      have hpb := k5 hpa
      simp [cb]
      have hU := spec_l4Want_c tx b.2.2.1 41 (by omega)
      obtain ⟨u, eu⟩ : ∃ u, takeF tx b.2.2.1 0 41 = u := ⟨_, rfl⟩
      rw [eu] at hU
      refine WCall_pure rfl hU (by simp) (by simp) (by simp) ?_; simp
      by_cases cu : u.2 = 0
      case neg =>
        simp [cu]
        have eq2 : q = (b.1, -1, u.1, u.2) := by
          rw [← eq]
          simp only [Rdr.fin, Rdr.two, htx, ea, ca, et, ct, eb, cb, eu, if_neg cu]
        exact LeV.ro rfl rfl (by rw [eq2]; simp)
      simp [cu]
      have eq2 : q = ((fullF (addF b.1 ⟨6, a.2.1, b.2.1⟩)).1, (fullF (addF b.1 ⟨6, a.2.1, b.2.1⟩)).2.1, u.1, (fullF (addF b.1 ⟨6, a.2.1, b.2.1⟩)).2.2) := by
        rw [← eq]
        simp only [Rdr.fin, Rdr.two, htx, ea, ca, et, ct, eb, cb, eu, if_pos cu]
        rfl
      clear eq
      have eq := eq2.symm
      refine WCall_pure rfl (spec_l1Add_c b.1 ⟨6, a.2.1, b.2.1⟩ hpb) (by simp) (by simp) (by simp) ?_; simp
      obtain ⟨z, ez⟩ : ∃ z, addF b.1 ⟨6, a.2.1, b.2.1⟩ = z := ⟨_, rfl⟩
      rw [ez] at eq ⊢
      by_cases cz : z.2 < 0
      · simp [cz]
        exact LeV.ro rfl rfl (by rw [← eq]; simp [fullF, cz, addF_neg1 ez cz])
      · simp [cz]
        exact LeV.ro rfl rfl (by rw [← eq]; simp [fullF, cz])
    by_cases c42 : bt tx i = 42
    · rw [c42] at eq ⊢
      simp at eq
      simp [kd3, w1]
      have hO := spec_l4Want_c tx i1 40 (by omega)
      obtain ⟨o, eo⟩ : ∃ o, takeF tx i1 0 40 = o := ⟨_, rfl⟩
      rw [eo] at hO eq
      refine WCall_pure rfl hO (by simp) (by simp) (by simp) ?_; simp
      by_cases co : o.2 = 0
      case neg =>
        simp [co]
        have eq2 : q = (s, -1, o.1, o.2) := by
          rw [← eq]
          simp only [Rdr.fin, Rdr.two, htx, rdF_bad n _ _ co, takeF_bad co, if_neg co]
        exact LeV.ro rfl rfl (by rw [eq2]; simp)
      obtain ⟨_, o2, o3⟩ := takeF_ok (show (takeF tx i1 0 40).2 = 0 by rw [eo]; exact co)
      rw [eo] at o3
      rw [co] at eq
      simp [co]
      have ha := ih s o.1 hp (by omega) (by omega)
      have hga := (trmK tx).rd_good n (s := s) (i := o.1) (c := 0) hp (by rw [htx]; omega) (by rw [htx]; omega)
      obtain ⟨a, ea⟩ : ∃ a, rdF (trmR tx) n s o.1 0 = a := ⟨_, rfl⟩
      rw [ea] at ha hga
      refine WCall_pure rfl ha (by simp) (by simp) (by simp) ?_; simp
      by_cases ca : a.2.2.2 = 0
      case neg =>
        simp [ca]
        have eq2 : q = (a.1, -1, a.2.2.1, a.2.2.2) := by
          rw [← eq]
          simp only [Rdr.fin, Rdr.two, htx, ea, takeF_bad ca, rdF_bad n _ _ ca, if_neg ca]
        exact LeV.ro rfl rfl (by rw [eq2]; simp)
      obtain ⟨g1, g2, ⟨g3, g4, g5⟩, g6⟩ := hga ca
      rw [htx] at g2
      have hpa := g5 hp
      simp [ca]
      have hW := spec_l4Want_c tx a.2.2.1 44 (by omega)
      obtain ⟨t, et⟩ : ∃ t, takeF tx a.2.2.1 0 44 = t := ⟨_, rfl⟩
      rw [et] at hW
      refine WCall_pure rfl hW (by simp) (by simp) (by simp) ?_; simp
      by_cases ct : t.2 = 0
      case neg =>
        simp [ct]
        have eq2 : q = (a.1, -1, t.1, t.2) := by
          rw [← eq]
          simp only [Rdr.fin, Rdr.two, htx, ea, ca, et, rdF_bad n _ _ ct, takeF_bad ct, if_neg ct]
        exact LeV.ro rfl rfl (by rw [eq2]; simp)
      obtain ⟨_, t2, t3⟩ := takeF_ok (show (takeF tx a.2.2.1 0 44).2 = 0 by rw [et]; exact ct)
      rw [et] at t3
      simp [ct]
      have hb := ih a.1 t.1 hpa (by omega) (by omega)
      have hgb := (trmK tx).rd_good n (s := a.1) (i := t.1) (c := 0) hpa (by rw [htx]; omega) (by rw [htx]; omega)
      obtain ⟨b, eb⟩ : ∃ b, rdF (trmR tx) n a.1 t.1 0 = b := ⟨_, rfl⟩
      rw [eb] at hb hgb
      refine WCall_pure rfl hb (by simp) (by simp) (by simp) ?_; simp
      by_cases cb : b.2.2.2 = 0
      case neg =>
        simp [cb]
        have eq2 : q = (b.1, -1, b.2.2.1, b.2.2.2) := by
          rw [← eq]
          simp only [Rdr.fin, Rdr.two, htx, ea, ca, et, ct, eb, takeF_bad cb, if_neg cb]
        exact LeV.ro rfl rfl (by rw [eq2]; simp)
      obtain ⟨k1, k2, ⟨k3, k4, k5⟩, k6⟩ := hgb cb
      rw [htx] at k2
      have hpb := k5 hpa
      simp [cb]
      have hU := spec_l4Want_c tx b.2.2.1 41 (by omega)
      obtain ⟨u, eu⟩ : ∃ u, takeF tx b.2.2.1 0 41 = u := ⟨_, rfl⟩
      rw [eu] at hU
      refine WCall_pure rfl hU (by simp) (by simp) (by simp) ?_; simp
      by_cases cu : u.2 = 0
      case neg =>
        simp [cu]
        have eq2 : q = (b.1, -1, u.1, u.2) := by
          rw [← eq]
          simp only [Rdr.fin, Rdr.two, htx, ea, ca, et, ct, eb, cb, eu, if_neg cu]
        exact LeV.ro rfl rfl (by rw [eq2]; simp)
      simp [cu]
      have eq2 : q = ((fullF (addF b.1 ⟨8, a.2.1, b.2.1⟩)).1, (fullF (addF b.1 ⟨8, a.2.1, b.2.1⟩)).2.1, u.1, (fullF (addF b.1 ⟨8, a.2.1, b.2.1⟩)).2.2) := by
        rw [← eq]
        simp only [Rdr.fin, Rdr.two, htx, ea, ca, et, ct, eb, cb, eu, if_pos cu]
        rfl
      clear eq
      have eq := eq2.symm
      refine WCall_pure rfl (spec_l1Add_c b.1 ⟨8, a.2.1, b.2.1⟩ hpb) (by simp) (by simp) (by simp) ?_; simp
      obtain ⟨z, ez⟩ : ∃ z, addF b.1 ⟨8, a.2.1, b.2.1⟩ = z := ⟨_, rfl⟩
      rw [ez] at eq ⊢
      by_cases cz : z.2 < 0
      · simp [cz]
        exact LeV.ro rfl rfl (by rw [← eq]; simp [fullF, cz, addF_neg1 ez cz])
      · simp [cz]
        exact LeV.ro rfl rfl (by rw [← eq]; simp [fullF, cz])
    rw [if_neg (by simp [c107, c42])] at eq
    have hk0 : kd3 (bt tx i) = (0, 0, 0) := by simp [kd3, c40, c123, c91, c35, c94, c107, c42]
    rw [hk0]
    simp
    exact LeV.ro rfl rfl (by rw [← eq]; simp)
end Go.Proofs.YtoegiepfcdkjaaaDoor.C
