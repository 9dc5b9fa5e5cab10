/- A reader's walk. Conditions: those that each theorem names. -/
import Derived.Test.YtoegiepfcdkjaaaDoorXC1X3
import Derived.Test.YtoegiepfcdkjaaaDoorXSymVirt
set_option linter.unusedVariables false
set_option linter.unusedSimpArgs false
set_option maxRecDepth 4000
namespace Go.Proofs.YtoegiepfcdkjaaaDoor.C
open Go.Sym Go.Proofs.YtoegiepfcdkjaaaDoor.I
theorem RdrOk.two_good' {σ : Type} {R : Rdr σ} (K : RdrOk R) (n : Nat) {s : σ} {i : Nat} {e : Int} (hW : K.W s i) (hlt : i < R.text.size) (hn : R.text.size - (i + 1) < n) (h : (R.two (rdF R n) e s (i + 1) 0).2.2.2 = 0) :
    i < (R.two (rdF R n) e s (i + 1) 0).2.2.1 ∧ (R.two (rdF R n) e s (i + 1) 0).2.2.1 ≤ R.text.size ∧ K.E s (i + 1) (R.two (rdF R n) e s (i + 1) 0).1 (R.two (rdF R n) e s (i + 1) 0).2.2.1 ∧ ∀ t ∈ (R.two (rdF R n) e s (i + 1) 0).2.1, K.V (R.two (rdF R n) e s (i + 1) 0).1 t := by
  obtain ⟨h1, h2, h3, h4⟩ := K.two_good (rd := rdF R n) (fun s i c h => rdF_bad n s i h) (fun g1 g2 g3 => K.rd_good n g2 g3 (by omega)) (K.W_E hW (K.E_step s i)) (by omega) h
  exact ⟨Nat.lt_trans (show i < i + 1 by omega) h1, h2, h3, h4⟩
theorem RdrOk.arg_good {σ : Type} {R : Rdr σ} (K : RdrOk R) (n : Nat) {s : σ} {i : Nat} (hW : K.W s i) (hlt : i < R.text.size) (hn : R.text.size - (i + 1) < n) (h : (R.two (rdF R n) 41 s (takeF R.text (i + 1) 0 40).1 (takeF R.text (i + 1) 0 40).2).2.2.2 = 0) :
    i < (R.two (rdF R n) 41 s (takeF R.text (i + 1) 0 40).1 (takeF R.text (i + 1) 0 40).2).2.2.1 ∧ (R.two (rdF R n) 41 s (takeF R.text (i + 1) 0 40).1 (takeF R.text (i + 1) 0 40).2).2.2.1 ≤ R.text.size ∧ K.E s (i + 1) (R.two (rdF R n) 41 s (takeF R.text (i + 1) 0 40).1 (takeF R.text (i + 1) 0 40).2).1 (R.two (rdF R n) 41 s (takeF R.text (i + 1) 0 40).1 (takeF R.text (i + 1) 0 40).2).2.2.1 ∧ ∀ t ∈ (R.two (rdF R n) 41 s (takeF R.text (i + 1) 0 40).1 (takeF R.text (i + 1) 0 40).2).2.1, K.V (R.two (rdF R n) 41 s (takeF R.text (i + 1) 0 40).1 (takeF R.text (i + 1) 0 40).2).1 t := by
  have hW1 := K.W_E hW (K.E_step s i)
  have ht : (takeF R.text (i + 1) 0 40).2 = 0 := by
    rcases Decidable.em ((takeF R.text (i + 1) 0 40).2 = 0) with g | g
    · exact g
    · simp only [Rdr.two, rdF_bad n _ _ g] at h
      have g1 := (takeF_ok h).1
      have g2 : (takeF R.text (takeF R.text (i + 1) 0 40).1 (takeF R.text (i + 1) 0 40).2 44).2 ≠ 0 := fun e => g (takeF_ok e).1
      rw [rdF_bad n _ _ g2] at g1
      exact absurd g1 g2
  obtain ⟨_, t2, t3⟩ := takeF_ok ht
  rw [ht, t3] at h ⊢
  have hW2 := K.W_E hW1 (K.E_step s (i + 1))
  obtain ⟨h1, h2, h3, h4⟩ := K.two_good (rd := rdF R n) (fun s i c h => rdF_bad n s i h) (fun g1 g2 g3 => K.rd_good n g2 g3 (by omega)) hW2 (by omega) h
  exact ⟨Nat.lt_trans (show i < i + 1 + 1 by omega) h1, h2, K.E_trans (K.E_step _ _) h3, h4⟩
theorem lift_call {f : FuncId} {S : FuncId → Bool} {H : List Blk} {K : A → Dl → Prop} {zs : List A} {r : A} (hS : S f = true) (h : T f zs [] r []) (hx : noOwns zs = true) (hs : ∀ n, shiftA n r = r) (hK : K r (.full [] H)) : @WCall' Go.Proofs.Tryd.prog S f zs H ⟨K⟩ :=
  same_call hS (h.lift hx hs H) hK
theorem all_call {f : FuncId} {S : FuncId → Bool} {H H' : List Blk} {K : A → Dl → Prop} {zs : List A} {r : A} (hS : S f = true) (hf : T f zs H r H') (hlen : H.length ≤ H'.length) (hK : K r (.full (List.range H.length) H')) : @WCall' Go.Proofs.Tryd.prog S f zs H ⟨K⟩ :=
  WCall_t' hS (List.range H.length) hf hlen (fun q hq hl => absurd (List.mem_range.2 hl) hq) hK
structure RdrRun {σ : Type} {R : Rdr σ} (K : RdrOk R) where
  Hs : σ → Int → Int → List Blk
  b : Nat
  L : Nat
  lf : FuncId
  jn : FuncId
  lc : List A
  jc : List A
  size : R.text.size ≤ 281474976710656
  msize : R.more.size ≤ 281474976710656
  get : ∀ s i c, (Hs s i c)[b]? = some (rrow R.text R.more (.fn lf lc) (.fn jn jc) i c)
  set : ∀ s i c i' c', (Hs s i c).set b (rrow R.text R.more (.fn lf lc) (.fn jn jc) i' c') = Hs s i' c'
  len : ∀ s i c, (Hs s i c).length = L
  cl : ∀ s i c, Closed1 L (Hs s i c) = true
  el : canEnter Go.Proofs.Tryd.prog lf = true
  ej : canEnter Go.Proofs.Tryd.prog jn = true
  leaf : ∀ {s i}, K.W s i → i < R.text.size → R.isLeaf (bt R.text i) = true → T lf ([rptr b, .int .u8 (bt R.text i)] ++ lc) (Hs s i 0) (i6 (R.leaf s (bt R.text i) i).2.1) (Hs (R.leaf s (bt R.text i) i).1 (R.leaf s (bt R.text i) i).2.2.1 (R.leaf s (bt R.text i) i).2.2.2)
  join : ∀ {s0 i s i' ts}, K.W s0 i → i < R.text.size → K.E s0 (i + 1) s i' → i' ≤ R.text.size → R.Shape (bt R.text i) ts.length → (∀ t ∈ ts, K.V s t) →
    ∃ G, L + 1 ≤ G.length ∧ T jn ([rptr b, .int .u8 (bt R.text i), .ref L 0 0 ts.length] ++ jc) (Hs s i' 0 ++ [⟨0, false, 1, ints ts, none⟩]) (i6 (R.join s (bt R.text i) ts i').2.1) G ∧
      LeV L (i6 (R.join s (bt R.text i) ts i').2.1) G (i6 (R.join s (bt R.text i) ts i').2.1) (Hs (R.join s (bt R.text i) ts i').1 i' (R.join s (bt R.text i) ts i').2.2)
section
variable {σ : Type} {R : Rdr σ} {K : RdrOk R} (Z : RdrRun K)
theorem RdrRun.lt (s : σ) (i c : Int) : Z.b < Z.L := by
  rw [← Z.len s i c]
  exact (List.getElem?_eq_some_iff.1 (Z.get s i c)).1
theorem RdrRun.fail (s : σ) (i c code at_ : Int) : T 62 [rptr Z.b, i6 code, i6 at_] (Z.Hs s i c) (i6 (-1)) (Z.Hs s (failF i c code at_).1 (failF i c code at_).2) := by
  have := impl_reader_fail_m (Z.Hs s i c) Z.b _ _ _ _ i c code at_ (Z.get s i c)
  rwa [Z.set] at this
theorem RdrRun.take (s : σ) (i : Nat) (c sign : Int) : T 89 [rptr Z.b, .int .u8 sign] (Z.Hs s i c) (.tup []) (Z.Hs s (takeF R.text i c sign).1 (takeF R.text i c sign).2) := by
  have hz := Z.size
  have := impl_reader_take_m (Z.Hs s i c) Z.b _ _ _ _ i c sign (Z.get s i c) (by omega)
  rwa [Z.set] at this
theorem RdrRun.peek (s : σ) (i : Nat) (c : Int) : T 83 [rptr Z.b] (Z.Hs s i c) (.int .u8 (peekF R.text i)) (Z.Hs s i c) := impl_reader_peek_m (Z.Hs s i c) Z.b _ _ _ _ i c (Z.get s i c)
/-- What a reader's first function answers, so far. -/
def RdrRun.Reads (n : Nat) : Prop := ∀ (s : σ) (i : Nat) (c : Int), (c = 0 → K.W s i ∧ i ≤ R.text.size ∧ R.text.size - i < n) → T 65 [rptr Z.b] (Z.Hs s i c) (i6 (rdF R n s i c).2.1) (Z.Hs (rdF R n s i c).1 (rdF R n s i c).2.2.1 (rdF R n s i c).2.2.2)
theorem RdrRun.two {n : Nat} (ih : Z.Reads n) {s : σ} {i : Nat} {c e : Int} (h : c = 0 → K.W s i ∧ i ≤ R.text.size ∧ R.text.size - i < n) :
    T 87 [rptr Z.b, .int .u8 e] (Z.Hs s i c) (.ref Z.L 0 0 2) (Z.Hs (R.two (rdF R n) e s i c).1 (R.two (rdF R n) e s i c).2.2.1 (R.two (rdF R n) e s i c).2.2.2 ++ [⟨0, false, 1, ints (R.two (rdF R n) e s i c).2.1, none⟩]) := by
  have ga := fun hc : c = 0 => K.rd_good n (h hc).1 (h hc).2.1 (h hc).2.2 (c := c)
  have hA := ih s i c h
  obtain ⟨a, ea⟩ : ∃ a, rdF R n s i c = a := ⟨_, rfl⟩
  obtain ⟨t, et⟩ : ∃ t, takeF R.text a.2.2.1 a.2.2.2 44 = t := ⟨_, rfl⟩
  obtain ⟨b, eb⟩ : ∃ b, rdF R n a.1 t.1 t.2 = b := ⟨_, rfl⟩
  obtain ⟨u, eu⟩ : ∃ u, takeF R.text b.2.2.1 b.2.2.2 e = u := ⟨_, rfl⟩
  have e2 : R.two (rdF R n) e s i c = (b.1, [a.2.1, b.2.1], u.1, u.2) := by simp only [Rdr.two, ea, et, eb, eu]
  rw [ea] at hA ga
  rw [e2]
  have hB : T 65 [rptr Z.b] (Z.Hs a.1 t.1 t.2) (i6 b.2.1) (Z.Hs b.1 b.2.2.1 b.2.2.2) := by
    rw [← eb]
    refine ih _ _ _ (fun h0 => ?_)
    · rw [← et] at h0
      obtain ⟨t1, t2, t3⟩ := takeF_ok h0
      have hc : c = 0 := by
        rcases Decidable.em (c = 0) with g | g
        · exact g
        · rw [rdF_bad n s i g] at ea; rw [← ea] at t1; exact absurd t1 g
      obtain ⟨a1, a2, a3, a4⟩ := ga hc t1
      rw [← et, t3]
      have := (h hc).2.2
      exact ⟨K.W_E (h hc).1 (K.E_trans a3 (K.E_step _ _)), by omega, by omega⟩
  have hT := Z.take a.1 a.2.2.1 a.2.2.2 44
  have hU := Z.take b.1 b.2.2.1 b.2.2.2 e
  rw [et] at hT
  rw [eu] at hU
  refine semT' (S := fun _ => true) hm impl_reader_two_ok (Nat.le_of_ble_eq_true rfl) ?_
  unfold impl_reader_two; dsimp only
  simp
  refine all_call rfl hA (by simp [Z.len]) ?_; simp
  refine all_call rfl hT (by simp [Z.len]) ?_; simp
  refine all_call rfl hB (by simp [Z.len]) ?_; simp
  refine all_call rfl hU (by simp [Z.len]) ?_; simp
  exact LeV.eq (by simp [Z.len]) (by simp [ints])
/-- A reader reads. -/
theorem RdrRun.reads : ∀ n, Z.Reads n
  | 0 => fun s i c h => by
    have hc : c ≠ 0 := fun e => by have := (h e).2.2; omega
    refine semT' (S := fun _ => true) hm impl_reader_read_ok (Nat.le_of_ble_eq_true rfl) ?_
    unfold impl_reader_read; dsimp only
    simp [Z.get, hc, rdF]
    exact LeV.refl _ _ _
  | n + 1 => fun s i c h => by
    have ih := RdrRun.reads n
    have hz := Z.size
    have hmz := Z.msize
    by_cases hc : c = 0
    case neg =>
      rw [rdF_bad (n + 1) s i hc]
      refine semT' (S := fun _ => true) hm impl_reader_read_ok (Nat.le_of_ble_eq_true rfl) ?_
      unfold impl_reader_read; dsimp only
      simp [Z.get, hc]
      exact LeV.refl _ _ _
    subst hc
    obtain ⟨hW, hi, hn⟩ := h rfl
    obtain ⟨q, eq⟩ : ∃ q, rdF R (n + 1) s i 0 = q := ⟨_, rfl⟩
    rw [eq]
    refine semT' (S := fun _ => true) hm impl_reader_read_ok (Nat.le_of_ble_eq_true rfl) ?_
    unfold impl_reader_read; dsimp only
    simp [Z.get]
    refine all_call rfl (Z.peek s i 0) (by simp [Z.len]) ?_; simp [Z.get]
    repeat (refine ck_intro' (by first | omega | (simp; omega) | kernel_rfl) ?_; try simp [Z.get])
    refine br_intro' (fun u => ?_) (fun u => ?_) <;> (have u0 := u) <;> simp only [decide_eq_true_eq, decide_eq_false_iff_not] at u <;> simp [u0, u, Z.get]
    · refine all_call rfl (Z.fail s i 0 2 R.text.size) (by simp [Z.len]) ?_; simp [failF]
      have : q = (s, -1, R.text.size, 2) := by
        rw [← eq]
        simp only [rdF]
        rw [if_neg (by simp), if_pos (by omega)]
      rw [this]
      exact LeV.refl _ _ _
    have hlt : i < R.text.size := by omega
    rw [show peekF R.text i = bt R.text i from if_neg (by omega)]
    have one : ∀ {S : FuncId → Bool} {H : List Blk} {K' : A → Dl → Prop} (ss : ByteArray), ss.size ≤ 281474976710656 → S 86 = true → K' (.bool (inS (bt R.text i) ss)) (.full [] H) → @WCall' Go.Proofs.Tryd.prog S 86 [.int .u8 (bt R.text i), .str ss] H ⟨K'⟩ := fun ss hs hS hK =>
      lift_call hS (impl_isOneOf_c _ ss (by omega)) (by simp) (by simp) hK
    have hset : (Z.Hs s i 0).set Z.b ⟨0, false, 1, [.str R.text, .int .i64 (IntKind.i64.wrap ((i : Int) + 1)), i6 0, .str R.more, .fn Z.lf Z.lc, .fn Z.jn Z.jc], none⟩ = Z.Hs s ((i + 1 : Nat) : Int) 0 := by
      rw [wrap_succ (n := i) (by omega)]
      exact Z.set s i 0 ((i + 1 : Nat) : Int) 0
    have getA : ∀ (s : σ) (i c : Int) (T : List Blk), (Z.Hs s i c ++ T)[Z.b]? = some (rrow R.text R.more (.fn Z.lf Z.lc) (.fn Z.jn Z.jc) i c) := fun s i c T => (get_left (by rw [Z.len]; exact Z.lt s i c)).trans (Z.get s i c)
    by_cases hL : R.isLeaf (bt R.text i) = true
    · have hq : q = R.leaf s (bt R.text i) i := by
        rw [← eq]
        simp only [rdF]
        rw [if_neg (by simp), if_neg u, if_pos hL]
      have tail := Z.leaf hW hlt hL
      refine br_intro' (fun v => ?_) (fun v => ?_) <;> (have v0 := v) <;> simp only [decide_eq_true_eq, decide_eq_false_iff_not] at v <;> simp [v0, Z.get]
      · refine ck_intro' Z.el ?_; simp
        refine all_call rfl (by simpa using tail) (by simp [Z.len]) ?_; simp
        rw [hq]; exact LeV.refl _ _ _
      · refine one _ (by decide) rfl ?_; simp
        refine br_intro' (fun v1 => ?_) (fun v1 => ?_) <;> simp [v1, Z.get]
        · refine one _ hmz rfl ?_; simp
          refine br_intro' (fun v2 => ?_) (fun v2 => ?_) <;> simp [v2, Z.get]
          · refine ck_intro' Z.el ?_; simp
            refine all_call rfl (by simpa using tail) (by simp [Z.len]) ?_; simp
            rw [hq]; exact LeV.refl _ _ _
          · exact absurd hL (by simp [Rdr.isLeaf, v0, v1, v2])
        · exact absurd hL (by simp [Rdr.isLeaf, v0, v1])
    · have hW1 := K.W_E hW (K.E_step s i)
      refine br_intro' (fun v => ?_) (fun v => ?_) <;> (have v0 := v) <;> simp only [decide_eq_true_eq, decide_eq_false_iff_not] at v <;> simp [v0, Z.get]
      · exact absurd (show R.isLeaf (bt R.text i) = true by simp [Rdr.isLeaf, v0]) hL
      refine one _ (by decide) rfl ?_; simp
      refine br_intro' (fun v1 => ?_) (fun v1 => ?_) <;> simp [v1, Z.get]
      · refine one _ hmz rfl ?_; simp
        refine br_intro' (fun v2 => ?_) (fun v2 => ?_) <;> simp [v2, Z.get]
        · exact absurd (show R.isLeaf (bt R.text i) = true by simp [Rdr.isLeaf, v0, v1, v2]) hL
        · refine one _ (by decide) rfl ?_; simp
          by_cases hT : isTwoB (bt R.text i) = true
          · have hT' : inS (bt R.text i) ⟨#[40, 123, 91]⟩ = true := hT
            have hq : q = R.fin (bt R.text i) (R.two (rdF R n) (closeF (bt R.text i)) s (i + 1) 0) := by
              rw [← eq]
              simp only [rdF]
              rw [if_neg (by simp), if_neg u, if_neg hL, if_pos hT]
            simp [hT', Z.get]
            refine lift_call rfl (impl_closing_c _) (by simp) (by simp) ?_; simp
            rw [hset]
            have hX := Z.two ih (s := s) (i := i + 1) (c := 0) (e := closeF (bt R.text i)) (fun _ => ⟨hW1, by omega, by omega⟩)
            have hg := K.two_good' n (s := s) (i := i) (e := closeF (bt R.text i)) hW hlt (by omega)
            have hl : (R.two (rdF R n) (closeF (bt R.text i)) s (i + 1) 0).2.1.length = 2 := rfl
            have hts : R.Shape (bt R.text i) (R.two (rdF R n) (closeF (bt R.text i)) s (i + 1) 0).2.1.length := .inl ⟨hT, rfl⟩
            obtain ⟨p, ep⟩ : ∃ p, R.two (rdF R n) (closeF (bt R.text i)) s (i + 1) 0 = p := ⟨_, rfl⟩
            rw [ep] at hq hX hg hts hl
            refine all_call rfl hX (by simp [Z.len]) ?_; simp
            simp [getA]
            by_cases hc : p.2.2.2 = 0
            · obtain ⟨g1, g2, g3, g4⟩ := hg hc
              obtain ⟨G, j1, j2, j3⟩ := Z.join hW hlt g3 g2 hts g4
              have hqq : q = ((R.join p.1 (bt R.text i) p.2.1 p.2.2.1).1, (R.join p.1 (bt R.text i) p.2.1 p.2.2.1).2.1, p.2.2.1, (R.join p.1 (bt R.text i) p.2.1 p.2.2.1).2.2) := by rw [hq]; unfold Rdr.fin; rw [if_pos hc]
              simp [hc, getA]
              refine ck_intro' Z.ej ?_; simp
              rw [hl] at j2
              refine all_call rfl (by simpa using j2) (by simp [Z.len]; omega) ?_; simp
              rw [hqq, Z.len]
              exact j3
            · simp [hc]
              rw [hq, show R.fin (bt R.text i) p = (p.1, -1, p.2.2.1, p.2.2.2) from if_neg hc]
              exact LeV.drop (by simp [Z.len]) (by rw [Z.len]; exact Z.cl _ _ _) (by simp)
          · have hT' : inS (bt R.text i) ⟨#[40, 123, 91]⟩ = false := by simpa [isTwoB] using hT
            simp [hT']
            refine one _ (by decide) rfl ?_; simp
            by_cases hO : R.isOne (bt R.text i) = true
            · have hq : q = R.fin (bt R.text i) (oneF (rdF R n) s (i + 1)) := by
                rw [← eq]
                simp only [rdF]
                rw [if_neg (by simp), if_neg u, if_neg hL, if_neg hT, if_pos hO]
              have hX := ih s (i + 1) 0 (fun _ => ⟨hW1, by omega, by omega⟩)
              have hg0 := K.rd_good n (s := s) (i := i + 1) (c := 0) hW1 (by omega) (by omega)
              have hg : (oneF (rdF R n) s (i + 1)).2.2.2 = 0 → i < (oneF (rdF R n) s (i + 1)).2.2.1 ∧ (oneF (rdF R n) s (i + 1)).2.2.1 ≤ R.text.size ∧ K.E s (i + 1) (oneF (rdF R n) s (i + 1)).1 (oneF (rdF R n) s (i + 1)).2.2.1 ∧ ∀ t ∈ (oneF (rdF R n) s (i + 1)).2.1, K.V (oneF (rdF R n) s (i + 1)).1 t := fun h => by
                obtain ⟨h1, h2, h3, h4⟩ := hg0 h
                refine ⟨Nat.lt_trans (show i < i + 1 by omega) h1, h2, h3, fun t ht => ?_⟩
                simp only [oneF, List.mem_cons, List.mem_nil_iff, or_false] at ht
                rw [ht]; exact h4
              have hl : (oneF (rdF R n) s (i + 1)).2.1.length = 1 := rfl
              have hts : R.Shape (bt R.text i) (oneF (rdF R n) s (i + 1)).2.1.length := .inr (.inl ⟨by simpa using hT, hO, rfl⟩)
              have hrow : ∀ (H : List Blk), H ++ [(⟨0, false, 1, [i6 (rdF R n s (i + 1) 0).2.1], none⟩ : Blk)] = H ++ [⟨0, false, 1, ints (oneF (rdF R n) s (i + 1)).2.1, none⟩] := fun H => rfl
              have hp1 : (rdF R n s (i + 1) 0).1 = (oneF (rdF R n) s (i + 1)).1 := rfl
              have hp2 : (rdF R n s (i + 1) 0).2.2.1 = (oneF (rdF R n) s (i + 1)).2.2.1 := rfl
              have hp3 : (rdF R n s (i + 1) 0).2.2.2 = (oneF (rdF R n) s (i + 1)).2.2.2 := rfl
              obtain ⟨p, ep⟩ : ∃ p, oneF (rdF R n) s (i + 1) = p := ⟨_, rfl⟩
              rw [ep] at hq hg hts hl hp1 hp2 hp3
              refine br_intro' (fun z => ?_) (fun z => ?_) <;> simp [z, Z.get]
              · rw [hset]
                refine all_call rfl hX (by simp [Z.len]) ?_; simp
                rw [hrow, ep, hp1, hp2, hp3, Z.len]
                simp [getA]
                by_cases hc : p.2.2.2 = 0
                · obtain ⟨g1, g2, g3, g4⟩ := hg hc
                  obtain ⟨G, j1, j2, j3⟩ := Z.join hW hlt g3 g2 hts g4
                  have hqq : q = ((R.join p.1 (bt R.text i) p.2.1 p.2.2.1).1, (R.join p.1 (bt R.text i) p.2.1 p.2.2.1).2.1, p.2.2.1, (R.join p.1 (bt R.text i) p.2.1 p.2.2.1).2.2) := by rw [hq]; unfold Rdr.fin; rw [if_pos hc]
                  simp [hc, getA]
                  refine ck_intro' Z.ej ?_; simp
                  rw [hl] at j2
                  refine all_call rfl (by simpa using j2) (by simp [Z.len]; omega) ?_; simp
                  rw [hqq, Z.len]
                  exact j3
                · simp [hc]
                  rw [hq, show R.fin (bt R.text i) p = (p.1, -1, p.2.2.1, p.2.2.2) from if_neg hc]
                  exact LeV.drop (by simp [Z.len]) (by rw [Z.len]; exact Z.cl _ _ _) (by simp)
              · refine one _ (by decide) rfl ?_; simp
                refine br_intro' (fun z1 => ?_) (fun z1 => ?_) <;> simp [z1, Z.get]
                · refine one _ hmz rfl ?_; simp
                  refine br_intro' (fun z2 => ?_) (fun z2 => ?_) <;> simp [z2, Z.get]
                  · rw [hset]
                    refine all_call rfl hX (by simp [Z.len]) ?_; simp
                    rw [hrow, ep, hp1, hp2, hp3, Z.len]
                    simp [getA]
                    by_cases hc : p.2.2.2 = 0
                    · obtain ⟨g1, g2, g3, g4⟩ := hg hc
                      obtain ⟨G, j1, j2, j3⟩ := Z.join hW hlt g3 g2 hts g4
                      have hqq : q = ((R.join p.1 (bt R.text i) p.2.1 p.2.2.1).1, (R.join p.1 (bt R.text i) p.2.1 p.2.2.1).2.1, p.2.2.1, (R.join p.1 (bt R.text i) p.2.1 p.2.2.1).2.2) := by rw [hq]; unfold Rdr.fin; rw [if_pos hc]
                      simp [hc, getA]
                      refine ck_intro' Z.ej ?_; simp
                      rw [hl] at j2
                      refine all_call rfl (by simpa using j2) (by simp [Z.len]; omega) ?_; simp
                      rw [hqq, Z.len]
                      exact j3
                    · simp [hc]
                      rw [hq, show R.fin (bt R.text i) p = (p.1, -1, p.2.2.1, p.2.2.2) from if_neg hc]
                      exact LeV.drop (by simp [Z.len]) (by rw [Z.len]; exact Z.cl _ _ _) (by simp)
                  · exact absurd hO (by simp [Rdr.isOne, z, z1, z2])
                · exact absurd hO (by simp [Rdr.isOne, z, z1])
            · refine br_intro' (fun z => ?_) (fun z => ?_) <;> simp [z, Z.get]
              · exact absurd (show R.isOne (bt R.text i) = true by simp [Rdr.isOne, z]) hO
              · refine one _ (by decide) rfl ?_; simp
                refine br_intro' (fun z1 => ?_) (fun z1 => ?_) <;> simp [z1, Z.get]
                · refine one _ hmz rfl ?_; simp
                  refine br_intro' (fun z2 => ?_) (fun z2 => ?_) <;> simp [z2, Z.get]
                  · exact absurd (show R.isOne (bt R.text i) = true by simp [Rdr.isOne, z, z1, z2]) hO
                  · clear z z1 z2
                    refine one _ (by decide) rfl ?_; simp
                    by_cases hA : R.isArg (bt R.text i) = true
                    · have hq : q = R.fin (bt R.text i) (R.two (rdF R n) 41 s (takeF R.text (i + 1) 0 40).1 (takeF R.text (i + 1) 0 40).2) := by
                        rw [← eq]
                        simp only [rdF]
                        rw [if_neg (by simp), if_neg u, if_neg hL, if_neg hT, if_neg hO, if_pos hA]
                      have hX := Z.two ih (s := s) (i := (takeF R.text (i + 1) 0 40).1) (c := (takeF R.text (i + 1) 0 40).2) (e := 41) (fun h0 => by
                        obtain ⟨_, t2, t3⟩ := takeF_ok h0
                        rw [t3]
                        exact ⟨K.W_E hW1 (K.E_step _ _), by omega, by omega⟩)
                      have hg := K.arg_good n (s := s) (i := i) hW hlt (by omega)
                      have hl : (R.two (rdF R n) 41 s (takeF R.text (i + 1) 0 40).1 (takeF R.text (i + 1) 0 40).2).2.1.length = 2 := rfl
                      have hts : R.Shape (bt R.text i) (R.two (rdF R n) 41 s (takeF R.text (i + 1) 0 40).1 (takeF R.text (i + 1) 0 40).2).2.1.length := .inr (.inr ⟨by simpa using hT, by simpa using hO, hA, rfl⟩)
                      have hK := Z.take s (i + 1) 0 40
                      obtain ⟨p, ep⟩ : ∃ p, R.two (rdF R n) 41 s (takeF R.text (i + 1) 0 40).1 (takeF R.text (i + 1) 0 40).2 = p := ⟨_, rfl⟩
                      rw [ep] at hq hX hg hts hl
                      refine br_intro' (fun z => ?_) (fun z => ?_) <;> simp [z, Z.get]
                      · rw [hset]
                        refine all_call rfl hK (by simp [Z.len]) ?_; simp
                        refine all_call rfl hX (by simp [Z.len]) ?_; simp
                        simp [getA]
                        by_cases hc : p.2.2.2 = 0
                        · obtain ⟨g1, g2, g3, g4⟩ := hg hc
                          obtain ⟨G, j1, j2, j3⟩ := Z.join hW hlt g3 g2 hts g4
                          have hqq : q = ((R.join p.1 (bt R.text i) p.2.1 p.2.2.1).1, (R.join p.1 (bt R.text i) p.2.1 p.2.2.1).2.1, p.2.2.1, (R.join p.1 (bt R.text i) p.2.1 p.2.2.1).2.2) := by rw [hq]; unfold Rdr.fin; rw [if_pos hc]
                          simp [hc, getA]
                          refine ck_intro' Z.ej ?_; simp
                          rw [hl] at j2
                          refine all_call rfl (by simpa using j2) (by simp [Z.len]; omega) ?_; simp
                          rw [hqq, Z.len]
                          exact j3
                        · simp [hc]
                          rw [hq, show R.fin (bt R.text i) p = (p.1, -1, p.2.2.1, p.2.2.2) from if_neg hc]
                          exact LeV.drop (by simp [Z.len]) (by rw [Z.len]; exact Z.cl _ _ _) (by simp)
                      · refine one _ (by decide) rfl ?_; simp
                        refine br_intro' (fun z1 => ?_) (fun z1 => ?_) <;> simp [z1, Z.get]
                        · refine one _ hmz rfl ?_; simp
                          refine br_intro' (fun z2 => ?_) (fun z2 => ?_) <;> simp [z2, Z.get]
                          · rw [hset]
                            refine all_call rfl hK (by simp [Z.len]) ?_; simp
                            refine all_call rfl hX (by simp [Z.len]) ?_; simp
                            simp [getA]
                            by_cases hc : p.2.2.2 = 0
                            · obtain ⟨g1, g2, g3, g4⟩ := hg hc
                              obtain ⟨G, j1, j2, j3⟩ := Z.join hW hlt g3 g2 hts g4
                              have hqq : q = ((R.join p.1 (bt R.text i) p.2.1 p.2.2.1).1, (R.join p.1 (bt R.text i) p.2.1 p.2.2.1).2.1, p.2.2.1, (R.join p.1 (bt R.text i) p.2.1 p.2.2.1).2.2) := by rw [hq]; unfold Rdr.fin; rw [if_pos hc]
                              simp [hc, getA]
                              refine ck_intro' Z.ej ?_; simp
                              rw [hl] at j2
                              refine all_call rfl (by simpa using j2) (by simp [Z.len]; omega) ?_; simp
                              rw [hqq, Z.len]
                              exact j3
                            · simp [hc]
                              rw [hq, show R.fin (bt R.text i) p = (p.1, -1, p.2.2.1, p.2.2.2) from if_neg hc]
                              exact LeV.drop (by simp [Z.len]) (by rw [Z.len]; exact Z.cl _ _ _) (by simp)
                          · exact absurd hA (by simp [Rdr.isArg, z, z1, z2])
                        · exact absurd hA (by simp [Rdr.isArg, z, z1])
                    · have hq : q = (s, -1, i, 3) := by
                        rw [← eq]
                        simp only [rdF]
                        rw [if_neg (by simp), if_neg u, if_neg hL, if_neg hT, if_neg hO, if_neg hA]
                      refine br_intro' (fun z => ?_) (fun z => ?_) <;> simp [z, Z.get]
                      · exact absurd (show R.isArg (bt R.text i) = true by simp [Rdr.isArg, z]) hA
                      · refine one _ (by decide) rfl ?_; simp
                        refine br_intro' (fun z1 => ?_) (fun z1 => ?_) <;> simp [z1, Z.get]
                        · refine one _ hmz rfl ?_; simp
                          refine br_intro' (fun z2 => ?_) (fun z2 => ?_) <;> simp [z2, Z.get]
                          · exact absurd (show R.isArg (bt R.text i) = true by simp [Rdr.isArg, z, z1, z2]) hA
                          · refine all_call rfl (Z.fail s i 0 3 i) (by simp [Z.len]) ?_; simp [failF]
                            rw [hq]
                            exact LeV.refl _ _ _
                        · refine all_call rfl (Z.fail s i 0 3 i) (by simp [Z.len]) ?_; simp [failF]
                          rw [hq]
                          exact LeV.refl _ _ _
                · clear z z1
                  refine one _ (by decide) rfl ?_; simp
                  by_cases hA : R.isArg (bt R.text i) = true
                  · have hq : q = R.fin (bt R.text i) (R.two (rdF R n) 41 s (takeF R.text (i + 1) 0 40).1 (takeF R.text (i + 1) 0 40).2) := by
                      rw [← eq]
                      simp only [rdF]
                      rw [if_neg (by simp), if_neg u, if_neg hL, if_neg hT, if_neg hO, if_pos hA]
                    have hX := Z.two ih (s := s) (i := (takeF R.text (i + 1) 0 40).1) (c := (takeF R.text (i + 1) 0 40).2) (e := 41) (fun h0 => by
                      obtain ⟨_, t2, t3⟩ := takeF_ok h0
                      rw [t3]
                      exact ⟨K.W_E hW1 (K.E_step _ _), by omega, by omega⟩)
                    have hg := K.arg_good n (s := s) (i := i) hW hlt (by omega)
                    have hl : (R.two (rdF R n) 41 s (takeF R.text (i + 1) 0 40).1 (takeF R.text (i + 1) 0 40).2).2.1.length = 2 := rfl
                    have hts : R.Shape (bt R.text i) (R.two (rdF R n) 41 s (takeF R.text (i + 1) 0 40).1 (takeF R.text (i + 1) 0 40).2).2.1.length := .inr (.inr ⟨by simpa using hT, by simpa using hO, hA, rfl⟩)
                    have hK := Z.take s (i + 1) 0 40
                    obtain ⟨p, ep⟩ : ∃ p, R.two (rdF R n) 41 s (takeF R.text (i + 1) 0 40).1 (takeF R.text (i + 1) 0 40).2 = p := ⟨_, rfl⟩
                    rw [ep] at hq hX hg hts hl
                    refine br_intro' (fun z => ?_) (fun z => ?_) <;> simp [z, Z.get]
                    · rw [hset]
                      refine all_call rfl hK (by simp [Z.len]) ?_; simp
                      refine all_call rfl hX (by simp [Z.len]) ?_; simp
                      simp [getA]
                      by_cases hc : p.2.2.2 = 0
                      · obtain ⟨g1, g2, g3, g4⟩ := hg hc
                        obtain ⟨G, j1, j2, j3⟩ := Z.join hW hlt g3 g2 hts g4
                        have hqq : q = ((R.join p.1 (bt R.text i) p.2.1 p.2.2.1).1, (R.join p.1 (bt R.text i) p.2.1 p.2.2.1).2.1, p.2.2.1, (R.join p.1 (bt R.text i) p.2.1 p.2.2.1).2.2) := by rw [hq]; unfold Rdr.fin; rw [if_pos hc]
                        simp [hc, getA]
                        refine ck_intro' Z.ej ?_; simp
                        rw [hl] at j2
                        refine all_call rfl (by simpa using j2) (by simp [Z.len]; omega) ?_; simp
                        rw [hqq, Z.len]
                        exact j3
                      · simp [hc]
                        rw [hq, show R.fin (bt R.text i) p = (p.1, -1, p.2.2.1, p.2.2.2) from if_neg hc]
                        exact LeV.drop (by simp [Z.len]) (by rw [Z.len]; exact Z.cl _ _ _) (by simp)
                    · refine one _ (by decide) rfl ?_; simp
                      refine br_intro' (fun z1 => ?_) (fun z1 => ?_) <;> simp [z1, Z.get]
                      · refine one _ hmz rfl ?_; simp
                        refine br_intro' (fun z2 => ?_) (fun z2 => ?_) <;> simp [z2, Z.get]
                        · rw [hset]
                          refine all_call rfl hK (by simp [Z.len]) ?_; simp
                          refine all_call rfl hX (by simp [Z.len]) ?_; simp
                          simp [getA]
                          by_cases hc : p.2.2.2 = 0
                          · obtain ⟨g1, g2, g3, g4⟩ := hg hc
                            obtain ⟨G, j1, j2, j3⟩ := Z.join hW hlt g3 g2 hts g4
                            have hqq : q = ((R.join p.1 (bt R.text i) p.2.1 p.2.2.1).1, (R.join p.1 (bt R.text i) p.2.1 p.2.2.1).2.1, p.2.2.1, (R.join p.1 (bt R.text i) p.2.1 p.2.2.1).2.2) := by rw [hq]; unfold Rdr.fin; rw [if_pos hc]
                            simp [hc, getA]
                            refine ck_intro' Z.ej ?_; simp
                            rw [hl] at j2
                            refine all_call rfl (by simpa using j2) (by simp [Z.len]; omega) ?_; simp
                            rw [hqq, Z.len]
                            exact j3
                          · simp [hc]
                            rw [hq, show R.fin (bt R.text i) p = (p.1, -1, p.2.2.1, p.2.2.2) from if_neg hc]
                            exact LeV.drop (by simp [Z.len]) (by rw [Z.len]; exact Z.cl _ _ _) (by simp)
                        · exact absurd hA (by simp [Rdr.isArg, z, z1, z2])
                      · exact absurd hA (by simp [Rdr.isArg, z, z1])
                  · have hq : q = (s, -1, i, 3) := by
                      rw [← eq]
                      simp only [rdF]
                      rw [if_neg (by simp), if_neg u, if_neg hL, if_neg hT, if_neg hO, if_neg hA]
                    refine br_intro' (fun z => ?_) (fun z => ?_) <;> simp [z, Z.get]
                    · exact absurd (show R.isArg (bt R.text i) = true by simp [Rdr.isArg, z]) hA
                    · refine one _ (by decide) rfl ?_; simp
                      refine br_intro' (fun z1 => ?_) (fun z1 => ?_) <;> simp [z1, Z.get]
                      · refine one _ hmz rfl ?_; simp
                        refine br_intro' (fun z2 => ?_) (fun z2 => ?_) <;> simp [z2, Z.get]
                        · exact absurd (show R.isArg (bt R.text i) = true by simp [Rdr.isArg, z, z1, z2]) hA
                        · refine all_call rfl (Z.fail s i 0 3 i) (by simp [Z.len]) ?_; simp [failF]
                          rw [hq]
                          exact LeV.refl _ _ _
                      · refine all_call rfl (Z.fail s i 0 3 i) (by simp [Z.len]) ?_; simp [failF]
                        rw [hq]
                        exact LeV.refl _ _ _
      · refine one _ (by decide) rfl ?_; simp
        by_cases hT : isTwoB (bt R.text i) = true
        · have hT' : inS (bt R.text i) ⟨#[40, 123, 91]⟩ = true := hT
          have hq : q = R.fin (bt R.text i) (R.two (rdF R n) (closeF (bt R.text i)) s (i + 1) 0) := by
            rw [← eq]
            simp only [rdF]
            rw [if_neg (by simp), if_neg u, if_neg hL, if_pos hT]
          simp [hT', Z.get]
          refine lift_call rfl (impl_closing_c _) (by simp) (by simp) ?_; simp
          rw [hset]
          have hX := Z.two ih (s := s) (i := i + 1) (c := 0) (e := closeF (bt R.text i)) (fun _ => ⟨hW1, by omega, by omega⟩)
          have hg := K.two_good' n (s := s) (i := i) (e := closeF (bt R.text i)) hW hlt (by omega)
          have hl : (R.two (rdF R n) (closeF (bt R.text i)) s (i + 1) 0).2.1.length = 2 := rfl
          have hts : R.Shape (bt R.text i) (R.two (rdF R n) (closeF (bt R.text i)) s (i + 1) 0).2.1.length := .inl ⟨hT, rfl⟩
          obtain ⟨p, ep⟩ : ∃ p, R.two (rdF R n) (closeF (bt R.text i)) s (i + 1) 0 = p := ⟨_, rfl⟩
          rw [ep] at hq hX hg hts hl
          refine all_call rfl hX (by simp [Z.len]) ?_; simp
          simp [getA]
          by_cases hc : p.2.2.2 = 0
          · obtain ⟨g1, g2, g3, g4⟩ := hg hc
            obtain ⟨G, j1, j2, j3⟩ := Z.join hW hlt g3 g2 hts g4
            have hqq : q = ((R.join p.1 (bt R.text i) p.2.1 p.2.2.1).1, (R.join p.1 (bt R.text i) p.2.1 p.2.2.1).2.1, p.2.2.1, (R.join p.1 (bt R.text i) p.2.1 p.2.2.1).2.2) := by rw [hq]; unfold Rdr.fin; rw [if_pos hc]
            simp [hc, getA]
            refine ck_intro' Z.ej ?_; simp
            rw [hl] at j2
            refine all_call rfl (by simpa using j2) (by simp [Z.len]; omega) ?_; simp
            rw [hqq, Z.len]
            exact j3
          · simp [hc]
            rw [hq, show R.fin (bt R.text i) p = (p.1, -1, p.2.2.1, p.2.2.2) from if_neg hc]
            exact LeV.drop (by simp [Z.len]) (by rw [Z.len]; exact Z.cl _ _ _) (by simp)
        · have hT' : inS (bt R.text i) ⟨#[40, 123, 91]⟩ = false := by simpa [isTwoB] using hT
          simp [hT']
          refine one _ (by decide) rfl ?_; simp
          by_cases hO : R.isOne (bt R.text i) = true
          · have hq : q = R.fin (bt R.text i) (oneF (rdF R n) s (i + 1)) := by
              rw [← eq]
              simp only [rdF]
              rw [if_neg (by simp), if_neg u, if_neg hL, if_neg hT, if_pos hO]
            have hX := ih s (i + 1) 0 (fun _ => ⟨hW1, by omega, by omega⟩)
            have hg0 := K.rd_good n (s := s) (i := i + 1) (c := 0) hW1 (by omega) (by omega)
            have hg : (oneF (rdF R n) s (i + 1)).2.2.2 = 0 → i < (oneF (rdF R n) s (i + 1)).2.2.1 ∧ (oneF (rdF R n) s (i + 1)).2.2.1 ≤ R.text.size ∧ K.E s (i + 1) (oneF (rdF R n) s (i + 1)).1 (oneF (rdF R n) s (i + 1)).2.2.1 ∧ ∀ t ∈ (oneF (rdF R n) s (i + 1)).2.1, K.V (oneF (rdF R n) s (i + 1)).1 t := fun h => by
              obtain ⟨h1, h2, h3, h4⟩ := hg0 h
              refine ⟨Nat.lt_trans (show i < i + 1 by omega) h1, h2, h3, fun t ht => ?_⟩
              simp only [oneF, List.mem_cons, List.mem_nil_iff, or_false] at ht
              rw [ht]; exact h4
            have hl : (oneF (rdF R n) s (i + 1)).2.1.length = 1 := rfl
            have hts : R.Shape (bt R.text i) (oneF (rdF R n) s (i + 1)).2.1.length := .inr (.inl ⟨by simpa using hT, hO, rfl⟩)
            have hrow : ∀ (H : List Blk), H ++ [(⟨0, false, 1, [i6 (rdF R n s (i + 1) 0).2.1], none⟩ : Blk)] = H ++ [⟨0, false, 1, ints (oneF (rdF R n) s (i + 1)).2.1, none⟩] := fun H => rfl
            have hp1 : (rdF R n s (i + 1) 0).1 = (oneF (rdF R n) s (i + 1)).1 := rfl
            have hp2 : (rdF R n s (i + 1) 0).2.2.1 = (oneF (rdF R n) s (i + 1)).2.2.1 := rfl
            have hp3 : (rdF R n s (i + 1) 0).2.2.2 = (oneF (rdF R n) s (i + 1)).2.2.2 := rfl
            obtain ⟨p, ep⟩ : ∃ p, oneF (rdF R n) s (i + 1) = p := ⟨_, rfl⟩
            rw [ep] at hq hg hts hl hp1 hp2 hp3
            refine br_intro' (fun z => ?_) (fun z => ?_) <;> simp [z, Z.get]
            · rw [hset]
              refine all_call rfl hX (by simp [Z.len]) ?_; simp
              rw [hrow, ep, hp1, hp2, hp3, Z.len]
              simp [getA]
              by_cases hc : p.2.2.2 = 0
              · obtain ⟨g1, g2, g3, g4⟩ := hg hc
                obtain ⟨G, j1, j2, j3⟩ := Z.join hW hlt g3 g2 hts g4
                have hqq : q = ((R.join p.1 (bt R.text i) p.2.1 p.2.2.1).1, (R.join p.1 (bt R.text i) p.2.1 p.2.2.1).2.1, p.2.2.1, (R.join p.1 (bt R.text i) p.2.1 p.2.2.1).2.2) := by rw [hq]; unfold Rdr.fin; rw [if_pos hc]
                simp [hc, getA]
                refine ck_intro' Z.ej ?_; simp
                rw [hl] at j2
                refine all_call rfl (by simpa using j2) (by simp [Z.len]; omega) ?_; simp
                rw [hqq, Z.len]
                exact j3
              · simp [hc]
                rw [hq, show R.fin (bt R.text i) p = (p.1, -1, p.2.2.1, p.2.2.2) from if_neg hc]
                exact LeV.drop (by simp [Z.len]) (by rw [Z.len]; exact Z.cl _ _ _) (by simp)
            · refine one _ (by decide) rfl ?_; simp
              refine br_intro' (fun z1 => ?_) (fun z1 => ?_) <;> simp [z1, Z.get]
              · refine one _ hmz rfl ?_; simp
                refine br_intro' (fun z2 => ?_) (fun z2 => ?_) <;> simp [z2, Z.get]
                · rw [hset]
                  refine all_call rfl hX (by simp [Z.len]) ?_; simp
                  rw [hrow, ep, hp1, hp2, hp3, Z.len]
                  simp [getA]
                  by_cases hc : p.2.2.2 = 0
                  · obtain ⟨g1, g2, g3, g4⟩ := hg hc
                    obtain ⟨G, j1, j2, j3⟩ := Z.join hW hlt g3 g2 hts g4
                    have hqq : q = ((R.join p.1 (bt R.text i) p.2.1 p.2.2.1).1, (R.join p.1 (bt R.text i) p.2.1 p.2.2.1).2.1, p.2.2.1, (R.join p.1 (bt R.text i) p.2.1 p.2.2.1).2.2) := by rw [hq]; unfold Rdr.fin; rw [if_pos hc]
                    simp [hc, getA]
                    refine ck_intro' Z.ej ?_; simp
                    rw [hl] at j2
                    refine all_call rfl (by simpa using j2) (by simp [Z.len]; omega) ?_; simp
                    rw [hqq, Z.len]
                    exact j3
                  · simp [hc]
                    rw [hq, show R.fin (bt R.text i) p = (p.1, -1, p.2.2.1, p.2.2.2) from if_neg hc]
                    exact LeV.drop (by simp [Z.len]) (by rw [Z.len]; exact Z.cl _ _ _) (by simp)
                · exact absurd hO (by simp [Rdr.isOne, z, z1, z2])
              · exact absurd hO (by simp [Rdr.isOne, z, z1])
          · refine br_intro' (fun z => ?_) (fun z => ?_) <;> simp [z, Z.get]
            · exact absurd (show R.isOne (bt R.text i) = true by simp [Rdr.isOne, z]) hO
            · refine one _ (by decide) rfl ?_; simp
              refine br_intro' (fun z1 => ?_) (fun z1 => ?_) <;> simp [z1, Z.get]
              · refine one _ hmz rfl ?_; simp
                refine br_intro' (fun z2 => ?_) (fun z2 => ?_) <;> simp [z2, Z.get]
                · exact absurd (show R.isOne (bt R.text i) = true by simp [Rdr.isOne, z, z1, z2]) hO
                · clear z z1 z2
                  refine one _ (by decide) rfl ?_; simp
                  by_cases hA : R.isArg (bt R.text i) = true
                  · have hq : q = R.fin (bt R.text i) (R.two (rdF R n) 41 s (takeF R.text (i + 1) 0 40).1 (takeF R.text (i + 1) 0 40).2) := by
                      rw [← eq]
                      simp only [rdF]
                      rw [if_neg (by simp), if_neg u, if_neg hL, if_neg hT, if_neg hO, if_pos hA]
                    have hX := Z.two ih (s := s) (i := (takeF R.text (i + 1) 0 40).1) (c := (takeF R.text (i + 1) 0 40).2) (e := 41) (fun h0 => by
                      obtain ⟨_, t2, t3⟩ := takeF_ok h0
                      rw [t3]
                      exact ⟨K.W_E hW1 (K.E_step _ _), by omega, by omega⟩)
                    have hg := K.arg_good n (s := s) (i := i) hW hlt (by omega)
                    have hl : (R.two (rdF R n) 41 s (takeF R.text (i + 1) 0 40).1 (takeF R.text (i + 1) 0 40).2).2.1.length = 2 := rfl
                    have hts : R.Shape (bt R.text i) (R.two (rdF R n) 41 s (takeF R.text (i + 1) 0 40).1 (takeF R.text (i + 1) 0 40).2).2.1.length := .inr (.inr ⟨by simpa using hT, by simpa using hO, hA, rfl⟩)
                    have hK := Z.take s (i + 1) 0 40
                    obtain ⟨p, ep⟩ : ∃ p, R.two (rdF R n) 41 s (takeF R.text (i + 1) 0 40).1 (takeF R.text (i + 1) 0 40).2 = p := ⟨_, rfl⟩
                    rw [ep] at hq hX hg hts hl
                    refine br_intro' (fun z => ?_) (fun z => ?_) <;> simp [z, Z.get]
                    · rw [hset]
                      refine all_call rfl hK (by simp [Z.len]) ?_; simp
                      refine all_call rfl hX (by simp [Z.len]) ?_; simp
                      simp [getA]
                      by_cases hc : p.2.2.2 = 0
                      · obtain ⟨g1, g2, g3, g4⟩ := hg hc
                        obtain ⟨G, j1, j2, j3⟩ := Z.join hW hlt g3 g2 hts g4
                        have hqq : q = ((R.join p.1 (bt R.text i) p.2.1 p.2.2.1).1, (R.join p.1 (bt R.text i) p.2.1 p.2.2.1).2.1, p.2.2.1, (R.join p.1 (bt R.text i) p.2.1 p.2.2.1).2.2) := by rw [hq]; unfold Rdr.fin; rw [if_pos hc]
                        simp [hc, getA]
                        refine ck_intro' Z.ej ?_; simp
                        rw [hl] at j2
                        refine all_call rfl (by simpa using j2) (by simp [Z.len]; omega) ?_; simp
                        rw [hqq, Z.len]
                        exact j3
                      · simp [hc]
                        rw [hq, show R.fin (bt R.text i) p = (p.1, -1, p.2.2.1, p.2.2.2) from if_neg hc]
                        exact LeV.drop (by simp [Z.len]) (by rw [Z.len]; exact Z.cl _ _ _) (by simp)
                    · refine one _ (by decide) rfl ?_; simp
                      refine br_intro' (fun z1 => ?_) (fun z1 => ?_) <;> simp [z1, Z.get]
                      · refine one _ hmz rfl ?_; simp
                        refine br_intro' (fun z2 => ?_) (fun z2 => ?_) <;> simp [z2, Z.get]
                        · rw [hset]
                          refine all_call rfl hK (by simp [Z.len]) ?_; simp
                          refine all_call rfl hX (by simp [Z.len]) ?_; simp
                          simp [getA]
                          by_cases hc : p.2.2.2 = 0
                          · obtain ⟨g1, g2, g3, g4⟩ := hg hc
                            obtain ⟨G, j1, j2, j3⟩ := Z.join hW hlt g3 g2 hts g4
                            have hqq : q = ((R.join p.1 (bt R.text i) p.2.1 p.2.2.1).1, (R.join p.1 (bt R.text i) p.2.1 p.2.2.1).2.1, p.2.2.1, (R.join p.1 (bt R.text i) p.2.1 p.2.2.1).2.2) := by rw [hq]; unfold Rdr.fin; rw [if_pos hc]
                            simp [hc, getA]
                            refine ck_intro' Z.ej ?_; simp
                            rw [hl] at j2
                            refine all_call rfl (by simpa using j2) (by simp [Z.len]; omega) ?_; simp
                            rw [hqq, Z.len]
                            exact j3
                          · simp [hc]
                            rw [hq, show R.fin (bt R.text i) p = (p.1, -1, p.2.2.1, p.2.2.2) from if_neg hc]
                            exact LeV.drop (by simp [Z.len]) (by rw [Z.len]; exact Z.cl _ _ _) (by simp)
                        · exact absurd hA (by simp [Rdr.isArg, z, z1, z2])
                      · exact absurd hA (by simp [Rdr.isArg, z, z1])
                  · have hq : q = (s, -1, i, 3) := by
                      rw [← eq]
                      simp only [rdF]
                      rw [if_neg (by simp), if_neg u, if_neg hL, if_neg hT, if_neg hO, if_neg hA]
                    refine br_intro' (fun z => ?_) (fun z => ?_) <;> simp [z, Z.get]
                    · exact absurd (show R.isArg (bt R.text i) = true by simp [Rdr.isArg, z]) hA
                    · refine one _ (by decide) rfl ?_; simp
                      refine br_intro' (fun z1 => ?_) (fun z1 => ?_) <;> simp [z1, Z.get]
                      · refine one _ hmz rfl ?_; simp
                        refine br_intro' (fun z2 => ?_) (fun z2 => ?_) <;> simp [z2, Z.get]
                        · exact absurd (show R.isArg (bt R.text i) = true by simp [Rdr.isArg, z, z1, z2]) hA
                        · refine all_call rfl (Z.fail s i 0 3 i) (by simp [Z.len]) ?_; simp [failF]
                          rw [hq]
                          exact LeV.refl _ _ _
                      · refine all_call rfl (Z.fail s i 0 3 i) (by simp [Z.len]) ?_; simp [failF]
                        rw [hq]
                        exact LeV.refl _ _ _
              · clear z z1
                refine one _ (by decide) rfl ?_; simp
                by_cases hA : R.isArg (bt R.text i) = true
                · have hq : q = R.fin (bt R.text i) (R.two (rdF R n) 41 s (takeF R.text (i + 1) 0 40).1 (takeF R.text (i + 1) 0 40).2) := by
                    rw [← eq]
                    simp only [rdF]
                    rw [if_neg (by simp), if_neg u, if_neg hL, if_neg hT, if_neg hO, if_pos hA]
                  have hX := Z.two ih (s := s) (i := (takeF R.text (i + 1) 0 40).1) (c := (takeF R.text (i + 1) 0 40).2) (e := 41) (fun h0 => by
                    obtain ⟨_, t2, t3⟩ := takeF_ok h0
                    rw [t3]
                    exact ⟨K.W_E hW1 (K.E_step _ _), by omega, by omega⟩)
                  have hg := K.arg_good n (s := s) (i := i) hW hlt (by omega)
                  have hl : (R.two (rdF R n) 41 s (takeF R.text (i + 1) 0 40).1 (takeF R.text (i + 1) 0 40).2).2.1.length = 2 := rfl
                  have hts : R.Shape (bt R.text i) (R.two (rdF R n) 41 s (takeF R.text (i + 1) 0 40).1 (takeF R.text (i + 1) 0 40).2).2.1.length := .inr (.inr ⟨by simpa using hT, by simpa using hO, hA, rfl⟩)
                  have hK := Z.take s (i + 1) 0 40
                  obtain ⟨p, ep⟩ : ∃ p, R.two (rdF R n) 41 s (takeF R.text (i + 1) 0 40).1 (takeF R.text (i + 1) 0 40).2 = p := ⟨_, rfl⟩
                  rw [ep] at hq hX hg hts hl
                  refine br_intro' (fun z => ?_) (fun z => ?_) <;> simp [z, Z.get]
                  · rw [hset]
                    refine all_call rfl hK (by simp [Z.len]) ?_; simp
                    refine all_call rfl hX (by simp [Z.len]) ?_; simp
                    simp [getA]
                    by_cases hc : p.2.2.2 = 0
                    · obtain ⟨g1, g2, g3, g4⟩ := hg hc
                      obtain ⟨G, j1, j2, j3⟩ := Z.join hW hlt g3 g2 hts g4
                      have hqq : q = ((R.join p.1 (bt R.text i) p.2.1 p.2.2.1).1, (R.join p.1 (bt R.text i) p.2.1 p.2.2.1).2.1, p.2.2.1, (R.join p.1 (bt R.text i) p.2.1 p.2.2.1).2.2) := by rw [hq]; unfold Rdr.fin; rw [if_pos hc]
                      simp [hc, getA]
                      refine ck_intro' Z.ej ?_; simp
                      rw [hl] at j2
                      refine all_call rfl (by simpa using j2) (by simp [Z.len]; omega) ?_; simp
                      rw [hqq, Z.len]
                      exact j3
                    · simp [hc]
                      rw [hq, show R.fin (bt R.text i) p = (p.1, -1, p.2.2.1, p.2.2.2) from if_neg hc]
                      exact LeV.drop (by simp [Z.len]) (by rw [Z.len]; exact Z.cl _ _ _) (by simp)
                  · refine one _ (by decide) rfl ?_; simp
                    refine br_intro' (fun z1 => ?_) (fun z1 => ?_) <;> simp [z1, Z.get]
                    · refine one _ hmz rfl ?_; simp
                      refine br_intro' (fun z2 => ?_) (fun z2 => ?_) <;> simp [z2, Z.get]
                      · rw [hset]
                        refine all_call rfl hK (by simp [Z.len]) ?_; simp
                        refine all_call rfl hX (by simp [Z.len]) ?_; simp
                        simp [getA]
                        by_cases hc : p.2.2.2 = 0
                        · obtain ⟨g1, g2, g3, g4⟩ := hg hc
                          obtain ⟨G, j1, j2, j3⟩ := Z.join hW hlt g3 g2 hts g4
                          have hqq : q = ((R.join p.1 (bt R.text i) p.2.1 p.2.2.1).1, (R.join p.1 (bt R.text i) p.2.1 p.2.2.1).2.1, p.2.2.1, (R.join p.1 (bt R.text i) p.2.1 p.2.2.1).2.2) := by rw [hq]; unfold Rdr.fin; rw [if_pos hc]
                          simp [hc, getA]
                          refine ck_intro' Z.ej ?_; simp
                          rw [hl] at j2
                          refine all_call rfl (by simpa using j2) (by simp [Z.len]; omega) ?_; simp
                          rw [hqq, Z.len]
                          exact j3
                        · simp [hc]
                          rw [hq, show R.fin (bt R.text i) p = (p.1, -1, p.2.2.1, p.2.2.2) from if_neg hc]
                          exact LeV.drop (by simp [Z.len]) (by rw [Z.len]; exact Z.cl _ _ _) (by simp)
                      · exact absurd hA (by simp [Rdr.isArg, z, z1, z2])
                    · exact absurd hA (by simp [Rdr.isArg, z, z1])
                · have hq : q = (s, -1, i, 3) := by
                    rw [← eq]
                    simp only [rdF]
                    rw [if_neg (by simp), if_neg u, if_neg hL, if_neg hT, if_neg hO, if_neg hA]
                  refine br_intro' (fun z => ?_) (fun z => ?_) <;> simp [z, Z.get]
                  · exact absurd (show R.isArg (bt R.text i) = true by simp [Rdr.isArg, z]) hA
                  · refine one _ (by decide) rfl ?_; simp
                    refine br_intro' (fun z1 => ?_) (fun z1 => ?_) <;> simp [z1, Z.get]
                    · refine one _ hmz rfl ?_; simp
                      refine br_intro' (fun z2 => ?_) (fun z2 => ?_) <;> simp [z2, Z.get]
                      · exact absurd (show R.isArg (bt R.text i) = true by simp [Rdr.isArg, z, z1, z2]) hA
                      · refine all_call rfl (Z.fail s i 0 3 i) (by simp [Z.len]) ?_; simp [failF]
                        rw [hq]
                        exact LeV.refl _ _ _
                    · refine all_call rfl (Z.fail s i 0 3 i) (by simp [Z.len]) ?_; simp [failF]
                      rw [hq]
                      exact LeV.refl _ _ _
end
end Go.Proofs.YtoegiepfcdkjaaaDoor.C

set_option linter.unusedVariables false
set_option linter.unusedSimpArgs false
set_option maxRecDepth 4000
namespace Go.Proofs.YtoegiepfcdkjaaaDoor.C
open Go.Sym Go.Proofs.YtoegiepfcdkjaaaDoor.I
/-- All of a text. -/
def allRF {σ : Type} (R : Rdr σ) (most : Int) (s : σ) : σ × Int × Nat × Int :=
  if most < R.text.size then (s, -1, 0, 1)
  else if (rdF R (R.text.size + 1) s 0 0).2.2.2 = 0 ∧ (rdF R (R.text.size + 1) s 0 0).2.2.1 < R.text.size then ((rdF R (R.text.size + 1) s 0 0).1, -1, (rdF R (R.text.size + 1) s 0 0).2.2.1, 6)
  else rdF R (R.text.size + 1) s 0 0
theorem RdrRun.all {σ : Type} {R : Rdr σ} {K : RdrOk R} (Z : RdrRun K) {s : σ} {most : Int} (hW : K.W s 0) : T 33 [rptr Z.b, i6 most] (Z.Hs s 0 0) (i6 (allRF R most s).2.1) (Z.Hs (allRF R most s).1 (allRF R most s).2.2.1 (allRF R most s).2.2.2) := by
  obtain ⟨a, ea⟩ : ∃ a, allRF R most s = a := ⟨_, rfl⟩
  have hX := Z.reads (R.text.size + 1) s 0 0 (fun _ => ⟨hW, Nat.zero_le _, by omega⟩)
  obtain ⟨p, ep⟩ : ∃ p, rdF R (R.text.size + 1) s 0 0 = p := ⟨_, rfl⟩
  have hz := Z.size
  simp only [allRF, ep] at ea
  rw [ep] at hX
  rw [show allRF R most s = a by simp only [allRF, ep]; exact ea]
  refine semT' (S := fun _ => true) hm impl_reader_all_ok (Nat.le_of_ble_eq_true rfl) ?_
  unfold impl_reader_all; dsimp only
  simp [Z.get]
  refine br_intro' (fun u => ?_) (fun u => ?_) <;> (have u0 := u) <;> simp only [decide_eq_true_eq, decide_eq_false_iff_not] at u <;> simp [u0, Z.get]
  · rw [if_pos u] at ea
    refine all_call rfl (Z.fail s 0 0 1 0) (by simp [Z.len]) ?_; simp [failF]
    rw [← ea]
    exact LeV.refl _ _ _
  rw [if_neg u] at ea
  refine all_call rfl (by simpa using hX) (by simp [Z.len]) ?_; simp [Z.get]
  by_cases hc : p.2.2.2 = 0
  · simp [hc, Z.get]
    repeat (refine ck_intro' (by first | omega | (simp; omega) | kernel_rfl) ?_; try simp [Z.get])
    refine br_intro' (fun v => ?_) (fun v => ?_) <;> (have v0 := v) <;> simp only [decide_eq_true_eq, decide_eq_false_iff_not] at v <;> simp [v0, Z.get]
    · rw [if_pos ⟨hc, by omega⟩] at ea
      refine all_call rfl (Z.fail p.1 p.2.2.1 0 6 p.2.2.1) (by simp [Z.len]) ?_; simp [failF]
      rw [← ea]
      exact LeV.refl _ _ _
    · rw [if_neg (by omega)] at ea
      rw [← ea, hc]
      exact LeV.refl _ _ _
  · simp [hc, Z.get]
    repeat (refine ck_intro' (by first | omega | (simp; omega) | kernel_rfl) ?_; try simp [Z.get])
    rw [if_neg (fun g => hc g.1)] at ea
    rw [← ea]
    exact LeV.refl _ _ _
end Go.Proofs.YtoegiepfcdkjaaaDoor.C

set_option linter.unusedVariables false
set_option linter.unusedSimpArgs false
set_option maxRecDepth 4000
namespace Go.Proofs.YtoegiepfcdkjaaaDoor.C
open Go.Sym Go.Proofs.YtoegiepfcdkjaaaDoor.I
/-- A term put into a pool, by a reader: what is wrong where it may not. -/
def fullF (p : List Nd × Int) : List Nd × Int × Int := if p.2 < 0 then (p.1, -1, 5) else (p.1, p.2, 0)
/-- A name in a reader of terms. -/
def nmF (tx : ByteArray) (s : List Nd) (i : Nat) : List Nd × Int × Nat × Int :=
  if (numF tx (i + 1) i).2.2 = 0 then ((fullF (addF s ⟨1, (numF tx (i + 1) i).1, 0⟩)).1, (fullF (addF s ⟨1, (numF tx (i + 1) i).1, 0⟩)).2.1, dEnd tx (i + 1), (fullF (addF s ⟨1, (numF tx (i + 1) i).1, 0⟩)).2.2)
  else (s, -1, i, 4)
/-- A sign with parts in a reader of terms. -/
def jnF (s : List Nd) (b : Int) (ts : List Int) : List Nd × Int × Int := fullF (addF s ⟨kindF b, ts.getD 0 0, ts.getD 1 0⟩)
def trmR (tx : ByteArray) : Rdr (List Nd) where
  text := tx
  more := ⟨#[]⟩
  leaf s _ i := nmF tx s i
  join s b ts _ := jnF s b ts
theorem addF_rng (ns : List Nd) (n : Nd) : (addF ns n).2 = -1 ∨ (0 ≤ (addF ns n).2 ∧ (addF ns n).2 < (addF ns n).1.length) := by
  unfold addF
  split
  · exact .inl rfl
  · split
    · rename_i h
      right
      refine ⟨h, ?_⟩
      simp only
      have : ∀ (xs : List Nd) (n : Nd) (i : Int), 0 ≤ i → findF xs n i = -1 ∨ (i ≤ findF xs n i ∧ findF xs n i < i + xs.length) := by
        intro xs
        induction xs with
        | nil => intro n i _; exact .inl rfl
        | cons x xs ih =>
          intro n i hi
          unfold findF
          split
          · right; simp; omega
          · rcases ih n (i + 1) (by omega) with g | g
            · exact .inl g
            · right; simp; omega
      rcases this ns (normN n) 0 (by omega) with g | g <;> omega
    · split
      · exact .inl rfl
      · right; simp; omega
theorem addF_ext (ns : List Nd) (n : Nd) : ns <+: (addF ns n).1 := by
  unfold addF
  split
  · exact List.prefix_refl _
  · split
    · exact List.prefix_refl _
    · split
      · exact List.prefix_refl _
      · exact List.prefix_append _ _
theorem fullF_ok {p : List Nd × Int} (h : (fullF p).2.2 = 0) : 0 ≤ p.2 ∧ (fullF p).1 = p.1 ∧ (fullF p).2.1 = p.2 := by
  unfold fullF at h ⊢
  split
  · rename_i g; rw [if_pos g] at h; simp at h
  · rename_i g; exact ⟨by omega, rfl, rfl⟩
theorem numF_ok {tx : ByteArray} {i : Nat} {fr : Int} (h : (numF tx i fr).2.2 = 0) : (numF tx i fr).1 = figV 9 (dgRun tx i) ∧ 0 ≤ figV 9 (dgRun tx i) ∧ figV 9 (dgRun tx i) ≤ 199 ∧ numF tx i fr = (figV 9 (dgRun tx i), (dEnd tx i : Int), 0) := by
  unfold numF at h ⊢
  split
  · rename_i g; exact ⟨rfl, g.1, g.2, rfl⟩
  · rename_i g; rw [if_neg g] at h; simp at h
/-- What a reader of terms keeps. -/
def trmK (tx : ByteArray) : RdrOk (trmR tx) where
  W s _ := poolF s = true
  E s i s' i' := s <+: s' ∧ i ≤ i' ∧ (poolF s = true → poolF s' = true)
  V s t := 0 ≤ t ∧ t < s.length
  E_step s i := ⟨List.prefix_refl _, by omega, id⟩
  E_trans h1 h2 := ⟨h1.1.trans h2.1, Nat.le_trans h1.2.1 h2.2.1, fun h => h2.2.2 (h1.2.2 h)⟩
  W_E h1 h2 := h2.2.2 h1
  V_E h1 h2 := ⟨h1.1, by have := h2.1.length_le; omega⟩
  leaf_ok {s i} hW hi hL h := by
    have hi : i < tx.size := hi
    simp only [trmR, nmF] at h ⊢
    split at h
    · rename_i g
      rw [if_pos g]
      obtain ⟨g1, g2, g3⟩ := fullF_ok h
      rw [g2, g3]
      have h1 := dEnd_ge tx (i + 1)
      have h2 := dEnd_le (s := tx) (i := i + 1) (by omega)
      refine ⟨by simp only; omega, h2, ⟨addF_ext _ _, by simp only; omega, fun h => addF_pool _ h⟩, ?_⟩
      rcases addF_rng s ⟨1, (numF tx (i + 1) i).1, 0⟩ with k | k
      · omega
      · exact k
    · simp at h
  join_ok {s0 i s i' ts} hW hE hS hV h := by
    simp only [trmR, jnF] at h ⊢
    obtain ⟨g1, g2, g3⟩ := fullF_ok h
    rw [g2, g3]
    refine ⟨⟨hE.1.trans (addF_ext _ _), Nat.le_trans (Nat.le_succ i) hE.2.1, fun h => addF_pool _ (hE.2.2 h)⟩, ?_⟩
    rcases addF_rng s ⟨kindF (bt tx i), ts.getD 0 0, ts.getD 1 0⟩ with k | k
    · omega
    · exact k
end Go.Proofs.YtoegiepfcdkjaaaDoor.C

set_option linter.unusedVariables false
set_option linter.unusedSimpArgs false
set_option maxRecDepth 4000
namespace Go.Proofs.YtoegiepfcdkjaaaDoor.C
open Go.Sym Go.Proofs.YtoegiepfcdkjaaaDoor.I
/-- A number's text. -/
def numB (n : Int) : ByteArray := ⟨(Lib.itoa n).toArray⟩
theorem itoa_call {n : Int} (h0 : -9223372036854775808 ≤ n) (h1 : n ≤ 9223372036854775807) {S : FuncId → Bool} {H : List Blk} {K : A → Dl → Prop} (hS : S 68 = false) (hK : K (.str (numB n)) (.news [])) : @WCall' Go.Proofs.Tryd.prog S 68 [i6 n] H ⟨K⟩ :=
  WCall_pure hS (itoa_t h0 h1) (by simp) (by simp) (by simp) hK
/-- Rows of texts. -/
def strs (xs : List ByteArray) : List A := xs.map A.str
@[simp] theorem strs_len (xs : List ByteArray) : (strs xs).length = xs.length := List.length_map ..
@[simp] theorem strs_scals (xs : List ByteArray) : scals (strs xs) = true := scals_map _ (fun _ => rfl) xs
@[simp] theorem strs_view (n : Nat) (H : List Blk) (xs : List ByteArray) : viewL (viewA (n + 1) H) (strs xs) = some (strs xs) := viewL_scals _ (strs_scals xs)
@[simp] theorem strs_noOwns (xs : List ByteArray) : noOwns (strs xs) = true := noOwns_scals _ (strs_scals xs)
@[simp] theorem strs_nosls (xs : List ByteArray) : nosls (strs xs) = true := nosls_scals _ (strs_scals xs)
@[simp] theorem strs_shift (n : Nat) (xs : List ByteArray) : shiftAs n (strs xs) = strs xs := shiftAs_scals _ (strs_scals xs)
@[simp] theorem strs_inAs (m : Nat) (xs : List ByteArray) : inAs m (strs xs) = true := inAs_scals _ (strs_scals xs)
@[simp] theorem strs_tells (H H' : List Blk) (g : List (Option Nat)) (xs : List ByteArray) : Tells H H' g (strs xs) (strs xs) := Tells_scals _ (strs_scals xs)
@[simp] theorem strs_one (xs : List ByteArray) : (strs xs).all A.one = true := one_scals _ (strs_scals xs)
@[simp] theorem strs_take (xs : List ByteArray) : (strs xs).take xs.length = strs xs := List.take_of_length_le (by simp)
@[simp] theorem strs_nil : strs [] = [] := rfl
@[simp] theorem strs_get (xs : List ByteArray) (j : Nat) (h : j < (strs xs).length) : (strs xs)[j] = .str (xs[j]'(by simpa using h)) := by simp [strs]
theorem strs_at {xs : List ByteArray} {j : Nat} (h : j < xs.length) : (strs xs)[j]? = some (.str xs[j]) := by simp [strs, h]
theorem strs_set (xs : List ByteArray) (j : Nat) (b : ByteArray) : (strs xs).set j (.str b) = strs (xs.set j b) := by simp [strs, List.map_set]
theorem strs_rep (n : Nat) : strs (List.replicate n ⟨#[]⟩) = List.replicate n (.str ⟨#[]⟩) := by simp [strs]
theorem strs_snoc (xs : List ByteArray) (x : ByteArray) : strs (xs ++ [x]) = strs xs ++ [.str x] := by simp [strs]
abbrev aTx (xs : List ByteArray) : A := .sl xs.length (strs xs)
abbrev xblk (xs : List ByteArray) : Blk := ⟨xs.length, decide (xs.length = 0), 1, strs xs, none⟩
abbrev xref (b : Nat) (xs : List ByteArray) : A := .ref b xs.length 0 xs.length
theorem numB_app (n : Int) (h : 10 ≤ n) : numB n = numB (n / 10) ++ ⟨#[UInt8.ofNat (48 + n.toNat % 10)]⟩ := by
  obtain ⟨k, rfl⟩ : ∃ k : Nat, n = k := ⟨n.toNat, by omega⟩
  refine ba_ext ?_
  have e1 : ((k : Int) / 10).toNat = k / 10 := by omega
  have e2 : ¬ (k : Int) / 10 < 0 := by omega
  rw [bl_app]
  simp only [numB, bl, Lib.itoa, if_neg (show ¬ (k : Int) < 0 by omega), if_neg e2, e1, Int.toNat_natCast]
  rw [Lib.decDigits, dif_neg (by omega)]
theorem numB_one (n : Int) (h0 : 0 ≤ n) (h : n < 10) : numB n = ⟨#[UInt8.ofNat (48 + n.toNat % 10)]⟩ := by
  obtain ⟨k, rfl⟩ : ∃ k : Nat, n = k := ⟨n.toNat, by omega⟩
  refine ba_ext ?_
  simp only [numB, bl, Lib.itoa, if_neg (show ¬ (k : Int) < 0 by omega), Int.toNat_natCast]
  rw [Lib.decDigits, dif_pos (by omega), Nat.mod_eq_of_lt (by omega)]
theorem dec_len : ∀ (k u : Nat), u < 10 ^ (k + 1) → (Lib.decDigits u).length ≤ k + 1
  | 0, u, h => by rw [Lib.decDigits, dif_pos (by simpa using h)]; simp
  | k + 1, u, h => by
    rw [Lib.decDigits]
    split
    · simp
    · have := dec_len k (u / 10) (by rw [Nat.div_lt_iff_lt_mul (by omega)]; rw [Nat.pow_succ] at h; exact h)
      simp; omega
theorem numB_size {n : Int} (h0 : 0 ≤ n) (h1 : n ≤ 9223372036854775807) : (numB n).size ≤ 20 := by
  have e : (numB n).size = (Lib.decDigits n.toNat).length := by
    simp only [numB, Lib.itoa, if_neg (show ¬ n < 0 by omega)]
    rfl
  rw [e]
  exact dec_len 19 _ (by omega)
theorem spec_l4Num_c (n : Int) (h0 : 0 ≤ n) (h1 : n ≤ 9223372036854775807) : T 73 [i6 n] [] (.str (numB n)) ([]) := by
  refine semT' (S := S0) hm spec_l4Num_ok (Nat.le_of_ble_eq_true rfl) ?_
  unfold spec_l4Num; dsimp only
  simp
  refine br_intro' (fun u => ?_) (fun u => ?_) <;> (have u0 := u) <;> simp only [decide_eq_true_eq, decide_eq_false_iff_not] at u <;> simp [u0]
  · obtain rfl : n = 0 := by omega
    exact LeV.ro rfl rfl (by rw [numB_one 0 (by omega) (by omega)]; rfl)
  refine WLoop_fam (fun p : Int × ByteArray => [(0, i6 p.1), (3, .str p.2)]) (fun _ => []) (fun p => p.1.toNat)
    (fun p => 0 ≤ p.1 ∧ p.1 ≤ n ∧ (p.1 = 0 → numB n = p.2) ∧ (0 < p.1 → numB n = numB p.1 ++ p.2)) ?_ (n, ⟨#[]⟩) ⟨h0, Int.le_refl _, fun e => by simp only at e; omega, fun _ => ba_ext (by rw [bl_app]; simp [bl])⟩
  rintro ⟨m, out⟩ ⟨hm0, hm1, hz, hp⟩ ih
  simp only at hm0 hm1 hz hp
  simp
  refine br_intro' (fun v => ?_) (fun v => ?_) <;> (have v0 := v) <;> simp only [decide_eq_true_eq, decide_eq_false_iff_not] at v <;> simp [v0]
  · have hm : (m.tmod 10) = m % 10 := Int.tmod_eq_emod_of_nonneg hm0
    have hq : (m.tdiv 10) = m / 10 := Int.tdiv_eq_ediv_of_nonneg hm0
    have w1 : IntKind.i64.wrap (48 + m % 10) = 48 + m % 10 := wrap64 (by omega) (by omega)
    have w2 : IntKind.u8.wrap (48 + m % 10) = 48 + m % 10 := by
      have : IntKind.u8.wrap (48 + m % 10) = (48 + m % 10) % 256 := rfl
      rw [this]; omega
    have hb : b8s [A.int IntKind.u8 (48 + m % 10)] = some [UInt8.ofNat (48 + m % 10).toNat] := by
      simp [b8s]
    have hc : UInt8.ofNat (48 + m % 10).toNat = UInt8.ofNat (48 + m.toNat % 10) := by
      congr 1
      omega
    rw [hm, w1, w2]
    simp [hb, hc, hq]
    have hs := numB_size h0 h1
    have e := hp v
    have hsz : (numB n).size = (numB m).size + out.size := by rw [e]; simp
    refine ck_intro' (by have : ByteArray.size ⟨#[48 + UInt8.ofNat (m.toNat % 10)]⟩ = 1 := rfl; omega) ?_; simp
    repeat (refine ck_intro' (by first | omega | (simp; omega) | kernel_rfl) ?_; try simp)
    have hc' : (⟨#[48 + UInt8.ofNat (m.toNat % 10)]⟩ : ByteArray) = ⟨#[UInt8.ofNat (48 + m.toNat % 10)]⟩ := by simp
    have w3 : IntKind.i64.wrap (m / 10) = m / 10 := wrap64 (by omega) (by omega)
    rw [hq, w3]
    refine WLoop_drop [] [⟨0, false, 1, [A.int .u8 (48 + m % 10)], none⟩] rfl (by simp) (by simp) (by simp) ?_
    refine ih (m / 10, ⟨#[48 + UInt8.ofNat (m.toNat % 10)]⟩ ++ out) ⟨by simp only; omega, by simp only; omega, fun hz => ?_, fun hp2 => ?_⟩ (by simp only; omega)
    · simp only at hz ⊢
      rw [e, numB_one m (by omega) (by omega), hc']
    · simp only at hp2 ⊢
      rw [e, numB_app m (by omega), hc']
      exact ba_ext (by simp [bl_app])
  · obtain rfl : m = 0 := by omega
    exact LeV.ro rfl rfl (by rw [hz rfl]; rfl)
theorem spec_l4Num_call {n : Int} (h0 : 0 ≤ n) (h1 : n ≤ 9223372036854775807) {S : FuncId → Bool} {H : List Blk} {K : A → Dl → Prop} (hS : S 73 = false) (hK : K (.str (numB n)) (.news [])) : @WCall' Go.Proofs.Tryd.prog S 73 [i6 n] H ⟨K⟩ :=
  WCall_pure hS (spec_l4Num_c n h0 h1) (by simp) (by simp) (by simp) hK
theorem spec_l4Num_k {n : Int} (h0 : 0 ≤ n) (h1 : n ≤ 9223372036854775807) {S : FuncId → Bool} {H : List Blk} {K : A → Dl → Prop} {zs : List A} (hS : S 73 = false) (hv : viewL (viewA 8 H) zs = some [i6 n]) (ho : noOwns zs = true ∨ nosl (.str (numB n)) = true) (hK : K (.str (numB n)) (.news [])) : @WCall' Go.Proofs.Tryd.prog S 73 zs H ⟨K⟩ :=
  WCall_pure hS (spec_l4Num_c n h0 h1) hv ho (by simp) hK
/-- What stands ahead of parts, and behind them. -/
def sgO (k : Int) : ByteArray := if k = 2 then ⟨#[40]⟩ else if k = 3 then ⟨#[123]⟩ else if k = 4 then ⟨#[91]⟩ else if k = 5 then ⟨#[35]⟩ else if k = 6 then ⟨#[107, 40]⟩ else if k = 7 then ⟨#[94]⟩ else ⟨#[42, 40]⟩
def sgE (k : Int) : ByteArray := if k = 2 then ⟨#[41]⟩ else if k = 3 then ⟨#[125]⟩ else if k = 4 then ⟨#[93]⟩ else if k = 5 then ⟨#[]⟩ else if k = 6 then ⟨#[41]⟩ else if k = 7 then ⟨#[]⟩ else ⟨#[41]⟩
theorem sg_size (k : Int) : (sgO k).size ≤ 2 ∧ (sgE k).size ≤ 1 := by
  constructor
  · unfold sgO; (repeat' split) <;> decide
  · unfold sgE; (repeat' split) <;> decide
theorem impl_signsOf_c (k : Int)  : T 92 [i6 k] [] (.tup [.str (sgO k), .str (sgE k)]) ([]) := by
  refine semT' (S := S0) hm impl_signsOf_ok (Nat.le_of_ble_eq_true rfl) ?_
  unfold impl_signsOf; dsimp only
  simp
  repeat (any_goals (first | (refine br_intro' (fun h => ?_) (fun h => ?_) <;> (have h0 := h) <;> (try simp at h) <;> try simp [h0, h])))
  all_goals exact LeV.ro rfl rfl (by simp [sgO, sgE, *])
theorem impl_signsOf_call {k : Int}  {S : FuncId → Bool} {H : List Blk} {K : A → Dl → Prop} (hS : S 92 = false) (hK : K (.tup [.str (sgO k), .str (sgE k)]) (.news [])) : @WCall' Go.Proofs.Tryd.prog S 92 [i6 k] H ⟨K⟩ :=
  WCall_pure hS (impl_signsOf_c k) (by simp) (by simp) (by simp) hK
theorem impl_signsOf_k {k : Int}  {S : FuncId → Bool} {H : List Blk} {K : A → Dl → Prop} {zs : List A} (hS : S 92 = false) (hv : viewL (viewA 8 H) zs = some [i6 k]) (ho : noOwns zs = true ∨ nosl (.tup [.str (sgO k), .str (sgE k)]) = true) (hK : K (.tup [.str (sgO k), .str (sgE k)]) (.news [])) : @WCall' Go.Proofs.Tryd.prog S 92 zs H ⟨K⟩ :=
  WCall_pure hS (impl_signsOf_c k) hv ho (by simp) hK
def joinB (k : Int) (a : ByteArray) : Option ByteArray → ByteArray
  | none => sgO k ++ a ++ sgE k
  | some b => sgO k ++ a ++ ⟨#[44]⟩ ++ b ++ sgE k
theorem sz1 (b : UInt8) : ByteArray.size ⟨#[b]⟩ = 1 := rfl
theorem sz2 (b c : UInt8) : ByteArray.size ⟨#[b, c]⟩ = 2 := rfl
theorem impl_joined_c (k : Int) (a : ByteArray) (o : Option ByteArray) (ha : a.size ≤ 281474976710656) (hb : ∀ b ∈ o, b.size ≤ 281474976710656) : T 70 [i6 k, aTx (a :: o.toList)] [] (.str (joinB k a o)) ([]) := by
  refine semT' (S := S0) hm impl_joined_ok (Nat.le_of_ble_eq_true rfl) ?_
  unfold impl_joined; dsimp only
  obtain ⟨g1, g2⟩ := sg_size k
  have g3 := sz1 44
  cases o with
  | none =>
    simp [strs]
    refine impl_signsOf_call (k := k) rfl ?_; simp [strs]
    refine ck_intro' (by omega) ?_; simp
    refine ck_intro' (by omega) ?_; simp
    repeat (refine ck_intro' (by first | omega | (simp; omega) | kernel_rfl) ?_; try simp)
    exact LeV.ro rfl rfl rfl
  | some b =>
    have hb' := hb b rfl
    simp [strs]
    refine impl_signsOf_call (k := k) rfl ?_; simp [strs]
    refine ck_intro' (by omega) ?_; simp
    have g4 : (sgO k ++ a).size = (sgO k).size + a.size := by simp
    refine ck_intro' (by omega) ?_; simp
    refine ck_intro' (by omega) ?_; simp
    refine ck_intro' (by omega) ?_; simp
    repeat (refine ck_intro' (by first | omega | (simp; omega) | kernel_rfl) ?_; try simp)
    exact LeV.ro rfl rfl rfl
theorem impl_joined_call {k : Int} {a : ByteArray} {o : Option ByteArray} (ha : a.size ≤ 281474976710656) (hb : ∀ b ∈ o, b.size ≤ 281474976710656) {S : FuncId → Bool} {H : List Blk} {K : A → Dl → Prop} (hS : S 70 = false) (hK : K (.str (joinB k a o)) (.news [])) : @WCall' Go.Proofs.Tryd.prog S 70 [i6 k, aTx (a :: o.toList)] H ⟨K⟩ :=
  WCall_pure hS (impl_joined_c k a o ha hb) (by simp) (by simp) (by simp) hK
theorem impl_joined_k {k : Int} {a : ByteArray} {o : Option ByteArray} (ha : a.size ≤ 281474976710656) (hb : ∀ b ∈ o, b.size ≤ 281474976710656) {S : FuncId → Bool} {H : List Blk} {K : A → Dl → Prop} {zs : List A} (hS : S 70 = false) (hv : viewL (viewA 8 H) zs = some [i6 k, aTx (a :: o.toList)]) (ho : noOwns zs = true ∨ nosl (.str (joinB k a o)) = true) (hK : K (.str (joinB k a o)) (.news [])) : @WCall' Go.Proofs.Tryd.prog S 70 zs H ⟨K⟩ :=
  WCall_pure hS (impl_joined_c k a o ha hb) hv ho (by simp) hK
end Go.Proofs.YtoegiepfcdkjaaaDoor.C

set_option linter.unusedVariables false
set_option linter.unusedSimpArgs false
set_option maxRecDepth 4000
namespace Go.Proofs.YtoegiepfcdkjaaaDoor.C
open Go.Sym Go.Proofs.YtoegiepfcdkjaaaDoor.I
/-- A list that is told piece by piece, each by those ahead of it. -/
def accL {α β : Type} (f : List β → α → β) (s : List α) : List β := s.foldl (fun L p => L ++ [f L p]) []
section
variable {α β : Type} (f : List β → α → β)
theorem accL_snoc (s : List α) (p : α) : accL f (s ++ [p]) = accL f s ++ [f (accL f s) p] := by simp [accL, List.foldl_append]
theorem accL_go : ∀ (s : List α) (L : List β), (s.foldl (fun L p => L ++ [f L p]) L).length = L.length + s.length
  | [], L => rfl
  | p :: s, L => by simp only [List.foldl_cons]; rw [accL_go s]; simp; omega
@[simp] theorem accL_len (s : List α) : (accL f s).length = s.length := by simp [accL, accL_go]
theorem accL_pre : ∀ (s : List α) (L : List β), L <+: s.foldl (fun L p => L ++ [f L p]) L
  | [], L => List.prefix_refl _
  | p :: s, L => (List.prefix_append _ _).trans (accL_pre s _)
theorem accL_take (s : List α) (j : Nat) (h : j ≤ s.length) : accL f (s.take j) = (accL f s).take j := by
  have e : accL f s = (s.drop j).foldl (fun L p => L ++ [f L p]) (accL f (s.take j)) := by
    have h1 : accL f (s.take j ++ s.drop j) = (s.drop j).foldl (fun L p => L ++ [f L p]) (accL f (s.take j)) := by
      simp only [accL, List.foldl_append]
    rwa [List.take_append_drop] at h1
  have hp := accL_pre f (s.drop j) (accL f (s.take j))
  rw [← e] at hp
  have hl : (accL f (s.take j)).length = j := by simp; omega
  have := List.prefix_iff_eq_take.1 hp
  rw [hl] at this
  exact this
theorem accL_at {s : List α} {j : Nat} (h : j < s.length) : (accL f s)[j]? = some (f ((accL f s).take j) s[j]) := by
  have e1 : accL f (s.take (j + 1)) = accL f (s.take j) ++ [f (accL f (s.take j)) s[j]] := by
    rw [← List.take_append_getElem h, accL_snoc]
  rw [accL_take f s (j + 1) (by omega), accL_take f s j (by omega)] at e1
  have e2 : (accL f s)[j]? = ((accL f s).take (j + 1))[j]? := by rw [List.getElem?_take_of_lt (by omega)]
  rw [e2, e1, List.getElem?_append_right (by simp; omega)]
  have : j - ((accL f s).take j).length = 0 := by simp; omega
  rw [this]
  rfl
end
theorem any_same {α : Type} {p q : α → Bool} : ∀ {l : List α}, (∀ x ∈ l, p x = q x) → l.any p = l.any q
  | [], _ => rfl
  | x :: l, h => by
    simp only [List.any_cons]
    rw [h x (by simp), any_same fun y hy => h y (by simp [hy])]
theorem takeF_at {tx : ByteArray} {i : Nat} {c e : Int} (h : (takeF tx i c e).2 = 0) : bt tx i = e := by
  unfold takeF at h
  split at h
  · rename_i g; exact absurd h g
  · split at h
    · simp at h
    · split at h
      · simp at h
      · rename_i g3
        simpa using g3
section
variable {σ : Type} {R : Rdr σ}
structure TwoOk (R : Rdr σ) (rd : σ → Nat → Int → σ × Int × Nat × Int) (s : σ) (i : Nat) (e : Int) (a b : σ × Int × Nat × Int) : Prop where
  ha : rd s i 0 = a
  ca : a.2.2.2 = 0
  la : a.2.2.1 < R.text.size
  sa : bt R.text a.2.2.1 = 44
  hb : rd a.1 (a.2.2.1 + 1) 0 = b
  cb : b.2.2.2 = 0
  lb : b.2.2.1 < R.text.size
  sb : bt R.text b.2.2.1 = e
theorem two_inv {n : Nat} {e : Int} {s : σ} {i : Nat} {c : Int} (h : (R.two (rdF R n) e s i c).2.2.2 = 0) : c = 0 ∧ ∃ a b, TwoOk R (rdF R n) s i e a b ∧ R.two (rdF R n) e s i c = (b.1, [a.2.1, b.2.1], b.2.2.1 + 1, 0) := by
  obtain ⟨a, ea⟩ : ∃ a, rdF R n s i c = a := ⟨_, rfl⟩
  obtain ⟨t, et⟩ : ∃ t, takeF R.text a.2.2.1 a.2.2.2 44 = t := ⟨_, rfl⟩
  obtain ⟨b, eb⟩ : ∃ b, rdF R n a.1 t.1 t.2 = b := ⟨_, rfl⟩
  obtain ⟨u, eu⟩ : ∃ u, takeF R.text b.2.2.1 b.2.2.2 e = u := ⟨_, rfl⟩
  have e2 : R.two (rdF R n) e s i c = (b.1, [a.2.1, b.2.1], u.1, u.2) := by simp only [Rdr.two, ea, et, eb, eu]
  rw [e2] at h ⊢
  have hu : (takeF R.text b.2.2.1 b.2.2.2 e).2 = 0 := by rw [eu]; exact h
  obtain ⟨cb, lb, u1⟩ := takeF_ok hu
  have sb := takeF_at hu
  have t0 : t.2 = 0 := by
    rcases Decidable.em (t.2 = 0) with g | g
    · exact g
    · rw [rdF_bad n _ _ g] at eb; rw [← eb] at cb; exact absurd cb g
  have ht : (takeF R.text a.2.2.1 a.2.2.2 44).2 = 0 := by rw [et]; exact t0
  obtain ⟨ca, la, t1⟩ := takeF_ok ht
  have sa := takeF_at ht
  have c0 : c = 0 := by
    rcases Decidable.em (c = 0) with g | g
    · exact g
    · rw [rdF_bad n _ _ g] at ea; rw [← ea] at ca; exact absurd ca g
  subst c0
  rw [et] at t1
  rw [eu] at u1
  rw [t1, t0] at eb
  refine ⟨rfl, a, b, ⟨ea, ca, la, sa, eb, cb, lb, sb⟩, ?_⟩
  have h' : u.2 = 0 := h
  rw [u1, h']
/-- How a reading without fault came about. -/
inductive RdBy (R : Rdr σ) (n : Nat) (s : σ) (i : Nat) : σ × Int × Nat × Int → Prop where
  | leaf (q : σ × Int × Nat × Int) (h : R.isLeaf (bt R.text i) = true) (hq : q = R.leaf s (bt R.text i) i) (hc : q.2.2.2 = 0) : RdBy R n s i q
  | two (q a b : σ × Int × Nat × Int) (h0 : R.isLeaf (bt R.text i) = false) (h : isTwoB (bt R.text i) = true) (ht : TwoOk R (rdF R n) s (i + 1) (closeF (bt R.text i)) a b) (hj : (R.join b.1 (bt R.text i) [a.2.1, b.2.1] (b.2.2.1 + 1)).2.2 = 0)
      (hq : q = ((R.join b.1 (bt R.text i) [a.2.1, b.2.1] (b.2.2.1 + 1)).1, (R.join b.1 (bt R.text i) [a.2.1, b.2.1] (b.2.2.1 + 1)).2.1, b.2.2.1 + 1, 0)) : RdBy R n s i q
  | one (q a : σ × Int × Nat × Int) (h0 : R.isLeaf (bt R.text i) = false) (h1 : isTwoB (bt R.text i) = false) (h : R.isOne (bt R.text i) = true) (ha : rdF R n s (i + 1) 0 = a) (ca : a.2.2.2 = 0) (hj : (R.join a.1 (bt R.text i) [a.2.1] a.2.2.1).2.2 = 0)
      (hq : q = ((R.join a.1 (bt R.text i) [a.2.1] a.2.2.1).1, (R.join a.1 (bt R.text i) [a.2.1] a.2.2.1).2.1, a.2.2.1, 0)) : RdBy R n s i q
  | arg (q a b : σ × Int × Nat × Int) (h0 : R.isLeaf (bt R.text i) = false) (h1 : isTwoB (bt R.text i) = false) (h2 : R.isOne (bt R.text i) = false) (h : R.isArg (bt R.text i) = true) (hl : i + 1 < R.text.size) (ho : bt R.text (i + 1) = 40) (ht : TwoOk R (rdF R n) s (i + 1 + 1) 41 a b) (hj : (R.join b.1 (bt R.text i) [a.2.1, b.2.1] (b.2.2.1 + 1)).2.2 = 0)
      (hq : q = ((R.join b.1 (bt R.text i) [a.2.1, b.2.1] (b.2.2.1 + 1)).1, (R.join b.1 (bt R.text i) [a.2.1, b.2.1] (b.2.2.1 + 1)).2.1, b.2.2.1 + 1, 0)) : RdBy R n s i q
theorem fin_inv {b : Int} {q : σ × List Int × Nat × Int} (h : (R.fin b q).2.2.2 = 0) : q.2.2.2 = 0 ∧ (R.join q.1 b q.2.1 q.2.2.1).2.2 = 0 ∧ R.fin b q = ((R.join q.1 b q.2.1 q.2.2.1).1, (R.join q.1 b q.2.1 q.2.2.1).2.1, q.2.2.1, 0) := by
  unfold Rdr.fin at h ⊢
  split at h
  · rename_i g
    rw [if_pos g]
    have h' : (R.join q.1 b q.2.1 q.2.2.1).2.2 = 0 := h
    exact ⟨g, h', by rw [h']⟩
  · rename_i g
    exact absurd h g
theorem rdF_inv {n : Nat} {s : σ} {i : Nat} {c : Int} (h : (rdF R (n + 1) s i c).2.2.2 = 0) : c = 0 ∧ i < R.text.size ∧ RdBy R n s i (rdF R (n + 1) s i c) := by
  by_cases hc : c = 0
  case neg => rw [rdF_bad _ _ _ hc] at h; exact absurd h hc
  subst hc
  obtain ⟨q, eq⟩ : ∃ q, rdF R (n + 1) s i 0 = q := ⟨_, rfl⟩
  rw [eq] at h ⊢
  simp only [rdF] at eq
  rw [if_neg (by simp)] at eq
  by_cases hl : R.text.size ≤ i
  · rw [if_pos hl] at eq
    subst eq
    simp at h
  rw [if_neg hl] at eq
  refine ⟨rfl, by omega, ?_⟩
  by_cases h0 : R.isLeaf (bt R.text i) = true
  · rw [if_pos h0] at eq
    exact .leaf q h0 eq.symm h
  rw [if_neg h0] at eq
  by_cases h1 : isTwoB (bt R.text i) = true
  · rw [if_pos h1] at eq
    subst eq
    obtain ⟨k1, k2, k3⟩ := fin_inv h
    obtain ⟨_, a, b, ht, e2⟩ := two_inv k1
    rw [k3]
    rw [e2] at k2 ⊢
    exact .two _ a b (by simpa using h0) h1 ht k2 rfl
  rw [if_neg h1] at eq
  by_cases h2 : R.isOne (bt R.text i) = true
  · rw [if_pos h2] at eq
    subst eq
    obtain ⟨k1, k2, k3⟩ := fin_inv h
    rw [k3]
    exact .one _ (rdF R n s (i + 1) 0) (by simpa using h0) (by simpa using h1) h2 rfl k1 k2 rfl
  rw [if_neg h2] at eq
  by_cases h3 : R.isArg (bt R.text i) = true
  · rw [if_pos h3] at eq
    subst eq
    obtain ⟨k1, k2, k3⟩ := fin_inv h
    obtain ⟨t0, a, b, ht, e2⟩ := two_inv k1
    obtain ⟨_, t2, t3⟩ := takeF_ok t0
    have t4 := takeF_at t0
    rw [k3]
    rw [e2] at k2 ⊢
    rw [t3] at ht
    exact .arg _ a b (by simpa using h0) (by simpa using h1) (by simpa using h2) h3 t2 t4 ht k2 rfl
  rw [if_neg h3] at eq
  subst eq
  simp at h
end
theorem dg_at {tx : ByteArray} {i j : Nat} (hi : i ≤ j) (hj : j < dEnd tx i) : isDg (byt tx j) = true := by
  have h1 := dgRun_dg tx i
  have h2 : (dgRun tx i)[j - i]? = (bl tx)[j]? := by
    rw [dgRun_take, List.getElem?_take_of_lt (by omega), List.getElem?_drop]
    congr 1
    omega
  have h3 : j - i < (dgRun tx i).length := by unfold dEnd at hj; omega
  rw [List.getElem?_eq_getElem h3] at h2
  have h4 : byt tx j = (dgRun tx i)[j - i] := by
    simp only [byt, List.getD_eq_getElem?_getD]
    rw [← h2]
    rfl
  rw [h4]
  exact h1 _ (List.getElem_mem h3)
end Go.Proofs.YtoegiepfcdkjaaaDoor.C

set_option linter.unusedVariables false
set_option linter.unusedSimpArgs false
namespace Go.Proofs.YtoegiepfcdkjaaaDoor.C
open Go.Sym Go.Proofs.YtoegiepfcdkjaaaDoor.I
def nodeAt (ns : List Nd) (t : Int) : Nd := ns.getD t.toNat ⟨0, 0, 0⟩
theorem nodeAt_nat {ns : List Nd} {j : Nat} (h : j < ns.length) : nodeAt ns j = ns[j] := by simp [nodeAt, h]
/-- The parts of a node of a right pool stand before it. -/
theorem parts_in {ns : List Nd} (hp : poolF ns = true) {j : Nat} (h : j < ns.length) (hk : partsF ns[j].k = 2) : (∃ a : Nat, ns[j].a = a ∧ a < j) ∧ ∃ b : Nat, ns[j].b = b ∧ b < j := by
  have := (okFrom_all hp h).1
  simp [rightF, hk, inF] at this
  exact ⟨⟨ns[j].a.toNat, by omega, by omega⟩, ns[j].b.toNat, by omega, by omega⟩
theorem part_in {ns : List Nd} (hp : poolF ns = true) {j : Nat} (h : j < ns.length) (hk : partsF ns[j].k = 1) : ∃ a : Nat, ns[j].a = a ∧ a < j := by
  have := (okFrom_all hp h).1
  simp [rightF, hk, inF] at this
  exact ⟨ns[j].a.toNat, by omega, by omega⟩
theorem parts_kind {ns : List Nd} (hp : poolF ns = true) {j : Nat} (h : j < ns.length) : partsF ns[j].k = 0 ∨ partsF ns[j].k = 1 ∨ partsF ns[j].k = 2 := by
  have := (okFrom_all hp h).1
  unfold rightF at this
  split at this
  · exact .inl ‹_›
  · split at this
    · exact .inr (.inl ‹_›)
    · split at this
      · exact .inr (.inr ‹_›)
      · cases this
theorem hasF_of {m j : Nat} (h : j < m) : hasF m j = true := by simp [hasF, inF]; omega
theorem hasN {m : Nat} {t : Int} (h : hasF m t = true) : ∃ j : Nat, t = j ∧ j < m := by
  simp [hasF, inF] at h
  exact ⟨t.toNat, by omega, by omega⟩
abbrev jblk (xs : List Int) : Blk := ⟨xs.length, decide (xs.length = 0), 1, ints xs, none⟩
abbrev jref (b : Nat) (xs : List Int) : A := .ref b xs.length 0 xs.length
@[simp] theorem ints_take' (xs : List Int) : (ints xs).take xs.length = ints xs := List.take_of_length_le (by simp)
@[simp] theorem ints_tells' (H H' : List Blk) (g : List (Option Nat)) (xs : List Int) : Tells H H' g (ints xs) (ints xs) := Tells_scals _ (ints_scals xs)
@[simp] theorem ints_one (xs : List Int) : (ints xs).all A.one = true := one_scals _ (ints_scals xs)
@[simp] theorem ints_inAs (m : Nat) (xs : List Int) : inAs m (ints xs) = true := inAs_scals _ (ints_scals xs)
@[simp] theorem ints_nil : ints [] = [] := rfl
theorem ints_snoc (xs : List Int) (x : Int) : ints (xs ++ [x]) = ints xs ++ [i6 x] := by simp [ints]
/-- The parts of a node. -/
def partsL (n : Nd) : List Int := if partsF n.k = 1 then [n.a] else if partsF n.k = 2 then [n.a, n.b] else []
theorem impl_Pool_parts_c (ns : List Nd) (r : List A) (t : Int) (hl : ns.length < 9223372036854775807) (ht : hasF ns.length t = true) : T 69 [.pt (.sl ns.length (enc ns) :: r), i6 t] [] (jref 0 (partsL (nodeAt ns t))) ([jblk (partsL (nodeAt ns t))]) := by
  refine semT' (S := S0) hm impl_Pool_parts_ok (Nat.le_of_ble_eq_true rfl) ?_
  unfold impl_Pool_parts; dsimp only
  obtain ⟨j, rfl, hj⟩ := hasN ht
  obtain ⟨q, hr⟩ := enc_at hj
  have h3 : 3 ≤ ns.length * 3 - j * 3 := by omega
  rw [nodeAt_nat hj]
  simp [h3, hr, hj]
  refine impl_count_call rfl ?_; simp
  refine br_intro' (fun h => ?_) (fun h => ?_) <;> simp at h <;> simp [h]
  · rw [show partsL ns[j] = [ns[j].a] from if_pos h]
    first | (refine LeV.tell [none] ?_ ?_ ?_ <;> (simp [ints]; done)) | (refine LeV.tell [some 0] ?_ ?_ ?_ <;> (simp [ints]; done)) | (refine LeV.tell [some 1] ?_ ?_ ?_ <;> (simp [ints]; done)) | (refine LeV.tell [some 2] ?_ ?_ ?_ <;> (simp [ints]; done)) | (refine LeV.tell [some 3] ?_ ?_ ?_ <;> (simp [ints]; done)) | (refine LeV.tell [some 4] ?_ ?_ ?_ <;> (simp [ints]; done)) | (refine LeV.tell [some 5] ?_ ?_ ?_ <;> (simp [ints]; done)) | (refine LeV.tell [some 6] ?_ ?_ ?_ <;> (simp [ints]; done)) | (refine LeV.tell [some 7] ?_ ?_ ?_ <;> (simp [ints]; done)) | (refine LeV.tell [some 8] ?_ ?_ ?_ <;> (simp [ints]; done)) | (refine LeV.tell [some 9] ?_ ?_ ?_ <;> (simp [ints]; done)) | (refine LeV.tell [some 10] ?_ ?_ ?_ <;> (simp [ints]; done)) | (refine LeV.tell [some 11] ?_ ?_ ?_ <;> (simp [ints]; done)) | (refine LeV.tell [some 12] ?_ ?_ ?_ <;> (simp [ints]; done)) | (refine LeV.tell [some 13] ?_ ?_ ?_ <;> (simp [ints]; done)) | (refine LeV.tell [some 14] ?_ ?_ ?_ <;> (simp [ints]; done)) | (refine LeV.tell [some 15] ?_ ?_ ?_ <;> (simp [ints]; done))
  refine br_intro' (fun h1 => ?_) (fun h1 => ?_) <;> simp at h1 <;> simp [h1]
  · rw [show partsL ns[j] = [ns[j].a, ns[j].b] by simp [partsL, h, h1]]
    first | (refine LeV.tell [none] ?_ ?_ ?_ <;> (simp [ints]; done)) | (refine LeV.tell [some 0] ?_ ?_ ?_ <;> (simp [ints]; done)) | (refine LeV.tell [some 1] ?_ ?_ ?_ <;> (simp [ints]; done)) | (refine LeV.tell [some 2] ?_ ?_ ?_ <;> (simp [ints]; done)) | (refine LeV.tell [some 3] ?_ ?_ ?_ <;> (simp [ints]; done)) | (refine LeV.tell [some 4] ?_ ?_ ?_ <;> (simp [ints]; done)) | (refine LeV.tell [some 5] ?_ ?_ ?_ <;> (simp [ints]; done)) | (refine LeV.tell [some 6] ?_ ?_ ?_ <;> (simp [ints]; done)) | (refine LeV.tell [some 7] ?_ ?_ ?_ <;> (simp [ints]; done)) | (refine LeV.tell [some 8] ?_ ?_ ?_ <;> (simp [ints]; done)) | (refine LeV.tell [some 9] ?_ ?_ ?_ <;> (simp [ints]; done)) | (refine LeV.tell [some 10] ?_ ?_ ?_ <;> (simp [ints]; done)) | (refine LeV.tell [some 11] ?_ ?_ ?_ <;> (simp [ints]; done)) | (refine LeV.tell [some 12] ?_ ?_ ?_ <;> (simp [ints]; done)) | (refine LeV.tell [some 13] ?_ ?_ ?_ <;> (simp [ints]; done)) | (refine LeV.tell [some 14] ?_ ?_ ?_ <;> (simp [ints]; done)) | (refine LeV.tell [some 15] ?_ ?_ ?_ <;> (simp [ints]; done))
  · rw [show partsL ns[j] = [] by simp [partsL, h, h1]]
    first | (refine LeV.tell [none] ?_ ?_ ?_ <;> (simp [ints]; done)) | (refine LeV.tell [some 0] ?_ ?_ ?_ <;> (simp [ints]; done)) | (refine LeV.tell [some 1] ?_ ?_ ?_ <;> (simp [ints]; done)) | (refine LeV.tell [some 2] ?_ ?_ ?_ <;> (simp [ints]; done)) | (refine LeV.tell [some 3] ?_ ?_ ?_ <;> (simp [ints]; done)) | (refine LeV.tell [some 4] ?_ ?_ ?_ <;> (simp [ints]; done)) | (refine LeV.tell [some 5] ?_ ?_ ?_ <;> (simp [ints]; done)) | (refine LeV.tell [some 6] ?_ ?_ ?_ <;> (simp [ints]; done)) | (refine LeV.tell [some 7] ?_ ?_ ?_ <;> (simp [ints]; done)) | (refine LeV.tell [some 8] ?_ ?_ ?_ <;> (simp [ints]; done)) | (refine LeV.tell [some 9] ?_ ?_ ?_ <;> (simp [ints]; done)) | (refine LeV.tell [some 10] ?_ ?_ ?_ <;> (simp [ints]; done)) | (refine LeV.tell [some 11] ?_ ?_ ?_ <;> (simp [ints]; done)) | (refine LeV.tell [some 12] ?_ ?_ ?_ <;> (simp [ints]; done)) | (refine LeV.tell [some 13] ?_ ?_ ?_ <;> (simp [ints]; done)) | (refine LeV.tell [some 14] ?_ ?_ ?_ <;> (simp [ints]; done)) | (refine LeV.tell [some 15] ?_ ?_ ?_ <;> (simp [ints]; done))
theorem impl_Pool_parts_k {ns : List Nd} {r : List A} {t : Int} (hl : ns.length < 9223372036854775807) (ht : hasF ns.length t = true) {S : FuncId → Bool} {H : List Blk} {K : A → Dl → Prop} {zs : List A} (hS : S 69 = false) (hv : viewL (viewA 8 H) zs = some [.pt (.sl ns.length (enc ns) :: r), i6 t]) (ho : noOwns zs = true ∨ nosl (jref 0 (partsL (nodeAt ns t))) = true ∧ noslBlks ([jblk (partsL (nodeAt ns t))]) = true) (hK : K (shiftA H.length (jref 0 (partsL (nodeAt ns t)))) (.news (([jblk (partsL (nodeAt ns t))]).map (shiftB H.length)))) : @WCall' Go.Proofs.Tryd.prog S 69 zs H ⟨K⟩ :=
  WCall_ro' hS hv (impl_Pool_parts_c ns r t hl ht) rfl ho hK
theorem spec_l1PartsOf_c (ns : List Nd) (t : Int) (hl : ns.length < 9223372036854775807) (ht : hasF ns.length t = true) : T 93 [aP ns, i6 t] [] (jref 0 (partsL (nodeAt ns t))) ([jblk (partsL (nodeAt ns t))]) := by
  refine semT' (S := S0) hm spec_l1PartsOf_ok (Nat.le_of_ble_eq_true rfl) ?_
  unfold spec_l1PartsOf; dsimp only
  obtain ⟨j, rfl, hj⟩ := hasN ht
  obtain ⟨q, hr⟩ := enc_at hj
  have h3 : 3 ≤ ns.length * 3 - j * 3 := by omega
  rw [nodeAt_nat hj]
  simp [h3, hr, hj]
  refine spec_l1Parts_call rfl ?_; simp
  refine br_intro' (fun h => ?_) (fun h => ?_) <;> simp at h <;> simp [h]
  · rw [show partsL ns[j] = [ns[j].a] from if_pos h]
    first | (refine LeV.tell [none] ?_ ?_ ?_ <;> (simp [ints]; done)) | (refine LeV.tell [some 0] ?_ ?_ ?_ <;> (simp [ints]; done)) | (refine LeV.tell [some 1] ?_ ?_ ?_ <;> (simp [ints]; done)) | (refine LeV.tell [some 2] ?_ ?_ ?_ <;> (simp [ints]; done)) | (refine LeV.tell [some 3] ?_ ?_ ?_ <;> (simp [ints]; done)) | (refine LeV.tell [some 4] ?_ ?_ ?_ <;> (simp [ints]; done)) | (refine LeV.tell [some 5] ?_ ?_ ?_ <;> (simp [ints]; done)) | (refine LeV.tell [some 6] ?_ ?_ ?_ <;> (simp [ints]; done)) | (refine LeV.tell [some 7] ?_ ?_ ?_ <;> (simp [ints]; done)) | (refine LeV.tell [some 8] ?_ ?_ ?_ <;> (simp [ints]; done)) | (refine LeV.tell [some 9] ?_ ?_ ?_ <;> (simp [ints]; done)) | (refine LeV.tell [some 10] ?_ ?_ ?_ <;> (simp [ints]; done)) | (refine LeV.tell [some 11] ?_ ?_ ?_ <;> (simp [ints]; done)) | (refine LeV.tell [some 12] ?_ ?_ ?_ <;> (simp [ints]; done)) | (refine LeV.tell [some 13] ?_ ?_ ?_ <;> (simp [ints]; done)) | (refine LeV.tell [some 14] ?_ ?_ ?_ <;> (simp [ints]; done)) | (refine LeV.tell [some 15] ?_ ?_ ?_ <;> (simp [ints]; done))
  refine br_intro' (fun h1 => ?_) (fun h1 => ?_) <;> simp at h1 <;> simp [h1]
  · rw [show partsL ns[j] = [ns[j].a, ns[j].b] by simp [partsL, h, h1]]
    first | (refine LeV.tell [none] ?_ ?_ ?_ <;> (simp [ints]; done)) | (refine LeV.tell [some 0] ?_ ?_ ?_ <;> (simp [ints]; done)) | (refine LeV.tell [some 1] ?_ ?_ ?_ <;> (simp [ints]; done)) | (refine LeV.tell [some 2] ?_ ?_ ?_ <;> (simp [ints]; done)) | (refine LeV.tell [some 3] ?_ ?_ ?_ <;> (simp [ints]; done)) | (refine LeV.tell [some 4] ?_ ?_ ?_ <;> (simp [ints]; done)) | (refine LeV.tell [some 5] ?_ ?_ ?_ <;> (simp [ints]; done)) | (refine LeV.tell [some 6] ?_ ?_ ?_ <;> (simp [ints]; done)) | (refine LeV.tell [some 7] ?_ ?_ ?_ <;> (simp [ints]; done)) | (refine LeV.tell [some 8] ?_ ?_ ?_ <;> (simp [ints]; done)) | (refine LeV.tell [some 9] ?_ ?_ ?_ <;> (simp [ints]; done)) | (refine LeV.tell [some 10] ?_ ?_ ?_ <;> (simp [ints]; done)) | (refine LeV.tell [some 11] ?_ ?_ ?_ <;> (simp [ints]; done)) | (refine LeV.tell [some 12] ?_ ?_ ?_ <;> (simp [ints]; done)) | (refine LeV.tell [some 13] ?_ ?_ ?_ <;> (simp [ints]; done)) | (refine LeV.tell [some 14] ?_ ?_ ?_ <;> (simp [ints]; done)) | (refine LeV.tell [some 15] ?_ ?_ ?_ <;> (simp [ints]; done))
  · rw [show partsL ns[j] = [] by simp [partsL, h, h1]]
    first | (refine LeV.tell [none] ?_ ?_ ?_ <;> (simp [ints]; done)) | (refine LeV.tell [some 0] ?_ ?_ ?_ <;> (simp [ints]; done)) | (refine LeV.tell [some 1] ?_ ?_ ?_ <;> (simp [ints]; done)) | (refine LeV.tell [some 2] ?_ ?_ ?_ <;> (simp [ints]; done)) | (refine LeV.tell [some 3] ?_ ?_ ?_ <;> (simp [ints]; done)) | (refine LeV.tell [some 4] ?_ ?_ ?_ <;> (simp [ints]; done)) | (refine LeV.tell [some 5] ?_ ?_ ?_ <;> (simp [ints]; done)) | (refine LeV.tell [some 6] ?_ ?_ ?_ <;> (simp [ints]; done)) | (refine LeV.tell [some 7] ?_ ?_ ?_ <;> (simp [ints]; done)) | (refine LeV.tell [some 8] ?_ ?_ ?_ <;> (simp [ints]; done)) | (refine LeV.tell [some 9] ?_ ?_ ?_ <;> (simp [ints]; done)) | (refine LeV.tell [some 10] ?_ ?_ ?_ <;> (simp [ints]; done)) | (refine LeV.tell [some 11] ?_ ?_ ?_ <;> (simp [ints]; done)) | (refine LeV.tell [some 12] ?_ ?_ ?_ <;> (simp [ints]; done)) | (refine LeV.tell [some 13] ?_ ?_ ?_ <;> (simp [ints]; done)) | (refine LeV.tell [some 14] ?_ ?_ ?_ <;> (simp [ints]; done)) | (refine LeV.tell [some 15] ?_ ?_ ?_ <;> (simp [ints]; done))
theorem spec_l1PartsOf_k {ns : List Nd} {t : Int} (hl : ns.length < 9223372036854775807) (ht : hasF ns.length t = true) {S : FuncId → Bool} {H : List Blk} {K : A → Dl → Prop} {zs : List A} (hS : S 93 = false) (hv : viewL (viewA 8 H) zs = some [aP ns, i6 t]) (ho : noOwns zs = true ∨ nosl (jref 0 (partsL (nodeAt ns t))) = true ∧ noslBlks ([jblk (partsL (nodeAt ns t))]) = true) (hK : K (shiftA H.length (jref 0 (partsL (nodeAt ns t)))) (.news (([jblk (partsL (nodeAt ns t))]).map (shiftB H.length)))) : @WCall' Go.Proofs.Tryd.prog S 93 zs H ⟨K⟩ :=
  WCall_ro' hS hv (spec_l1PartsOf_c ns t hl ht) rfl ho hK
/-- Looking for a number. -/
def idxF : List Int → Int → Int → Int
  | [], _, _ => -1
  | x :: xs, t, i => if x = t then i else idxF xs t (i + 1)
theorem idxF_neg (t : Int) : ∀ (xs : List Int) (i : Int), 0 ≤ i → (0 ≤ idxF xs t i ↔ t ∈ xs)
  | [], i, _ => by simp [idxF]
  | x :: xs, i, hi => by
    unfold idxF
    by_cases e : x = t
    · rw [if_pos e]; simp [e, hi]
    · rw [if_neg e, idxF_neg t xs (i + 1) (by omega)]
      simp only [List.mem_cons]
      exact ⟨.inr, fun h => h.resolve_left fun q => e q.symm⟩
def hasK (ks : List Int) (t : Int) : Bool := decide (t ∈ ks)
def pubF (x : Int) : Bool := inF x 0 49
theorem kpF_pool {ns : List Nd} {ks : List Int} (h : kpF ns ks = true) : poolF ns = true := by simp [kpF] at h; exact h.1
end Go.Proofs.YtoegiepfcdkjaaaDoor.C

set_option linter.unusedVariables false
set_option linter.unusedSimpArgs false
set_option maxRecDepth 4000
namespace Go.Proofs.YtoegiepfcdkjaaaDoor.C
open Go.Sym Go.Proofs.YtoegiepfcdkjaaaDoor.I
theorem nodup_lt : ∀ (n : Nat) (l : List Nat), l.Nodup → (∀ x ∈ l, x < n) → l.length ≤ n
  | 0, l, _, h => by
    cases l with
    | nil => simp
    | cons x l => exact absurd (h x (by simp)) (by omega)
  | n + 1, l, hn, h => by
    by_cases hm : n ∈ l
    · have h1 := nodup_lt n (l.erase n) (hn.erase n) (fun x hx => by
        have h2 := (hn.mem_erase_iff).1 hx
        have h3 := h x h2.2
        have h4 := h2.1
        omega)
      have h2 := List.length_erase_of_mem hm
      omega
    · have h1 := nodup_lt n l hn (fun x hx => by
        have h3 := h x hx
        have h4 : x ≠ n := fun e => hm (e ▸ hx)
        omega)
      omega
/-- A pool's place in another pool. -/
def fi (φ : List Nat) (x : Int) : Int := ((φ.getD x.toNat 0 : Nat) : Int)
def mapN (φ : List Nat) (n : Nd) : Nd := if partsF n.k = 0 then n else if partsF n.k = 1 then ⟨n.k, fi φ n.a, 0⟩ else normN ⟨n.k, fi φ n.a, fi φ n.b⟩
structure Sim (ns r : List Nd) (φ : List Nat) : Prop where
  len : φ.length = r.length
  lt : ∀ x ∈ φ, x < ns.length
  nd : φ.Nodup
  node : ∀ j : Nat, j < r.length → nodeAt ns (fi φ j) = mapN φ (nodeAt r j)
/-- A node that may stand in a pool. -/
def Vald (m : Nat) (n : Nd) : Prop := (partsF n.k = 0 ∧ 0 ≤ n.a ∧ n.a ≤ 199 ∧ n.b = 0) ∨ (partsF n.k = 1 ∧ 0 ≤ n.a ∧ n.a < m ∧ n.b = 0) ∨ (partsF n.k = 2 ∧ 0 ≤ n.a ∧ n.a < m ∧ 0 ≤ n.b ∧ n.b < m)
theorem normN_k (n : Nd) : (normN n).k = n.k := by
  unfold normN; split
  · rename_i h; simp [h]
  · rfl
theorem normN_norm (n : Nd) : normN (normN n) = normN n := by
  by_cases h : n.k = 8
  · simp only [normN, h, if_true]
    congr 1 <;> (repeat' split) <;> omega
  · simp [normN, h]
theorem Vald.norm {m : Nat} {n : Nd} (h : Vald m n) : Vald m (normN n) := by
  by_cases h8 : n.k = 8
  · have h2 : partsF 8 = 2 := by decide
    simp only [Vald, h8, h2] at h
    simp only [normN, h8, if_true, Vald, h2]
    right; right
    refine ⟨trivial, ?_, ?_, ?_, ?_⟩ <;> split <;> omega
  · simpa [normN, h8] using h
theorem Vald.right {m : Nat} {n : Nd} (h : Vald m n) : rightF (normN n) m = true := by
  have hn := h.norm
  have hk := normN_k n
  have ho : (normN n).k = 8 → (normN n).a ≤ (normN n).b := by
    intro e
    rw [hk] at e
    simp only [normN, e, if_true]
    split <;> split <;> omega
  generalize normN n = q at hn ho
  unfold rightF
  rcases hn with ⟨h1, h2, h3, h4⟩ | ⟨h1, h2, h3, h4⟩ | ⟨h1, h2, h3, h4, h5⟩
  · simp [h1, inF, h4]; omega
  · simp [h1, inF, h4]; omega
  · simp [h1, inF]
    refine ⟨⟨by omega, by omega⟩, ?_⟩
    by_cases e : q.k = 8
    · exact .inr (ho e)
    · exact .inl e
theorem vald_at {r : List Nd} (hp : poolF r = true) {j : Nat} (hj : j < r.length) : Vald j (nodeAt r j) ∧ normN (nodeAt r j) = nodeAt r j := by
  have h := (okFrom_all hp hj).1
  have e : nodeAt r (j : Int) = r[j] := by simp [nodeAt, hj]
  rw [e]
  generalize r[j] = n at h
  unfold rightF at h
  unfold Vald
  split at h
  · rename_i g
    simp [inF] at h
    refine ⟨.inl ⟨g, by omega, by omega, h.2⟩, ?_⟩
    unfold normN; split
    · rename_i q; rw [q] at g; simp [partsF] at g
    · rfl
  · split at h
    · rename_i g
      simp [inF] at h
      refine ⟨.inr (.inl ⟨g, by omega, by omega, h.2⟩), ?_⟩
      unfold normN; split
      · rename_i q; rw [q] at g; simp [partsF] at g
      · rfl
    · split at h
      · rename_i g
        simp [inF] at h
        refine ⟨.inr (.inr ⟨g, by omega, by omega, by omega, by omega⟩), ?_⟩
        unfold normN; split
        · rename_i q
          have h2 : n.a ≤ n.b := by have := h.2; simpa [q] using this
          rw [if_neg (by omega)]
          refine Nd_eq.2 ⟨q.symm, rfl, ?_⟩
          dsimp only
          split <;> omega
        · rfl
      · cases h
theorem node_uq {ns : List Nd} (hp : poolF ns = true) {i j : Nat} (hi : i < ns.length) (hj : j < ns.length) (h : nodeAt ns i = nodeAt ns j) : i = j := by
  have ei : nodeAt ns (i : Int) = ns[i] := by simp [nodeAt, hi]
  have ej : nodeAt ns (j : Int) = ns[j] := by simp [nodeAt, hj]
  rw [ei, ej] at h
  rcases Nat.lt_trichotomy i j with g | g | g
  · exact absurd (List.mem_take_iff_getElem.2 ⟨i, by omega, h⟩) (okFrom_all hp hj).2
  · exact g
  · exact absurd (List.mem_take_iff_getElem.2 ⟨j, by omega, h.symm⟩) (okFrom_all hp hi).2
theorem fi_lt {ns r : List Nd} {φ : List Nat} (S : Sim ns r φ) {x : Int} (h0 : 0 ≤ x) (h : x < r.length) : ∃ y : Nat, fi φ x = y ∧ y < ns.length ∧ φ[x.toNat]? = some y := by
  have hl : x.toNat < φ.length := by rw [S.len]; omega
  refine ⟨φ[x.toNat], ?_, S.lt _ (List.getElem_mem hl), List.getElem?_eq_getElem hl⟩
  simp [fi, hl]
theorem fi_inj {ns r : List Nd} {φ : List Nat} (S : Sim ns r φ) {x y : Int} (h0 : 0 ≤ x) (h : x < r.length) (g0 : 0 ≤ y) (g : y < r.length) (e : fi φ x = fi φ y) : x = y := by
  obtain ⟨a, ea, _, ia⟩ := fi_lt S h0 h
  obtain ⟨b, eb, _, ib⟩ := fi_lt S g0 g
  have hab : a = b := by rw [ea, eb] at e; omega
  subst hab
  have hl : x.toNat < φ.length := by rw [S.len]; omega
  have hl2 : y.toNat < φ.length := by rw [S.len]; omega
  have ne : ∀ i j : Nat, i < j → j < φ.length → φ[i]? = some a → φ[j]? = some a → False := fun i j hij hj gi gj => by
    have h1 := List.pairwise_iff_getElem.1 S.nd i j (by omega) hj hij
    rw [List.getElem?_eq_getElem (by omega)] at gi
    rw [List.getElem?_eq_getElem hj] at gj
    simp only [Option.some.injEq] at gi gj
    exact h1 (by rw [gi, gj])
  rcases Nat.lt_trichotomy x.toNat y.toNat with q | q | q
  · exact (ne _ _ q hl2 ia ib).elim
  · omega
  · exact (ne _ _ q hl ib ia).elim
theorem mapN_norm (φ : List Nat) (n : Nd) : mapN φ (normN n) = mapN φ n := by
  by_cases h : n.k = 8
  · have h2 : partsF 8 = 2 := by decide
    have h3 : ∀ k a b : Int, k = 8 → mapN φ ⟨k, a, b⟩ = normN ⟨8, fi φ a, fi φ b⟩ := fun k a b hk => by
      subst hk
      unfold mapN
      rw [if_neg (by simp [h2]), if_neg (by simp [h2])]
    have e1 : mapN φ n = normN ⟨8, fi φ n.a, fi φ n.b⟩ := h3 n.k n.a n.b h
    have e2 : normN n = ⟨8, if n.b < n.a then n.b else n.a, if n.a < n.b then n.b else n.a⟩ := if_pos h
    rw [e1, e2, h3 _ _ _ rfl]
    have sw : ∀ x y : Int, normN ⟨8, x, y⟩ = normN ⟨8, y, x⟩ := fun x y => by
      simp only [normN, if_true]
      congr 1 <;> (repeat' split) <;> omega
    rcases Int.lt_trichotomy n.a n.b with g | g | g
    · rw [if_neg (by omega), if_pos g]
    · rw [if_neg (by omega), if_neg (by omega), g]
    · rw [if_pos g, if_neg (by omega), sw]
  · simp [normN, h]
theorem mapN_inj {ns r : List Nd} {φ : List Nat} (S : Sim ns r φ) {n m : Nd} (hn : Vald r.length n) (hm : Vald r.length m) (en : normN n = n) (em : normN m = m) (h : mapN φ n = mapN φ m) : n = m := by
  have hk : n.k = m.k := by
    have := congrArg Nd.k h
    unfold mapN at this
    split at this <;> split at this <;> (try split at this) <;> (try split at this) <;> first | exact this | (simp [normN_k] at this; exact this)
  have ek : partsF m.k = partsF n.k := by rw [hk]
  rcases hn with ⟨h1, h2, h3, h4⟩ | ⟨h1, h2, h3, h4⟩ | ⟨h1, h2, h3, h4, h5⟩
  · simpa [mapN, h1, ek] using h
  · have hm' : 0 ≤ m.a ∧ m.a < r.length ∧ m.b = 0 := by
      rcases hm with ⟨g, _⟩ | ⟨g, g1, g2, g3⟩ | ⟨g, _⟩
      · omega
      · exact ⟨g1, g2, g3⟩
      · omega
    simp [mapN, h1, ek] at h
    have := fi_inj S h2 h3 hm'.1 hm'.2.1 h.2
    exact Nd_eq.2 ⟨hk, this, by rw [h4, hm'.2.2]⟩
  · have hm' : 0 ≤ m.a ∧ m.a < r.length ∧ 0 ≤ m.b ∧ m.b < r.length := by
      rcases hm with ⟨g, _⟩ | ⟨g, _⟩ | ⟨g, g1, g2, g3, g4⟩
      · omega
      · omega
      · exact ⟨g1, g2, g3, g4⟩
    simp [mapN, h1, ek] at h
    by_cases h8 : n.k = 8
    · have m8 : m.k = 8 := by omega
      simp [normN, h8, m8] at h en em
      have en' := Nd_eq.1 en
      have em' := Nd_eq.1 em
      simp [h8, m8] at en' em'
      have oa : n.a ≤ n.b := by have := en'.1; omega
      have ob : m.a ≤ m.b := by have := em'.1; omega
      have cases1 : (fi φ n.a = fi φ m.a ∧ fi φ n.b = fi φ m.b) ∨ (fi φ n.a = fi φ m.b ∧ fi φ n.b = fi φ m.a) := by
        obtain ⟨k1, k2⟩ := h
        split at k1 <;> split at k1 <;> split at k2 <;> split at k2 <;> omega
      rcases cases1 with ⟨k1, k2⟩ | ⟨k1, k2⟩
      · exact Nd_eq.2 ⟨hk, fi_inj S h2 h3 hm'.1 hm'.2.1 k1, fi_inj S h4 h5 hm'.2.2.1 hm'.2.2.2 k2⟩
      · have e1 := fi_inj S h2 h3 hm'.2.2.1 hm'.2.2.2 k1
        have e2 := fi_inj S h4 h5 hm'.1 hm'.2.1 k2
        exact Nd_eq.2 ⟨hk, by omega, by omega⟩
    · have m8 : ¬ m.k = 8 := by omega
      simp [normN, h8, m8] at h
      exact Nd_eq.2 ⟨hk, fi_inj S h2 h3 hm'.1 hm'.2.1 h.2.1, fi_inj S h4 h5 hm'.2.2.1 hm'.2.2.2 h.2.2⟩
theorem Vald.mono {a b : Nat} {n : Nd} (h : Vald a n) (hab : a ≤ b) : Vald b n := by
  unfold Vald at h ⊢
  omega
theorem mapN_ext {ns r : List Nd} {φ : List Nat} (S : Sim ns r φ) {t : Nat} {n : Nd} (hn : Vald r.length n) : mapN (φ ++ [t]) n = mapN φ n := by
  have hf : ∀ x : Int, 0 ≤ x → x < r.length → fi (φ ++ [t]) x = fi φ x := fun x h0 h => by
    have hl : x.toNat < φ.length := by rw [S.len]; omega
    simp [fi, hl, List.getElem?_append_left hl]
  rcases hn with ⟨h1, _⟩ | ⟨h1, h2, h3, _⟩ | ⟨h1, h2, h3, h4, h5⟩
  · simp [mapN, h1]
  · simp [mapN, h1, hf _ h2 h3]
  · simp [mapN, h1, hf _ h2 h3, hf _ h4 h5]
/-- A node that stands in the one pool, put into the other. -/
theorem Sim.add {ns r : List Nd} {φ : List Nat} (S : Sim ns r φ) (hp : poolF ns = true) (hr : poolF r = true) {n : Nd} (hn : Vald r.length n) {t : Nat} (ht : t < ns.length) (he : mapN φ n = nodeAt ns t) :
    ∃ (φ' : List Nat) (v : Nat), Sim ns (addF r n).1 φ' ∧ φ <+: φ' ∧ (addF r n).2 = v ∧ v < (addF r n).1.length ∧ fi φ' v = t := by
  have hrt := hn.right
  by_cases hf : 0 ≤ findF r (normN n) 0
  · obtain ⟨j, hj, e1, e2⟩ := findF_at r (normN n) 0 hf
    have ea : addF r n = (r, (j : Int)) := by
      unfold addF
      have e1' : findF r (normN n) 0 = j := by simpa using e1
      rw [if_neg (by rw [hrt]; simp), if_pos hf, e1']
    rw [ea]
    refine ⟨φ, j, S, List.prefix_refl _, rfl, hj, ?_⟩
    obtain ⟨y, ey, hy, _⟩ := fi_lt S (x := (j : Int)) (by omega) (by omega)
    have := S.node j hj
    have e3 : nodeAt r (j : Int) = normN n := by simp [nodeAt, hj, e2]
    rw [e3, mapN_norm, he, ey] at this
    rw [ey]
    exact congrArg _ (node_uq hp hy ht this)
  · have hno : t ∉ φ := by
      intro hm
      obtain ⟨j, hj, ej⟩ := List.getElem_of_mem hm
      have hj' : j < r.length := by rw [← S.len]; exact hj
      have h1 := S.node j hj'
      have e1 : fi φ (j : Int) = t := by simp [fi, hj, ej]
      rw [e1, ← he, ← mapN_norm φ n] at h1
      have hv := vald_at hr hj'
      have h2 := mapN_inj S hn.norm (hv.1.mono (by omega)) (normN_norm n) hv.2 h1
      have e2 : nodeAt r (j : Int) = r[j] := by simp [nodeAt, hj']
      exact hf (findF_mem (by rw [h2, e2]; exact List.getElem_mem hj'))
    have hnd : (φ ++ [t]).Nodup := List.nodup_append.2 ⟨S.nd, by simp, fun a ha b hb => by
      simp at hb
      subst hb
      intro e
      exact hno (e ▸ ha)⟩
    have hlt : ∀ x ∈ φ ++ [t], x < ns.length := fun x hx => by
      rw [List.mem_append] at hx
      rcases hx with h | h
      · exact S.lt x h
      · simp at h; omega
    have hcnt := nodup_lt ns.length (φ ++ [t]) hnd hlt
    have h500 := poolF_len hp
    have hl := S.len
    simp at hcnt
    have ea : addF r n = (r ++ [normN n], (r.length : Int)) := by
      unfold addF
      rw [if_neg (by rw [hrt]; simp), if_neg hf, if_neg (by omega)]
    rw [ea]
    refine ⟨φ ++ [t], r.length, ⟨by simp [hl], hlt, hnd, fun j hj => ?_⟩, List.prefix_append _ _, rfl, by simp, by simp [fi, ← hl]⟩
    rcases Nat.lt_or_ge j r.length with g | g
    · have e1 : nodeAt (r ++ [normN n]) (j : Int) = nodeAt r j := by simp [nodeAt, List.getElem?_append_left g, g]
      have e2 : fi (φ ++ [t]) (j : Int) = fi φ j := by
        have : j < φ.length := by omega
        simp [fi, List.getElem?_append_left this, this]
      rw [e1, e2, mapN_ext S ((vald_at hr g).1.mono (by omega))]
      exact S.node j g
    · have : j = r.length := by simp at hj; omega
      subst this
      have e1 : nodeAt (r ++ [normN n]) (r.length : Int) = normN n := by simp [nodeAt]
      have e2 : fi (φ ++ [t]) (r.length : Int) = t := by simp [fi, ← hl]
      rw [e1, e2, mapN_ext S hn.norm, mapN_norm, he]
/-- The same pool. -/
theorem Sim.self {ns : List Nd} (hp : poolF ns = true) : Sim ns ns (List.range ns.length) := by
  refine ⟨by simp, by simp, List.nodup_range, fun j hj => ?_⟩
  have hf : ∀ x : Int, 0 ≤ x → x < ns.length → fi (List.range ns.length) x = x := fun x h0 h => by
    have : x.toNat < ns.length := by omega
    simp [fi, this]
    omega
  rw [hf j (by omega) (by omega)]
  obtain ⟨h1, h2⟩ := vald_at hp hj
  have h3 := h1.mono (Nat.le_of_lt hj)
  rcases h3 with ⟨g1, _⟩ | ⟨g1, g2, g3, g4⟩ | ⟨g1, g2, g3, g4, g5⟩
  · simp [mapN, g1]
  · simp [mapN, g1, hf _ g2 g3]
    rw [← g4]
  · simp [mapN, g1, hf _ g2 g3, hf _ g4 g5]
    exact h2.symm
theorem Sim.nil (ns : List Nd) : Sim ns [] [] := ⟨rfl, fun x h => (by cases h), List.nodup_nil, fun j h => (by cases h)⟩
end Go.Proofs.YtoegiepfcdkjaaaDoor.C

set_option linter.unusedVariables false
set_option linter.unusedSimpArgs false
set_option maxRecDepth 4000
namespace Go.Proofs.YtoegiepfcdkjaaaDoor.C
open Go.Sym Go.Proofs.YtoegiepfcdkjaaaDoor.I
/-- The text of a node, by those of its parts. -/
def txN (L : List ByteArray) (n : Nd) : ByteArray :=
  if n.k = 1 then ⟨#[110]⟩ ++ numB n.a
  else if partsF n.k = 1 then sgO n.k ++ L.getD n.a.toNat ⟨#[]⟩ ++ sgE n.k
  else sgO n.k ++ L.getD n.a.toNat ⟨#[]⟩ ++ ⟨#[44]⟩ ++ L.getD n.b.toNat ⟨#[]⟩ ++ sgE n.k
def txt (ns : List Nd) (t : Nat) : ByteArray := (accL txN ns).getD t ⟨#[]⟩
theorem txt_eq {ns : List Nd} (hp : poolF ns = true) {j : Nat} (h : j < ns.length) : txt ns j = (let n := nodeAt ns j
    if n.k = 1 then ⟨#[110]⟩ ++ numB n.a
    else if partsF n.k = 1 then sgO n.k ++ txt ns n.a.toNat ++ sgE n.k
    else sgO n.k ++ txt ns n.a.toNat ++ ⟨#[44]⟩ ++ txt ns n.b.toNat ++ sgE n.k) := by
  have e := accL_at txN h
  have en : nodeAt ns (j : Int) = ns[j] := by simp [nodeAt, h]
  have hv := (vald_at hp h).1
  rw [en] at hv
  rw [en]
  have hg : ∀ x : Int, 0 ≤ x → x < j → ((accL txN ns).take j).getD x.toNat ⟨#[]⟩ = txt ns x.toNat := fun x h0 h1 => by
    simp only [txt, List.getD_eq_getElem?_getD]
    rw [List.getElem?_take_of_lt (by omega)]
  have e2 : txt ns j = txN ((accL txN ns).take j) ns[j] := by
    simp only [txt, List.getD_eq_getElem?_getD, e, Option.getD_some]
  rw [e2]
  generalize (accL txN ns).take j = L at hg ⊢
  unfold txN
  rcases hv with ⟨h1, h2, h3, h4⟩ | ⟨h1, h2, h3, h4⟩ | ⟨h1, h2, h3, h4, h5⟩
  · have hk : ns[j].k = 1 := by
      simp only [partsF] at h1
      split at h1
      · assumption
      · split at h1
        · omega
        · split at h1 <;> omega
    simp [hk]
  · have hk : ¬ ns[j].k = 1 := by intro e; rw [e] at h1; simp [partsF] at h1
    simp only [if_neg hk, h1, if_true, hg _ h2 h3]
  · have hk : ¬ ns[j].k = 1 := by intro e; rw [e] at h1; simp [partsF] at h1
    have hk2 : ¬ partsF ns[j].k = 1 := by omega
    simp only [if_neg hk, if_neg hk2, hg _ h2 h3, hg _ h4 h5]
/-- The kinds of what has parts. -/
theorem kind_two {k : Int} (h : partsF k = 2) : k = 2 ∨ k = 3 ∨ k = 4 ∨ k = 6 ∨ k = 8 := by
  simp only [partsF] at h
  split at h
  · omega
  · split at h
    · omega
    · split at h
      · assumption
      · omega
theorem kind_one {k : Int} (h : partsF k = 1) : k = 5 ∨ k = 7 := by
  simp only [partsF] at h
  split at h
  · omega
  · split at h
    · assumption
    · split at h <;> omega
theorem kind_none {k : Int} (h : partsF k = 0) : k = 1 := by
  simp only [partsF] at h
  split at h
  · assumption
  · split at h
    · omega
    · split at h <;> omega
/-- A stretch of a text. -/
def At (tx : ByteArray) (i : Nat) (s : ByteArray) : Prop := bl s <+: (bl tx).drop i
theorem At.size {tx s : ByteArray} {i : Nat} (h : At tx i s) (h0 : 0 < s.size) : i + s.size ≤ tx.size := by
  have := h.length_le
  simp at this
  omega
theorem At.byt {tx s : ByteArray} {i j : Nat} (h : At tx i s) (hj : j < s.size) : byt tx (i + j) = byt s j := by
  obtain ⟨r, hr⟩ := h
  have h1 : ((bl tx).drop i)[j]? = (bl s)[j]? := by
    rw [← hr, List.getElem?_append_left (by simpa using hj)]
  rw [List.getElem?_drop] at h1
  simp only [Sym.byt, List.getD_eq_getElem?_getD, h1]
theorem At.left {tx s t : ByteArray} {i : Nat} (h : At tx i (s ++ t)) : At tx i s := by
  unfold At at h
  rw [bl_app] at h
  exact (List.prefix_append _ _).trans h
theorem At.tail {tx s t : ByteArray} {i : Nat} (h : At tx i (s ++ t)) : At tx (i + s.size) t := by
  obtain ⟨r, hr⟩ := h
  refine ⟨r, ?_⟩
  rw [← List.drop_drop, ← hr, bl_app, List.append_assoc]
  rw [show s.size = (bl s).length by simp, List.drop_left]
theorem At.one {tx : ByteArray} {i : Nat} {b : UInt8} (h : At tx i ⟨#[b]⟩) : i < tx.size ∧ bt tx i = b.toNat := by
  have hs : ByteArray.size ⟨#[b]⟩ = 1 := rfl
  have h1 := h.size (by omega)
  have h2 := h.byt (j := 0) (by omega)
  rw [hs] at h1
  refine ⟨by omega, ?_⟩
  simp only [bt]
  rw [show i + 0 = i from rfl] at h2
  rw [h2]
  rfl
/-- Digits. -/
theorem dec_dg : ∀ (m u : Nat), u < m → ∀ b ∈ Lib.decDigits u, isDg b = true
  | 0, u, h => by omega
  | m + 1, u, h => fun b hb => by
    rw [Lib.decDigits] at hb
    have hd : ∀ v : Nat, v < 10 → isDg (UInt8.ofNat (48 + v)) = true := fun v hv => by
      have : (UInt8.ofNat (48 + v)).toNat = 48 + v := by simp; omega
      simp only [isDg, this, decide_eq_true_eq]
      omega
    split at hb
    · rename_i g
      simp only [List.mem_singleton] at hb
      rw [hb]; exact hd u g
    · rename_i g
      rw [List.mem_append] at hb
      rcases hb with hb | hb
      · exact dec_dg m (u / 10) (by omega) b hb
      · simp only [List.mem_singleton] at hb
        rw [hb]; exact hd (u % 10) (by omega)
theorem dec_back : ∀ (m u : Nat), u < m → valD (Lib.decDigits u) = u
  | 0, u, h => by omega
  | m + 1, u, h => by
    rw [Lib.decDigits]
    split
    · rename_i g
      have : (UInt8.ofNat (48 + u)).toNat = 48 + u := by simp; omega
      simp only [valD, List.foldl_cons, List.foldl_nil, this]
      omega
    · rename_i g
      rw [valD_snoc, dec_back m (u / 10) (by omega)]
      have : (UInt8.ofNat (48 + u % 10)).toNat = 48 + u % 10 := by simp; omega
      rw [this]
      omega
theorem dec_ne (u : Nat) : Lib.decDigits u ≠ [] := by
  rw [Lib.decDigits]
  split <;> simp
theorem numB_bl {a : Int} (h0 : 0 ≤ a) : bl (numB a) = Lib.decDigits a.toNat := by
  simp [bl, numB, Lib.itoa, show ¬ a < 0 by omega]
theorem dg_run {tx : ByteArray} {i : Nat} {l : List UInt8} (h : l <+: (bl tx).drop i) (hd : ∀ b ∈ l, isDg b = true) (he : tx.size ≤ i + l.length ∨ isDg (byt tx (i + l.length)) = false) : dgRun tx i = l := by
  obtain ⟨r, hr⟩ := h
  have hr2 : (bl tx).drop (i + l.length) = r := by rw [← List.drop_drop, ← hr, List.drop_left]
  unfold dgRun
  rw [← hr, List.takeWhile_append_of_pos hd]
  have : r.takeWhile isDg = [] := by
    rw [← hr2]
    exact dgRun_stop he
  rw [this, List.append_nil]
/-- A name's number is read from its text. -/
theorem num_read {tx : ByteArray} {i : Nat} {a : Int} (fr : Int) (h0 : 0 ≤ a) (h1 : a ≤ 199) (h : At tx i (numB a)) (he : tx.size ≤ i + (numB a).size ∨ isDg (byt tx (i + (numB a).size)) = false) : numF tx i fr = (a, ((i + (numB a).size : Nat) : Int), 0) ∧ dEnd tx i = i + (numB a).size := by
  have hb := numB_bl h0
  have hl : (numB a).size = (Lib.decDigits a.toNat).length := by rw [← hb]; simp
  have hr : dgRun tx i = Lib.decDigits a.toNat := by
    refine dg_run ?_ (dec_dg _ _ (Nat.lt_succ_self _)) ?_
    · rw [← hb]; exact h
    · rw [← hl]; exact he
  have hv := dec_back _ _ (Nat.lt_succ_self a.toNat)
  have hlen := dec_len 2 a.toNat (by omega)
  have hf : figV 9 (dgRun tx i) = a := by
    rw [hr, figV_pos (dec_ne _) (by omega) (dec_lead _), hv]
    omega
  have hde : dEnd tx i = i + (numB a).size := by unfold dEnd; rw [hr, hl]
  refine ⟨?_, hde⟩
  unfold numF
  rw [hf, if_pos ⟨h0, h1⟩, hde]
/-- A term's text has no figure behind a name that it could take. -/
theorem poolK {ns : List Nd} (hp : poolF ns = true) {j : Nat} (h : j < ns.length) : ∃ k a b, nodeAt ns j = ⟨k, a, b⟩ ∧ ((k = 1 ∧ 0 ≤ a ∧ a ≤ 199 ∧ b = 0) ∨ ((k = 5 ∨ k = 7) ∧ b = 0 ∧ ∃ a' : Nat, a = a' ∧ a' < j) ∨ ((k = 2 ∨ k = 3 ∨ k = 4 ∨ k = 6 ∨ k = 8) ∧ (∃ a' : Nat, a = a' ∧ a' < j) ∧ ∃ b' : Nat, b = b' ∧ b' < j)) := by
  have hv := (vald_at hp h).1
  refine ⟨(nodeAt ns j).k, (nodeAt ns j).a, (nodeAt ns j).b, rfl, ?_⟩
  generalize nodeAt ns (j : Int) = n at hv
  rcases hv with ⟨h1, h2, h3, h4⟩ | ⟨h1, h2, h3, h4⟩ | ⟨h1, h2, h3, h4, h5⟩
  · exact .inl ⟨kind_none h1, h2, h3, h4⟩
  · exact .inr (.inl ⟨kind_one h1, h4, n.a.toNat, by omega, by omega⟩)
  · exact .inr (.inr ⟨kind_two h1, ⟨n.a.toNat, by omega, by omega⟩, ⟨n.b.toNat, by omega, by omega⟩⟩)
end Go.Proofs.YtoegiepfcdkjaaaDoor.C
