/- A reader's walk. Conditions: those that each theorem names. -/
import Derived.Test.YtealijdcolmchaaGreatDoorXC1X3
import Derived.Test.YtealijdcolmchaaGreatDoorXSymVirt
set_option linter.unusedVariables false
set_option linter.unusedSimpArgs false
set_option maxRecDepth 4000
namespace Go.Proofs.YtealijdcolmchaaGreatDoor.C
open Go.Sym Go.Proofs.YtealijdcolmchaaGreatDoor.I
theorem RdrOk.two_good' {σ : Type} {R : Rdr σ} (K : RdrOk R) (n : Nat) {s : σ} {i : Nat} {e : Int} (hW : K.W s i) (hlt : i < R.text.size) (hn : R.text.size - (i + 1) < n) (h : (R.two (rdF R n) e s (i + 1) 0).2.2.2 = 0) :
    i < (R.two (rdF R n) e s (i + 1) 0).2.2.1 ∧ (R.two (rdF R n) e s (i + 1) 0).2.2.1 ≤ R.text.size ∧ K.E s (i + 1) (R.two (rdF R n) e s (i + 1) 0).1 (R.two (rdF R n) e s (i + 1) 0).2.2.1 ∧ ∀ t ∈ (R.two (rdF R n) e s (i + 1) 0).2.1, K.V (R.two (rdF R n) e s (i + 1) 0).1 t := by
  obtain ⟨h1, h2, h3, h4⟩ := K.two_good (rd := rdF R n) (fun s i c h => rdF_bad n s i h) (fun g1 g2 g3 => K.rd_good n g2 g3 (by omega)) (K.W_E hW (K.E_step s i)) (by omega) h
  exact ⟨Nat.lt_trans (show i < i + 1 by omega) h1, h2, h3, h4⟩
theorem RdrOk.arg_good {σ : Type} {R : Rdr σ} (K : RdrOk R) (n : Nat) {s : σ} {i : Nat} (hW : K.W s i) (hlt : i < R.text.size) (hn : R.text.size - (i + 1) < n) (h : (R.two (rdF R n) 41 s (takeF R.text (i + 1) 0 40).1 (takeF R.text (i + 1) 0 40).2).2.2.2 = 0) :
    i < (R.two (rdF R n) 41 s (takeF R.text (i + 1) 0 40).1 (takeF R.text (i + 1) 0 40).2).2.2.1 ∧ (R.two (rdF R n) 41 s (takeF R.text (i + 1) 0 40).1 (takeF R.text (i + 1) 0 40).2).2.2.1 ≤ R.text.size ∧ K.E s (i + 1) (R.two (rdF R n) 41 s (takeF R.text (i + 1) 0 40).1 (takeF R.text (i + 1) 0 40).2).1 (R.two (rdF R n) 41 s (takeF R.text (i + 1) 0 40).1 (takeF R.text (i + 1) 0 40).2).2.2.1 ∧ ∀ t ∈ (R.two (rdF R n) 41 s (takeF R.text (i + 1) 0 40).1 (takeF R.text (i + 1) 0 40).2).2.1, K.V (R.two (rdF R n) 41 s (takeF R.text (i + 1) 0 40).1 (takeF R.text (i + 1) 0 40).2).1 t := by
  have hW1 := K.W_E hW (K.E_step s i)
  have ht : (takeF R.text (i + 1) 0 40).2 = 0 := by
    rcases Decidable.em ((takeF R.text (i + 1) 0 40).2 = 0) with g | g
    · exact g
    · simp only [Rdr.two, rdF_bad n _ _ g] at h
      have g1 := (takeF_ok h).1
      have g2 : (takeF R.text (takeF R.text (i + 1) 0 40).1 (takeF R.text (i + 1) 0 40).2 44).2 ≠ 0 := fun e => g (takeF_ok e).1
      rw [rdF_bad n _ _ g2] at g1
      exact absurd g1 g2
  obtain ⟨_, t2, t3⟩ := takeF_ok ht
  rw [ht, t3] at h ⊢
  have hW2 := K.W_E hW1 (K.E_step s (i + 1))
  obtain ⟨h1, h2, h3, h4⟩ := K.two_good (rd := rdF R n) (fun s i c h => rdF_bad n s i h) (fun g1 g2 g3 => K.rd_good n g2 g3 (by omega)) hW2 (by omega) h
  exact ⟨Nat.lt_trans (show i < i + 1 + 1 by omega) h1, h2, K.E_trans (K.E_step _ _) h3, h4⟩
theorem lift_call {f : FuncId} {S : FuncId → Bool} {H : List Blk} {K : A → Dl → Prop} {zs : List A} {r : A} (hS : S f = true) (h : T f zs [] r []) (hx : noOwns zs = true) (hs : ∀ n, shiftA n r = r) (hK : K r (.full [] H)) : @WCall' Go.Proofs.Tryz.prog S f zs H ⟨K⟩ :=
  same_call hS (h.lift hx hs H) hK
theorem all_call {f : FuncId} {S : FuncId → Bool} {H H' : List Blk} {K : A → Dl → Prop} {zs : List A} {r : A} (hS : S f = true) (hf : T f zs H r H') (hlen : H.length ≤ H'.length) (hK : K r (.full (List.range H.length) H')) : @WCall' Go.Proofs.Tryz.prog S f zs H ⟨K⟩ :=
  WCall_t' hS (List.range H.length) hf hlen (fun q hq hl => absurd (List.mem_range.2 hl) hq) hK
structure RdrRun {σ : Type} {R : Rdr σ} (K : RdrOk R) where
  Hs : σ → Int → Int → List Blk
  b : Nat
  L : Nat
  lf : FuncId
  jn : FuncId
  lc : List A
  jc : List A
  size : R.text.size ≤ 281474976710656
  msize : R.more.size ≤ 281474976710656
  get : ∀ s i c, (Hs s i c)[b]? = some (rrow R.text R.more (.fn lf lc) (.fn jn jc) i c)
  set : ∀ s i c i' c', (Hs s i c).set b (rrow R.text R.more (.fn lf lc) (.fn jn jc) i' c') = Hs s i' c'
  len : ∀ s i c, (Hs s i c).length = L
  cl : ∀ s i c, Closed1 L (Hs s i c) = true
  el : canEnter Go.Proofs.Tryz.prog lf = true
  ej : canEnter Go.Proofs.Tryz.prog jn = true
  leaf : ∀ {s i}, K.W s i → i < R.text.size → R.isLeaf (bt R.text i) = true → T lf ([rptr b, .int .u8 (bt R.text i)] ++ lc) (Hs s i 0) (i6 (R.leaf s (bt R.text i) i).2.1) (Hs (R.leaf s (bt R.text i) i).1 (R.leaf s (bt R.text i) i).2.2.1 (R.leaf s (bt R.text i) i).2.2.2)
  join : ∀ {s0 i s i' ts}, K.W s0 i → i < R.text.size → K.E s0 (i + 1) s i' → i' ≤ R.text.size → R.Shape (bt R.text i) ts.length → (∀ t ∈ ts, K.V s t) →
    ∃ G, L + 1 ≤ G.length ∧ T jn ([rptr b, .int .u8 (bt R.text i), .ref L 0 0 ts.length] ++ jc) (Hs s i' 0 ++ [⟨0, false, 1, ints ts, none⟩]) (i6 (R.join s (bt R.text i) ts i').2.1) G ∧
      LeV L (i6 (R.join s (bt R.text i) ts i').2.1) G (i6 (R.join s (bt R.text i) ts i').2.1) (Hs (R.join s (bt R.text i) ts i').1 i' (R.join s (bt R.text i) ts i').2.2)
section
variable {σ : Type} {R : Rdr σ} {K : RdrOk R} (Z : RdrRun K)
theorem RdrRun.lt (s : σ) (i c : Int) : Z.b < Z.L := by
  rw [← Z.len s i c]
  exact (List.getElem?_eq_some_iff.1 (Z.get s i c)).1
theorem RdrRun.fail (s : σ) (i c code at_ : Int) : T 52 [rptr Z.b, i6 code, i6 at_] (Z.Hs s i c) (i6 (-1)) (Z.Hs s (failF i c code at_).1 (failF i c code at_).2) := by
  have := impl_reader_fail_m (Z.Hs s i c) Z.b _ _ _ _ i c code at_ (Z.get s i c)
  rwa [Z.set] at this
theorem RdrRun.take (s : σ) (i : Nat) (c sign : Int) : T 75 [rptr Z.b, .int .u8 sign] (Z.Hs s i c) (.tup []) (Z.Hs s (takeF R.text i c sign).1 (takeF R.text i c sign).2) := by
  have hz := Z.size
  have := impl_reader_take_m (Z.Hs s i c) Z.b _ _ _ _ i c sign (Z.get s i c) (by omega)
  rwa [Z.set] at this
theorem RdrRun.peek (s : σ) (i : Nat) (c : Int) : T 69 [rptr Z.b] (Z.Hs s i c) (.int .u8 (peekF R.text i)) (Z.Hs s i c) := impl_reader_peek_m (Z.Hs s i c) Z.b _ _ _ _ i c (Z.get s i c)
/-- What a reader's first function answers, so far. -/
def RdrRun.Reads (n : Nat) : Prop := ∀ (s : σ) (i : Nat) (c : Int), (c = 0 → K.W s i ∧ i ≤ R.text.size ∧ R.text.size - i < n) → T 60 [rptr Z.b] (Z.Hs s i c) (i6 (rdF R n s i c).2.1) (Z.Hs (rdF R n s i c).1 (rdF R n s i c).2.2.1 (rdF R n s i c).2.2.2)
theorem RdrRun.two {n : Nat} (ih : Z.Reads n) {s : σ} {i : Nat} {c e : Int} (h : c = 0 → K.W s i ∧ i ≤ R.text.size ∧ R.text.size - i < n) :
    T 73 [rptr Z.b, .int .u8 e] (Z.Hs s i c) (.ref Z.L 0 0 2) (Z.Hs (R.two (rdF R n) e s i c).1 (R.two (rdF R n) e s i c).2.2.1 (R.two (rdF R n) e s i c).2.2.2 ++ [⟨0, false, 1, ints (R.two (rdF R n) e s i c).2.1, none⟩]) := by
  have ga := fun hc : c = 0 => K.rd_good n (h hc).1 (h hc).2.1 (h hc).2.2 (c := c)
  have hA := ih s i c h
  obtain ⟨a, ea⟩ : ∃ a, rdF R n s i c = a := ⟨_, rfl⟩
  obtain ⟨t, et⟩ : ∃ t, takeF R.text a.2.2.1 a.2.2.2 44 = t := ⟨_, rfl⟩
  obtain ⟨b, eb⟩ : ∃ b, rdF R n a.1 t.1 t.2 = b := ⟨_, rfl⟩
  obtain ⟨u, eu⟩ : ∃ u, takeF R.text b.2.2.1 b.2.2.2 e = u := ⟨_, rfl⟩
  have e2 : R.two (rdF R n) e s i c = (b.1, [a.2.1, b.2.1], u.1, u.2) := by simp only [Rdr.two, ea, et, eb, eu]
  rw [ea] at hA ga
  rw [e2]
  have hB : T 60 [rptr Z.b] (Z.Hs a.1 t.1 t.2) (i6 b.2.1) (Z.Hs b.1 b.2.2.1 b.2.2.2) := by
    rw [← eb]
    refine ih _ _ _ (fun h0 => ?_)
    · rw [← et] at h0
      obtain ⟨t1, t2, t3⟩ := takeF_ok h0
      have hc : c = 0 := by
        rcases Decidable.em (c = 0) with g | g
        · exact g
        · rw [rdF_bad n s i g] at ea; rw [← ea] at t1; exact absurd t1 g
      obtain ⟨a1, a2, a3, a4⟩ := ga hc t1
      rw [← et, t3]
      have := (h hc).2.2
      exact ⟨K.W_E (h hc).1 (K.E_trans a3 (K.E_step _ _)), by omega, by omega⟩
  have hT := Z.take a.1 a.2.2.1 a.2.2.2 44
  have hU := Z.take b.1 b.2.2.1 b.2.2.2 e
  rw [et] at hT
  rw [eu] at hU
  refine semT' (S := fun _ => true) hm impl_reader_two_ok (Nat.le_of_ble_eq_true rfl) ?_
  unfold impl_reader_two; dsimp only
  simp
  refine all_call rfl hA (by simp [Z.len]) ?_; simp
  refine all_call rfl hT (by simp [Z.len]) ?_; simp
  refine all_call rfl hB (by simp [Z.len]) ?_; simp
  refine all_call rfl hU (by simp [Z.len]) ?_; simp
  exact LeV.eq (by simp [Z.len]) (by simp [ints])
/-- A reader reads. -/
theorem RdrRun.reads : ∀ n, Z.Reads n
  | 0 => fun s i c h => by
    have hc : c ≠ 0 := fun e => by have := (h e).2.2; omega
    refine semT' (S := fun _ => true) hm impl_reader_read_ok (Nat.le_of_ble_eq_true rfl) ?_
    unfold impl_reader_read; dsimp only
    simp [Z.get, hc, rdF]
    exact LeV.refl _ _ _
  | n + 1 => fun s i c h => by
    have ih := RdrRun.reads n
    have hz := Z.size
    have hmz := Z.msize
    by_cases hc : c = 0
    case neg =>
      rw [rdF_bad (n + 1) s i hc]
      refine semT' (S := fun _ => true) hm impl_reader_read_ok (Nat.le_of_ble_eq_true rfl) ?_
      unfold impl_reader_read; dsimp only
      simp [Z.get, hc]
      exact LeV.refl _ _ _
    subst hc
    obtain ⟨hW, hi, hn⟩ := h rfl
    obtain ⟨q, eq⟩ : ∃ q, rdF R (n + 1) s i 0 = q := ⟨_, rfl⟩
    rw [eq]
    refine semT' (S := fun _ => true) hm impl_reader_read_ok (Nat.le_of_ble_eq_true rfl) ?_
    unfold impl_reader_read; dsimp only
    simp [Z.get]
    refine all_call rfl (Z.peek s i 0) (by simp [Z.len]) ?_; simp [Z.get]
    repeat (refine ck_intro' (by first | omega | (simp; omega) | kernel_rfl) ?_; try simp [Z.get])
    refine br_intro' (fun u => ?_) (fun u => ?_) <;> (have u0 := u) <;> simp only [decide_eq_true_eq, decide_eq_false_iff_not] at u <;> simp [u0, u, Z.get]
    · refine all_call rfl (Z.fail s i 0 2 R.text.size) (by simp [Z.len]) ?_; simp [failF]
      have : q = (s, -1, R.text.size, 2) := by
        rw [← eq]
        simp only [rdF]
        rw [if_neg (by simp), if_pos (by omega)]
      rw [this]
      exact LeV.refl _ _ _
    have hlt : i < R.text.size := by omega
    rw [show peekF R.text i = bt R.text i from if_neg (by omega)]
    have one : ∀ {S : FuncId → Bool} {H : List Blk} {K' : A → Dl → Prop} (ss : ByteArray), ss.size ≤ 281474976710656 → S 27 = true → K' (.bool (inS (bt R.text i) ss)) (.full [] H) → @WCall' Go.Proofs.Tryz.prog S 27 [.int .u8 (bt R.text i), .str ss] H ⟨K'⟩ := fun ss hs hS hK =>
      lift_call hS (impl_isOneOf_c _ ss (by omega)) (by simp) (by simp) hK
    have hset : (Z.Hs s i 0).set Z.b ⟨0, false, 1, [.str R.text, .int .i64 (IntKind.i64.wrap ((i : Int) + 1)), i6 0, .str R.more, .fn Z.lf Z.lc, .fn Z.jn Z.jc], none⟩ = Z.Hs s ((i + 1 : Nat) : Int) 0 := by
      rw [wrap_succ (n := i) (by omega)]
      exact Z.set s i 0 ((i + 1 : Nat) : Int) 0
    have getA : ∀ (s : σ) (i c : Int) (T : List Blk), (Z.Hs s i c ++ T)[Z.b]? = some (rrow R.text R.more (.fn Z.lf Z.lc) (.fn Z.jn Z.jc) i c) := fun s i c T => (get_left (by rw [Z.len]; exact Z.lt s i c)).trans (Z.get s i c)
    by_cases hL : R.isLeaf (bt R.text i) = true
    · have hq : q = R.leaf s (bt R.text i) i := by
        rw [← eq]
        simp only [rdF]
        rw [if_neg (by simp), if_neg u, if_pos hL]
      have tail := Z.leaf hW hlt hL
      refine br_intro' (fun v => ?_) (fun v => ?_) <;> (have v0 := v) <;> simp only [decide_eq_true_eq, decide_eq_false_iff_not] at v <;> simp [v0, Z.get]
      · refine ck_intro' Z.el ?_; simp
        refine all_call rfl (by simpa using tail) (by simp [Z.len]) ?_; simp
        rw [hq]; exact LeV.refl _ _ _
      · refine one _ (by decide) rfl ?_; simp
        refine br_intro' (fun v1 => ?_) (fun v1 => ?_) <;> simp [v1, Z.get]
        · refine one _ hmz rfl ?_; simp
          refine br_intro' (fun v2 => ?_) (fun v2 => ?_) <;> simp [v2, Z.get]
          · refine ck_intro' Z.el ?_; simp
            refine all_call rfl (by simpa using tail) (by simp [Z.len]) ?_; simp
            rw [hq]; exact LeV.refl _ _ _
          · exact absurd hL (by simp [Rdr.isLeaf, v0, v1, v2])
        · exact absurd hL (by simp [Rdr.isLeaf, v0, v1])
    · have hW1 := K.W_E hW (K.E_step s i)
      refine br_intro' (fun v => ?_) (fun v => ?_) <;> (have v0 := v) <;> simp only [decide_eq_true_eq, decide_eq_false_iff_not] at v <;> simp [v0, Z.get]
      · exact absurd (show R.isLeaf (bt R.text i) = true by simp [Rdr.isLeaf, v0]) hL
      refine one _ (by decide) rfl ?_; simp
      refine br_intro' (fun v1 => ?_) (fun v1 => ?_) <;> simp [v1, Z.get]
      · refine one _ hmz rfl ?_; simp
        refine br_intro' (fun v2 => ?_) (fun v2 => ?_) <;> simp [v2, Z.get]
        · exact absurd (show R.isLeaf (bt R.text i) = true by simp [Rdr.isLeaf, v0, v1, v2]) hL
        · refine one _ (by decide) rfl ?_; simp
          by_cases hT : isTwoB (bt R.text i) = true
          · have hT' : inS (bt R.text i) ⟨#[40, 123, 91]⟩ = true := hT
            have hq : q = R.fin (bt R.text i) (R.two (rdF R n) (closeF (bt R.text i)) s (i + 1) 0) := by
              rw [← eq]
              simp only [rdF]
              rw [if_neg (by simp), if_neg u, if_neg hL, if_pos hT]
            simp [hT', Z.get]
            refine lift_call rfl (impl_closing_c _) (by simp) (by simp) ?_; simp
            rw [hset]
            have hX := Z.two ih (s := s) (i := i + 1) (c := 0) (e := closeF (bt R.text i)) (fun _ => ⟨hW1, by omega, by omega⟩)
            have hg := K.two_good' n (s := s) (i := i) (e := closeF (bt R.text i)) hW hlt (by omega)
            have hl : (R.two (rdF R n) (closeF (bt R.text i)) s (i + 1) 0).2.1.length = 2 := rfl
            have hts : R.Shape (bt R.text i) (R.two (rdF R n) (closeF (bt R.text i)) s (i + 1) 0).2.1.length := .inl ⟨hT, rfl⟩
            obtain ⟨p, ep⟩ : ∃ p, R.two (rdF R n) (closeF (bt R.text i)) s (i + 1) 0 = p := ⟨_, rfl⟩
            rw [ep] at hq hX hg hts hl
            refine all_call rfl hX (by simp [Z.len]) ?_; simp
            simp [getA]
            by_cases hc : p.2.2.2 = 0
            · obtain ⟨g1, g2, g3, g4⟩ := hg hc
              obtain ⟨G, j1, j2, j3⟩ := Z.join hW hlt g3 g2 hts g4
              have hqq : q = ((R.join p.1 (bt R.text i) p.2.1 p.2.2.1).1, (R.join p.1 (bt R.text i) p.2.1 p.2.2.1).2.1, p.2.2.1, (R.join p.1 (bt R.text i) p.2.1 p.2.2.1).2.2) := by rw [hq]; unfold Rdr.fin; rw [if_pos hc]
              simp [hc, getA]
              refine ck_intro' Z.ej ?_; simp
              rw [hl] at j2
              refine all_call rfl (by simpa using j2) (by simp [Z.len]; omega) ?_; simp
              rw [hqq, Z.len]
              exact j3
            · simp [hc]
              rw [hq, show R.fin (bt R.text i) p = (p.1, -1, p.2.2.1, p.2.2.2) from if_neg hc]
              exact LeV.drop (by simp [Z.len]) (by rw [Z.len]; exact Z.cl _ _ _) (by simp)
          · have hT' : inS (bt R.text i) ⟨#[40, 123, 91]⟩ = false := by simpa [isTwoB] using hT
            simp [hT']
            refine one _ (by decide) rfl ?_; simp
            by_cases hO : R.isOne (bt R.text i) = true
            · have hq : q = R.fin (bt R.text i) (oneF (rdF R n) s (i + 1)) := by
                rw [← eq]
                simp only [rdF]
                rw [if_neg (by simp), if_neg u, if_neg hL, if_neg hT, if_pos hO]
              have hX := ih s (i + 1) 0 (fun _ => ⟨hW1, by omega, by omega⟩)
              have hg0 := K.rd_good n (s := s) (i := i + 1) (c := 0) hW1 (by omega) (by omega)
              have hg : (oneF (rdF R n) s (i + 1)).2.2.2 = 0 → i < (oneF (rdF R n) s (i + 1)).2.2.1 ∧ (oneF (rdF R n) s (i + 1)).2.2.1 ≤ R.text.size ∧ K.E s (i + 1) (oneF (rdF R n) s (i + 1)).1 (oneF (rdF R n) s (i + 1)).2.2.1 ∧ ∀ t ∈ (oneF (rdF R n) s (i + 1)).2.1, K.V (oneF (rdF R n) s (i + 1)).1 t := fun h => by
                obtain ⟨h1, h2, h3, h4⟩ := hg0 h
                refine ⟨Nat.lt_trans (show i < i + 1 by omega) h1, h2, h3, fun t ht => ?_⟩
                simp only [oneF, List.mem_cons, List.mem_nil_iff, or_false] at ht
                rw [ht]; exact h4
              have hl : (oneF (rdF R n) s (i + 1)).2.1.length = 1 := rfl
              have hts : R.Shape (bt R.text i) (oneF (rdF R n) s (i + 1)).2.1.length := .inr (.inl ⟨by simpa using hT, hO, rfl⟩)
              have hrow : ∀ (H : List Blk), H ++ [(⟨0, false, 1, [i6 (rdF R n s (i + 1) 0).2.1], none⟩ : Blk)] = H ++ [⟨0, false, 1, ints (oneF (rdF R n) s (i + 1)).2.1, none⟩] := fun H => rfl
              have hp1 : (rdF R n s (i + 1) 0).1 = (oneF (rdF R n) s (i + 1)).1 := rfl
              have hp2 : (rdF R n s (i + 1) 0).2.2.1 = (oneF (rdF R n) s (i + 1)).2.2.1 := rfl
              have hp3 : (rdF R n s (i + 1) 0).2.2.2 = (oneF (rdF R n) s (i + 1)).2.2.2 := rfl
              obtain ⟨p, ep⟩ : ∃ p, oneF (rdF R n) s (i + 1) = p := ⟨_, rfl⟩
              rw [ep] at hq hg hts hl hp1 hp2 hp3
              refine br_intro' (fun z => ?_) (fun z => ?_) <;> simp [z, Z.get]
              · rw [hset]
                refine all_call rfl hX (by simp [Z.len]) ?_; simp
                rw [hrow, ep, hp1, hp2, hp3, Z.len]
                simp [getA]
                by_cases hc : p.2.2.2 = 0
                · obtain ⟨g1, g2, g3, g4⟩ := hg hc
                  obtain ⟨G, j1, j2, j3⟩ := Z.join hW hlt g3 g2 hts g4
                  have hqq : q = ((R.join p.1 (bt R.text i) p.2.1 p.2.2.1).1, (R.join p.1 (bt R.text i) p.2.1 p.2.2.1).2.1, p.2.2.1, (R.join p.1 (bt R.text i) p.2.1 p.2.2.1).2.2) := by rw [hq]; unfold Rdr.fin; rw [if_pos hc]
                  simp [hc, getA]
                  refine ck_intro' Z.ej ?_; simp
                  rw [hl] at j2
                  refine all_call rfl (by simpa using j2) (by simp [Z.len]; omega) ?_; simp
                  rw [hqq, Z.len]
                  exact j3
                · simp [hc]
                  rw [hq, show R.fin (bt R.text i) p = (p.1, -1, p.2.2.1, p.2.2.2) from if_neg hc]
                  exact LeV.drop (by simp [Z.len]) (by rw [Z.len]; exact Z.cl _ _ _) (by simp)
              · refine one _ (by decide) rfl ?_; simp
                refine br_intro' (fun z1 => ?_) (fun z1 => ?_) <;> simp [z1, Z.get]
                · refine one _ hmz rfl ?_; simp
                  refine br_intro' (fun z2 => ?_) (fun z2 => ?_) <;> simp [z2, Z.get]
                  · rw [hset]
                    refine all_call rfl hX (by simp [Z.len]) ?_; simp
                    rw [hrow, ep, hp1, hp2, hp3, Z.len]
                    simp [getA]
                    by_cases hc : p.2.2.2 = 0
                    · obtain ⟨g1, g2, g3, g4⟩ := hg hc
                      obtain ⟨G, j1, j2, j3⟩ := Z.join hW hlt g3 g2 hts g4
                      have hqq : q = ((R.join p.1 (bt R.text i) p.2.1 p.2.2.1).1, (R.join p.1 (bt R.text i) p.2.1 p.2.2.1).2.1, p.2.2.1, (R.join p.1 (bt R.text i) p.2.1 p.2.2.1).2.2) := by rw [hq]; unfold Rdr.fin; rw [if_pos hc]
                      simp [hc, getA]
                      refine ck_intro' Z.ej ?_; simp
                      rw [hl] at j2
                      refine all_call rfl (by simpa using j2) (by simp [Z.len]; omega) ?_; simp
                      rw [hqq, Z.len]
                      exact j3
                    · simp [hc]
                      rw [hq, show R.fin (bt R.text i) p = (p.1, -1, p.2.2.1, p.2.2.2) from if_neg hc]
                      exact LeV.drop (by simp [Z.len]) (by rw [Z.len]; exact Z.cl _ _ _) (by simp)
                  · exact absurd hO (by simp [Rdr.isOne, z, z1, z2])
                · exact absurd hO (by simp [Rdr.isOne, z, z1])
            · refine br_intro' (fun z => ?_) (fun z => ?_) <;> simp [z, Z.get]
              · exact absurd (show R.isOne (bt R.text i) = true by simp [Rdr.isOne, z]) hO
              · refine one _ (by decide) rfl ?_; simp
                refine br_intro' (fun z1 => ?_) (fun z1 => ?_) <;> simp [z1, Z.get]
                · refine one _ hmz rfl ?_; simp
                  refine br_intro' (fun z2 => ?_) (fun z2 => ?_) <;> simp [z2, Z.get]
                  · exact absurd (show R.isOne (bt R.text i) = true by simp [Rdr.isOne, z, z1, z2]) hO
                  · clear z z1 z2
                    refine one _ (by decide) rfl ?_; simp
                    by_cases hA : R.isArg (bt R.text i) = true
                    · have hq : q = R.fin (bt R.text i) (R.two (rdF R n) 41 s (takeF R.text (i + 1) 0 40).1 (takeF R.text (i + 1) 0 40).2) := by
                        rw [← eq]
                        simp only [rdF]
                        rw [if_neg (by simp), if_neg u, if_neg hL, if_neg hT, if_neg hO, if_pos hA]
                      have hX := Z.two ih (s := s) (i := (takeF R.text (i + 1) 0 40).1) (c := (takeF R.text (i + 1) 0 40).2) (e := 41) (fun h0 => by
                        obtain ⟨_, t2, t3⟩ := takeF_ok h0
                        rw [t3]
                        exact ⟨K.W_E hW1 (K.E_step _ _), by omega, by omega⟩)
                      have hg := K.arg_good n (s := s) (i := i) hW hlt (by omega)
                      have hl : (R.two (rdF R n) 41 s (takeF R.text (i + 1) 0 40).1 (takeF R.text (i + 1) 0 40).2).2.1.length = 2 := rfl
                      have hts : R.Shape (bt R.text i) (R.two (rdF R n) 41 s (takeF R.text (i + 1) 0 40).1 (takeF R.text (i + 1) 0 40).2).2.1.length := .inr (.inr ⟨by simpa using hT, by simpa using hO, hA, rfl⟩)
                      have hK := Z.take s (i + 1) 0 40
                      obtain ⟨p, ep⟩ : ∃ p, R.two (rdF R n) 41 s (takeF R.text (i + 1) 0 40).1 (takeF R.text (i + 1) 0 40).2 = p := ⟨_, rfl⟩
                      rw [ep] at hq hX hg hts hl
                      refine br_intro' (fun z => ?_) (fun z => ?_) <;> simp [z, Z.get]
                      · rw [hset]
                        refine all_call rfl hK (by simp [Z.len]) ?_; simp
                        refine all_call rfl hX (by simp [Z.len]) ?_; simp
                        simp [getA]
                        by_cases hc : p.2.2.2 = 0
                        · obtain ⟨g1, g2, g3, g4⟩ := hg hc
                          obtain ⟨G, j1, j2, j3⟩ := Z.join hW hlt g3 g2 hts g4
                          have hqq : q = ((R.join p.1 (bt R.text i) p.2.1 p.2.2.1).1, (R.join p.1 (bt R.text i) p.2.1 p.2.2.1).2.1, p.2.2.1, (R.join p.1 (bt R.text i) p.2.1 p.2.2.1).2.2) := by rw [hq]; unfold Rdr.fin; rw [if_pos hc]
                          simp [hc, getA]
                          refine ck_intro' Z.ej ?_; simp
                          rw [hl] at j2
                          refine all_call rfl (by simpa using j2) (by simp [Z.len]; omega) ?_; simp
                          rw [hqq, Z.len]
                          exact j3
                        · simp [hc]
                          rw [hq, show R.fin (bt R.text i) p = (p.1, -1, p.2.2.1, p.2.2.2) from if_neg hc]
                          exact LeV.drop (by simp [Z.len]) (by rw [Z.len]; exact Z.cl _ _ _) (by simp)
                      · refine one _ (by decide) rfl ?_; simp
                        refine br_intro' (fun z1 => ?_) (fun z1 => ?_) <;> simp [z1, Z.get]
                        · refine one _ hmz rfl ?_; simp
                          refine br_intro' (fun z2 => ?_) (fun z2 => ?_) <;> simp [z2, Z.get]
                          · rw [hset]
                            refine all_call rfl hK (by simp [Z.len]) ?_; simp
                            refine all_call rfl hX (by simp [Z.len]) ?_; simp
                            simp [getA]
                            by_cases hc : p.2.2.2 = 0
                            · obtain ⟨g1, g2, g3, g4⟩ := hg hc
                              obtain ⟨G, j1, j2, j3⟩ := Z.join hW hlt g3 g2 hts g4
                              have hqq : q = ((R.join p.1 (bt R.text i) p.2.1 p.2.2.1).1, (R.join p.1 (bt R.text i) p.2.1 p.2.2.1).2.1, p.2.2.1, (R.join p.1 (bt R.text i) p.2.1 p.2.2.1).2.2) := by rw [hq]; unfold Rdr.fin; rw [if_pos hc]
                              simp [hc, getA]
                              refine ck_intro' Z.ej ?_; simp
                              rw [hl] at j2
                              refine all_call rfl (by simpa using j2) (by simp [Z.len]; omega) ?_; simp
                              rw [hqq, Z.len]
                              exact j3
                            · simp [hc]
                              rw [hq, show R.fin (bt R.text i) p = (p.1, -1, p.2.2.1, p.2.2.2) from if_neg hc]
                              exact LeV.drop (by simp [Z.len]) (by rw [Z.len]; exact Z.cl _ _ _) (by simp)
                          · exact absurd hA (by simp [Rdr.isArg, z, z1, z2])
                        · exact absurd hA (by simp [Rdr.isArg, z, z1])
                    · have hq : q = (s, -1, i, 3) := by
                        rw [← eq]
                        simp only [rdF]
                        rw [if_neg (by simp), if_neg u, if_neg hL, if_neg hT, if_neg hO, if_neg hA]
                      refine br_intro' (fun z => ?_) (fun z => ?_) <;> simp [z, Z.get]
                      · exact absurd (show R.isArg (bt R.text i) = true by simp [Rdr.isArg, z]) hA
                      · refine one _ (by decide) rfl ?_; simp
                        refine br_intro' (fun z1 => ?_) (fun z1 => ?_) <;> simp [z1, Z.get]
                        · refine one _ hmz rfl ?_; simp
                          refine br_intro' (fun z2 => ?_) (fun z2 => ?_) <;> simp [z2, Z.get]
                          · exact absurd (show R.isArg (bt R.text i) = true by simp [Rdr.isArg, z, z1, z2]) hA
                          · refine all_call rfl (Z.fail s i 0 3 i) (by simp [Z.len]) ?_; simp [failF]
                            rw [hq]
                            exact LeV.refl _ _ _
                        · refine all_call rfl (Z.fail s i 0 3 i) (by simp [Z.len]) ?_; simp [failF]
                          rw [hq]
                          exact LeV.refl _ _ _
                · clear z z1
                  refine one _ (by decide) rfl ?_; simp
                  by_cases hA : R.isArg (bt R.text i) = true
                  · have hq : q = R.fin (bt R.text i) (R.two (rdF R n) 41 s (takeF R.text (i + 1) 0 40).1 (takeF R.text (i + 1) 0 40).2) := by
                      rw [← eq]
                      simp only [rdF]
                      rw [if_neg (by simp), if_neg u, if_neg hL, if_neg hT, if_neg hO, if_pos hA]
                    have hX := Z.two ih (s := s) (i := (takeF R.text (i + 1) 0 40).1) (c := (takeF R.text (i + 1) 0 40).2) (e := 41) (fun h0 => by
                      obtain ⟨_, t2, t3⟩ := takeF_ok h0
                      rw [t3]
                      exact ⟨K.W_E hW1 (K.E_step _ _), by omega, by omega⟩)
                    have hg := K.arg_good n (s := s) (i := i) hW hlt (by omega)
                    have hl : (R.two (rdF R n) 41 s (takeF R.text (i + 1) 0 40).1 (takeF R.text (i + 1) 0 40).2).2.1.length = 2 := rfl
                    have hts : R.Shape (bt R.text i) (R.two (rdF R n) 41 s (takeF R.text (i + 1) 0 40).1 (takeF R.text (i + 1) 0 40).2).2.1.length := .inr (.inr ⟨by simpa using hT, by simpa using hO, hA, rfl⟩)
                    have hK := Z.take s (i + 1) 0 40
                    obtain ⟨p, ep⟩ : ∃ p, R.two (rdF R n) 41 s (takeF R.text (i + 1) 0 40).1 (takeF R.text (i + 1) 0 40).2 = p := ⟨_, rfl⟩
                    rw [ep] at hq hX hg hts hl
                    refine br_intro' (fun z => ?_) (fun z => ?_) <;> simp [z, Z.get]
                    · rw [hset]
                      refine all_call rfl hK (by simp [Z.len]) ?_; simp
                      refine all_call rfl hX (by simp [Z.len]) ?_; simp
                      simp [getA]
                      by_cases hc : p.2.2.2 = 0
                      · obtain ⟨g1, g2, g3, g4⟩ := hg hc
                        obtain ⟨G, j1, j2, j3⟩ := Z.join hW hlt g3 g2 hts g4
                        have hqq : q = ((R.join p.1 (bt R.text i) p.2.1 p.2.2.1).1, (R.join p.1 (bt R.text i) p.2.1 p.2.2.1).2.1, p.2.2.1, (R.join p.1 (bt R.text i) p.2.1 p.2.2.1).2.2) := by rw [hq]; unfold Rdr.fin; rw [if_pos hc]
                        simp [hc, getA]
                        refine ck_intro' Z.ej ?_; simp
                        rw [hl] at j2
                        refine all_call rfl (by simpa using j2) (by simp [Z.len]; omega) ?_; simp
                        rw [hqq, Z.len]
                        exact j3
                      · simp [hc]
                        rw [hq, show R.fin (bt R.text i) p = (p.1, -1, p.2.2.1, p.2.2.2) from if_neg hc]
                        exact LeV.drop (by simp [Z.len]) (by rw [Z.len]; exact Z.cl _ _ _) (by simp)
                    · refine one _ (by decide) rfl ?_; simp
                      refine br_intro' (fun z1 => ?_) (fun z1 => ?_) <;> simp [z1, Z.get]
                      · refine one _ hmz rfl ?_; simp
                        refine br_intro' (fun z2 => ?_) (fun z2 => ?_) <;> simp [z2, Z.get]
                        · rw [hset]
                          refine all_call rfl hK (by simp [Z.len]) ?_; simp
                          refine all_call rfl hX (by simp [Z.len]) ?_; simp
                          simp [getA]
                          by_cases hc : p.2.2.2 = 0
                          · obtain ⟨g1, g2, g3, g4⟩ := hg hc
                            obtain ⟨G, j1, j2, j3⟩ := Z.join hW hlt g3 g2 hts g4
                            have hqq : q = ((R.join p.1 (bt R.text i) p.2.1 p.2.2.1).1, (R.join p.1 (bt R.text i) p.2.1 p.2.2.1).2.1, p.2.2.1, (R.join p.1 (bt R.text i) p.2.1 p.2.2.1).2.2) := by rw [hq]; unfold Rdr.fin; rw [if_pos hc]
                            simp [hc, getA]
                            refine ck_intro' Z.ej ?_; simp
                            rw [hl] at j2
                            refine all_call rfl (by simpa using j2) (by simp [Z.len]; omega) ?_; simp
                            rw [hqq, Z.len]
                            exact j3
                          · simp [hc]
                            rw [hq, show R.fin (bt R.text i) p = (p.1, -1, p.2.2.1, p.2.2.2) from if_neg hc]
                            exact LeV.drop (by simp [Z.len]) (by rw [Z.len]; exact Z.cl _ _ _) (by simp)
                        · exact absurd hA (by simp [Rdr.isArg, z, z1, z2])
                      · exact absurd hA (by simp [Rdr.isArg, z, z1])
                  · have hq : q = (s, -1, i, 3) := by
                      rw [← eq]
                      simp only [rdF]
                      rw [if_neg (by simp), if_neg u, if_neg hL, if_neg hT, if_neg hO, if_neg hA]
                    refine br_intro' (fun z => ?_) (fun z => ?_) <;> simp [z, Z.get]
                    · exact absurd (show R.isArg (bt R.text i) = true by simp [Rdr.isArg, z]) hA
                    · refine one _ (by decide) rfl ?_; simp
                      refine br_intro' (fun z1 => ?_) (fun z1 => ?_) <;> simp [z1, Z.get]
                      · refine one _ hmz rfl ?_; simp
                        refine br_intro' (fun z2 => ?_) (fun z2 => ?_) <;> simp [z2, Z.get]
                        · exact absurd (show R.isArg (bt R.text i) = true by simp [Rdr.isArg, z, z1, z2]) hA
                        · refine all_call rfl (Z.fail s i 0 3 i) (by simp [Z.len]) ?_; simp [failF]
                          rw [hq]
                          exact LeV.refl _ _ _
                      · refine all_call rfl (Z.fail s i 0 3 i) (by simp [Z.len]) ?_; simp [failF]
                        rw [hq]
                        exact LeV.refl _ _ _
      · refine one _ (by decide) rfl ?_; simp
        by_cases hT : isTwoB (bt R.text i) = true
        · have hT' : inS (bt R.text i) ⟨#[40, 123, 91]⟩ = true := hT
          have hq : q = R.fin (bt R.text i) (R.two (rdF R n) (closeF (bt R.text i)) s (i + 1) 0) := by
            rw [← eq]
            simp only [rdF]
            rw [if_neg (by simp), if_neg u, if_neg hL, if_pos hT]
          simp [hT', Z.get]
          refine lift_call rfl (impl_closing_c _) (by simp) (by simp) ?_; simp
          rw [hset]
          have hX := Z.two ih (s := s) (i := i + 1) (c := 0) (e := closeF (bt R.text i)) (fun _ => ⟨hW1, by omega, by omega⟩)
          have hg := K.two_good' n (s := s) (i := i) (e := closeF (bt R.text i)) hW hlt (by omega)
          have hl : (R.two (rdF R n) (closeF (bt R.text i)) s (i + 1) 0).2.1.length = 2 := rfl
          have hts : R.Shape (bt R.text i) (R.two (rdF R n) (closeF (bt R.text i)) s (i + 1) 0).2.1.length := .inl ⟨hT, rfl⟩
          obtain ⟨p, ep⟩ : ∃ p, R.two (rdF R n) (closeF (bt R.text i)) s (i + 1) 0 = p := ⟨_, rfl⟩
          rw [ep] at hq hX hg hts hl
          refine all_call rfl hX (by simp [Z.len]) ?_; simp
          simp [getA]
          by_cases hc : p.2.2.2 = 0
          · obtain ⟨g1, g2, g3, g4⟩ := hg hc
            obtain ⟨G, j1, j2, j3⟩ := Z.join hW hlt g3 g2 hts g4
            have hqq : q = ((R.join p.1 (bt R.text i) p.2.1 p.2.2.1).1, (R.join p.1 (bt R.text i) p.2.1 p.2.2.1).2.1, p.2.2.1, (R.join p.1 (bt R.text i) p.2.1 p.2.2.1).2.2) := by rw [hq]; unfold Rdr.fin; rw [if_pos hc]
            simp [hc, getA]
            refine ck_intro' Z.ej ?_; simp
            rw [hl] at j2
            refine all_call rfl (by simpa using j2) (by simp [Z.len]; omega) ?_; simp
            rw [hqq, Z.len]
            exact j3
          · simp [hc]
            rw [hq, show R.fin (bt R.text i) p = (p.1, -1, p.2.2.1, p.2.2.2) from if_neg hc]
            exact LeV.drop (by simp [Z.len]) (by rw [Z.len]; exact Z.cl _ _ _) (by simp)
        · have hT' : inS (bt R.text i) ⟨#[40, 123, 91]⟩ = false := by simpa [isTwoB] using hT
          simp [hT']
          refine one _ (by decide) rfl ?_; simp
          by_cases hO : R.isOne (bt R.text i) = true
          · have hq : q = R.fin (bt R.text i) (oneF (rdF R n) s (i + 1)) := by
              rw [← eq]
              simp only [rdF]
              rw [if_neg (by simp), if_neg u, if_neg hL, if_neg hT, if_pos hO]
            have hX := ih s (i + 1) 0 (fun _ => ⟨hW1, by omega, by omega⟩)
            have hg0 := K.rd_good n (s := s) (i := i + 1) (c := 0) hW1 (by omega) (by omega)
            have hg : (oneF (rdF R n) s (i + 1)).2.2.2 = 0 → i < (oneF (rdF R n) s (i + 1)).2.2.1 ∧ (oneF (rdF R n) s (i + 1)).2.2.1 ≤ R.text.size ∧ K.E s (i + 1) (oneF (rdF R n) s (i + 1)).1 (oneF (rdF R n) s (i + 1)).2.2.1 ∧ ∀ t ∈ (oneF (rdF R n) s (i + 1)).2.1, K.V (oneF (rdF R n) s (i + 1)).1 t := fun h => by
              obtain ⟨h1, h2, h3, h4⟩ := hg0 h
              refine ⟨Nat.lt_trans (show i < i + 1 by omega) h1, h2, h3, fun t ht => ?_⟩
              simp only [oneF, List.mem_cons, List.mem_nil_iff, or_false] at ht
              rw [ht]; exact h4
            have hl : (oneF (rdF R n) s (i + 1)).2.1.length = 1 := rfl
            have hts : R.Shape (bt R.text i) (oneF (rdF R n) s (i + 1)).2.1.length := .inr (.inl ⟨by simpa using hT, hO, rfl⟩)
            have hrow : ∀ (H : List Blk), H ++ [(⟨0, false, 1, [i6 (rdF R n s (i + 1) 0).2.1], none⟩ : Blk)] = H ++ [⟨0, false, 1, ints (oneF (rdF R n) s (i + 1)).2.1, none⟩] := fun H => rfl
            have hp1 : (rdF R n s (i + 1) 0).1 = (oneF (rdF R n) s (i + 1)).1 := rfl
            have hp2 : (rdF R n s (i + 1) 0).2.2.1 = (oneF (rdF R n) s (i + 1)).2.2.1 := rfl
            have hp3 : (rdF R n s (i + 1) 0).2.2.2 = (oneF (rdF R n) s (i + 1)).2.2.2 := rfl
            obtain ⟨p, ep⟩ : ∃ p, oneF (rdF R n) s (i + 1) = p := ⟨_, rfl⟩
            rw [ep] at hq hg hts hl hp1 hp2 hp3
            refine br_intro' (fun z => ?_) (fun z => ?_) <;> simp [z, Z.get]
            · rw [hset]
              refine all_call rfl hX (by simp [Z.len]) ?_; simp
              rw [hrow, ep, hp1, hp2, hp3, Z.len]
              simp [getA]
              by_cases hc : p.2.2.2 = 0
              · obtain ⟨g1, g2, g3, g4⟩ := hg hc
                obtain ⟨G, j1, j2, j3⟩ := Z.join hW hlt g3 g2 hts g4
                have hqq : q = ((R.join p.1 (bt R.text i) p.2.1 p.2.2.1).1, (R.join p.1 (bt R.text i) p.2.1 p.2.2.1).2.1, p.2.2.1, (R.join p.1 (bt R.text i) p.2.1 p.2.2.1).2.2) := by rw [hq]; unfold Rdr.fin; rw [if_pos hc]
                simp [hc, getA]
                refine ck_intro' Z.ej ?_; simp
                rw [hl] at j2
                refine all_call rfl (by simpa using j2) (by simp [Z.len]; omega) ?_; simp
                rw [hqq, Z.len]
                exact j3
              · simp [hc]
                rw [hq, show R.fin (bt R.text i) p = (p.1, -1, p.2.2.1, p.2.2.2) from if_neg hc]
                exact LeV.drop (by simp [Z.len]) (by rw [Z.len]; exact Z.cl _ _ _) (by simp)
            · refine one _ (by decide) rfl ?_; simp
              refine br_intro' (fun z1 => ?_) (fun z1 => ?_) <;> simp [z1, Z.get]
              · refine one _ hmz rfl ?_; simp
                refine br_intro' (fun z2 => ?_) (fun z2 => ?_) <;> simp [z2, Z.get]
                · rw [hset]
                  refine all_call rfl hX (by simp [Z.len]) ?_; simp
                  rw [hrow, ep, hp1, hp2, hp3, Z.len]
                  simp [getA]
                  by_cases hc : p.2.2.2 = 0
                  · obtain ⟨g1, g2, g3, g4⟩ := hg hc
                    obtain ⟨G, j1, j2, j3⟩ := Z.join hW hlt g3 g2 hts g4
                    have hqq : q = ((R.join p.1 (bt R.text i) p.2.1 p.2.2.1).1, (R.join p.1 (bt R.text i) p.2.1 p.2.2.1).2.1, p.2.2.1, (R.join p.1 (bt R.text i) p.2.1 p.2.2.1).2.2) := by rw [hq]; unfold Rdr.fin; rw [if_pos hc]
                    simp [hc, getA]
                    refine ck_intro' Z.ej ?_; simp
                    rw [hl] at j2
                    refine all_call rfl (by simpa using j2) (by simp [Z.len]; omega) ?_; simp
                    rw [hqq, Z.len]
                    exact j3
                  · simp [hc]
                    rw [hq, show R.fin (bt R.text i) p = (p.1, -1, p.2.2.1, p.2.2.2) from if_neg hc]
                    exact LeV.drop (by simp [Z.len]) (by rw [Z.len]; exact Z.cl _ _ _) (by simp)
                · exact absurd hO (by simp [Rdr.isOne, z, z1, z2])
              · exact absurd hO (by simp [Rdr.isOne, z, z1])
          · refine br_intro' (fun z => ?_) (fun z => ?_) <;> simp [z, Z.get]
            · exact absurd (show R.isOne (bt R.text i) = true by simp [Rdr.isOne, z]) hO
            · refine one _ (by decide) rfl ?_; simp
              refine br_intro' (fun z1 => ?_) (fun z1 => ?_) <;> simp [z1, Z.get]
              · refine one _ hmz rfl ?_; simp
                refine br_intro' (fun z2 => ?_) (fun z2 => ?_) <;> simp [z2, Z.get]
                · exact absurd (show R.isOne (bt R.text i) = true by simp [Rdr.isOne, z, z1, z2]) hO
                · clear z z1 z2
                  refine one _ (by decide) rfl ?_; simp
                  by_cases hA : R.isArg (bt R.text i) = true
                  · have hq : q = R.fin (bt R.text i) (R.two (rdF R n) 41 s (takeF R.text (i + 1) 0 40).1 (takeF R.text (i + 1) 0 40).2) := by
                      rw [← eq]
                      simp only [rdF]
                      rw [if_neg (by simp), if_neg u, if_neg hL, if_neg hT, if_neg hO, if_pos hA]
                    have hX := Z.two ih (s := s) (i := (takeF R.text (i + 1) 0 40).1) (c := (takeF R.text (i + 1) 0 40).2) (e := 41) (fun h0 => by
                      obtain ⟨_, t2, t3⟩ := takeF_ok h0
                      rw [t3]
                      exact ⟨K.W_E hW1 (K.E_step _ _), by omega, by omega⟩)
                    have hg := K.arg_good n (s := s) (i := i) hW hlt (by omega)
                    have hl : (R.two (rdF R n) 41 s (takeF R.text (i + 1) 0 40).1 (takeF R.text (i + 1) 0 40).2).2.1.length = 2 := rfl
                    have hts : R.Shape (bt R.text i) (R.two (rdF R n) 41 s (takeF R.text (i + 1) 0 40).1 (takeF R.text (i + 1) 0 40).2).2.1.length := .inr (.inr ⟨by simpa using hT, by simpa using hO, hA, rfl⟩)
                    have hK := Z.take s (i + 1) 0 40
                    obtain ⟨p, ep⟩ : ∃ p, R.two (rdF R n) 41 s (takeF R.text (i + 1) 0 40).1 (takeF R.text (i + 1) 0 40).2 = p := ⟨_, rfl⟩
                    rw [ep] at hq hX hg hts hl
                    refine br_intro' (fun z => ?_) (fun z => ?_) <;> simp [z, Z.get]
                    · rw [hset]
                      refine all_call rfl hK (by simp [Z.len]) ?_; simp
                      refine all_call rfl hX (by simp [Z.len]) ?_; simp
                      simp [getA]
                      by_cases hc : p.2.2.2 = 0
                      · obtain ⟨g1, g2, g3, g4⟩ := hg hc
                        obtain ⟨G, j1, j2, j3⟩ := Z.join hW hlt g3 g2 hts g4
                        have hqq : q = ((R.join p.1 (bt R.text i) p.2.1 p.2.2.1).1, (R.join p.1 (bt R.text i) p.2.1 p.2.2.1).2.1, p.2.2.1, (R.join p.1 (bt R.text i) p.2.1 p.2.2.1).2.2) := by rw [hq]; unfold Rdr.fin; rw [if_pos hc]
                        simp [hc, getA]
                        refine ck_intro' Z.ej ?_; simp
                        rw [hl] at j2
                        refine all_call rfl (by simpa using j2) (by simp [Z.len]; omega) ?_; simp
                        rw [hqq, Z.len]
                        exact j3
                      · simp [hc]
                        rw [hq, show R.fin (bt R.text i) p = (p.1, -1, p.2.2.1, p.2.2.2) from if_neg hc]
                        exact LeV.drop (by simp [Z.len]) (by rw [Z.len]; exact Z.cl _ _ _) (by simp)
                    · refine one _ (by decide) rfl ?_; simp
                      refine br_intro' (fun z1 => ?_) (fun z1 => ?_) <;> simp [z1, Z.get]
                      · refine one _ hmz rfl ?_; simp
                        refine br_intro' (fun z2 => ?_) (fun z2 => ?_) <;> simp [z2, Z.get]
                        · rw [hset]
                          refine all_call rfl hK (by simp [Z.len]) ?_; simp
                          refine all_call rfl hX (by simp [Z.len]) ?_; simp
                          simp [getA]
                          by_cases hc : p.2.2.2 = 0
                          · obtain ⟨g1, g2, g3, g4⟩ := hg hc
                            obtain ⟨G, j1, j2, j3⟩ := Z.join hW hlt g3 g2 hts g4
                            have hqq : q = ((R.join p.1 (bt R.text i) p.2.1 p.2.2.1).1, (R.join p.1 (bt R.text i) p.2.1 p.2.2.1).2.1, p.2.2.1, (R.join p.1 (bt R.text i) p.2.1 p.2.2.1).2.2) := by rw [hq]; unfold Rdr.fin; rw [if_pos hc]
                            simp [hc, getA]
                            refine ck_intro' Z.ej ?_; simp
                            rw [hl] at j2
                            refine all_call rfl (by simpa using j2) (by simp [Z.len]; omega) ?_; simp
                            rw [hqq, Z.len]
                            exact j3
                          · simp [hc]
                            rw [hq, show R.fin (bt R.text i) p = (p.1, -1, p.2.2.1, p.2.2.2) from if_neg hc]
                            exact LeV.drop (by simp [Z.len]) (by rw [Z.len]; exact Z.cl _ _ _) (by simp)
                        · exact absurd hA (by simp [Rdr.isArg, z, z1, z2])
                      · exact absurd hA (by simp [Rdr.isArg, z, z1])
                  · have hq : q = (s, -1, i, 3) := by
                      rw [← eq]
                      simp only [rdF]
                      rw [if_neg (by simp), if_neg u, if_neg hL, if_neg hT, if_neg hO, if_neg hA]
                    refine br_intro' (fun z => ?_) (fun z => ?_) <;> simp [z, Z.get]
                    · exact absurd (show R.isArg (bt R.text i) = true by simp [Rdr.isArg, z]) hA
                    · refine one _ (by decide) rfl ?_; simp
                      refine br_intro' (fun z1 => ?_) (fun z1 => ?_) <;> simp [z1, Z.get]
                      · refine one _ hmz rfl ?_; simp
                        refine br_intro' (fun z2 => ?_) (fun z2 => ?_) <;> simp [z2, Z.get]
                        · exact absurd (show R.isArg (bt R.text i) = true by simp [Rdr.isArg, z, z1, z2]) hA
                        · refine all_call rfl (Z.fail s i 0 3 i) (by simp [Z.len]) ?_; simp [failF]
                          rw [hq]
                          exact LeV.refl _ _ _
                      · refine all_call rfl (Z.fail s i 0 3 i) (by simp [Z.len]) ?_; simp [failF]
                        rw [hq]
                        exact LeV.refl _ _ _
              · clear z z1
                refine one _ (by decide) rfl ?_; simp
                by_cases hA : R.isArg (bt R.text i) = true
                · have hq : q = R.fin (bt R.text i) (R.two (rdF R n) 41 s (takeF R.text (i + 1) 0 40).1 (takeF R.text (i + 1) 0 40).2) := by
                    rw [← eq]
                    simp only [rdF]
                    rw [if_neg (by simp), if_neg u, if_neg hL, if_neg hT, if_neg hO, if_pos hA]
                  have hX := Z.two ih (s := s) (i := (takeF R.text (i + 1) 0 40).1) (c := (takeF R.text (i + 1) 0 40).2) (e := 41) (fun h0 => by
                    obtain ⟨_, t2, t3⟩ := takeF_ok h0
                    rw [t3]
                    exact ⟨K.W_E hW1 (K.E_step _ _), by omega, by omega⟩)
                  have hg := K.arg_good n (s := s) (i := i) hW hlt (by omega)
                  have hl : (R.two (rdF R n) 41 s (takeF R.text (i + 1) 0 40).1 (takeF R.text (i + 1) 0 40).2).2.1.length = 2 := rfl
                  have hts : R.Shape (bt R.text i) (R.two (rdF R n) 41 s (takeF R.text (i + 1) 0 40).1 (takeF R.text (i + 1) 0 40).2).2.1.length := .inr (.inr ⟨by simpa using hT, by simpa using hO, hA, rfl⟩)
                  have hK := Z.take s (i + 1) 0 40
                  obtain ⟨p, ep⟩ : ∃ p, R.two (rdF R n) 41 s (takeF R.text (i + 1) 0 40).1 (takeF R.text (i + 1) 0 40).2 = p := ⟨_, rfl⟩
                  rw [ep] at hq hX hg hts hl
                  refine br_intro' (fun z => ?_) (fun z => ?_) <;> simp [z, Z.get]
                  · rw [hset]
                    refine all_call rfl hK (by simp [Z.len]) ?_; simp
                    refine all_call rfl hX (by simp [Z.len]) ?_; simp
                    simp [getA]
                    by_cases hc : p.2.2.2 = 0
                    · obtain ⟨g1, g2, g3, g4⟩ := hg hc
                      obtain ⟨G, j1, j2, j3⟩ := Z.join hW hlt g3 g2 hts g4
                      have hqq : q = ((R.join p.1 (bt R.text i) p.2.1 p.2.2.1).1, (R.join p.1 (bt R.text i) p.2.1 p.2.2.1).2.1, p.2.2.1, (R.join p.1 (bt R.text i) p.2.1 p.2.2.1).2.2) := by rw [hq]; unfold Rdr.fin; rw [if_pos hc]
                      simp [hc, getA]
                      refine ck_intro' Z.ej ?_; simp
                      rw [hl] at j2
                      refine all_call rfl (by simpa using j2) (by simp [Z.len]; omega) ?_; simp
                      rw [hqq, Z.len]
                      exact j3
                    · simp [hc]
                      rw [hq, show R.fin (bt R.text i) p = (p.1, -1, p.2.2.1, p.2.2.2) from if_neg hc]
                      exact LeV.drop (by simp [Z.len]) (by rw [Z.len]; exact Z.cl _ _ _) (by simp)
                  · refine one _ (by decide) rfl ?_; simp
                    refine br_intro' (fun z1 => ?_) (fun z1 => ?_) <;> simp [z1, Z.get]
                    · refine one _ hmz rfl ?_; simp
                      refine br_intro' (fun z2 => ?_) (fun z2 => ?_) <;> simp [z2, Z.get]
                      · rw [hset]
                        refine all_call rfl hK (by simp [Z.len]) ?_; simp
                        refine all_call rfl hX (by simp [Z.len]) ?_; simp
                        simp [getA]
                        by_cases hc : p.2.2.2 = 0
                        · obtain ⟨g1, g2, g3, g4⟩ := hg hc
                          obtain ⟨G, j1, j2, j3⟩ := Z.join hW hlt g3 g2 hts g4
                          have hqq : q = ((R.join p.1 (bt R.text i) p.2.1 p.2.2.1).1, (R.join p.1 (bt R.text i) p.2.1 p.2.2.1).2.1, p.2.2.1, (R.join p.1 (bt R.text i) p.2.1 p.2.2.1).2.2) := by rw [hq]; unfold Rdr.fin; rw [if_pos hc]
                          simp [hc, getA]
                          refine ck_intro' Z.ej ?_; simp
                          rw [hl] at j2
                          refine all_call rfl (by simpa using j2) (by simp [Z.len]; omega) ?_; simp
                          rw [hqq, Z.len]
                          exact j3
                        · simp [hc]
                          rw [hq, show R.fin (bt R.text i) p = (p.1, -1, p.2.2.1, p.2.2.2) from if_neg hc]
                          exact LeV.drop (by simp [Z.len]) (by rw [Z.len]; exact Z.cl _ _ _) (by simp)
                      · exact absurd hA (by simp [Rdr.isArg, z, z1, z2])
                    · exact absurd hA (by simp [Rdr.isArg, z, z1])
                · have hq : q = (s, -1, i, 3) := by
                    rw [← eq]
                    simp only [rdF]
                    rw [if_neg (by simp), if_neg u, if_neg hL, if_neg hT, if_neg hO, if_neg hA]
                  refine br_intro' (fun z => ?_) (fun z => ?_) <;> simp [z, Z.get]
                  · exact absurd (show R.isArg (bt R.text i) = true by simp [Rdr.isArg, z]) hA
                  · refine one _ (by decide) rfl ?_; simp
                    refine br_intro' (fun z1 => ?_) (fun z1 => ?_) <;> simp [z1, Z.get]
                    · refine one _ hmz rfl ?_; simp
                      refine br_intro' (fun z2 => ?_) (fun z2 => ?_) <;> simp [z2, Z.get]
                      · exact absurd (show R.isArg (bt R.text i) = true by simp [Rdr.isArg, z, z1, z2]) hA
                      · refine all_call rfl (Z.fail s i 0 3 i) (by simp [Z.len]) ?_; simp [failF]
                        rw [hq]
                        exact LeV.refl _ _ _
                    · refine all_call rfl (Z.fail s i 0 3 i) (by simp [Z.len]) ?_; simp [failF]
                      rw [hq]
                      exact LeV.refl _ _ _
end
end Go.Proofs.YtealijdcolmchaaGreatDoor.C

set_option linter.unusedVariables false
set_option linter.unusedSimpArgs false
set_option maxRecDepth 4000
namespace Go.Proofs.YtealijdcolmchaaGreatDoor.C
open Go.Sym Go.Proofs.YtealijdcolmchaaGreatDoor.I
/-- All of a text. -/
def allRF {σ : Type} (R : Rdr σ) (most : Int) (s : σ) : σ × Int × Nat × Int :=
  if most < R.text.size then (s, -1, 0, 1)
  else if (rdF R (R.text.size + 1) s 0 0).2.2.2 = 0 ∧ (rdF R (R.text.size + 1) s 0 0).2.2.1 < R.text.size then ((rdF R (R.text.size + 1) s 0 0).1, -1, (rdF R (R.text.size + 1) s 0 0).2.2.1, 6)
  else rdF R (R.text.size + 1) s 0 0
theorem RdrRun.all {σ : Type} {R : Rdr σ} {K : RdrOk R} (Z : RdrRun K) {s : σ} {most : Int} (hW : K.W s 0) : T 30 [rptr Z.b, i6 most] (Z.Hs s 0 0) (i6 (allRF R most s).2.1) (Z.Hs (allRF R most s).1 (allRF R most s).2.2.1 (allRF R most s).2.2.2) := by
  obtain ⟨a, ea⟩ : ∃ a, allRF R most s = a := ⟨_, rfl⟩
  have hX := Z.reads (R.text.size + 1) s 0 0 (fun _ => ⟨hW, Nat.zero_le _, by omega⟩)
  obtain ⟨p, ep⟩ : ∃ p, rdF R (R.text.size + 1) s 0 0 = p := ⟨_, rfl⟩
  have hz := Z.size
  simp only [allRF, ep] at ea
  rw [ep] at hX
  rw [show allRF R most s = a by simp only [allRF, ep]; exact ea]
  refine semT' (S := fun _ => true) hm impl_reader_all_ok (Nat.le_of_ble_eq_true rfl) ?_
  unfold impl_reader_all; dsimp only
  simp [Z.get]
  refine br_intro' (fun u => ?_) (fun u => ?_) <;> (have u0 := u) <;> simp only [decide_eq_true_eq, decide_eq_false_iff_not] at u <;> simp [u0, Z.get]
  · rw [if_pos u] at ea
    refine all_call rfl (Z.fail s 0 0 1 0) (by simp [Z.len]) ?_; simp [failF]
    rw [← ea]
    exact LeV.refl _ _ _
  rw [if_neg u] at ea
  refine all_call rfl (by simpa using hX) (by simp [Z.len]) ?_; simp [Z.get]
  by_cases hc : p.2.2.2 = 0
  · simp [hc, Z.get]
    repeat (refine ck_intro' (by first | omega | (simp; omega) | kernel_rfl) ?_; try simp [Z.get])
    refine br_intro' (fun v => ?_) (fun v => ?_) <;> (have v0 := v) <;> simp only [decide_eq_true_eq, decide_eq_false_iff_not] at v <;> simp [v0, Z.get]
    · rw [if_pos ⟨hc, by omega⟩] at ea
      refine all_call rfl (Z.fail p.1 p.2.2.1 0 6 p.2.2.1) (by simp [Z.len]) ?_; simp [failF]
      rw [← ea]
      exact LeV.refl _ _ _
    · rw [if_neg (by omega)] at ea
      rw [← ea, hc]
      exact LeV.refl _ _ _
  · simp [hc, Z.get]
    repeat (refine ck_intro' (by first | omega | (simp; omega) | kernel_rfl) ?_; try simp [Z.get])
    rw [if_neg (fun g => hc g.1)] at ea
    rw [← ea]
    exact LeV.refl _ _ _
end Go.Proofs.YtealijdcolmchaaGreatDoor.C

set_option linter.unusedVariables false
set_option linter.unusedSimpArgs false
set_option maxRecDepth 4000
namespace Go.Proofs.YtealijdcolmchaaGreatDoor.C
open Go.Sym Go.Proofs.YtealijdcolmchaaGreatDoor.I
/-- A term put into a pool, by a reader: what is wrong where it may not. -/
def fullF (p : List Nd × Int) : List Nd × Int × Int := if p.2 < 0 then (p.1, -1, 5) else (p.1, p.2, 0)
/-- A name in a reader of terms. -/
def nmF (tx : ByteArray) (s : List Nd) (i : Nat) : List Nd × Int × Nat × Int :=
  if (numF tx (i + 1) i).2.2 = 0 then ((fullF (addF s ⟨1, (numF tx (i + 1) i).1, 0⟩)).1, (fullF (addF s ⟨1, (numF tx (i + 1) i).1, 0⟩)).2.1, dEnd tx (i + 1), (fullF (addF s ⟨1, (numF tx (i + 1) i).1, 0⟩)).2.2)
  else (s, -1, i, 4)
/-- A sign with parts in a reader of terms. -/
def jnF (s : List Nd) (b : Int) (ts : List Int) : List Nd × Int × Int := fullF (addF s ⟨kindF b, ts.getD 0 0, ts.getD 1 0⟩)
def trmR (tx : ByteArray) : Rdr (List Nd) where
  text := tx
  more := ⟨#[]⟩
  leaf s _ i := nmF tx s i
  join s b ts _ := jnF s b ts
theorem addF_rng (ns : List Nd) (n : Nd) : (addF ns n).2 = -1 ∨ (0 ≤ (addF ns n).2 ∧ (addF ns n).2 < (addF ns n).1.length) := by
  unfold addF
  split
  · exact .inl rfl
  · split
    · rename_i h
      right
      refine ⟨h, ?_⟩
      simp only
      have : ∀ (xs : List Nd) (n : Nd) (i : Int), 0 ≤ i → findF xs n i = -1 ∨ (i ≤ findF xs n i ∧ findF xs n i < i + xs.length) := by
        intro xs
        induction xs with
        | nil => intro n i _; exact .inl rfl
        | cons x xs ih =>
          intro n i hi
          unfold findF
          split
          · right; simp; omega
          · rcases ih n (i + 1) (by omega) with g | g
            · exact .inl g
            · right; simp; omega
      rcases this ns (normN n) 0 (by omega) with g | g <;> omega
    · split
      · exact .inl rfl
      · right; simp; omega
theorem addF_ext (ns : List Nd) (n : Nd) : ns <+: (addF ns n).1 := by
  unfold addF
  split
  · exact List.prefix_refl _
  · split
    · exact List.prefix_refl _
    · split
      · exact List.prefix_refl _
      · exact List.prefix_append _ _
theorem fullF_ok {p : List Nd × Int} (h : (fullF p).2.2 = 0) : 0 ≤ p.2 ∧ (fullF p).1 = p.1 ∧ (fullF p).2.1 = p.2 := by
  unfold fullF at h ⊢
  split
  · rename_i g; rw [if_pos g] at h; simp at h
  · rename_i g; exact ⟨by omega, rfl, rfl⟩
theorem numF_ok {tx : ByteArray} {i : Nat} {fr : Int} (h : (numF tx i fr).2.2 = 0) : (numF tx i fr).1 = figV 9 (dgRun tx i) ∧ 0 ≤ figV 9 (dgRun tx i) ∧ figV 9 (dgRun tx i) ≤ 199 ∧ numF tx i fr = (figV 9 (dgRun tx i), (dEnd tx i : Int), 0) := by
  unfold numF at h ⊢
  split
  · rename_i g; exact ⟨rfl, g.1, g.2, rfl⟩
  · rename_i g; rw [if_neg g] at h; simp at h
/-- What a reader of terms keeps. -/
def trmK (tx : ByteArray) : RdrOk (trmR tx) where
  W s _ := poolF s = true
  E s i s' i' := s <+: s' ∧ i ≤ i' ∧ (poolF s = true → poolF s' = true)
  V s t := 0 ≤ t ∧ t < s.length
  E_step s i := ⟨List.prefix_refl _, by omega, id⟩
  E_trans h1 h2 := ⟨h1.1.trans h2.1, Nat.le_trans h1.2.1 h2.2.1, fun h => h2.2.2 (h1.2.2 h)⟩
  W_E h1 h2 := h2.2.2 h1
  V_E h1 h2 := ⟨h1.1, by have := h2.1.length_le; omega⟩
  leaf_ok {s i} hW hi hL h := by
    have hi : i < tx.size := hi
    simp only [trmR, nmF] at h ⊢
    split at h
    · rename_i g
      rw [if_pos g]
      obtain ⟨g1, g2, g3⟩ := fullF_ok h
      rw [g2, g3]
      have h1 := dEnd_ge tx (i + 1)
      have h2 := dEnd_le (s := tx) (i := i + 1) (by omega)
      refine ⟨by simp only; omega, h2, ⟨addF_ext _ _, by simp only; omega, fun h => addF_pool _ h⟩, ?_⟩
      rcases addF_rng s ⟨1, (numF tx (i + 1) i).1, 0⟩ with k | k
      · omega
      · exact k
    · simp at h
  join_ok {s0 i s i' ts} hW hE hS hV h := by
    simp only [trmR, jnF] at h ⊢
    obtain ⟨g1, g2, g3⟩ := fullF_ok h
    rw [g2, g3]
    refine ⟨⟨hE.1.trans (addF_ext _ _), Nat.le_trans (Nat.le_succ i) hE.2.1, fun h => addF_pool _ (hE.2.2 h)⟩, ?_⟩
    rcases addF_rng s ⟨kindF (bt tx i), ts.getD 0 0, ts.getD 1 0⟩ with k | k
    · omega
    · exact k
end Go.Proofs.YtealijdcolmchaaGreatDoor.C

set_option linter.unusedVariables false
set_option linter.unusedSimpArgs false
namespace Go.Proofs.YtealijdcolmchaaGreatDoor.C
open Go.Sym Go.Proofs.YtealijdcolmchaaGreatDoor.I
def In64 (n : Int) : Prop := -9223372036854775808 ≤ n ∧ n < 9223372036854775808
abbrev shI : Sh := .i .i64
abbrev shN : Sh := .st (.p shI (.p shI (.p shI .u)))
abbrev shP : Sh := .st (.p (.sl shN) .u)
abbrev shL : Sh := .st (.p shI (.p shI (.p shI (.p .b .u))))
abbrev shIs : Sh := .sl shI
abbrev shS : Sh := .st (.p shP (.p shIs (.p shL (.p shL (.p shIs (.p shIs .u))))))
theorem fit_i {cs : List A} (h : Fit shI cs) : ∃ n, cs = [i6 n] ∧ In64 n := by
  obtain ⟨n, rfl, hn⟩ := h
  exact ⟨n, rfl, fit_i64 hn⟩
theorem fit_n {cs : List A} (h : Fit shN cs) : ∃ n : Nd, cs = encN n ∧ In64 n.k ∧ In64 n.a ∧ In64 n.b := by
  obtain ⟨x, y, rfl, hx, z, t, rfl, hz, u, w, rfl, hu, rfl⟩ := h
  obtain ⟨a, rfl, ha⟩ := fit_i hx
  obtain ⟨b, rfl, hb⟩ := fit_i hz
  obtain ⟨c, rfl, hc⟩ := fit_i hu
  exact ⟨⟨a, b, c⟩, rfl, ha, hb, hc⟩
theorem fit_p {cs : List A} (h : Fit shP cs) : ∃ ns : List Nd, cs = [.sl ns.length (enc ns)] ∧ ns.length < 9223372036854775808 := by
  obtain ⟨x, y, rfl, hx, rfl⟩ := h
  obtain ⟨ns, rfl, h1, _⟩ := fit_sl (f := encN) (fun r hr => fit_n hr) hx
  exact ⟨ns, by simp [enc], h1⟩
theorem fit_is {cs : List A} (h : Fit shIs cs) : ∃ xs : List Int, cs = [aI xs] ∧ xs.length < 9223372036854775808 := by
  obtain ⟨xs, rfl, h1, _⟩ := fit_sl (f := fun n => [i6 n]) (fun r hr => fit_i hr) h
  exact ⟨xs, by simp only [aI, ints]; rw [List.map_eq_flatMap], h1⟩
structure Lk.fit (l : Lk) : Prop where
  k : In64 l.key
  e : In64 l.epoch
  s : In64 l.seq
theorem fit_l {cs : List A} (h : Fit shL cs) : ∃ l : Lk, cs = [i6 l.key, i6 l.epoch, i6 l.seq, .bool l.over] ∧ l.fit := by
  obtain ⟨x, y, rfl, hx, z, t, rfl, hz, u, w, rfl, hu, b, w, rfl, ⟨o, rfl⟩, rfl⟩ := h
  obtain ⟨a, rfl, ha⟩ := fit_i hx
  obtain ⟨b, rfl, hb⟩ := fit_i hz
  obtain ⟨c, rfl, hc⟩ := fit_i hu
  exact ⟨⟨a, b, c, o⟩, rfl, ha, hb, hc⟩
structure St.fitA (s : St) : Prop where
  p : s.pool.length < 9223372036854775808
  k : s.know.length < 9223372036854775808
  t : s.sent.length < 9223372036854775808
  g : s.got.length < 9223372036854775808
  o : s.out.fit
  i : s.inn.fit
theorem fit_s {cs : List A} (h : Fit shS cs) : ∃ s : St, cs = cS s ∧ s.fitA := by
  obtain ⟨x, y, rfl, hx, z, t, rfl, hz, u, w, rfl, hu, b, w, rfl, hb, e, f, rfl, he, g, i, rfl, hg, rfl⟩ := h
  obtain ⟨ns, rfl, h1⟩ := fit_p hx
  obtain ⟨ks, rfl, h2⟩ := fit_is hz
  obtain ⟨l, rfl, h3⟩ := fit_l hu
  obtain ⟨m, rfl, h4⟩ := fit_l hb
  obtain ⟨ts, rfl, h5⟩ := fit_is he
  obtain ⟨gs, rfl, h6⟩ := fit_is hg
  exact ⟨⟨ns, ks, l, m, ts, gs⟩, rfl, h1, h2, h5, h6, h3, h4⟩
theorem arg_p {x : A} (h : FitA shP x) : ∃ ns : List Nd, x = aP ns ∧ ns.length < 9223372036854775808 := by
  obtain ⟨cs, rfl, h⟩ := h
  obtain ⟨ns, rfl, g⟩ := fit_p h
  exact ⟨ns, rfl, g⟩
theorem arg_l {x : A} (h : FitA shL x) : ∃ l : Lk, x = aL l ∧ l.fit := by
  obtain ⟨cs, rfl, h⟩ := h
  obtain ⟨ns, rfl, g⟩ := fit_l h
  exact ⟨ns, rfl, g⟩
theorem arg_s {x : A} (h : FitA shS x) : ∃ s : St, x = aS s ∧ s.fitA := by
  obtain ⟨cs, rfl, h⟩ := h
  obtain ⟨ns, rfl, g⟩ := fit_s h
  exact ⟨ns, rfl, g⟩
theorem arg_is {x : A} (h : FitA shIs x) : ∃ xs : List Int, x = aI xs ∧ xs.length < 9223372036854775808 := by
  obtain ⟨xs, e, h⟩ := fit_is (show Fit shIs [x] from h)
  exact ⟨xs, by simpa using e, h⟩
theorem arg_i {x : A} (h : FitA shI x) : ∃ n : Int, x = i6 n ∧ In64 n := by
  obtain ⟨n, e, h⟩ := fit_i (show Fit shI [x] from h)
  exact ⟨n, by simpa using e, h⟩
end Go.Proofs.YtealijdcolmchaaGreatDoor.C

set_option linter.unusedVariables false
set_option linter.unusedSimpArgs false
namespace Go.Proofs.YtealijdcolmchaaGreatDoor.C
open Go.Sym Go.Proofs.YtealijdcolmchaaGreatDoor.I
abbrev qblk (ns : List Nd) : Blk := ⟨ns.length, false, 3, enc ns, none⟩
abbrev iblk (xs : List Int) : Blk := ⟨xs.length, false, 1, ints xs, none⟩
abbrev iref (b : Nat) (xs : List Int) : A := .ref b xs.length 0 xs.length
def szF (x : Int) (n : Nat) : Int := if x - n < 0 then -1 else x - n
theorem laws_szNodeS_c (ns : List Nd) (x : Int) (hl : ns.length < 9223372036854775808) (h0 : 0 ≤ x) (h1 : x < 9223372036854775808) : T 14 [.sl ns.length (enc ns), i6 x] [] (i6 (szF x ns.length)) ([]) := by
  refine semT' (S := S0) hm laws_szNodeS_ok (Nat.le_of_ble_eq_true rfl) ?_
  unfold laws_szNodeS; dsimp only
  have hw : IntKind.i64.wrap (x - ns.length) = x - ns.length := wrap64 (by omega) (by omega)
  simp [hw]
  refine br_intro' (fun h => ?_) (fun h => ?_) <;> (have h0 := h) <;> (try simp at h) <;> try simp [h0, h]
  · exact LeV.ro rfl rfl (by simp [szF, h])
  · exact LeV.ro rfl rfl (by simp [szF]; omega)
theorem laws_szNodeS_call {ns : List Nd} {x : Int} (hl : ns.length < 9223372036854775808) (h0 : 0 ≤ x) (h1 : x < 9223372036854775808) {S : FuncId → Bool} {H : List Blk} {K : A → Dl → Prop} (hS : S 14 = false) (hK : K (i6 (szF x ns.length)) (.news [])) : @WCall' Go.Proofs.Tryz.prog S 14 [.sl ns.length (enc ns), i6 x] H ⟨K⟩ :=
  WCall_pure hS (laws_szNodeS_c ns x hl h0 h1) (by simp) (by simp) (by simp) hK
theorem laws_szNodeS_k {ns : List Nd} {x : Int} (hl : ns.length < 9223372036854775808) (h0 : 0 ≤ x) (h1 : x < 9223372036854775808) {S : FuncId → Bool} {H : List Blk} {K : A → Dl → Prop} {zs : List A} (hS : S 14 = false) (hv : viewL (viewA 8 H) zs = some [.sl ns.length (enc ns), i6 x]) (ho : noOwns zs = true ∨ nosl (i6 (szF x ns.length)) = true) (hK : K (i6 (szF x ns.length)) (.news [])) : @WCall' Go.Proofs.Tryz.prog S 14 zs H ⟨K⟩ :=
  WCall_pure hS (laws_szNodeS_c ns x hl h0 h1) hv ho (by simp) hK
theorem laws_szPool_c (ns : List Nd) (x : Int) (hl : ns.length < 9223372036854775808) (h0 : 0 ≤ x) (h1 : x < 9223372036854775808) : T 4 [aP ns, i6 x] [] (i6 (szF x ns.length)) ([]) := by
  refine semT' (S := S0) hm laws_szPool_ok (Nat.le_of_ble_eq_true rfl) ?_
  unfold laws_szPool; dsimp only
  simp
  refine laws_szNodeS_call (ns := ns) (x := x) hl h0 h1 rfl ?_; simp
  refine br_intro' (fun h => ?_) (fun h => ?_) <;> (have h0 := h) <;> (try simp at h) <;> try simp [h0, h]
  · exact LeV.ro rfl rfl (by simp [szF] at h ⊢; omega)
  · exact LeV.ro rfl rfl (by simp)
theorem laws_szPool_call {ns : List Nd} {x : Int} (hl : ns.length < 9223372036854775808) (h0 : 0 ≤ x) (h1 : x < 9223372036854775808) {S : FuncId → Bool} {H : List Blk} {K : A → Dl → Prop} (hS : S 4 = false) (hK : K (i6 (szF x ns.length)) (.news [])) : @WCall' Go.Proofs.Tryz.prog S 4 [aP ns, i6 x] H ⟨K⟩ :=
  WCall_pure hS (laws_szPool_c ns x hl h0 h1) (by simp) (by simp) (by simp) hK
theorem laws_szPool_k {ns : List Nd} {x : Int} (hl : ns.length < 9223372036854775808) (h0 : 0 ≤ x) (h1 : x < 9223372036854775808) {S : FuncId → Bool} {H : List Blk} {K : A → Dl → Prop} {zs : List A} (hS : S 4 = false) (hv : viewL (viewA 8 H) zs = some [aP ns, i6 x]) (ho : noOwns zs = true ∨ nosl (i6 (szF x ns.length)) = true) (hK : K (i6 (szF x ns.length)) (.news [])) : @WCall' Go.Proofs.Tryz.prog S 4 zs H ⟨K⟩ :=
  WCall_pure hS (laws_szPool_c ns x hl h0 h1) hv ho (by simp) hK
theorem laws_toNode_c (n : Nd)  : T 46 [aN n] [] (aN n) ([]) := by
  refine semT' (S := S0) hm laws_toNode_ok (Nat.le_of_ble_eq_true rfl) ?_
  unfold laws_toNode; dsimp only
  simp
  exact LeV.ro rfl rfl (by simp)
theorem laws_toNode_call {n : Nd}  {S : FuncId → Bool} {H : List Blk} {K : A → Dl → Prop} (hS : S 46 = false) (hK : K (aN n) (.news [])) : @WCall' Go.Proofs.Tryz.prog S 46 [aN n] H ⟨K⟩ :=
  WCall_pure hS (laws_toNode_c n) (by simp) (by simp) (by simp) hK
theorem laws_toNode_k {n : Nd}  {S : FuncId → Bool} {H : List Blk} {K : A → Dl → Prop} {zs : List A} (hS : S 46 = false) (hv : viewL (viewA 8 H) zs = some [aN n]) (ho : noOwns zs = true ∨ nosl (aN n) = true) (hK : K (aN n) (.news [])) : @WCall' Go.Proofs.Tryz.prog S 46 zs H ⟨K⟩ :=
  WCall_pure hS (laws_toNode_c n) hv ho (by simp) hK
theorem laws_eqNode_c (n m : Nd)  : T 61 [aN n, aN m] [] (.bool (decide (n = m))) ([]) := by
  refine semT' (S := S0) hm laws_eqNode_ok (Nat.le_of_ble_eq_true rfl) ?_
  unfold laws_eqNode; dsimp only
  simp
  repeat (any_goals (first | (refine br_intro' (fun h => ?_) (fun h => ?_) <;> (have h0 := h) <;> (try simp at h) <;> try simp [h0, h])))
  all_goals exact LeV.ro rfl rfl (by simp [Nd_eq, *])
theorem laws_eqNode_call {n m : Nd}  {S : FuncId → Bool} {H : List Blk} {K : A → Dl → Prop} (hS : S 61 = false) (hK : K (.bool (decide (n = m))) (.news [])) : @WCall' Go.Proofs.Tryz.prog S 61 [aN n, aN m] H ⟨K⟩ :=
  WCall_pure hS (laws_eqNode_c n m) (by simp) (by simp) (by simp) hK
theorem laws_eqNode_k {n m : Nd}  {S : FuncId → Bool} {H : List Blk} {K : A → Dl → Prop} {zs : List A} (hS : S 61 = false) (hv : viewL (viewA 8 H) zs = some [aN n, aN m]) (ho : noOwns zs = true ∨ nosl (.bool (decide (n = m))) = true) (hK : K (.bool (decide (n = m))) (.news [])) : @WCall' Go.Proofs.Tryz.prog S 61 zs H ⟨K⟩ :=
  WCall_pure hS (laws_eqNode_c n m) hv ho (by simp) hK
theorem Lk_eq {x y : Lk} : x = y ↔ x.key = y.key ∧ x.epoch = y.epoch ∧ x.seq = y.seq ∧ x.over = y.over := by cases x; cases y; simp
def zN (j : Nat) : List Nd := List.replicate j ⟨0, 0, 0⟩
/-- A copy that is made up to a place. -/
def upN (ns : List Nd) (j : Nat) : List Nd := ns.take j ++ zN (ns.length - j)
theorem upN_len (ns : List Nd) (j : Nat) (h : j ≤ ns.length) : (upN ns j).length = ns.length := by simp [upN, zN]; omega
theorem upN_zero (ns : List Nd) : upN ns 0 = zN ns.length := by simp [upN]
theorem upN_end (ns : List Nd) : upN ns ns.length = ns := by simp [upN, zN]
theorem enc_zN (j : Nat) : enc (zN j) = (List.replicate j [i6 0, i6 0, i6 0]).flatten := by
  induction j with
  | zero => rfl
  | succ j ih => simp only [zN, List.replicate_succ, enc, List.flatMap_cons, List.flatten_cons] at ih ⊢; rw [ih]; rfl
theorem upN_set (ns : List Nd) (j : Nat) (h : j < ns.length) : (upN ns j).set j ns[j] = upN ns (j + 1) := by
  have hl : (ns.take j).length = j := by simp; omega
  have e : ns.length - j = (ns.length - (j + 1)) + 1 := by omega
  simp only [upN, zN]
  rw [List.set_append_right _ _ (by omega), hl, Nat.sub_self, e, List.replicate_succ, List.set_cons_zero, List.take_succ_eq_append_getElem h, List.append_assoc]
  rfl
theorem set3 {x y z : A} : ∀ (cs : List A) (a b c : A) (r : List A), (((a :: b :: c :: r).set 0 x).set 1 y).set 2 z = x :: y :: z :: r := fun _ _ _ _ _ => rfl
theorem enc_set : ∀ (xs : List Nd) (j : Nat) (n : Nd), (((enc xs).set (j * 3) (i6 n.k)).set (j * 3 + 1) (i6 n.a)).set (j * 3 + 2) (i6 n.b) = enc (xs.set j n)
  | [], j, n => by simp
  | x :: xs, 0, n => rfl
  | x :: xs, j + 1, n => by
    have := enc_set xs j n
    have e : (j + 1) * 3 = j * 3 + 1 + 1 + 1 := by omega
    show ((([i6 x.k, i6 x.a, i6 x.b] ++ enc xs).set ((j + 1) * 3) _).set ((j + 1) * 3 + 1) _).set ((j + 1) * 3 + 2) _ = [i6 x.k, i6 x.a, i6 x.b] ++ enc (xs.set j n)
    rw [e, ← this]
    rfl
theorem laws_toNodeS_c (ns : List Nd) (hl : ns.length ≤ 4294967296) : T 19 [.sl ns.length (enc ns)] [] (pref 0 ns) ([qblk ns]) := by
  refine semT' (S := S0) hm laws_toNodeS_ok (Nat.le_of_ble_eq_true rfl) ?_
  unfold laws_toNodeS; dsimp only
  have h1 : ((ns.length : Int)) * 24 ≤ 17592186044416 := by omega
  have h2 : (ns.length : Int) ≤ 4294967296 := by omega
  simp
  refine ck_intro' (by omega) ?_; simp
  rw [← enc_zN, ← upN_zero]
  refine WLoop_fam (fun j : Nat => [(0, A.sl ns.length (enc ns)), (3, A.ref 0 0 0 ns.length), (4, i6 j)]) (fun j => [⟨0, false, 3, enc (upN ns j), none⟩]) (fun j => ns.length - j)
    (fun j => j ≤ ns.length) ?_ 0 (Nat.zero_le _)
  intro j hj ih
  simp [upN_len ns j hj]
  refine br_intro' (fun h => ?_) (fun h => ?_) <;> (have h0 := h) <;> (try simp at h) <;> try simp [h0, h]
  · obtain ⟨r, hr⟩ := enc_at h
    have h3 : 3 ≤ ns.length * 3 - j * 3 := by omega
    have hw : IntKind.i64.wrap ((j : Int) + 1) = j + 1 := wrap64 (by omega) (by omega)
    have h' := h
    simp [h3, hr, h']
    refine laws_toNode_call (n := ns[j]) rfl ?_; simp [upN_len ns j hj, h']
    refine ck_intro' (by omega) ?_; simp
    rw [hw, enc_set, upN_set ns j h']
    exact ih (j + 1) h' (by omega)
  · have h0 : j = ns.length := by omega
    subst h0
    rw [upN_end]
    first | (refine LeV.tell [none] ?_ ?_ ?_ <;> (simp; done)) | (refine LeV.tell [some 0] ?_ ?_ ?_ <;> (simp; done)) | (refine LeV.tell [some 1] ?_ ?_ ?_ <;> (simp; done)) | (refine LeV.tell [some 2] ?_ ?_ ?_ <;> (simp; done)) | (refine LeV.tell [some 3] ?_ ?_ ?_ <;> (simp; done)) | (refine LeV.tell [some 4] ?_ ?_ ?_ <;> (simp; done)) | (refine LeV.tell [some 5] ?_ ?_ ?_ <;> (simp; done)) | (refine LeV.tell [some 6] ?_ ?_ ?_ <;> (simp; done)) | (refine LeV.tell [some 7] ?_ ?_ ?_ <;> (simp; done)) | (refine LeV.tell [some 8] ?_ ?_ ?_ <;> (simp; done)) | (refine LeV.tell [some 9] ?_ ?_ ?_ <;> (simp; done)) | (refine LeV.tell [some 10] ?_ ?_ ?_ <;> (simp; done)) | (refine LeV.tell [some 11] ?_ ?_ ?_ <;> (simp; done)) | (refine LeV.tell [some 12] ?_ ?_ ?_ <;> (simp; done)) | (refine LeV.tell [some 13] ?_ ?_ ?_ <;> (simp; done)) | (refine LeV.tell [some 14] ?_ ?_ ?_ <;> (simp; done)) | (refine LeV.tell [some 15] ?_ ?_ ?_ <;> (simp; done))
theorem laws_toNodeS_k {ns : List Nd} (hl : ns.length ≤ 4294967296) {S : FuncId → Bool} {H : List Blk} {K : A → Dl → Prop} {zs : List A} (hS : S 19 = false) (hv : viewL (viewA 8 H) zs = some [.sl ns.length (enc ns)]) (ho : noOwns zs = true ∨ nosl (pref 0 ns) = true ∧ noslBlks ([qblk ns]) = true) (hK : K (shiftA H.length (pref 0 ns)) (.news (([qblk ns]).map (shiftB H.length)))) : @WCall' Go.Proofs.Tryz.prog S 19 zs H ⟨K⟩ :=
  WCall_ro' hS hv (laws_toNodeS_c ns hl) rfl ho hK
theorem laws_toPool_c (ns : List Nd) (hl : ns.length ≤ 4294967296) : T 6 [aP ns] [] (.agg [pref 0 ns]) ([qblk ns]) := by
  refine semT' (S := S0) hm laws_toPool_ok (Nat.le_of_ble_eq_true rfl) ?_
  unfold laws_toPool; dsimp only
  simp
  refine laws_toNodeS_k (ns := ns) hl rfl (by simp) (by simp [noslBlks]) ?_; simp [shiftB]
  first | (refine LeV.tell [none] ?_ ?_ ?_ <;> (simp; done)) | (refine LeV.tell [some 0] ?_ ?_ ?_ <;> (simp; done)) | (refine LeV.tell [some 1] ?_ ?_ ?_ <;> (simp; done)) | (refine LeV.tell [some 2] ?_ ?_ ?_ <;> (simp; done)) | (refine LeV.tell [some 3] ?_ ?_ ?_ <;> (simp; done)) | (refine LeV.tell [some 4] ?_ ?_ ?_ <;> (simp; done)) | (refine LeV.tell [some 5] ?_ ?_ ?_ <;> (simp; done)) | (refine LeV.tell [some 6] ?_ ?_ ?_ <;> (simp; done)) | (refine LeV.tell [some 7] ?_ ?_ ?_ <;> (simp; done)) | (refine LeV.tell [some 8] ?_ ?_ ?_ <;> (simp; done)) | (refine LeV.tell [some 9] ?_ ?_ ?_ <;> (simp; done)) | (refine LeV.tell [some 10] ?_ ?_ ?_ <;> (simp; done)) | (refine LeV.tell [some 11] ?_ ?_ ?_ <;> (simp; done)) | (refine LeV.tell [some 12] ?_ ?_ ?_ <;> (simp; done)) | (refine LeV.tell [some 13] ?_ ?_ ?_ <;> (simp; done)) | (refine LeV.tell [some 14] ?_ ?_ ?_ <;> (simp; done)) | (refine LeV.tell [some 15] ?_ ?_ ?_ <;> (simp; done))
theorem laws_toPool_k {ns : List Nd} (hl : ns.length ≤ 4294967296) {S : FuncId → Bool} {H : List Blk} {K : A → Dl → Prop} {zs : List A} (hS : S 6 = false) (hv : viewL (viewA 8 H) zs = some [aP ns]) (ho : noOwns zs = true ∨ nosl (.agg [pref 0 ns]) = true ∧ noslBlks ([qblk ns]) = true) (hK : K (shiftA H.length (.agg [pref 0 ns])) (.news (([qblk ns]).map (shiftB H.length)))) : @WCall' Go.Proofs.Tryz.prog S 6 zs H ⟨K⟩ :=
  WCall_ro' hS hv (laws_toPool_c ns hl) rfl ho hK
/-- A copy of numbers that is made up to a place. -/
def upI (xs : List Int) (j : Nat) : List Int := xs.take j ++ List.replicate (xs.length - j) 0
theorem upI_len (xs : List Int) (j : Nat) (h : j ≤ xs.length) : (upI xs j).length = xs.length := by simp [upI]; omega
theorem upI_zero (xs : List Int) : upI xs 0 = List.replicate xs.length 0 := by simp [upI]
theorem upI_end (xs : List Int) : upI xs xs.length = xs := by simp [upI]
theorem upI_set (ns : List Int) (j : Nat) (h : j < ns.length) : (upI ns j).set j ns[j] = upI ns (j + 1) := by
  have hl : (ns.take j).length = j := by simp; omega
  have e : ns.length - j = (ns.length - (j + 1)) + 1 := by omega
  simp only [upI]
  rw [List.set_append_right _ _ (by omega), hl, Nat.sub_self, e, List.replicate_succ, List.set_cons_zero, List.take_succ_eq_append_getElem h, List.append_assoc]
  rfl
theorem ints_set (xs : List Int) (j : Nat) (n : Int) : (ints xs).set j (i6 n) = ints (xs.set j n) := by simp [ints, List.map_set]
@[simp] theorem ints_tells (H H' : List Blk) (g : List (Option Nat)) (xs : List Int) : Tells H H' g (ints xs) (ints xs) := Tells_scals _ (ints_scals xs)
@[simp] theorem ints_take (xs : List Int) : (ints xs).take xs.length = ints xs := List.take_of_length_le (by simp)
theorem ints_rep (n : Nat) : ints (List.replicate n 0) = List.replicate n (i6 0) := by simp [ints]
theorem laws_toIntS_c (xs : List Int) (hl : xs.length ≤ 4294967296) : T 7 [aI xs] [] (iref 0 xs) ([iblk xs]) := by
  refine semT' (S := S0) hm laws_toIntS_ok (Nat.le_of_ble_eq_true rfl) ?_
  unfold laws_toIntS; dsimp only
  have h1 : ((xs.length : Int)) * 8 ≤ 17592186044416 := by omega
  have h2 : (xs.length : Int) ≤ 4294967296 := by omega
  simp
  refine ck_intro' (by omega) ?_; simp
  rw [← ints_rep, ← upI_zero]
  refine WLoop_fam (fun j : Nat => [(0, aI xs), (3, A.ref 0 0 0 xs.length), (4, i6 j)]) (fun j => [⟨0, false, 1, ints (upI xs j), none⟩]) (fun j => xs.length - j)
    (fun j => j ≤ xs.length) ?_ 0 (Nat.zero_le _)
  intro j hj ih
  simp [upI_len xs j hj]
  refine br_intro' (fun h => ?_) (fun h => ?_) <;> (have h0 := h) <;> (try simp at h) <;> try simp [h0, h]
  · have hw : IntKind.i64.wrap ((j : Int) + 1) = j + 1 := wrap64 (by omega) (by omega)
    have h' := h
    simp [h', upI_len xs j hj]
    refine ck_intro' (by omega) ?_; simp
    rw [hw, ints_set, upI_set xs j h']
    exact ih (j + 1) h' (by omega)
  · have h0 : j = xs.length := by omega
    subst h0
    rw [upI_end]
    first | (refine LeV.tell [none] ?_ ?_ ?_ <;> (simp; done)) | (refine LeV.tell [some 0] ?_ ?_ ?_ <;> (simp; done)) | (refine LeV.tell [some 1] ?_ ?_ ?_ <;> (simp; done)) | (refine LeV.tell [some 2] ?_ ?_ ?_ <;> (simp; done)) | (refine LeV.tell [some 3] ?_ ?_ ?_ <;> (simp; done)) | (refine LeV.tell [some 4] ?_ ?_ ?_ <;> (simp; done)) | (refine LeV.tell [some 5] ?_ ?_ ?_ <;> (simp; done)) | (refine LeV.tell [some 6] ?_ ?_ ?_ <;> (simp; done)) | (refine LeV.tell [some 7] ?_ ?_ ?_ <;> (simp; done)) | (refine LeV.tell [some 8] ?_ ?_ ?_ <;> (simp; done)) | (refine LeV.tell [some 9] ?_ ?_ ?_ <;> (simp; done)) | (refine LeV.tell [some 10] ?_ ?_ ?_ <;> (simp; done)) | (refine LeV.tell [some 11] ?_ ?_ ?_ <;> (simp; done)) | (refine LeV.tell [some 12] ?_ ?_ ?_ <;> (simp; done)) | (refine LeV.tell [some 13] ?_ ?_ ?_ <;> (simp; done)) | (refine LeV.tell [some 14] ?_ ?_ ?_ <;> (simp; done)) | (refine LeV.tell [some 15] ?_ ?_ ?_ <;> (simp; done))
theorem laws_toIntS_k {xs : List Int} (hl : xs.length ≤ 4294967296) {S : FuncId → Bool} {H : List Blk} {K : A → Dl → Prop} {zs : List A} (hS : S 7 = false) (hv : viewL (viewA 8 H) zs = some [aI xs]) (ho : noOwns zs = true ∨ nosl (iref 0 xs) = true ∧ noslBlks ([iblk xs]) = true) (hK : K (shiftA H.length (iref 0 xs)) (.news (([iblk xs]).map (shiftB H.length)))) : @WCall' Go.Proofs.Tryz.prog S 7 zs H ⟨K⟩ :=
  WCall_ro' hS hv (laws_toIntS_c xs hl) rfl ho hK
theorem laws_eqNodeS_c (ns ms : List Nd) (hl : ns.length < 9223372036854775807) (hl2 : ms.length < 9223372036854775807) : T 31 [.sl ns.length (enc ns), .sl ms.length (enc ms)] [] (.bool (decide (ns = ms))) ([]) := by
  refine semT' (S := S0) hm laws_eqNodeS_ok (Nat.le_of_ble_eq_true rfl) ?_
  unfold laws_eqNodeS; dsimp only
  simp
  refine br_intro' (fun h => ?_) (fun h => ?_) <;> (try simp at h) <;> (try simp [h])
  · refine WLoop_fam (fun j : Nat => [(0, A.sl ns.length (enc ns)), (1, A.sl ms.length (enc ms)), (5, i6 j)]) (fun _ => []) (fun j => ns.length - j)
      (fun j => j ≤ ns.length ∧ ns.take j = ms.take j) ?_ 0 ⟨Nat.zero_le _, by simp⟩
    intro j ⟨hj, hf⟩ ih
    simp
    have hq : ns.length = ms.length := by omega
    refine br_intro' (fun h => ?_) (fun h => ?_) <;> (have h0 := h) <;> (try simp at h) <;> try simp [h0, h]
    · obtain ⟨r, hr⟩ := enc_at h
      have hm : j < ms.length := by omega
      obtain ⟨r2, hr2⟩ := enc_at hm
      have h3 : 3 ≤ ms.length * 3 - j * 3 := by omega
      have h4 : 3 ≤ ns.length * 3 - j * 3 := by omega
      have hw : IntKind.i64.wrap ((j : Int) + 1) = j + 1 := wrap64 (by omega) (by omega)
      have h' := h
      simp [h3, h4, hr, h', hr2, hm]
      refine laws_eqNode_call (n := ns[j]) (m := ms[j]) rfl ?_; simp
      first | (refine ck_intro' (by kernel_rfl) ?_; try simp) | skip
      refine br_intro' (fun g => ?_) (fun g => ?_) <;> simp at g <;> simp [g]
      · rw [hw]
        exact ih (j + 1) ⟨h', by rw [List.take_succ_eq_append_getElem h', List.take_succ_eq_append_getElem hm, hf, g]⟩ (by omega)
      · exact LeV.ro rfl rfl (by simp; intro e; subst e; exact g rfl)
    · have h0 : j = ns.length := by omega
      exact LeV.ro rfl rfl (by rw [h0, List.take_length, hq, List.take_length] at hf; simp [hf])
  · exact LeV.ro rfl rfl (by simp; intro e; rw [e] at h; exact h rfl)
theorem laws_eqNodeS_call {ns ms : List Nd} (hl : ns.length < 9223372036854775807) (hl2 : ms.length < 9223372036854775807) {S : FuncId → Bool} {H : List Blk} {K : A → Dl → Prop} (hS : S 31 = false) (hK : K (.bool (decide (ns = ms))) (.news [])) : @WCall' Go.Proofs.Tryz.prog S 31 [.sl ns.length (enc ns), .sl ms.length (enc ms)] H ⟨K⟩ :=
  WCall_pure hS (laws_eqNodeS_c ns ms hl hl2) (by simp) (by simp) (by simp) hK
theorem laws_eqNodeS_k {ns ms : List Nd} (hl : ns.length < 9223372036854775807) (hl2 : ms.length < 9223372036854775807) {S : FuncId → Bool} {H : List Blk} {K : A → Dl → Prop} {zs : List A} (hS : S 31 = false) (hv : viewL (viewA 8 H) zs = some [.sl ns.length (enc ns), .sl ms.length (enc ms)]) (ho : noOwns zs = true ∨ nosl (.bool (decide (ns = ms))) = true) (hK : K (.bool (decide (ns = ms))) (.news [])) : @WCall' Go.Proofs.Tryz.prog S 31 zs H ⟨K⟩ :=
  WCall_pure hS (laws_eqNodeS_c ns ms hl hl2) hv ho (by simp) hK
theorem laws_eqPool_c (ns ms : List Nd) (hl : ns.length < 9223372036854775807) (hl2 : ms.length < 9223372036854775807) : T 9 [aP ns, aP ms] [] (.bool (decide (ns = ms))) ([]) := by
  refine semT' (S := S0) hm laws_eqPool_ok (Nat.le_of_ble_eq_true rfl) ?_
  unfold laws_eqPool; dsimp only
  simp
  refine laws_eqNodeS_call (ns := ns) (ms := ms) hl hl2 rfl ?_; simp
  refine br_intro' (fun g => ?_) (fun g => ?_) <;> simp at g <;> simp [g]
  · exact LeV.ro rfl rfl (by simp)
  · exact LeV.ro rfl rfl (by simp [g])
theorem laws_eqPool_call {ns ms : List Nd} (hl : ns.length < 9223372036854775807) (hl2 : ms.length < 9223372036854775807) {S : FuncId → Bool} {H : List Blk} {K : A → Dl → Prop} (hS : S 9 = false) (hK : K (.bool (decide (ns = ms))) (.news [])) : @WCall' Go.Proofs.Tryz.prog S 9 [aP ns, aP ms] H ⟨K⟩ :=
  WCall_pure hS (laws_eqPool_c ns ms hl hl2) (by simp) (by simp) (by simp) hK
theorem laws_eqPool_k {ns ms : List Nd} (hl : ns.length < 9223372036854775807) (hl2 : ms.length < 9223372036854775807) {S : FuncId → Bool} {H : List Blk} {K : A → Dl → Prop} {zs : List A} (hS : S 9 = false) (hv : viewL (viewA 8 H) zs = some [aP ns, aP ms]) (ho : noOwns zs = true ∨ nosl (.bool (decide (ns = ms))) = true) (hK : K (.bool (decide (ns = ms))) (.news [])) : @WCall' Go.Proofs.Tryz.prog S 9 zs H ⟨K⟩ :=
  WCall_pure hS (laws_eqPool_c ns ms hl hl2) hv ho (by simp) hK
theorem laws_eqIntS_c (ns ms : List Int) (hl : ns.length < 9223372036854775807) (hl2 : ms.length < 9223372036854775807) : T 10 [aI ns, aI ms] [] (.bool (decide (ns = ms))) ([]) := by
  refine semT' (S := S0) hm laws_eqIntS_ok (Nat.le_of_ble_eq_true rfl) ?_
  unfold laws_eqIntS; dsimp only
  simp
  refine br_intro' (fun h => ?_) (fun h => ?_) <;> (try simp at h) <;> (try simp [h])
  · refine WLoop_fam (fun j : Nat => [(0, aI ns), (1, aI ms), (5, i6 j)]) (fun _ => []) (fun j => ns.length - j)
      (fun j => j ≤ ns.length ∧ ns.take j = ms.take j) ?_ 0 ⟨Nat.zero_le _, by simp⟩
    intro j ⟨hj, hf⟩ ih
    simp
    have hq : ns.length = ms.length := by omega
    refine br_intro' (fun h => ?_) (fun h => ?_) <;> (have h0 := h) <;> (try simp at h) <;> try simp [h0, h]
    · have hm : j < ms.length := by omega
      have hw : IntKind.i64.wrap ((j : Int) + 1) = j + 1 := wrap64 (by omega) (by omega)
      have h' := h
      simp [h', hm]
      first | (refine ck_intro' (by kernel_rfl) ?_; try simp) | skip
      refine br_intro' (fun g => ?_) (fun g => ?_) <;> simp at g <;> simp [g]
      · rw [hw]
        exact ih (j + 1) ⟨h', by rw [List.take_succ_eq_append_getElem h', List.take_succ_eq_append_getElem hm, hf, g]⟩ (by omega)
      · exact LeV.ro rfl rfl (by simp; intro e; subst e; exact g rfl)
    · have h0 : j = ns.length := by omega
      exact LeV.ro rfl rfl (by rw [h0, List.take_length, hq, List.take_length] at hf; simp [hf])
  · exact LeV.ro rfl rfl (by simp; intro e; rw [e] at h; exact h rfl)
theorem laws_eqIntS_call {ns ms : List Int} (hl : ns.length < 9223372036854775807) (hl2 : ms.length < 9223372036854775807) {S : FuncId → Bool} {H : List Blk} {K : A → Dl → Prop} (hS : S 10 = false) (hK : K (.bool (decide (ns = ms))) (.news [])) : @WCall' Go.Proofs.Tryz.prog S 10 [aI ns, aI ms] H ⟨K⟩ :=
  WCall_pure hS (laws_eqIntS_c ns ms hl hl2) (by simp) (by simp) (by simp) hK
theorem laws_eqIntS_k {ns ms : List Int} (hl : ns.length < 9223372036854775807) (hl2 : ms.length < 9223372036854775807) {S : FuncId → Bool} {H : List Blk} {K : A → Dl → Prop} {zs : List A} (hS : S 10 = false) (hv : viewL (viewA 8 H) zs = some [aI ns, aI ms]) (ho : noOwns zs = true ∨ nosl (.bool (decide (ns = ms))) = true) (hK : K (.bool (decide (ns = ms))) (.news [])) : @WCall' Go.Proofs.Tryz.prog S 10 zs H ⟨K⟩ :=
  WCall_pure hS (laws_eqIntS_c ns ms hl hl2) hv ho (by simp) hK
theorem szF_neg {x : Int} {n : Nat} : szF x n < 0 ↔ x < n := by unfold szF; split <;> omega
theorem szF_pos {x : Int} {n : Nat} (h : ¬ x < n) : szF x n = x - n := by unfold szF; rw [if_neg (by omega)]
/-- The size of a stream. -/
def szStr (s : St) (x : Int) : Int := if x < s.pool.length + s.know.length + s.sent.length + s.got.length then -1 else x - (s.pool.length + s.know.length + s.sent.length + s.got.length)
theorem St_eq {x y : St} : x = y ↔ x.pool = y.pool ∧ x.know = y.know ∧ x.out = y.out ∧ x.inn = y.inn ∧ x.sent = y.sent ∧ x.got = y.got := by cases x; cases y; simp
end Go.Proofs.YtealijdcolmchaaGreatDoor.C

set_option linter.unusedVariables false
set_option linter.unusedSimpArgs false
namespace Go.Proofs.YtealijdcolmchaaGreatDoor.C
open Go.Sym Go.Proofs.YtealijdcolmchaaGreatDoor.I
def mkN (k : Int) : Nat → List Nd
  | 0 => []
  | n + 1 => mkN k n ++ [⟨k + 3 * n, k + 3 * n + 1, k + 3 * n + 2⟩]
@[simp] theorem mkN_len (k : Int) (n : Nat) : (mkN k n).length = n := by induction n with | zero => rfl | succ n ih => simp [mkN, ih]
@[simp] theorem mkN_take (k : Int) (n : Nat) : (enc (mkN k n)).take (n * 3) = enc (mkN k n) := List.take_of_length_le (by simp)
theorem mkN_get (k : Int) : ∀ (n j : Nat) (h : j < (mkN k n).length), (mkN k n)[j] = ⟨k + 3 * j, k + 3 * j + 1, k + 3 * j + 2⟩
  | 0, j, h => by simp at h
  | n + 1, j, h => by
    simp only [mkN]
    rcases Nat.lt_or_ge j n with g | g
    · rw [List.getElem_append_left (by simpa using g)]
      exact mkN_get k n j (by simpa using g)
    · have : j = n := by simp at h; omega
      subst this
      simp
theorem mkN_set (k : Int) (ns : List Nd) (j : Nat) (h : j < ns.length) : (mkN k j ++ ns.drop j).set j ⟨k + 3 * j, k + 3 * j + 1, k + 3 * j + 2⟩ = mkN k (j + 1) ++ ns.drop (j + 1) := by
  rw [List.set_append_right _ _ (by simp), mkN_len, Nat.sub_self, List.drop_eq_getElem_cons h, List.set_cons_zero]
  simp [mkN]
theorem set_self {α : Type} {H : List α} {n : Nat} {x : α} (h : H[n]? = some x) : H.set n x = H := by
  apply List.ext_getElem?
  intro i
  by_cases e : n = i
  · subst e
    rw [h, List.getElem?_set_self (List.getElem?_eq_some_iff.1 h).1]
  · rw [List.getElem?_set_ne e]
theorem laws_markNodeS_m (H : List Blk) (nb v : Nat) (ro : Bool) (ns : List Nd) (k : Int) (hH : H[nb]? = some ⟨v, ro, 3, enc ns, none⟩) (hro : ro = true → ns = []) (hl : ns.length ≤ 4294967296) (hk : 0 ≤ k) (hk2 : k ≤ 4294967296) : T 32 [.ref nb v 0 ns.length, i6 k] (H) (i6 (k + 3 * ns.length)) (H.set nb ⟨v, ro, 3, enc (mkN k ns.length), none⟩) := by
  refine semT' (S := S0) hm laws_markNodeS_ok (Nat.le_of_ble_eq_true rfl) ?_
  unfold laws_markNodeS; dsimp only
  have hlt : nb < H.length := (List.getElem?_eq_some_iff.1 hH).1
  have hs0 : H.set nb ⟨v, ro, 3, enc (mkN k 0 ++ ns.drop 0), none⟩ = H := set_self (by simpa [mkN] using hH)
  simp
  generalize hB : H.length = B
  rw [← hs0]
  refine WLoop_fam (fun p : Nat × Int => [(0, A.ref nb v 0 ns.length), (1, i6 p.2), (5, i6 p.1)]) (fun p => H.set nb ⟨v, ro, 3, enc (mkN k p.1 ++ ns.drop p.1), none⟩) (fun p => ns.length - p.1)
    (fun p => p.1 ≤ ns.length ∧ p.2 = k + 3 * p.1) ?_ (0, k) ⟨Nat.zero_le _, by simp⟩
  rintro ⟨j, k'⟩ ⟨hj, hk'⟩ ih
  simp at hk' hj
  subst hk'
  have hlen : (mkN k j ++ ns.drop j).length = ns.length := by simp; omega
  simp [hlt]
  refine br_intro' (fun h => ?_) (fun h => ?_) <;> (have h0 := h) <;> (try simp at h) <;> try simp [h0, h]
  · have h' := h
    have hr : ro = false := by cases ro with | false => rfl | true => rw [hro rfl] at h; simp at h
    subst hr
    have h3 : j * 3 < ns.length * 3 := by omega
    have h4 : j * 3 + 1 < ns.length * 3 := by omega
    have h5 : j * 3 + 2 < ns.length * 3 := by omega
    have w1 : IntKind.i64.wrap (k + 3 * (j : Int) + 1) = k + 3 * j + 1 := wrap64 (by omega) (by omega)
    have w2 : IntKind.i64.wrap (k + 3 * (j : Int) + 1 + 1) = k + 3 * j + 2 := by rw [wrap64 (by omega) (by omega)]; omega
    have w3 : IntKind.i64.wrap (k + 3 * (j : Int) + 2 + 1) = k + 3 * j + 3 := by rw [wrap64 (by omega) (by omega)]; omega
    have hw : IntKind.i64.wrap ((j : Int) + 1) = j + 1 := wrap64 (by omega) (by omega)
    have hc : (j + (ns.length - j)) * 3 = ns.length * 3 := by rw [Nat.add_sub_cancel' hj]
    simp [h', hlt, hc, w1, w2, w3, h3, h4, h5]
    refine ck_intro' (by omega) ?_; simp [h', hlt, hc, w1, w2, w3, h3, h4, h5]
    refine ck_intro' (by omega) ?_; simp [h', hlt, hc, w1, w2, w3, h3, h4, h5]
    refine ck_intro' (by omega) ?_; simp [h', hlt, hc, w1, w2, w3, h3, h4, h5, hw]
    have e3 := enc_set (mkN k j ++ ns.drop j) j ⟨k + 3 * j, k + 3 * j + 1, k + 3 * j + 2⟩
    rw [mkN_set k ns j h'] at e3
    rw [e3]
    exact ih (j + 1, k + 3 * j + 3) ⟨h', by push_cast; omega⟩ (by simp; omega)
  · have e : j = ns.length := by omega
    subst e
    simp
    exact LeV.refl _ _ _
theorem shift_len {H T : List Blk} {nb : Nat} {x : Blk} (h : nb < H.length) : (H ++ T).set nb x = H.set nb x ++ T := set_left h x
theorem laws_markPool_m (H : List Blk) (nb v : Nat) (ro : Bool) (ns : List Nd) (k : Int) (hH : H[nb]? = some ⟨v, ro, 3, enc ns, none⟩) (hro : ro = true → ns = []) (hl : ns.length ≤ 4294967296) (hk : 0 ≤ k) (hk2 : k ≤ 4294967296) (hcl : Closed1 H.length H = true) : T 11 [.agg [.ref nb v 0 ns.length], i6 k] (H) (i6 (k + 3 * ns.length)) (H.set nb ⟨v, ro, 3, enc (mkN k ns.length), none⟩) := by
  refine semT' (S := (fun f => [32].contains f)) hm laws_markPool_ok (Nat.le_of_ble_eq_true rfl) ?_
  unfold laws_markPool; dsimp only
  have hlt : nb < H.length := (List.getElem?_eq_some_iff.1 hH).1
  simp
  refine WCall_t' rfl [nb] (laws_markNodeS_m (H ++ [_]) nb v ro ns k (by rw [get_left hlt]; exact hH) hro hl hk hk2) (by simp) (fun b hb _ => by simp at hb; rw [List.getElem?_set_ne (Ne.symm hb)]) ?_
  simp [set_left hlt]
  exact LeV.drop (by simp) (by simpa using Closed1_set (by simp) _ _ hcl) (by simp)
theorem enc_gets {ns : List Nd} {j : Nat} (h : j < ns.length) : (enc ns)[j * 3]? = some (i6 ns[j].k) ∧ (enc ns)[j * 3 + 1]? = some (i6 ns[j].a) ∧ (enc ns)[j * 3 + 2]? = some (i6 ns[j].b) := by
  obtain ⟨r, hr⟩ := enc_at h
  have e : ∀ i, (enc ns)[j * 3 + i]? = (i6 ns[j].k :: i6 ns[j].a :: i6 ns[j].b :: r)[i]? := fun i => by rw [← hr, List.getElem?_drop]
  exact ⟨e 0, e 1, e 2⟩
theorem enc_k {ns : List Nd} {j : Nat} (h : j < ns.length) {h' : j * 3 < (enc ns).length} : (enc ns)[j * 3] = i6 ns[j].k := by
  have := (enc_gets h).1
  rw [List.getElem?_eq_getElem h'] at this
  simpa using this
theorem enc_a {ns : List Nd} {j : Nat} (h : j < ns.length) {h' : j * 3 + 1 < (enc ns).length} : (enc ns)[j * 3 + 1] = i6 ns[j].a := by
  have := (enc_gets h).2.1
  rw [List.getElem?_eq_getElem h'] at this
  simpa using this
theorem enc_b {ns : List Nd} {j : Nat} (h : j < ns.length) {h' : j * 3 + 2 < (enc ns).length} : (enc ns)[j * 3 + 2] = i6 ns[j].b := by
  have := (enc_gets h).2.2
  rw [List.getElem?_eq_getElem h'] at this
  simpa using this
theorem laws_heldNodeS_c (n : Nat) (k : Int) (hl : n ≤ 4294967296) (hk : 0 ≤ k) (hk2 : k ≤ 4294967296) : T 33 [.sl n (enc (mkN k n)), i6 k] [] (i6 (k + 3 * n)) ([]) := by
  refine semT' (S := S0) hm laws_heldNodeS_ok (Nat.le_of_ble_eq_true rfl) ?_
  unfold laws_heldNodeS; dsimp only
  simp
  refine WLoop_fam (fun p : Nat × Int => [(0, .sl n (enc (mkN k n))), (1, i6 p.2), (5, i6 p.1)]) (fun _ => []) (fun p => n - p.1)
    (fun p => p.1 ≤ n ∧ p.2 = k + 3 * p.1) ?_ (0, k) ⟨Nat.zero_le _, by simp⟩
  rintro ⟨j, k'⟩ ⟨hj, hk'⟩ ih
  simp at hk' hj
  subst hk'
  simp
  refine br_intro' (fun h => ?_) (fun h => ?_) <;> (have h0 := h) <;> (try simp at h) <;> try simp [h0, h]
  · have h' := h
    obtain ⟨r, hr⟩ := enc_at (ns := mkN k n) (j := j) (by simpa using h)
    rw [mkN_get] at hr
    have h3 : 3 ≤ n * 3 - j * 3 := by omega
    have h4 : j * 3 < n * 3 := by omega
    have w1 : IntKind.i64.wrap (k + 3 * (j : Int) + 1) = k + 3 * j + 1 := wrap64 (by omega) (by omega)
    have w2 : IntKind.i64.wrap (k + 3 * (j : Int) + 1 + 1) = k + 3 * j + 2 := by rw [wrap64 (by omega) (by omega)]; omega
    have w3 : IntKind.i64.wrap (k + 3 * (j : Int) + 2 + 1) = k + 3 * j + 3 := by rw [wrap64 (by omega) (by omega)]; omega
    have hw : IntKind.i64.wrap ((j : Int) + 1) = j + 1 := wrap64 (by omega) (by omega)
    have hj' : j < (mkN k n).length := by simpa using h
    have h5 : j * 3 + 1 < n * 3 := by omega
    have h6 : j * 3 + 2 < n * 3 := by omega
    simp [h', h3, h4, h5, h6, enc_k hj', enc_a hj', enc_b hj', mkN_get, w1, w2, w3, hw]
    exact ih (j + 1, k + 3 * j + 3) ⟨h', by push_cast; omega⟩ (by simp; omega)
  · have e : j = n := by omega
    subst e
    exact LeV.ro rfl rfl (by simp)
theorem laws_heldNodeS_call {n : Nat} {k : Int} (hl : n ≤ 4294967296) (hk : 0 ≤ k) (hk2 : k ≤ 4294967296) {S : FuncId → Bool} {H : List Blk} {K : A → Dl → Prop} (hS : S 33 = false) (hK : K (i6 (k + 3 * n)) (.news [])) : @WCall' Go.Proofs.Tryz.prog S 33 [.sl n (enc (mkN k n)), i6 k] H ⟨K⟩ :=
  WCall_pure hS (laws_heldNodeS_c n k hl hk hk2) (by simp) (by simp) (by simp) hK
theorem laws_heldNodeS_k {n : Nat} {k : Int} (hl : n ≤ 4294967296) (hk : 0 ≤ k) (hk2 : k ≤ 4294967296) {S : FuncId → Bool} {H : List Blk} {K : A → Dl → Prop} {zs : List A} (hS : S 33 = false) (hv : viewL (viewA 8 H) zs = some [.sl n (enc (mkN k n)), i6 k]) (ho : noOwns zs = true ∨ nosl (i6 (k + 3 * n)) = true) (hK : K (i6 (k + 3 * n)) (.news [])) : @WCall' Go.Proofs.Tryz.prog S 33 zs H ⟨K⟩ :=
  WCall_pure hS (laws_heldNodeS_c n k hl hk hk2) hv ho (by simp) hK
theorem laws_heldPool_c (n : Nat) (k : Int) (hl : n ≤ 4294967296) (hk : 0 ≤ k) (hk2 : k ≤ 4294967296) : T 13 [.agg [.sl n (enc (mkN k n))], i6 k] [] (i6 (k + 3 * n)) ([]) := by
  refine semT' (S := S0) hm laws_heldPool_ok (Nat.le_of_ble_eq_true rfl) ?_
  unfold laws_heldPool; dsimp only
  simp
  refine laws_heldNodeS_call (n := n) (k := k) hl hk hk2 rfl ?_; simp
  have e : ¬ k + 3 * (n : Int) < 0 := by omega
  simp [e]
  exact LeV.ro rfl rfl (by simp)
theorem laws_heldPool_call {n : Nat} {k : Int} (hl : n ≤ 4294967296) (hk : 0 ≤ k) (hk2 : k ≤ 4294967296) {S : FuncId → Bool} {H : List Blk} {K : A → Dl → Prop} (hS : S 13 = false) (hK : K (i6 (k + 3 * n)) (.news [])) : @WCall' Go.Proofs.Tryz.prog S 13 [.agg [.sl n (enc (mkN k n))], i6 k] H ⟨K⟩ :=
  WCall_pure hS (laws_heldPool_c n k hl hk hk2) (by simp) (by simp) (by simp) hK
theorem laws_heldPool_k {n : Nat} {k : Int} (hl : n ≤ 4294967296) (hk : 0 ≤ k) (hk2 : k ≤ 4294967296) {S : FuncId → Bool} {H : List Blk} {K : A → Dl → Prop} {zs : List A} (hS : S 13 = false) (hv : viewL (viewA 8 H) zs = some [.agg [.sl n (enc (mkN k n))], i6 k]) (ho : noOwns zs = true ∨ nosl (i6 (k + 3 * n)) = true) (hK : K (i6 (k + 3 * n)) (.news [])) : @WCall' Go.Proofs.Tryz.prog S 13 zs H ⟨K⟩ :=
  WCall_pure hS (laws_heldPool_c n k hl hk hk2) hv ho (by simp) hK
end Go.Proofs.YtealijdcolmchaaGreatDoor.C

set_option linter.unusedVariables false
set_option linter.unusedSimpArgs false
set_option maxRecDepth 4000
namespace Go.Proofs.YtealijdcolmchaaGreatDoor.C
open Go.Sym Go.Proofs.YtealijdcolmchaaGreatDoor.I
theorem hasF_nat {m : Nat} {t : Int} (h : hasF m t = true) : ∃ j : Nat, t = j ∧ j < m := by
  simp [hasF, inF] at h
  exact ⟨t.toNat, by omega, by omega⟩
def ndG (ns : List Nd) (t : Int) : Nd := ns.getD t.toNat ⟨0, 0, 0⟩
theorem ndG_at {ns : List Nd} {j : Nat} (h : j < ns.length) : ndG ns (j : Int) = ns[j] := by simp [ndG, h]
/-- A shared key's two parts. -/
def raiF (ns : List Nd) (t x : Int) : List Nd × Int := if hasF ns.length t = true ∧ hasF ns.length x = true ∧ (ndG ns t).k = 7 then addF ns ⟨8, x, (ndG ns t).a⟩ else (ns, -1)
theorem spec_l3Raise_c (ns : List Nd) (t x : Int) (hp : poolF ns = true) : T 66 [aP ns, i6 t, i6 x] [] (.tup [aP (raiF ns t x).1, i6 (raiF ns t x).2]) ([]) := by
  refine semT' (S := S0) hm spec_l3Raise_ok (Nat.le_of_ble_eq_true rfl) ?_
  unfold spec_l3Raise; dsimp only
  have hl := poolF_len hp
  simp
  refine spec_l1Has_k (ns := ns) (t := t) (by omega) rfl (by simp) (by simp) ?_; simp
  rcases Bool.eq_false_or_eq_true (hasF ns.length t) with q | q <;> simp [q]
  · refine spec_l1Has_k (ns := ns) (t := x) (by omega) rfl (by simp) (by simp) ?_; simp
    rcases Bool.eq_false_or_eq_true (hasF ns.length x) with r | r <;> simp [r]
    · obtain ⟨j, rfl, hj⟩ := hasF_nat q
      obtain ⟨e, he⟩ := enc_at hj
      have h3 : 3 ≤ ns.length * 3 - j * 3 := by omega
      simp [hj, he, h3]
      refine br_intro' (fun u => ?_) (fun u => ?_) <;> (have u0 := u) <;> simp only [decide_eq_true_eq, decide_eq_false_iff_not] at u <;> simp [u0, hj, he, h3]
      · rw [show raiF ns j x = addF ns ⟨8, x, ns[j].a⟩ by simp only [raiF, ndG_at hj]; exact if_pos ⟨q, r, u⟩]
        have h4 : 1 ≤ ns.length * 3 - (j * 3 + 1) := by omega
        have ga : (enc ns)[j * 3 + 1]? = some (i6 ns[j].a) := by
          have := congrArg (·[1]?) he
          simpa [List.getElem?_drop] using this
        refine spec_l1Add_k (ns := ns) (n := ⟨8, x, ns[j].a⟩) hp rfl (by simp) (by simp) ?_; simp
        repeat (refine ck_intro' (by first | omega | (simp; omega) | kernel_rfl) ?_; try simp)
        exact LeV.ro rfl rfl (by simp)
      · rw [show raiF ns j x = (ns, -1) by simp only [raiF, ndG_at hj]; exact if_neg (fun h => u h.2.2)]
        exact LeV.ro rfl rfl (by simp)
    · exact LeV.ro rfl rfl (by simp [raiF, r])
  · exact LeV.ro rfl rfl (by simp [raiF, q])
theorem spec_l3Raise_call {ns : List Nd} {t x : Int} (hp : poolF ns = true) {S : FuncId → Bool} {H : List Blk} {K : A → Dl → Prop} (hS : S 66 = false) (hK : K (.tup [aP (raiF ns t x).1, i6 (raiF ns t x).2]) (.news [])) : @WCall' Go.Proofs.Tryz.prog S 66 [aP ns, i6 t, i6 x] H ⟨K⟩ :=
  WCall_pure hS (spec_l3Raise_c ns t x hp) (by simp) (by simp) (by simp) hK
theorem spec_l3Raise_k {ns : List Nd} {t x : Int} (hp : poolF ns = true) {S : FuncId → Bool} {H : List Blk} {K : A → Dl → Prop} {zs : List A} (hS : S 66 = false) (hv : viewL (viewA 8 H) zs = some [aP ns, i6 t, i6 x]) (ho : noOwns zs = true ∨ nosl (.tup [aP (raiF ns t x).1, i6 (raiF ns t x).2]) = true) (hK : K (.tup [aP (raiF ns t x).1, i6 (raiF ns t x).2]) (.news [])) : @WCall' Go.Proofs.Tryz.prog S 66 zs H ⟨K⟩ :=
  WCall_pure hS (spec_l3Raise_c ns t x hp) hv ho (by simp) hK
theorem impl_Pool_raise_m (H : List Blk) (b off nb vb eb : Nat) (cb : List A) (ns : List Nd) (t x : Int) (h : PIn H b off nb cb) (hl : ns.length ≤ 500) : T 57 [.ptr b vb off, i6 t, i6 x] (pset H b off nb vb eb cb ns) (i6 (raiF ns t x).2) (pset H b off nb vb eb cb (raiF ns t x).1) := by
  refine semT' (S := (fun f => [58].contains f)) hm impl_Pool_raise_ok (Nat.le_of_ble_eq_true rfl) ?_
  unfold impl_Pool_raise; dsimp only
  have gb := h.at_b vb eb ns
  have gn := h.at_nb vb eb ns
  obtain ⟨rr, hrr0⟩ := h.rest
  have hrr : viewL (viewA 7 (pset H b off nb vb eb cb ns)) (cb.drop (off + 1)) = some rr := hrr0 _ fun q hq h1 h2 => by
    simp only [pset]
    rw [List.getElem?_set_ne (Ne.symm h1), List.getElem?_set_ne (Ne.symm h2)]
  have hd := set_drop cb off (pref nb ns) h.olt
  simp
  have fin0 : raiF ns t x = (ns, -1) → LeV H.length (i6 (-1)) (pset H b off nb vb eb cb ns) (i6 (raiF ns t x).2) (pset H b off nb vb eb cb (raiF ns t x).1) := by
    intro e
    rw [e]
    exact LeV.refl _ _ _
  refine WCall_pure rfl (impl_Pool_isTerm_c ns rr t (by omega)) (by simp [gb, gn, hd, hrr]) (by simp) (by simp) ?_; simp
  rcases Bool.eq_false_or_eq_true (hasF ns.length t) with q | q <;> simp [q]
  · refine WCall_pure rfl (impl_Pool_isTerm_c ns rr x (by omega)) (by simp [gb, gn, hd, hrr]) (by simp) (by simp) ?_; simp
    rcases Bool.eq_false_or_eq_true (hasF ns.length x) with r | r <;> simp [r]
    · obtain ⟨j, rfl, hj⟩ := hasF_nat q
      obtain ⟨e, he⟩ := enc_at hj
      have h3 : 3 ≤ ns.length * 3 - j * 3 := by omega
      simp [gb, gn, hd, hj, he, h3]
      refine br_intro' (fun u => ?_) (fun u => ?_) <;> (have u0 := u) <;> simp only [decide_eq_true_eq, decide_eq_false_iff_not] at u <;> simp [u0, gb, gn, hd, hj, he, h3]
      · have h4 : 1 ≤ ns.length * 3 - (j * 3 + 1) := by omega
        have hz : raiF ns j x = addF ns ⟨8, x, ns[j].a⟩ := by simp only [raiF, ndG_at hj]; exact if_pos ⟨q, r, u⟩
        rw [hz]
        have ga := (enc_gets hj).2.1
        simp [ga]
        refine pool_call rfl b off nb vb eb cb ns (addF ns ⟨8, x, ns[j].a⟩).1 (h.pset vb eb ns) (pset_pset h vb eb ns ns) (by rw [pset_pset h, pset_pset h]; exact impl_Pool_add_m H b off nb vb eb cb ns 8 x ns[j].a h hl) ?_
        simp [pset_pset h]
        exact LeV.refl _ _ _
      · exact fin0 (by simp only [raiF, ndG_at hj]; exact if_neg (fun g => u g.2.2))
    · exact fin0 (by simp [raiF, r])
  · exact fin0 (by simp [raiF, q])
theorem raiF_pool {ns : List Nd} (t x : Int) (hp : poolF ns = true) : poolF (raiF ns t x).1 = true := by
  unfold raiF
  split
  · exact addF_pool _ hp
  · exact hp
theorem raiF_len {ns : List Nd} (t x : Int) (h : ns.length ≤ 500) : (raiF ns t x).1.length ≤ 500 := by
  unfold raiF
  split
  · exact addF_len _ _ h
  · exact h
theorem nd_parts {ns : List Nd} (hp : poolF ns = true) {t : Nat} (ht : t < ns.length) (hk : ns[t].k = 2 ∨ ns[t].k = 3 ∨ ns[t].k = 4) : (0 ≤ ns[t].a ∧ ns[t].a < t) ∧ (0 ≤ ns[t].b ∧ ns[t].b < t) := by
  have h := (okFrom_all hp ht).1
  have e : partsF ns[t].k = 2 := by
    rcases hk with g | g | g <;> rw [g] <;> decide
  simp [rightF, e, inF] at h
  omega
end Go.Proofs.YtealijdcolmchaaGreatDoor.C

set_option linter.unusedVariables false
set_option linter.unusedSimpArgs false
set_option maxRecDepth 4000
namespace Go.Proofs.YtealijdcolmchaaGreatDoor.C
open Go.Sym Go.Proofs.YtealijdcolmchaaGreatDoor.I
/-- A place of what is known. -/
def plF (tx : ByteArray) (ks : List Int) (s : List Nd) (i : Nat) : List Nd × Int × Nat × Int :=
  if 0 ≤ figV 4 (dgRun tx (i + 1)) ∧ figV 4 (dgRun tx (i + 1)) < ks.length then (s, ks.getD (figV 4 (dgRun tx (i + 1))).toNat 0, dEnd tx (i + 1), 0) else (s, -1, i, 4)
/-- A public name. -/
def pbF (tx : ByteArray) (s : List Nd) (i : Nat) : List Nd × Int × Nat × Int :=
  if (numF tx (i + 1) i).2.2 = 0 ∧ (numF tx (i + 1) i).1 ≤ 49 then ((fullF (addF s ⟨1, (numF tx (i + 1) i).1, 0⟩)).1, (fullF (addF s ⟨1, (numF tx (i + 1) i).1, 0⟩)).2.1, dEnd tx (i + 1), (fullF (addF s ⟨1, (numF tx (i + 1) i).1, 0⟩)).2.2)
  else (s, -1, i, 4)
/-- What comes of terms that are opened, or raised. -/
def opF (s : List Nd) (b : Int) (t u : Int) : List Nd × Int × Int :=
  if b = 60 ∧ (ndG s t).k = 2 then (s, (ndG s t).a, 0)
  else if b = 62 ∧ (ndG s t).k = 2 then (s, (ndG s t).b, 0)
  else if b = 33 ∧ (ndG s t).k = 4 then (s, (ndG s t).a, 0)
  else if b = 111 ∧ (ndG s t).k = 3 ∧ (ndG s t).b = u then (s, (ndG s t).a, 0)
  else if b = 120 ∧ (ndG s u).k = 7 then fullF (raiF s u t)
  else (s, -1, 7)
def rmore : ByteArray := ⟨#[64, 60, 62, 33, 111, 120]⟩
def rcJ (s : List Nd) (b : Int) (ts : List Int) : List Nd × Int × Int := if inS b rmore = true then opF s b (ts.getD 0 0) (ts.getD 1 0) else jnF s b ts
def rcpR (tx : ByteArray) (ks : List Int) : Rdr (List Nd) where
  text := tx
  more := rmore
  leaf s b i := if b = 64 then plF tx ks s i else pbF tx s i
  join s b ts _ := rcJ s b ts
theorem raiF_rng (ns : List Nd) (t x : Int) : (raiF ns t x).2 = -1 ∨ (0 ≤ (raiF ns t x).2 ∧ (raiF ns t x).2 < (raiF ns t x).1.length) := by
  unfold raiF
  split
  · exact addF_rng _ _
  · exact .inl rfl
theorem raiF_ext (ns : List Nd) (t x : Int) : ns <+: (raiF ns t x).1 := by
  unfold raiF
  split
  · exact addF_ext _ _
  · exact List.prefix_refl _
theorem opF_ok {s : List Nd} {b t u : Int} (hp : poolF s = true) (ht : 0 ≤ t ∧ t < s.length) (h : (opF s b t u).2.2 = 0) : s <+: (opF s b t u).1 ∧ poolF (opF s b t u).1 = true ∧ 0 ≤ (opF s b t u).2.1 ∧ (opF s b t u).2.1 < (opF s b t u).1.length := by
  obtain ⟨j, rfl⟩ : ∃ j : Nat, t = j := ⟨t.toNat, by omega⟩
  have hj : j < s.length := by omega
  have hn := ndG_at hj
  have hpt := nd_parts hp hj
  unfold opF at h ⊢
  rw [hn] at h ⊢
  split
  · rename_i g
    have := hpt (by omega)
    exact ⟨List.prefix_refl _, hp, by simp only; omega, by simp only; omega⟩
  rename_i g1
  rw [if_neg g1] at h
  split
  · rename_i g
    have := hpt (by omega)
    exact ⟨List.prefix_refl _, hp, by simp only; omega, by simp only; omega⟩
  rename_i g2
  rw [if_neg g2] at h
  split
  · rename_i g
    have := hpt (by omega)
    exact ⟨List.prefix_refl _, hp, by simp only; omega, by simp only; omega⟩
  rename_i g3
  rw [if_neg g3] at h
  split
  · rename_i g
    have := hpt (by omega)
    exact ⟨List.prefix_refl _, hp, by simp only; omega, by simp only; omega⟩
  rename_i g4
  rw [if_neg g4] at h
  split
  · rename_i g
    rw [if_pos g] at h
    obtain ⟨f1, f2, f3⟩ := fullF_ok h
    rw [f2, f3]
    refine ⟨raiF_ext _ _ _, raiF_pool _ _ hp, f1, ?_⟩
    rcases raiF_rng s u j with k | k
    · omega
    · exact k.2
  · rename_i g5
    rw [if_neg g5] at h
    simp at h
theorem rmore_in {b : Int} : inS b rmore = (decide (b = 64) || (decide (b = 60) || (decide (b = 62) || (decide (b = 33) || (decide (b = 111) || decide (b = 120)))))) := by
  simp [inS, rmore, bl, eq_comm]
/-- What a reader of recipes keeps. -/
def rcpK (tx : ByteArray) (ks : List Int) : RdrOk (rcpR tx ks) where
  W s _ := poolF s = true ∧ ∀ x ∈ ks, 0 ≤ x ∧ x < s.length
  E s i s' i' := s <+: s' ∧ i ≤ i' ∧ (poolF s = true → poolF s' = true)
  V s t := 0 ≤ t ∧ t < s.length
  E_step s i := ⟨List.prefix_refl _, by omega, id⟩
  E_trans h1 h2 := ⟨h1.1.trans h2.1, Nat.le_trans h1.2.1 h2.2.1, fun h => h2.2.2 (h1.2.2 h)⟩
  W_E h1 h2 := ⟨h2.2.2 h1.1, fun x hx => ⟨(h1.2 x hx).1, by have := (h1.2 x hx).2; have := h2.1.length_le; omega⟩⟩
  V_E h1 h2 := ⟨h1.1, by have := h2.1.length_le; omega⟩
  leaf_ok {s i} hW hi hL h := by
    have hi : i < tx.size := hi
    have h1 := dEnd_ge tx (i + 1)
    have h2 := dEnd_le (s := tx) (i := i + 1) (by omega)
    simp only [rcpR] at h ⊢
    split at h
    · rename_i g0
      rw [if_pos g0]
      unfold plF at h ⊢
      split at h
      · rename_i g
        rw [if_pos g]
        obtain ⟨q, hq⟩ : ∃ q : Nat, figV 4 (dgRun tx (i + 1)) = q := ⟨(figV 4 (dgRun tx (i + 1))).toNat, by omega⟩
        rw [hq] at g ⊢
        have hql : q < ks.length := by omega
        refine ⟨by simp only; omega, h2, ⟨List.prefix_refl _, by simp only; omega, id⟩, ?_⟩
        have := hW.2 ks[q] (List.getElem_mem hql)
        simpa [hql] using this
      · simp at h
    · rename_i g0
      rw [if_neg g0]
      unfold pbF at h ⊢
      split at h
      · rename_i g
        rw [if_pos g]
        obtain ⟨g1, g2, g3⟩ := fullF_ok h
        rw [g2, g3]
        refine ⟨by simp only; omega, h2, ⟨addF_ext _ _, by simp only; omega, fun h => addF_pool _ h⟩, ?_⟩
        rcases addF_rng s ⟨1, (numF tx (i + 1) i).1, 0⟩ with k | k
        · omega
        · exact k
      · simp at h
  join_ok {s0 i s i' ts} hW hE hS hV h := by
    have hp := hE.2.2 hW.1
    have hle : i ≤ i' := Nat.le_trans (Nat.le_succ i) hE.2.1
    simp only [rcpR, rcJ] at h ⊢
    split at h
    · rename_i g
      rw [if_pos g]
      have h0 : 0 ≤ ts.getD 0 0 ∧ ts.getD 0 0 < s.length := by
        have hl : 0 < ts.length := by simp only [Rdr.Shape] at hS; omega
        have := hV ts[0] (List.getElem_mem hl)
        simpa [hl] using this
      obtain ⟨a1, a2, a3⟩ := opF_ok hp h0 h
      exact ⟨⟨hE.1.trans a1, hle, fun _ => a2⟩, a3⟩
    · rename_i g
      rw [if_neg g]
      unfold jnF at h ⊢
      obtain ⟨g1, g2, g3⟩ := fullF_ok h
      rw [g2, g3]
      refine ⟨⟨hE.1.trans (addF_ext _ _), hle, fun _ => addF_pool _ hp⟩, ?_⟩
      rcases addF_rng s ⟨kindF (bt tx i), ts.getD 0 0, ts.getD 1 0⟩ with k | k
      · omega
      · exact k
end Go.Proofs.YtealijdcolmchaaGreatDoor.C
