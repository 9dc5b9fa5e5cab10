/- What links answer, in the reference and in the program. Conditions: those that each theorem names. -/
import Derived.Test.YtcfgiffgahdlbaaXC2
set_option linter.unusedVariables false
set_option linter.unusedSimpArgs false
namespace Go.Proofs.Ytcfgiffgahdlbaa.C
open Go.Sym Go.Proofs.Ytcfgiffgahdlbaa.I
@[simp] theorem enc_take3 (ns : List Nd) (a b c : A) : (enc ns ++ [a, b, c]).take ((ns.length + 1) * 3) = enc ns ++ [a, b, c] := List.take_of_length_le (by simp; omega)
@[simp] theorem enc_view3 (n : Nat) (H : List Blk) (ns : List Nd) (a b c : Int) : viewL (viewA (n + 1) H) (enc ns ++ [i6 a, i6 b, i6 c]) = some (enc ns ++ [i6 a, i6 b, i6 c]) := viewL_scals _ (by simp [scals_app, scals, scal])
def orE (ns : List Nd) : List Nd := if poolF ns then ns else []
theorem poolF_len {ns : List Nd} (h : poolF ns = true) : ns.length ≤ 500 := by
  unfold poolF at h
  simp at h
  exact h.1
theorem okFrom_all {ns : List Nd} (h : poolF ns = true) {j : Nat} (hj : j < ns.length) : rightF ns[j] j = true ∧ ns[j] ∉ ns.take j := by
  simp only [poolF, okFrom, Bool.and_eq_true, List.all_eq_true] at h
  have := h.2 j (by simp [List.mem_range']; omega)
  simp [hj] at this
  refine ⟨this.1, ?_⟩
  have := (findF_first ns j 0 hj (Int.le_refl 0)).1 (by rw [Int.zero_add]; exact this.2)
  exact this
theorem rightF_mono {n : Nd} {a b : Int} (h : rightF n a = true) (hab : a ≤ b) : rightF n b = true := by
  unfold rightF at h ⊢
  split
  · rename_i h0; rw [if_pos h0] at h; exact h
  · rename_i h0
    rw [if_neg h0] at h
    split
    · rename_i h1
      rw [if_pos h1] at h
      simp [inF] at h ⊢
      exact ⟨⟨h.1.1, by omega⟩, h.2⟩
    · rename_i h1
      rw [if_neg h1] at h
      split
      · rename_i h2
        rw [if_pos h2] at h
        simp [inF] at h ⊢
        exact ⟨⟨⟨h.1.1.1, by omega⟩, ⟨h.1.2.1, by omega⟩⟩, h.2⟩
      · rename_i h2; rw [if_neg h2] at h; cases h
theorem findF_at : ∀ (ns : List Nd) (n : Nd) (i : Nat), 0 ≤ findF ns n i → ∃ j : Nat, ∃ h : j < ns.length, findF ns n i = i + j ∧ ns[j] = n
  | [], n, i, h => by simp [findF] at h
  | x :: xs, n, i, h => by
    unfold findF at h ⊢
    by_cases e : x = n
    · rw [if_pos e]; exact ⟨0, by simp, by simp, by simpa using e⟩
    · rw [if_neg e] at h ⊢
      obtain ⟨j, h1, h2, h3⟩ := findF_at xs n (i + 1) (by simpa using h)
      exact ⟨j + 1, by simp; omega, by push_cast at h2 ⊢; omega, by simpa using h3⟩
theorem find_right {ns : List Nd} {n : Nd} (hp : poolF ns = true) (h : 0 ≤ findF ns n 0) : rightF n ns.length = true := by
  obtain ⟨j, hj, _, rfl⟩ := findF_at ns n 0 h
  exact rightF_mono (okFrom_all hp hj).1 (by omega)
theorem findF_none {ns : List Nd} {n : Nd} (i : Int) (hi : 0 ≤ i) (h : n ∉ ns) : findF ns n i = -1 := by
  induction ns generalizing i with
  | nil => rfl
  | cons x xs ih =>
    simp only [List.mem_cons, not_or] at h
    unfold findF
    rw [if_neg (fun e => h.1 e.symm)]
    exact ih (i + 1) (by omega) h.2
theorem findF_mem {ns : List Nd} {n : Nd} (h : n ∈ ns) : 0 ≤ findF ns n 0 := by
  have : ∀ (ns : List Nd) (i : Int), 0 ≤ i → n ∈ ns → 0 ≤ findF ns n i := by
    intro ns
    induction ns with
    | nil => intro i _ h; cases h
    | cons x xs ih =>
      intro i hi h
      unfold findF
      by_cases e : x = n
      · rw [if_pos e]; exact hi
      · rw [if_neg e]; exact ih (i + 1) (by omega) (by rcases List.mem_cons.1 h with h | h; exact absurd h.symm e; exact h)
  exact this ns 0 (Int.le_refl 0) h
theorem addF_ge (ns : List Nd) (n : Nd) : ns.length ≤ (addF ns n).1.length := by
  unfold addF
  split
  · exact Nat.le_refl _
  · split
    · exact Nat.le_refl _
    · split
      · exact Nat.le_refl _
      · simp
theorem addF_pool {ns : List Nd} (n : Nd) (hp : poolF ns = true) : poolF (addF ns n).1 = true := by
  unfold addF
  split
  · exact hp
  · rename_i h1
    split
    · exact hp
    · rename_i h2
      split
      · exact hp
      · rename_i h3
        generalize normN n = m at h1 h2 h3 ⊢
        have hm : m ∉ ns := fun hm => h2 (findF_mem hm)
        have hr : rightF m ns.length = true := by simpa using h1
        have hl := poolF_len hp
        simp only [poolF, okFrom, Bool.and_eq_true, List.all_eq_true, decide_eq_true_eq]
        refine ⟨by simp; omega, fun j hj => ?_⟩
        have hj' : j < ns.length + 1 := by simp [List.mem_range'] at hj; omega
        have key : ∀ (hjl : j < (ns ++ [m]).length), rightF (ns ++ [m])[j] j = true ∧ (ns ++ [m])[j] ∉ (ns ++ [m]).take j := by
          intro hjl
          rcases Nat.lt_or_ge j ns.length with h | h
          · rw [List.getElem_append_left h, List.take_append_of_le_length (by omega)]
            exact okFrom_all hp h
          · have : j = ns.length := by omega
            subst this
            simp [hr, hm]
        obtain ⟨k1, k2⟩ := key (by simp; omega)
        have h5 : (ns ++ [m]).getD j ⟨0, 0, 0⟩ = (ns ++ [m])[j]'(by simp; omega) := by simp [List.getD_eq_getElem?_getD, List.getElem?_eq_getElem (show j < (ns ++ [m]).length by simp; omega)]
        have h6 := (findF_first (ns ++ [m]) j 0 (by simp; omega) (Int.le_refl 0)).2 k2
        rw [Int.zero_add] at h6
        rw [h5, k1, h6]
        simp
theorem spec_l1Add_c (ns : List Nd) (n : Nd) (hp : poolF ns = true) : T 100 [aP ns, aN n] [] (.tup [aP (addF ns n).1, i6 (addF ns n).2]) ([]) := by
  refine semT' (S := S0) hm spec_l1Add_ok (Nat.le_of_ble_eq_true rfl) ?_
  unfold spec_l1Add; dsimp only
  have hl := poolF_len hp
  have hw : IntKind.i64.wrap (ns.length : Int) = ns.length := wrap64 (by omega) (by omega)
  have fin : ∀ m : Nd, normN n = m → (addF ns n) = if 0 ≤ findF ns m 0 then (ns, findF ns m 0) else if rightF m ns.length = false then (ns, -1) else if 500 ≤ ns.length then (ns, -1) else (ns ++ [m], (ns.length : Int)) := by
    intro m hm
    unfold addF
    rw [hm]
    by_cases h1 : 0 ≤ findF ns m 0
    · rw [if_neg (by rw [find_right hp h1]; simp), if_pos h1, if_pos h1]
    · rw [if_neg h1, if_neg h1]
  simp
  refine br_intro' (fun hk => ?_) (fun hk => ?_) <;> simp at hk <;> simp [hk]
  · refine br_intro' (fun hb => ?_) (fun hb => ?_) <;> simp at hb <;> simp [hb]
    · have hm : normN n = ⟨8, n.b, n.a⟩ := by simp [normN, hk, hb]; omega
      refine spec_l1Find_call (ns := ns) (n := ⟨8,n.b,n.a⟩) (by omega) rfl ?_; simp
      refine br_intro' (fun f => ?_) (fun f => ?_) <;> (have f0 := f) <;> simp at f <;> simp [f]
      · exact LeV.ro rfl rfl (by rw [fin _ hm, if_pos f]; simp)
      · refine spec_l1Right_call (n := ⟨8,n.b,n.a⟩) (many := ns.length) (by omega) (by omega) rfl ?_; simp
        refine br_intro' (fun g => ?_) (fun g => ?_) <;> simp [g]
        · refine br_intro' (fun q => ?_) (fun q => ?_) <;> simp at q <;> simp [q]
          · exact LeV.ro rfl rfl (by rw [fin _ hm, if_neg (by omega), if_neg (by rw [g]; simp), if_pos (by omega)]; simp)
          · refine spec_l1Copy_k (ns := ns) (by omega) rfl (by simp) (by simp [noslBlks]) ?_; simp [shiftB]
            refine ck_intro' (by omega) ?_; simp
            first | (refine ck_intro' (by kernel_rfl) ?_; try simp) | skip
            have h33 : (ns.length + 1) * 3 ≤ ns.length * 3 + 3 := by omega
            exact LeV.ro rfl rfl (by rw [fin _ hm, if_neg (by omega), if_neg (by rw [g]; simp), if_neg (by omega)]; simp [enc_snoc, h33])
        · exact LeV.ro rfl rfl (by rw [fin _ hm, if_neg (by omega), if_pos g]; simp)
    · have hm : normN n = ⟨8, n.a, n.b⟩ := by
        simp only [normN, hk, if_true]
        rw [if_neg (by omega)]
        by_cases e : n.a < n.b
        · rw [if_pos e]
        · rw [if_neg e]; congr 1; omega
      refine spec_l1Find_call (ns := ns) (n := ⟨8,n.a,n.b⟩) (by omega) rfl ?_; simp
      refine br_intro' (fun f => ?_) (fun f => ?_) <;> (have f0 := f) <;> simp at f <;> simp [f]
      · exact LeV.ro rfl rfl (by rw [fin _ hm, if_pos f]; simp)
      · refine spec_l1Right_call (n := ⟨8,n.a,n.b⟩) (many := ns.length) (by omega) (by omega) rfl ?_; simp
        refine br_intro' (fun g => ?_) (fun g => ?_) <;> simp [g]
        · refine br_intro' (fun q => ?_) (fun q => ?_) <;> simp at q <;> simp [q]
          · exact LeV.ro rfl rfl (by rw [fin _ hm, if_neg (by omega), if_neg (by rw [g]; simp), if_pos (by omega)]; simp)
          · refine spec_l1Copy_k (ns := ns) (by omega) rfl (by simp) (by simp [noslBlks]) ?_; simp [shiftB]
            refine ck_intro' (by omega) ?_; simp
            first | (refine ck_intro' (by kernel_rfl) ?_; try simp) | skip
            have h33 : (ns.length + 1) * 3 ≤ ns.length * 3 + 3 := by omega
            exact LeV.ro rfl rfl (by rw [fin _ hm, if_neg (by omega), if_neg (by rw [g]; simp), if_neg (by omega)]; simp [enc_snoc, h33])
        · exact LeV.ro rfl rfl (by rw [fin _ hm, if_neg (by omega), if_pos g]; simp)
  · have hm : normN n = ⟨n.k, n.a, n.b⟩ := by simp [normN, hk]
    refine spec_l1Find_call (ns := ns) (n := ⟨n.k,n.a,n.b⟩) (by omega) rfl ?_; simp
    refine br_intro' (fun f => ?_) (fun f => ?_) <;> (have f0 := f) <;> simp at f <;> simp [f]
    · exact LeV.ro rfl rfl (by rw [fin _ hm, if_pos f]; simp)
    · refine spec_l1Right_call (n := ⟨n.k,n.a,n.b⟩) (many := ns.length) (by omega) (by omega) rfl ?_; simp
      refine br_intro' (fun g => ?_) (fun g => ?_) <;> simp [g]
      · refine br_intro' (fun q => ?_) (fun q => ?_) <;> simp at q <;> simp [q]
        · exact LeV.ro rfl rfl (by rw [fin _ hm, if_neg (by omega), if_neg (by rw [g]; simp), if_pos (by omega)]; simp)
        · refine spec_l1Copy_k (ns := ns) (by omega) rfl (by simp) (by simp [noslBlks]) ?_; simp [shiftB]
          refine ck_intro' (by omega) ?_; simp
          first | (refine ck_intro' (by kernel_rfl) ?_; try simp) | skip
          have h33 : (ns.length + 1) * 3 ≤ ns.length * 3 + 3 := by omega
          exact LeV.ro rfl rfl (by rw [fin _ hm, if_neg (by omega), if_neg (by rw [g]; simp), if_neg (by omega)]; simp [enc_snoc, h33])
      · exact LeV.ro rfl rfl (by rw [fin _ hm, if_neg (by omega), if_pos g]; simp)
theorem spec_l1Add_call {ns : List Nd} {n : Nd} (hp : poolF ns = true) {S : FuncId → Bool} {H : List Blk} {K : A → Dl → Prop} (hS : S 100 = false) (hK : K (.tup [aP (addF ns n).1, i6 (addF ns n).2]) (.news [])) : @WCall' Go.Proofs.Try.prog S 100 [aP ns, aN n] H ⟨K⟩ :=
  WCall_pure hS (spec_l1Add_c ns n hp) (by simp) (by simp) (by simp) hK
theorem spec_l1Add_k {ns : List Nd} {n : Nd} (hp : poolF ns = true) {S : FuncId → Bool} {H : List Blk} {K : A → Dl → Prop} {zs : List A} (hS : S 100 = false) (hv : viewL (viewA 8 H) zs = some [aP ns, aN n]) (ho : noOwns zs = true ∨ nosl (.tup [aP (addF ns n).1, i6 (addF ns n).2]) = true) (hK : K (.tup [aP (addF ns n).1, i6 (addF ns n).2]) (.news [])) : @WCall' Go.Proofs.Try.prog S 100 zs H ⟨K⟩ :=
  WCall_pure hS (spec_l1Add_c ns n hp) hv ho (by simp) hK
/-- What turning a link comes to. -/
def turnF (ns : List Nd) (l : Lk) : List Nd × Lk × Bool :=
  if l.over ∨ l.epoch = 20 then (ns, l, false)
  else
    let p := addF ns ⟨1, 7, 0⟩
    if p.2 < 0 then (ns, l, false) else
    let q := addF p.1 ⟨6, l.key, p.2⟩
    if q.2 < 0 then (ns, l, false) else (q.1, ⟨q.2, l.epoch + 1, 0, false⟩, true)
theorem turnF_len (ns : List Nd) (l : Lk) (h : ns.length ≤ 500) : (turnF ns l).1.length ≤ 500 := by
  unfold turnF
  split
  · exact h
  · dsimp only
    split
    · exact h
    · split
      · exact h
      · exact addF_len _ _ (addF_len _ _ h)
/-- What LinkTurn answers. -/
def linkTurnF (ns : List Nd) (l : Lk) : List Nd × Lk × Bool := if lkF ns l then turnF ns l else (orE ns, l, false)
end Go.Proofs.Ytcfgiffgahdlbaa.C
