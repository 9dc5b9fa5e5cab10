/- What the program's own functions of the pool answer. Conditions: those that each theorem names. -/
import Derived.Test.YtcfgiffgahdlbaaXC1
set_option linter.unusedVariables false
set_option linter.unusedSimpArgs false
namespace Go.Proofs.Ytcfgiffgahdlbaa.C
open Go.Sym Go.Proofs.Ytcfgiffgahdlbaa.I
@[simp] theorem enc_inAs (m : Nat) (ns : List Nd) : inAs m (enc ns) = true := inAs_scals _ (enc_scals ns)
@[simp] theorem enc_tells (H H' : List Blk) (g : List (Option Nat)) (ns : List Nd) : Tells H H' g (enc ns) (enc ns) := Tells_scals _ (enc_scals ns)
@[simp] theorem enc_one (ns : List Nd) : (enc ns).all A.one = true := one_scals _ (enc_scals ns)
theorem findF_ge (n : Nd) : ∀ (ns : List Nd) (i : Int), findF ns n i = -1 ∨ i ≤ findF ns n i
  | [], i => .inl rfl
  | x :: xs, i => by
    unfold findF
    split
    · exact .inr (Int.le_refl i)
    · rcases findF_ge n xs (i + 1) with h | h
      · exact .inl h
      · exact .inr (by omega)
theorem findF_first : ∀ (ns : List Nd) (j : Nat) (i : Int) (h : j < ns.length), 0 ≤ i → (findF ns ns[j] i = i + j ↔ ns[j] ∉ ns.take j)
  | x :: xs, 0, i, _, hi => by simp [findF]
  | x :: xs, j + 1, i, h, hi => by
    have hj : j < xs.length := by simpa using h
    have ih := findF_first xs j (i + 1) hj (by omega)
    simp only [List.getElem_cons_succ, List.take_succ_cons, List.mem_cons, not_or]
    unfold findF
    by_cases hx : x = xs[j]
    · rw [if_pos hx]
      simp [← hx]
      omega
    · rw [if_neg hx, show i + ((j + 1 : Nat) : Int) = i + 1 + j by push_cast; omega, ih]
      exact ⟨fun h => ⟨fun e => hx e.symm, h⟩, fun h => h.2⟩
theorem impl_inRange_c (x lo hi : Int)  : T 41 [i6 x, i6 lo, i6 hi] [] (.bool (inF x lo hi)) ([]) := by
  refine semT' (S := S0) hm impl_inRange_ok (Nat.le_of_ble_eq_true rfl) ?_
  unfold impl_inRange; dsimp only
  simp
  by_cases h : lo ≤ x
  · simp [h]
    exact LeV.eq (by simp [inF, h]) rfl
  · simp [h]
    exact LeV.eq (by simp [inF, h]) rfl
theorem impl_inRange_call {x lo hi : Int}  {S : FuncId → Bool} {H : List Blk} {K : A → Dl → Prop} (hS : S 41 = false) (hK : K (.bool (inF x lo hi)) (.news [])) : @WCall' Go.Proofs.Try.prog S 41 [i6 x, i6 lo, i6 hi] H ⟨K⟩ :=
  WCall_pure hS (impl_inRange_c x lo hi) (by simp) (by simp) (by simp) hK
theorem impl_inRange_k {x lo hi : Int}  {S : FuncId → Bool} {H : List Blk} {K : A → Dl → Prop} {zs : List A} (hS : S 41 = false) (hv : viewL (viewA 8 H) zs = some [i6 x, i6 lo, i6 hi]) (ho : noOwns zs = true ∨ nosl (.bool (inF x lo hi)) = true) (hK : K (.bool (inF x lo hi)) (.news [])) : @WCall' Go.Proofs.Try.prog S 41 zs H ⟨K⟩ :=
  WCall_pure hS (impl_inRange_c x lo hi) hv ho (by simp) hK
theorem impl_count_c (x : Int)  : T 90 [i6 x] [] (i6 (partsF x)) ([]) := by
  refine semT' (S := S0) hm impl_count_ok (Nat.le_of_ble_eq_true rfl) ?_
  unfold impl_count; dsimp only
  simp
  repeat (any_goals (first | (refine br_intro' (fun h => ?_) (fun h => ?_) <;> (have h0 := h) <;> (try simp at h) <;> try simp [h0, h])))
  all_goals exact LeV.eq (by simp [partsF, *]) rfl
theorem impl_count_call {x : Int}  {S : FuncId → Bool} {H : List Blk} {K : A → Dl → Prop} (hS : S 90 = false) (hK : K (i6 (partsF x)) (.news [])) : @WCall' Go.Proofs.Try.prog S 90 [i6 x] H ⟨K⟩ :=
  WCall_pure hS (impl_count_c x) (by simp) (by simp) (by simp) hK
theorem impl_count_k {x : Int}  {S : FuncId → Bool} {H : List Blk} {K : A → Dl → Prop} {zs : List A} (hS : S 90 = false) (hv : viewL (viewA 8 H) zs = some [i6 x]) (ho : noOwns zs = true ∨ nosl (i6 (partsF x)) = true) (hK : K (i6 (partsF x)) (.news [])) : @WCall' Go.Proofs.Try.prog S 90 zs H ⟨K⟩ :=
  WCall_pure hS (impl_count_c x) hv ho (by simp) hK
theorem impl_nodeOk_c (n : Nd) (many : Int) (h1 : 0 ≤ many) (h2 : many < 9223372036854775808) : T 65 [aN n, i6 many] [] (.bool (rightF n many)) ([]) := by
  refine semT' (S := S0) hm impl_nodeOk_ok (Nat.le_of_ble_eq_true rfl) ?_
  unfold impl_nodeOk; dsimp only
  have hw : IntKind.i64.wrap (many - 1) = many - 1 := wrap64 (by omega) (by omega)
  simp [hw]
  repeat (any_goals (first | (refine br_intro' (fun h => ?_) (fun h => ?_) <;> (have h0 := h) <;> (try simp at h) <;> try simp [h0, h, hw]) | (refine impl_count_call rfl ?_; simp [hw]) | (refine impl_inRange_call rfl ?_; simp [hw])))
  all_goals exact LeV.ro rfl rfl (by first | (simp [rightF, *]; done) | (simp only [viewA, rightF]; simp only [if_neg ‹¬partsF n.k = 0›, if_neg ‹¬partsF n.k = 1›, if_pos ‹partsF n.k = 2›]; simp [*]))
theorem impl_nodeOk_call {n : Nd} {many : Int} (h1 : 0 ≤ many) (h2 : many < 9223372036854775808) {S : FuncId → Bool} {H : List Blk} {K : A → Dl → Prop} (hS : S 65 = false) (hK : K (.bool (rightF n many)) (.news [])) : @WCall' Go.Proofs.Try.prog S 65 [aN n, i6 many] H ⟨K⟩ :=
  WCall_pure hS (impl_nodeOk_c n many h1 h2) (by simp) (by simp) (by simp) hK
theorem impl_nodeOk_k {n : Nd} {many : Int} (h1 : 0 ≤ many) (h2 : many < 9223372036854775808) {S : FuncId → Bool} {H : List Blk} {K : A → Dl → Prop} {zs : List A} (hS : S 65 = false) (hv : viewL (viewA 8 H) zs = some [aN n, i6 many]) (ho : noOwns zs = true ∨ nosl (.bool (rightF n many)) = true) (hK : K (.bool (rightF n many)) (.news [])) : @WCall' Go.Proofs.Try.prog S 65 zs H ⟨K⟩ :=
  WCall_pure hS (impl_nodeOk_c n many h1 h2) hv ho (by simp) hK
def keyN (n : Nd) : List Int := [n.k, n.a, n.b]
theorem keyN_inj {x y : Nd} : keyN x = keyN y ↔ x = y := by rw [Nd_eq]; simp [keyN]
@[simp] theorem keyN_len (n : Nd) : (keyN n).length = 3 := rfl
def mk1 (xs : List Nd) : List (List Int × Int) := xs.map fun n => (keyN n, 1)
theorem mcnt_mk1 (n : Nd) : ∀ (xs : List Nd), mcnt (mk1 xs) (keyN n) = if n ∈ xs then 1 else 0
  | [] => rfl
  | x :: xs => by
    by_cases h : n = x
    · subst h; simp [mk1, mcnt]
    · have hk : ¬ keyN n = keyN x := fun e => h (keyN_inj.1 e)
      have := mcnt_mk1 n xs
      simp only [mk1] at this
      simp [mk1, mcnt, hk, h, this]
theorem mcnt_cons (ks : List Int) (v : Int) (l : List (List Int × Int)) : mcnt ((ks, v) :: l) ks = v := by simp [mcnt]
theorem poolF_false {ns : List Nd} {j : Nat} (h : j < ns.length) (g : rightF ns[j] j = false ∨ ns[j] ∈ ns.take j) (hl : poolF ns = okFrom ns j) : poolF ns = false := by
  rw [hl, okFrom_at h]
  rcases g with g | g
  · simp [g]
  · have := findF_first ns j 0 h (Int.le_refl 0)
    rw [Int.zero_add] at this
    have e : decide (findF ns ns[j] 0 = j) = false := by simpa using fun e => this.1 e g
    simp [e]
theorem poolF_true {ns : List Nd} {j : Nat} (h : j < ns.length) (g : rightF ns[j] j = true) (k : ns[j] ∉ ns.take j) (hl : poolF ns = okFrom ns j) : poolF ns = okFrom ns (j + 1) := by
  have := findF_first ns j 0 h (Int.le_refl 0)
  rw [Int.zero_add] at this
  rw [hl, okFrom_at h, g]
  simp [this.2 k]
theorem key_fold (n : Nd) : [n.k, n.a, n.b] = keyN n := rfl
theorem impl_PoolOk_c (ns : List Nd)  : T 42 [aP ns] [] (.bool (poolF ns)) ([]) := by
  refine semT' (S := S0) hm impl_PoolOk_ok (Nat.le_of_ble_eq_true rfl) ?_
  unfold impl_PoolOk; dsimp only
  simp
  refine br_intro' (fun h => ?_) (fun h => ?_) <;> (have h0 := h) <;> (try simp at h) <;> try simp [h0, h]
  · exact LeV.ro rfl rfl (by simp [poolF]; omega)
  refine WLoop_fam (fun j : Nat => [(3, A.mref 1 0), (12, A.sl ns.length (enc ns)), (13, i6 ns.length), (14, i6 j)]) (fun j => [⟨0, false, 1, [A.sl ns.length (enc ns)], none⟩, ⟨0, false, 1, [], some (true, mk1 (ns.take j).reverse)⟩]) (fun j => ns.length - j)
    (fun j => j ≤ ns.length ∧ poolF ns = okFrom ns j) ?_ 0 ⟨Nat.zero_le _, by simp [poolF]; omega⟩
  intro j ⟨hj, hf⟩ ih
  simp
  refine br_intro' (fun h => ?_) (fun h => ?_) <;> (have h0 := h) <;> (try simp at h) <;> try simp [h0, h]
  · obtain ⟨r, hr⟩ := enc_at h
    have h3 : 3 ≤ ns.length * 3 - j * 3 := by omega
    have hw : IntKind.i64.wrap ((j : Int) + 1) = j + 1 := wrap64 (by omega) (by omega)
    have h' := h
    simp [h3, hr, h', key_fold]
    have w1 : IntKind.i64.wrap 1 = 1 := wrap64 (by omega) (by omega)
    have w2 : IntKind.i64.wrap 2 = 2 := wrap64 (by omega) (by omega)
    first | (refine ck_intro' (by kernel_rfl) ?_; try simp [mcnt_cons, key_fold]) | skip
    by_cases hm : ns[j] ∈ ns.take j
    · have hc : mcnt (mk1 (ns.take j).reverse) (keyN ns[j]) = 1 := by simp [mcnt_mk1, hm]
      have hp := poolF_false h' (.inr hm) hf
      simp [hc, w2, mcnt_cons]
      exact LeV.ro rfl rfl (by rw [hp]; rfl)
    · have hc : mcnt (mk1 (ns.take j).reverse) (keyN ns[j]) = 0 := by simp [mcnt_mk1, hm]
      simp [hc, w1, mcnt_cons]
      refine impl_nodeOk_call (n := ns[j]) (by omega) (by omega) rfl ?_; simp
      refine br_intro' (fun g => ?_) (fun g => ?_) <;> simp [g]
      · rw [hw]
        have hk : (keyN ns[j], (1 : Int)) :: mk1 (ns.take j).reverse = mk1 (ns.take (j + 1)).reverse := by
          rw [List.take_succ_eq_append_getElem h', List.reverse_append]; rfl
        refine WLoop_drop [⟨0, false, 1, [A.sl ns.length (enc ns)], none⟩, ⟨0, false, 1, [], some (true, mk1 (ns.take (j + 1)).reverse)⟩] [_] (by rw [← hk]; rfl) (by simp) (by simp) (by simp) ?_
        exact ih (j + 1) ⟨h', poolF_true h' g hm hf⟩ (by omega)
      · exact LeV.ro rfl rfl (by rw [poolF_false h' (.inl g) hf]; rfl)
  · exact LeV.ro rfl rfl (by simp [hf, okFrom_end h])
theorem impl_PoolOk_call {ns : List Nd}  {S : FuncId → Bool} {H : List Blk} {K : A → Dl → Prop} (hS : S 42 = false) (hK : K (.bool (poolF ns)) (.news [])) : @WCall' Go.Proofs.Try.prog S 42 [aP ns] H ⟨K⟩ :=
  WCall_pure hS (impl_PoolOk_c ns) (by simp) (by simp) (by simp) hK
theorem impl_PoolOk_k {ns : List Nd}  {S : FuncId → Bool} {H : List Blk} {K : A → Dl → Prop} {zs : List A} (hS : S 42 = false) (hv : viewL (viewA 8 H) zs = some [aP ns]) (ho : noOwns zs = true ∨ nosl (.bool (poolF ns)) = true) (hK : K (.bool (poolF ns)) (.news [])) : @WCall' Go.Proofs.Try.prog S 42 zs H ⟨K⟩ :=
  WCall_pure hS (impl_PoolOk_c ns) hv ho (by simp) hK
end Go.Proofs.Ytcfgiffgahdlbaa.C
