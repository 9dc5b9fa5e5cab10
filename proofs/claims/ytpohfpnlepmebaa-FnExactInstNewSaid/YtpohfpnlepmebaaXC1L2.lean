/- What the functions of the pool answer. Conditions: those that each theorem names. -/
import Derived.Test.YtpohfpnlepmebaaXI
import Derived.Test.YtpohfpnlepmebaaXSymU
set_option linter.unusedVariables false
set_option linter.unusedSimpArgs false
namespace Go.Proofs.Ytpohfpnlepmebaa.C
open Go.Sym Go.Proofs.Ytpohfpnlepmebaa.I
def S0 : FuncId → Bool := fun _ => false
theorem hm : Go.Proofs.Try.prog.follows .mixedOrders = true := by kernel_rfl
abbrev T := SemT Go.Proofs.Try.prog

structure Nd where
  k : Int
  a : Int
  b : Int
deriving DecidableEq
theorem Nd_eq {x y : Nd} : x = y ↔ x.k = y.k ∧ x.a = y.a ∧ x.b = y.b := by cases x; cases y; simp
def encN (n : Nd) : List A := [i6 n.k, i6 n.a, i6 n.b]
def enc (ns : List Nd) : List A := ns.flatMap encN
theorem encN_len (n : Nd) : (encN n).length = 3 := rfl
@[simp] theorem enc_len (ns : List Nd) : (enc ns).length = ns.length * 3 := flat_len encN_len ns
@[simp] theorem enc_scals (ns : List Nd) : scals (enc ns) = true := scals_flat _ (fun _ => rfl) ns
theorem enc_at {ns : List Nd} {j : Nat} (h : j < ns.length) : ∃ r, (enc ns).drop (j * 3) = i6 ns[j].k :: i6 ns[j].a :: i6 ns[j].b :: r := flat_at encN_len (List.getElem?_eq_getElem h)
@[simp] theorem enc_view (n : Nat) (H : List Blk) (ns : List Nd) : viewL (viewA (n + 1) H) (enc ns) = some (enc ns) := viewL_scals _ (enc_scals ns)
@[simp] theorem enc_noOwns (ns : List Nd) : noOwns (enc ns) = true := noOwns_scals _ (enc_scals ns)
@[simp] theorem enc_nosls (ns : List Nd) : nosls (enc ns) = true := nosls_scals _ (enc_scals ns)
@[simp] theorem enc_shift (n : Nat) (ns : List Nd) : shiftAs n (enc ns) = enc ns := shiftAs_scals _ (enc_scals ns)
abbrev aN (n : Nd) : A := .agg [i6 n.k, i6 n.a, i6 n.b]
abbrev aP (ns : List Nd) : A := .agg [.sl ns.length (enc ns)]

def partsF (k : Int) : Int := if k = 1 then 0 else if k = 5 ∨ k = 7 then 1 else if k = 2 ∨ k = 3 ∨ k = 4 ∨ k = 6 ∨ k = 8 then 2 else -1

def inF (x lo hi : Int) : Bool := decide (lo ≤ x ∧ x ≤ hi)
theorem inF_iff {x lo hi : Int} : inF x lo hi = true ↔ lo ≤ x ∧ x ≤ hi := by simp [inF]
theorem spec_l1In_c (x lo hi : Int)  : T 45 [i6 x, i6 lo, i6 hi] [] (.bool (inF x lo hi)) ([]) := by
  refine semT' (S := S0) hm spec_l1In_ok (Nat.le_of_ble_eq_true rfl) ?_
  unfold spec_l1In; dsimp only
  simp
  by_cases h : lo ≤ x
  · simp [h]
    exact LeV.eq (by simp [inF, h]) rfl
  · simp [h]
    exact LeV.eq (by simp [inF, h]) rfl
theorem spec_l1In_call {x lo hi : Int}  {S : FuncId → Bool} {H : List Blk} {K : A → Dl → Prop} (hS : S 45 = false) (hK : K (.bool (inF x lo hi)) (.news [])) : @WCall' Go.Proofs.Try.prog S 45 [i6 x, i6 lo, i6 hi] H ⟨K⟩ :=
  WCall_pure hS (spec_l1In_c x lo hi) (by simp) (by simp) (by simp) hK
theorem spec_l1In_k {x lo hi : Int}  {S : FuncId → Bool} {H : List Blk} {K : A → Dl → Prop} {zs : List A} (hS : S 45 = false) (hv : viewL (viewA 8 H) zs = some [i6 x, i6 lo, i6 hi]) (ho : noOwns zs = true ∨ nosl (.bool (inF x lo hi)) = true) (hK : K (.bool (inF x lo hi)) (.news [])) : @WCall' Go.Proofs.Try.prog S 45 zs H ⟨K⟩ :=
  WCall_pure hS (spec_l1In_c x lo hi) hv ho (by simp) hK
theorem spec_l1Parts_c (x : Int)  : T 55 [i6 x] [] (i6 (partsF x)) ([]) := by
  refine semT' (S := S0) hm spec_l1Parts_ok (Nat.le_of_ble_eq_true rfl) ?_
  unfold spec_l1Parts; dsimp only
  simp
  repeat (any_goals (first | (refine br_intro' (fun h => ?_) (fun h => ?_) <;> (have h0 := h) <;> (try simp at h) <;> try simp [h0, h])))
  all_goals exact LeV.eq (by simp [partsF, *]) rfl
theorem spec_l1Parts_call {x : Int}  {S : FuncId → Bool} {H : List Blk} {K : A → Dl → Prop} (hS : S 55 = false) (hK : K (i6 (partsF x)) (.news [])) : @WCall' Go.Proofs.Try.prog S 55 [i6 x] H ⟨K⟩ :=
  WCall_pure hS (spec_l1Parts_c x) (by simp) (by simp) (by simp) hK
theorem spec_l1Parts_k {x : Int}  {S : FuncId → Bool} {H : List Blk} {K : A → Dl → Prop} {zs : List A} (hS : S 55 = false) (hv : viewL (viewA 8 H) zs = some [i6 x]) (ho : noOwns zs = true ∨ nosl (i6 (partsF x)) = true) (hK : K (i6 (partsF x)) (.news [])) : @WCall' Go.Proofs.Try.prog S 55 zs H ⟨K⟩ :=
  WCall_pure hS (spec_l1Parts_c x) hv ho (by simp) hK
def rightF (n : Nd) (many : Int) : Bool :=
  if partsF n.k = 0 then inF n.a 0 199 && decide (n.b = 0)
  else if partsF n.k = 1 then inF n.a 0 (many - 1) && decide (n.b = 0)
  else if partsF n.k = 2 then inF n.a 0 (many - 1) && inF n.b 0 (many - 1) && (decide (n.k ≠ 8) || decide (n.a ≤ n.b))
  else false
theorem spec_l1Right_c (n : Nd) (many : Int) (h1 : 0 ≤ many) (h2 : many < 9223372036854775808) : T 42 [aN n, i6 many] [] (.bool (rightF n many)) ([]) := by
  refine semT' (S := S0) hm spec_l1Right_ok (Nat.le_of_ble_eq_true rfl) ?_
  unfold spec_l1Right; dsimp only
  have hw : IntKind.i64.wrap (many - 1) = many - 1 := wrap64 (by omega) (by omega)
  simp [hw]
  repeat (any_goals (first | (refine br_intro' (fun h => ?_) (fun h => ?_) <;> (have h0 := h) <;> (try simp at h) <;> try simp [h0, h, hw]) | (refine spec_l1Parts_call rfl ?_; simp [hw]) | (refine spec_l1In_call rfl ?_; simp [hw])))
  all_goals exact LeV.ro rfl rfl (by first | (simp [rightF, *]; done) | (simp only [viewA, rightF]; simp only [if_neg ‹¬partsF n.k = 0›, if_neg ‹¬partsF n.k = 1›, if_pos ‹partsF n.k = 2›]; simp [*]))
theorem spec_l1Right_call {n : Nd} {many : Int} (h1 : 0 ≤ many) (h2 : many < 9223372036854775808) {S : FuncId → Bool} {H : List Blk} {K : A → Dl → Prop} (hS : S 42 = false) (hK : K (.bool (rightF n many)) (.news [])) : @WCall' Go.Proofs.Try.prog S 42 [aN n, i6 many] H ⟨K⟩ :=
  WCall_pure hS (spec_l1Right_c n many h1 h2) (by simp) (by simp) (by simp) hK
theorem spec_l1Right_k {n : Nd} {many : Int} (h1 : 0 ≤ many) (h2 : many < 9223372036854775808) {S : FuncId → Bool} {H : List Blk} {K : A → Dl → Prop} {zs : List A} (hS : S 42 = false) (hv : viewL (viewA 8 H) zs = some [aN n, i6 many]) (ho : noOwns zs = true ∨ nosl (.bool (rightF n many)) = true) (hK : K (.bool (rightF n many)) (.news [])) : @WCall' Go.Proofs.Try.prog S 42 zs H ⟨K⟩ :=
  WCall_pure hS (spec_l1Right_c n many h1 h2) hv ho (by simp) hK
def findF : List Nd → Nd → Int → Int
  | [], _, _ => -1
  | x :: xs, n, i => if x = n then i else findF xs n (i + 1)
theorem spec_l1Find_c (ns : List Nd) (n : Nd) (hl : ns.length < 9223372036854775807) : T 43 [aP ns, aN n] [] (i6 (findF ns n 0)) ([]) := by
  refine semT' (S := S0) hm spec_l1Find_ok (Nat.le_of_ble_eq_true rfl) ?_
  unfold spec_l1Find; dsimp only
  simp
  refine WLoop_fam (fun j : Nat => [(2, A.ptr 0 0 0), (3, A.ptr 1 0 0), (5, i6 j)]) (fun _ => [⟨0, false, 1, [A.sl ns.length (enc ns)], none⟩, ⟨0, false, 1, [i6 n.k, i6 n.a, i6 n.b], none⟩]) (fun j => ns.length - j)
    (fun j => j ≤ ns.length ∧ findF ns n 0 = findF (ns.drop j) n j) ?_ 0 ⟨Nat.zero_le _, rfl⟩
  intro j ⟨hj, hf⟩ ih
  simp
  refine br_intro' (fun h => ?_) (fun h => ?_) <;> (have h0 := h) <;> (try simp at h) <;> try simp [h0, h]
  · obtain ⟨r, hr⟩ := enc_at h
    have h3 : 3 ≤ ns.length * 3 - j * 3 := by omega
    have hd : ns.drop j = ns[j] :: ns.drop (j + 1) := List.drop_eq_getElem_cons h
    have hw : IntKind.i64.wrap ((j : Int) + 1) = j + 1 := wrap64 (by omega) (by omega)
    simp [h3, hr]
    have h' := h
    first | (refine ck_intro' (by kernel_rfl) ?_; try simp) | skip
    refine br_intro' (fun h => ?_) (fun h => ?_) <;> (have h0 := h) <;> (try simp at h) <;> try simp [h0, h, hr]
    · exact LeV.ro rfl rfl (by rw [hf, hd, findF, if_pos (Nd_eq.2 h)]; rfl)
    · rw [hw]
      refine ih (j + 1) ⟨h', ?_⟩ (by omega)
      rw [hf, hd, findF, if_neg (by rw [Nd_eq]; rintro ⟨a, b, c⟩; exact h a b c)]
      rfl
  · exact LeV.ro rfl rfl (by simp [hf, findF, List.drop_of_length_le h])
theorem spec_l1Find_call {ns : List Nd} {n : Nd} (hl : ns.length < 9223372036854775807) {S : FuncId → Bool} {H : List Blk} {K : A → Dl → Prop} (hS : S 43 = false) (hK : K (i6 (findF ns n 0)) (.news [])) : @WCall' Go.Proofs.Try.prog S 43 [aP ns, aN n] H ⟨K⟩ :=
  WCall_pure hS (spec_l1Find_c ns n hl) (by simp) (by simp) (by simp) hK
theorem spec_l1Find_k {ns : List Nd} {n : Nd} (hl : ns.length < 9223372036854775807) {S : FuncId → Bool} {H : List Blk} {K : A → Dl → Prop} {zs : List A} (hS : S 43 = false) (hv : viewL (viewA 8 H) zs = some [aP ns, aN n]) (ho : noOwns zs = true ∨ nosl (i6 (findF ns n 0)) = true) (hK : K (i6 (findF ns n 0)) (.news [])) : @WCall' Go.Proofs.Try.prog S 43 zs H ⟨K⟩ :=
  WCall_pure hS (spec_l1Find_c ns n hl) hv ho (by simp) hK
def okFrom (ns : List Nd) (j : Nat) : Bool := (List.range' j (ns.length - j)).all fun i => rightF (ns.getD i ⟨0, 0, 0⟩) i && decide (findF ns (ns.getD i ⟨0, 0, 0⟩) 0 = i)
theorem okFrom_at {ns : List Nd} {j : Nat} (h : j < ns.length) : okFrom ns j = (rightF ns[j] j && decide (findF ns ns[j] 0 = j) && okFrom ns (j + 1)) := by
  have : ns.length - j = (ns.length - (j + 1)) + 1 := by omega
  simp only [okFrom]
  rw [this, List.range'_succ, List.all_cons]
  simp [h]
theorem okFrom_end {ns : List Nd} {j : Nat} (h : ns.length ≤ j) : okFrom ns j = true := by simp [okFrom, Nat.sub_eq_zero_of_le h]
def poolF (ns : List Nd) : Bool := decide (ns.length ≤ 500) && okFrom ns 0
theorem spec_PoolOk_c (ns : List Nd)  : T 15 [aP ns] [] (.bool (poolF ns)) ([]) := by
  refine semT' (S := S0) hm spec_PoolOk_ok (Nat.le_of_ble_eq_true rfl) ?_
  unfold spec_PoolOk; dsimp only
  simp
  refine br_intro' (fun h => ?_) (fun h => ?_) <;> (have h0 := h) <;> (try simp at h) <;> try simp [h0, h]
  · exact LeV.ro rfl rfl (by simp [poolF]; omega)
  refine WLoop_fam (fun j : Nat => [(1, A.ptr 0 0 0), (3, i6 j)]) (fun _ => [⟨0, false, 1, [A.sl ns.length (enc ns)], none⟩]) (fun j => ns.length - j)
    (fun j => j ≤ ns.length ∧ poolF ns = okFrom ns j) ?_ 0 ⟨Nat.zero_le _, by simp [poolF]; omega⟩
  intro j ⟨hj, hf⟩ ih
  simp
  refine br_intro' (fun h => ?_) (fun h => ?_) <;> (have h0 := h) <;> (try simp at h) <;> try simp [h0, h]
  · rename_i h5
    obtain ⟨r, hr⟩ := enc_at h
    have h3 : 3 ≤ ns.length * 3 - j * 3 := by omega
    have hw : IntKind.i64.wrap ((j : Int) + 1) = j + 1 := wrap64 (by omega) (by omega)
    simp [h3, hr]
    have h' := h
    refine spec_l1Right_call (n := ns[j]) (by omega) (by omega) rfl ?_; simp
    refine br_intro' (fun g => ?_) (fun g => ?_) <;> simp [g, h3, hr, h']
    · refine spec_l1Find_call (ns := ns) (n := ns[j]) (by omega) rfl ?_; simp
      first | (refine ck_intro' (by kernel_rfl) ?_; try simp) | skip
      refine br_intro' (fun h => ?_) (fun h => ?_) <;> (have h0 := h) <;> (try simp at h) <;> try simp [h0, h]
      · rw [hw]
        exact ih (j + 1) ⟨h', by rw [hf, okFrom_at h', g, h]; simp⟩ (by omega)
      · exact LeV.ro rfl rfl (by rw [hf, okFrom_at h']; simp [h])
    · first | (refine ck_intro' (by kernel_rfl) ?_; try simp) | skip
      exact LeV.ro rfl rfl (by rw [hf, okFrom_at h', g]; simp)
  · exact LeV.ro rfl rfl (by simp [hf, okFrom_end h])
theorem spec_PoolOk_call {ns : List Nd}  {S : FuncId → Bool} {H : List Blk} {K : A → Dl → Prop} (hS : S 15 = false) (hK : K (.bool (poolF ns)) (.news [])) : @WCall' Go.Proofs.Try.prog S 15 [aP ns] H ⟨K⟩ :=
  WCall_pure hS (spec_PoolOk_c ns) (by simp) (by simp) (by simp) hK
theorem spec_PoolOk_k {ns : List Nd}  {S : FuncId → Bool} {H : List Blk} {K : A → Dl → Prop} {zs : List A} (hS : S 15 = false) (hv : viewL (viewA 8 H) zs = some [aP ns]) (ho : noOwns zs = true ∨ nosl (.bool (poolF ns)) = true) (hK : K (.bool (poolF ns)) (.news [])) : @WCall' Go.Proofs.Try.prog S 15 zs H ⟨K⟩ :=
  WCall_pure hS (spec_PoolOk_c ns) hv ho (by simp) hK
end Go.Proofs.Ytpohfpnlepmebaa.C

set_option linter.unusedVariables false
set_option linter.unusedSimpArgs false
namespace Go.Proofs.Ytpohfpnlepmebaa.C
open Go.Sym Go.Proofs.Ytpohfpnlepmebaa.I
@[simp] theorem enc_inAs (m : Nat) (ns : List Nd) : inAs m (enc ns) = true := inAs_scals _ (enc_scals ns)
@[simp] theorem enc_tells (H H' : List Blk) (g : List (Option Nat)) (ns : List Nd) : Tells H H' g (enc ns) (enc ns) := Tells_scals _ (enc_scals ns)
@[simp] theorem enc_one (ns : List Nd) : (enc ns).all A.one = true := one_scals _ (enc_scals ns)
theorem findF_ge (n : Nd) : ∀ (ns : List Nd) (i : Int), findF ns n i = -1 ∨ i ≤ findF ns n i
  | [], i => .inl rfl
  | x :: xs, i => by
    unfold findF
    split
    · exact .inr (Int.le_refl i)
    · rcases findF_ge n xs (i + 1) with h | h
      · exact .inl h
      · exact .inr (by omega)
theorem findF_first : ∀ (ns : List Nd) (j : Nat) (i : Int) (h : j < ns.length), 0 ≤ i → (findF ns ns[j] i = i + j ↔ ns[j] ∉ ns.take j)
  | x :: xs, 0, i, _, hi => by simp [findF]
  | x :: xs, j + 1, i, h, hi => by
    have hj : j < xs.length := by simpa using h
    have ih := findF_first xs j (i + 1) hj (by omega)
    simp only [List.getElem_cons_succ, List.take_succ_cons, List.mem_cons, not_or]
    unfold findF
    by_cases hx : x = xs[j]
    · rw [if_pos hx]
      simp [← hx]
      omega
    · rw [if_neg hx, show i + ((j + 1 : Nat) : Int) = i + 1 + j by push_cast; omega, ih]
      exact ⟨fun h => ⟨fun e => hx e.symm, h⟩, fun h => h.2⟩
theorem impl_inRange_c (x lo hi : Int)  : T 50 [i6 x, i6 lo, i6 hi] [] (.bool (inF x lo hi)) ([]) := by
  refine semT' (S := S0) hm impl_inRange_ok (Nat.le_of_ble_eq_true rfl) ?_
  unfold impl_inRange; dsimp only
  simp
  by_cases h : lo ≤ x
  · simp [h]
    exact LeV.eq (by simp [inF, h]) rfl
  · simp [h]
    exact LeV.eq (by simp [inF, h]) rfl
theorem impl_inRange_call {x lo hi : Int}  {S : FuncId → Bool} {H : List Blk} {K : A → Dl → Prop} (hS : S 50 = false) (hK : K (.bool (inF x lo hi)) (.news [])) : @WCall' Go.Proofs.Try.prog S 50 [i6 x, i6 lo, i6 hi] H ⟨K⟩ :=
  WCall_pure hS (impl_inRange_c x lo hi) (by simp) (by simp) (by simp) hK
theorem impl_inRange_k {x lo hi : Int}  {S : FuncId → Bool} {H : List Blk} {K : A → Dl → Prop} {zs : List A} (hS : S 50 = false) (hv : viewL (viewA 8 H) zs = some [i6 x, i6 lo, i6 hi]) (ho : noOwns zs = true ∨ nosl (.bool (inF x lo hi)) = true) (hK : K (.bool (inF x lo hi)) (.news [])) : @WCall' Go.Proofs.Try.prog S 50 zs H ⟨K⟩ :=
  WCall_pure hS (impl_inRange_c x lo hi) hv ho (by simp) hK
theorem impl_count_c (x : Int)  : T 56 [i6 x] [] (i6 (partsF x)) ([]) := by
  refine semT' (S := S0) hm impl_count_ok (Nat.le_of_ble_eq_true rfl) ?_
  unfold impl_count; dsimp only
  simp
  repeat (any_goals (first | (refine br_intro' (fun h => ?_) (fun h => ?_) <;> (have h0 := h) <;> (try simp at h) <;> try simp [h0, h])))
  all_goals exact LeV.eq (by simp [partsF, *]) rfl
theorem impl_count_call {x : Int}  {S : FuncId → Bool} {H : List Blk} {K : A → Dl → Prop} (hS : S 56 = false) (hK : K (i6 (partsF x)) (.news [])) : @WCall' Go.Proofs.Try.prog S 56 [i6 x] H ⟨K⟩ :=
  WCall_pure hS (impl_count_c x) (by simp) (by simp) (by simp) hK
theorem impl_count_k {x : Int}  {S : FuncId → Bool} {H : List Blk} {K : A → Dl → Prop} {zs : List A} (hS : S 56 = false) (hv : viewL (viewA 8 H) zs = some [i6 x]) (ho : noOwns zs = true ∨ nosl (i6 (partsF x)) = true) (hK : K (i6 (partsF x)) (.news [])) : @WCall' Go.Proofs.Try.prog S 56 zs H ⟨K⟩ :=
  WCall_pure hS (impl_count_c x) hv ho (by simp) hK
theorem impl_nodeOk_c (n : Nd) (many : Int) (h1 : 0 ≤ many) (h2 : many < 9223372036854775808) : T 49 [aN n, i6 many] [] (.bool (rightF n many)) ([]) := by
  refine semT' (S := S0) hm impl_nodeOk_ok (Nat.le_of_ble_eq_true rfl) ?_
  unfold impl_nodeOk; dsimp only
  have hw : IntKind.i64.wrap (many - 1) = many - 1 := wrap64 (by omega) (by omega)
  simp [hw]
  repeat (any_goals (first | (refine br_intro' (fun h => ?_) (fun h => ?_) <;> (have h0 := h) <;> (try simp at h) <;> try simp [h0, h, hw]) | (refine impl_count_call rfl ?_; simp [hw]) | (refine impl_inRange_call rfl ?_; simp [hw])))
  all_goals exact LeV.ro rfl rfl (by first | (simp [rightF, *]; done) | (simp only [viewA, rightF]; simp only [if_neg ‹¬partsF n.k = 0›, if_neg ‹¬partsF n.k = 1›, if_pos ‹partsF n.k = 2›]; simp [*]))
theorem impl_nodeOk_call {n : Nd} {many : Int} (h1 : 0 ≤ many) (h2 : many < 9223372036854775808) {S : FuncId → Bool} {H : List Blk} {K : A → Dl → Prop} (hS : S 49 = false) (hK : K (.bool (rightF n many)) (.news [])) : @WCall' Go.Proofs.Try.prog S 49 [aN n, i6 many] H ⟨K⟩ :=
  WCall_pure hS (impl_nodeOk_c n many h1 h2) (by simp) (by simp) (by simp) hK
theorem impl_nodeOk_k {n : Nd} {many : Int} (h1 : 0 ≤ many) (h2 : many < 9223372036854775808) {S : FuncId → Bool} {H : List Blk} {K : A → Dl → Prop} {zs : List A} (hS : S 49 = false) (hv : viewL (viewA 8 H) zs = some [aN n, i6 many]) (ho : noOwns zs = true ∨ nosl (.bool (rightF n many)) = true) (hK : K (.bool (rightF n many)) (.news [])) : @WCall' Go.Proofs.Try.prog S 49 zs H ⟨K⟩ :=
  WCall_pure hS (impl_nodeOk_c n many h1 h2) hv ho (by simp) hK
def keyN (n : Nd) : List Int := [n.k, n.a, n.b]
theorem keyN_inj {x y : Nd} : keyN x = keyN y ↔ x = y := by rw [Nd_eq]; simp [keyN]
@[simp] theorem keyN_len (n : Nd) : (keyN n).length = 3 := rfl
def mk1 (xs : List Nd) : List (List Int × Int) := xs.map fun n => (keyN n, 1)
theorem mcnt_mk1 (n : Nd) : ∀ (xs : List Nd), mcnt (mk1 xs) (keyN n) = if n ∈ xs then 1 else 0
  | [] => rfl
  | x :: xs => by
    by_cases h : n = x
    · subst h; simp [mk1, mcnt]
    · have hk : ¬ keyN n = keyN x := fun e => h (keyN_inj.1 e)
      have := mcnt_mk1 n xs
      simp only [mk1] at this
      simp [mk1, mcnt, hk, h, this]
theorem mcnt_cons (ks : List Int) (v : Int) (l : List (List Int × Int)) : mcnt ((ks, v) :: l) ks = v := by simp [mcnt]
theorem poolF_false {ns : List Nd} {j : Nat} (h : j < ns.length) (g : rightF ns[j] j = false ∨ ns[j] ∈ ns.take j) (hl : poolF ns = okFrom ns j) : poolF ns = false := by
  rw [hl, okFrom_at h]
  rcases g with g | g
  · simp [g]
  · have := findF_first ns j 0 h (Int.le_refl 0)
    rw [Int.zero_add] at this
    have e : decide (findF ns ns[j] 0 = j) = false := by simpa using fun e => this.1 e g
    simp [e]
theorem poolF_true {ns : List Nd} {j : Nat} (h : j < ns.length) (g : rightF ns[j] j = true) (k : ns[j] ∉ ns.take j) (hl : poolF ns = okFrom ns j) : poolF ns = okFrom ns (j + 1) := by
  have := findF_first ns j 0 h (Int.le_refl 0)
  rw [Int.zero_add] at this
  rw [hl, okFrom_at h, g]
  simp [this.2 k]
theorem key_fold (n : Nd) : [n.k, n.a, n.b] = keyN n := rfl
theorem impl_PoolOk_c (ns : List Nd)  : T 26 [aP ns] [] (.bool (poolF ns)) ([]) := by
  refine semT' (S := S0) hm impl_PoolOk_ok (Nat.le_of_ble_eq_true rfl) ?_
  unfold impl_PoolOk; dsimp only
  simp
  refine br_intro' (fun h => ?_) (fun h => ?_) <;> (have h0 := h) <;> (try simp at h) <;> try simp [h0, h]
  · exact LeV.ro rfl rfl (by simp [poolF]; omega)
  refine WLoop_fam (fun j : Nat => [(3, A.mref 1 0), (12, A.sl ns.length (enc ns)), (13, i6 ns.length), (14, i6 j)]) (fun j => [⟨0, false, 1, [A.sl ns.length (enc ns)], none⟩, ⟨0, false, 1, [], some (true, mk1 (ns.take j).reverse)⟩]) (fun j => ns.length - j)
    (fun j => j ≤ ns.length ∧ poolF ns = okFrom ns j) ?_ 0 ⟨Nat.zero_le _, by simp [poolF]; omega⟩
  intro j ⟨hj, hf⟩ ih
  simp
  refine br_intro' (fun h => ?_) (fun h => ?_) <;> (have h0 := h) <;> (try simp at h) <;> try simp [h0, h]
  · obtain ⟨r, hr⟩ := enc_at h
    have h3 : 3 ≤ ns.length * 3 - j * 3 := by omega
    have hw : IntKind.i64.wrap ((j : Int) + 1) = j + 1 := wrap64 (by omega) (by omega)
    have h' := h
    simp [h3, hr, h', key_fold]
    have w1 : IntKind.i64.wrap 1 = 1 := wrap64 (by omega) (by omega)
    have w2 : IntKind.i64.wrap 2 = 2 := wrap64 (by omega) (by omega)
    first | (refine ck_intro' (by kernel_rfl) ?_; try simp [mcnt_cons, key_fold]) | skip
    by_cases hm : ns[j] ∈ ns.take j
    · have hc : mcnt (mk1 (ns.take j).reverse) (keyN ns[j]) = 1 := by simp [mcnt_mk1, hm]
      have hp := poolF_false h' (.inr hm) hf
      simp [hc, w2, mcnt_cons]
      exact LeV.ro rfl rfl (by rw [hp]; rfl)
    · have hc : mcnt (mk1 (ns.take j).reverse) (keyN ns[j]) = 0 := by simp [mcnt_mk1, hm]
      simp [hc, w1, mcnt_cons]
      refine impl_nodeOk_call (n := ns[j]) (by omega) (by omega) rfl ?_; simp
      refine br_intro' (fun g => ?_) (fun g => ?_) <;> simp [g]
      · rw [hw]
        have hk : (keyN ns[j], (1 : Int)) :: mk1 (ns.take j).reverse = mk1 (ns.take (j + 1)).reverse := by
          rw [List.take_succ_eq_append_getElem h', List.reverse_append]; rfl
        refine WLoop_drop [⟨0, false, 1, [A.sl ns.length (enc ns)], none⟩, ⟨0, false, 1, [], some (true, mk1 (ns.take (j + 1)).reverse)⟩] [_] (by rw [← hk]; rfl) (by simp) (by simp) (by simp) ?_
        exact ih (j + 1) ⟨h', poolF_true h' g hm hf⟩ (by omega)
      · exact LeV.ro rfl rfl (by rw [poolF_false h' (.inl g) hf]; rfl)
  · exact LeV.ro rfl rfl (by simp [hf, okFrom_end h])
theorem impl_PoolOk_call {ns : List Nd}  {S : FuncId → Bool} {H : List Blk} {K : A → Dl → Prop} (hS : S 26 = false) (hK : K (.bool (poolF ns)) (.news [])) : @WCall' Go.Proofs.Try.prog S 26 [aP ns] H ⟨K⟩ :=
  WCall_pure hS (impl_PoolOk_c ns) (by simp) (by simp) (by simp) hK
theorem impl_PoolOk_k {ns : List Nd}  {S : FuncId → Bool} {H : List Blk} {K : A → Dl → Prop} {zs : List A} (hS : S 26 = false) (hv : viewL (viewA 8 H) zs = some [aP ns]) (ho : noOwns zs = true ∨ nosl (.bool (poolF ns)) = true) (hK : K (.bool (poolF ns)) (.news [])) : @WCall' Go.Proofs.Try.prog S 26 zs H ⟨K⟩ :=
  WCall_pure hS (impl_PoolOk_c ns) hv ho (by simp) hK
end Go.Proofs.Ytpohfpnlepmebaa.C

set_option linter.unusedVariables false
set_option linter.unusedSimpArgs false
namespace Go.Proofs.Ytpohfpnlepmebaa.C
open Go.Sym Go.Proofs.Ytpohfpnlepmebaa.I
abbrev pblk (ns : List Nd) : Blk := ⟨ns.length, decide (ns.length = 0), 3, enc ns, none⟩
abbrev pref (b : Nat) (ns : List Nd) : A := .ref b ns.length 0 ns.length
@[simp] theorem enc_take (ns : List Nd) : (enc ns).take (ns.length * 3) = enc ns := List.take_of_length_le (by simp)
@[simp] theorem enc_nil : enc [] = [] := rfl
theorem enc_snoc (ns : List Nd) (n : Nd) : enc (ns ++ [n]) = enc ns ++ [i6 n.k, i6 n.a, i6 n.b] := by simp [enc, encN]
mutual
theorem inA_mono {n m : Nat} (h : n ≤ m) : ∀ (x : A), inA n x = true → inA m x = true
  | .bool _, _ => rfl
  | .int _ _, _ => rfl
  | .str _, _ => rfl
  | .nil, _ => rfl
  | .nilp, _ => rfl
  | .ub, _ => rfl
  | .err _, _ => rfl
  | .nilf, _ => rfl
  | .stamp _ _ _ _, g => by simp [inA] at g ⊢; omega
  | .ref b _ _ _, g => by simp [inA] at g ⊢; omega
  | .ptr b _ _, g => by simp [inA] at g ⊢; omega
  | .mref b _, g => by simp [inA] at g ⊢; omega
  | .sl _ cs, g => by simp only [inA] at g ⊢; first | exact g | exact inAs_mono h cs g
  | .pt cs, g => by simp only [inA] at g ⊢; first | exact g | exact inAs_mono h cs g
  | .fn _ cs, g => by simp only [inA] at g ⊢; exact inAs_mono h cs g
  | .agg cs, g => by simp only [inA] at g ⊢; exact inAs_mono h cs g
  | .tup cs, g => by simp only [inA] at g ⊢; exact inAs_mono h cs g
theorem inAs_mono {n m : Nat} (h : n ≤ m) : ∀ (xs : List A), inAs n xs = true → inAs m xs = true
  | [], _ => rfl
  | x :: xs, g => by
    simp only [inAs, Bool.and_eq_true] at g ⊢
    exact ⟨inA_mono h x g.1, inAs_mono h xs g.2⟩
end
theorem Closed1_mono {n m : Nat} (h : n ≤ m) : ∀ (H : List Blk), Closed1 n H = true → Closed1 m H = true
  | [], _ => rfl
  | k :: H, g => by
    simp only [Closed1_cons, Bool.and_eq_true] at g ⊢
    exact ⟨inAs_mono h _ g.1, Closed1_mono h H g.2⟩
theorem Closed1_app {n : Nat} {T : List Blk} (g : Closed1 n T = true) : ∀ (H : List Blk), Closed1 n H = true → Closed1 n (H ++ T) = true
  | [], _ => g
  | k :: H, h => by
    simp only [List.cons_append, Closed1_cons, Bool.and_eq_true] at h ⊢
    exact ⟨h.1, Closed1_app g H h.2⟩
theorem Closed1_more {H T : List Blk} (h : Closed1 H.length H = true) (g : Closed1 (H.length + T.length) T = true) : Closed1 (H ++ T).length (H ++ T) = true := by
  rw [List.length_append]
  exact Closed1_app g _ (Closed1_mono (by omega) _ h)
theorem Closed1_box {H : List Blk} {k : Blk} (h : Closed1 H.length H = true) (g : inAs (H.length + 1) k.cs = true) : Closed1 (H ++ [k]).length (H ++ [k]) = true := by
  rw [List.length_append]
  exact Closed1_app (by simpa using g) _ (Closed1_mono (by simp) _ h)
theorem slices_Clone_Node_c (ns : List Nd) (hl : ns.length ≤ 4294967296) : T 51 [.sl ns.length (enc ns)] [] (pref 0 ns) ([pblk ns]) := by
  refine semT' (S := S0) hm slices_Clone_Node_ok (Nat.le_of_ble_eq_true rfl) ?_
  unfold slices_Clone_Node; dsimp only
  simp
  have h1 : ((ns.length : Int)) * 24 ≤ 17592186044416 := by omega
  have h2 : (ns.length : Int) ≤ 4294967296 := by omega
  refine br_intro' (fun h => ?_) (fun h => ?_)
  · have h0 : ns = [] := by simpa using h
    subst h0
    simp
    exact LeV.tell [none] (by simp) (by simp [TellB]) (by simp [Tell])
  · have h0 : ns ≠ [] := by simpa using h
    simp [h0]
    refine ck_intro' (by omega) ?_; simp [h0]
    exact LeV.tell [some 0] (by simp) (by simp [TellB, Tells, h0]) (by simp [Tell])
theorem slices_Clone_Node_k {ns : List Nd} (hl : ns.length ≤ 4294967296) {S : FuncId → Bool} {H : List Blk} {K : A → Dl → Prop} {zs : List A} (hS : S 51 = false) (hv : viewL (viewA 8 H) zs = some [.sl ns.length (enc ns)]) (ho : noOwns zs = true ∨ nosl (pref 0 ns) = true ∧ noslBlks ([pblk ns]) = true) (hK : K (shiftA H.length (pref 0 ns)) (.news (([pblk ns]).map (shiftB H.length)))) : @WCall' Go.Proofs.Try.prog S 51 zs H ⟨K⟩ :=
  WCall_ro' hS hv (slices_Clone_Node_c ns hl) rfl ho hK
theorem spec_l1Copy_c (ns : List Nd) (hl : ns.length ≤ 4294967296) : T 18 [aP ns] [] (.agg [pref 0 ns]) ([pblk ns]) := by
  refine semT' (S := S0) hm spec_l1Copy_ok (Nat.le_of_ble_eq_true rfl) ?_
  unfold spec_l1Copy; dsimp only
  have h1 : ((ns.length : Int)) * 24 ≤ 17592186044416 := by omega
  have h2 : (ns.length : Int) ≤ 4294967296 := by omega
  by_cases h0 : ns = []
  · subst h0
    simp
    first | (refine LeV.tell [none] ?_ ?_ ?_ <;> (simp; done)) | (refine LeV.tell [some 0] ?_ ?_ ?_ <;> (simp; done)) | (refine LeV.tell [some 1] ?_ ?_ ?_ <;> (simp; done)) | (refine LeV.tell [some 2] ?_ ?_ ?_ <;> (simp; done)) | (refine LeV.tell [some 3] ?_ ?_ ?_ <;> (simp; done)) | (refine LeV.tell [some 4] ?_ ?_ ?_ <;> (simp; done)) | (refine LeV.tell [some 5] ?_ ?_ ?_ <;> (simp; done)) | (refine LeV.tell [some 6] ?_ ?_ ?_ <;> (simp; done)) | (refine LeV.tell [some 7] ?_ ?_ ?_ <;> (simp; done)) | (refine LeV.tell [some 8] ?_ ?_ ?_ <;> (simp; done)) | (refine LeV.tell [some 9] ?_ ?_ ?_ <;> (simp; done)) | (refine LeV.tell [some 10] ?_ ?_ ?_ <;> (simp; done)) | (refine LeV.tell [some 11] ?_ ?_ ?_ <;> (simp; done)) | (refine LeV.tell [some 12] ?_ ?_ ?_ <;> (simp; done)) | (refine LeV.tell [some 13] ?_ ?_ ?_ <;> (simp; done)) | (refine LeV.tell [some 14] ?_ ?_ ?_ <;> (simp; done)) | (refine LeV.tell [some 15] ?_ ?_ ?_ <;> (simp; done))
  · simp [h0]
    refine ck_intro' (by omega) ?_; simp [h0]
    first | (refine LeV.tell [none] ?_ ?_ ?_ <;> (simp [h0]; done)) | (refine LeV.tell [some 0] ?_ ?_ ?_ <;> (simp [h0]; done)) | (refine LeV.tell [some 1] ?_ ?_ ?_ <;> (simp [h0]; done)) | (refine LeV.tell [some 2] ?_ ?_ ?_ <;> (simp [h0]; done)) | (refine LeV.tell [some 3] ?_ ?_ ?_ <;> (simp [h0]; done)) | (refine LeV.tell [some 4] ?_ ?_ ?_ <;> (simp [h0]; done)) | (refine LeV.tell [some 5] ?_ ?_ ?_ <;> (simp [h0]; done)) | (refine LeV.tell [some 6] ?_ ?_ ?_ <;> (simp [h0]; done)) | (refine LeV.tell [some 7] ?_ ?_ ?_ <;> (simp [h0]; done)) | (refine LeV.tell [some 8] ?_ ?_ ?_ <;> (simp [h0]; done)) | (refine LeV.tell [some 9] ?_ ?_ ?_ <;> (simp [h0]; done)) | (refine LeV.tell [some 10] ?_ ?_ ?_ <;> (simp [h0]; done)) | (refine LeV.tell [some 11] ?_ ?_ ?_ <;> (simp [h0]; done)) | (refine LeV.tell [some 12] ?_ ?_ ?_ <;> (simp [h0]; done)) | (refine LeV.tell [some 13] ?_ ?_ ?_ <;> (simp [h0]; done)) | (refine LeV.tell [some 14] ?_ ?_ ?_ <;> (simp [h0]; done)) | (refine LeV.tell [some 15] ?_ ?_ ?_ <;> (simp [h0]; done))
theorem spec_l1Copy_k {ns : List Nd} (hl : ns.length ≤ 4294967296) {S : FuncId → Bool} {H : List Blk} {K : A → Dl → Prop} {zs : List A} (hS : S 18 = false) (hv : viewL (viewA 8 H) zs = some [aP ns]) (ho : noOwns zs = true ∨ nosl (.agg [pref 0 ns]) = true ∧ noslBlks ([pblk ns]) = true) (hK : K (shiftA H.length (.agg [pref 0 ns])) (.news (([pblk ns]).map (shiftB H.length)))) : @WCall' Go.Proofs.Try.prog S 18 zs H ⟨K⟩ :=
  WCall_ro' hS hv (spec_l1Copy_c ns hl) rfl ho hK
theorem impl_copyPool_c (ns : List Nd) (hl : ns.length ≤ 4294967296) : T 29 [aP ns] [] (.agg [pref 0 ns]) ([pblk ns]) := by
  refine semT' (S := S0) hm impl_copyPool_ok (Nat.le_of_ble_eq_true rfl) ?_
  unfold impl_copyPool; dsimp only
  simp
  refine slices_Clone_Node_k (ns := ns) hl rfl (by simp) (by simp [noslBlks]) ?_; simp [shiftB]
  exact LeV.tell [some 2] (by simp) (by simp) (by simp)
theorem impl_copyPool_k {ns : List Nd} (hl : ns.length ≤ 4294967296) {S : FuncId → Bool} {H : List Blk} {K : A → Dl → Prop} {zs : List A} (hS : S 29 = false) (hv : viewL (viewA 8 H) zs = some [aP ns]) (ho : noOwns zs = true ∨ nosl (.agg [pref 0 ns]) = true ∧ noslBlks ([pblk ns]) = true) (hK : K (shiftA H.length (.agg [pref 0 ns])) (.news (([pblk ns]).map (shiftB H.length)))) : @WCall' Go.Proofs.Try.prog S 29 zs H ⟨K⟩ :=
  WCall_ro' hS hv (impl_copyPool_c ns hl) rfl ho hK
theorem slices_Index_Node_c (ns : List Nd) (n : Nd) (hl : ns.length < 9223372036854775807) : T 61 [.sl ns.length (enc ns), aN n] [] (i6 (findF ns n 0)) ([]) := by
  refine semT' (S := S0) hm slices_Index_Node_ok (Nat.le_of_ble_eq_true rfl) ?_
  unfold slices_Index_Node; dsimp only
  simp
  refine WLoop_fam (fun j : Nat => [(0, A.sl ns.length (enc ns)), (3, A.ptr 0 0 0), (7, i6 ns.length), (8, i6 j)]) (fun _ => [⟨0, false, 1, [i6 n.k, i6 n.a, i6 n.b], none⟩]) (fun j => ns.length - j)
    (fun j => j ≤ ns.length ∧ findF ns n 0 = findF (ns.drop j) n j) ?_ 0 ⟨Nat.zero_le _, rfl⟩
  intro j ⟨hj, hf⟩ ih
  simp
  refine br_intro' (fun h => ?_) (fun h => ?_) <;> (have h0 := h) <;> (try simp at h) <;> try simp [h0, h]
  · obtain ⟨r, hr⟩ := enc_at h
    have h3 : 3 ≤ ns.length * 3 - j * 3 := by omega
    have hd : ns.drop j = ns[j] :: ns.drop (j + 1) := List.drop_eq_getElem_cons h
    have hw : IntKind.i64.wrap ((j : Int) + 1) = j + 1 := wrap64 (by omega) (by omega)
    have h' := h
    simp [h3, hr, h']
    first | (refine ck_intro' (by kernel_rfl) ?_; try simp) | skip
    refine br_intro' (fun h => ?_) (fun h => ?_) <;> (have h0 := h) <;> (try simp at h) <;> try simp [h0, h, hr]
    · exact LeV.ro rfl rfl (by rw [hf, hd, findF, if_pos (by rw [Nd_eq]; simp [h])]; rfl)
    · rw [hw]
      refine ih (j + 1) ⟨h', ?_⟩ (by omega)
      rw [hf, hd, findF, if_neg (by rw [Nd_eq]; rintro ⟨a, b, c⟩; exact h a.symm b.symm c.symm)]
      rfl
  · exact LeV.ro rfl rfl (by simp [hf, findF, List.drop_of_length_le h])
theorem slices_Index_Node_call {ns : List Nd} {n : Nd} (hl : ns.length < 9223372036854775807) {S : FuncId → Bool} {H : List Blk} {K : A → Dl → Prop} (hS : S 61 = false) (hK : K (i6 (findF ns n 0)) (.news [])) : @WCall' Go.Proofs.Try.prog S 61 [.sl ns.length (enc ns), aN n] H ⟨K⟩ :=
  WCall_pure hS (slices_Index_Node_c ns n hl) (by simp) (by simp) (by simp) hK
theorem slices_Index_Node_k {ns : List Nd} {n : Nd} (hl : ns.length < 9223372036854775807) {S : FuncId → Bool} {H : List Blk} {K : A → Dl → Prop} {zs : List A} (hS : S 61 = false) (hv : viewL (viewA 8 H) zs = some [.sl ns.length (enc ns), aN n]) (ho : noOwns zs = true ∨ nosl (i6 (findF ns n 0)) = true) (hK : K (i6 (findF ns n 0)) (.news [])) : @WCall' Go.Proofs.Try.prog S 61 zs H ⟨K⟩ :=
  WCall_pure hS (slices_Index_Node_c ns n hl) hv ho (by simp) hK
theorem impl_Pool_find_c (ns : List Nd) (r : List A) (n : Nd) (hl : ns.length < 9223372036854775807) : T 58 [.pt (.sl ns.length (enc ns) :: r), aN n] [] (i6 (findF ns n 0)) ([]) := by
  refine semT' (S := S0) hm impl_Pool_find_ok (Nat.le_of_ble_eq_true rfl) ?_
  unfold impl_Pool_find; dsimp only
  simp
  refine slices_Index_Node_k (ns := ns) (n := n) hl rfl (by simp) (by simp [noslBlks]) ?_; simp [shiftB]
  first | (refine ck_intro' (by kernel_rfl) ?_; try simp) | skip
  exact LeV.ro rfl rfl rfl
theorem impl_Pool_find_k {ns : List Nd} {r : List A} {n : Nd} (hl : ns.length < 9223372036854775807) {S : FuncId → Bool} {H : List Blk} {K : A → Dl → Prop} {zs : List A} (hS : S 58 = false) (hv : viewL (viewA 8 H) zs = some [.pt (.sl ns.length (enc ns) :: r), aN n]) (ho : noOwns zs = true ∨ nosl (i6 (findF ns n 0)) = true) (hK : K (i6 (findF ns n 0)) (.news [])) : @WCall' Go.Proofs.Try.prog S 58 zs H ⟨K⟩ :=
  WCall_pure hS (impl_Pool_find_c ns r n hl) hv ho (by simp) hK
/-- A node as it stands: a shared one with the lesser part first. -/
def normN (n : Nd) : Nd := if n.k = 8 then ⟨8, if n.b < n.a then n.b else n.a, if n.a < n.b then n.b else n.a⟩ else n
/-- What adding a node to a right pool comes to. -/
def addF (ns : List Nd) (n : Nd) : List Nd × Int :=
  if rightF (normN n) ns.length = false then (ns, -1)
  else if 0 ≤ findF ns (normN n) 0 then (ns, findF ns (normN n) 0)
  else if 500 ≤ ns.length then (ns, -1)
  else (ns ++ [normN n], ns.length)
/-- A heap in which a pool stands: its row nb, and what names it at place off of row b. -/
def pset (H : List Blk) (b off nb vb eb : Nat) (cb : List A) (ns : List Nd) : List Blk := (H.set nb (pblk ns)).set b ⟨vb, false, eb, cb.set off (pref nb ns), none⟩
structure PIn (H : List Blk) (b off nb : Nat) (cb : List A) : Prop where
  blt : b < H.length
  nlt : nb < H.length
  ne : b ≠ nb
  olt : off < cb.length
  cl : Closed1 H.length H = true
  inc : inAs H.length cb = true
  rest : ∃ r, ∀ G : List Blk, (∀ q, q < H.length → q ≠ b → q ≠ nb → G[q]? = H[q]?) → viewL (viewA 7 G) (cb.drop (off + 1)) = some r
@[simp] theorem pset_len (H : List Blk) (b off nb vb eb : Nat) (cb : List A) (ns : List Nd) : (pset H b off nb vb eb cb ns).length = H.length := by simp [pset]
section
variable {H : List Blk} {b off nb : Nat} {cb : List A} (h : PIn H b off nb cb) (vb eb : Nat) (ns : List Nd)
include h
theorem PIn.at_b : (pset H b off nb vb eb cb ns)[b]? = some ⟨vb, false, eb, cb.set off (pref nb ns), none⟩ := by simp [pset, h.blt]
theorem PIn.at_nb : (pset H b off nb vb eb cb ns)[nb]? = some (pblk ns) := by simp [pset, h.ne, h.nlt]
theorem PIn.closed : Closed1 H.length (pset H b off nb vb eb cb ns) = true := by
  refine Closed1_set ?_ _ _ (Closed1_set (by simp) _ _ h.cl)
  exact inAs_set (by simpa using h.nlt) _ _ h.inc
theorem PIn.set (ns' : List Nd) : ((pset H b off nb vb eb cb ns).set nb (pblk ns')).set b ⟨vb, false, eb, (cb.set off (pref nb ns)).set off (pref nb ns'), none⟩ = pset H b off nb vb eb cb ns' := by
  simp only [pset, List.set_set]
  rw [List.set_comm _ _ h.ne, List.set_set, List.set_set]
end
theorem impl_Pool_add_m (H : List Blk) (b off nb vb eb : Nat) (cb : List A) (ns : List Nd) (k a c : Int) (h : PIn H b off nb cb) (hl : ns.length ≤ 500) : T 53 [.ptr b vb off, i6 k, i6 a, i6 c] (pset H b off nb vb eb cb ns) (i6 (addF ns ⟨k, a, c⟩).2) (pset H b off nb vb eb cb (addF ns ⟨k, a, c⟩).1) := by
  refine semT' (S := S0) hm impl_Pool_add_ok (Nat.le_of_ble_eq_true rfl) ?_
  unfold impl_Pool_add; dsimp only
  have gb := h.at_b vb eb ns
  have gn := h.at_nb vb eb ns
  have hcl := h.closed vb eb ns
  have hset := h.set vb eb ns
  have hbl : b < (pset H b off nb vb eb cb ns).length := by simpa using h.blt
  have hnl : nb < (pset H b off nb vb eb cb ns).length := by simpa using h.nlt
  have hlen : (pset H b off nb vb eb cb ns).length = H.length := by simp
  rw [← hlen] at hcl
  obtain ⟨rr, hrr0⟩ := h.rest
  have hrr1 : ∀ T : List Blk, viewL (viewA 7 (pset H b off nb vb eb cb ns ++ T)) (cb.drop (off + 1)) = some rr := fun T => hrr0 _ fun q hq h1 h2 => by
    rw [get_left (by rw [hlen]; exact hq)]
    simp only [pset]
    rw [List.getElem?_set_ne (Ne.symm h1), List.getElem?_set_ne (Ne.symm h2)]
  generalize hG : pset H b off nb vb eb cb ns = G at gb gn hcl hset hbl hnl hlen hrr1 ⊢
  have hrr := hrr1
  have hd := set_drop cb off (pref nb ns) h.olt
  simp
  have gl : ∀ T : List Blk, (G ++ T)[b]? = _ := fun T => (get_left hbl).trans gb
  have gm : ∀ T : List Blk, (G ++ T)[nb]? = _ := fun T => (get_left hnl).trans gn
  have sm : ∀ (T : List Blk) x, (G ++ T).set nb x = _ := fun T x => set_left hnl x
  have sb : ∀ (T : List Blk) x y, (G.set nb x ++ T).set b y = _ := fun T x y => set_left (by simpa using hbl) y
  have gs : ∀ (T : List Blk) x, (G.set nb x ++ T)[b]? = _ := fun T x => (get_left (by simpa using hbl)).trans ((List.getElem?_set_ne h.ne.symm).trans gb)
  have g2 : ∀ (T : List Blk) x y, ((G.set nb x).set b y ++ T)[b]? = some y := fun T x y => (get_left (by simpa using hbl)).trans (by simp [hbl])
  have hd2 : ∀ p p' : A, ((cb.set off p).set off p').drop off = p' :: cb.drop (off + 1) := fun p p' => by rw [List.set_set]; exact set_drop cb off p' h.olt
  have hw : IntKind.i64.wrap (ns.length : Int) = ns.length := wrap64 (by omega) (by omega)
  have fin0 : ∀ (t : Int) (T : List Blk), addF ns ⟨k, a, c⟩ = (ns, t) → LeV G.length (i6 t) (G ++ T) (i6 (addF ns ⟨k, a, c⟩).2) (pset H b off nb vb eb cb (addF ns ⟨k, a, c⟩).1) := by
    intro t T e
    rw [e, hG]
    exact LeV.drop (Nat.le_refl _) hcl (by simp)
  have fin1 : ∀ (n : Nd) (T : List Blk), addF ns ⟨k, a, c⟩ = (ns ++ [n], (ns.length : Int)) → LeV G.length (i6 ns.length) ((G.set nb ⟨ns.length + 1, false, 3, enc ns ++ [i6 n.k, i6 n.a, i6 n.b], none⟩).set b ⟨vb, false, eb, cb.set off (.ref nb (ns.length + 1) 0 (ns.length + 1)), none⟩ ++ T) (i6 (addF ns ⟨k, a, c⟩).2) (pset H b off nb vb eb cb (addF ns ⟨k, a, c⟩).1) := by
    intro n T e
    have hs := hset (ns ++ [n])
    have hp : pblk (ns ++ [n]) = ⟨ns.length + 1, false, 3, enc ns ++ [i6 n.k, i6 n.a, i6 n.b], none⟩ := by simp [pblk, enc_snoc]
    have hq : pref nb (ns ++ [n]) = .ref nb (ns.length + 1) 0 (ns.length + 1) := by simp [pref]
    rw [List.set_set, hp, hq] at hs
    rw [e, hs]
    exact LeV.drop (by rw [pset_len, hlen]; exact Nat.le_refl _) (by rw [pset_len]; exact h.closed vb eb _) (by simp)
  refine br_intro' (fun hk => ?_) (fun hk => ?_) <;> simp at hk <;> simp [hk]
  · generalize hx : (if c < a then c else a) = x
    generalize hy : (if a < c then c else a) = y
    have hN : normN ⟨k, a, c⟩ = ⟨8, x, y⟩ := by simp [normN, hk, hx, hy]
    simp [gl, gm, hd]
    refine impl_nodeOk_call (n := ⟨8, x, y⟩) (by omega) (by omega) rfl ?_; simp
    first | (refine ck_intro' (by kernel_rfl) ?_; try simp) | skip
    refine br_intro' (fun g => ?_) (fun g => ?_) <;> simp [g]
    · refine impl_Pool_find_k (ns := ns) (r := rr) (n := ⟨8, x, y⟩) (by omega) rfl (by simp [gl, gm, hd, hrr]) (by simp) ?_; simp
      refine br_intro' (fun f => ?_) (fun f => ?_) <;> (have f0 := f) <;> simp at f <;> simp [f, gl, gm, hd]
      · exact fin0 _ _ (by simp only [addF, hN, g]; rw [if_neg (by simp), if_pos f])
      · refine br_intro' (fun q => ?_) (fun q => ?_) <;> simp at q <;> simp [q, gl, gm, hd]
        · exact fin0 _ _ (by simp only [addF, hN, g]; rw [if_neg (by simp), if_neg (by omega), if_pos (by omega)])
        · refine ck_intro' (by omega) ?_; simp [gl, gm, hd, sm, sb, gs]
          refine ck_intro' h.olt ?_; simp [gl, gm, hd, sm, sb, gs]
          first | (refine ck_intro' (by kernel_rfl) ?_; try simp [gl, gm, hd, sm, sb, gs, g2, h.olt, hw]) | skip
          exact fin1 ⟨8, x, y⟩ _ (by simp only [addF, hN, g]; rw [if_neg (by simp), if_neg (by omega), if_neg (by omega)])
    · exact fin0 _ _ (by simp [addF, hN, g])
  · have hN : normN ⟨k, a, c⟩ = ⟨k, a, c⟩ := by simp [normN, hk]
    simp [gl, gm, hd]
    refine impl_nodeOk_call (n := ⟨k, a, c⟩) (by omega) (by omega) rfl ?_; simp
    first | (refine ck_intro' (by kernel_rfl) ?_; try simp) | skip
    refine br_intro' (fun g => ?_) (fun g => ?_) <;> simp [g]
    · refine impl_Pool_find_k (ns := ns) (r := rr) (n := ⟨k, a, c⟩) (by omega) rfl (by simp [gl, gm, hd, hrr]) (by simp) ?_; simp
      refine br_intro' (fun f => ?_) (fun f => ?_) <;> (have f0 := f) <;> simp at f <;> simp [f, gl, gm, hd]
      · exact fin0 _ _ (by simp only [addF, hN, g]; rw [if_neg (by simp), if_pos f])
      · refine br_intro' (fun q => ?_) (fun q => ?_) <;> simp at q <;> simp [q, gl, gm, hd]
        · exact fin0 _ _ (by simp only [addF, hN, g]; rw [if_neg (by simp), if_neg (by omega), if_pos (by omega)])
        · refine ck_intro' (by omega) ?_; simp [gl, gm, hd, sm, sb, gs]
          refine ck_intro' h.olt ?_; simp [gl, gm, hd, sm, sb, gs]
          first | (refine ck_intro' (by kernel_rfl) ?_; try simp [gl, gm, hd, sm, sb, gs, g2, h.olt, hw]) | skip
          exact fin1 ⟨k, a, c⟩ _ (by simp only [addF, hN, g]; rw [if_neg (by simp), if_neg (by omega), if_neg (by omega)])
    · exact fin0 _ _ (by simp [addF, hN, g])
end Go.Proofs.Ytpohfpnlepmebaa.C

set_option linter.unusedVariables false
set_option linter.unusedSimpArgs false
namespace Go.Proofs.Ytpohfpnlepmebaa.C
open Go.Sym Go.Proofs.Ytpohfpnlepmebaa.I
theorem pset_pset {H : List Blk} {b off nb : Nat} {cb : List A} (h : PIn H b off nb cb) (vb eb : Nat) (ns ns' : List Nd) : pset (pset H b off nb vb eb cb ns) b off nb vb eb cb ns' = pset H b off nb vb eb cb ns' := by
  simp only [pset]
  rw [List.set_comm _ _ h.ne, List.set_set, List.set_set]
theorem pset_other {H : List Blk} {b off nb : Nat} {cb : List A} (vb eb : Nat) (ns : List Nd) {q : Nat} (h1 : q ≠ b) (h2 : q ≠ nb) : (pset H b off nb vb eb cb ns)[q]? = H[q]? := by
  simp only [pset]
  rw [List.getElem?_set_ne (Ne.symm h1), List.getElem?_set_ne (Ne.symm h2)]
theorem PIn.pset {H : List Blk} {b off nb : Nat} {cb : List A} (h : PIn H b off nb cb) (vb eb : Nat) (ns : List Nd) : PIn (C.pset H b off nb vb eb cb ns) b off nb cb :=
  ⟨by simpa using h.blt, by simpa using h.nlt, h.ne, h.olt, by simpa using h.closed vb eb ns, by simpa using h.inc, h.rest.imp fun r hr G hG => hr G fun q h0 h1 h2 => (hG q (by simpa using h0) h1 h2).trans (pset_other vb eb ns h1 h2)⟩
theorem addF_len (ns : List Nd) (n : Nd) (h : ns.length ≤ 500) : (addF ns n).1.length ≤ 500 := by
  unfold addF
  split
  · exact h
  · split
    · exact h
    · split
      · exact h
      · simp; omega
/-- A method that turns a pool, called where a pool stands. -/
theorem pool_call {f : FuncId} {S : FuncId → Bool} {G : List Blk} {K : A → Dl → Prop} (hS : S f = true) (b off nb vb eb : Nat) (cb : List A) (ns ns' : List Nd) {zs : List A} {r : A} (h : PIn G b off nb cb) (hG : pset G b off nb vb eb cb ns = G)
    (hf : T f zs (pset G b off nb vb eb cb ns) r (pset G b off nb vb eb cb ns')) (hK : K r (.full [nb, b] (pset G b off nb vb eb cb ns'))) : @WCall' Go.Proofs.Try.prog S f zs G ⟨K⟩ := by
  rw [hG] at hf
  refine WCall_t' hS [nb, b] hf (by simp) (fun q hq _ => ?_) hK
  simp at hq
  exact pset_other vb eb ns' hq.2 hq.1
theorem impl_Pool_name_m (H : List Blk) (b off nb vb eb : Nat) (cb : List A) (ns : List Nd) (x : Int) (h : PIn H b off nb cb) (hl : ns.length ≤ 500) : T 34 [.ptr b vb off, i6 x] (pset H b off nb vb eb cb ns) (i6 (addF ns ⟨1, x, 0⟩).2) (pset H b off nb vb eb cb (addF ns ⟨1, x, 0⟩).1) := by
  refine semT' (S := (fun f => [53].contains f)) hm impl_Pool_name_ok (Nat.le_of_ble_eq_true rfl) ?_
  unfold impl_Pool_name; dsimp only
  simp
  refine pool_call rfl b off nb vb eb cb ns (addF ns ⟨1, x, 0⟩).1 (h.pset vb eb ns) (pset_pset h vb eb ns ns) (by rw [pset_pset h, pset_pset h]; exact impl_Pool_add_m H b off nb vb eb cb ns 1 x 0 h hl) ?_
  simp [pset_pset h]
  exact LeV.refl _ _ _
/-- What a link's word comes to. -/
def sealF (ns : List Nd) (key seq t : Int) : List Nd × Int :=
  let p := addF ns ⟨1, IntKind.i64.wrap (20 + seq), 0⟩
  let q := addF p.1 ⟨2, p.2, t⟩
  addF q.1 ⟨3, q.2, key⟩
theorem sealF_len (ns : List Nd) (key seq t : Int) (h : ns.length ≤ 500) : (sealF ns key seq t).1.length ≤ 500 := addF_len _ _ (addF_len _ _ (addF_len _ _ h))
end Go.Proofs.Ytpohfpnlepmebaa.C

set_option linter.unusedVariables false
set_option linter.unusedSimpArgs false
namespace Go.Proofs.Ytpohfpnlepmebaa.C
open Go.Sym Go.Proofs.Ytpohfpnlepmebaa.I
def ints (xs : List Int) : List A := xs.map i6
@[simp] theorem ints_len (xs : List Int) : (ints xs).length = xs.length := List.length_map ..
@[simp] theorem ints_scals (xs : List Int) : scals (ints xs) = true := scals_map _ (fun _ => rfl) xs
@[simp] theorem ints_view (n : Nat) (H : List Blk) (xs : List Int) : viewL (viewA (n + 1) H) (ints xs) = some (ints xs) := viewL_scals _ (ints_scals xs)
@[simp] theorem ints_noOwns (xs : List Int) : noOwns (ints xs) = true := noOwns_scals _ (ints_scals xs)
@[simp] theorem ints_nosls (xs : List Int) : nosls (ints xs) = true := nosls_scals _ (ints_scals xs)
@[simp] theorem ints_shift (n : Nat) (xs : List Int) : shiftAs n (ints xs) = ints xs := shiftAs_scals _ (ints_scals xs)
@[simp] theorem ints_get (xs : List Int) (j : Nat) (h : j < (ints xs).length) : (ints xs)[j] = i6 (xs[j]'(by simpa using h)) := by simp [ints]
theorem ints_at {xs : List Int} {j : Nat} (h : j < xs.length) : (ints xs)[j]? = some (i6 xs[j]) := by simp [ints, h]
structure Lk where
  key : Int
  epoch : Int
  seq : Int
  over : Bool
  deriving DecidableEq
abbrev aL (l : Lk) : A := .agg [i6 l.key, i6 l.epoch, i6 l.seq, .bool l.over]
abbrev aI (xs : List Int) : A := .sl xs.length (ints xs)
structure St where
  pool : List Nd
  know : List Int
  out : Lk
  inn : Lk
  sent : List Int
  got : List Int
abbrev cS (s : St) : List A := [.sl s.pool.length (enc s.pool), aI s.know, i6 s.out.key, i6 s.out.epoch, i6 s.out.seq, .bool s.out.over, i6 s.inn.key, i6 s.inn.epoch, i6 s.inn.seq, .bool s.inn.over, aI s.sent, aI s.got]
abbrev aS (s : St) : A := .agg (cS s)
def hasF (m : Nat) (t : Int) : Bool := inF t 0 ((m : Int) - 1)
def linkF (m : Nat) (l : Lk) : Bool := hasF m l.key && inF l.epoch 0 20 && inF l.seq 0 20
def allF (p : Nat → Bool) (n j : Nat) : Bool := (List.range' j (n - j)).all p
theorem allF_at {p : Nat → Bool} {n j : Nat} (h : j < n) : allF p n j = (p j && allF p n (j + 1)) := by
  have : n - j = (n - (j + 1)) + 1 := by omega
  simp only [allF]
  rw [this, List.range'_succ, List.all_cons]
theorem allF_end {p : Nat → Bool} {n j : Nat} (h : n ≤ j) : allF p n j = true := by simp [allF, Nat.sub_eq_zero_of_le h]
def kn (m : Nat) (ks : List Int) (i : Nat) : Bool := hasF m (ks.getD i 0) && (decide (i = 0) || decide (ks.getD (i - 1) 0 < ks.getD i 0))
def knowF (m : Nat) (ks : List Int) : Bool := allF (kn m ks) ks.length 0 && decide (ks.length ≤ 200)
def kpF (ns : List Nd) (ks : List Int) : Bool := poolF ns && knowF ns.length ks
def lkF (ns : List Nd) (l : Lk) : Bool := poolF ns && linkF ns.length l
def termsF (m : Nat) (ks : List Int) : Bool := allF (fun i => hasF m (ks.getD i 0)) ks.length 0 && decide (ks.length ≤ 60)
theorem wrap_len {n : Nat} (h : n < 9223372036854775807) : IntKind.i64.wrap ((n : Int) - 1) = n - 1 := wrap64 (by omega) (by omega)
theorem wrap_succ {n : Nat} (h : n < 9223372036854775807) : IntKind.i64.wrap ((n : Int) + 1) = n + 1 := wrap64 (by omega) (by omega)

structure St.fit (s : St) : Prop where
  p : s.pool.length < 9223372036854775807
  k : s.know.length < 9223372036854775807
  t : s.sent.length < 9223372036854775807
  g : s.got.length < 9223372036854775807
def streamF (s : St) : Bool := kpF s.pool s.know && linkF s.pool.length s.out && linkF s.pool.length s.inn && termsF s.pool.length s.sent && termsF s.pool.length s.got
end Go.Proofs.Ytpohfpnlepmebaa.C

set_option linter.unusedVariables false
set_option linter.unusedSimpArgs false
namespace Go.Proofs.Ytpohfpnlepmebaa.C
open Go.Sym Go.Proofs.Ytpohfpnlepmebaa.I
@[simp] theorem enc_take3 (ns : List Nd) (a b c : A) : (enc ns ++ [a, b, c]).take ((ns.length + 1) * 3) = enc ns ++ [a, b, c] := List.take_of_length_le (by simp; omega)
@[simp] theorem enc_view3 (n : Nat) (H : List Blk) (ns : List Nd) (a b c : Int) : viewL (viewA (n + 1) H) (enc ns ++ [i6 a, i6 b, i6 c]) = some (enc ns ++ [i6 a, i6 b, i6 c]) := viewL_scals _ (by simp [scals_app, scals, scal])
def orE (ns : List Nd) : List Nd := if poolF ns then ns else []
theorem poolF_len {ns : List Nd} (h : poolF ns = true) : ns.length ≤ 500 := by
  unfold poolF at h
  simp at h
  exact h.1
theorem okFrom_all {ns : List Nd} (h : poolF ns = true) {j : Nat} (hj : j < ns.length) : rightF ns[j] j = true ∧ ns[j] ∉ ns.take j := by
  simp only [poolF, okFrom, Bool.and_eq_true, List.all_eq_true] at h
  have := h.2 j (by simp [List.mem_range']; omega)
  simp [hj] at this
  refine ⟨this.1, ?_⟩
  have := (findF_first ns j 0 hj (Int.le_refl 0)).1 (by rw [Int.zero_add]; exact this.2)
  exact this
theorem rightF_mono {n : Nd} {a b : Int} (h : rightF n a = true) (hab : a ≤ b) : rightF n b = true := by
  unfold rightF at h ⊢
  split
  · rename_i h0; rw [if_pos h0] at h; exact h
  · rename_i h0
    rw [if_neg h0] at h
    split
    · rename_i h1
      rw [if_pos h1] at h
      simp [inF] at h ⊢
      exact ⟨⟨h.1.1, by omega⟩, h.2⟩
    · rename_i h1
      rw [if_neg h1] at h
      split
      · rename_i h2
        rw [if_pos h2] at h
        simp [inF] at h ⊢
        exact ⟨⟨⟨h.1.1.1, by omega⟩, ⟨h.1.2.1, by omega⟩⟩, h.2⟩
      · rename_i h2; rw [if_neg h2] at h; cases h
theorem findF_at : ∀ (ns : List Nd) (n : Nd) (i : Nat), 0 ≤ findF ns n i → ∃ j : Nat, ∃ h : j < ns.length, findF ns n i = i + j ∧ ns[j] = n
  | [], n, i, h => by simp [findF] at h
  | x :: xs, n, i, h => by
    unfold findF at h ⊢
    by_cases e : x = n
    · rw [if_pos e]; exact ⟨0, by simp, by simp, by simpa using e⟩
    · rw [if_neg e] at h ⊢
      obtain ⟨j, h1, h2, h3⟩ := findF_at xs n (i + 1) (by simpa using h)
      exact ⟨j + 1, by simp; omega, by push_cast at h2 ⊢; omega, by simpa using h3⟩
theorem find_right {ns : List Nd} {n : Nd} (hp : poolF ns = true) (h : 0 ≤ findF ns n 0) : rightF n ns.length = true := by
  obtain ⟨j, hj, _, rfl⟩ := findF_at ns n 0 h
  exact rightF_mono (okFrom_all hp hj).1 (by omega)
theorem findF_none {ns : List Nd} {n : Nd} (i : Int) (hi : 0 ≤ i) (h : n ∉ ns) : findF ns n i = -1 := by
  induction ns generalizing i with
  | nil => rfl
  | cons x xs ih =>
    simp only [List.mem_cons, not_or] at h
    unfold findF
    rw [if_neg (fun e => h.1 e.symm)]
    exact ih (i + 1) (by omega) h.2
theorem findF_mem {ns : List Nd} {n : Nd} (h : n ∈ ns) : 0 ≤ findF ns n 0 := by
  have : ∀ (ns : List Nd) (i : Int), 0 ≤ i → n ∈ ns → 0 ≤ findF ns n i := by
    intro ns
    induction ns with
    | nil => intro i _ h; cases h
    | cons x xs ih =>
      intro i hi h
      unfold findF
      by_cases e : x = n
      · rw [if_pos e]; exact hi
      · rw [if_neg e]; exact ih (i + 1) (by omega) (by rcases List.mem_cons.1 h with h | h; exact absurd h.symm e; exact h)
  exact this ns 0 (Int.le_refl 0) h
theorem addF_ge (ns : List Nd) (n : Nd) : ns.length ≤ (addF ns n).1.length := by
  unfold addF
  split
  · exact Nat.le_refl _
  · split
    · exact Nat.le_refl _
    · split
      · exact Nat.le_refl _
      · simp
theorem addF_pool {ns : List Nd} (n : Nd) (hp : poolF ns = true) : poolF (addF ns n).1 = true := by
  unfold addF
  split
  · exact hp
  · rename_i h1
    split
    · exact hp
    · rename_i h2
      split
      · exact hp
      · rename_i h3
        generalize normN n = m at h1 h2 h3 ⊢
        have hm : m ∉ ns := fun hm => h2 (findF_mem hm)
        have hr : rightF m ns.length = true := by simpa using h1
        have hl := poolF_len hp
        simp only [poolF, okFrom, Bool.and_eq_true, List.all_eq_true, decide_eq_true_eq]
        refine ⟨by simp; omega, fun j hj => ?_⟩
        have hj' : j < ns.length + 1 := by simp [List.mem_range'] at hj; omega
        have key : ∀ (hjl : j < (ns ++ [m]).length), rightF (ns ++ [m])[j] j = true ∧ (ns ++ [m])[j] ∉ (ns ++ [m]).take j := by
          intro hjl
          rcases Nat.lt_or_ge j ns.length with h | h
          · rw [List.getElem_append_left h, List.take_append_of_le_length (by omega)]
            exact okFrom_all hp h
          · have : j = ns.length := by omega
            subst this
            simp [hr, hm]
        obtain ⟨k1, k2⟩ := key (by simp; omega)
        have h5 : (ns ++ [m]).getD j ⟨0, 0, 0⟩ = (ns ++ [m])[j]'(by simp; omega) := by simp [List.getD_eq_getElem?_getD, List.getElem?_eq_getElem (show j < (ns ++ [m]).length by simp; omega)]
        have h6 := (findF_first (ns ++ [m]) j 0 (by simp; omega) (Int.le_refl 0)).2 k2
        rw [Int.zero_add] at h6
        rw [h5, k1, h6]
        simp
theorem spec_l1Add_c (ns : List Nd) (n : Nd) (hp : poolF ns = true) : T 24 [aP ns, aN n] [] (.tup [aP (addF ns n).1, i6 (addF ns n).2]) ([]) := by
  refine semT' (S := S0) hm spec_l1Add_ok (Nat.le_of_ble_eq_true rfl) ?_
  unfold spec_l1Add; dsimp only
  have hl := poolF_len hp
  have hw : IntKind.i64.wrap (ns.length : Int) = ns.length := wrap64 (by omega) (by omega)
  have fin : ∀ m : Nd, normN n = m → (addF ns n) = if 0 ≤ findF ns m 0 then (ns, findF ns m 0) else if rightF m ns.length = false then (ns, -1) else if 500 ≤ ns.length then (ns, -1) else (ns ++ [m], (ns.length : Int)) := by
    intro m hm
    unfold addF
    rw [hm]
    by_cases h1 : 0 ≤ findF ns m 0
    · rw [if_neg (by rw [find_right hp h1]; simp), if_pos h1, if_pos h1]
    · rw [if_neg h1, if_neg h1]
  simp
  refine br_intro' (fun hk => ?_) (fun hk => ?_) <;> simp at hk <;> simp [hk]
  · refine br_intro' (fun hb => ?_) (fun hb => ?_) <;> simp at hb <;> simp [hb]
    · have hm : normN n = ⟨8, n.b, n.a⟩ := by simp [normN, hk, hb]; omega
      refine spec_l1Find_call (ns := ns) (n := ⟨8,n.b,n.a⟩) (by omega) rfl ?_; simp
      refine br_intro' (fun f => ?_) (fun f => ?_) <;> (have f0 := f) <;> simp at f <;> simp [f]
      · exact LeV.ro rfl rfl (by rw [fin _ hm, if_pos f]; simp)
      · refine spec_l1Right_call (n := ⟨8,n.b,n.a⟩) (many := ns.length) (by omega) (by omega) rfl ?_; simp
        refine br_intro' (fun g => ?_) (fun g => ?_) <;> simp [g]
        · refine br_intro' (fun q => ?_) (fun q => ?_) <;> simp at q <;> simp [q]
          · exact LeV.ro rfl rfl (by rw [fin _ hm, if_neg (by omega), if_neg (by rw [g]; simp), if_pos (by omega)]; simp)
          · refine spec_l1Copy_k (ns := ns) (by omega) rfl (by simp) (by simp [noslBlks]) ?_; simp [shiftB]
            refine ck_intro' (by omega) ?_; simp
            first | (refine ck_intro' (by kernel_rfl) ?_; try simp) | skip
            have h33 : (ns.length + 1) * 3 ≤ ns.length * 3 + 3 := by omega
            exact LeV.ro rfl rfl (by rw [fin _ hm, if_neg (by omega), if_neg (by rw [g]; simp), if_neg (by omega)]; simp [enc_snoc, h33])
        · exact LeV.ro rfl rfl (by rw [fin _ hm, if_neg (by omega), if_pos g]; simp)
    · have hm : normN n = ⟨8, n.a, n.b⟩ := by
        simp only [normN, hk, if_true]
        rw [if_neg (by omega)]
        by_cases e : n.a < n.b
        · rw [if_pos e]
        · rw [if_neg e]; congr 1; omega
      refine spec_l1Find_call (ns := ns) (n := ⟨8,n.a,n.b⟩) (by omega) rfl ?_; simp
      refine br_intro' (fun f => ?_) (fun f => ?_) <;> (have f0 := f) <;> simp at f <;> simp [f]
      · exact LeV.ro rfl rfl (by rw [fin _ hm, if_pos f]; simp)
      · refine spec_l1Right_call (n := ⟨8,n.a,n.b⟩) (many := ns.length) (by omega) (by omega) rfl ?_; simp
        refine br_intro' (fun g => ?_) (fun g => ?_) <;> simp [g]
        · refine br_intro' (fun q => ?_) (fun q => ?_) <;> simp at q <;> simp [q]
          · exact LeV.ro rfl rfl (by rw [fin _ hm, if_neg (by omega), if_neg (by rw [g]; simp), if_pos (by omega)]; simp)
          · refine spec_l1Copy_k (ns := ns) (by omega) rfl (by simp) (by simp [noslBlks]) ?_; simp [shiftB]
            refine ck_intro' (by omega) ?_; simp
            first | (refine ck_intro' (by kernel_rfl) ?_; try simp) | skip
            have h33 : (ns.length + 1) * 3 ≤ ns.length * 3 + 3 := by omega
            exact LeV.ro rfl rfl (by rw [fin _ hm, if_neg (by omega), if_neg (by rw [g]; simp), if_neg (by omega)]; simp [enc_snoc, h33])
        · exact LeV.ro rfl rfl (by rw [fin _ hm, if_neg (by omega), if_pos g]; simp)
  · have hm : normN n = ⟨n.k, n.a, n.b⟩ := by simp [normN, hk]
    refine spec_l1Find_call (ns := ns) (n := ⟨n.k,n.a,n.b⟩) (by omega) rfl ?_; simp
    refine br_intro' (fun f => ?_) (fun f => ?_) <;> (have f0 := f) <;> simp at f <;> simp [f]
    · exact LeV.ro rfl rfl (by rw [fin _ hm, if_pos f]; simp)
    · refine spec_l1Right_call (n := ⟨n.k,n.a,n.b⟩) (many := ns.length) (by omega) (by omega) rfl ?_; simp
      refine br_intro' (fun g => ?_) (fun g => ?_) <;> simp [g]
      · refine br_intro' (fun q => ?_) (fun q => ?_) <;> simp at q <;> simp [q]
        · exact LeV.ro rfl rfl (by rw [fin _ hm, if_neg (by omega), if_neg (by rw [g]; simp), if_pos (by omega)]; simp)
        · refine spec_l1Copy_k (ns := ns) (by omega) rfl (by simp) (by simp [noslBlks]) ?_; simp [shiftB]
          refine ck_intro' (by omega) ?_; simp
          first | (refine ck_intro' (by kernel_rfl) ?_; try simp) | skip
          have h33 : (ns.length + 1) * 3 ≤ ns.length * 3 + 3 := by omega
          exact LeV.ro rfl rfl (by rw [fin _ hm, if_neg (by omega), if_neg (by rw [g]; simp), if_neg (by omega)]; simp [enc_snoc, h33])
      · exact LeV.ro rfl rfl (by rw [fin _ hm, if_neg (by omega), if_pos g]; simp)
theorem spec_l1Add_call {ns : List Nd} {n : Nd} (hp : poolF ns = true) {S : FuncId → Bool} {H : List Blk} {K : A → Dl → Prop} (hS : S 24 = false) (hK : K (.tup [aP (addF ns n).1, i6 (addF ns n).2]) (.news [])) : @WCall' Go.Proofs.Try.prog S 24 [aP ns, aN n] H ⟨K⟩ :=
  WCall_pure hS (spec_l1Add_c ns n hp) (by simp) (by simp) (by simp) hK
theorem spec_l1Add_k {ns : List Nd} {n : Nd} (hp : poolF ns = true) {S : FuncId → Bool} {H : List Blk} {K : A → Dl → Prop} {zs : List A} (hS : S 24 = false) (hv : viewL (viewA 8 H) zs = some [aP ns, aN n]) (ho : noOwns zs = true ∨ nosl (.tup [aP (addF ns n).1, i6 (addF ns n).2]) = true) (hK : K (.tup [aP (addF ns n).1, i6 (addF ns n).2]) (.news [])) : @WCall' Go.Proofs.Try.prog S 24 zs H ⟨K⟩ :=
  WCall_pure hS (spec_l1Add_c ns n hp) hv ho (by simp) hK
theorem spec_l2Name_c (ns : List Nd) (x : Int) (hp : poolF ns = true) : T 23 [aP ns, i6 x] [] (.tup [aP (addF ns ⟨1, x, 0⟩).1, i6 (addF ns ⟨1, x, 0⟩).2]) ([]) := by
  refine semT' (S := S0) hm spec_l2Name_ok (Nat.le_of_ble_eq_true rfl) ?_
  unfold spec_l2Name; dsimp only
  simp
  refine spec_l1Add_call (n := ⟨1, x, 0⟩) hp rfl ?_; simp
  exact LeV.ro rfl rfl (by simp)
theorem spec_l2Name_call {ns : List Nd} {x : Int} (hp : poolF ns = true) {S : FuncId → Bool} {H : List Blk} {K : A → Dl → Prop} (hS : S 23 = false) (hK : K (.tup [aP (addF ns ⟨1, x, 0⟩).1, i6 (addF ns ⟨1, x, 0⟩).2]) (.news [])) : @WCall' Go.Proofs.Try.prog S 23 [aP ns, i6 x] H ⟨K⟩ :=
  WCall_pure hS (spec_l2Name_c ns x hp) (by simp) (by simp) (by simp) hK
theorem spec_l2Name_k {ns : List Nd} {x : Int} (hp : poolF ns = true) {S : FuncId → Bool} {H : List Blk} {K : A → Dl → Prop} {zs : List A} (hS : S 23 = false) (hv : viewL (viewA 8 H) zs = some [aP ns, i6 x]) (ho : noOwns zs = true ∨ nosl (.tup [aP (addF ns ⟨1, x, 0⟩).1, i6 (addF ns ⟨1, x, 0⟩).2]) = true) (hK : K (.tup [aP (addF ns ⟨1, x, 0⟩).1, i6 (addF ns ⟨1, x, 0⟩).2]) (.news [])) : @WCall' Go.Proofs.Try.prog S 23 zs H ⟨K⟩ :=
  WCall_pure hS (spec_l2Name_c ns x hp) hv ho (by simp) hK
/-- What turning a link comes to. -/
def turnF (ns : List Nd) (l : Lk) : List Nd × Lk × Bool :=
  if l.over ∨ l.epoch = 20 then (ns, l, false)
  else
    let p := addF ns ⟨1, 7, 0⟩
    if p.2 < 0 then (ns, l, false) else
    let q := addF p.1 ⟨6, l.key, p.2⟩
    if q.2 < 0 then (ns, l, false) else (q.1, ⟨q.2, l.epoch + 1, 0, false⟩, true)
theorem turnF_len (ns : List Nd) (l : Lk) (h : ns.length ≤ 500) : (turnF ns l).1.length ≤ 500 := by
  unfold turnF
  split
  · exact h
  · dsimp only
    split
    · exact h
    · split
      · exact h
      · exact addF_len _ _ (addF_len _ _ h)
/-- What LinkTurn answers. -/
def linkTurnF (ns : List Nd) (l : Lk) : List Nd × Lk × Bool := if lkF ns l then turnF ns l else (orE ns, l, false)
end Go.Proofs.Ytpohfpnlepmebaa.C

set_option linter.unusedVariables false
set_option linter.unusedSimpArgs false
namespace Go.Proofs.Ytpohfpnlepmebaa.C
open Go.Sym Go.Proofs.Ytpohfpnlepmebaa.I
def nodeAt (ns : List Nd) (t : Int) : Nd := ns.getD t.toNat ⟨0, 0, 0⟩
theorem nodeAt_nat {ns : List Nd} {j : Nat} (h : j < ns.length) : nodeAt ns j = ns[j] := by simp [nodeAt, h]
/-- The parts of a node of a right pool stand before it. -/
theorem parts_in {ns : List Nd} (hp : poolF ns = true) {j : Nat} (h : j < ns.length) (hk : partsF ns[j].k = 2) : (∃ a : Nat, ns[j].a = a ∧ a < j) ∧ ∃ b : Nat, ns[j].b = b ∧ b < j := by
  have := (okFrom_all hp h).1
  simp [rightF, hk, inF] at this
  exact ⟨⟨ns[j].a.toNat, by omega, by omega⟩, ns[j].b.toNat, by omega, by omega⟩
theorem part_in {ns : List Nd} (hp : poolF ns = true) {j : Nat} (h : j < ns.length) (hk : partsF ns[j].k = 1) : ∃ a : Nat, ns[j].a = a ∧ a < j := by
  have := (okFrom_all hp h).1
  simp [rightF, hk, inF] at this
  exact ⟨ns[j].a.toNat, by omega, by omega⟩
theorem parts_kind {ns : List Nd} (hp : poolF ns = true) {j : Nat} (h : j < ns.length) : partsF ns[j].k = 0 ∨ partsF ns[j].k = 1 ∨ partsF ns[j].k = 2 := by
  have := (okFrom_all hp h).1
  unfold rightF at this
  split at this
  · exact .inl ‹_›
  · split at this
    · exact .inr (.inl ‹_›)
    · split at this
      · exact .inr (.inr ‹_›)
      · cases this
theorem hasF_of {m j : Nat} (h : j < m) : hasF m j = true := by simp [hasF, inF]; omega
theorem hasN {m : Nat} {t : Int} (h : hasF m t = true) : ∃ j : Nat, t = j ∧ j < m := by
  simp [hasF, inF] at h
  exact ⟨t.toNat, by omega, by omega⟩
abbrev jblk (xs : List Int) : Blk := ⟨xs.length, decide (xs.length = 0), 1, ints xs, none⟩
abbrev jref (b : Nat) (xs : List Int) : A := .ref b xs.length 0 xs.length
@[simp] theorem ints_take' (xs : List Int) : (ints xs).take xs.length = ints xs := List.take_of_length_le (by simp)
@[simp] theorem ints_tells' (H H' : List Blk) (g : List (Option Nat)) (xs : List Int) : Tells H H' g (ints xs) (ints xs) := Tells_scals _ (ints_scals xs)
@[simp] theorem ints_one (xs : List Int) : (ints xs).all A.one = true := one_scals _ (ints_scals xs)
@[simp] theorem ints_inAs (m : Nat) (xs : List Int) : inAs m (ints xs) = true := inAs_scals _ (ints_scals xs)
@[simp] theorem ints_nil : ints [] = [] := rfl
theorem ints_snoc (xs : List Int) (x : Int) : ints (xs ++ [x]) = ints xs ++ [i6 x] := by simp [ints]
/-- The parts of a node. -/
def partsL (n : Nd) : List Int := if partsF n.k = 1 then [n.a] else if partsF n.k = 2 then [n.a, n.b] else []
/-- Looking for a number. -/
def idxF : List Int → Int → Int → Int
  | [], _, _ => -1
  | x :: xs, t, i => if x = t then i else idxF xs t (i + 1)
theorem idxF_neg (t : Int) : ∀ (xs : List Int) (i : Int), 0 ≤ i → (0 ≤ idxF xs t i ↔ t ∈ xs)
  | [], i, _ => by simp [idxF]
  | x :: xs, i, hi => by
    unfold idxF
    by_cases e : x = t
    · rw [if_pos e]; simp [e, hi]
    · rw [if_neg e, idxF_neg t xs (i + 1) (by omega)]
      simp only [List.mem_cons]
      exact ⟨.inr, fun h => h.resolve_left fun q => e q.symm⟩
def hasK (ks : List Int) (t : Int) : Bool := decide (t ∈ ks)
def pubF (x : Int) : Bool := inF x 0 49
theorem kpF_pool {ns : List Nd} {ks : List Int} (h : kpF ns ks = true) : poolF ns = true := by simp [kpF] at h; exact h.1
end Go.Proofs.Ytpohfpnlepmebaa.C

set_option linter.unusedVariables false
set_option linter.unusedSimpArgs false
namespace Go.Proofs.Ytpohfpnlepmebaa.C
open Go.Sym Go.Proofs.Ytpohfpnlepmebaa.I
def In64 (n : Int) : Prop := -9223372036854775808 ≤ n ∧ n < 9223372036854775808
abbrev shI : Sh := .i .i64
abbrev shN : Sh := .st (.p shI (.p shI (.p shI .u)))
abbrev shP : Sh := .st (.p (.sl shN) .u)
abbrev shL : Sh := .st (.p shI (.p shI (.p shI (.p .b .u))))
abbrev shIs : Sh := .sl shI
abbrev shS : Sh := .st (.p shP (.p shIs (.p shL (.p shL (.p shIs (.p shIs .u))))))
theorem fit_i {cs : List A} (h : Fit shI cs) : ∃ n, cs = [i6 n] ∧ In64 n := by
  obtain ⟨n, rfl, hn⟩ := h
  exact ⟨n, rfl, fit_i64 hn⟩
theorem fit_n {cs : List A} (h : Fit shN cs) : ∃ n : Nd, cs = encN n ∧ In64 n.k ∧ In64 n.a ∧ In64 n.b := by
  obtain ⟨x, y, rfl, hx, z, t, rfl, hz, u, w, rfl, hu, rfl⟩ := h
  obtain ⟨a, rfl, ha⟩ := fit_i hx
  obtain ⟨b, rfl, hb⟩ := fit_i hz
  obtain ⟨c, rfl, hc⟩ := fit_i hu
  exact ⟨⟨a, b, c⟩, rfl, ha, hb, hc⟩
theorem fit_p {cs : List A} (h : Fit shP cs) : ∃ ns : List Nd, cs = [.sl ns.length (enc ns)] ∧ ns.length < 9223372036854775808 := by
  obtain ⟨x, y, rfl, hx, rfl⟩ := h
  obtain ⟨ns, rfl, h1, _⟩ := fit_sl (f := encN) (fun r hr => fit_n hr) hx
  exact ⟨ns, by simp [enc], h1⟩
theorem fit_is {cs : List A} (h : Fit shIs cs) : ∃ xs : List Int, cs = [aI xs] ∧ xs.length < 9223372036854775808 := by
  obtain ⟨xs, rfl, h1, _⟩ := fit_sl (f := fun n => [i6 n]) (fun r hr => fit_i hr) h
  exact ⟨xs, by simp only [aI, ints]; rw [List.map_eq_flatMap], h1⟩
structure Lk.fit (l : Lk) : Prop where
  k : In64 l.key
  e : In64 l.epoch
  s : In64 l.seq
theorem fit_l {cs : List A} (h : Fit shL cs) : ∃ l : Lk, cs = [i6 l.key, i6 l.epoch, i6 l.seq, .bool l.over] ∧ l.fit := by
  obtain ⟨x, y, rfl, hx, z, t, rfl, hz, u, w, rfl, hu, b, w, rfl, ⟨o, rfl⟩, rfl⟩ := h
  obtain ⟨a, rfl, ha⟩ := fit_i hx
  obtain ⟨b, rfl, hb⟩ := fit_i hz
  obtain ⟨c, rfl, hc⟩ := fit_i hu
  exact ⟨⟨a, b, c, o⟩, rfl, ha, hb, hc⟩
structure St.fitA (s : St) : Prop where
  p : s.pool.length < 9223372036854775808
  k : s.know.length < 9223372036854775808
  t : s.sent.length < 9223372036854775808
  g : s.got.length < 9223372036854775808
  o : s.out.fit
  i : s.inn.fit
theorem fit_s {cs : List A} (h : Fit shS cs) : ∃ s : St, cs = cS s ∧ s.fitA := by
  obtain ⟨x, y, rfl, hx, z, t, rfl, hz, u, w, rfl, hu, b, w, rfl, hb, e, f, rfl, he, g, i, rfl, hg, rfl⟩ := h
  obtain ⟨ns, rfl, h1⟩ := fit_p hx
  obtain ⟨ks, rfl, h2⟩ := fit_is hz
  obtain ⟨l, rfl, h3⟩ := fit_l hu
  obtain ⟨m, rfl, h4⟩ := fit_l hb
  obtain ⟨ts, rfl, h5⟩ := fit_is he
  obtain ⟨gs, rfl, h6⟩ := fit_is hg
  exact ⟨⟨ns, ks, l, m, ts, gs⟩, rfl, h1, h2, h5, h6, h3, h4⟩
theorem arg_p {x : A} (h : FitA shP x) : ∃ ns : List Nd, x = aP ns ∧ ns.length < 9223372036854775808 := by
  obtain ⟨cs, rfl, h⟩ := h
  obtain ⟨ns, rfl, g⟩ := fit_p h
  exact ⟨ns, rfl, g⟩
theorem arg_l {x : A} (h : FitA shL x) : ∃ l : Lk, x = aL l ∧ l.fit := by
  obtain ⟨cs, rfl, h⟩ := h
  obtain ⟨ns, rfl, g⟩ := fit_l h
  exact ⟨ns, rfl, g⟩
theorem arg_s {x : A} (h : FitA shS x) : ∃ s : St, x = aS s ∧ s.fitA := by
  obtain ⟨cs, rfl, h⟩ := h
  obtain ⟨ns, rfl, g⟩ := fit_s h
  exact ⟨ns, rfl, g⟩
theorem arg_is {x : A} (h : FitA shIs x) : ∃ xs : List Int, x = aI xs ∧ xs.length < 9223372036854775808 := by
  obtain ⟨xs, e, h⟩ := fit_is (show Fit shIs [x] from h)
  exact ⟨xs, by simpa using e, h⟩
theorem arg_i {x : A} (h : FitA shI x) : ∃ n : Int, x = i6 n ∧ In64 n := by
  obtain ⟨n, e, h⟩ := fit_i (show Fit shI [x] from h)
  exact ⟨n, by simpa using e, h⟩
end Go.Proofs.Ytpohfpnlepmebaa.C

set_option linter.unusedVariables false
set_option linter.unusedSimpArgs false
namespace Go.Proofs.Ytpohfpnlepmebaa.C
open Go.Sym Go.Proofs.Ytpohfpnlepmebaa.I
abbrev qblk (ns : List Nd) : Blk := ⟨ns.length, false, 3, enc ns, none⟩
abbrev iblk (xs : List Int) : Blk := ⟨xs.length, false, 1, ints xs, none⟩
abbrev iref (b : Nat) (xs : List Int) : A := .ref b xs.length 0 xs.length
def szF (x : Int) (n : Nat) : Int := if x - n < 0 then -1 else x - n
theorem laws_szNodeS_c (ns : List Nd) (x : Int) (hl : ns.length < 9223372036854775808) (h0 : 0 ≤ x) (h1 : x < 9223372036854775808) : T 14 [.sl ns.length (enc ns), i6 x] [] (i6 (szF x ns.length)) ([]) := by
  refine semT' (S := S0) hm laws_szNodeS_ok (Nat.le_of_ble_eq_true rfl) ?_
  unfold laws_szNodeS; dsimp only
  have hw : IntKind.i64.wrap (x - ns.length) = x - ns.length := wrap64 (by omega) (by omega)
  simp [hw]
  refine br_intro' (fun h => ?_) (fun h => ?_) <;> (have h0 := h) <;> (try simp at h) <;> try simp [h0, h]
  · exact LeV.ro rfl rfl (by simp [szF, h])
  · exact LeV.ro rfl rfl (by simp [szF]; omega)
theorem laws_szNodeS_call {ns : List Nd} {x : Int} (hl : ns.length < 9223372036854775808) (h0 : 0 ≤ x) (h1 : x < 9223372036854775808) {S : FuncId → Bool} {H : List Blk} {K : A → Dl → Prop} (hS : S 14 = false) (hK : K (i6 (szF x ns.length)) (.news [])) : @WCall' Go.Proofs.Try.prog S 14 [.sl ns.length (enc ns), i6 x] H ⟨K⟩ :=
  WCall_pure hS (laws_szNodeS_c ns x hl h0 h1) (by simp) (by simp) (by simp) hK
theorem laws_szNodeS_k {ns : List Nd} {x : Int} (hl : ns.length < 9223372036854775808) (h0 : 0 ≤ x) (h1 : x < 9223372036854775808) {S : FuncId → Bool} {H : List Blk} {K : A → Dl → Prop} {zs : List A} (hS : S 14 = false) (hv : viewL (viewA 8 H) zs = some [.sl ns.length (enc ns), i6 x]) (ho : noOwns zs = true ∨ nosl (i6 (szF x ns.length)) = true) (hK : K (i6 (szF x ns.length)) (.news [])) : @WCall' Go.Proofs.Try.prog S 14 zs H ⟨K⟩ :=
  WCall_pure hS (laws_szNodeS_c ns x hl h0 h1) hv ho (by simp) hK
theorem laws_szPool_c (ns : List Nd) (x : Int) (hl : ns.length < 9223372036854775808) (h0 : 0 ≤ x) (h1 : x < 9223372036854775808) : T 4 [aP ns, i6 x] [] (i6 (szF x ns.length)) ([]) := by
  refine semT' (S := S0) hm laws_szPool_ok (Nat.le_of_ble_eq_true rfl) ?_
  unfold laws_szPool; dsimp only
  simp
  refine laws_szNodeS_call (ns := ns) (x := x) hl h0 h1 rfl ?_; simp
  refine br_intro' (fun h => ?_) (fun h => ?_) <;> (have h0 := h) <;> (try simp at h) <;> try simp [h0, h]
  · exact LeV.ro rfl rfl (by simp [szF] at h ⊢; omega)
  · exact LeV.ro rfl rfl (by simp)
theorem laws_szPool_call {ns : List Nd} {x : Int} (hl : ns.length < 9223372036854775808) (h0 : 0 ≤ x) (h1 : x < 9223372036854775808) {S : FuncId → Bool} {H : List Blk} {K : A → Dl → Prop} (hS : S 4 = false) (hK : K (i6 (szF x ns.length)) (.news [])) : @WCall' Go.Proofs.Try.prog S 4 [aP ns, i6 x] H ⟨K⟩ :=
  WCall_pure hS (laws_szPool_c ns x hl h0 h1) (by simp) (by simp) (by simp) hK
theorem laws_szPool_k {ns : List Nd} {x : Int} (hl : ns.length < 9223372036854775808) (h0 : 0 ≤ x) (h1 : x < 9223372036854775808) {S : FuncId → Bool} {H : List Blk} {K : A → Dl → Prop} {zs : List A} (hS : S 4 = false) (hv : viewL (viewA 8 H) zs = some [aP ns, i6 x]) (ho : noOwns zs = true ∨ nosl (i6 (szF x ns.length)) = true) (hK : K (i6 (szF x ns.length)) (.news [])) : @WCall' Go.Proofs.Try.prog S 4 zs H ⟨K⟩ :=
  WCall_pure hS (laws_szPool_c ns x hl h0 h1) hv ho (by simp) hK
theorem laws_toNode_c (n : Nd)  : T 48 [aN n] [] (aN n) ([]) := by
  refine semT' (S := S0) hm laws_toNode_ok (Nat.le_of_ble_eq_true rfl) ?_
  unfold laws_toNode; dsimp only
  simp
  exact LeV.ro rfl rfl (by simp)
theorem laws_toNode_call {n : Nd}  {S : FuncId → Bool} {H : List Blk} {K : A → Dl → Prop} (hS : S 48 = false) (hK : K (aN n) (.news [])) : @WCall' Go.Proofs.Try.prog S 48 [aN n] H ⟨K⟩ :=
  WCall_pure hS (laws_toNode_c n) (by simp) (by simp) (by simp) hK
theorem laws_toNode_k {n : Nd}  {S : FuncId → Bool} {H : List Blk} {K : A → Dl → Prop} {zs : List A} (hS : S 48 = false) (hv : viewL (viewA 8 H) zs = some [aN n]) (ho : noOwns zs = true ∨ nosl (aN n) = true) (hK : K (aN n) (.news [])) : @WCall' Go.Proofs.Try.prog S 48 zs H ⟨K⟩ :=
  WCall_pure hS (laws_toNode_c n) hv ho (by simp) hK
theorem laws_eqNode_c (n m : Nd)  : T 54 [aN n, aN m] [] (.bool (decide (n = m))) ([]) := by
  refine semT' (S := S0) hm laws_eqNode_ok (Nat.le_of_ble_eq_true rfl) ?_
  unfold laws_eqNode; dsimp only
  simp
  repeat (any_goals (first | (refine br_intro' (fun h => ?_) (fun h => ?_) <;> (have h0 := h) <;> (try simp at h) <;> try simp [h0, h])))
  all_goals exact LeV.ro rfl rfl (by simp [Nd_eq, *])
theorem laws_eqNode_call {n m : Nd}  {S : FuncId → Bool} {H : List Blk} {K : A → Dl → Prop} (hS : S 54 = false) (hK : K (.bool (decide (n = m))) (.news [])) : @WCall' Go.Proofs.Try.prog S 54 [aN n, aN m] H ⟨K⟩ :=
  WCall_pure hS (laws_eqNode_c n m) (by simp) (by simp) (by simp) hK
theorem laws_eqNode_k {n m : Nd}  {S : FuncId → Bool} {H : List Blk} {K : A → Dl → Prop} {zs : List A} (hS : S 54 = false) (hv : viewL (viewA 8 H) zs = some [aN n, aN m]) (ho : noOwns zs = true ∨ nosl (.bool (decide (n = m))) = true) (hK : K (.bool (decide (n = m))) (.news [])) : @WCall' Go.Proofs.Try.prog S 54 zs H ⟨K⟩ :=
  WCall_pure hS (laws_eqNode_c n m) hv ho (by simp) hK
theorem Lk_eq {x y : Lk} : x = y ↔ x.key = y.key ∧ x.epoch = y.epoch ∧ x.seq = y.seq ∧ x.over = y.over := by cases x; cases y; simp
def zN (j : Nat) : List Nd := List.replicate j ⟨0, 0, 0⟩
/-- A copy that is made up to a place. -/
def upN (ns : List Nd) (j : Nat) : List Nd := ns.take j ++ zN (ns.length - j)
theorem upN_len (ns : List Nd) (j : Nat) (h : j ≤ ns.length) : (upN ns j).length = ns.length := by simp [upN, zN]; omega
theorem upN_zero (ns : List Nd) : upN ns 0 = zN ns.length := by simp [upN]
theorem upN_end (ns : List Nd) : upN ns ns.length = ns := by simp [upN, zN]
theorem enc_zN (j : Nat) : enc (zN j) = (List.replicate j [i6 0, i6 0, i6 0]).flatten := by
  induction j with
  | zero => rfl
  | succ j ih => simp only [zN, List.replicate_succ, enc, List.flatMap_cons, List.flatten_cons] at ih ⊢; rw [ih]; rfl
theorem upN_set (ns : List Nd) (j : Nat) (h : j < ns.length) : (upN ns j).set j ns[j] = upN ns (j + 1) := by
  have hl : (ns.take j).length = j := by simp; omega
  have e : ns.length - j = (ns.length - (j + 1)) + 1 := by omega
  simp only [upN, zN]
  rw [List.set_append_right _ _ (by omega), hl, Nat.sub_self, e, List.replicate_succ, List.set_cons_zero, List.take_succ_eq_append_getElem h, List.append_assoc]
  rfl
theorem set3 {x y z : A} : ∀ (cs : List A) (a b c : A) (r : List A), (((a :: b :: c :: r).set 0 x).set 1 y).set 2 z = x :: y :: z :: r := fun _ _ _ _ _ => rfl
theorem enc_set : ∀ (xs : List Nd) (j : Nat) (n : Nd), (((enc xs).set (j * 3) (i6 n.k)).set (j * 3 + 1) (i6 n.a)).set (j * 3 + 2) (i6 n.b) = enc (xs.set j n)
  | [], j, n => by simp
  | x :: xs, 0, n => rfl
  | x :: xs, j + 1, n => by
    have := enc_set xs j n
    have e : (j + 1) * 3 = j * 3 + 1 + 1 + 1 := by omega
    show ((([i6 x.k, i6 x.a, i6 x.b] ++ enc xs).set ((j + 1) * 3) _).set ((j + 1) * 3 + 1) _).set ((j + 1) * 3 + 2) _ = [i6 x.k, i6 x.a, i6 x.b] ++ enc (xs.set j n)
    rw [e, ← this]
    rfl
theorem laws_toNodeS_c (ns : List Nd) (hl : ns.length ≤ 4294967296) : T 25 [.sl ns.length (enc ns)] [] (pref 0 ns) ([qblk ns]) := by
  refine semT' (S := S0) hm laws_toNodeS_ok (Nat.le_of_ble_eq_true rfl) ?_
  unfold laws_toNodeS; dsimp only
  have h1 : ((ns.length : Int)) * 24 ≤ 17592186044416 := by omega
  have h2 : (ns.length : Int) ≤ 4294967296 := by omega
  simp
  refine ck_intro' (by omega) ?_; simp
  rw [← enc_zN, ← upN_zero]
  refine WLoop_fam (fun j : Nat => [(0, A.sl ns.length (enc ns)), (3, A.ref 0 0 0 ns.length), (4, i6 j)]) (fun j => [⟨0, false, 3, enc (upN ns j), none⟩]) (fun j => ns.length - j)
    (fun j => j ≤ ns.length) ?_ 0 (Nat.zero_le _)
  intro j hj ih
  simp [upN_len ns j hj]
  refine br_intro' (fun h => ?_) (fun h => ?_) <;> (have h0 := h) <;> (try simp at h) <;> try simp [h0, h]
  · obtain ⟨r, hr⟩ := enc_at h
    have h3 : 3 ≤ ns.length * 3 - j * 3 := by omega
    have hw : IntKind.i64.wrap ((j : Int) + 1) = j + 1 := wrap64 (by omega) (by omega)
    have h' := h
    simp [h3, hr, h']
    refine laws_toNode_call (n := ns[j]) rfl ?_; simp [upN_len ns j hj, h']
    refine ck_intro' (by omega) ?_; simp
    rw [hw, enc_set, upN_set ns j h']
    exact ih (j + 1) h' (by omega)
  · have h0 : j = ns.length := by omega
    subst h0
    rw [upN_end]
    first | (refine LeV.tell [none] ?_ ?_ ?_ <;> (simp; done)) | (refine LeV.tell [some 0] ?_ ?_ ?_ <;> (simp; done)) | (refine LeV.tell [some 1] ?_ ?_ ?_ <;> (simp; done)) | (refine LeV.tell [some 2] ?_ ?_ ?_ <;> (simp; done)) | (refine LeV.tell [some 3] ?_ ?_ ?_ <;> (simp; done)) | (refine LeV.tell [some 4] ?_ ?_ ?_ <;> (simp; done)) | (refine LeV.tell [some 5] ?_ ?_ ?_ <;> (simp; done)) | (refine LeV.tell [some 6] ?_ ?_ ?_ <;> (simp; done)) | (refine LeV.tell [some 7] ?_ ?_ ?_ <;> (simp; done)) | (refine LeV.tell [some 8] ?_ ?_ ?_ <;> (simp; done)) | (refine LeV.tell [some 9] ?_ ?_ ?_ <;> (simp; done)) | (refine LeV.tell [some 10] ?_ ?_ ?_ <;> (simp; done)) | (refine LeV.tell [some 11] ?_ ?_ ?_ <;> (simp; done)) | (refine LeV.tell [some 12] ?_ ?_ ?_ <;> (simp; done)) | (refine LeV.tell [some 13] ?_ ?_ ?_ <;> (simp; done)) | (refine LeV.tell [some 14] ?_ ?_ ?_ <;> (simp; done)) | (refine LeV.tell [some 15] ?_ ?_ ?_ <;> (simp; done))
theorem laws_toNodeS_k {ns : List Nd} (hl : ns.length ≤ 4294967296) {S : FuncId → Bool} {H : List Blk} {K : A → Dl → Prop} {zs : List A} (hS : S 25 = false) (hv : viewL (viewA 8 H) zs = some [.sl ns.length (enc ns)]) (ho : noOwns zs = true ∨ nosl (pref 0 ns) = true ∧ noslBlks ([qblk ns]) = true) (hK : K (shiftA H.length (pref 0 ns)) (.news (([qblk ns]).map (shiftB H.length)))) : @WCall' Go.Proofs.Try.prog S 25 zs H ⟨K⟩ :=
  WCall_ro' hS hv (laws_toNodeS_c ns hl) rfl ho hK
theorem laws_toPool_c (ns : List Nd) (hl : ns.length ≤ 4294967296) : T 6 [aP ns] [] (.agg [pref 0 ns]) ([qblk ns]) := by
  refine semT' (S := S0) hm laws_toPool_ok (Nat.le_of_ble_eq_true rfl) ?_
  unfold laws_toPool; dsimp only
  simp
  refine laws_toNodeS_k (ns := ns) hl rfl (by simp) (by simp [noslBlks]) ?_; simp [shiftB]
  first | (refine LeV.tell [none] ?_ ?_ ?_ <;> (simp; done)) | (refine LeV.tell [some 0] ?_ ?_ ?_ <;> (simp; done)) | (refine LeV.tell [some 1] ?_ ?_ ?_ <;> (simp; done)) | (refine LeV.tell [some 2] ?_ ?_ ?_ <;> (simp; done)) | (refine LeV.tell [some 3] ?_ ?_ ?_ <;> (simp; done)) | (refine LeV.tell [some 4] ?_ ?_ ?_ <;> (simp; done)) | (refine LeV.tell [some 5] ?_ ?_ ?_ <;> (simp; done)) | (refine LeV.tell [some 6] ?_ ?_ ?_ <;> (simp; done)) | (refine LeV.tell [some 7] ?_ ?_ ?_ <;> (simp; done)) | (refine LeV.tell [some 8] ?_ ?_ ?_ <;> (simp; done)) | (refine LeV.tell [some 9] ?_ ?_ ?_ <;> (simp; done)) | (refine LeV.tell [some 10] ?_ ?_ ?_ <;> (simp; done)) | (refine LeV.tell [some 11] ?_ ?_ ?_ <;> (simp; done)) | (refine LeV.tell [some 12] ?_ ?_ ?_ <;> (simp; done)) | (refine LeV.tell [some 13] ?_ ?_ ?_ <;> (simp; done)) | (refine LeV.tell [some 14] ?_ ?_ ?_ <;> (simp; done)) | (refine LeV.tell [some 15] ?_ ?_ ?_ <;> (simp; done))
theorem laws_toPool_k {ns : List Nd} (hl : ns.length ≤ 4294967296) {S : FuncId → Bool} {H : List Blk} {K : A → Dl → Prop} {zs : List A} (hS : S 6 = false) (hv : viewL (viewA 8 H) zs = some [aP ns]) (ho : noOwns zs = true ∨ nosl (.agg [pref 0 ns]) = true ∧ noslBlks ([qblk ns]) = true) (hK : K (shiftA H.length (.agg [pref 0 ns])) (.news (([qblk ns]).map (shiftB H.length)))) : @WCall' Go.Proofs.Try.prog S 6 zs H ⟨K⟩ :=
  WCall_ro' hS hv (laws_toPool_c ns hl) rfl ho hK
/-- A copy of numbers that is made up to a place. -/
def upI (xs : List Int) (j : Nat) : List Int := xs.take j ++ List.replicate (xs.length - j) 0
theorem upI_len (xs : List Int) (j : Nat) (h : j ≤ xs.length) : (upI xs j).length = xs.length := by simp [upI]; omega
theorem upI_zero (xs : List Int) : upI xs 0 = List.replicate xs.length 0 := by simp [upI]
theorem upI_end (xs : List Int) : upI xs xs.length = xs := by simp [upI]
theorem upI_set (ns : List Int) (j : Nat) (h : j < ns.length) : (upI ns j).set j ns[j] = upI ns (j + 1) := by
  have hl : (ns.take j).length = j := by simp; omega
  have e : ns.length - j = (ns.length - (j + 1)) + 1 := by omega
  simp only [upI]
  rw [List.set_append_right _ _ (by omega), hl, Nat.sub_self, e, List.replicate_succ, List.set_cons_zero, List.take_succ_eq_append_getElem h, List.append_assoc]
  rfl
theorem ints_set (xs : List Int) (j : Nat) (n : Int) : (ints xs).set j (i6 n) = ints (xs.set j n) := by simp [ints, List.map_set]
@[simp] theorem ints_tells (H H' : List Blk) (g : List (Option Nat)) (xs : List Int) : Tells H H' g (ints xs) (ints xs) := Tells_scals _ (ints_scals xs)
@[simp] theorem ints_take (xs : List Int) : (ints xs).take xs.length = ints xs := List.take_of_length_le (by simp)
theorem ints_rep (n : Nat) : ints (List.replicate n 0) = List.replicate n (i6 0) := by simp [ints]
theorem laws_eqNodeS_c (ns ms : List Nd) (hl : ns.length < 9223372036854775807) (hl2 : ms.length < 9223372036854775807) : T 36 [.sl ns.length (enc ns), .sl ms.length (enc ms)] [] (.bool (decide (ns = ms))) ([]) := by
  refine semT' (S := S0) hm laws_eqNodeS_ok (Nat.le_of_ble_eq_true rfl) ?_
  unfold laws_eqNodeS; dsimp only
  simp
  refine br_intro' (fun h => ?_) (fun h => ?_) <;> (try simp at h) <;> (try simp [h])
  · refine WLoop_fam (fun j : Nat => [(0, A.sl ns.length (enc ns)), (1, A.sl ms.length (enc ms)), (5, i6 j)]) (fun _ => []) (fun j => ns.length - j)
      (fun j => j ≤ ns.length ∧ ns.take j = ms.take j) ?_ 0 ⟨Nat.zero_le _, by simp⟩
    intro j ⟨hj, hf⟩ ih
    simp
    have hq : ns.length = ms.length := by omega
    refine br_intro' (fun h => ?_) (fun h => ?_) <;> (have h0 := h) <;> (try simp at h) <;> try simp [h0, h]
    · obtain ⟨r, hr⟩ := enc_at h
      have hm : j < ms.length := by omega
      obtain ⟨r2, hr2⟩ := enc_at hm
      have h3 : 3 ≤ ms.length * 3 - j * 3 := by omega
      have h4 : 3 ≤ ns.length * 3 - j * 3 := by omega
      have hw : IntKind.i64.wrap ((j : Int) + 1) = j + 1 := wrap64 (by omega) (by omega)
      have h' := h
      simp [h3, h4, hr, h', hr2, hm]
      refine laws_eqNode_call (n := ns[j]) (m := ms[j]) rfl ?_; simp
      first | (refine ck_intro' (by kernel_rfl) ?_; try simp) | skip
      refine br_intro' (fun g => ?_) (fun g => ?_) <;> simp at g <;> simp [g]
      · rw [hw]
        exact ih (j + 1) ⟨h', by rw [List.take_succ_eq_append_getElem h', List.take_succ_eq_append_getElem hm, hf, g]⟩ (by omega)
      · exact LeV.ro rfl rfl (by simp; intro e; subst e; exact g rfl)
    · have h0 : j = ns.length := by omega
      exact LeV.ro rfl rfl (by rw [h0, List.take_length, hq, List.take_length] at hf; simp [hf])
  · exact LeV.ro rfl rfl (by simp; intro e; rw [e] at h; exact h rfl)
theorem laws_eqNodeS_call {ns ms : List Nd} (hl : ns.length < 9223372036854775807) (hl2 : ms.length < 9223372036854775807) {S : FuncId → Bool} {H : List Blk} {K : A → Dl → Prop} (hS : S 36 = false) (hK : K (.bool (decide (ns = ms))) (.news [])) : @WCall' Go.Proofs.Try.prog S 36 [.sl ns.length (enc ns), .sl ms.length (enc ms)] H ⟨K⟩ :=
  WCall_pure hS (laws_eqNodeS_c ns ms hl hl2) (by simp) (by simp) (by simp) hK
theorem laws_eqNodeS_k {ns ms : List Nd} (hl : ns.length < 9223372036854775807) (hl2 : ms.length < 9223372036854775807) {S : FuncId → Bool} {H : List Blk} {K : A → Dl → Prop} {zs : List A} (hS : S 36 = false) (hv : viewL (viewA 8 H) zs = some [.sl ns.length (enc ns), .sl ms.length (enc ms)]) (ho : noOwns zs = true ∨ nosl (.bool (decide (ns = ms))) = true) (hK : K (.bool (decide (ns = ms))) (.news [])) : @WCall' Go.Proofs.Try.prog S 36 zs H ⟨K⟩ :=
  WCall_pure hS (laws_eqNodeS_c ns ms hl hl2) hv ho (by simp) hK
theorem laws_eqPool_c (ns ms : List Nd) (hl : ns.length < 9223372036854775807) (hl2 : ms.length < 9223372036854775807) : T 8 [aP ns, aP ms] [] (.bool (decide (ns = ms))) ([]) := by
  refine semT' (S := S0) hm laws_eqPool_ok (Nat.le_of_ble_eq_true rfl) ?_
  unfold laws_eqPool; dsimp only
  simp
  refine laws_eqNodeS_call (ns := ns) (ms := ms) hl hl2 rfl ?_; simp
  refine br_intro' (fun g => ?_) (fun g => ?_) <;> simp at g <;> simp [g]
  · exact LeV.ro rfl rfl (by simp)
  · exact LeV.ro rfl rfl (by simp [g])
theorem laws_eqPool_call {ns ms : List Nd} (hl : ns.length < 9223372036854775807) (hl2 : ms.length < 9223372036854775807) {S : FuncId → Bool} {H : List Blk} {K : A → Dl → Prop} (hS : S 8 = false) (hK : K (.bool (decide (ns = ms))) (.news [])) : @WCall' Go.Proofs.Try.prog S 8 [aP ns, aP ms] H ⟨K⟩ :=
  WCall_pure hS (laws_eqPool_c ns ms hl hl2) (by simp) (by simp) (by simp) hK
theorem laws_eqPool_k {ns ms : List Nd} (hl : ns.length < 9223372036854775807) (hl2 : ms.length < 9223372036854775807) {S : FuncId → Bool} {H : List Blk} {K : A → Dl → Prop} {zs : List A} (hS : S 8 = false) (hv : viewL (viewA 8 H) zs = some [aP ns, aP ms]) (ho : noOwns zs = true ∨ nosl (.bool (decide (ns = ms))) = true) (hK : K (.bool (decide (ns = ms))) (.news [])) : @WCall' Go.Proofs.Try.prog S 8 zs H ⟨K⟩ :=
  WCall_pure hS (laws_eqPool_c ns ms hl hl2) hv ho (by simp) hK
theorem laws_eqIntS_c (ns ms : List Int) (hl : ns.length < 9223372036854775807) (hl2 : ms.length < 9223372036854775807) : T 37 [aI ns, aI ms] [] (.bool (decide (ns = ms))) ([]) := by
  refine semT' (S := S0) hm laws_eqIntS_ok (Nat.le_of_ble_eq_true rfl) ?_
  unfold laws_eqIntS; dsimp only
  simp
  refine br_intro' (fun h => ?_) (fun h => ?_) <;> (try simp at h) <;> (try simp [h])
  · refine WLoop_fam (fun j : Nat => [(0, aI ns), (1, aI ms), (5, i6 j)]) (fun _ => []) (fun j => ns.length - j)
      (fun j => j ≤ ns.length ∧ ns.take j = ms.take j) ?_ 0 ⟨Nat.zero_le _, by simp⟩
    intro j ⟨hj, hf⟩ ih
    simp
    have hq : ns.length = ms.length := by omega
    refine br_intro' (fun h => ?_) (fun h => ?_) <;> (have h0 := h) <;> (try simp at h) <;> try simp [h0, h]
    · have hm : j < ms.length := by omega
      have hw : IntKind.i64.wrap ((j : Int) + 1) = j + 1 := wrap64 (by omega) (by omega)
      have h' := h
      simp [h', hm]
      first | (refine ck_intro' (by kernel_rfl) ?_; try simp) | skip
      refine br_intro' (fun g => ?_) (fun g => ?_) <;> simp at g <;> simp [g]
      · rw [hw]
        exact ih (j + 1) ⟨h', by rw [List.take_succ_eq_append_getElem h', List.take_succ_eq_append_getElem hm, hf, g]⟩ (by omega)
      · exact LeV.ro rfl rfl (by simp; intro e; subst e; exact g rfl)
    · have h0 : j = ns.length := by omega
      exact LeV.ro rfl rfl (by rw [h0, List.take_length, hq, List.take_length] at hf; simp [hf])
  · exact LeV.ro rfl rfl (by simp; intro e; rw [e] at h; exact h rfl)
theorem laws_eqIntS_call {ns ms : List Int} (hl : ns.length < 9223372036854775807) (hl2 : ms.length < 9223372036854775807) {S : FuncId → Bool} {H : List Blk} {K : A → Dl → Prop} (hS : S 37 = false) (hK : K (.bool (decide (ns = ms))) (.news [])) : @WCall' Go.Proofs.Try.prog S 37 [aI ns, aI ms] H ⟨K⟩ :=
  WCall_pure hS (laws_eqIntS_c ns ms hl hl2) (by simp) (by simp) (by simp) hK
theorem laws_eqIntS_k {ns ms : List Int} (hl : ns.length < 9223372036854775807) (hl2 : ms.length < 9223372036854775807) {S : FuncId → Bool} {H : List Blk} {K : A → Dl → Prop} {zs : List A} (hS : S 37 = false) (hv : viewL (viewA 8 H) zs = some [aI ns, aI ms]) (ho : noOwns zs = true ∨ nosl (.bool (decide (ns = ms))) = true) (hK : K (.bool (decide (ns = ms))) (.news [])) : @WCall' Go.Proofs.Try.prog S 37 zs H ⟨K⟩ :=
  WCall_pure hS (laws_eqIntS_c ns ms hl hl2) hv ho (by simp) hK
theorem szF_neg {x : Int} {n : Nat} : szF x n < 0 ↔ x < n := by unfold szF; split <;> omega
theorem szF_pos {x : Int} {n : Nat} (h : ¬ x < n) : szF x n = x - n := by unfold szF; rw [if_neg (by omega)]
/-- The size of a stream. -/
def szStr (s : St) (x : Int) : Int := if x < s.pool.length + s.know.length + s.sent.length + s.got.length then -1 else x - (s.pool.length + s.know.length + s.sent.length + s.got.length)
theorem St_eq {x y : St} : x = y ↔ x.pool = y.pool ∧ x.know = y.know ∧ x.out = y.out ∧ x.inn = y.inn ∧ x.sent = y.sent ∧ x.got = y.got := by cases x; cases y; simp
end Go.Proofs.Ytpohfpnlepmebaa.C

set_option linter.unusedVariables false
set_option linter.unusedSimpArgs false
namespace Go.Proofs.Ytpohfpnlepmebaa.C
open Go.Sym Go.Proofs.Ytpohfpnlepmebaa.I
def mkN (k : Int) : Nat → List Nd
  | 0 => []
  | n + 1 => mkN k n ++ [⟨k + 3 * n, k + 3 * n + 1, k + 3 * n + 2⟩]
@[simp] theorem mkN_len (k : Int) (n : Nat) : (mkN k n).length = n := by induction n with | zero => rfl | succ n ih => simp [mkN, ih]
@[simp] theorem mkN_take (k : Int) (n : Nat) : (enc (mkN k n)).take (n * 3) = enc (mkN k n) := List.take_of_length_le (by simp)
theorem mkN_get (k : Int) : ∀ (n j : Nat) (h : j < (mkN k n).length), (mkN k n)[j] = ⟨k + 3 * j, k + 3 * j + 1, k + 3 * j + 2⟩
  | 0, j, h => by simp at h
  | n + 1, j, h => by
    simp only [mkN]
    rcases Nat.lt_or_ge j n with g | g
    · rw [List.getElem_append_left (by simpa using g)]
      exact mkN_get k n j (by simpa using g)
    · have : j = n := by simp at h; omega
      subst this
      simp
theorem mkN_set (k : Int) (ns : List Nd) (j : Nat) (h : j < ns.length) : (mkN k j ++ ns.drop j).set j ⟨k + 3 * j, k + 3 * j + 1, k + 3 * j + 2⟩ = mkN k (j + 1) ++ ns.drop (j + 1) := by
  rw [List.set_append_right _ _ (by simp), mkN_len, Nat.sub_self, List.drop_eq_getElem_cons h, List.set_cons_zero]
  simp [mkN]
theorem set_self {α : Type} {H : List α} {n : Nat} {x : α} (h : H[n]? = some x) : H.set n x = H := by
  apply List.ext_getElem?
  intro i
  by_cases e : n = i
  · subst e
    rw [h, List.getElem?_set_self (List.getElem?_eq_some_iff.1 h).1]
  · rw [List.getElem?_set_ne e]
theorem laws_markNodeS_m (H : List Blk) (nb v : Nat) (ro : Bool) (ns : List Nd) (k : Int) (hH : H[nb]? = some ⟨v, ro, 3, enc ns, none⟩) (hro : ro = true → ns = []) (hl : ns.length ≤ 4294967296) (hk : 0 ≤ k) (hk2 : k ≤ 4294967296) : T 38 [.ref nb v 0 ns.length, i6 k] (H) (i6 (k + 3 * ns.length)) (H.set nb ⟨v, ro, 3, enc (mkN k ns.length), none⟩) := by
  refine semT' (S := S0) hm laws_markNodeS_ok (Nat.le_of_ble_eq_true rfl) ?_
  unfold laws_markNodeS; dsimp only
  have hlt : nb < H.length := (List.getElem?_eq_some_iff.1 hH).1
  have hs0 : H.set nb ⟨v, ro, 3, enc (mkN k 0 ++ ns.drop 0), none⟩ = H := set_self (by simpa [mkN] using hH)
  simp
  generalize hB : H.length = B
  rw [← hs0]
  refine WLoop_fam (fun p : Nat × Int => [(0, A.ref nb v 0 ns.length), (1, i6 p.2), (5, i6 p.1)]) (fun p => H.set nb ⟨v, ro, 3, enc (mkN k p.1 ++ ns.drop p.1), none⟩) (fun p => ns.length - p.1)
    (fun p => p.1 ≤ ns.length ∧ p.2 = k + 3 * p.1) ?_ (0, k) ⟨Nat.zero_le _, by simp⟩
  rintro ⟨j, k'⟩ ⟨hj, hk'⟩ ih
  simp at hk' hj
  subst hk'
  have hlen : (mkN k j ++ ns.drop j).length = ns.length := by simp; omega
  simp [hlt]
  refine br_intro' (fun h => ?_) (fun h => ?_) <;> (have h0 := h) <;> (try simp at h) <;> try simp [h0, h]
  · have h' := h
    have hr : ro = false := by cases ro with | false => rfl | true => rw [hro rfl] at h; simp at h
    subst hr
    have h3 : j * 3 < ns.length * 3 := by omega
    have h4 : j * 3 + 1 < ns.length * 3 := by omega
    have h5 : j * 3 + 2 < ns.length * 3 := by omega
    have w1 : IntKind.i64.wrap (k + 3 * (j : Int) + 1) = k + 3 * j + 1 := wrap64 (by omega) (by omega)
    have w2 : IntKind.i64.wrap (k + 3 * (j : Int) + 1 + 1) = k + 3 * j + 2 := by rw [wrap64 (by omega) (by omega)]; omega
    have w3 : IntKind.i64.wrap (k + 3 * (j : Int) + 2 + 1) = k + 3 * j + 3 := by rw [wrap64 (by omega) (by omega)]; omega
    have hw : IntKind.i64.wrap ((j : Int) + 1) = j + 1 := wrap64 (by omega) (by omega)
    have hc : (j + (ns.length - j)) * 3 = ns.length * 3 := by rw [Nat.add_sub_cancel' hj]
    simp [h', hlt, hc, w1, w2, w3, h3, h4, h5]
    refine ck_intro' (by omega) ?_; simp [h', hlt, hc, w1, w2, w3, h3, h4, h5]
    refine ck_intro' (by omega) ?_; simp [h', hlt, hc, w1, w2, w3, h3, h4, h5]
    refine ck_intro' (by omega) ?_; simp [h', hlt, hc, w1, w2, w3, h3, h4, h5, hw]
    have e3 := enc_set (mkN k j ++ ns.drop j) j ⟨k + 3 * j, k + 3 * j + 1, k + 3 * j + 2⟩
    rw [mkN_set k ns j h'] at e3
    rw [e3]
    exact ih (j + 1, k + 3 * j + 3) ⟨h', by push_cast; omega⟩ (by simp; omega)
  · have e : j = ns.length := by omega
    subst e
    simp
    exact LeV.refl _ _ _
theorem shift_len {H T : List Blk} {nb : Nat} {x : Blk} (h : nb < H.length) : (H ++ T).set nb x = H.set nb x ++ T := set_left h x
theorem laws_markPool_m (H : List Blk) (nb v : Nat) (ro : Bool) (ns : List Nd) (k : Int) (hH : H[nb]? = some ⟨v, ro, 3, enc ns, none⟩) (hro : ro = true → ns = []) (hl : ns.length ≤ 4294967296) (hk : 0 ≤ k) (hk2 : k ≤ 4294967296) (hcl : Closed1 H.length H = true) : T 10 [.agg [.ref nb v 0 ns.length], i6 k] (H) (i6 (k + 3 * ns.length)) (H.set nb ⟨v, ro, 3, enc (mkN k ns.length), none⟩) := by
  refine semT' (S := (fun f => [38].contains f)) hm laws_markPool_ok (Nat.le_of_ble_eq_true rfl) ?_
  unfold laws_markPool; dsimp only
  have hlt : nb < H.length := (List.getElem?_eq_some_iff.1 hH).1
  simp
  refine WCall_t' rfl [nb] (laws_markNodeS_m (H ++ [_]) nb v ro ns k (by rw [get_left hlt]; exact hH) hro hl hk hk2) (by simp) (fun b hb _ => by simp at hb; rw [List.getElem?_set_ne (Ne.symm hb)]) ?_
  simp [set_left hlt]
  exact LeV.drop (by simp) (by simpa using Closed1_set (by simp) _ _ hcl) (by simp)
theorem enc_gets {ns : List Nd} {j : Nat} (h : j < ns.length) : (enc ns)[j * 3]? = some (i6 ns[j].k) ∧ (enc ns)[j * 3 + 1]? = some (i6 ns[j].a) ∧ (enc ns)[j * 3 + 2]? = some (i6 ns[j].b) := by
  obtain ⟨r, hr⟩ := enc_at h
  have e : ∀ i, (enc ns)[j * 3 + i]? = (i6 ns[j].k :: i6 ns[j].a :: i6 ns[j].b :: r)[i]? := fun i => by rw [← hr, List.getElem?_drop]
  exact ⟨e 0, e 1, e 2⟩
theorem enc_k {ns : List Nd} {j : Nat} (h : j < ns.length) {h' : j * 3 < (enc ns).length} : (enc ns)[j * 3] = i6 ns[j].k := by
  have := (enc_gets h).1
  rw [List.getElem?_eq_getElem h'] at this
  simpa using this
theorem enc_a {ns : List Nd} {j : Nat} (h : j < ns.length) {h' : j * 3 + 1 < (enc ns).length} : (enc ns)[j * 3 + 1] = i6 ns[j].a := by
  have := (enc_gets h).2.1
  rw [List.getElem?_eq_getElem h'] at this
  simpa using this
theorem enc_b {ns : List Nd} {j : Nat} (h : j < ns.length) {h' : j * 3 + 2 < (enc ns).length} : (enc ns)[j * 3 + 2] = i6 ns[j].b := by
  have := (enc_gets h).2.2
  rw [List.getElem?_eq_getElem h'] at this
  simpa using this
theorem laws_heldNodeS_c (n : Nat) (k : Int) (hl : n ≤ 4294967296) (hk : 0 ≤ k) (hk2 : k ≤ 4294967296) : T 40 [.sl n (enc (mkN k n)), i6 k] [] (i6 (k + 3 * n)) ([]) := by
  refine semT' (S := S0) hm laws_heldNodeS_ok (Nat.le_of_ble_eq_true rfl) ?_
  unfold laws_heldNodeS; dsimp only
  simp
  refine WLoop_fam (fun p : Nat × Int => [(0, .sl n (enc (mkN k n))), (1, i6 p.2), (5, i6 p.1)]) (fun _ => []) (fun p => n - p.1)
    (fun p => p.1 ≤ n ∧ p.2 = k + 3 * p.1) ?_ (0, k) ⟨Nat.zero_le _, by simp⟩
  rintro ⟨j, k'⟩ ⟨hj, hk'⟩ ih
  simp at hk' hj
  subst hk'
  simp
  refine br_intro' (fun h => ?_) (fun h => ?_) <;> (have h0 := h) <;> (try simp at h) <;> try simp [h0, h]
  · have h' := h
    obtain ⟨r, hr⟩ := enc_at (ns := mkN k n) (j := j) (by simpa using h)
    rw [mkN_get] at hr
    have h3 : 3 ≤ n * 3 - j * 3 := by omega
    have h4 : j * 3 < n * 3 := by omega
    have w1 : IntKind.i64.wrap (k + 3 * (j : Int) + 1) = k + 3 * j + 1 := wrap64 (by omega) (by omega)
    have w2 : IntKind.i64.wrap (k + 3 * (j : Int) + 1 + 1) = k + 3 * j + 2 := by rw [wrap64 (by omega) (by omega)]; omega
    have w3 : IntKind.i64.wrap (k + 3 * (j : Int) + 2 + 1) = k + 3 * j + 3 := by rw [wrap64 (by omega) (by omega)]; omega
    have hw : IntKind.i64.wrap ((j : Int) + 1) = j + 1 := wrap64 (by omega) (by omega)
    have hj' : j < (mkN k n).length := by simpa using h
    have h5 : j * 3 + 1 < n * 3 := by omega
    have h6 : j * 3 + 2 < n * 3 := by omega
    simp [h', h3, h4, h5, h6, enc_k hj', enc_a hj', enc_b hj', mkN_get, w1, w2, w3, hw]
    exact ih (j + 1, k + 3 * j + 3) ⟨h', by push_cast; omega⟩ (by simp; omega)
  · have e : j = n := by omega
    subst e
    exact LeV.ro rfl rfl (by simp)
theorem laws_heldNodeS_call {n : Nat} {k : Int} (hl : n ≤ 4294967296) (hk : 0 ≤ k) (hk2 : k ≤ 4294967296) {S : FuncId → Bool} {H : List Blk} {K : A → Dl → Prop} (hS : S 40 = false) (hK : K (i6 (k + 3 * n)) (.news [])) : @WCall' Go.Proofs.Try.prog S 40 [.sl n (enc (mkN k n)), i6 k] H ⟨K⟩ :=
  WCall_pure hS (laws_heldNodeS_c n k hl hk hk2) (by simp) (by simp) (by simp) hK
theorem laws_heldNodeS_k {n : Nat} {k : Int} (hl : n ≤ 4294967296) (hk : 0 ≤ k) (hk2 : k ≤ 4294967296) {S : FuncId → Bool} {H : List Blk} {K : A → Dl → Prop} {zs : List A} (hS : S 40 = false) (hv : viewL (viewA 8 H) zs = some [.sl n (enc (mkN k n)), i6 k]) (ho : noOwns zs = true ∨ nosl (i6 (k + 3 * n)) = true) (hK : K (i6 (k + 3 * n)) (.news [])) : @WCall' Go.Proofs.Try.prog S 40 zs H ⟨K⟩ :=
  WCall_pure hS (laws_heldNodeS_c n k hl hk hk2) hv ho (by simp) hK
theorem laws_heldPool_c (n : Nat) (k : Int) (hl : n ≤ 4294967296) (hk : 0 ≤ k) (hk2 : k ≤ 4294967296) : T 12 [.agg [.sl n (enc (mkN k n))], i6 k] [] (i6 (k + 3 * n)) ([]) := by
  refine semT' (S := S0) hm laws_heldPool_ok (Nat.le_of_ble_eq_true rfl) ?_
  unfold laws_heldPool; dsimp only
  simp
  refine laws_heldNodeS_call (n := n) (k := k) hl hk hk2 rfl ?_; simp
  have e : ¬ k + 3 * (n : Int) < 0 := by omega
  simp [e]
  exact LeV.ro rfl rfl (by simp)
theorem laws_heldPool_call {n : Nat} {k : Int} (hl : n ≤ 4294967296) (hk : 0 ≤ k) (hk2 : k ≤ 4294967296) {S : FuncId → Bool} {H : List Blk} {K : A → Dl → Prop} (hS : S 12 = false) (hK : K (i6 (k + 3 * n)) (.news [])) : @WCall' Go.Proofs.Try.prog S 12 [.agg [.sl n (enc (mkN k n))], i6 k] H ⟨K⟩ :=
  WCall_pure hS (laws_heldPool_c n k hl hk hk2) (by simp) (by simp) (by simp) hK
theorem laws_heldPool_k {n : Nat} {k : Int} (hl : n ≤ 4294967296) (hk : 0 ≤ k) (hk2 : k ≤ 4294967296) {S : FuncId → Bool} {H : List Blk} {K : A → Dl → Prop} {zs : List A} (hS : S 12 = false) (hv : viewL (viewA 8 H) zs = some [.agg [.sl n (enc (mkN k n))], i6 k]) (ho : noOwns zs = true ∨ nosl (i6 (k + 3 * n)) = true) (hK : K (i6 (k + 3 * n)) (.news [])) : @WCall' Go.Proofs.Try.prog S 12 zs H ⟨K⟩ :=
  WCall_pure hS (laws_heldPool_c n k hl hk hk2) hv ho (by simp) hK
end Go.Proofs.Ytpohfpnlepmebaa.C
