/- What the functions of the pool answer. Conditions: those that each theorem names. -/
import Derived.Test.YtijileoflejgpaaDoorXI
import Derived.Test.YtijileoflejgpaaDoorXSymU
import Derived.Test.YtijileoflejgpaaDoorXSymW
set_option linter.unusedVariables false
set_option linter.unusedSimpArgs false
namespace Go.Proofs.YtijileoflejgpaaDoor.C
open Go.Sym Go.Proofs.YtijileoflejgpaaDoor.I
def S0 : FuncId → Bool := fun _ => false
theorem hm : Go.Proofs.Tryd.prog.follows .mixedOrders = true := by kernel_rfl
abbrev T := SemT Go.Proofs.Tryd.prog

structure Nd where
  k : Int
  a : Int
  b : Int
deriving DecidableEq
theorem Nd_eq {x y : Nd} : x = y ↔ x.k = y.k ∧ x.a = y.a ∧ x.b = y.b := by cases x; cases y; simp
def encN (n : Nd) : List A := [i6 n.k, i6 n.a, i6 n.b]
def enc (ns : List Nd) : List A := ns.flatMap encN
theorem encN_len (n : Nd) : (encN n).length = 3 := rfl
@[simp] theorem enc_len (ns : List Nd) : (enc ns).length = ns.length * 3 := flat_len encN_len ns
@[simp] theorem enc_scals (ns : List Nd) : scals (enc ns) = true := scals_flat _ (fun _ => rfl) ns
theorem enc_at {ns : List Nd} {j : Nat} (h : j < ns.length) : ∃ r, (enc ns).drop (j * 3) = i6 ns[j].k :: i6 ns[j].a :: i6 ns[j].b :: r := flat_at encN_len (List.getElem?_eq_getElem h)
@[simp] theorem enc_view (n : Nat) (H : List Blk) (ns : List Nd) : viewL (viewA (n + 1) H) (enc ns) = some (enc ns) := viewL_scals _ (enc_scals ns)
@[simp] theorem enc_noOwns (ns : List Nd) : noOwns (enc ns) = true := noOwns_scals _ (enc_scals ns)
@[simp] theorem enc_nosls (ns : List Nd) : nosls (enc ns) = true := nosls_scals _ (enc_scals ns)
@[simp] theorem enc_shift (n : Nat) (ns : List Nd) : shiftAs n (enc ns) = enc ns := shiftAs_scals _ (enc_scals ns)
abbrev aN (n : Nd) : A := .agg [i6 n.k, i6 n.a, i6 n.b]
abbrev aP (ns : List Nd) : A := .agg [.sl ns.length (enc ns)]

def partsF (k : Int) : Int := if k = 1 then 0 else if k = 5 ∨ k = 7 then 1 else if k = 2 ∨ k = 3 ∨ k = 4 ∨ k = 6 ∨ k = 8 then 2 else -1

def inF (x lo hi : Int) : Bool := decide (lo ≤ x ∧ x ≤ hi)
theorem inF_iff {x lo hi : Int} : inF x lo hi = true ↔ lo ≤ x ∧ x ≤ hi := by simp [inF]
theorem spec_l1In_c (x lo hi : Int)  : T 43 [i6 x, i6 lo, i6 hi] [] (.bool (inF x lo hi)) ([]) := by
  refine semT' (S := S0) hm spec_l1In_ok (Nat.le_of_ble_eq_true rfl) ?_
  unfold spec_l1In; dsimp only
  simp
  by_cases h : lo ≤ x
  · simp [h]
    exact LeV.eq (by simp [inF, h]) rfl
  · simp [h]
    exact LeV.eq (by simp [inF, h]) rfl
theorem spec_l1In_call {x lo hi : Int}  {S : FuncId → Bool} {H : List Blk} {K : A → Dl → Prop} (hS : S 43 = false) (hK : K (.bool (inF x lo hi)) (.news [])) : @WCall' Go.Proofs.Tryd.prog S 43 [i6 x, i6 lo, i6 hi] H ⟨K⟩ :=
  WCall_pure hS (spec_l1In_c x lo hi) (by simp) (by simp) (by simp) hK
theorem spec_l1In_k {x lo hi : Int}  {S : FuncId → Bool} {H : List Blk} {K : A → Dl → Prop} {zs : List A} (hS : S 43 = false) (hv : viewL (viewA 8 H) zs = some [i6 x, i6 lo, i6 hi]) (ho : noOwns zs = true ∨ nosl (.bool (inF x lo hi)) = true) (hK : K (.bool (inF x lo hi)) (.news [])) : @WCall' Go.Proofs.Tryd.prog S 43 zs H ⟨K⟩ :=
  WCall_pure hS (spec_l1In_c x lo hi) hv ho (by simp) hK
theorem spec_l1Parts_c (x : Int)  : T 31 [i6 x] [] (i6 (partsF x)) ([]) := by
  refine semT' (S := S0) hm spec_l1Parts_ok (Nat.le_of_ble_eq_true rfl) ?_
  unfold spec_l1Parts; dsimp only
  simp
  repeat (any_goals (first | (refine br_intro' (fun h => ?_) (fun h => ?_) <;> (have h0 := h) <;> (try simp at h) <;> try simp [h0, h])))
  all_goals exact LeV.eq (by simp [partsF, *]) rfl
theorem spec_l1Parts_call {x : Int}  {S : FuncId → Bool} {H : List Blk} {K : A → Dl → Prop} (hS : S 31 = false) (hK : K (i6 (partsF x)) (.news [])) : @WCall' Go.Proofs.Tryd.prog S 31 [i6 x] H ⟨K⟩ :=
  WCall_pure hS (spec_l1Parts_c x) (by simp) (by simp) (by simp) hK
theorem spec_l1Parts_k {x : Int}  {S : FuncId → Bool} {H : List Blk} {K : A → Dl → Prop} {zs : List A} (hS : S 31 = false) (hv : viewL (viewA 8 H) zs = some [i6 x]) (ho : noOwns zs = true ∨ nosl (i6 (partsF x)) = true) (hK : K (i6 (partsF x)) (.news [])) : @WCall' Go.Proofs.Tryd.prog S 31 zs H ⟨K⟩ :=
  WCall_pure hS (spec_l1Parts_c x) hv ho (by simp) hK
def rightF (n : Nd) (many : Int) : Bool :=
  if partsF n.k = 0 then inF n.a 0 199 && decide (n.b = 0)
  else if partsF n.k = 1 then inF n.a 0 (many - 1) && decide (n.b = 0)
  else if partsF n.k = 2 then inF n.a 0 (many - 1) && inF n.b 0 (many - 1) && (decide (n.k ≠ 8) || decide (n.a ≤ n.b))
  else false
theorem spec_l1Right_c (n : Nd) (many : Int) (h1 : 0 ≤ many) (h2 : many < 9223372036854775808) : T 54 [aN n, i6 many] [] (.bool (rightF n many)) ([]) := by
  refine semT' (S := S0) hm spec_l1Right_ok (Nat.le_of_ble_eq_true rfl) ?_
  unfold spec_l1Right; dsimp only
  have hw : IntKind.i64.wrap (many - 1) = many - 1 := wrap64 (by omega) (by omega)
  simp [hw]
  repeat (any_goals (first | (refine br_intro' (fun h => ?_) (fun h => ?_) <;> (have h0 := h) <;> (try simp at h) <;> try simp [h0, h, hw]) | (refine spec_l1Parts_call rfl ?_; simp [hw]) | (refine spec_l1In_call rfl ?_; simp [hw])))
  all_goals exact LeV.ro rfl rfl (by first | (simp [rightF, *]; done) | (simp only [viewA, rightF]; simp only [if_neg ‹¬partsF n.k = 0›, if_neg ‹¬partsF n.k = 1›, if_pos ‹partsF n.k = 2›]; simp [*]))
theorem spec_l1Right_call {n : Nd} {many : Int} (h1 : 0 ≤ many) (h2 : many < 9223372036854775808) {S : FuncId → Bool} {H : List Blk} {K : A → Dl → Prop} (hS : S 54 = false) (hK : K (.bool (rightF n many)) (.news [])) : @WCall' Go.Proofs.Tryd.prog S 54 [aN n, i6 many] H ⟨K⟩ :=
  WCall_pure hS (spec_l1Right_c n many h1 h2) (by simp) (by simp) (by simp) hK
theorem spec_l1Right_k {n : Nd} {many : Int} (h1 : 0 ≤ many) (h2 : many < 9223372036854775808) {S : FuncId → Bool} {H : List Blk} {K : A → Dl → Prop} {zs : List A} (hS : S 54 = false) (hv : viewL (viewA 8 H) zs = some [aN n, i6 many]) (ho : noOwns zs = true ∨ nosl (.bool (rightF n many)) = true) (hK : K (.bool (rightF n many)) (.news [])) : @WCall' Go.Proofs.Tryd.prog S 54 zs H ⟨K⟩ :=
  WCall_pure hS (spec_l1Right_c n many h1 h2) hv ho (by simp) hK
def findF : List Nd → Nd → Int → Int
  | [], _, _ => -1
  | x :: xs, n, i => if x = n then i else findF xs n (i + 1)
theorem spec_l1Find_c (ns : List Nd) (n : Nd) (hl : ns.length < 9223372036854775807) : T 55 [aP ns, aN n] [] (i6 (findF ns n 0)) ([]) := by
  refine semT' (S := S0) hm spec_l1Find_ok (Nat.le_of_ble_eq_true rfl) ?_
  unfold spec_l1Find; dsimp only
  simp
  refine WLoop_fam (fun j : Nat => [(2, A.ptr 0 0 0), (3, A.ptr 1 0 0), (5, i6 j)]) (fun _ => [⟨0, false, 1, [A.sl ns.length (enc ns)], none⟩, ⟨0, false, 1, [i6 n.k, i6 n.a, i6 n.b], none⟩]) (fun j => ns.length - j)
    (fun j => j ≤ ns.length ∧ findF ns n 0 = findF (ns.drop j) n j) ?_ 0 ⟨Nat.zero_le _, rfl⟩
  intro j ⟨hj, hf⟩ ih
  simp
  refine br_intro' (fun h => ?_) (fun h => ?_) <;> (have h0 := h) <;> (try simp at h) <;> try simp [h0, h]
  · obtain ⟨r, hr⟩ := enc_at h
    have h3 : 3 ≤ ns.length * 3 - j * 3 := by omega
    have hd : ns.drop j = ns[j] :: ns.drop (j + 1) := List.drop_eq_getElem_cons h
    have hw : IntKind.i64.wrap ((j : Int) + 1) = j + 1 := wrap64 (by omega) (by omega)
    simp [h3, hr]
    have h' := h
    first | (refine ck_intro' (by kernel_rfl) ?_; try simp) | skip
    refine br_intro' (fun h => ?_) (fun h => ?_) <;> (have h0 := h) <;> (try simp at h) <;> try simp [h0, h, hr]
    · exact LeV.ro rfl rfl (by rw [hf, hd, findF, if_pos (Nd_eq.2 h)]; rfl)
    · rw [hw]
      refine ih (j + 1) ⟨h', ?_⟩ (by omega)
      rw [hf, hd, findF, if_neg (by rw [Nd_eq]; rintro ⟨a, b, c⟩; exact h a b c)]
      rfl
  · exact LeV.ro rfl rfl (by simp [hf, findF, List.drop_of_length_le h])
theorem spec_l1Find_call {ns : List Nd} {n : Nd} (hl : ns.length < 9223372036854775807) {S : FuncId → Bool} {H : List Blk} {K : A → Dl → Prop} (hS : S 55 = false) (hK : K (i6 (findF ns n 0)) (.news [])) : @WCall' Go.Proofs.Tryd.prog S 55 [aP ns, aN n] H ⟨K⟩ :=
  WCall_pure hS (spec_l1Find_c ns n hl) (by simp) (by simp) (by simp) hK
theorem spec_l1Find_k {ns : List Nd} {n : Nd} (hl : ns.length < 9223372036854775807) {S : FuncId → Bool} {H : List Blk} {K : A → Dl → Prop} {zs : List A} (hS : S 55 = false) (hv : viewL (viewA 8 H) zs = some [aP ns, aN n]) (ho : noOwns zs = true ∨ nosl (i6 (findF ns n 0)) = true) (hK : K (i6 (findF ns n 0)) (.news [])) : @WCall' Go.Proofs.Tryd.prog S 55 zs H ⟨K⟩ :=
  WCall_pure hS (spec_l1Find_c ns n hl) hv ho (by simp) hK
def okFrom (ns : List Nd) (j : Nat) : Bool := (List.range' j (ns.length - j)).all fun i => rightF (ns.getD i ⟨0, 0, 0⟩) i && decide (findF ns (ns.getD i ⟨0, 0, 0⟩) 0 = i)
theorem okFrom_at {ns : List Nd} {j : Nat} (h : j < ns.length) : okFrom ns j = (rightF ns[j] j && decide (findF ns ns[j] 0 = j) && okFrom ns (j + 1)) := by
  have : ns.length - j = (ns.length - (j + 1)) + 1 := by omega
  simp only [okFrom]
  rw [this, List.range'_succ, List.all_cons]
  simp [h]
theorem okFrom_end {ns : List Nd} {j : Nat} (h : ns.length ≤ j) : okFrom ns j = true := by simp [okFrom, Nat.sub_eq_zero_of_le h]
def poolF (ns : List Nd) : Bool := decide (ns.length ≤ 500) && okFrom ns 0
theorem spec_PoolOk_c (ns : List Nd)  : T 41 [aP ns] [] (.bool (poolF ns)) ([]) := by
  refine semT' (S := S0) hm spec_PoolOk_ok (Nat.le_of_ble_eq_true rfl) ?_
  unfold spec_PoolOk; dsimp only
  simp
  refine br_intro' (fun h => ?_) (fun h => ?_) <;> (have h0 := h) <;> (try simp at h) <;> try simp [h0, h]
  · exact LeV.ro rfl rfl (by simp [poolF]; omega)
  refine WLoop_fam (fun j : Nat => [(1, A.ptr 0 0 0), (3, i6 j)]) (fun _ => [⟨0, false, 1, [A.sl ns.length (enc ns)], none⟩]) (fun j => ns.length - j)
    (fun j => j ≤ ns.length ∧ poolF ns = okFrom ns j) ?_ 0 ⟨Nat.zero_le _, by simp [poolF]; omega⟩
  intro j ⟨hj, hf⟩ ih
  simp
  refine br_intro' (fun h => ?_) (fun h => ?_) <;> (have h0 := h) <;> (try simp at h) <;> try simp [h0, h]
  · rename_i h5
    obtain ⟨r, hr⟩ := enc_at h
    have h3 : 3 ≤ ns.length * 3 - j * 3 := by omega
    have hw : IntKind.i64.wrap ((j : Int) + 1) = j + 1 := wrap64 (by omega) (by omega)
    simp [h3, hr]
    have h' := h
    refine spec_l1Right_call (n := ns[j]) (by omega) (by omega) rfl ?_; simp
    refine br_intro' (fun g => ?_) (fun g => ?_) <;> simp [g, h3, hr, h']
    · refine spec_l1Find_call (ns := ns) (n := ns[j]) (by omega) rfl ?_; simp
      first | (refine ck_intro' (by kernel_rfl) ?_; try simp) | skip
      refine br_intro' (fun h => ?_) (fun h => ?_) <;> (have h0 := h) <;> (try simp at h) <;> try simp [h0, h]
      · rw [hw]
        exact ih (j + 1) ⟨h', by rw [hf, okFrom_at h', g, h]; simp⟩ (by omega)
      · exact LeV.ro rfl rfl (by rw [hf, okFrom_at h']; simp [h])
    · first | (refine ck_intro' (by kernel_rfl) ?_; try simp) | skip
      exact LeV.ro rfl rfl (by rw [hf, okFrom_at h', g]; simp)
  · exact LeV.ro rfl rfl (by simp [hf, okFrom_end h])
theorem spec_PoolOk_call {ns : List Nd}  {S : FuncId → Bool} {H : List Blk} {K : A → Dl → Prop} (hS : S 41 = false) (hK : K (.bool (poolF ns)) (.news [])) : @WCall' Go.Proofs.Tryd.prog S 41 [aP ns] H ⟨K⟩ :=
  WCall_pure hS (spec_PoolOk_c ns) (by simp) (by simp) (by simp) hK
theorem spec_PoolOk_k {ns : List Nd}  {S : FuncId → Bool} {H : List Blk} {K : A → Dl → Prop} {zs : List A} (hS : S 41 = false) (hv : viewL (viewA 8 H) zs = some [aP ns]) (ho : noOwns zs = true ∨ nosl (.bool (poolF ns)) = true) (hK : K (.bool (poolF ns)) (.news [])) : @WCall' Go.Proofs.Tryd.prog S 41 zs H ⟨K⟩ :=
  WCall_pure hS (spec_PoolOk_c ns) hv ho (by simp) hK
end Go.Proofs.YtijileoflejgpaaDoor.C

set_option linter.unusedVariables false
set_option linter.unusedSimpArgs false
namespace Go.Proofs.YtijileoflejgpaaDoor.C
open Go.Sym Go.Proofs.YtijileoflejgpaaDoor.I
@[simp] theorem enc_inAs (m : Nat) (ns : List Nd) : inAs m (enc ns) = true := inAs_scals _ (enc_scals ns)
@[simp] theorem enc_tells (H H' : List Blk) (g : List (Option Nat)) (ns : List Nd) : Tells H H' g (enc ns) (enc ns) := Tells_scals _ (enc_scals ns)
@[simp] theorem enc_one (ns : List Nd) : (enc ns).all A.one = true := one_scals _ (enc_scals ns)
theorem findF_ge (n : Nd) : ∀ (ns : List Nd) (i : Int), findF ns n i = -1 ∨ i ≤ findF ns n i
  | [], i => .inl rfl
  | x :: xs, i => by
    unfold findF
    split
    · exact .inr (Int.le_refl i)
    · rcases findF_ge n xs (i + 1) with h | h
      · exact .inl h
      · exact .inr (by omega)
theorem findF_first : ∀ (ns : List Nd) (j : Nat) (i : Int) (h : j < ns.length), 0 ≤ i → (findF ns ns[j] i = i + j ↔ ns[j] ∉ ns.take j)
  | x :: xs, 0, i, _, hi => by simp [findF]
  | x :: xs, j + 1, i, h, hi => by
    have hj : j < xs.length := by simpa using h
    have ih := findF_first xs j (i + 1) hj (by omega)
    simp only [List.getElem_cons_succ, List.take_succ_cons, List.mem_cons, not_or]
    unfold findF
    by_cases hx : x = xs[j]
    · rw [if_pos hx]
      simp [← hx]
      omega
    · rw [if_neg hx, show i + ((j + 1 : Nat) : Int) = i + 1 + j by push_cast; omega, ih]
      exact ⟨fun h => ⟨fun e => hx e.symm, h⟩, fun h => h.2⟩
theorem impl_inRange_c (x lo hi : Int)  : T 49 [i6 x, i6 lo, i6 hi] [] (.bool (inF x lo hi)) ([]) := by
  refine semT' (S := S0) hm impl_inRange_ok (Nat.le_of_ble_eq_true rfl) ?_
  unfold impl_inRange; dsimp only
  simp
  by_cases h : lo ≤ x
  · simp [h]
    exact LeV.eq (by simp [inF, h]) rfl
  · simp [h]
    exact LeV.eq (by simp [inF, h]) rfl
theorem impl_inRange_call {x lo hi : Int}  {S : FuncId → Bool} {H : List Blk} {K : A → Dl → Prop} (hS : S 49 = false) (hK : K (.bool (inF x lo hi)) (.news [])) : @WCall' Go.Proofs.Tryd.prog S 49 [i6 x, i6 lo, i6 hi] H ⟨K⟩ :=
  WCall_pure hS (impl_inRange_c x lo hi) (by simp) (by simp) (by simp) hK
theorem impl_inRange_k {x lo hi : Int}  {S : FuncId → Bool} {H : List Blk} {K : A → Dl → Prop} {zs : List A} (hS : S 49 = false) (hv : viewL (viewA 8 H) zs = some [i6 x, i6 lo, i6 hi]) (ho : noOwns zs = true ∨ nosl (.bool (inF x lo hi)) = true) (hK : K (.bool (inF x lo hi)) (.news [])) : @WCall' Go.Proofs.Tryd.prog S 49 zs H ⟨K⟩ :=
  WCall_pure hS (impl_inRange_c x lo hi) hv ho (by simp) hK
theorem impl_count_c (x : Int)  : T 51 [i6 x] [] (i6 (partsF x)) ([]) := by
  refine semT' (S := S0) hm impl_count_ok (Nat.le_of_ble_eq_true rfl) ?_
  unfold impl_count; dsimp only
  simp
  repeat (any_goals (first | (refine br_intro' (fun h => ?_) (fun h => ?_) <;> (have h0 := h) <;> (try simp at h) <;> try simp [h0, h])))
  all_goals exact LeV.eq (by simp [partsF, *]) rfl
theorem impl_count_call {x : Int}  {S : FuncId → Bool} {H : List Blk} {K : A → Dl → Prop} (hS : S 51 = false) (hK : K (i6 (partsF x)) (.news [])) : @WCall' Go.Proofs.Tryd.prog S 51 [i6 x] H ⟨K⟩ :=
  WCall_pure hS (impl_count_c x) (by simp) (by simp) (by simp) hK
theorem impl_count_k {x : Int}  {S : FuncId → Bool} {H : List Blk} {K : A → Dl → Prop} {zs : List A} (hS : S 51 = false) (hv : viewL (viewA 8 H) zs = some [i6 x]) (ho : noOwns zs = true ∨ nosl (i6 (partsF x)) = true) (hK : K (i6 (partsF x)) (.news [])) : @WCall' Go.Proofs.Tryd.prog S 51 zs H ⟨K⟩ :=
  WCall_pure hS (impl_count_c x) hv ho (by simp) hK
theorem impl_nodeOk_c (n : Nd) (many : Int) (h1 : 0 ≤ many) (h2 : many < 9223372036854775808) : T 56 [aN n, i6 many] [] (.bool (rightF n many)) ([]) := by
  refine semT' (S := S0) hm impl_nodeOk_ok (Nat.le_of_ble_eq_true rfl) ?_
  unfold impl_nodeOk; dsimp only
  have hw : IntKind.i64.wrap (many - 1) = many - 1 := wrap64 (by omega) (by omega)
  simp [hw]
  repeat (any_goals (first | (refine br_intro' (fun h => ?_) (fun h => ?_) <;> (have h0 := h) <;> (try simp at h) <;> try simp [h0, h, hw]) | (refine impl_count_call rfl ?_; simp [hw]) | (refine impl_inRange_call rfl ?_; simp [hw])))
  all_goals exact LeV.ro rfl rfl (by first | (simp [rightF, *]; done) | (simp only [viewA, rightF]; simp only [if_neg ‹¬partsF n.k = 0›, if_neg ‹¬partsF n.k = 1›, if_pos ‹partsF n.k = 2›]; simp [*]))
theorem impl_nodeOk_call {n : Nd} {many : Int} (h1 : 0 ≤ many) (h2 : many < 9223372036854775808) {S : FuncId → Bool} {H : List Blk} {K : A → Dl → Prop} (hS : S 56 = false) (hK : K (.bool (rightF n many)) (.news [])) : @WCall' Go.Proofs.Tryd.prog S 56 [aN n, i6 many] H ⟨K⟩ :=
  WCall_pure hS (impl_nodeOk_c n many h1 h2) (by simp) (by simp) (by simp) hK
theorem impl_nodeOk_k {n : Nd} {many : Int} (h1 : 0 ≤ many) (h2 : many < 9223372036854775808) {S : FuncId → Bool} {H : List Blk} {K : A → Dl → Prop} {zs : List A} (hS : S 56 = false) (hv : viewL (viewA 8 H) zs = some [aN n, i6 many]) (ho : noOwns zs = true ∨ nosl (.bool (rightF n many)) = true) (hK : K (.bool (rightF n many)) (.news [])) : @WCall' Go.Proofs.Tryd.prog S 56 zs H ⟨K⟩ :=
  WCall_pure hS (impl_nodeOk_c n many h1 h2) hv ho (by simp) hK
def keyN (n : Nd) : List Int := [n.k, n.a, n.b]
theorem keyN_inj {x y : Nd} : keyN x = keyN y ↔ x = y := by rw [Nd_eq]; simp [keyN]
@[simp] theorem keyN_len (n : Nd) : (keyN n).length = 3 := rfl
def mk1 (xs : List Nd) : List (List Int × Int) := xs.map fun n => (keyN n, 1)
theorem mcnt_mk1 (n : Nd) : ∀ (xs : List Nd), mcnt (mk1 xs) (keyN n) = if n ∈ xs then 1 else 0
  | [] => rfl
  | x :: xs => by
    by_cases h : n = x
    · subst h; simp [mk1, mcnt]
    · have hk : ¬ keyN n = keyN x := fun e => h (keyN_inj.1 e)
      have := mcnt_mk1 n xs
      simp only [mk1] at this
      simp [mk1, mcnt, hk, h, this]
theorem mcnt_cons (ks : List Int) (v : Int) (l : List (List Int × Int)) : mcnt ((ks, v) :: l) ks = v := by simp [mcnt]
theorem poolF_false {ns : List Nd} {j : Nat} (h : j < ns.length) (g : rightF ns[j] j = false ∨ ns[j] ∈ ns.take j) (hl : poolF ns = okFrom ns j) : poolF ns = false := by
  rw [hl, okFrom_at h]
  rcases g with g | g
  · simp [g]
  · have := findF_first ns j 0 h (Int.le_refl 0)
    rw [Int.zero_add] at this
    have e : decide (findF ns ns[j] 0 = j) = false := by simpa using fun e => this.1 e g
    simp [e]
theorem poolF_true {ns : List Nd} {j : Nat} (h : j < ns.length) (g : rightF ns[j] j = true) (k : ns[j] ∉ ns.take j) (hl : poolF ns = okFrom ns j) : poolF ns = okFrom ns (j + 1) := by
  have := findF_first ns j 0 h (Int.le_refl 0)
  rw [Int.zero_add] at this
  rw [hl, okFrom_at h, g]
  simp [this.2 k]
theorem key_fold (n : Nd) : [n.k, n.a, n.b] = keyN n := rfl
theorem impl_PoolOk_c (ns : List Nd)  : T 48 [aP ns] [] (.bool (poolF ns)) ([]) := by
  refine semT' (S := S0) hm impl_PoolOk_ok (Nat.le_of_ble_eq_true rfl) ?_
  unfold impl_PoolOk; dsimp only
  simp
  refine br_intro' (fun h => ?_) (fun h => ?_) <;> (have h0 := h) <;> (try simp at h) <;> try simp [h0, h]
  · exact LeV.ro rfl rfl (by simp [poolF]; omega)
  refine WLoop_fam (fun j : Nat => [(3, A.mref 1 0), (12, A.sl ns.length (enc ns)), (13, i6 ns.length), (14, i6 j)]) (fun j => [⟨0, false, 1, [A.sl ns.length (enc ns)], none⟩, ⟨0, false, 1, [], some (true, mk1 (ns.take j).reverse)⟩]) (fun j => ns.length - j)
    (fun j => j ≤ ns.length ∧ poolF ns = okFrom ns j) ?_ 0 ⟨Nat.zero_le _, by simp [poolF]; omega⟩
  intro j ⟨hj, hf⟩ ih
  simp
  refine br_intro' (fun h => ?_) (fun h => ?_) <;> (have h0 := h) <;> (try simp at h) <;> try simp [h0, h]
  · obtain ⟨r, hr⟩ := enc_at h
    have h3 : 3 ≤ ns.length * 3 - j * 3 := by omega
    have hw : IntKind.i64.wrap ((j : Int) + 1) = j + 1 := wrap64 (by omega) (by omega)
    have h' := h
    simp [h3, hr, h', key_fold]
    have w1 : IntKind.i64.wrap 1 = 1 := wrap64 (by omega) (by omega)
    have w2 : IntKind.i64.wrap 2 = 2 := wrap64 (by omega) (by omega)
    first | (refine ck_intro' (by kernel_rfl) ?_; try simp [mcnt_cons, key_fold]) | skip
    by_cases hm : ns[j] ∈ ns.take j
    · have hc : mcnt (mk1 (ns.take j).reverse) (keyN ns[j]) = 1 := by simp [mcnt_mk1, hm]
      have hp := poolF_false h' (.inr hm) hf
      simp [hc, w2, mcnt_cons]
      exact LeV.ro rfl rfl (by rw [hp]; rfl)
    · have hc : mcnt (mk1 (ns.take j).reverse) (keyN ns[j]) = 0 := by simp [mcnt_mk1, hm]
      simp [hc, w1, mcnt_cons]
      refine impl_nodeOk_call (n := ns[j]) (by omega) (by omega) rfl ?_; simp
      refine br_intro' (fun g => ?_) (fun g => ?_) <;> simp [g]
      · rw [hw]
        have hk : (keyN ns[j], (1 : Int)) :: mk1 (ns.take j).reverse = mk1 (ns.take (j + 1)).reverse := by
          rw [List.take_succ_eq_append_getElem h', List.reverse_append]; rfl
        refine WLoop_drop [⟨0, false, 1, [A.sl ns.length (enc ns)], none⟩, ⟨0, false, 1, [], some (true, mk1 (ns.take (j + 1)).reverse)⟩] [_] (by rw [← hk]; rfl) (by simp) (by simp) (by simp) ?_
        exact ih (j + 1) ⟨h', poolF_true h' g hm hf⟩ (by omega)
      · exact LeV.ro rfl rfl (by rw [poolF_false h' (.inl g) hf]; rfl)
  · exact LeV.ro rfl rfl (by simp [hf, okFrom_end h])
theorem impl_PoolOk_call {ns : List Nd}  {S : FuncId → Bool} {H : List Blk} {K : A → Dl → Prop} (hS : S 48 = false) (hK : K (.bool (poolF ns)) (.news [])) : @WCall' Go.Proofs.Tryd.prog S 48 [aP ns] H ⟨K⟩ :=
  WCall_pure hS (impl_PoolOk_c ns) (by simp) (by simp) (by simp) hK
theorem impl_PoolOk_k {ns : List Nd}  {S : FuncId → Bool} {H : List Blk} {K : A → Dl → Prop} {zs : List A} (hS : S 48 = false) (hv : viewL (viewA 8 H) zs = some [aP ns]) (ho : noOwns zs = true ∨ nosl (.bool (poolF ns)) = true) (hK : K (.bool (poolF ns)) (.news [])) : @WCall' Go.Proofs.Tryd.prog S 48 zs H ⟨K⟩ :=
  WCall_pure hS (impl_PoolOk_c ns) hv ho (by simp) hK
end Go.Proofs.YtijileoflejgpaaDoor.C

set_option linter.unusedVariables false
set_option linter.unusedSimpArgs false
namespace Go.Proofs.YtijileoflejgpaaDoor.C
open Go.Sym Go.Proofs.YtijileoflejgpaaDoor.I
abbrev pblk (ns : List Nd) : Blk := ⟨ns.length, decide (ns.length = 0), 3, enc ns, none⟩
abbrev pref (b : Nat) (ns : List Nd) : A := .ref b ns.length 0 ns.length
@[simp] theorem enc_take (ns : List Nd) : (enc ns).take (ns.length * 3) = enc ns := List.take_of_length_le (by simp)
@[simp] theorem enc_nil : enc [] = [] := rfl
theorem enc_snoc (ns : List Nd) (n : Nd) : enc (ns ++ [n]) = enc ns ++ [i6 n.k, i6 n.a, i6 n.b] := by simp [enc, encN]
mutual
theorem inA_mono {n m : Nat} (h : n ≤ m) : ∀ (x : A), inA n x = true → inA m x = true
  | .bool _, _ => rfl
  | .int _ _, _ => rfl
  | .str _, _ => rfl
  | .nil, _ => rfl
  | .nilp, _ => rfl
  | .ub, _ => rfl
  | .err _, _ => rfl
  | .nilf, _ => rfl
  | .stamp _ _ _ _, g => by simp [inA] at g ⊢; omega
  | .ref b _ _ _, g => by simp [inA] at g ⊢; omega
  | .ptr b _ _, g => by simp [inA] at g ⊢; omega
  | .mref b _, g => by simp [inA] at g ⊢; omega
  | .sl _ cs, g => by simp only [inA] at g ⊢; first | exact g | exact inAs_mono h cs g
  | .pt cs, g => by simp only [inA] at g ⊢; first | exact g | exact inAs_mono h cs g
  | .fn _ cs, g => by simp only [inA] at g ⊢; exact inAs_mono h cs g
  | .agg cs, g => by simp only [inA] at g ⊢; exact inAs_mono h cs g
  | .tup cs, g => by simp only [inA] at g ⊢; exact inAs_mono h cs g
theorem inAs_mono {n m : Nat} (h : n ≤ m) : ∀ (xs : List A), inAs n xs = true → inAs m xs = true
  | [], _ => rfl
  | x :: xs, g => by
    simp only [inAs, Bool.and_eq_true] at g ⊢
    exact ⟨inA_mono h x g.1, inAs_mono h xs g.2⟩
end
theorem Closed1_mono {n m : Nat} (h : n ≤ m) : ∀ (H : List Blk), Closed1 n H = true → Closed1 m H = true
  | [], _ => rfl
  | k :: H, g => by
    simp only [Closed1_cons, Bool.and_eq_true] at g ⊢
    exact ⟨inAs_mono h _ g.1, Closed1_mono h H g.2⟩
theorem Closed1_app {n : Nat} {T : List Blk} (g : Closed1 n T = true) : ∀ (H : List Blk), Closed1 n H = true → Closed1 n (H ++ T) = true
  | [], _ => g
  | k :: H, h => by
    simp only [List.cons_append, Closed1_cons, Bool.and_eq_true] at h ⊢
    exact ⟨h.1, Closed1_app g H h.2⟩
theorem Closed1_more {H T : List Blk} (h : Closed1 H.length H = true) (g : Closed1 (H.length + T.length) T = true) : Closed1 (H ++ T).length (H ++ T) = true := by
  rw [List.length_append]
  exact Closed1_app g _ (Closed1_mono (by omega) _ h)
theorem Closed1_box {H : List Blk} {k : Blk} (h : Closed1 H.length H = true) (g : inAs (H.length + 1) k.cs = true) : Closed1 (H ++ [k]).length (H ++ [k]) = true := by
  rw [List.length_append]
  exact Closed1_app (by simpa using g) _ (Closed1_mono (by simp) _ h)
/-- A node as it stands: a shared one with the lesser part first. -/
def normN (n : Nd) : Nd := if n.k = 8 then ⟨8, if n.b < n.a then n.b else n.a, if n.a < n.b then n.b else n.a⟩ else n
/-- What adding a node to a right pool comes to. -/
def addF (ns : List Nd) (n : Nd) : List Nd × Int :=
  if rightF (normN n) ns.length = false then (ns, -1)
  else if 0 ≤ findF ns (normN n) 0 then (ns, findF ns (normN n) 0)
  else if 500 ≤ ns.length then (ns, -1)
  else (ns ++ [normN n], ns.length)
/-- A heap in which a pool stands: its row nb, and what names it at place off of row b. -/
def pset (H : List Blk) (b off nb vb eb : Nat) (cb : List A) (ns : List Nd) : List Blk := (H.set nb (pblk ns)).set b ⟨vb, false, eb, cb.set off (pref nb ns), none⟩
structure PIn (H : List Blk) (b off nb : Nat) (cb : List A) : Prop where
  blt : b < H.length
  nlt : nb < H.length
  ne : b ≠ nb
  olt : off < cb.length
  cl : Closed1 H.length H = true
  inc : inAs H.length cb = true
  rest : ∃ r, ∀ G : List Blk, (∀ q, q < H.length → q ≠ b → q ≠ nb → G[q]? = H[q]?) → viewL (viewA 7 G) (cb.drop (off + 1)) = some r
@[simp] theorem pset_len (H : List Blk) (b off nb vb eb : Nat) (cb : List A) (ns : List Nd) : (pset H b off nb vb eb cb ns).length = H.length := by simp [pset]
section
variable {H : List Blk} {b off nb : Nat} {cb : List A} (h : PIn H b off nb cb) (vb eb : Nat) (ns : List Nd)
include h
theorem PIn.at_b : (pset H b off nb vb eb cb ns)[b]? = some ⟨vb, false, eb, cb.set off (pref nb ns), none⟩ := by simp [pset, h.blt]
theorem PIn.at_nb : (pset H b off nb vb eb cb ns)[nb]? = some (pblk ns) := by simp [pset, h.ne, h.nlt]
theorem PIn.closed : Closed1 H.length (pset H b off nb vb eb cb ns) = true := by
  refine Closed1_set ?_ _ _ (Closed1_set (by simp) _ _ h.cl)
  exact inAs_set (by simpa using h.nlt) _ _ h.inc
theorem PIn.set (ns' : List Nd) : ((pset H b off nb vb eb cb ns).set nb (pblk ns')).set b ⟨vb, false, eb, (cb.set off (pref nb ns)).set off (pref nb ns'), none⟩ = pset H b off nb vb eb cb ns' := by
  simp only [pset, List.set_set]
  rw [List.set_comm _ _ h.ne, List.set_set, List.set_set]
end
end Go.Proofs.YtijileoflejgpaaDoor.C

set_option linter.unusedVariables false
set_option linter.unusedSimpArgs false
namespace Go.Proofs.YtijileoflejgpaaDoor.C
open Go.Sym Go.Proofs.YtijileoflejgpaaDoor.I
theorem pset_pset {H : List Blk} {b off nb : Nat} {cb : List A} (h : PIn H b off nb cb) (vb eb : Nat) (ns ns' : List Nd) : pset (pset H b off nb vb eb cb ns) b off nb vb eb cb ns' = pset H b off nb vb eb cb ns' := by
  simp only [pset]
  rw [List.set_comm _ _ h.ne, List.set_set, List.set_set]
theorem pset_other {H : List Blk} {b off nb : Nat} {cb : List A} (vb eb : Nat) (ns : List Nd) {q : Nat} (h1 : q ≠ b) (h2 : q ≠ nb) : (pset H b off nb vb eb cb ns)[q]? = H[q]? := by
  simp only [pset]
  rw [List.getElem?_set_ne (Ne.symm h1), List.getElem?_set_ne (Ne.symm h2)]
theorem PIn.pset {H : List Blk} {b off nb : Nat} {cb : List A} (h : PIn H b off nb cb) (vb eb : Nat) (ns : List Nd) : PIn (C.pset H b off nb vb eb cb ns) b off nb cb :=
  ⟨by simpa using h.blt, by simpa using h.nlt, h.ne, h.olt, by simpa using h.closed vb eb ns, by simpa using h.inc, h.rest.imp fun r hr G hG => hr G fun q h0 h1 h2 => (hG q (by simpa using h0) h1 h2).trans (pset_other vb eb ns h1 h2)⟩
theorem addF_len (ns : List Nd) (n : Nd) (h : ns.length ≤ 500) : (addF ns n).1.length ≤ 500 := by
  unfold addF
  split
  · exact h
  · split
    · exact h
    · split
      · exact h
      · simp; omega
/-- A method that turns a pool, called where a pool stands. -/
theorem pool_call {f : FuncId} {S : FuncId → Bool} {G : List Blk} {K : A → Dl → Prop} (hS : S f = true) (b off nb vb eb : Nat) (cb : List A) (ns ns' : List Nd) {zs : List A} {r : A} (h : PIn G b off nb cb) (hG : pset G b off nb vb eb cb ns = G)
    (hf : T f zs (pset G b off nb vb eb cb ns) r (pset G b off nb vb eb cb ns')) (hK : K r (.full [nb, b] (pset G b off nb vb eb cb ns'))) : @WCall' Go.Proofs.Tryd.prog S f zs G ⟨K⟩ := by
  rw [hG] at hf
  refine WCall_t' hS [nb, b] hf (by simp) (fun q hq _ => ?_) hK
  simp at hq
  exact pset_other vb eb ns' hq.2 hq.1
/-- What a link's word comes to. -/
def sealF (ns : List Nd) (key seq t : Int) : List Nd × Int :=
  let p := addF ns ⟨1, IntKind.i64.wrap (20 + seq), 0⟩
  let q := addF p.1 ⟨2, p.2, t⟩
  addF q.1 ⟨3, q.2, key⟩
theorem sealF_len (ns : List Nd) (key seq t : Int) (h : ns.length ≤ 500) : (sealF ns key seq t).1.length ≤ 500 := addF_len _ _ (addF_len _ _ (addF_len _ _ h))
end Go.Proofs.YtijileoflejgpaaDoor.C

set_option linter.unusedVariables false
set_option linter.unusedSimpArgs false
namespace Go.Proofs.YtijileoflejgpaaDoor.C
open Go.Sym Go.Proofs.YtijileoflejgpaaDoor.I
def ints (xs : List Int) : List A := xs.map i6
@[simp] theorem ints_len (xs : List Int) : (ints xs).length = xs.length := List.length_map ..
@[simp] theorem ints_scals (xs : List Int) : scals (ints xs) = true := scals_map _ (fun _ => rfl) xs
@[simp] theorem ints_view (n : Nat) (H : List Blk) (xs : List Int) : viewL (viewA (n + 1) H) (ints xs) = some (ints xs) := viewL_scals _ (ints_scals xs)
@[simp] theorem ints_noOwns (xs : List Int) : noOwns (ints xs) = true := noOwns_scals _ (ints_scals xs)
@[simp] theorem ints_nosls (xs : List Int) : nosls (ints xs) = true := nosls_scals _ (ints_scals xs)
@[simp] theorem ints_shift (n : Nat) (xs : List Int) : shiftAs n (ints xs) = ints xs := shiftAs_scals _ (ints_scals xs)
@[simp] theorem ints_get (xs : List Int) (j : Nat) (h : j < (ints xs).length) : (ints xs)[j] = i6 (xs[j]'(by simpa using h)) := by simp [ints]
theorem ints_at {xs : List Int} {j : Nat} (h : j < xs.length) : (ints xs)[j]? = some (i6 xs[j]) := by simp [ints, h]
structure Lk where
  key : Int
  epoch : Int
  seq : Int
  over : Bool
  deriving DecidableEq
abbrev aL (l : Lk) : A := .agg [i6 l.key, i6 l.epoch, i6 l.seq, .bool l.over]
abbrev aI (xs : List Int) : A := .sl xs.length (ints xs)
structure St where
  pool : List Nd
  know : List Int
  out : Lk
  inn : Lk
  sent : List Int
  got : List Int
abbrev cS (s : St) : List A := [.sl s.pool.length (enc s.pool), aI s.know, i6 s.out.key, i6 s.out.epoch, i6 s.out.seq, .bool s.out.over, i6 s.inn.key, i6 s.inn.epoch, i6 s.inn.seq, .bool s.inn.over, aI s.sent, aI s.got]
abbrev aS (s : St) : A := .agg (cS s)
def hasF (m : Nat) (t : Int) : Bool := inF t 0 ((m : Int) - 1)
def linkF (m : Nat) (l : Lk) : Bool := hasF m l.key && inF l.epoch 0 20 && inF l.seq 0 20
def allF (p : Nat → Bool) (n j : Nat) : Bool := (List.range' j (n - j)).all p
theorem allF_at {p : Nat → Bool} {n j : Nat} (h : j < n) : allF p n j = (p j && allF p n (j + 1)) := by
  have : n - j = (n - (j + 1)) + 1 := by omega
  simp only [allF]
  rw [this, List.range'_succ, List.all_cons]
theorem allF_end {p : Nat → Bool} {n j : Nat} (h : n ≤ j) : allF p n j = true := by simp [allF, Nat.sub_eq_zero_of_le h]
def kn (m : Nat) (ks : List Int) (i : Nat) : Bool := hasF m (ks.getD i 0) && (decide (i = 0) || decide (ks.getD (i - 1) 0 < ks.getD i 0))
def knowF (m : Nat) (ks : List Int) : Bool := allF (kn m ks) ks.length 0 && decide (ks.length ≤ 200)
def kpF (ns : List Nd) (ks : List Int) : Bool := poolF ns && knowF ns.length ks
def lkF (ns : List Nd) (l : Lk) : Bool := poolF ns && linkF ns.length l
def termsF (m : Nat) (ks : List Int) : Bool := allF (fun i => hasF m (ks.getD i 0)) ks.length 0 && decide (ks.length ≤ 60)
theorem wrap_len {n : Nat} (h : n < 9223372036854775807) : IntKind.i64.wrap ((n : Int) - 1) = n - 1 := wrap64 (by omega) (by omega)
theorem wrap_succ {n : Nat} (h : n < 9223372036854775807) : IntKind.i64.wrap ((n : Int) + 1) = n + 1 := wrap64 (by omega) (by omega)

theorem spec_l1Has_c (ns : List Nd) (t : Int) (hl : ns.length < 9223372036854775807) : T 25 [aP ns, i6 t] [] (.bool (hasF ns.length t)) ([]) := by
  refine semT' (S := S0) hm spec_l1Has_ok (Nat.le_of_ble_eq_true rfl) ?_
  unfold spec_l1Has; dsimp only
  simp [wrap_len hl]
  repeat (any_goals (first | (refine br_intro' (fun h => ?_) (fun h => ?_) <;> (have h0 := h) <;> (try simp at h) <;> try simp [h0, h]) | (refine spec_l1In_call rfl ?_; simp [])))
  all_goals exact LeV.ro rfl rfl (by simp [hasF])
theorem spec_l1Has_call {ns : List Nd} {t : Int} (hl : ns.length < 9223372036854775807) {S : FuncId → Bool} {H : List Blk} {K : A → Dl → Prop} (hS : S 25 = false) (hK : K (.bool (hasF ns.length t)) (.news [])) : @WCall' Go.Proofs.Tryd.prog S 25 [aP ns, i6 t] H ⟨K⟩ :=
  WCall_pure hS (spec_l1Has_c ns t hl) (by simp) (by simp) (by simp) hK
theorem spec_l1Has_k {ns : List Nd} {t : Int} (hl : ns.length < 9223372036854775807) {S : FuncId → Bool} {H : List Blk} {K : A → Dl → Prop} {zs : List A} (hS : S 25 = false) (hv : viewL (viewA 8 H) zs = some [aP ns, i6 t]) (ho : noOwns zs = true ∨ nosl (.bool (hasF ns.length t)) = true) (hK : K (.bool (hasF ns.length t)) (.news [])) : @WCall' Go.Proofs.Tryd.prog S 25 zs H ⟨K⟩ :=
  WCall_pure hS (spec_l1Has_c ns t hl) hv ho (by simp) hK
theorem impl_Pool_isTerm_c (ns : List Nd) (r : List A) (t : Int) (hl : ns.length < 9223372036854775807) : T 47 [.pt (.sl ns.length (enc ns) :: r), i6 t] [] (.bool (hasF ns.length t)) ([]) := by
  refine semT' (S := S0) hm impl_Pool_isTerm_ok (Nat.le_of_ble_eq_true rfl) ?_
  unfold impl_Pool_isTerm; dsimp only
  simp [wrap_len hl]
  refine impl_inRange_call rfl ?_; simp
  exact LeV.ro rfl rfl (by simp [hasF])
theorem spec_l6Know_c (ns : List Nd) (ks : List Int) (hl : ns.length < 9223372036854775807) : T 42 [aP ns, aI ks] [] (.bool (knowF ns.length ks)) ([]) := by
  refine semT' (S := S0) hm spec_l6Know_ok (Nat.le_of_ble_eq_true rfl) ?_
  unfold spec_l6Know; dsimp only
  simp
  refine br_intro' (fun h => ?_) (fun h => ?_) <;> (have h0 := h) <;> (try simp at h) <;> try simp [h0, h]
  · exact LeV.ro rfl rfl (by simp [knowF]; omega)
  · have h2 := h
    refine WLoop_fam (fun j : Nat => [(1, aI ks), (2, A.ptr 0 0 0), (5, i6 j)]) (fun _ => [⟨0, false, 1, [A.sl ns.length (enc ns)], none⟩]) (fun j => ks.length - j)
      (fun j => j ≤ ks.length ∧ knowF ns.length ks = allF (kn ns.length ks) ks.length j) ?_ 0 ⟨Nat.zero_le _, by simp [knowF]; omega⟩
    intro j ⟨hj, hf⟩ ih
    simp
    refine br_intro' (fun h => ?_) (fun h => ?_) <;> (have h0 := h) <;> (try simp at h) <;> try simp [h0, h]
    · have h' := h
      have hw := wrap_succ (n := j) (by omega)
      refine spec_l1Has_call hl rfl ?_; simp
      refine br_intro' (fun g => ?_) (fun g => ?_) <;> simp [g]
      · have hz : (0 < (j : Int)) ↔ j ≠ 0 := by omega
        refine br_intro' (fun h => ?_) (fun h => ?_) <;> (have h0 := h) <;> (try simp at h) <;> try simp [h0, h]
        · have hm : IntKind.i64.wrap ((j : Int) - 1) = ((j - 1 : Nat) : Int) := by rw [wrap64 (by omega) (by omega)]; omega
          have hj1 : j - 1 < ks.length := by omega
          have hj0 : j ≠ 0 := by omega
          simp [hm, hj1, h']
          first | (refine ck_intro' (by kernel_rfl) ?_; try simp) | skip
          refine br_intro' (fun k => ?_) (fun k => ?_) <;> simp at k <;> try simp [k]
          · exact LeV.ro rfl rfl (by rw [hf, allF_at h', kn]; simp [h', hj1, hj0]; intro _ a; omega)
          · rw [hw]
            exact ih (j + 1) ⟨h', by rw [hf, allF_at h', kn]; simp [h', hj1, hj0, g, k]⟩ (by omega)
        · have hj0 : j = 0 := by omega
          first | (refine ck_intro' (by kernel_rfl) ?_; try simp) | skip
          subst hj0
          rw [show IntKind.i64.wrap 1 = 1 from wrap64 (by omega) (by omega)]
          exact ih 1 ⟨h', by rw [hf, allF_at h', kn]; simp [h', g]⟩ (by omega)
      · first | (refine ck_intro' (by kernel_rfl) ?_; try simp) | skip
        exact LeV.ro rfl rfl (by rw [hf, allF_at h', kn]; simp [h', g])
    · exact LeV.ro rfl rfl (by simp [hf, allF_end h])
theorem spec_l6Know_call {ns : List Nd} {ks : List Int} (hl : ns.length < 9223372036854775807) {S : FuncId → Bool} {H : List Blk} {K : A → Dl → Prop} (hS : S 42 = false) (hK : K (.bool (knowF ns.length ks)) (.news [])) : @WCall' Go.Proofs.Tryd.prog S 42 [aP ns, aI ks] H ⟨K⟩ :=
  WCall_pure hS (spec_l6Know_c ns ks hl) (by simp) (by simp) (by simp) hK
theorem spec_l6Know_k {ns : List Nd} {ks : List Int} (hl : ns.length < 9223372036854775807) {S : FuncId → Bool} {H : List Blk} {K : A → Dl → Prop} {zs : List A} (hS : S 42 = false) (hv : viewL (viewA 8 H) zs = some [aP ns, aI ks]) (ho : noOwns zs = true ∨ nosl (.bool (knowF ns.length ks)) = true) (hK : K (.bool (knowF ns.length ks)) (.news [])) : @WCall' Go.Proofs.Tryd.prog S 42 zs H ⟨K⟩ :=
  WCall_pure hS (spec_l6Know_c ns ks hl) hv ho (by simp) hK
theorem spec_KnowOk_c (ns : List Nd) (ks : List Int) (hl : ns.length < 9223372036854775807) : T 24 [aP ns, aI ks] [] (.bool (kpF ns ks)) ([]) := by
  refine semT' (S := S0) hm spec_KnowOk_ok (Nat.le_of_ble_eq_true rfl) ?_
  unfold spec_KnowOk; dsimp only
  simp
  refine spec_PoolOk_call rfl ?_; simp
  refine br_intro' (fun h => ?_) (fun h => ?_) <;> (have h0 := h) <;> (try simp at h) <;> try simp [h0, h]
  · refine spec_l6Know_call hl rfl ?_; simp
    exact LeV.ro rfl rfl (by simp [kpF, *])
  · exact LeV.ro rfl rfl (by simp [kpF, *])
theorem spec_KnowOk_call {ns : List Nd} {ks : List Int} (hl : ns.length < 9223372036854775807) {S : FuncId → Bool} {H : List Blk} {K : A → Dl → Prop} (hS : S 24 = false) (hK : K (.bool (kpF ns ks)) (.news [])) : @WCall' Go.Proofs.Tryd.prog S 24 [aP ns, aI ks] H ⟨K⟩ :=
  WCall_pure hS (spec_KnowOk_c ns ks hl) (by simp) (by simp) (by simp) hK
theorem spec_KnowOk_k {ns : List Nd} {ks : List Int} (hl : ns.length < 9223372036854775807) {S : FuncId → Bool} {H : List Blk} {K : A → Dl → Prop} {zs : List A} (hS : S 24 = false) (hv : viewL (viewA 8 H) zs = some [aP ns, aI ks]) (ho : noOwns zs = true ∨ nosl (.bool (kpF ns ks)) = true) (hK : K (.bool (kpF ns ks)) (.news [])) : @WCall' Go.Proofs.Tryd.prog S 24 zs H ⟨K⟩ :=
  WCall_pure hS (spec_KnowOk_c ns ks hl) hv ho (by simp) hK
theorem impl_KnowOk_c (ns : List Nd) (ks : List Int) (hl : ns.length < 9223372036854775807) (hk : ks.length < 9223372036854775807) : T 33 [aP ns, aI ks] [] (.bool (kpF ns ks)) ([]) := by
  refine semT' (S := S0) hm impl_KnowOk_ok (Nat.le_of_ble_eq_true rfl) ?_
  unfold impl_KnowOk; dsimp only
  simp
  refine WLoop_fam (fun j : Nat => [(1, aI ks), (2, A.ptr 0 0 0), (7, aI ks), (8, i6 ks.length), (9, i6 j)]) (fun _ => [⟨0, false, 1, [A.sl ns.length (enc ns)], none⟩]) (fun j => ks.length - j)
    (fun j => j ≤ ks.length ∧ allF (kn ns.length ks) ks.length 0 = allF (kn ns.length ks) ks.length j) ?_ 0 ⟨Nat.zero_le _, rfl⟩
  intro j ⟨hj, hf⟩ ih
  simp
  refine br_intro' (fun h => ?_) (fun h => ?_) <;> (have h0 := h) <;> (try simp at h) <;> try simp [h0, h]
  · have h' := h
    have hw := wrap_succ (n := j) (by omega)
    refine WCall_pure rfl (impl_Pool_isTerm_c ns [] ks[j] hl) (by simp) (by simp) (by simp) ?_; simp
    refine br_intro' (fun g => ?_) (fun g => ?_) <;> simp [g]
    · refine br_intro' (fun h => ?_) (fun h => ?_) <;> (have h0 := h) <;> (try simp at h) <;> try simp [h0, h]
      · have hm : IntKind.i64.wrap ((j : Int) - 1) = ((j - 1 : Nat) : Int) := by rw [wrap64 (by omega) (by omega)]; omega
        have hj1 : j - 1 < ks.length := by omega
        have hj0 : j ≠ 0 := by omega
        simp [hm, hj1, h']
        refine br_intro' (fun k => ?_) (fun k => ?_) <;> simp at k <;> try simp [k]
        · exact LeV.ro rfl rfl (by simp [kpF, knowF, hf, allF_at h', kn, h', hj1, hj0]; intro _ _ _ a; omega)
        · rw [hw]
          exact ih (j + 1) ⟨h', by rw [hf, allF_at h', kn]; simp [h', hj1, hj0, g, k]⟩ (by omega)
      · have hj0 : j = 0 := by omega
        subst hj0
        rw [show IntKind.i64.wrap 1 = 1 from wrap64 (by omega) (by omega)]
        exact ih 1 ⟨h', by rw [hf, allF_at h', kn]; simp [h', g]⟩ (by omega)
    · exact LeV.ro rfl rfl (by simp [kpF, knowF, hf, allF_at h', kn, h', g])
  · have h9 := allF_end (p := kn ns.length ks) h
    refine br_intro' (fun h => ?_) (fun h => ?_) <;> (have h0 := h) <;> (try simp at h) <;> try simp [h0, h]
    · refine impl_PoolOk_call rfl ?_; simp
      have h8 : ks.length ≤ 200 := by omega
      exact LeV.ro rfl rfl (by simp only [kpF, knowF]; rw [hf, h9]; simp [h8])
    · have h8 : ¬ ks.length ≤ 200 := by omega
      exact LeV.ro rfl rfl (by simp only [kpF, knowF]; rw [hf, h9]; simp [h8])
theorem impl_KnowOk_call {ns : List Nd} {ks : List Int} (hl : ns.length < 9223372036854775807) (hk : ks.length < 9223372036854775807) {S : FuncId → Bool} {H : List Blk} {K : A → Dl → Prop} (hS : S 33 = false) (hK : K (.bool (kpF ns ks)) (.news [])) : @WCall' Go.Proofs.Tryd.prog S 33 [aP ns, aI ks] H ⟨K⟩ :=
  WCall_pure hS (impl_KnowOk_c ns ks hl hk) (by simp) (by simp) (by simp) hK
theorem impl_KnowOk_k {ns : List Nd} {ks : List Int} (hl : ns.length < 9223372036854775807) (hk : ks.length < 9223372036854775807) {S : FuncId → Bool} {H : List Blk} {K : A → Dl → Prop} {zs : List A} (hS : S 33 = false) (hv : viewL (viewA 8 H) zs = some [aP ns, aI ks]) (ho : noOwns zs = true ∨ nosl (.bool (kpF ns ks)) = true) (hK : K (.bool (kpF ns ks)) (.news [])) : @WCall' Go.Proofs.Tryd.prog S 33 zs H ⟨K⟩ :=
  WCall_pure hS (impl_KnowOk_c ns ks hl hk) hv ho (by simp) hK
structure St.fit (s : St) : Prop where
  p : s.pool.length < 9223372036854775807
  k : s.know.length < 9223372036854775807
  t : s.sent.length < 9223372036854775807
  g : s.got.length < 9223372036854775807
def streamF (s : St) : Bool := kpF s.pool s.know && linkF s.pool.length s.out && linkF s.pool.length s.inn && termsF s.pool.length s.sent && termsF s.pool.length s.got
end Go.Proofs.YtijileoflejgpaaDoor.C

set_option linter.unusedVariables false
set_option linter.unusedSimpArgs false
namespace Go.Proofs.YtijileoflejgpaaDoor.C
open Go.Sym Go.Proofs.YtijileoflejgpaaDoor.I
@[simp] theorem enc_take3 (ns : List Nd) (a b c : A) : (enc ns ++ [a, b, c]).take ((ns.length + 1) * 3) = enc ns ++ [a, b, c] := List.take_of_length_le (by simp; omega)
@[simp] theorem enc_view3 (n : Nat) (H : List Blk) (ns : List Nd) (a b c : Int) : viewL (viewA (n + 1) H) (enc ns ++ [i6 a, i6 b, i6 c]) = some (enc ns ++ [i6 a, i6 b, i6 c]) := viewL_scals _ (by simp [scals_app, scals, scal])
def orE (ns : List Nd) : List Nd := if poolF ns then ns else []
theorem poolF_len {ns : List Nd} (h : poolF ns = true) : ns.length ≤ 500 := by
  unfold poolF at h
  simp at h
  exact h.1
theorem okFrom_all {ns : List Nd} (h : poolF ns = true) {j : Nat} (hj : j < ns.length) : rightF ns[j] j = true ∧ ns[j] ∉ ns.take j := by
  simp only [poolF, okFrom, Bool.and_eq_true, List.all_eq_true] at h
  have := h.2 j (by simp [List.mem_range']; omega)
  simp [hj] at this
  refine ⟨this.1, ?_⟩
  have := (findF_first ns j 0 hj (Int.le_refl 0)).1 (by rw [Int.zero_add]; exact this.2)
  exact this
theorem rightF_mono {n : Nd} {a b : Int} (h : rightF n a = true) (hab : a ≤ b) : rightF n b = true := by
  unfold rightF at h ⊢
  split
  · rename_i h0; rw [if_pos h0] at h; exact h
  · rename_i h0
    rw [if_neg h0] at h
    split
    · rename_i h1
      rw [if_pos h1] at h
      simp [inF] at h ⊢
      exact ⟨⟨h.1.1, by omega⟩, h.2⟩
    · rename_i h1
      rw [if_neg h1] at h
      split
      · rename_i h2
        rw [if_pos h2] at h
        simp [inF] at h ⊢
        exact ⟨⟨⟨h.1.1.1, by omega⟩, ⟨h.1.2.1, by omega⟩⟩, h.2⟩
      · rename_i h2; rw [if_neg h2] at h; cases h
theorem findF_at : ∀ (ns : List Nd) (n : Nd) (i : Nat), 0 ≤ findF ns n i → ∃ j : Nat, ∃ h : j < ns.length, findF ns n i = i + j ∧ ns[j] = n
  | [], n, i, h => by simp [findF] at h
  | x :: xs, n, i, h => by
    unfold findF at h ⊢
    by_cases e : x = n
    · rw [if_pos e]; exact ⟨0, by simp, by simp, by simpa using e⟩
    · rw [if_neg e] at h ⊢
      obtain ⟨j, h1, h2, h3⟩ := findF_at xs n (i + 1) (by simpa using h)
      exact ⟨j + 1, by simp; omega, by push_cast at h2 ⊢; omega, by simpa using h3⟩
theorem find_right {ns : List Nd} {n : Nd} (hp : poolF ns = true) (h : 0 ≤ findF ns n 0) : rightF n ns.length = true := by
  obtain ⟨j, hj, _, rfl⟩ := findF_at ns n 0 h
  exact rightF_mono (okFrom_all hp hj).1 (by omega)
theorem findF_none {ns : List Nd} {n : Nd} (i : Int) (hi : 0 ≤ i) (h : n ∉ ns) : findF ns n i = -1 := by
  induction ns generalizing i with
  | nil => rfl
  | cons x xs ih =>
    simp only [List.mem_cons, not_or] at h
    unfold findF
    rw [if_neg (fun e => h.1 e.symm)]
    exact ih (i + 1) (by omega) h.2
theorem findF_mem {ns : List Nd} {n : Nd} (h : n ∈ ns) : 0 ≤ findF ns n 0 := by
  have : ∀ (ns : List Nd) (i : Int), 0 ≤ i → n ∈ ns → 0 ≤ findF ns n i := by
    intro ns
    induction ns with
    | nil => intro i _ h; cases h
    | cons x xs ih =>
      intro i hi h
      unfold findF
      by_cases e : x = n
      · rw [if_pos e]; exact hi
      · rw [if_neg e]; exact ih (i + 1) (by omega) (by rcases List.mem_cons.1 h with h | h; exact absurd h.symm e; exact h)
  exact this ns 0 (Int.le_refl 0) h
theorem addF_ge (ns : List Nd) (n : Nd) : ns.length ≤ (addF ns n).1.length := by
  unfold addF
  split
  · exact Nat.le_refl _
  · split
    · exact Nat.le_refl _
    · split
      · exact Nat.le_refl _
      · simp
theorem addF_pool {ns : List Nd} (n : Nd) (hp : poolF ns = true) : poolF (addF ns n).1 = true := by
  unfold addF
  split
  · exact hp
  · rename_i h1
    split
    · exact hp
    · rename_i h2
      split
      · exact hp
      · rename_i h3
        generalize normN n = m at h1 h2 h3 ⊢
        have hm : m ∉ ns := fun hm => h2 (findF_mem hm)
        have hr : rightF m ns.length = true := by simpa using h1
        have hl := poolF_len hp
        simp only [poolF, okFrom, Bool.and_eq_true, List.all_eq_true, decide_eq_true_eq]
        refine ⟨by simp; omega, fun j hj => ?_⟩
        have hj' : j < ns.length + 1 := by simp [List.mem_range'] at hj; omega
        have key : ∀ (hjl : j < (ns ++ [m]).length), rightF (ns ++ [m])[j] j = true ∧ (ns ++ [m])[j] ∉ (ns ++ [m]).take j := by
          intro hjl
          rcases Nat.lt_or_ge j ns.length with h | h
          · rw [List.getElem_append_left h, List.take_append_of_le_length (by omega)]
            exact okFrom_all hp h
          · have : j = ns.length := by omega
            subst this
            simp [hr, hm]
        obtain ⟨k1, k2⟩ := key (by simp; omega)
        have h5 : (ns ++ [m]).getD j ⟨0, 0, 0⟩ = (ns ++ [m])[j]'(by simp; omega) := by simp [List.getD_eq_getElem?_getD, List.getElem?_eq_getElem (show j < (ns ++ [m]).length by simp; omega)]
        have h6 := (findF_first (ns ++ [m]) j 0 (by simp; omega) (Int.le_refl 0)).2 k2
        rw [Int.zero_add] at h6
        rw [h5, k1, h6]
        simp
/-- What turning a link comes to. -/
def turnF (ns : List Nd) (l : Lk) : List Nd × Lk × Bool :=
  if l.over ∨ l.epoch = 20 then (ns, l, false)
  else
    let p := addF ns ⟨1, 7, 0⟩
    if p.2 < 0 then (ns, l, false) else
    let q := addF p.1 ⟨6, l.key, p.2⟩
    if q.2 < 0 then (ns, l, false) else (q.1, ⟨q.2, l.epoch + 1, 0, false⟩, true)
theorem turnF_len (ns : List Nd) (l : Lk) (h : ns.length ≤ 500) : (turnF ns l).1.length ≤ 500 := by
  unfold turnF
  split
  · exact h
  · dsimp only
    split
    · exact h
    · split
      · exact h
      · exact addF_len _ _ (addF_len _ _ h)
/-- What LinkTurn answers. -/
def linkTurnF (ns : List Nd) (l : Lk) : List Nd × Lk × Bool := if lkF ns l then turnF ns l else (orE ns, l, false)
end Go.Proofs.YtijileoflejgpaaDoor.C

set_option linter.unusedVariables false
set_option linter.unusedSimpArgs false
namespace Go.Proofs.YtijileoflejgpaaDoor.C
open Go.Sym Go.Proofs.YtijileoflejgpaaDoor.I
def nodeAt (ns : List Nd) (t : Int) : Nd := ns.getD t.toNat ⟨0, 0, 0⟩
theorem nodeAt_nat {ns : List Nd} {j : Nat} (h : j < ns.length) : nodeAt ns j = ns[j] := by simp [nodeAt, h]
/-- The parts of a node of a right pool stand before it. -/
theorem parts_in {ns : List Nd} (hp : poolF ns = true) {j : Nat} (h : j < ns.length) (hk : partsF ns[j].k = 2) : (∃ a : Nat, ns[j].a = a ∧ a < j) ∧ ∃ b : Nat, ns[j].b = b ∧ b < j := by
  have := (okFrom_all hp h).1
  simp [rightF, hk, inF] at this
  exact ⟨⟨ns[j].a.toNat, by omega, by omega⟩, ns[j].b.toNat, by omega, by omega⟩
theorem part_in {ns : List Nd} (hp : poolF ns = true) {j : Nat} (h : j < ns.length) (hk : partsF ns[j].k = 1) : ∃ a : Nat, ns[j].a = a ∧ a < j := by
  have := (okFrom_all hp h).1
  simp [rightF, hk, inF] at this
  exact ⟨ns[j].a.toNat, by omega, by omega⟩
theorem parts_kind {ns : List Nd} (hp : poolF ns = true) {j : Nat} (h : j < ns.length) : partsF ns[j].k = 0 ∨ partsF ns[j].k = 1 ∨ partsF ns[j].k = 2 := by
  have := (okFrom_all hp h).1
  unfold rightF at this
  split at this
  · exact .inl ‹_›
  · split at this
    · exact .inr (.inl ‹_›)
    · split at this
      · exact .inr (.inr ‹_›)
      · cases this
theorem hasF_of {m j : Nat} (h : j < m) : hasF m j = true := by simp [hasF, inF]; omega
theorem hasN {m : Nat} {t : Int} (h : hasF m t = true) : ∃ j : Nat, t = j ∧ j < m := by
  simp [hasF, inF] at h
  exact ⟨t.toNat, by omega, by omega⟩
abbrev jblk (xs : List Int) : Blk := ⟨xs.length, decide (xs.length = 0), 1, ints xs, none⟩
abbrev jref (b : Nat) (xs : List Int) : A := .ref b xs.length 0 xs.length
@[simp] theorem ints_take' (xs : List Int) : (ints xs).take xs.length = ints xs := List.take_of_length_le (by simp)
@[simp] theorem ints_tells' (H H' : List Blk) (g : List (Option Nat)) (xs : List Int) : Tells H H' g (ints xs) (ints xs) := Tells_scals _ (ints_scals xs)
@[simp] theorem ints_one (xs : List Int) : (ints xs).all A.one = true := one_scals _ (ints_scals xs)
@[simp] theorem ints_inAs (m : Nat) (xs : List Int) : inAs m (ints xs) = true := inAs_scals _ (ints_scals xs)
@[simp] theorem ints_nil : ints [] = [] := rfl
theorem ints_snoc (xs : List Int) (x : Int) : ints (xs ++ [x]) = ints xs ++ [i6 x] := by simp [ints]
/-- The parts of a node. -/
def partsL (n : Nd) : List Int := if partsF n.k = 1 then [n.a] else if partsF n.k = 2 then [n.a, n.b] else []
theorem impl_Pool_parts_c (ns : List Nd) (r : List A) (t : Int) (hl : ns.length < 9223372036854775807) (ht : hasF ns.length t = true) : T 35 [.pt (.sl ns.length (enc ns) :: r), i6 t] [] (jref 0 (partsL (nodeAt ns t))) ([jblk (partsL (nodeAt ns t))]) := by
  refine semT' (S := S0) hm impl_Pool_parts_ok (Nat.le_of_ble_eq_true rfl) ?_
  unfold impl_Pool_parts; dsimp only
  obtain ⟨j, rfl, hj⟩ := hasN ht
  obtain ⟨q, hr⟩ := enc_at hj
  have h3 : 3 ≤ ns.length * 3 - j * 3 := by omega
  rw [nodeAt_nat hj]
  simp [h3, hr, hj]
  refine impl_count_call rfl ?_; simp
  refine br_intro' (fun h => ?_) (fun h => ?_) <;> simp at h <;> simp [h]
  · rw [show partsL ns[j] = [ns[j].a] from if_pos h]
    first | (refine LeV.tell [none] ?_ ?_ ?_ <;> (simp [ints]; done)) | (refine LeV.tell [some 0] ?_ ?_ ?_ <;> (simp [ints]; done)) | (refine LeV.tell [some 1] ?_ ?_ ?_ <;> (simp [ints]; done)) | (refine LeV.tell [some 2] ?_ ?_ ?_ <;> (simp [ints]; done)) | (refine LeV.tell [some 3] ?_ ?_ ?_ <;> (simp [ints]; done)) | (refine LeV.tell [some 4] ?_ ?_ ?_ <;> (simp [ints]; done)) | (refine LeV.tell [some 5] ?_ ?_ ?_ <;> (simp [ints]; done)) | (refine LeV.tell [some 6] ?_ ?_ ?_ <;> (simp [ints]; done)) | (refine LeV.tell [some 7] ?_ ?_ ?_ <;> (simp [ints]; done)) | (refine LeV.tell [some 8] ?_ ?_ ?_ <;> (simp [ints]; done)) | (refine LeV.tell [some 9] ?_ ?_ ?_ <;> (simp [ints]; done)) | (refine LeV.tell [some 10] ?_ ?_ ?_ <;> (simp [ints]; done)) | (refine LeV.tell [some 11] ?_ ?_ ?_ <;> (simp [ints]; done)) | (refine LeV.tell [some 12] ?_ ?_ ?_ <;> (simp [ints]; done)) | (refine LeV.tell [some 13] ?_ ?_ ?_ <;> (simp [ints]; done)) | (refine LeV.tell [some 14] ?_ ?_ ?_ <;> (simp [ints]; done)) | (refine LeV.tell [some 15] ?_ ?_ ?_ <;> (simp [ints]; done))
  refine br_intro' (fun h1 => ?_) (fun h1 => ?_) <;> simp at h1 <;> simp [h1]
  · rw [show partsL ns[j] = [ns[j].a, ns[j].b] by simp [partsL, h, h1]]
    first | (refine LeV.tell [none] ?_ ?_ ?_ <;> (simp [ints]; done)) | (refine LeV.tell [some 0] ?_ ?_ ?_ <;> (simp [ints]; done)) | (refine LeV.tell [some 1] ?_ ?_ ?_ <;> (simp [ints]; done)) | (refine LeV.tell [some 2] ?_ ?_ ?_ <;> (simp [ints]; done)) | (refine LeV.tell [some 3] ?_ ?_ ?_ <;> (simp [ints]; done)) | (refine LeV.tell [some 4] ?_ ?_ ?_ <;> (simp [ints]; done)) | (refine LeV.tell [some 5] ?_ ?_ ?_ <;> (simp [ints]; done)) | (refine LeV.tell [some 6] ?_ ?_ ?_ <;> (simp [ints]; done)) | (refine LeV.tell [some 7] ?_ ?_ ?_ <;> (simp [ints]; done)) | (refine LeV.tell [some 8] ?_ ?_ ?_ <;> (simp [ints]; done)) | (refine LeV.tell [some 9] ?_ ?_ ?_ <;> (simp [ints]; done)) | (refine LeV.tell [some 10] ?_ ?_ ?_ <;> (simp [ints]; done)) | (refine LeV.tell [some 11] ?_ ?_ ?_ <;> (simp [ints]; done)) | (refine LeV.tell [some 12] ?_ ?_ ?_ <;> (simp [ints]; done)) | (refine LeV.tell [some 13] ?_ ?_ ?_ <;> (simp [ints]; done)) | (refine LeV.tell [some 14] ?_ ?_ ?_ <;> (simp [ints]; done)) | (refine LeV.tell [some 15] ?_ ?_ ?_ <;> (simp [ints]; done))
  · rw [show partsL ns[j] = [] by simp [partsL, h, h1]]
    first | (refine LeV.tell [none] ?_ ?_ ?_ <;> (simp [ints]; done)) | (refine LeV.tell [some 0] ?_ ?_ ?_ <;> (simp [ints]; done)) | (refine LeV.tell [some 1] ?_ ?_ ?_ <;> (simp [ints]; done)) | (refine LeV.tell [some 2] ?_ ?_ ?_ <;> (simp [ints]; done)) | (refine LeV.tell [some 3] ?_ ?_ ?_ <;> (simp [ints]; done)) | (refine LeV.tell [some 4] ?_ ?_ ?_ <;> (simp [ints]; done)) | (refine LeV.tell [some 5] ?_ ?_ ?_ <;> (simp [ints]; done)) | (refine LeV.tell [some 6] ?_ ?_ ?_ <;> (simp [ints]; done)) | (refine LeV.tell [some 7] ?_ ?_ ?_ <;> (simp [ints]; done)) | (refine LeV.tell [some 8] ?_ ?_ ?_ <;> (simp [ints]; done)) | (refine LeV.tell [some 9] ?_ ?_ ?_ <;> (simp [ints]; done)) | (refine LeV.tell [some 10] ?_ ?_ ?_ <;> (simp [ints]; done)) | (refine LeV.tell [some 11] ?_ ?_ ?_ <;> (simp [ints]; done)) | (refine LeV.tell [some 12] ?_ ?_ ?_ <;> (simp [ints]; done)) | (refine LeV.tell [some 13] ?_ ?_ ?_ <;> (simp [ints]; done)) | (refine LeV.tell [some 14] ?_ ?_ ?_ <;> (simp [ints]; done)) | (refine LeV.tell [some 15] ?_ ?_ ?_ <;> (simp [ints]; done))
theorem impl_Pool_parts_k {ns : List Nd} {r : List A} {t : Int} (hl : ns.length < 9223372036854775807) (ht : hasF ns.length t = true) {S : FuncId → Bool} {H : List Blk} {K : A → Dl → Prop} {zs : List A} (hS : S 35 = false) (hv : viewL (viewA 8 H) zs = some [.pt (.sl ns.length (enc ns) :: r), i6 t]) (ho : noOwns zs = true ∨ nosl (jref 0 (partsL (nodeAt ns t))) = true ∧ noslBlks ([jblk (partsL (nodeAt ns t))]) = true) (hK : K (shiftA H.length (jref 0 (partsL (nodeAt ns t)))) (.news (([jblk (partsL (nodeAt ns t))]).map (shiftB H.length)))) : @WCall' Go.Proofs.Tryd.prog S 35 zs H ⟨K⟩ :=
  WCall_ro' hS hv (impl_Pool_parts_c ns r t hl ht) rfl ho hK
/-- Looking for a number. -/
def idxF : List Int → Int → Int → Int
  | [], _, _ => -1
  | x :: xs, t, i => if x = t then i else idxF xs t (i + 1)
theorem idxF_neg (t : Int) : ∀ (xs : List Int) (i : Int), 0 ≤ i → (0 ≤ idxF xs t i ↔ t ∈ xs)
  | [], i, _ => by simp [idxF]
  | x :: xs, i, hi => by
    unfold idxF
    by_cases e : x = t
    · rw [if_pos e]; simp [e, hi]
    · rw [if_neg e, idxF_neg t xs (i + 1) (by omega)]
      simp only [List.mem_cons]
      exact ⟨.inr, fun h => h.resolve_left fun q => e q.symm⟩
def hasK (ks : List Int) (t : Int) : Bool := decide (t ∈ ks)
theorem slices_Index_int_c (ks : List Int) (t : Int) (hl : ks.length < 9223372036854775807) : T 37 [aI ks, i6 t] [] (i6 (idxF ks t 0)) ([]) := by
  refine semT' (S := S0) hm slices_Index_int_ok (Nat.le_of_ble_eq_true rfl) ?_
  unfold slices_Index_int; dsimp only
  simp
  refine WLoop_fam (fun j : Nat => [(0, aI ks), (1, i6 t), (7, i6 ks.length), (8, i6 j)]) (fun _ => []) (fun j => ks.length - j)
    (fun j => j ≤ ks.length ∧ idxF ks t 0 = idxF (ks.drop j) t j) ?_ 0 ⟨Nat.zero_le _, rfl⟩
  intro j ⟨hj, hf⟩ ih
  simp
  refine br_intro' (fun h => ?_) (fun h => ?_) <;> (have h0 := h) <;> (try simp at h) <;> try simp [h0, h]
  · have hd : ks.drop j = ks[j] :: ks.drop (j + 1) := List.drop_eq_getElem_cons h
    have hw : IntKind.i64.wrap ((j : Int) + 1) = j + 1 := wrap64 (by omega) (by omega)
    have h' := h
    try simp [h']
    refine br_intro' (fun g => ?_) (fun g => ?_) <;> (try simp at g) <;> (try simp [g])
    · have e : ks[j] = t := by first | exact g | exact g.symm
      have hi : idxF ks t 0 = j := by rw [hf, hd, idxF, if_pos e]
      exact LeV.ro rfl rfl (by subst e; rw [hi]; rfl)
    · have e : ¬ ks[j] = t := fun q => by first | exact g q | exact g q.symm
      rw [hw]
      refine ih (j + 1) ⟨h', ?_⟩ (by omega)
      rw [hf, hd, idxF, if_neg e]
      rfl
  · have hi : idxF ks t 0 = -1 := by rw [hf, List.drop_of_length_le h]; rfl
    exact LeV.ro rfl rfl (by rw [hi]; rfl)
theorem slices_Index_int_call {ks : List Int} {t : Int} (hl : ks.length < 9223372036854775807) {S : FuncId → Bool} {H : List Blk} {K : A → Dl → Prop} (hS : S 37 = false) (hK : K (i6 (idxF ks t 0)) (.news [])) : @WCall' Go.Proofs.Tryd.prog S 37 [aI ks, i6 t] H ⟨K⟩ :=
  WCall_pure hS (slices_Index_int_c ks t hl) (by simp) (by simp) (by simp) hK
theorem slices_Index_int_k {ks : List Int} {t : Int} (hl : ks.length < 9223372036854775807) {S : FuncId → Bool} {H : List Blk} {K : A → Dl → Prop} {zs : List A} (hS : S 37 = false) (hv : viewL (viewA 8 H) zs = some [aI ks, i6 t]) (ho : noOwns zs = true ∨ nosl (i6 (idxF ks t 0)) = true) (hK : K (i6 (idxF ks t 0)) (.news [])) : @WCall' Go.Proofs.Tryd.prog S 37 zs H ⟨K⟩ :=
  WCall_pure hS (slices_Index_int_c ks t hl) hv ho (by simp) hK
theorem slices_Contains_int_c (ks : List Int) (t : Int) (hl : ks.length < 9223372036854775807) : T 58 [aI ks, i6 t] [] (.bool (hasK ks t)) ([]) := by
  refine semT' (S := S0) hm slices_Contains_int_ok (Nat.le_of_ble_eq_true rfl) ?_
  unfold slices_Contains_int; dsimp only
  simp
  refine slices_Index_int_call (ks := ks) (t := t) hl rfl ?_; simp
  have := idxF_neg t ks 0 (Int.le_refl 0)
  exact LeV.ro rfl rfl (by simp [hasK, this])
theorem slices_Contains_int_call {ks : List Int} {t : Int} (hl : ks.length < 9223372036854775807) {S : FuncId → Bool} {H : List Blk} {K : A → Dl → Prop} (hS : S 58 = false) (hK : K (.bool (hasK ks t)) (.news [])) : @WCall' Go.Proofs.Tryd.prog S 58 [aI ks, i6 t] H ⟨K⟩ :=
  WCall_pure hS (slices_Contains_int_c ks t hl) (by simp) (by simp) (by simp) hK
theorem slices_Contains_int_k {ks : List Int} {t : Int} (hl : ks.length < 9223372036854775807) {S : FuncId → Bool} {H : List Blk} {K : A → Dl → Prop} {zs : List A} (hS : S 58 = false) (hv : viewL (viewA 8 H) zs = some [aI ks, i6 t]) (ho : noOwns zs = true ∨ nosl (.bool (hasK ks t)) = true) (hK : K (.bool (hasK ks t)) (.news [])) : @WCall' Go.Proofs.Tryd.prog S 58 zs H ⟨K⟩ :=
  WCall_pure hS (slices_Contains_int_c ks t hl) hv ho (by simp) hK
theorem spec_KnowHas_c (ks : List Int) (t : Int) (hl : ks.length < 9223372036854775807) : T 45 [aI ks, i6 t] [] (.bool (hasK ks t)) ([]) := by
  refine semT' (S := S0) hm spec_KnowHas_ok (Nat.le_of_ble_eq_true rfl) ?_
  unfold spec_KnowHas; dsimp only
  have hk := idxF_neg t ks 0 (Int.le_refl 0)
  simp
  refine WLoop_fam (fun j : Nat => [(0, aI ks), (1, i6 t), (5, i6 j)]) (fun _ => []) (fun j => ks.length - j)
    (fun j => j ≤ ks.length ∧ idxF ks t 0 = idxF (ks.drop j) t j) ?_ 0 ⟨Nat.zero_le _, rfl⟩
  intro j ⟨hj, hf⟩ ih
  simp
  refine br_intro' (fun h => ?_) (fun h => ?_) <;> (have h0 := h) <;> (try simp at h) <;> try simp [h0, h]
  · have hd : ks.drop j = ks[j] :: ks.drop (j + 1) := List.drop_eq_getElem_cons h
    have hw : IntKind.i64.wrap ((j : Int) + 1) = j + 1 := wrap64 (by omega) (by omega)
    have h' := h
    try simp [h']
    refine br_intro' (fun g => ?_) (fun g => ?_) <;> (try simp at g) <;> (try simp [g])
    · have e : ks[j] = t := by first | exact g | exact g.symm
      have hi : idxF ks t 0 = j := by rw [hf, hd, idxF, if_pos e]
      exact LeV.ro rfl rfl (by subst e; simp [hasK])
    · have e : ¬ ks[j] = t := fun q => by first | exact g q | exact g q.symm
      rw [hw]
      refine ih (j + 1) ⟨h', ?_⟩ (by omega)
      rw [hf, hd, idxF, if_neg e]
      rfl
  · have hi : idxF ks t 0 = -1 := by rw [hf, List.drop_of_length_le h]; rfl
    exact LeV.ro rfl rfl (by rw [hi] at hk; simp [hasK]; exact fun q => by have := hk.2 q; omega)
theorem spec_KnowHas_call {ks : List Int} {t : Int} (hl : ks.length < 9223372036854775807) {S : FuncId → Bool} {H : List Blk} {K : A → Dl → Prop} (hS : S 45 = false) (hK : K (.bool (hasK ks t)) (.news [])) : @WCall' Go.Proofs.Tryd.prog S 45 [aI ks, i6 t] H ⟨K⟩ :=
  WCall_pure hS (spec_KnowHas_c ks t hl) (by simp) (by simp) (by simp) hK
theorem spec_KnowHas_k {ks : List Int} {t : Int} (hl : ks.length < 9223372036854775807) {S : FuncId → Bool} {H : List Blk} {K : A → Dl → Prop} {zs : List A} (hS : S 45 = false) (hv : viewL (viewA 8 H) zs = some [aI ks, i6 t]) (ho : noOwns zs = true ∨ nosl (.bool (hasK ks t)) = true) (hK : K (.bool (hasK ks t)) (.news [])) : @WCall' Go.Proofs.Tryd.prog S 45 zs H ⟨K⟩ :=
  WCall_pure hS (spec_KnowHas_c ks t hl) hv ho (by simp) hK
def pubF (x : Int) : Bool := inF x 0 49
theorem spec_IsPublic_c (x : Int)  : T 46 [i6 x] [] (.bool (pubF x)) ([]) := by
  refine semT' (S := S0) hm spec_IsPublic_ok (Nat.le_of_ble_eq_true rfl) ?_
  unfold spec_IsPublic; dsimp only
  simp
  refine spec_l1In_call rfl ?_; simp
  exact LeV.ro rfl rfl (by simp [pubF])
theorem spec_IsPublic_call {x : Int}  {S : FuncId → Bool} {H : List Blk} {K : A → Dl → Prop} (hS : S 46 = false) (hK : K (.bool (pubF x)) (.news [])) : @WCall' Go.Proofs.Tryd.prog S 46 [i6 x] H ⟨K⟩ :=
  WCall_pure hS (spec_IsPublic_c x) (by simp) (by simp) (by simp) hK
theorem spec_IsPublic_k {x : Int}  {S : FuncId → Bool} {H : List Blk} {K : A → Dl → Prop} {zs : List A} (hS : S 46 = false) (hv : viewL (viewA 8 H) zs = some [i6 x]) (ho : noOwns zs = true ∨ nosl (.bool (pubF x)) = true) (hK : K (.bool (pubF x)) (.news [])) : @WCall' Go.Proofs.Tryd.prog S 46 zs H ⟨K⟩ :=
  WCall_pure hS (spec_IsPublic_c x) hv ho (by simp) hK
theorem impl_IsPublic_c (x : Int)  : T 59 [i6 x] [] (.bool (pubF x)) ([]) := by
  refine semT' (S := S0) hm impl_IsPublic_ok (Nat.le_of_ble_eq_true rfl) ?_
  unfold impl_IsPublic; dsimp only
  simp
  refine impl_inRange_call rfl ?_; simp
  exact LeV.ro rfl rfl (by simp [pubF])
theorem impl_IsPublic_call {x : Int}  {S : FuncId → Bool} {H : List Blk} {K : A → Dl → Prop} (hS : S 59 = false) (hK : K (.bool (pubF x)) (.news [])) : @WCall' Go.Proofs.Tryd.prog S 59 [i6 x] H ⟨K⟩ :=
  WCall_pure hS (impl_IsPublic_c x) (by simp) (by simp) (by simp) hK
theorem impl_IsPublic_k {x : Int}  {S : FuncId → Bool} {H : List Blk} {K : A → Dl → Prop} {zs : List A} (hS : S 59 = false) (hv : viewL (viewA 8 H) zs = some [i6 x]) (ho : noOwns zs = true ∨ nosl (.bool (pubF x)) = true) (hK : K (.bool (pubF x)) (.news [])) : @WCall' Go.Proofs.Tryd.prog S 59 zs H ⟨K⟩ :=
  WCall_pure hS (impl_IsPublic_c x) hv ho (by simp) hK
theorem kpF_pool {ns : List Nd} {ks : List Int} (h : kpF ns ks = true) : poolF ns = true := by simp [kpF] at h; exact h.1
end Go.Proofs.YtijileoflejgpaaDoor.C

set_option linter.unusedVariables false
set_option linter.unusedSimpArgs false
set_option maxRecDepth 4000
namespace Go.Proofs.YtijileoflejgpaaDoor.C
open Go.Sym Go.Proofs.YtijileoflejgpaaDoor.I
structure Sp where
  r : Int
  t : Int
  a : Int
  b : Int
deriving DecidableEq
theorem Sp_eq {x y : Sp} : x = y ↔ x.r = y.r ∧ x.t = y.t ∧ x.a = y.a ∧ x.b = y.b := by cases x; cases y; simp
def encT (s : Sp) : List A := [i6 s.r, i6 s.t, i6 s.a, i6 s.b]
def encS (ss : List Sp) : List A := ss.flatMap encT
theorem encT_len (n : Sp) : (encT n).length = 4 := rfl
@[simp] theorem encS_len (ns : List Sp) : (encS ns).length = ns.length * 4 := flat_len encT_len ns
@[simp] theorem encS_scals (ns : List Sp) : scals (encS ns) = true := scals_flat _ (fun _ => rfl) ns
theorem encS_at {ns : List Sp} {j : Nat} (h : j < ns.length) : ∃ r, (encS ns).drop (j * 4) = i6 ns[j].r :: i6 ns[j].t :: i6 ns[j].a :: i6 ns[j].b :: r := flat_at encT_len (List.getElem?_eq_getElem h)
@[simp] theorem encS_view (n : Nat) (H : List Blk) (ns : List Sp) : viewL (viewA (n + 1) H) (encS ns) = some (encS ns) := viewL_scals _ (encS_scals ns)
@[simp] theorem encS_noOwns (ns : List Sp) : noOwns (encS ns) = true := noOwns_scals _ (encS_scals ns)
@[simp] theorem encS_nosls (ns : List Sp) : nosls (encS ns) = true := nosls_scals _ (encS_scals ns)
@[simp] theorem encS_shift (n : Nat) (ns : List Sp) : shiftAs n (encS ns) = encS ns := shiftAs_scals _ (encS_scals ns)
@[simp] theorem encS_inAs (m : Nat) (ns : List Sp) : inAs m (encS ns) = true := inAs_scals _ (encS_scals ns)
@[simp] theorem encS_tells (H H' : List Blk) (g : List (Option Nat)) (ns : List Sp) : Tells H H' g (encS ns) (encS ns) := Tells_scals _ (encS_scals ns)
@[simp] theorem encS_one (ns : List Sp) : (encS ns).all A.one = true := one_scals _ (encS_scals ns)
@[simp] theorem encS_take (ns : List Sp) : (encS ns).take (ns.length * 4) = encS ns := List.take_of_length_le (by simp)
@[simp] theorem encS_nil : encS [] = [] := rfl
theorem encS_snoc (ns : List Sp) (n : Sp) : encS (ns ++ [n]) = encS ns ++ [i6 n.r, i6 n.t, i6 n.a, i6 n.b] := by simp [encS, encT]
theorem encS_takes (ns : List Sp) (j : Nat) : (encS ns).take (j * 4) = encS (ns.take j) := flat_take encT_len ns j
theorem encS_drops (ns : List Sp) (j : Nat) : (encS ns).drop (j * 4) = encS (ns.drop j) := flat_drop encT_len ns j
abbrev aSt (n : Sp) : A := .agg [i6 n.r, i6 n.t, i6 n.a, i6 n.b]
abbrev aSs (ss : List Sp) : A := .sl ss.length (encS ss)
/-- How many steps a step needs. -/
def needsF (ns : List Nd) (s : Sp) : Int :=
  if s.r = 1 ∨ s.r = 2 then 0 else if s.r = 3 then partsF (nodeAt ns s.t).k else if s.r = 4 ∨ s.r = 7 then 2 else if s.r = 5 ∨ s.r = 6 ∨ s.r = 8 then 1 else -1
theorem partsL_len {ns : List Nd} (hp : poolF ns = true) {t : Int} (ht : hasF ns.length t = true) : ((partsL (nodeAt ns t)).length : Int) = partsF (nodeAt ns t).k := by
  obtain ⟨j, rfl, hj⟩ := hasN ht
  rw [nodeAt_nat hj]
  rcases parts_kind hp hj with h | h | h <;> simp [partsL, h]
theorem spec_l9Needs_c (ns : List Nd) (s : Sp) (hl : ns.length < 9223372036854775807) (ht : hasF ns.length s.t = true) : T 44 [aP ns, aSt s] [] (i6 (needsF ns s)) ([]) := by
  refine semT' (S := S0) hm spec_l9Needs_ok (Nat.le_of_ble_eq_true rfl) ?_
  unfold spec_l9Needs; dsimp only
  obtain ⟨j, ej, hj⟩ := hasN ht
  obtain ⟨q, hr⟩ := enc_at hj
  have h3 : 3 ≤ ns.length * 3 - j * 3 := by omega
  have en : nodeAt ns s.t = ns[j] := by rw [ej, nodeAt_nat hj]
  have en2 := nodeAt_nat hj
  simp [ej]
  repeat (any_goals (first | (refine br_intro' (fun h => ?_) (fun h => ?_) <;> (try simp at h) <;> try simp [h, h3, hr, hj]) | (refine spec_l1Parts_call rfl ?_; simp)))
  all_goals exact LeV.ro rfl rfl (by simp [needsF, en, en2, *])
theorem spec_l9Needs_call {ns : List Nd} {s : Sp} (hl : ns.length < 9223372036854775807) (ht : hasF ns.length s.t = true) {S : FuncId → Bool} {H : List Blk} {K : A → Dl → Prop} (hS : S 44 = false) (hK : K (i6 (needsF ns s)) (.news [])) : @WCall' Go.Proofs.Tryd.prog S 44 [aP ns, aSt s] H ⟨K⟩ :=
  WCall_pure hS (spec_l9Needs_c ns s hl ht) (by simp) (by simp) (by simp) hK
theorem spec_l9Needs_k {ns : List Nd} {s : Sp} (hl : ns.length < 9223372036854775807) (ht : hasF ns.length s.t = true) {S : FuncId → Bool} {H : List Blk} {K : A → Dl → Prop} {zs : List A} (hS : S 44 = false) (hv : viewL (viewA 8 H) zs = some [aP ns, aSt s]) (ho : noOwns zs = true ∨ nosl (i6 (needsF ns s)) = true) (hK : K (i6 (needsF ns s)) (.news [])) : @WCall' Go.Proofs.Tryd.prog S 44 zs H ⟨K⟩ :=
  WCall_pure hS (spec_l9Needs_c ns s hl ht) hv ho (by simp) hK
theorem impl_Pool_needs_c (ns : List Nd) (r : List A) (s : Sp) (hl : ns.length < 9223372036854775807) (hp : poolF ns = true) (ht : hasF ns.length s.t = true) (hv : ∀ n H, viewL (viewA (n + 1) H) r = some r) (ho : noOwns r = true) : T 20 [.pt (.sl ns.length (enc ns) :: r), aSt s] [] (i6 (needsF ns s)) ([]) := by
  refine semT' (S := S0) hm impl_Pool_needs_ok (Nat.le_of_ble_eq_true rfl) ?_
  unfold impl_Pool_needs; dsimp only
  have hq := partsL_len hp ht
  simp
  repeat (any_goals (first | (refine br_intro' (fun h => ?_) (fun h => ?_) <;> (try simp at h) <;> try simp [h]) | (refine WCall_ro' rfl (by simp [hv]) (impl_Pool_parts_c ns r s.t hl ht) rfl (.inr ⟨by simp, by simp [noslBlks]⟩) ?_; simp [shiftB])))
  all_goals exact LeV.ro rfl rfl (by simp [needsF, *])
def stepNeedsF (ns : List Nd) (s : Sp) : Int := if poolF ns = true ∧ hasF ns.length s.t = true then needsF ns s else -1
/-- The term of a step ahead of place m; -1: there's none. -/
def termAt (ss : List Sp) (m : Nat) (k : Int) : Int := if inF k 0 ((m : Int) - 1) then (ss.getD k.toNat ⟨0, 0, 0, 0⟩).t else -1
theorem spec_l9Term_c (ss : List Sp) (m : Nat) (k : Int) (hl : ss.length < 9223372036854775807) (hml : m ≤ ss.length) : T 27 [aSs ss, i6 m, i6 k] [] (i6 (termAt ss m k)) ([]) := by
  refine semT' (S := S0) hm spec_l9Term_ok (Nat.le_of_ble_eq_true rfl) ?_
  unfold spec_l9Term; dsimp only
  simp [wrap_len (n := m) (by omega)]
  refine spec_l1In_call rfl ?_; simp
  refine br_intro' (fun h => ?_) (fun h => ?_) <;> simp [h]
  · have h' := h
    simp [inF] at h'
    obtain ⟨j, rfl⟩ : ∃ j : Nat, k = j := ⟨k.toNat, by omega⟩
    have hj : j < ss.length := by omega
    obtain ⟨q, hr⟩ := encS_at hj
    have h4 : 2 ≤ ss.length * 4 - j * 4 := by omega
    simp [hr, hj]
    exact LeV.ro rfl rfl (by simp [termAt, h, hj])
  · exact LeV.ro rfl rfl (by simp [termAt, h])
theorem spec_l9Term_call {ss : List Sp} {m : Nat} {k : Int} (hl : ss.length < 9223372036854775807) (hml : m ≤ ss.length) {S : FuncId → Bool} {H : List Blk} {K : A → Dl → Prop} (hS : S 27 = false) (hK : K (i6 (termAt ss m k)) (.news [])) : @WCall' Go.Proofs.Tryd.prog S 27 [aSs ss, i6 m, i6 k] H ⟨K⟩ :=
  WCall_pure hS (spec_l9Term_c ss m k hl hml) (by simp) (by simp) (by simp) hK
theorem spec_l9Term_k {ss : List Sp} {m : Nat} {k : Int} (hl : ss.length < 9223372036854775807) (hml : m ≤ ss.length) {S : FuncId → Bool} {H : List Blk} {K : A → Dl → Prop} {zs : List A} (hS : S 27 = false) (hv : viewL (viewA 8 H) zs = some [aSs ss, i6 m, i6 k]) (ho : noOwns zs = true ∨ nosl (i6 (termAt ss m k)) = true) (hK : K (i6 (termAt ss m k)) (.news [])) : @WCall' Go.Proofs.Tryd.prog S 27 zs H ⟨K⟩ :=
  WCall_pure hS (spec_l9Term_c ss m k hl hml) hv ho (by simp) hK
end Go.Proofs.YtijileoflejgpaaDoor.C

set_option linter.unusedVariables false
set_option linter.unusedSimpArgs false
set_option maxRecDepth 4000
namespace Go.Proofs.YtijileoflejgpaaDoor.C
open Go.Sym Go.Proofs.YtijileoflejgpaaDoor.I
theorem needsF_in {ns : List Nd} (hp : poolF ns = true) {s : Sp} (ht : hasF ns.length s.t = true) : needsF ns s = -1 ∨ needsF ns s = 0 ∨ needsF ns s = 1 ∨ needsF ns s = 2 := by
  obtain ⟨j, ej, hj⟩ := hasN ht
  have := parts_kind hp hj
  rw [← nodeAt_nat hj, ← ej] at this
  unfold needsF
  split
  · simp
  · split
    · rcases this with h | h | h <;> simp [h]
    · split
      · simp
      · split <;> simp
/-- Whether a rule holds, by the terms of the steps that are named. -/
def ruleF (ns : List Nd) (ks : List Int) (s : Sp) (a b : Int) : Bool :=
  if s.r = 1 then hasK ks s.t
  else if s.r = 2 then decide ((nodeAt ns s.t).k = 1) && pubF (nodeAt ns s.t).a
  else if s.r = 3 then decide ((nodeAt ns s.t).k ≠ 1) && decide (a = (nodeAt ns s.t).a) && (decide (needsF ns s < 2) || decide (b = (nodeAt ns s.t).b))
  else if s.r = 4 then decide ((nodeAt ns s.t).k = 8) && decide ((nodeAt ns b).k = 7) && (decide (a = (nodeAt ns s.t).a) && decide ((nodeAt ns b).a = (nodeAt ns s.t).b) || decide (a = (nodeAt ns s.t).b) && decide ((nodeAt ns b).a = (nodeAt ns s.t).a))
  else if s.r = 5 then decide ((nodeAt ns a).k = 2) && decide ((nodeAt ns a).a = s.t)
  else if s.r = 6 then decide ((nodeAt ns a).k = 2) && decide ((nodeAt ns a).b = s.t)
  else if s.r = 7 then decide ((nodeAt ns a).k = 3) && decide ((nodeAt ns a).a = s.t) && decide ((nodeAt ns a).b = b)
  else decide ((nodeAt ns a).k = 4) && decide ((nodeAt ns a).a = s.t)
def lackF (n a b sa sb : Int) : Bool := decide (n < 0 ∨ (0 < n ∧ a < 0) ∨ (1 < n ∧ b < 0) ∨ (n < 1 ∧ sa ≠ 0) ∨ (n < 2 ∧ sb ≠ 0))
def holdsF (ns : List Nd) (ks : List Int) (s : Sp) (a b : Int) : Bool := !lackF (needsF ns s) a b s.a s.b && ruleF ns ks s a b
theorem needs_0 {ns : List Nd} {s : Sp} (h : needsF ns s = 0) : s.r = 1 ∨ s.r = 2 ∨ s.r = 3 := by
  unfold needsF at h
  split at h
  · omega
  · split at h
    · omega
    · split at h
      · omega
      · split at h <;> omega
theorem needs_1 {ns : List Nd} {s : Sp} (h : needsF ns s = 1) : s.r = 3 ∨ s.r = 5 ∨ s.r = 6 ∨ s.r = 8 := by
  unfold needsF at h
  split at h
  · omega
  · split at h
    · omega
    · split at h
      · omega
      · split at h <;> omega
theorem needs_2 {ns : List Nd} {s : Sp} (h : needsF ns s = 2) : s.r = 3 ∨ s.r = 4 ∨ s.r = 7 := by
  unfold needsF at h
  split at h
  · omega
  · split at h
    · omega
    · split at h
      · omega
      · split at h <;> omega
theorem spec_l9Holds_c (ns : List Nd) (ks : List Int) (s : Sp) (a b : Int) (hl : ns.length < 9223372036854775807) (hk : ks.length < 9223372036854775807) (hp : poolF ns = true) (ht : hasF ns.length s.t = true) (ha : a < 0 ∨ hasF ns.length a = true) (hb : b < 0 ∨ hasF ns.length b = true) : T 26 [aP ns, aI ks, aSt s, i6 a, i6 b] [] (.bool (holdsF ns ks s a b)) ([]) := by
  refine semT' (S := S0) hm spec_l9Holds_ok (Nat.le_of_ble_eq_true rfl) ?_
  unfold spec_l9Holds; dsimp only
  obtain ⟨j, ej, hj⟩ := hasN ht
  obtain ⟨q, hr⟩ := enc_at hj
  have h3 : 3 ≤ ns.length * 3 - j * 3 := by omega
  have en := nodeAt_nat hj
  simp [ej, h3, hr, hj]
  rw [← ej]
  refine spec_l9Needs_call (s := s) hl ht rfl ?_; simp
  rcases needsF_in hp ht with hn | hn | hn | hn <;> simp [hn]
  · exact LeV.ro rfl rfl (by simp [holdsF, lackF, hn])
  · rcases needs_0 hn with h0 | h0 | h0
    all_goals repeat (any_goals (first | (refine br_intro' (fun h => ?_) (fun h => ?_) <;> (try simp at h) <;> try simp [h, h0, hn, h3, hr, hj]) | (refine spec_KnowHas_call (t := s.t) hk rfl ?_; simp) | (refine spec_IsPublic_call rfl ?_; simp)))
    all_goals exact LeV.ro rfl rfl (by simp [holdsF, lackF, ruleF, hn, h0, ej, en, *])
  · refine br_intro' (fun g => ?_) (fun g => ?_) <;> (have g0 := g) <;> simp at g <;> simp [g0, g]
    · exact LeV.ro rfl rfl (by simp [holdsF, lackF, hn, g])
    · obtain ⟨ja, rfl, hja⟩ := hasN (ha.resolve_left (by omega))
      obtain ⟨qa, hra⟩ := enc_at hja
      have h3a : 3 ≤ ns.length * 3 - ja * 3 := by omega
      have ena := nodeAt_nat hja
      rcases needs_1 hn with h0 | h0 | h0 | h0
      all_goals repeat (any_goals (first | (refine br_intro' (fun h => ?_) (fun h => ?_) <;> (have k0 := h) <;> (try simp [h0] at h) <;> try simp [k0, h, h0, hn, h3, hr, hj, h3a, hra, hja]) | (refine ck_intro' (by first | omega | kernel_rfl) ?_; simp [h0, hn, h3, hr, hj, h3a, hra, hja])))
      all_goals exact LeV.ro rfl rfl (by first | (simp [holdsF, lackF, ruleF, hn, h0, ej, en, ena, *]; done) | (simp [holdsF, lackF, ruleF, hn, h0, ej, en, ena, *]; omega))
  · refine br_intro' (fun g => ?_) (fun g => ?_) <;> (have g0 := g) <;> simp at g <;> simp [g0, g]
    · exact LeV.ro rfl rfl (by simp [holdsF, lackF, hn, g])
    obtain ⟨ja, rfl, hja⟩ := hasN (ha.resolve_left (by omega))
    refine br_intro' (fun g2 => ?_) (fun g2 => ?_) <;> (have g02 := g2) <;> simp at g2 <;> simp [g02, g2]
    · exact LeV.ro rfl rfl (by simp [holdsF, lackF, hn, g2])
    · obtain ⟨jb, rfl, hjb⟩ := hasN (hb.resolve_left (by omega))
      obtain ⟨qa, hra⟩ := enc_at hja
      have h3a : 3 ≤ ns.length * 3 - ja * 3 := by omega
      have ena := nodeAt_nat hja
      obtain ⟨qb, hrb⟩ := enc_at hjb
      have h3b : 3 ≤ ns.length * 3 - jb * 3 := by omega
      have enb := nodeAt_nat hjb
      rcases needs_2 hn with h0 | h0 | h0
      all_goals try simp [h0]
      all_goals repeat (any_goals (first | (refine br_intro' (fun h => ?_) (fun h => ?_) <;> (have k0 := h) <;> (try simp [h0] at h) <;> try simp [k0, h, h0, hn, h3, hr, hj, h3a, hra, hja, h3b, hrb, hjb]) | (refine ck_intro' (by first | omega | kernel_rfl) ?_; simp [h0, hn, h3, hr, hj, h3a, hra, hja, h3b, hrb, hjb])))
      all_goals exact LeV.ro rfl rfl (by first | (simp [holdsF, lackF, ruleF, hn, h0, ej, en, ena, enb, *]; done) | (simp [holdsF, lackF, ruleF, hn, h0, ej, en, ena, enb, *]; omega) | (simp [holdsF, lackF, ruleF, hn, h0, ej, en, ena, enb, *]; grind))
theorem spec_l9Holds_call {ns : List Nd} {ks : List Int} {s : Sp} {a b : Int} (hl : ns.length < 9223372036854775807) (hk : ks.length < 9223372036854775807) (hp : poolF ns = true) (ht : hasF ns.length s.t = true) (ha : a < 0 ∨ hasF ns.length a = true) (hb : b < 0 ∨ hasF ns.length b = true) {S : FuncId → Bool} {H : List Blk} {K : A → Dl → Prop} (hS : S 26 = false) (hK : K (.bool (holdsF ns ks s a b)) (.news [])) : @WCall' Go.Proofs.Tryd.prog S 26 [aP ns, aI ks, aSt s, i6 a, i6 b] H ⟨K⟩ :=
  WCall_pure hS (spec_l9Holds_c ns ks s a b hl hk hp ht ha hb) (by simp) (by simp) (by simp) hK
theorem spec_l9Holds_k {ns : List Nd} {ks : List Int} {s : Sp} {a b : Int} (hl : ns.length < 9223372036854775807) (hk : ks.length < 9223372036854775807) (hp : poolF ns = true) (ht : hasF ns.length s.t = true) (ha : a < 0 ∨ hasF ns.length a = true) (hb : b < 0 ∨ hasF ns.length b = true) {S : FuncId → Bool} {H : List Blk} {K : A → Dl → Prop} {zs : List A} (hS : S 26 = false) (hv : viewL (viewA 8 H) zs = some [aP ns, aI ks, aSt s, i6 a, i6 b]) (ho : noOwns zs = true ∨ nosl (.bool (holdsF ns ks s a b)) = true) (hK : K (.bool (holdsF ns ks s a b)) (.news [])) : @WCall' Go.Proofs.Tryd.prog S 26 zs H ⟨K⟩ :=
  WCall_pure hS (spec_l9Holds_c ns ks s a b hl hk hp ht ha hb) hv ho (by simp) hK
end Go.Proofs.YtijileoflejgpaaDoor.C

set_option linter.unusedVariables false
set_option linter.unusedSimpArgs false
set_option maxRecDepth 4000
namespace Go.Proofs.YtijileoflejgpaaDoor.C
open Go.Sym Go.Proofs.YtijileoflejgpaaDoor.I
/-- The terms of the steps that a step names; false: it may not. -/
def termsV (ns : List Nd) (ss : List Sp) (s : Sp) : Int × Int × Bool :=
  if needsF ns s < 0 ∨ (needsF ns s < 1 ∧ s.a ≠ 0) ∨ (needsF ns s < 2 ∧ s.b ≠ 0) then (0, 0, false)
  else if 0 < needsF ns s ∧ inF s.a 0 ((ss.length : Int) - 1) = false then (0, 0, false)
  else if 1 < needsF ns s ∧ inF s.b 0 ((ss.length : Int) - 1) = false then (0, 0, false)
  else (if 0 < needsF ns s then termAt ss ss.length s.a else -1, if 1 < needsF ns s then termAt ss ss.length s.b else -1, true)
theorem impl_Pool_terms_c (ns : List Nd) (r : List A) (ss : List Sp) (s : Sp) (hl : ns.length < 9223372036854775807) (hls : ss.length < 9223372036854775807) (hp : poolF ns = true) (ht : hasF ns.length s.t = true) (hv : ∀ n H, viewL (viewA (n + 1) H) r = some r) (ho : noOwns r = true) : T 57 [.pt (.sl ns.length (enc ns) :: r), aSs ss, aSt s] [] (.tup [i6 (termsV ns ss s).1, i6 (termsV ns ss s).2.1, .bool (termsV ns ss s).2.2]) ([]) := by
  refine semT' (S := S0) hm impl_Pool_terms_ok (Nat.le_of_ble_eq_true rfl) ?_
  unfold impl_Pool_terms; dsimp only
  have hw := wrap_len (n := ss.length) (by omega)
  simp
  refine WCall_pure rfl (impl_Pool_needs_c ns r s hl hp ht hv ho) (by simp [hv]) (by simp [ho]) (by simp) ?_; simp
  rcases needsF_in hp ht with hn | hn | hn | hn <;> simp [hn]
  · exact LeV.ro rfl rfl (by simp [termsV, hn])
  · repeat (any_goals (first | (refine br_intro' (fun h => ?_) (fun h => ?_) <;> (have k0 := h) <;> (try simp at h) <;> try simp [k0, h])))
    all_goals exact LeV.ro rfl rfl (by simp [termsV, hn, *])
  · refine br_intro' (fun h => ?_) (fun h => ?_) <;> (try simp at h) <;> try simp [h]
    · rw [hw]
      refine impl_inRange_call rfl ?_; simp
      refine br_intro' (fun g => ?_) (fun g => ?_) <;> simp [g]
      · have g' := g
        simp [inF] at g'
        obtain ⟨j, e⟩ : ∃ j : Nat, s.a = j := ⟨s.a.toNat, by omega⟩
        have hj : j < ss.length := by omega
        obtain ⟨q, hr⟩ := encS_at hj
        have h4 : 2 ≤ ss.length * 4 - j * 4 := by omega
        rw [e]
        simp [hr, hj]
        rw [e] at g
        exact LeV.ro rfl rfl (by simp [termsV, termAt, hn, e, g, h, hj])
      · exact LeV.ro rfl rfl (by simp [termsV, hn, h, g])
    · exact LeV.ro rfl rfl (by simp [termsV, hn, h])
  · rw [hw]
    refine impl_inRange_call rfl ?_; simp
    refine br_intro' (fun g => ?_) (fun g => ?_) <;> simp [g]
    · have g' := g
      simp [inF] at g'
      obtain ⟨j, e⟩ : ∃ j : Nat, s.a = j := ⟨s.a.toNat, by omega⟩
      have hj : j < ss.length := by omega
      obtain ⟨q, hr⟩ := encS_at hj
      have h4 : 2 ≤ ss.length * 4 - j * 4 := by omega
      rw [e]
      simp [hr, hj]
      rw [hw]
      refine impl_inRange_call rfl ?_; simp
      refine br_intro' (fun f => ?_) (fun f => ?_) <;> simp [f]
      · have f' := f
        simp [inF] at f'
        obtain ⟨i, e2⟩ : ∃ i : Nat, s.b = i := ⟨s.b.toNat, by omega⟩
        have hi : i < ss.length := by omega
        obtain ⟨q2, hr2⟩ := encS_at hi
        have h42 : 2 ≤ ss.length * 4 - i * 4 := by omega
        rw [e2]
        simp [hr2, hi]
        rw [e] at g
        rw [e2] at f
        exact LeV.ro rfl rfl (by simp [termsV, termAt, hn, e, g, e2, f, hj, hi])
      · rw [e] at g
        exact LeV.ro rfl rfl (by simp [termsV, hn, e, g, f])
    · exact LeV.ro rfl rfl (by simp [termsV, hn, g])
theorem termAt_neg {ss : List Sp} {m : Nat} {k : Int} (h : inF k 0 ((m : Int) - 1) = false) : termAt ss m k = -1 := by simp [termAt, h]
theorem termAt_in {ns : List Nd} {ss : List Sp} {m : Nat} (hml : m ≤ ss.length) (hss : ∀ j : Nat, j < m → (h : j < ss.length) → hasF ns.length ss[j].t = true) (k : Int) : (inF k 0 ((m : Int) - 1) = false ∧ termAt ss m k = -1) ∨ inF k 0 ((m : Int) - 1) = true ∧ hasF ns.length (termAt ss m k) = true := by
  cases h : inF k 0 ((m : Int) - 1) with
  | false => exact .inl ⟨rfl, by simp [termAt, h]⟩
  | true =>
    right
    have h' := h
    simp [inF] at h'
    obtain ⟨j, rfl⟩ : ∃ j : Nat, k = j := ⟨k.toNat, by omega⟩
    have hj : j < ss.length := by omega
    have := hss j (by omega) hj
    refine ⟨rfl, ?_⟩
    simp [termAt, h, hj]
    exact this
theorem partsF_0 {k : Int} (h : partsF k = 0) : k = 1 := by
  unfold partsF at h
  split at h
  · assumption
  · split at h
    · omega
    · split at h <;> omega
theorem partsF_ne {k : Int} (h : partsF k ≠ 0) : k ≠ 1 := fun e => h (by simp [partsF, e])
theorem hasF_pos {m : Nat} {t : Int} (h : hasF m t = true) : ¬ t < 0 := by simp [hasF, inF] at h; omega
end Go.Proofs.YtijileoflejgpaaDoor.C

set_option linter.unusedVariables false
set_option linter.unusedSimpArgs false
set_option maxRecDepth 4000
namespace Go.Proofs.YtijileoflejgpaaDoor.C
open Go.Sym Go.Proofs.YtijileoflejgpaaDoor.I
def stepOkF (ns : List Nd) (ks : List Int) (ss : List Sp) (s : Sp) : Bool := hasF ns.length s.t && holdsF ns ks s (termAt ss ss.length s.a) (termAt ss ss.length s.b)
theorem impl_Pool_holds_c (ns : List Nd) (r : List A) (ks : List Int) (ss : List Sp) (s : Sp) (hl : ns.length < 9223372036854775807) (hk : ks.length < 9223372036854775807) (hls : ss.length < 9223372036854775807) (hp : poolF ns = true) (hss : ∀ j : Nat, (h : j < ss.length) → hasF ns.length ss[j].t = true) (hv : ∀ n H, viewL (viewA (n + 1) H) r = some r) (ho : noOwns r = true) : T 50 [.pt (.sl ns.length (enc ns) :: r), aI ks, aSs ss, aSt s] [] (.bool (stepOkF ns ks ss s)) ([]) := by
  refine semT' (S := S0) hm impl_Pool_holds_ok (Nat.le_of_ble_eq_true rfl) ?_
  unfold impl_Pool_holds; dsimp only
  simp
  refine WCall_pure rfl (impl_Pool_isTerm_c ns r s.t hl) (by simp [hv]) (by simp [ho]) (by simp) ?_; simp
  refine br_intro' (fun h => ?_) (fun h => ?_) <;> simp [h]
  rotate_left
  · exact LeV.ro rfl rfl (by simp [stepOkF, h])
  refine WCall_pure rfl (impl_Pool_terms_c ns r ss s hl hls hp h hv ho) (by simp [hv]) (by simp [ho]) (by simp) ?_; simp
  have hta := termAt_in (Nat.le_refl _) (fun j hj hj' => hss j hj') s.a
  have htb := termAt_in (Nat.le_refl _) (fun j hj hj' => hss j hj') s.b
  obtain ⟨j, ej, hj⟩ := hasN h
  obtain ⟨q, hr⟩ := enc_at hj
  have h3 : 3 ≤ ns.length * 3 - j * 3 := by omega
  have en := nodeAt_nat hj
  have hpk := parts_kind hp hj
  rcases needsF_in hp h with hn | hn | hn | hn
  · simp [termsV, hn]
    exact LeV.ro rfl rfl (by simp [stepOkF, holdsF, lackF, hn])
  · by_cases hz : s.a = 0 ∧ s.b = 0
    · rw [show termsV ns ss s = (-1, -1, true) by simp [termsV, hn, hz]]
      simp [ej, h3, hr, hj]
      refine ck_intro' (by kernel_rfl) ?_; simp [ej, h3, hr, hj]
      rw [← ej]
      have hst : stepOkF ns ks ss s = ruleF ns ks s (termAt ss ss.length s.a) (termAt ss ss.length s.b) := by simp [stepOkF, h, holdsF, lackF, hn, hz]
      have hpl : s.r = 3 → partsL (nodeAt ns s.t) = [] ∧ ns[j].k = 1 := fun e => by
        have hz0 : partsF ns[j].k = 0 := by rw [← en, ← ej]; simpa [needsF, e] using hn
        exact ⟨by rw [ej, en]; simp [partsL, hz0], partsF_0 hz0⟩
      rcases needs_0 hn with h0 | h0 | h0
      all_goals try simp [h0]
      all_goals simp only [h0, true_implies, reduceCtorEq, false_implies] at hpl
      all_goals repeat (any_goals (first | (refine br_intro' (fun h => ?_) (fun h => ?_) <;> (have k0 := h) <;> (try simp [h0] at h) <;> try simp [k0, h, h0, hn, h3, hr, hj]) | (refine ck_intro' (by first | omega | kernel_rfl) ?_; simp [h0, hn, h3, hr, hj]) | (refine slices_Contains_int_call (ks := ks) (t := s.t) hk rfl ?_; simp) | (refine impl_IsPublic_call rfl ?_; simp) | (refine WCall_ro' rfl (by simp [hv]) (impl_Pool_parts_c ns r s.t hl (by assumption)) rfl (.inr ⟨by simp, by simp [noslBlks]⟩) ?_; simp [shiftB, hpl])))
      all_goals exact LeV.ro rfl rfl (by rw [hst]; first | (simp [ruleF, hn, h0, ej, en, *]; done) | (simp [ruleF, hn, h0, ej, en, *]; omega) | (simp [ruleF, hn, h0, ej, en, *]; grind))
    · rw [show termsV ns ss s = (0, 0, false) by simp [termsV, hn]; omega]
      simp
      exact LeV.ro rfl rfl (by simp [stepOkF, holdsF, lackF, hn]; omega)
  · rcases hta with ⟨h1, h2⟩ | ⟨h1, h2⟩
    · have et : (termsV ns ss s).2.2 = false := by simp only [termsV, hn, h1]; split <;> simp
      rw [et]
      simp
      exact LeV.ro rfl rfl (by simp [stepOkF, holdsF, lackF, hn, h2])
    · by_cases hz : s.b = 0
      · rw [show termsV ns ss s = (termAt ss ss.length s.a, -1, true) by simp [termsV, hn, hz, h1]]
        obtain ⟨ja, eja, hja⟩ := hasN h2
        obtain ⟨qa, hra⟩ := enc_at hja
        have h3a : 3 ≤ ns.length * 3 - ja * 3 := by omega
        have ena := nodeAt_nat hja
        simp [ej, h3, hr, hj]
        refine ck_intro' (by kernel_rfl) ?_; simp [ej, h3, hr, hj]
        rw [← ej]
        have hst : stepOkF ns ks ss s = ruleF ns ks s (termAt ss ss.length s.a) (termAt ss ss.length s.b) := by simp [stepOkF, h, holdsF, lackF, hn, hz, hasF_pos h2]
        rw [hst, eja]
        have hpl : s.r = 3 → partsL (nodeAt ns s.t) = [ns[j].a] ∧ ns[j].k ≠ 1 := fun e => by
          have hz0 : partsF ns[j].k = 1 := by rw [← en, ← ej]; simpa [needsF, e] using hn
          exact ⟨by rw [ej, en]; simp [partsL, hz0], partsF_ne (by omega)⟩
        rcases needs_1 hn with h0 | h0 | h0 | h0
        all_goals try simp [h0]
        all_goals simp only [h0, true_implies, reduceCtorEq, false_implies] at hpl
        all_goals repeat (any_goals (first | (refine br_intro' (fun h => ?_) (fun h => ?_) <;> (have k0 := h) <;> (try simp [h0] at h) <;> try simp [k0, h, h0, hn, h3, hr, hj, h3a, hra, hja]) | (refine ck_intro' (by first | omega | kernel_rfl) ?_; simp [h0, hn, h3, hr, hj, h3a, hra, hja]) | (refine slices_Contains_int_call (ks := ks) (t := s.t) hk rfl ?_; simp) | (refine impl_IsPublic_call rfl ?_; simp) | (refine WCall_ro' rfl (by simp [hv]) (impl_Pool_parts_c ns r s.t hl (by assumption)) rfl (.inr ⟨by simp, by simp [noslBlks]⟩) ?_; simp [shiftB, hpl])))
        all_goals exact LeV.ro rfl rfl (by first | (simp [ruleF, hn, h0, ej, en, *]; done) | (simp [ruleF, hn, h0, ej, en, *]; omega) | (simp [ruleF, hn, h0, ej, en, *]; grind))
      · rw [show (termsV ns ss s).2.2 = false by simp [termsV, hn, hz]]
        simp
        exact LeV.ro rfl rfl (by simp [stepOkF, holdsF, lackF, hn, hz])
  · rcases hta with ⟨h1, h2⟩ | ⟨h1, h2⟩
    · have et : (termsV ns ss s).2.2 = false := by simp only [termsV, hn, h1]; simp
      rw [et]
      simp
      exact LeV.ro rfl rfl (by simp [stepOkF, holdsF, lackF, hn, h2])
    rcases htb with ⟨k1, k2⟩ | ⟨k1, k2⟩
    · have et : (termsV ns ss s).2.2 = false := by simp only [termsV, hn, h1, k1]; simp
      rw [et]
      simp
      exact LeV.ro rfl rfl (by simp [stepOkF, holdsF, lackF, hn, k2])
    · rw [show termsV ns ss s = (termAt ss ss.length s.a, termAt ss ss.length s.b, true) by simp [termsV, hn, h1, k1]]
      obtain ⟨ja, eja, hja⟩ := hasN h2
      obtain ⟨qa, hra⟩ := enc_at hja
      have h3a : 3 ≤ ns.length * 3 - ja * 3 := by omega
      have ena := nodeAt_nat hja
      obtain ⟨jb, ejb, hjb⟩ := hasN k2
      obtain ⟨qb, hrb⟩ := enc_at hjb
      have h3b : 3 ≤ ns.length * 3 - jb * 3 := by omega
      have enb := nodeAt_nat hjb
      simp [ej, h3, hr, hj]
      refine ck_intro' (by kernel_rfl) ?_; simp [ej, h3, hr, hj]
      rw [← ej]
      have hst : stepOkF ns ks ss s = ruleF ns ks s (termAt ss ss.length s.a) (termAt ss ss.length s.b) := by simp [stepOkF, h, holdsF, lackF, hn, hasF_pos h2, hasF_pos k2]
      rw [hst, eja, ejb]
      have hpl : s.r = 3 → partsL (nodeAt ns s.t) = [ns[j].a, ns[j].b] ∧ ns[j].k ≠ 1 := fun e => by
        have hz0 : partsF ns[j].k = 2 := by rw [← en, ← ej]; simpa [needsF, e] using hn
        exact ⟨by rw [ej, en]; simp [partsL, hz0], partsF_ne (by omega)⟩
      rcases needs_2 hn with h0 | h0 | h0
      all_goals try simp [h0]
      all_goals simp only [h0, true_implies, reduceCtorEq, false_implies] at hpl
      all_goals repeat (any_goals (first | (refine br_intro' (fun h => ?_) (fun h => ?_) <;> (have k0 := h) <;> (try simp [h0] at h) <;> try simp [k0, h, h0, hn, h3, hr, hj, h3a, hra, hja, h3b, hrb, hjb]) | (refine ck_intro' (by first | omega | kernel_rfl) ?_; simp [h0, hn, h3, hr, hj, h3a, hra, hja, h3b, hrb, hjb]) | (refine slices_Contains_int_call (ks := ks) (t := s.t) hk rfl ?_; simp) | (refine impl_IsPublic_call rfl ?_; simp) | (refine WCall_ro' rfl (by simp [hv]) (impl_Pool_parts_c ns r s.t hl (by assumption)) rfl (.inr ⟨by simp, by simp [noslBlks]⟩) ?_; simp [shiftB, hpl])))
      all_goals exact LeV.ro rfl rfl (by first | (simp [ruleF, hn, h0, ej, en, *]; done) | (simp [ruleF, hn, h0, ej, en, *]; omega) | (simp [ruleF, hn, h0, ej, en, *]; grind))
end Go.Proofs.YtijileoflejgpaaDoor.C

set_option linter.unusedVariables false
set_option linter.unusedSimpArgs false
set_option maxRecDepth 4000
namespace Go.Proofs.YtijileoflejgpaaDoor.C
open Go.Sym Go.Proofs.YtijileoflejgpaaDoor.I
abbrev spAt (ss : List Sp) (i : Nat) : Sp := ss.getD i ⟨0, 0, 0, 0⟩
theorem spAt_lt {ss : List Sp} {i : Nat} (h : i < ss.length) : spAt ss i = ss[i] := by simp [spAt, h]
def freshF (ss : List Sp) (i : Nat) : Bool := decide (∀ x ∈ ss.take i, x.t ≠ (spAt ss i).t)
def prF (ns : List Nd) (ks : List Int) (ss : List Sp) (i : Nat) : Bool := stepOkF ns ks (ss.take i) (spAt ss i) && freshF ss i
/-- A list of steps that is a proof. -/
def proofF (ns : List Nd) (ks : List Int) (ss : List Sp) : Bool := kpF ns ks && decide (ss.length ≤ 500) && allF (prF ns ks ss) ss.length 0
theorem termAt_take {ss : List Sp} {i : Nat} (h : i ≤ ss.length) (k : Int) : termAt (ss.take i) (ss.take i).length k = termAt ss i k := by
  have e : (ss.take i).length = i := by simp; omega
  rw [e]
  unfold termAt
  split
  · rename_i g
    simp [inF] at g
    have : k.toNat < i := by omega
    simp [List.getElem?_take, this]
  · rfl
theorem spec_l9Proof_c (ns : List Nd) (ks : List Int) (ss : List Sp) (hl : ns.length < 9223372036854775807) (hk : ks.length < 9223372036854775807) (hls : ss.length < 9223372036854775807) : T 15 [aP ns, aI ks, aSs ss] [] (.bool (proofF ns ks ss)) ([]) := by
  refine semT' (S := S0) hm spec_l9Proof_ok (Nat.le_of_ble_eq_true rfl) ?_
  unfold spec_l9Proof; dsimp only
  simp
  refine spec_KnowOk_call hl rfl ?_; simp
  refine br_intro' (fun hkp => ?_) (fun hkp => ?_) <;> simp [hkp]
  rotate_left
  · exact LeV.ro rfl rfl (by simp [proofF, hkp])
  have hp := kpF_pool hkp
  refine br_intro' (fun h5 => ?_) (fun h5 => ?_) <;> simp at h5 <;> simp [h5]
  · exact LeV.ro rfl rfl (by simp [proofF]; omega)
  have h500 : ss.length ≤ 500 := by omega
  have hP : proofF ns ks ss = allF (prF ns ks ss) ss.length 0 := by simp [proofF, hkp, h500]
  rw [hP]
  refine WLoop_fam (fun j : Nat => [(1, aI ks), (2, aSs ss), (3, A.ptr 0 0 0), (7, i6 j)]) (fun _ => [⟨0, false, 1, [A.sl ns.length (enc ns)], none⟩]) (fun j => ss.length - j)
    (fun j => j ≤ ss.length ∧ allF (prF ns ks ss) ss.length 0 = allF (prF ns ks ss) ss.length j ∧ ∀ i : Nat, i < j → (h : i < ss.length) → hasF ns.length ss[i].t = true) ?_ 0 ⟨Nat.zero_le _, rfl, fun i h => by omega⟩
  intro j ⟨hj, hf, hss⟩ ih
  simp
  refine br_intro' (fun h => ?_) (fun h => ?_) <;> (have h0 := h) <;> (try simp at h) <;> try simp [h0, h]
  · have h' := h
    obtain ⟨q, hr⟩ := encS_at h
    have h4 : 4 ≤ ss.length * 4 - j * 4 := by omega
    have hw := wrap_succ (n := j) (by omega)
    simp [h4, hr]
    refine spec_l1Has_call (t := ss[j].t) hl rfl ?_; simp
    have hfj : allF (prF ns ks ss) ss.length j = (prF ns ks ss j && allF (prF ns ks ss) ss.length (j + 1)) := allF_at h'
    have hprj : prF ns ks ss j = (hasF ns.length ss[j].t && holdsF ns ks ss[j] (termAt ss j ss[j].a) (termAt ss j ss[j].b) && freshF ss j) := by
      simp only [prF, spAt_lt h', stepOkF, termAt_take hj]
    refine br_intro' (fun g => ?_) (fun g => ?_) <;> simp [g]
    · refine spec_l9Term_call (ss := ss) (m := j) (k := ss[j].a) (by omega) hj rfl ?_; simp
      refine spec_l9Term_call (ss := ss) (m := j) (k := ss[j].b) (by omega) hj rfl ?_; simp
      have hta := termAt_in hj hss ss[j].a
      have htb := termAt_in hj hss ss[j].b
      refine spec_l9Holds_k (ns := ns) (ks := ks) (s := ss[j]) (a := termAt ss j ss[j].a) (b := termAt ss j ss[j].b) hl hk hp g (hta.imp (fun z => by omega) (fun z => z.2)) (htb.imp (fun z => by omega) (fun z => z.2)) rfl (by simp) (by simp) ?_; simp
      refine ck_intro' (by kernel_rfl) ?_; simp
      refine br_intro' (fun f => ?_) (fun f => ?_) <;> simp [f]
      · refine WLoop_fam (fun k : Nat => [(1, aI ks), (2, aSs ss), (3, A.ptr 0 0 0), (7, i6 j), (8, A.ptr 1 0 0), (9, i6 k)]) (fun _ => [⟨0, false, 1, [A.sl ns.length (enc ns)], none⟩, ⟨0, false, 1, [i6 ss[j].r, i6 ss[j].t, i6 ss[j].a, i6 ss[j].b], none⟩]) (fun k => j - k)
          (fun k => k ≤ j ∧ ∀ x ∈ ss.take k, x.t ≠ ss[j].t) ?_ 0 ⟨Nat.zero_le _, by simp⟩
        intro k ⟨hkj, hfr⟩ ih2
        simp
        refine br_intro' (fun u => ?_) (fun u => ?_) <;> (have u0 := u) <;> simp at u <;> simp [u0, u]
        · have hkl : k < ss.length := by omega
          obtain ⟨q2, hr2⟩ := encS_at hkl
          have h42 : 2 ≤ ss.length * 4 - k * 4 := by omega
          have hw2 := wrap_succ (n := k) (by omega)
          simp [hkl, hr2]
          refine ck_intro' (by kernel_rfl) ?_; simp
          refine br_intro' (fun v => ?_) (fun v => ?_) <;> simp at v <;> simp [v]
          · exact LeV.ro rfl rfl (by
              have : freshF ss j = false := by
                simp only [freshF, spAt_lt h', decide_eq_false_iff_not]
                intro e
                exact e ss[k] (List.mem_take_iff_getElem.2 ⟨k, by omega, rfl⟩) v
              rw [hf, hfj, hprj]; simp [this])
          · rw [hw2]
            refine ih2 (k + 1) ⟨u, fun x hx => ?_⟩ (by omega)
            rw [List.take_succ_eq_append_getElem hkl] at hx
            rcases List.mem_append.1 hx with hx | hx
            · exact hfr x hx
            · simp at hx; subst hx; exact v
        · have hkj' : k = j := by omega
          subst hkj'
          rw [hw]
          have hfre : freshF ss k = true := by simp only [freshF, spAt_lt h', decide_eq_true_eq]; exact hfr
          refine WLoop_drop [⟨0, false, 1, [A.sl ns.length (enc ns)], none⟩] [_] rfl (by simp) (by simp) (by simp) ?_
          refine ih (k + 1) ⟨h', by rw [hf, hfj, hprj, g, f, hfre]; simp, fun i hi hil => ?_⟩ (by omega)
          rcases Nat.lt_or_ge i k with z | z
          · exact hss i z hil
          · have : i = k := by omega
            subst this; exact g
      · exact LeV.ro rfl rfl (by rw [hf, hfj, hprj]; simp [f])
    · first | (refine ck_intro' (by kernel_rfl) ?_; try simp) | skip
      exact LeV.ro rfl rfl (by rw [hf, hfj, hprj]; simp [g])
  · have e := allF_end (p := prF ns ks ss) h
    exact LeV.ro rfl rfl (by rw [hf, e]; rfl)
theorem spec_l9Proof_call {ns : List Nd} {ks : List Int} {ss : List Sp} (hl : ns.length < 9223372036854775807) (hk : ks.length < 9223372036854775807) (hls : ss.length < 9223372036854775807) {S : FuncId → Bool} {H : List Blk} {K : A → Dl → Prop} (hS : S 15 = false) (hK : K (.bool (proofF ns ks ss)) (.news [])) : @WCall' Go.Proofs.Tryd.prog S 15 [aP ns, aI ks, aSs ss] H ⟨K⟩ :=
  WCall_pure hS (spec_l9Proof_c ns ks ss hl hk hls) (by simp) (by simp) (by simp) hK
theorem spec_l9Proof_k {ns : List Nd} {ks : List Int} {ss : List Sp} (hl : ns.length < 9223372036854775807) (hk : ks.length < 9223372036854775807) (hls : ss.length < 9223372036854775807) {S : FuncId → Bool} {H : List Blk} {K : A → Dl → Prop} {zs : List A} (hS : S 15 = false) (hv : viewL (viewA 8 H) zs = some [aP ns, aI ks, aSs ss]) (ho : noOwns zs = true ∨ nosl (.bool (proofF ns ks ss)) = true) (hK : K (.bool (proofF ns ks ss)) (.news [])) : @WCall' Go.Proofs.Tryd.prog S 15 zs H ⟨K⟩ :=
  WCall_pure hS (spec_l9Proof_c ns ks ss hl hk hls) hv ho (by simp) hK
def mkT (xs : List Sp) : List (List Int × Int) := xs.map fun n => ([n.t], 1)
theorem mcnt_mkT (t : Int) : ∀ (xs : List Sp), mcnt (mkT xs) [t] = if ∃ x ∈ xs, x.t = t then 1 else 0
  | [] => by simp [mkT]
  | x :: xs => by
    by_cases h : t = x.t
    · subst h; simp [mkT, mcnt]
    · have := mcnt_mkT t xs
      simp only [mkT] at this
      have h' : ¬ x.t = t := fun e => h e.symm
      simp [mkT, mcnt, h, h', this]
theorem mcnt_c (ks : List Int) (v : Int) (l : List (List Int × Int)) : mcnt ((ks, v) :: l) ks = v := by simp [mcnt]
def proofI (ns : List Nd) (ks : List Int) (ss : List Sp) : Bool := inF ss.length 1 500 && allF (prF ns ks ss) ss.length 0
theorem impl_Pool_isProof_c (ns : List Nd) (ks : List Int) (ss : List Sp) (hl : ns.length < 9223372036854775807) (hk : ks.length < 9223372036854775807) (hls : ss.length < 9223372036854775807) (hp : poolF ns = true) : T 34 [.pt [.sl ns.length (enc ns)], aI ks, aSs ss] [] (.bool (proofI ns ks ss)) ([]) := by
  refine semT' (S := S0) hm impl_Pool_isProof_ok (Nat.le_of_ble_eq_true rfl) ?_
  unfold impl_Pool_isProof; dsimp only
  simp
  refine impl_inRange_call rfl ?_; simp
  refine br_intro' (fun h5 => ?_) (fun h5 => ?_) <;> simp [h5]
  rotate_left
  · exact LeV.ro rfl rfl (by simp [proofI, h5])
  have h50 := h5
  simp [inF] at h50
  have h500 : ss.length ≤ 500 := by omega
  have hP : proofI ns ks ss = allF (prF ns ks ss) ss.length 0 := by simp [proofI, h5]
  refine WLoop_fam (fun j : Nat => [(0, A.pt [.sl ns.length (enc ns)]), (1, aI ks), (2, aSs ss), (7, A.mref 0 0), (15, aSs ss), (16, i6 ss.length), (17, i6 j)]) (fun j => [⟨0, false, 1, [], some (false, mkT (ss.take j).reverse)⟩]) (fun j => ss.length - j)
    (fun j => j ≤ ss.length ∧ allF (prF ns ks ss) ss.length 0 = allF (prF ns ks ss) ss.length j ∧ ∀ i : Nat, i < j → (h : i < ss.length) → hasF ns.length ss[i].t = true) ?_ 0 ⟨Nat.zero_le _, rfl, fun i h => by omega⟩
  intro j ⟨hj, hf, hss⟩ ih
  simp
  refine br_intro' (fun h => ?_) (fun h => ?_) <;> (have h0 := h) <;> (try simp at h) <;> try simp [h0, h]
  · have h' := h
    obtain ⟨q, hr⟩ := encS_at h
    have h4 : 4 ≤ ss.length * 4 - j * 4 := by omega
    have hw := wrap_succ (n := j) (by omega)
    have w1 : IntKind.i64.wrap 1 = 1 := wrap64 (by omega) (by omega)
    have w2 : IntKind.i64.wrap 2 = 2 := wrap64 (by omega) (by omega)
    simp [h4, hr, h', mcnt_c]
    have hfj : allF (prF ns ks ss) ss.length j = (prF ns ks ss j && allF (prF ns ks ss) ss.length (j + 1)) := allF_at h'
    have hprj : prF ns ks ss j = (stepOkF ns ks (ss.take j) ss[j] && freshF ss j) := by
      simp only [prF, spAt_lt h']
    by_cases hm : ∃ x ∈ (ss.take j).reverse, x.t = ss[j].t
    · have hc : mcnt (mkT (ss.take j).reverse) [ss[j].t] = 1 := by rw [mcnt_mkT, if_pos hm]
      have hfre : freshF ss j = false := by
        simp only [freshF, spAt_lt h', decide_eq_false_iff_not]
        intro e
        obtain ⟨x, hx, hx2⟩ := hm
        exact e x (by simpa using hx) hx2
      simp [hc, w2, mcnt_c]
      refine ck_intro' (by kernel_rfl) ?_; simp
      exact LeV.ro rfl rfl (by rw [hP, hf, hfj, hprj, hfre]; simp)
    · have hc : mcnt (mkT (ss.take j).reverse) [ss[j].t] = 0 := by rw [mcnt_mkT, if_neg hm]
      have hfre : freshF ss j = true := by
        simp only [freshF, spAt_lt h', decide_eq_true_eq]
        intro x hx e
        exact hm ⟨x, by simpa using hx, e⟩
      simp [hc, w1, mcnt_c]
      refine ck_intro' hj ?_; simp
      refine WCall_pure rfl (impl_Pool_holds_c ns [] ks (ss.take j) ss[j] hl hk (by simp; omega) hp (fun i hi => by simp at hi; simp; exact hss i (by omega) (by omega)) (by simp) (by simp)) (by simp [encS_takes, Nat.min_eq_left hj]) (by simp) (by simp) ?_; simp
      refine ck_intro' (by kernel_rfl) ?_; simp
      refine br_intro' (fun g => ?_) (fun g => ?_) <;> simp [g]
      · rw [hw]
        have hk2 : ([ss[j].t], (1 : Int)) :: mkT (ss.take j).reverse = mkT (ss.take (j + 1)).reverse := by
          rw [List.take_succ_eq_append_getElem h', List.reverse_append]; rfl
        refine WLoop_drop [⟨0, false, 1, [], some (false, mkT (ss.take (j + 1)).reverse)⟩] [_] (by rw [← hk2]; rfl) (by simp) (by simp) (by simp) ?_
        refine ih (j + 1) ⟨h', by rw [hf, hfj, hprj, g, hfre]; simp, fun i hi hil => ?_⟩ (by omega)
        rcases Nat.lt_or_ge i j with z | z
        · exact hss i z hil
        · have : i = j := by omega
          subst this
          simp only [stepOkF, Bool.and_eq_true] at g
          exact g.1
      · exact LeV.ro rfl rfl (by rw [hP, hf, hfj, hprj, g]; simp)
  · have e := allF_end (p := prF ns ks ss) h
    exact LeV.ro rfl rfl (by rw [hP, hf, e]; rfl)
/-- What ProofCheck answers. -/
def checkF (ns : List Nd) (ks : List Int) (ss : List Sp) (t : Int) : Bool := decide (ss ≠ []) && proofF ns ks ss && decide ((spAt ss (ss.length - 1)).t = t)
theorem impl_ProofCheck_c (ns : List Nd) (ks : List Int) (ss : List Sp) (t : Int) (hl : ns.length < 9223372036854775807) (hk : ks.length < 9223372036854775807) (hls : ss.length < 9223372036854775807) : T 19 [aP ns, aI ks, aSs ss, i6 t] [] (.bool (checkF ns ks ss t)) ([]) := by
  refine semT' (S := S0) hm impl_ProofCheck_ok (Nat.le_of_ble_eq_true rfl) ?_
  unfold impl_ProofCheck; dsimp only
  simp
  refine br_intro' (fun h => ?_) (fun h => ?_) <;> (have h0 := h) <;> simp at h <;> simp [h0, h]
  · have hw := wrap_len (n := ss.length) (by omega)
    obtain ⟨m, hm⟩ : ∃ m : Nat, (ss.length : Int) - 1 = m := ⟨ss.length - 1, by omega⟩
    have hml : m < ss.length := by omega
    obtain ⟨q, hr⟩ := encS_at hml
    have h42 : 2 ≤ ss.length * 4 - m * 4 := by omega
    have hm2 : ss.length - 1 = m := by omega
    have hne : ss ≠ [] := by intro e; rw [e] at hml; exact absurd hml (Nat.not_lt_zero _)
    have hge : (1 : Int) ≤ ss.length := by omega
    have hc5 : (ss.length : Int) ≤ 500 ↔ ss.length ≤ 500 := by omega
    rw [hw, hm]
    simp [hml, hr]
    refine br_intro' (fun g => ?_) (fun g => ?_) <;> (have g0 := g) <;> simp at g <;> simp [g0, g]
    · refine impl_KnowOk_k (ns := ns) (ks := ks) hl hk rfl (by simp) (by simp) ?_; simp
      refine br_intro' (fun f => ?_) (fun f => ?_) <;> simp [f]
      · refine WCall_pure rfl (impl_Pool_isProof_c ns ks ss hl hk hls (kpF_pool f)) (by simp) (by simp) (by simp) ?_; simp
        exact LeV.ro rfl rfl (by simp [checkF, proofF, proofI, f, hm2, hml, hne, g, inF, hge, hc5])
      · exact LeV.ro rfl rfl (by simp [checkF, proofF, f])
    · exact LeV.ro rfl rfl (by simp [checkF, hm2, hml, g])
  · exact LeV.ro rfl rfl (by simp [checkF, h])
theorem impl_ProofCheck_call {ns : List Nd} {ks : List Int} {ss : List Sp} {t : Int} (hl : ns.length < 9223372036854775807) (hk : ks.length < 9223372036854775807) (hls : ss.length < 9223372036854775807) {S : FuncId → Bool} {H : List Blk} {K : A → Dl → Prop} (hS : S 19 = false) (hK : K (.bool (checkF ns ks ss t)) (.news [])) : @WCall' Go.Proofs.Tryd.prog S 19 [aP ns, aI ks, aSs ss, i6 t] H ⟨K⟩ :=
  WCall_pure hS (impl_ProofCheck_c ns ks ss t hl hk hls) (by simp) (by simp) (by simp) hK
theorem impl_ProofCheck_k {ns : List Nd} {ks : List Int} {ss : List Sp} {t : Int} (hl : ns.length < 9223372036854775807) (hk : ks.length < 9223372036854775807) (hls : ss.length < 9223372036854775807) {S : FuncId → Bool} {H : List Blk} {K : A → Dl → Prop} {zs : List A} (hS : S 19 = false) (hv : viewL (viewA 8 H) zs = some [aP ns, aI ks, aSs ss, i6 t]) (ho : noOwns zs = true ∨ nosl (.bool (checkF ns ks ss t)) = true) (hK : K (.bool (checkF ns ks ss t)) (.news [])) : @WCall' Go.Proofs.Tryd.prog S 19 zs H ⟨K⟩ :=
  WCall_pure hS (impl_ProofCheck_c ns ks ss t hl hk hls) hv ho (by simp) hK
end Go.Proofs.YtijileoflejgpaaDoor.C

set_option linter.unusedVariables false
set_option linter.unusedSimpArgs false
set_option maxRecDepth 4000
namespace Go.Proofs.YtijileoflejgpaaDoor.C
open Go.Sym Go.Proofs.YtijileoflejgpaaDoor.I
/-- Rows of bools. -/
def bls (kb : List Bool) : List A := kb.map A.bool
@[simp] theorem bls_len (xs : List Bool) : (bls xs).length = xs.length := List.length_map ..
@[simp] theorem bls_scals (xs : List Bool) : scals (bls xs) = true := scals_map _ (fun _ => rfl) xs
@[simp] theorem bls_view (n : Nat) (H : List Blk) (xs : List Bool) : viewL (viewA (n + 1) H) (bls xs) = some (bls xs) := viewL_scals _ (bls_scals xs)
@[simp] theorem bls_noOwns (xs : List Bool) : noOwns (bls xs) = true := noOwns_scals _ (bls_scals xs)
@[simp] theorem bls_nosls (xs : List Bool) : nosls (bls xs) = true := nosls_scals _ (bls_scals xs)
@[simp] theorem bls_shift (n : Nat) (xs : List Bool) : shiftAs n (bls xs) = bls xs := shiftAs_scals _ (bls_scals xs)
@[simp] theorem bls_inAs (m : Nat) (xs : List Bool) : inAs m (bls xs) = true := inAs_scals _ (bls_scals xs)
@[simp] theorem bls_tells (H H' : List Blk) (g : List (Option Nat)) (xs : List Bool) : Tells H H' g (bls xs) (bls xs) := Tells_scals _ (bls_scals xs)
@[simp] theorem bls_one (xs : List Bool) : (bls xs).all A.one = true := one_scals _ (bls_scals xs)
@[simp] theorem bls_take (xs : List Bool) : (bls xs).take xs.length = bls xs := List.take_of_length_le (by simp)
@[simp] theorem bls_nil : bls [] = [] := rfl
@[simp] theorem bls_get (xs : List Bool) (j : Nat) (h : j < (bls xs).length) : (bls xs)[j] = .bool (xs[j]'(by simpa using h)) := by simp [bls]
theorem bls_at {xs : List Bool} {j : Nat} (h : j < xs.length) : (bls xs)[j]? = some (.bool xs[j]) := by simp [bls, h]
theorem bls_set (xs : List Bool) (j : Nat) (b : Bool) : (bls xs).set j (.bool b) = bls (xs.set j b) := by simp [bls, List.map_set]
theorem bls_rep (n : Nat) : bls (List.replicate n false) = List.replicate n (.bool false) := by simp [bls]
theorem bls_snoc (xs : List Bool) (x : Bool) : bls (xs ++ [x]) = bls xs ++ [.bool x] := by simp [bls]
theorem ints_set' (xs : List Int) (j : Nat) (n : Int) : (ints xs).set j (i6 n) = ints (xs.set j n) := by simp [ints, List.map_set]
theorem ints_rep' (n : Nat) : ints (List.replicate n 0) = List.replicate n (i6 0) := by simp [ints]
abbrev aBl (xs : List Bool) : A := .sl xs.length (bls xs)
abbrev bblk (xs : List Bool) : Blk := ⟨xs.length, decide (xs.length = 0), 1, bls xs, none⟩
abbrev bref (b : Nat) (xs : List Bool) : A := .ref b xs.length 0 xs.length
def bv (mk : List Bool) (t : Int) : Bool := mk.getD t.toNat false
theorem bv_nat {mk : List Bool} {j : Nat} (h : j < mk.length) : bv mk j = mk[j] := by simp [bv, h]
/-- A number at its place among others. -/
def putGo (t : Int) : List Int → Bool → List Int
  | [], put => if put then [] else [t]
  | x :: xs, put => if put = false ∧ t < x then t :: x :: putGo t xs true else x :: putGo t xs put
def putF (ks : List Int) (t : Int) : List Int := putGo t ks (hasK ks t)
theorem putGo_len (t : Int) : ∀ (ks : List Int) (put : Bool), ks.length ≤ (putGo t ks put).length ∧ (putGo t ks put).length ≤ ks.length + 1 ∧ (put = true → (putGo t ks put).length = ks.length)
  | [], put => by cases put <;> simp [putGo]
  | x :: xs, put => by
    unfold putGo
    split
    · rename_i h
      have := (putGo_len t xs true).2.2 rfl
      simp [this, h.1]
    · have := putGo_len t xs put
      refine ⟨by simp; omega, by simp; omega, fun h => by simp [this.2.2 h]⟩
theorem putF_len (ks : List Int) (t : Int) : ks.length ≤ (putF ks t).length ∧ (putF ks t).length ≤ ks.length + 1 := ⟨(putGo_len t ks _).1, (putGo_len t ks _).2.1⟩
theorem partsF_0' {k : Int} (h : partsF k = 0) : k = 1 := by
  unfold partsF at h
  split at h
  · assumption
  · split at h
    · omega
    · split at h <;> omega
/-- Whether the power of a term is one that can be made. -/
def powF (ns : List Nd) (mk : List Bool) (ks : List Int) (x : Int) : Bool := decide (0 ≤ findF ns ⟨7, x, 0⟩ 0) && (bv mk x || hasK ks (findF ns ⟨7, x, 0⟩ 0))
/-- Whether a term is public, or can be made of its parts. -/
def madeB (ns : List Nd) (mk : List Bool) (t : Int) (ks : List Int) : Bool :=
  if (nodeAt ns t).k = 1 then pubF (nodeAt ns t).a
  else if partsF (nodeAt ns t).k = 1 then bv mk (nodeAt ns t).a
  else if bv mk (nodeAt ns t).a = true ∧ bv mk (nodeAt ns t).b = true then true
  else if (nodeAt ns t).k = 8 then (bv mk (nodeAt ns t).a && powF ns mk ks (nodeAt ns t).b) || (bv mk (nodeAt ns t).b && powF ns mk ks (nodeAt ns t).a)
  else false
end Go.Proofs.YtijileoflejgpaaDoor.C

set_option linter.unusedVariables false
set_option linter.unusedSimpArgs false
set_option maxRecDepth 4000
namespace Go.Proofs.YtijileoflejgpaaDoor.C
open Go.Sym Go.Proofs.YtijileoflejgpaaDoor.I
abbrev tblk (ss : List Sp) : Blk := ⟨ss.length, decide (ss.length = 0), 4, encS ss, none⟩
abbrev tref' (b : Nat) (ss : List Sp) : A := .ref b ss.length 0 ss.length
/-- What a step asks of those ahead of it. -/
def wellF (ns : List Nd) (ss : List Sp) (i : Nat) : Bool :=
  hasF ns.length (spAt ss i).t && decide (0 ≤ needsF ns (spAt ss i)) && (decide (needsF ns (spAt ss i) < 1) || inF (spAt ss i).a 0 ((i : Int) - 1)) && (decide (needsF ns (spAt ss i) < 2) || inF (spAt ss i).b 0 ((i : Int) - 1))
def keepStep (ns : List Nd) (ss : List Sp) (kb : List Bool) (i : Nat) : List Bool :=
  if kb.getD i false = true then
    if 0 < needsF ns (spAt ss i) then
      if 1 < needsF ns (spAt ss i) then (kb.set (spAt ss i).a.toNat true).set (spAt ss i).b.toNat true else kb.set (spAt ss i).a.toNat true
    else kb
  else kb
def keepGo (ns : List Nd) (ss : List Sp) : Nat → List Bool → List Bool
  | 0, kb => kb
  | n + 1, kb => keepGo ns ss n (keepStep ns ss kb n)
def keepV (ns : List Nd) (ss : List Sp) : List Bool := keepGo ns ss ss.length ((List.replicate ss.length false).set (ss.length - 1) true)
theorem keepStep_len (ns : List Nd) (ss : List Sp) (kb : List Bool) (i : Nat) : (keepStep ns ss kb i).length = kb.length := by
  unfold keepStep
  split
  · split
    · split <;> simp
    · rfl
  · rfl
/-- A step, its places told anew. -/
def moveF (ns : List Nd) (now : List Int) (s : Sp) : Sp := ⟨s.r, s.t, if 0 < needsF ns s then now.getD s.a.toNat 0 else s.a, if 1 < needsF ns s then now.getD s.b.toNat 0 else s.b⟩
def trimGo (ns : List Nd) (ss : List Sp) (kb : List Bool) : Nat → Nat → List Int → List Sp → List Sp
  | 0, _, _, out => out
  | n + 1, j, now, out => if kb.getD j false = true then trimGo ns ss kb n (j + 1) (now.set j out.length) (out ++ [moveF ns now (spAt ss j)]) else trimGo ns ss kb n (j + 1) now out
def trimV (ns : List Nd) (ss : List Sp) : List Sp := trimGo ns ss (keepV ns ss) ss.length 0 (List.replicate ss.length 0) []
/-- What ProofTrim answers. -/
def trimF (ns : List Nd) (ss : List Sp) : List Sp := if ss ≠ [] ∧ ss.length ≤ 500 ∧ poolF ns = true ∧ allF (wellF ns ss) ss.length 0 = true then trimV ns ss else []
theorem allF_all {p : Nat → Bool} {n : Nat} (h : allF p n 0 = true) {i : Nat} (hi : i < n) : p i = true := by
  simp only [allF, List.all_eq_true] at h
  exact h i (by simp [List.mem_range']; omega)
theorem well_at {ns : List Nd} {ss : List Sp} {i : Nat} (h : wellF ns ss i = true) (hi : i < ss.length) : hasF ns.length ss[i].t = true ∧ (needsF ns ss[i] = 0 ∨ (needsF ns ss[i] = 1 ∧ ∃ a : Nat, ss[i].a = a ∧ a < i) ∨ (needsF ns ss[i] = 2 ∧ (∃ a : Nat, ss[i].a = a ∧ a < i) ∧ ∃ b : Nat, ss[i].b = b ∧ b < i) ∨ 2 < needsF ns ss[i]) := by
  simp only [wellF, spAt_lt hi, Bool.and_eq_true, Bool.or_eq_true, decide_eq_true_eq] at h
  obtain ⟨⟨⟨h1, h2⟩, h3⟩, h4⟩ := h
  refine ⟨h1, ?_⟩
  rcases Int.lt_or_le (needsF ns ss[i]) 1 with g | g
  · left; omega
  · right
    have ha := h3.resolve_left (by omega)
    simp [inF] at ha
    have e1 : ∃ a : Nat, ss[i].a = a ∧ a < i := ⟨ss[i].a.toNat, by omega, by omega⟩
    rcases Int.lt_or_le (needsF ns ss[i]) 2 with f | f
    · left; exact ⟨by omega, e1⟩
    · right
      rcases Int.lt_or_le 2 (needsF ns ss[i]) with u | u
      · right; exact u
      · left
        have hb := h4.resolve_left (by omega)
        simp [inF] at hb
        exact ⟨by omega, e1, ss[i].b.toNat, by omega, by omega⟩
end Go.Proofs.YtijileoflejgpaaDoor.C

set_option linter.unusedVariables false
set_option linter.unusedSimpArgs false
set_option maxRecDepth 4000
namespace Go.Proofs.YtijileoflejgpaaDoor.C
open Go.Sym Go.Proofs.YtijileoflejgpaaDoor.I
theorem trimF_bad {ns : List Nd} {ss : List Sp} {j : Nat} (hj : j < ss.length) (hf : allF (wellF ns ss) ss.length 0 = allF (wellF ns ss) ss.length j) (h : wellF ns ss j = false) : trimF ns ss = [] := by
  unfold trimF
  rw [if_neg]
  rintro ⟨_, _, _, q⟩
  rw [hf, allF_at hj, h] at q
  cases q
theorem well_lo {ns : List Nd} {ss : List Sp} {i : Nat} (hi : i < ss.length) (h : needsF ns ss[i] < 0) : wellF ns ss i = false := by
  simp only [wellF, spAt_lt hi]
  rw [show decide (0 ≤ needsF ns ss[i]) = false by simpa using h]
  simp
theorem well_eq {ns : List Nd} {ss : List Sp} {i : Nat} (hi : i < ss.length) (ht : hasF ns.length ss[i].t = true) (h : 0 ≤ needsF ns ss[i]) : wellF ns ss i = ((decide (needsF ns ss[i] < 1) || inF ss[i].a 0 ((i : Int) - 1)) && (decide (needsF ns ss[i] < 2) || inF ss[i].b 0 ((i : Int) - 1))) := by
  simp [wellF, hi, ht, h]
end Go.Proofs.YtijileoflejgpaaDoor.C
