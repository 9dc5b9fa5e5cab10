/- What the functions of the pool answer. Conditions: those that each theorem names. -/
import Derived.Test.YtmlfacjgfjmdeaaDoorXI
import Derived.Test.YtmlfacjgfjmdeaaDoorXSymU
import Derived.Test.YtmlfacjgfjmdeaaDoorXSymTx
import Derived.Test.YtmlfacjgfjmdeaaDoorXSymIce
set_option linter.unusedVariables false
set_option linter.unusedSimpArgs false
namespace Go.Proofs.YtmlfacjgfjmdeaaDoor.C
open Go.Sym Go.Proofs.YtmlfacjgfjmdeaaDoor.I
def S0 : FuncId → Bool := fun _ => false
theorem hm : Go.Proofs.Tryd.prog.follows .mixedOrders = true := by kernel_rfl
abbrev T := SemT Go.Proofs.Tryd.prog

structure Nd where
  k : Int
  a : Int
  b : Int
deriving DecidableEq
theorem Nd_eq {x y : Nd} : x = y ↔ x.k = y.k ∧ x.a = y.a ∧ x.b = y.b := by cases x; cases y; simp
def encN (n : Nd) : List A := [i6 n.k, i6 n.a, i6 n.b]
def enc (ns : List Nd) : List A := ns.flatMap encN
theorem encN_len (n : Nd) : (encN n).length = 3 := rfl
@[simp] theorem enc_len (ns : List Nd) : (enc ns).length = ns.length * 3 := flat_len encN_len ns
@[simp] theorem enc_scals (ns : List Nd) : scals (enc ns) = true := scals_flat _ (fun _ => rfl) ns
theorem enc_at {ns : List Nd} {j : Nat} (h : j < ns.length) : ∃ r, (enc ns).drop (j * 3) = i6 ns[j].k :: i6 ns[j].a :: i6 ns[j].b :: r := flat_at encN_len (List.getElem?_eq_getElem h)
@[simp] theorem enc_view (n : Nat) (H : List Blk) (ns : List Nd) : viewL (viewA (n + 1) H) (enc ns) = some (enc ns) := viewL_scals _ (enc_scals ns)
@[simp] theorem enc_noOwns (ns : List Nd) : noOwns (enc ns) = true := noOwns_scals _ (enc_scals ns)
@[simp] theorem enc_nosls (ns : List Nd) : nosls (enc ns) = true := nosls_scals _ (enc_scals ns)
@[simp] theorem enc_shift (n : Nat) (ns : List Nd) : shiftAs n (enc ns) = enc ns := shiftAs_scals _ (enc_scals ns)
abbrev aN (n : Nd) : A := .agg [i6 n.k, i6 n.a, i6 n.b]
abbrev aP (ns : List Nd) : A := .agg [.sl ns.length (enc ns)]

def partsF (k : Int) : Int := if k = 1 then 0 else if k = 5 ∨ k = 7 then 1 else if k = 2 ∨ k = 3 ∨ k = 4 ∨ k = 6 ∨ k = 8 then 2 else -1

def inF (x lo hi : Int) : Bool := decide (lo ≤ x ∧ x ≤ hi)
theorem inF_iff {x lo hi : Int} : inF x lo hi = true ↔ lo ≤ x ∧ x ≤ hi := by simp [inF]
theorem spec_l1In_c (x lo hi : Int)  : T 46 [i6 x, i6 lo, i6 hi] [] (.bool (inF x lo hi)) ([]) := by
  refine semT' (S := S0) hm spec_l1In_ok (Nat.le_of_ble_eq_true rfl) ?_
  unfold spec_l1In; dsimp only
  simp
  by_cases h : lo ≤ x
  · simp [h]
    exact LeV.eq (by simp [inF, h]) rfl
  · simp [h]
    exact LeV.eq (by simp [inF, h]) rfl
theorem spec_l1In_call {x lo hi : Int}  {S : FuncId → Bool} {H : List Blk} {K : A → Dl → Prop} (hS : S 46 = false) (hK : K (.bool (inF x lo hi)) (.news [])) : @WCall' Go.Proofs.Tryd.prog S 46 [i6 x, i6 lo, i6 hi] H ⟨K⟩ :=
  WCall_pure hS (spec_l1In_c x lo hi) (by simp) (by simp) (by simp) hK
theorem spec_l1In_k {x lo hi : Int}  {S : FuncId → Bool} {H : List Blk} {K : A → Dl → Prop} {zs : List A} (hS : S 46 = false) (hv : viewL (viewA 8 H) zs = some [i6 x, i6 lo, i6 hi]) (ho : noOwns zs = true ∨ nosl (.bool (inF x lo hi)) = true) (hK : K (.bool (inF x lo hi)) (.news [])) : @WCall' Go.Proofs.Tryd.prog S 46 zs H ⟨K⟩ :=
  WCall_pure hS (spec_l1In_c x lo hi) hv ho (by simp) hK
theorem spec_l1Parts_c (x : Int)  : T 113 [i6 x] [] (i6 (partsF x)) ([]) := by
  refine semT' (S := S0) hm spec_l1Parts_ok (Nat.le_of_ble_eq_true rfl) ?_
  unfold spec_l1Parts; dsimp only
  simp
  repeat (any_goals (first | (refine br_intro' (fun h => ?_) (fun h => ?_) <;> (have h0 := h) <;> (try simp at h) <;> try simp [h0, h])))
  all_goals exact LeV.eq (by simp [partsF, *]) rfl
theorem spec_l1Parts_call {x : Int}  {S : FuncId → Bool} {H : List Blk} {K : A → Dl → Prop} (hS : S 113 = false) (hK : K (i6 (partsF x)) (.news [])) : @WCall' Go.Proofs.Tryd.prog S 113 [i6 x] H ⟨K⟩ :=
  WCall_pure hS (spec_l1Parts_c x) (by simp) (by simp) (by simp) hK
theorem spec_l1Parts_k {x : Int}  {S : FuncId → Bool} {H : List Blk} {K : A → Dl → Prop} {zs : List A} (hS : S 113 = false) (hv : viewL (viewA 8 H) zs = some [i6 x]) (ho : noOwns zs = true ∨ nosl (i6 (partsF x)) = true) (hK : K (i6 (partsF x)) (.news [])) : @WCall' Go.Proofs.Tryd.prog S 113 zs H ⟨K⟩ :=
  WCall_pure hS (spec_l1Parts_c x) hv ho (by simp) hK
def rightF (n : Nd) (many : Int) : Bool :=
  if partsF n.k = 0 then inF n.a 0 199 && decide (n.b = 0)
  else if partsF n.k = 1 then inF n.a 0 (many - 1) && decide (n.b = 0)
  else if partsF n.k = 2 then inF n.a 0 (many - 1) && inF n.b 0 (many - 1) && (decide (n.k ≠ 8) || decide (n.a ≤ n.b))
  else false
theorem spec_l1Right_c (n : Nd) (many : Int) (h1 : 0 ≤ many) (h2 : many < 9223372036854775808) : T 86 [aN n, i6 many] [] (.bool (rightF n many)) ([]) := by
  refine semT' (S := S0) hm spec_l1Right_ok (Nat.le_of_ble_eq_true rfl) ?_
  unfold spec_l1Right; dsimp only
  have hw : IntKind.i64.wrap (many - 1) = many - 1 := wrap64 (by omega) (by omega)
  simp [hw]
  repeat (any_goals (first | (refine br_intro' (fun h => ?_) (fun h => ?_) <;> (have h0 := h) <;> (try simp at h) <;> try simp [h0, h, hw]) | (refine spec_l1Parts_call rfl ?_; simp [hw]) | (refine spec_l1In_call rfl ?_; simp [hw])))
  all_goals exact LeV.ro rfl rfl (by first | (simp [rightF, *]; done) | (simp only [viewA, rightF]; simp only [if_neg ‹¬partsF n.k = 0›, if_neg ‹¬partsF n.k = 1›, if_pos ‹partsF n.k = 2›]; simp [*]))
theorem spec_l1Right_call {n : Nd} {many : Int} (h1 : 0 ≤ many) (h2 : many < 9223372036854775808) {S : FuncId → Bool} {H : List Blk} {K : A → Dl → Prop} (hS : S 86 = false) (hK : K (.bool (rightF n many)) (.news [])) : @WCall' Go.Proofs.Tryd.prog S 86 [aN n, i6 many] H ⟨K⟩ :=
  WCall_pure hS (spec_l1Right_c n many h1 h2) (by simp) (by simp) (by simp) hK
theorem spec_l1Right_k {n : Nd} {many : Int} (h1 : 0 ≤ many) (h2 : many < 9223372036854775808) {S : FuncId → Bool} {H : List Blk} {K : A → Dl → Prop} {zs : List A} (hS : S 86 = false) (hv : viewL (viewA 8 H) zs = some [aN n, i6 many]) (ho : noOwns zs = true ∨ nosl (.bool (rightF n many)) = true) (hK : K (.bool (rightF n many)) (.news [])) : @WCall' Go.Proofs.Tryd.prog S 86 zs H ⟨K⟩ :=
  WCall_pure hS (spec_l1Right_c n many h1 h2) hv ho (by simp) hK
def findF : List Nd → Nd → Int → Int
  | [], _, _ => -1
  | x :: xs, n, i => if x = n then i else findF xs n (i + 1)
theorem spec_l1Find_c (ns : List Nd) (n : Nd) (hl : ns.length < 9223372036854775807) : T 87 [aP ns, aN n] [] (i6 (findF ns n 0)) ([]) := by
  refine semT' (S := S0) hm spec_l1Find_ok (Nat.le_of_ble_eq_true rfl) ?_
  unfold spec_l1Find; dsimp only
  simp
  refine WLoop_fam (fun j : Nat => [(2, A.ptr 0 0 0), (3, A.ptr 1 0 0), (5, i6 j)]) (fun _ => [⟨0, false, 1, [A.sl ns.length (enc ns)], none⟩, ⟨0, false, 1, [i6 n.k, i6 n.a, i6 n.b], none⟩]) (fun j => ns.length - j)
    (fun j => j ≤ ns.length ∧ findF ns n 0 = findF (ns.drop j) n j) ?_ 0 ⟨Nat.zero_le _, rfl⟩
  intro j ⟨hj, hf⟩ ih
  simp
  refine br_intro' (fun h => ?_) (fun h => ?_) <;> (have h0 := h) <;> (try simp at h) <;> try simp [h0, h]
  · obtain ⟨r, hr⟩ := enc_at h
    have h3 : 3 ≤ ns.length * 3 - j * 3 := by omega
    have hd : ns.drop j = ns[j] :: ns.drop (j + 1) := List.drop_eq_getElem_cons h
    have hw : IntKind.i64.wrap ((j : Int) + 1) = j + 1 := wrap64 (by omega) (by omega)
    simp [h3, hr]
    have h' := h
    first | (refine ck_intro' (by kernel_rfl) ?_; try simp) | skip
    refine br_intro' (fun h => ?_) (fun h => ?_) <;> (have h0 := h) <;> (try simp at h) <;> try simp [h0, h, hr]
    · exact LeV.ro rfl rfl (by rw [hf, hd, findF, if_pos (Nd_eq.2 h)]; rfl)
    · rw [hw]
      refine ih (j + 1) ⟨h', ?_⟩ (by omega)
      rw [hf, hd, findF, if_neg (by rw [Nd_eq]; rintro ⟨a, b, c⟩; exact h a b c)]
      rfl
  · exact LeV.ro rfl rfl (by simp [hf, findF, List.drop_of_length_le h])
theorem spec_l1Find_call {ns : List Nd} {n : Nd} (hl : ns.length < 9223372036854775807) {S : FuncId → Bool} {H : List Blk} {K : A → Dl → Prop} (hS : S 87 = false) (hK : K (i6 (findF ns n 0)) (.news [])) : @WCall' Go.Proofs.Tryd.prog S 87 [aP ns, aN n] H ⟨K⟩ :=
  WCall_pure hS (spec_l1Find_c ns n hl) (by simp) (by simp) (by simp) hK
theorem spec_l1Find_k {ns : List Nd} {n : Nd} (hl : ns.length < 9223372036854775807) {S : FuncId → Bool} {H : List Blk} {K : A → Dl → Prop} {zs : List A} (hS : S 87 = false) (hv : viewL (viewA 8 H) zs = some [aP ns, aN n]) (ho : noOwns zs = true ∨ nosl (i6 (findF ns n 0)) = true) (hK : K (i6 (findF ns n 0)) (.news [])) : @WCall' Go.Proofs.Tryd.prog S 87 zs H ⟨K⟩ :=
  WCall_pure hS (spec_l1Find_c ns n hl) hv ho (by simp) hK
def okFrom (ns : List Nd) (j : Nat) : Bool := (List.range' j (ns.length - j)).all fun i => rightF (ns.getD i ⟨0, 0, 0⟩) i && decide (findF ns (ns.getD i ⟨0, 0, 0⟩) 0 = i)
theorem okFrom_at {ns : List Nd} {j : Nat} (h : j < ns.length) : okFrom ns j = (rightF ns[j] j && decide (findF ns ns[j] 0 = j) && okFrom ns (j + 1)) := by
  have : ns.length - j = (ns.length - (j + 1)) + 1 := by omega
  simp only [okFrom]
  rw [this, List.range'_succ, List.all_cons]
  simp [h]
theorem okFrom_end {ns : List Nd} {j : Nat} (h : ns.length ≤ j) : okFrom ns j = true := by simp [okFrom, Nat.sub_eq_zero_of_le h]
def poolF (ns : List Nd) : Bool := decide (ns.length ≤ 500) && okFrom ns 0
theorem spec_PoolOk_c (ns : List Nd)  : T 61 [aP ns] [] (.bool (poolF ns)) ([]) := by
  refine semT' (S := S0) hm spec_PoolOk_ok (Nat.le_of_ble_eq_true rfl) ?_
  unfold spec_PoolOk; dsimp only
  simp
  refine br_intro' (fun h => ?_) (fun h => ?_) <;> (have h0 := h) <;> (try simp at h) <;> try simp [h0, h]
  · exact LeV.ro rfl rfl (by simp [poolF]; omega)
  refine WLoop_fam (fun j : Nat => [(1, A.ptr 0 0 0), (3, i6 j)]) (fun _ => [⟨0, false, 1, [A.sl ns.length (enc ns)], none⟩]) (fun j => ns.length - j)
    (fun j => j ≤ ns.length ∧ poolF ns = okFrom ns j) ?_ 0 ⟨Nat.zero_le _, by simp [poolF]; omega⟩
  intro j ⟨hj, hf⟩ ih
  simp
  refine br_intro' (fun h => ?_) (fun h => ?_) <;> (have h0 := h) <;> (try simp at h) <;> try simp [h0, h]
  · rename_i h5
    obtain ⟨r, hr⟩ := enc_at h
    have h3 : 3 ≤ ns.length * 3 - j * 3 := by omega
    have hw : IntKind.i64.wrap ((j : Int) + 1) = j + 1 := wrap64 (by omega) (by omega)
    simp [h3, hr]
    have h' := h
    refine spec_l1Right_call (n := ns[j]) (by omega) (by omega) rfl ?_; simp
    refine br_intro' (fun g => ?_) (fun g => ?_) <;> simp [g, h3, hr, h']
    · refine spec_l1Find_call (ns := ns) (n := ns[j]) (by omega) rfl ?_; simp
      first | (refine ck_intro' (by kernel_rfl) ?_; try simp) | skip
      refine br_intro' (fun h => ?_) (fun h => ?_) <;> (have h0 := h) <;> (try simp at h) <;> try simp [h0, h]
      · rw [hw]
        exact ih (j + 1) ⟨h', by rw [hf, okFrom_at h', g, h]; simp⟩ (by omega)
      · exact LeV.ro rfl rfl (by rw [hf, okFrom_at h']; simp [h])
    · first | (refine ck_intro' (by kernel_rfl) ?_; try simp) | skip
      exact LeV.ro rfl rfl (by rw [hf, okFrom_at h', g]; simp)
  · exact LeV.ro rfl rfl (by simp [hf, okFrom_end h])
theorem spec_PoolOk_call {ns : List Nd}  {S : FuncId → Bool} {H : List Blk} {K : A → Dl → Prop} (hS : S 61 = false) (hK : K (.bool (poolF ns)) (.news [])) : @WCall' Go.Proofs.Tryd.prog S 61 [aP ns] H ⟨K⟩ :=
  WCall_pure hS (spec_PoolOk_c ns) (by simp) (by simp) (by simp) hK
theorem spec_PoolOk_k {ns : List Nd}  {S : FuncId → Bool} {H : List Blk} {K : A → Dl → Prop} {zs : List A} (hS : S 61 = false) (hv : viewL (viewA 8 H) zs = some [aP ns]) (ho : noOwns zs = true ∨ nosl (.bool (poolF ns)) = true) (hK : K (.bool (poolF ns)) (.news [])) : @WCall' Go.Proofs.Tryd.prog S 61 zs H ⟨K⟩ :=
  WCall_pure hS (spec_PoolOk_c ns) hv ho (by simp) hK
end Go.Proofs.YtmlfacjgfjmdeaaDoor.C

set_option linter.unusedVariables false
set_option linter.unusedSimpArgs false
namespace Go.Proofs.YtmlfacjgfjmdeaaDoor.C
open Go.Sym Go.Proofs.YtmlfacjgfjmdeaaDoor.I
@[simp] theorem enc_inAs (m : Nat) (ns : List Nd) : inAs m (enc ns) = true := inAs_scals _ (enc_scals ns)
@[simp] theorem enc_tells (H H' : List Blk) (g : List (Option Nat)) (ns : List Nd) : Tells H H' g (enc ns) (enc ns) := Tells_scals _ (enc_scals ns)
@[simp] theorem enc_one (ns : List Nd) : (enc ns).all A.one = true := one_scals _ (enc_scals ns)
theorem findF_ge (n : Nd) : ∀ (ns : List Nd) (i : Int), findF ns n i = -1 ∨ i ≤ findF ns n i
  | [], i => .inl rfl
  | x :: xs, i => by
    unfold findF
    split
    · exact .inr (Int.le_refl i)
    · rcases findF_ge n xs (i + 1) with h | h
      · exact .inl h
      · exact .inr (by omega)
theorem findF_first : ∀ (ns : List Nd) (j : Nat) (i : Int) (h : j < ns.length), 0 ≤ i → (findF ns ns[j] i = i + j ↔ ns[j] ∉ ns.take j)
  | x :: xs, 0, i, _, hi => by simp [findF]
  | x :: xs, j + 1, i, h, hi => by
    have hj : j < xs.length := by simpa using h
    have ih := findF_first xs j (i + 1) hj (by omega)
    simp only [List.getElem_cons_succ, List.take_succ_cons, List.mem_cons, not_or]
    unfold findF
    by_cases hx : x = xs[j]
    · rw [if_pos hx]
      simp [← hx]
      omega
    · rw [if_neg hx, show i + ((j + 1 : Nat) : Int) = i + 1 + j by push_cast; omega, ih]
      exact ⟨fun h => ⟨fun e => hx e.symm, h⟩, fun h => h.2⟩
theorem impl_inRange_c (x lo hi : Int)  : T 47 [i6 x, i6 lo, i6 hi] [] (.bool (inF x lo hi)) ([]) := by
  refine semT' (S := S0) hm impl_inRange_ok (Nat.le_of_ble_eq_true rfl) ?_
  unfold impl_inRange; dsimp only
  simp
  by_cases h : lo ≤ x
  · simp [h]
    exact LeV.eq (by simp [inF, h]) rfl
  · simp [h]
    exact LeV.eq (by simp [inF, h]) rfl
theorem impl_inRange_call {x lo hi : Int}  {S : FuncId → Bool} {H : List Blk} {K : A → Dl → Prop} (hS : S 47 = false) (hK : K (.bool (inF x lo hi)) (.news [])) : @WCall' Go.Proofs.Tryd.prog S 47 [i6 x, i6 lo, i6 hi] H ⟨K⟩ :=
  WCall_pure hS (impl_inRange_c x lo hi) (by simp) (by simp) (by simp) hK
theorem impl_inRange_k {x lo hi : Int}  {S : FuncId → Bool} {H : List Blk} {K : A → Dl → Prop} {zs : List A} (hS : S 47 = false) (hv : viewL (viewA 8 H) zs = some [i6 x, i6 lo, i6 hi]) (ho : noOwns zs = true ∨ nosl (.bool (inF x lo hi)) = true) (hK : K (.bool (inF x lo hi)) (.news [])) : @WCall' Go.Proofs.Tryd.prog S 47 zs H ⟨K⟩ :=
  WCall_pure hS (impl_inRange_c x lo hi) hv ho (by simp) hK
theorem impl_count_c (x : Int)  : T 114 [i6 x] [] (i6 (partsF x)) ([]) := by
  refine semT' (S := S0) hm impl_count_ok (Nat.le_of_ble_eq_true rfl) ?_
  unfold impl_count; dsimp only
  simp
  repeat (any_goals (first | (refine br_intro' (fun h => ?_) (fun h => ?_) <;> (have h0 := h) <;> (try simp at h) <;> try simp [h0, h])))
  all_goals exact LeV.eq (by simp [partsF, *]) rfl
theorem impl_count_call {x : Int}  {S : FuncId → Bool} {H : List Blk} {K : A → Dl → Prop} (hS : S 114 = false) (hK : K (i6 (partsF x)) (.news [])) : @WCall' Go.Proofs.Tryd.prog S 114 [i6 x] H ⟨K⟩ :=
  WCall_pure hS (impl_count_c x) (by simp) (by simp) (by simp) hK
theorem impl_count_k {x : Int}  {S : FuncId → Bool} {H : List Blk} {K : A → Dl → Prop} {zs : List A} (hS : S 114 = false) (hv : viewL (viewA 8 H) zs = some [i6 x]) (ho : noOwns zs = true ∨ nosl (i6 (partsF x)) = true) (hK : K (i6 (partsF x)) (.news [])) : @WCall' Go.Proofs.Tryd.prog S 114 zs H ⟨K⟩ :=
  WCall_pure hS (impl_count_c x) hv ho (by simp) hK
theorem impl_nodeOk_c (n : Nd) (many : Int) (h1 : 0 ≤ many) (h2 : many < 9223372036854775808) : T 94 [aN n, i6 many] [] (.bool (rightF n many)) ([]) := by
  refine semT' (S := S0) hm impl_nodeOk_ok (Nat.le_of_ble_eq_true rfl) ?_
  unfold impl_nodeOk; dsimp only
  have hw : IntKind.i64.wrap (many - 1) = many - 1 := wrap64 (by omega) (by omega)
  simp [hw]
  repeat (any_goals (first | (refine br_intro' (fun h => ?_) (fun h => ?_) <;> (have h0 := h) <;> (try simp at h) <;> try simp [h0, h, hw]) | (refine impl_count_call rfl ?_; simp [hw]) | (refine impl_inRange_call rfl ?_; simp [hw])))
  all_goals exact LeV.ro rfl rfl (by first | (simp [rightF, *]; done) | (simp only [viewA, rightF]; simp only [if_neg ‹¬partsF n.k = 0›, if_neg ‹¬partsF n.k = 1›, if_pos ‹partsF n.k = 2›]; simp [*]))
theorem impl_nodeOk_call {n : Nd} {many : Int} (h1 : 0 ≤ many) (h2 : many < 9223372036854775808) {S : FuncId → Bool} {H : List Blk} {K : A → Dl → Prop} (hS : S 94 = false) (hK : K (.bool (rightF n many)) (.news [])) : @WCall' Go.Proofs.Tryd.prog S 94 [aN n, i6 many] H ⟨K⟩ :=
  WCall_pure hS (impl_nodeOk_c n many h1 h2) (by simp) (by simp) (by simp) hK
theorem impl_nodeOk_k {n : Nd} {many : Int} (h1 : 0 ≤ many) (h2 : many < 9223372036854775808) {S : FuncId → Bool} {H : List Blk} {K : A → Dl → Prop} {zs : List A} (hS : S 94 = false) (hv : viewL (viewA 8 H) zs = some [aN n, i6 many]) (ho : noOwns zs = true ∨ nosl (.bool (rightF n many)) = true) (hK : K (.bool (rightF n many)) (.news [])) : @WCall' Go.Proofs.Tryd.prog S 94 zs H ⟨K⟩ :=
  WCall_pure hS (impl_nodeOk_c n many h1 h2) hv ho (by simp) hK
def keyN (n : Nd) : List Int := [n.k, n.a, n.b]
theorem keyN_inj {x y : Nd} : keyN x = keyN y ↔ x = y := by rw [Nd_eq]; simp [keyN]
@[simp] theorem keyN_len (n : Nd) : (keyN n).length = 3 := rfl
def mk1 (xs : List Nd) : List (List Int × Int) := xs.map fun n => (keyN n, 1)
theorem mcnt_mk1 (n : Nd) : ∀ (xs : List Nd), mcnt (mk1 xs) (keyN n) = if n ∈ xs then 1 else 0
  | [] => rfl
  | x :: xs => by
    by_cases h : n = x
    · subst h; simp [mk1, mcnt]
    · have hk : ¬ keyN n = keyN x := fun e => h (keyN_inj.1 e)
      have := mcnt_mk1 n xs
      simp only [mk1] at this
      simp [mk1, mcnt, hk, h, this]
theorem mcnt_cons (ks : List Int) (v : Int) (l : List (List Int × Int)) : mcnt ((ks, v) :: l) ks = v := by simp [mcnt]
theorem poolF_false {ns : List Nd} {j : Nat} (h : j < ns.length) (g : rightF ns[j] j = false ∨ ns[j] ∈ ns.take j) (hl : poolF ns = okFrom ns j) : poolF ns = false := by
  rw [hl, okFrom_at h]
  rcases g with g | g
  · simp [g]
  · have := findF_first ns j 0 h (Int.le_refl 0)
    rw [Int.zero_add] at this
    have e : decide (findF ns ns[j] 0 = j) = false := by simpa using fun e => this.1 e g
    simp [e]
theorem poolF_true {ns : List Nd} {j : Nat} (h : j < ns.length) (g : rightF ns[j] j = true) (k : ns[j] ∉ ns.take j) (hl : poolF ns = okFrom ns j) : poolF ns = okFrom ns (j + 1) := by
  have := findF_first ns j 0 h (Int.le_refl 0)
  rw [Int.zero_add] at this
  rw [hl, okFrom_at h, g]
  simp [this.2 k]
theorem key_fold (n : Nd) : [n.k, n.a, n.b] = keyN n := rfl
theorem impl_PoolOk_c (ns : List Nd)  : T 66 [aP ns] [] (.bool (poolF ns)) ([]) := by
  refine semT' (S := S0) hm impl_PoolOk_ok (Nat.le_of_ble_eq_true rfl) ?_
  unfold impl_PoolOk; dsimp only
  simp
  refine br_intro' (fun h => ?_) (fun h => ?_) <;> (have h0 := h) <;> (try simp at h) <;> try simp [h0, h]
  · exact LeV.ro rfl rfl (by simp [poolF]; omega)
  refine WLoop_fam (fun j : Nat => [(3, A.mref 1 0), (12, A.sl ns.length (enc ns)), (13, i6 ns.length), (14, i6 j)]) (fun j => [⟨0, false, 1, [A.sl ns.length (enc ns)], none⟩, ⟨0, false, 1, [], some (true, mk1 (ns.take j).reverse)⟩]) (fun j => ns.length - j)
    (fun j => j ≤ ns.length ∧ poolF ns = okFrom ns j) ?_ 0 ⟨Nat.zero_le _, by simp [poolF]; omega⟩
  intro j ⟨hj, hf⟩ ih
  simp
  refine br_intro' (fun h => ?_) (fun h => ?_) <;> (have h0 := h) <;> (try simp at h) <;> try simp [h0, h]
  · obtain ⟨r, hr⟩ := enc_at h
    have h3 : 3 ≤ ns.length * 3 - j * 3 := by omega
    have hw : IntKind.i64.wrap ((j : Int) + 1) = j + 1 := wrap64 (by omega) (by omega)
    have h' := h
    simp [h3, hr, h', key_fold]
    have w1 : IntKind.i64.wrap 1 = 1 := wrap64 (by omega) (by omega)
    have w2 : IntKind.i64.wrap 2 = 2 := wrap64 (by omega) (by omega)
    first | (refine ck_intro' (by kernel_rfl) ?_; try simp [mcnt_cons, key_fold]) | skip
    by_cases hm : ns[j] ∈ ns.take j
    · have hc : mcnt (mk1 (ns.take j).reverse) (keyN ns[j]) = 1 := by simp [mcnt_mk1, hm]
      have hp := poolF_false h' (.inr hm) hf
      simp [hc, w2, mcnt_cons]
      exact LeV.ro rfl rfl (by rw [hp]; rfl)
    · have hc : mcnt (mk1 (ns.take j).reverse) (keyN ns[j]) = 0 := by simp [mcnt_mk1, hm]
      simp [hc, w1, mcnt_cons]
      refine impl_nodeOk_call (n := ns[j]) (by omega) (by omega) rfl ?_; simp
      refine br_intro' (fun g => ?_) (fun g => ?_) <;> simp [g]
      · rw [hw]
        have hk : (keyN ns[j], (1 : Int)) :: mk1 (ns.take j).reverse = mk1 (ns.take (j + 1)).reverse := by
          rw [List.take_succ_eq_append_getElem h', List.reverse_append]; rfl
        refine WLoop_drop [⟨0, false, 1, [A.sl ns.length (enc ns)], none⟩, ⟨0, false, 1, [], some (true, mk1 (ns.take (j + 1)).reverse)⟩] [_] (by rw [← hk]; rfl) (by simp) (by simp) (by simp) ?_
        exact ih (j + 1) ⟨h', poolF_true h' g hm hf⟩ (by omega)
      · exact LeV.ro rfl rfl (by rw [poolF_false h' (.inl g) hf]; rfl)
  · exact LeV.ro rfl rfl (by simp [hf, okFrom_end h])
theorem impl_PoolOk_call {ns : List Nd}  {S : FuncId → Bool} {H : List Blk} {K : A → Dl → Prop} (hS : S 66 = false) (hK : K (.bool (poolF ns)) (.news [])) : @WCall' Go.Proofs.Tryd.prog S 66 [aP ns] H ⟨K⟩ :=
  WCall_pure hS (impl_PoolOk_c ns) (by simp) (by simp) (by simp) hK
theorem impl_PoolOk_k {ns : List Nd}  {S : FuncId → Bool} {H : List Blk} {K : A → Dl → Prop} {zs : List A} (hS : S 66 = false) (hv : viewL (viewA 8 H) zs = some [aP ns]) (ho : noOwns zs = true ∨ nosl (.bool (poolF ns)) = true) (hK : K (.bool (poolF ns)) (.news [])) : @WCall' Go.Proofs.Tryd.prog S 66 zs H ⟨K⟩ :=
  WCall_pure hS (impl_PoolOk_c ns) hv ho (by simp) hK
end Go.Proofs.YtmlfacjgfjmdeaaDoor.C

set_option linter.unusedVariables false
set_option linter.unusedSimpArgs false
namespace Go.Proofs.YtmlfacjgfjmdeaaDoor.C
open Go.Sym Go.Proofs.YtmlfacjgfjmdeaaDoor.I
abbrev pblk (ns : List Nd) : Blk := ⟨ns.length, decide (ns.length = 0), 3, enc ns, none⟩
abbrev pref (b : Nat) (ns : List Nd) : A := .ref b ns.length 0 ns.length
@[simp] theorem enc_take (ns : List Nd) : (enc ns).take (ns.length * 3) = enc ns := List.take_of_length_le (by simp)
@[simp] theorem enc_nil : enc [] = [] := rfl
theorem enc_snoc (ns : List Nd) (n : Nd) : enc (ns ++ [n]) = enc ns ++ [i6 n.k, i6 n.a, i6 n.b] := by simp [enc, encN]
mutual
theorem inA_mono {n m : Nat} (h : n ≤ m) : ∀ (x : A), inA n x = true → inA m x = true
  | .bool _, _ => rfl
  | .int _ _, _ => rfl
  | .str _, _ => rfl
  | .nil, _ => rfl
  | .nilp, _ => rfl
  | .ub, _ => rfl
  | .err _, _ => rfl
  | .nilf, _ => rfl
  | .stamp _ _ _ _, g => by simp [inA] at g ⊢; omega
  | .ref b _ _ _, g => by simp [inA] at g ⊢; omega
  | .ptr b _ _, g => by simp [inA] at g ⊢; omega
  | .mref b _, g => by simp [inA] at g ⊢; omega
  | .sl _ cs, g => by simp only [inA] at g ⊢; first | exact g | exact inAs_mono h cs g
  | .pt cs, g => by simp only [inA] at g ⊢; first | exact g | exact inAs_mono h cs g
  | .fn _ cs, g => by simp only [inA] at g ⊢; exact inAs_mono h cs g
  | .agg cs, g => by simp only [inA] at g ⊢; exact inAs_mono h cs g
  | .tup cs, g => by simp only [inA] at g ⊢; exact inAs_mono h cs g
theorem inAs_mono {n m : Nat} (h : n ≤ m) : ∀ (xs : List A), inAs n xs = true → inAs m xs = true
  | [], _ => rfl
  | x :: xs, g => by
    simp only [inAs, Bool.and_eq_true] at g ⊢
    exact ⟨inA_mono h x g.1, inAs_mono h xs g.2⟩
end
theorem Closed1_mono {n m : Nat} (h : n ≤ m) : ∀ (H : List Blk), Closed1 n H = true → Closed1 m H = true
  | [], _ => rfl
  | k :: H, g => by
    simp only [Closed1_cons, Bool.and_eq_true] at g ⊢
    exact ⟨inAs_mono h _ g.1, Closed1_mono h H g.2⟩
theorem Closed1_app {n : Nat} {T : List Blk} (g : Closed1 n T = true) : ∀ (H : List Blk), Closed1 n H = true → Closed1 n (H ++ T) = true
  | [], _ => g
  | k :: H, h => by
    simp only [List.cons_append, Closed1_cons, Bool.and_eq_true] at h ⊢
    exact ⟨h.1, Closed1_app g H h.2⟩
theorem Closed1_more {H T : List Blk} (h : Closed1 H.length H = true) (g : Closed1 (H.length + T.length) T = true) : Closed1 (H ++ T).length (H ++ T) = true := by
  rw [List.length_append]
  exact Closed1_app g _ (Closed1_mono (by omega) _ h)
theorem Closed1_box {H : List Blk} {k : Blk} (h : Closed1 H.length H = true) (g : inAs (H.length + 1) k.cs = true) : Closed1 (H ++ [k]).length (H ++ [k]) = true := by
  rw [List.length_append]
  exact Closed1_app (by simpa using g) _ (Closed1_mono (by simp) _ h)
theorem slices_Clone_Node_c (ns : List Nd) (hl : ns.length ≤ 4294967296) : T 96 [.sl ns.length (enc ns)] [] (pref 0 ns) ([pblk ns]) := by
  refine semT' (S := S0) hm slices_Clone_Node_ok (Nat.le_of_ble_eq_true rfl) ?_
  unfold slices_Clone_Node; dsimp only
  simp
  have h1 : ((ns.length : Int)) * 24 ≤ 17592186044416 := by omega
  have h2 : (ns.length : Int) ≤ 4294967296 := by omega
  refine br_intro' (fun h => ?_) (fun h => ?_)
  · have h0 : ns = [] := by simpa using h
    subst h0
    simp
    exact LeV.tell [none] (by simp) (by simp [TellB]) (by simp [Tell])
  · have h0 : ns ≠ [] := by simpa using h
    simp [h0]
    refine ck_intro' (by omega) ?_; simp [h0]
    exact LeV.tell [some 0] (by simp) (by simp [TellB, Tells, h0]) (by simp [Tell])
theorem slices_Clone_Node_k {ns : List Nd} (hl : ns.length ≤ 4294967296) {S : FuncId → Bool} {H : List Blk} {K : A → Dl → Prop} {zs : List A} (hS : S 96 = false) (hv : viewL (viewA 8 H) zs = some [.sl ns.length (enc ns)]) (ho : noOwns zs = true ∨ nosl (pref 0 ns) = true ∧ noslBlks ([pblk ns]) = true) (hK : K (shiftA H.length (pref 0 ns)) (.news (([pblk ns]).map (shiftB H.length)))) : @WCall' Go.Proofs.Tryd.prog S 96 zs H ⟨K⟩ :=
  WCall_ro' hS hv (slices_Clone_Node_c ns hl) rfl ho hK
theorem spec_l1Copy_c (ns : List Nd) (hl : ns.length ≤ 4294967296) : T 63 [aP ns] [] (.agg [pref 0 ns]) ([pblk ns]) := by
  refine semT' (S := S0) hm spec_l1Copy_ok (Nat.le_of_ble_eq_true rfl) ?_
  unfold spec_l1Copy; dsimp only
  have h1 : ((ns.length : Int)) * 24 ≤ 17592186044416 := by omega
  have h2 : (ns.length : Int) ≤ 4294967296 := by omega
  by_cases h0 : ns = []
  · subst h0
    simp
    first | (refine LeV.tell [none] ?_ ?_ ?_ <;> (simp; done)) | (refine LeV.tell [some 0] ?_ ?_ ?_ <;> (simp; done)) | (refine LeV.tell [some 1] ?_ ?_ ?_ <;> (simp; done)) | (refine LeV.tell [some 2] ?_ ?_ ?_ <;> (simp; done)) | (refine LeV.tell [some 3] ?_ ?_ ?_ <;> (simp; done)) | (refine LeV.tell [some 4] ?_ ?_ ?_ <;> (simp; done)) | (refine LeV.tell [some 5] ?_ ?_ ?_ <;> (simp; done)) | (refine LeV.tell [some 6] ?_ ?_ ?_ <;> (simp; done)) | (refine LeV.tell [some 7] ?_ ?_ ?_ <;> (simp; done)) | (refine LeV.tell [some 8] ?_ ?_ ?_ <;> (simp; done)) | (refine LeV.tell [some 9] ?_ ?_ ?_ <;> (simp; done)) | (refine LeV.tell [some 10] ?_ ?_ ?_ <;> (simp; done)) | (refine LeV.tell [some 11] ?_ ?_ ?_ <;> (simp; done)) | (refine LeV.tell [some 12] ?_ ?_ ?_ <;> (simp; done)) | (refine LeV.tell [some 13] ?_ ?_ ?_ <;> (simp; done)) | (refine LeV.tell [some 14] ?_ ?_ ?_ <;> (simp; done)) | (refine LeV.tell [some 15] ?_ ?_ ?_ <;> (simp; done))
  · simp [h0]
    refine ck_intro' (by omega) ?_; simp [h0]
    first | (refine LeV.tell [none] ?_ ?_ ?_ <;> (simp [h0]; done)) | (refine LeV.tell [some 0] ?_ ?_ ?_ <;> (simp [h0]; done)) | (refine LeV.tell [some 1] ?_ ?_ ?_ <;> (simp [h0]; done)) | (refine LeV.tell [some 2] ?_ ?_ ?_ <;> (simp [h0]; done)) | (refine LeV.tell [some 3] ?_ ?_ ?_ <;> (simp [h0]; done)) | (refine LeV.tell [some 4] ?_ ?_ ?_ <;> (simp [h0]; done)) | (refine LeV.tell [some 5] ?_ ?_ ?_ <;> (simp [h0]; done)) | (refine LeV.tell [some 6] ?_ ?_ ?_ <;> (simp [h0]; done)) | (refine LeV.tell [some 7] ?_ ?_ ?_ <;> (simp [h0]; done)) | (refine LeV.tell [some 8] ?_ ?_ ?_ <;> (simp [h0]; done)) | (refine LeV.tell [some 9] ?_ ?_ ?_ <;> (simp [h0]; done)) | (refine LeV.tell [some 10] ?_ ?_ ?_ <;> (simp [h0]; done)) | (refine LeV.tell [some 11] ?_ ?_ ?_ <;> (simp [h0]; done)) | (refine LeV.tell [some 12] ?_ ?_ ?_ <;> (simp [h0]; done)) | (refine LeV.tell [some 13] ?_ ?_ ?_ <;> (simp [h0]; done)) | (refine LeV.tell [some 14] ?_ ?_ ?_ <;> (simp [h0]; done)) | (refine LeV.tell [some 15] ?_ ?_ ?_ <;> (simp [h0]; done))
theorem spec_l1Copy_k {ns : List Nd} (hl : ns.length ≤ 4294967296) {S : FuncId → Bool} {H : List Blk} {K : A → Dl → Prop} {zs : List A} (hS : S 63 = false) (hv : viewL (viewA 8 H) zs = some [aP ns]) (ho : noOwns zs = true ∨ nosl (.agg [pref 0 ns]) = true ∧ noslBlks ([pblk ns]) = true) (hK : K (shiftA H.length (.agg [pref 0 ns])) (.news (([pblk ns]).map (shiftB H.length)))) : @WCall' Go.Proofs.Tryd.prog S 63 zs H ⟨K⟩ :=
  WCall_ro' hS hv (spec_l1Copy_c ns hl) rfl ho hK
theorem impl_copyPool_c (ns : List Nd) (hl : ns.length ≤ 4294967296) : T 68 [aP ns] [] (.agg [pref 0 ns]) ([pblk ns]) := by
  refine semT' (S := S0) hm impl_copyPool_ok (Nat.le_of_ble_eq_true rfl) ?_
  unfold impl_copyPool; dsimp only
  simp
  refine slices_Clone_Node_k (ns := ns) hl rfl (by simp) (by simp [noslBlks]) ?_; simp [shiftB]
  exact LeV.tell [some 2] (by simp) (by simp) (by simp)
theorem impl_copyPool_k {ns : List Nd} (hl : ns.length ≤ 4294967296) {S : FuncId → Bool} {H : List Blk} {K : A → Dl → Prop} {zs : List A} (hS : S 68 = false) (hv : viewL (viewA 8 H) zs = some [aP ns]) (ho : noOwns zs = true ∨ nosl (.agg [pref 0 ns]) = true ∧ noslBlks ([pblk ns]) = true) (hK : K (shiftA H.length (.agg [pref 0 ns])) (.news (([pblk ns]).map (shiftB H.length)))) : @WCall' Go.Proofs.Tryd.prog S 68 zs H ⟨K⟩ :=
  WCall_ro' hS hv (impl_copyPool_c ns hl) rfl ho hK
theorem slices_Index_Node_c (ns : List Nd) (n : Nd) (hl : ns.length < 9223372036854775807) : T 129 [.sl ns.length (enc ns), aN n] [] (i6 (findF ns n 0)) ([]) := by
  refine semT' (S := S0) hm slices_Index_Node_ok (Nat.le_of_ble_eq_true rfl) ?_
  unfold slices_Index_Node; dsimp only
  simp
  refine WLoop_fam (fun j : Nat => [(0, A.sl ns.length (enc ns)), (3, A.ptr 0 0 0), (7, i6 ns.length), (8, i6 j)]) (fun _ => [⟨0, false, 1, [i6 n.k, i6 n.a, i6 n.b], none⟩]) (fun j => ns.length - j)
    (fun j => j ≤ ns.length ∧ findF ns n 0 = findF (ns.drop j) n j) ?_ 0 ⟨Nat.zero_le _, rfl⟩
  intro j ⟨hj, hf⟩ ih
  simp
  refine br_intro' (fun h => ?_) (fun h => ?_) <;> (have h0 := h) <;> (try simp at h) <;> try simp [h0, h]
  · obtain ⟨r, hr⟩ := enc_at h
    have h3 : 3 ≤ ns.length * 3 - j * 3 := by omega
    have hd : ns.drop j = ns[j] :: ns.drop (j + 1) := List.drop_eq_getElem_cons h
    have hw : IntKind.i64.wrap ((j : Int) + 1) = j + 1 := wrap64 (by omega) (by omega)
    have h' := h
    simp [h3, hr, h']
    first | (refine ck_intro' (by kernel_rfl) ?_; try simp) | skip
    refine br_intro' (fun h => ?_) (fun h => ?_) <;> (have h0 := h) <;> (try simp at h) <;> try simp [h0, h, hr]
    · exact LeV.ro rfl rfl (by rw [hf, hd, findF, if_pos (by rw [Nd_eq]; simp [h])]; rfl)
    · rw [hw]
      refine ih (j + 1) ⟨h', ?_⟩ (by omega)
      rw [hf, hd, findF, if_neg (by rw [Nd_eq]; rintro ⟨a, b, c⟩; exact h a.symm b.symm c.symm)]
      rfl
  · exact LeV.ro rfl rfl (by simp [hf, findF, List.drop_of_length_le h])
theorem slices_Index_Node_call {ns : List Nd} {n : Nd} (hl : ns.length < 9223372036854775807) {S : FuncId → Bool} {H : List Blk} {K : A → Dl → Prop} (hS : S 129 = false) (hK : K (i6 (findF ns n 0)) (.news [])) : @WCall' Go.Proofs.Tryd.prog S 129 [.sl ns.length (enc ns), aN n] H ⟨K⟩ :=
  WCall_pure hS (slices_Index_Node_c ns n hl) (by simp) (by simp) (by simp) hK
theorem slices_Index_Node_k {ns : List Nd} {n : Nd} (hl : ns.length < 9223372036854775807) {S : FuncId → Bool} {H : List Blk} {K : A → Dl → Prop} {zs : List A} (hS : S 129 = false) (hv : viewL (viewA 8 H) zs = some [.sl ns.length (enc ns), aN n]) (ho : noOwns zs = true ∨ nosl (i6 (findF ns n 0)) = true) (hK : K (i6 (findF ns n 0)) (.news [])) : @WCall' Go.Proofs.Tryd.prog S 129 zs H ⟨K⟩ :=
  WCall_pure hS (slices_Index_Node_c ns n hl) hv ho (by simp) hK
theorem impl_Pool_find_c (ns : List Nd) (r : List A) (n : Nd) (hl : ns.length < 9223372036854775807) : T 115 [.pt (.sl ns.length (enc ns) :: r), aN n] [] (i6 (findF ns n 0)) ([]) := by
  refine semT' (S := S0) hm impl_Pool_find_ok (Nat.le_of_ble_eq_true rfl) ?_
  unfold impl_Pool_find; dsimp only
  simp
  refine slices_Index_Node_k (ns := ns) (n := n) hl rfl (by simp) (by simp [noslBlks]) ?_; simp [shiftB]
  first | (refine ck_intro' (by kernel_rfl) ?_; try simp) | skip
  exact LeV.ro rfl rfl rfl
theorem impl_Pool_find_k {ns : List Nd} {r : List A} {n : Nd} (hl : ns.length < 9223372036854775807) {S : FuncId → Bool} {H : List Blk} {K : A → Dl → Prop} {zs : List A} (hS : S 115 = false) (hv : viewL (viewA 8 H) zs = some [.pt (.sl ns.length (enc ns) :: r), aN n]) (ho : noOwns zs = true ∨ nosl (i6 (findF ns n 0)) = true) (hK : K (i6 (findF ns n 0)) (.news [])) : @WCall' Go.Proofs.Tryd.prog S 115 zs H ⟨K⟩ :=
  WCall_pure hS (impl_Pool_find_c ns r n hl) hv ho (by simp) hK
/-- A node as it stands: a shared one with the lesser part first. -/
def normN (n : Nd) : Nd := if n.k = 8 then ⟨8, if n.b < n.a then n.b else n.a, if n.a < n.b then n.b else n.a⟩ else n
/-- What adding a node to a right pool comes to. -/
def addF (ns : List Nd) (n : Nd) : List Nd × Int :=
  if rightF (normN n) ns.length = false then (ns, -1)
  else if 0 ≤ findF ns (normN n) 0 then (ns, findF ns (normN n) 0)
  else if 500 ≤ ns.length then (ns, -1)
  else (ns ++ [normN n], ns.length)
/-- A heap in which a pool stands: its row nb, and what names it at place off of row b. -/
def pset (H : List Blk) (b off nb vb eb : Nat) (cb : List A) (ns : List Nd) : List Blk := (H.set nb (pblk ns)).set b ⟨vb, false, eb, cb.set off (pref nb ns), none⟩
structure PIn (H : List Blk) (b off nb : Nat) (cb : List A) : Prop where
  blt : b < H.length
  nlt : nb < H.length
  ne : b ≠ nb
  olt : off < cb.length
  cl : Closed1 H.length H = true
  inc : inAs H.length cb = true
  rest : ∃ r, ∀ G : List Blk, (∀ q, q < H.length → q ≠ b → q ≠ nb → G[q]? = H[q]?) → viewL (viewA 7 G) (cb.drop (off + 1)) = some r
@[simp] theorem pset_len (H : List Blk) (b off nb vb eb : Nat) (cb : List A) (ns : List Nd) : (pset H b off nb vb eb cb ns).length = H.length := by simp [pset]
section
variable {H : List Blk} {b off nb : Nat} {cb : List A} (h : PIn H b off nb cb) (vb eb : Nat) (ns : List Nd)
include h
theorem PIn.at_b : (pset H b off nb vb eb cb ns)[b]? = some ⟨vb, false, eb, cb.set off (pref nb ns), none⟩ := by simp [pset, h.blt]
theorem PIn.at_nb : (pset H b off nb vb eb cb ns)[nb]? = some (pblk ns) := by simp [pset, h.ne, h.nlt]
theorem PIn.closed : Closed1 H.length (pset H b off nb vb eb cb ns) = true := by
  refine Closed1_set ?_ _ _ (Closed1_set (by simp) _ _ h.cl)
  exact inAs_set (by simpa using h.nlt) _ _ h.inc
theorem PIn.set (ns' : List Nd) : ((pset H b off nb vb eb cb ns).set nb (pblk ns')).set b ⟨vb, false, eb, (cb.set off (pref nb ns)).set off (pref nb ns'), none⟩ = pset H b off nb vb eb cb ns' := by
  simp only [pset, List.set_set]
  rw [List.set_comm _ _ h.ne, List.set_set, List.set_set]
end
theorem impl_Pool_add_m (H : List Blk) (b off nb vb eb : Nat) (cb : List A) (ns : List Nd) (k a c : Int) (h : PIn H b off nb cb) (hl : ns.length ≤ 500) : T 99 [.ptr b vb off, i6 k, i6 a, i6 c] (pset H b off nb vb eb cb ns) (i6 (addF ns ⟨k, a, c⟩).2) (pset H b off nb vb eb cb (addF ns ⟨k, a, c⟩).1) := by
  refine semT' (S := S0) hm impl_Pool_add_ok (Nat.le_of_ble_eq_true rfl) ?_
  unfold impl_Pool_add; dsimp only
  have gb := h.at_b vb eb ns
  have gn := h.at_nb vb eb ns
  have hcl := h.closed vb eb ns
  have hset := h.set vb eb ns
  have hbl : b < (pset H b off nb vb eb cb ns).length := by simpa using h.blt
  have hnl : nb < (pset H b off nb vb eb cb ns).length := by simpa using h.nlt
  have hlen : (pset H b off nb vb eb cb ns).length = H.length := by simp
  rw [← hlen] at hcl
  obtain ⟨rr, hrr0⟩ := h.rest
  have hrr1 : ∀ T : List Blk, viewL (viewA 7 (pset H b off nb vb eb cb ns ++ T)) (cb.drop (off + 1)) = some rr := fun T => hrr0 _ fun q hq h1 h2 => by
    rw [get_left (by rw [hlen]; exact hq)]
    simp only [pset]
    rw [List.getElem?_set_ne (Ne.symm h1), List.getElem?_set_ne (Ne.symm h2)]
  generalize hG : pset H b off nb vb eb cb ns = G at gb gn hcl hset hbl hnl hlen hrr1 ⊢
  have hrr := hrr1
  have hd := set_drop cb off (pref nb ns) h.olt
  simp
  have gl : ∀ T : List Blk, (G ++ T)[b]? = _ := fun T => (get_left hbl).trans gb
  have gm : ∀ T : List Blk, (G ++ T)[nb]? = _ := fun T => (get_left hnl).trans gn
  have sm : ∀ (T : List Blk) x, (G ++ T).set nb x = _ := fun T x => set_left hnl x
  have sb : ∀ (T : List Blk) x y, (G.set nb x ++ T).set b y = _ := fun T x y => set_left (by simpa using hbl) y
  have gs : ∀ (T : List Blk) x, (G.set nb x ++ T)[b]? = _ := fun T x => (get_left (by simpa using hbl)).trans ((List.getElem?_set_ne h.ne.symm).trans gb)
  have g2 : ∀ (T : List Blk) x y, ((G.set nb x).set b y ++ T)[b]? = some y := fun T x y => (get_left (by simpa using hbl)).trans (by simp [hbl])
  have hd2 : ∀ p p' : A, ((cb.set off p).set off p').drop off = p' :: cb.drop (off + 1) := fun p p' => by rw [List.set_set]; exact set_drop cb off p' h.olt
  have hw : IntKind.i64.wrap (ns.length : Int) = ns.length := wrap64 (by omega) (by omega)
  have fin0 : ∀ (t : Int) (T : List Blk), addF ns ⟨k, a, c⟩ = (ns, t) → LeV G.length (i6 t) (G ++ T) (i6 (addF ns ⟨k, a, c⟩).2) (pset H b off nb vb eb cb (addF ns ⟨k, a, c⟩).1) := by
    intro t T e
    rw [e, hG]
    exact LeV.drop (Nat.le_refl _) hcl (by simp)
  have fin1 : ∀ (n : Nd) (T : List Blk), addF ns ⟨k, a, c⟩ = (ns ++ [n], (ns.length : Int)) → LeV G.length (i6 ns.length) ((G.set nb ⟨ns.length + 1, false, 3, enc ns ++ [i6 n.k, i6 n.a, i6 n.b], none⟩).set b ⟨vb, false, eb, cb.set off (.ref nb (ns.length + 1) 0 (ns.length + 1)), none⟩ ++ T) (i6 (addF ns ⟨k, a, c⟩).2) (pset H b off nb vb eb cb (addF ns ⟨k, a, c⟩).1) := by
    intro n T e
    have hs := hset (ns ++ [n])
    have hp : pblk (ns ++ [n]) = ⟨ns.length + 1, false, 3, enc ns ++ [i6 n.k, i6 n.a, i6 n.b], none⟩ := by simp [pblk, enc_snoc]
    have hq : pref nb (ns ++ [n]) = .ref nb (ns.length + 1) 0 (ns.length + 1) := by simp [pref]
    rw [List.set_set, hp, hq] at hs
    rw [e, hs]
    exact LeV.drop (by rw [pset_len, hlen]; exact Nat.le_refl _) (by rw [pset_len]; exact h.closed vb eb _) (by simp)
  refine br_intro' (fun hk => ?_) (fun hk => ?_) <;> simp at hk <;> simp [hk]
  · generalize hx : (if c < a then c else a) = x
    generalize hy : (if a < c then c else a) = y
    have hN : normN ⟨k, a, c⟩ = ⟨8, x, y⟩ := by simp [normN, hk, hx, hy]
    simp [gl, gm, hd]
    refine impl_nodeOk_call (n := ⟨8, x, y⟩) (by omega) (by omega) rfl ?_; simp
    first | (refine ck_intro' (by kernel_rfl) ?_; try simp) | skip
    refine br_intro' (fun g => ?_) (fun g => ?_) <;> simp [g]
    · refine impl_Pool_find_k (ns := ns) (r := rr) (n := ⟨8, x, y⟩) (by omega) rfl (by simp [gl, gm, hd, hrr]) (by simp) ?_; simp
      refine br_intro' (fun f => ?_) (fun f => ?_) <;> (have f0 := f) <;> simp at f <;> simp [f, gl, gm, hd]
      · exact fin0 _ _ (by simp only [addF, hN, g]; rw [if_neg (by simp), if_pos f])
      · refine br_intro' (fun q => ?_) (fun q => ?_) <;> simp at q <;> simp [q, gl, gm, hd]
        · exact fin0 _ _ (by simp only [addF, hN, g]; rw [if_neg (by simp), if_neg (by omega), if_pos (by omega)])
        · refine ck_intro' (by omega) ?_; simp [gl, gm, hd, sm, sb, gs]
          refine ck_intro' h.olt ?_; simp [gl, gm, hd, sm, sb, gs]
          first | (refine ck_intro' (by kernel_rfl) ?_; try simp [gl, gm, hd, sm, sb, gs, g2, h.olt, hw]) | skip
          exact fin1 ⟨8, x, y⟩ _ (by simp only [addF, hN, g]; rw [if_neg (by simp), if_neg (by omega), if_neg (by omega)])
    · exact fin0 _ _ (by simp [addF, hN, g])
  · have hN : normN ⟨k, a, c⟩ = ⟨k, a, c⟩ := by simp [normN, hk]
    simp [gl, gm, hd]
    refine impl_nodeOk_call (n := ⟨k, a, c⟩) (by omega) (by omega) rfl ?_; simp
    first | (refine ck_intro' (by kernel_rfl) ?_; try simp) | skip
    refine br_intro' (fun g => ?_) (fun g => ?_) <;> simp [g]
    · refine impl_Pool_find_k (ns := ns) (r := rr) (n := ⟨k, a, c⟩) (by omega) rfl (by simp [gl, gm, hd, hrr]) (by simp) ?_; simp
      refine br_intro' (fun f => ?_) (fun f => ?_) <;> (have f0 := f) <;> simp at f <;> simp [f, gl, gm, hd]
      · exact fin0 _ _ (by simp only [addF, hN, g]; rw [if_neg (by simp), if_pos f])
      · refine br_intro' (fun q => ?_) (fun q => ?_) <;> simp at q <;> simp [q, gl, gm, hd]
        · exact fin0 _ _ (by simp only [addF, hN, g]; rw [if_neg (by simp), if_neg (by omega), if_pos (by omega)])
        · refine ck_intro' (by omega) ?_; simp [gl, gm, hd, sm, sb, gs]
          refine ck_intro' h.olt ?_; simp [gl, gm, hd, sm, sb, gs]
          first | (refine ck_intro' (by kernel_rfl) ?_; try simp [gl, gm, hd, sm, sb, gs, g2, h.olt, hw]) | skip
          exact fin1 ⟨k, a, c⟩ _ (by simp only [addF, hN, g]; rw [if_neg (by simp), if_neg (by omega), if_neg (by omega)])
    · exact fin0 _ _ (by simp [addF, hN, g])
end Go.Proofs.YtmlfacjgfjmdeaaDoor.C

set_option linter.unusedVariables false
set_option linter.unusedSimpArgs false
namespace Go.Proofs.YtmlfacjgfjmdeaaDoor.C
open Go.Sym Go.Proofs.YtmlfacjgfjmdeaaDoor.I
theorem pset_pset {H : List Blk} {b off nb : Nat} {cb : List A} (h : PIn H b off nb cb) (vb eb : Nat) (ns ns' : List Nd) : pset (pset H b off nb vb eb cb ns) b off nb vb eb cb ns' = pset H b off nb vb eb cb ns' := by
  simp only [pset]
  rw [List.set_comm _ _ h.ne, List.set_set, List.set_set]
theorem pset_other {H : List Blk} {b off nb : Nat} {cb : List A} (vb eb : Nat) (ns : List Nd) {q : Nat} (h1 : q ≠ b) (h2 : q ≠ nb) : (pset H b off nb vb eb cb ns)[q]? = H[q]? := by
  simp only [pset]
  rw [List.getElem?_set_ne (Ne.symm h1), List.getElem?_set_ne (Ne.symm h2)]
theorem PIn.pset {H : List Blk} {b off nb : Nat} {cb : List A} (h : PIn H b off nb cb) (vb eb : Nat) (ns : List Nd) : PIn (C.pset H b off nb vb eb cb ns) b off nb cb :=
  ⟨by simpa using h.blt, by simpa using h.nlt, h.ne, h.olt, by simpa using h.closed vb eb ns, by simpa using h.inc, h.rest.imp fun r hr G hG => hr G fun q h0 h1 h2 => (hG q (by simpa using h0) h1 h2).trans (pset_other vb eb ns h1 h2)⟩
theorem addF_len (ns : List Nd) (n : Nd) (h : ns.length ≤ 500) : (addF ns n).1.length ≤ 500 := by
  unfold addF
  split
  · exact h
  · split
    · exact h
    · split
      · exact h
      · simp; omega
/-- A method that turns a pool, called where a pool stands. -/
theorem pool_call {f : FuncId} {S : FuncId → Bool} {G : List Blk} {K : A → Dl → Prop} (hS : S f = true) (b off nb vb eb : Nat) (cb : List A) (ns ns' : List Nd) {zs : List A} {r : A} (h : PIn G b off nb cb) (hG : pset G b off nb vb eb cb ns = G)
    (hf : T f zs (pset G b off nb vb eb cb ns) r (pset G b off nb vb eb cb ns')) (hK : K r (.full [nb, b] (pset G b off nb vb eb cb ns'))) : @WCall' Go.Proofs.Tryd.prog S f zs G ⟨K⟩ := by
  rw [hG] at hf
  refine WCall_t' hS [nb, b] hf (by simp) (fun q hq _ => ?_) hK
  simp at hq
  exact pset_other vb eb ns' hq.2 hq.1
theorem impl_Pool_name_m (H : List Blk) (b off nb vb eb : Nat) (cb : List A) (ns : List Nd) (x : Int) (h : PIn H b off nb cb) (hl : ns.length ≤ 500) : T 97 [.ptr b vb off, i6 x] (pset H b off nb vb eb cb ns) (i6 (addF ns ⟨1, x, 0⟩).2) (pset H b off nb vb eb cb (addF ns ⟨1, x, 0⟩).1) := by
  refine semT' (S := (fun f => [99].contains f)) hm impl_Pool_name_ok (Nat.le_of_ble_eq_true rfl) ?_
  unfold impl_Pool_name; dsimp only
  simp
  refine pool_call rfl b off nb vb eb cb ns (addF ns ⟨1, x, 0⟩).1 (h.pset vb eb ns) (pset_pset h vb eb ns ns) (by rw [pset_pset h, pset_pset h]; exact impl_Pool_add_m H b off nb vb eb cb ns 1 x 0 h hl) ?_
  simp [pset_pset h]
  exact LeV.refl _ _ _
/-- What a link's word comes to. -/
def sealF (ns : List Nd) (key seq t : Int) : List Nd × Int :=
  let p := addF ns ⟨1, IntKind.i64.wrap (20 + seq), 0⟩
  let q := addF p.1 ⟨2, p.2, t⟩
  addF q.1 ⟨3, q.2, key⟩
theorem sealF_len (ns : List Nd) (key seq t : Int) (h : ns.length ≤ 500) : (sealF ns key seq t).1.length ≤ 500 := addF_len _ _ (addF_len _ _ (addF_len _ _ h))
end Go.Proofs.YtmlfacjgfjmdeaaDoor.C

set_option linter.unusedVariables false
set_option linter.unusedSimpArgs false
namespace Go.Proofs.YtmlfacjgfjmdeaaDoor.C
open Go.Sym Go.Proofs.YtmlfacjgfjmdeaaDoor.I
def ints (xs : List Int) : List A := xs.map i6
@[simp] theorem ints_len (xs : List Int) : (ints xs).length = xs.length := List.length_map ..
@[simp] theorem ints_scals (xs : List Int) : scals (ints xs) = true := scals_map _ (fun _ => rfl) xs
@[simp] theorem ints_view (n : Nat) (H : List Blk) (xs : List Int) : viewL (viewA (n + 1) H) (ints xs) = some (ints xs) := viewL_scals _ (ints_scals xs)
@[simp] theorem ints_noOwns (xs : List Int) : noOwns (ints xs) = true := noOwns_scals _ (ints_scals xs)
@[simp] theorem ints_nosls (xs : List Int) : nosls (ints xs) = true := nosls_scals _ (ints_scals xs)
@[simp] theorem ints_shift (n : Nat) (xs : List Int) : shiftAs n (ints xs) = ints xs := shiftAs_scals _ (ints_scals xs)
@[simp] theorem ints_get (xs : List Int) (j : Nat) (h : j < (ints xs).length) : (ints xs)[j] = i6 (xs[j]'(by simpa using h)) := by simp [ints]
theorem ints_at {xs : List Int} {j : Nat} (h : j < xs.length) : (ints xs)[j]? = some (i6 xs[j]) := by simp [ints, h]
structure Lk where
  key : Int
  epoch : Int
  seq : Int
  over : Bool
  deriving DecidableEq
abbrev aL (l : Lk) : A := .agg [i6 l.key, i6 l.epoch, i6 l.seq, .bool l.over]
abbrev aI (xs : List Int) : A := .sl xs.length (ints xs)
structure St where
  pool : List Nd
  know : List Int
  out : Lk
  inn : Lk
  sent : List Int
  got : List Int
abbrev cS (s : St) : List A := [.sl s.pool.length (enc s.pool), aI s.know, i6 s.out.key, i6 s.out.epoch, i6 s.out.seq, .bool s.out.over, i6 s.inn.key, i6 s.inn.epoch, i6 s.inn.seq, .bool s.inn.over, aI s.sent, aI s.got]
abbrev aS (s : St) : A := .agg (cS s)
def hasF (m : Nat) (t : Int) : Bool := inF t 0 ((m : Int) - 1)
def linkF (m : Nat) (l : Lk) : Bool := hasF m l.key && inF l.epoch 0 20 && inF l.seq 0 20
def allF (p : Nat → Bool) (n j : Nat) : Bool := (List.range' j (n - j)).all p
theorem allF_at {p : Nat → Bool} {n j : Nat} (h : j < n) : allF p n j = (p j && allF p n (j + 1)) := by
  have : n - j = (n - (j + 1)) + 1 := by omega
  simp only [allF]
  rw [this, List.range'_succ, List.all_cons]
theorem allF_end {p : Nat → Bool} {n j : Nat} (h : n ≤ j) : allF p n j = true := by simp [allF, Nat.sub_eq_zero_of_le h]
def kn (m : Nat) (ks : List Int) (i : Nat) : Bool := hasF m (ks.getD i 0) && (decide (i = 0) || decide (ks.getD (i - 1) 0 < ks.getD i 0))
def knowF (m : Nat) (ks : List Int) : Bool := allF (kn m ks) ks.length 0 && decide (ks.length ≤ 200)
def kpF (ns : List Nd) (ks : List Int) : Bool := poolF ns && knowF ns.length ks
def lkF (ns : List Nd) (l : Lk) : Bool := poolF ns && linkF ns.length l
def termsF (m : Nat) (ks : List Int) : Bool := allF (fun i => hasF m (ks.getD i 0)) ks.length 0 && decide (ks.length ≤ 60)
theorem wrap_len {n : Nat} (h : n < 9223372036854775807) : IntKind.i64.wrap ((n : Int) - 1) = n - 1 := wrap64 (by omega) (by omega)
theorem wrap_succ {n : Nat} (h : n < 9223372036854775807) : IntKind.i64.wrap ((n : Int) + 1) = n + 1 := wrap64 (by omega) (by omega)

theorem spec_l1Has_c (ns : List Nd) (t : Int) (hl : ns.length < 9223372036854775807) : T 88 [aP ns, i6 t] [] (.bool (hasF ns.length t)) ([]) := by
  refine semT' (S := S0) hm spec_l1Has_ok (Nat.le_of_ble_eq_true rfl) ?_
  unfold spec_l1Has; dsimp only
  simp [wrap_len hl]
  repeat (any_goals (first | (refine br_intro' (fun h => ?_) (fun h => ?_) <;> (have h0 := h) <;> (try simp at h) <;> try simp [h0, h]) | (refine spec_l1In_call rfl ?_; simp [])))
  all_goals exact LeV.ro rfl rfl (by simp [hasF])
theorem spec_l1Has_call {ns : List Nd} {t : Int} (hl : ns.length < 9223372036854775807) {S : FuncId → Bool} {H : List Blk} {K : A → Dl → Prop} (hS : S 88 = false) (hK : K (.bool (hasF ns.length t)) (.news [])) : @WCall' Go.Proofs.Tryd.prog S 88 [aP ns, i6 t] H ⟨K⟩ :=
  WCall_pure hS (spec_l1Has_c ns t hl) (by simp) (by simp) (by simp) hK
theorem spec_l1Has_k {ns : List Nd} {t : Int} (hl : ns.length < 9223372036854775807) {S : FuncId → Bool} {H : List Blk} {K : A → Dl → Prop} {zs : List A} (hS : S 88 = false) (hv : viewL (viewA 8 H) zs = some [aP ns, i6 t]) (ho : noOwns zs = true ∨ nosl (.bool (hasF ns.length t)) = true) (hK : K (.bool (hasF ns.length t)) (.news [])) : @WCall' Go.Proofs.Tryd.prog S 88 zs H ⟨K⟩ :=
  WCall_pure hS (spec_l1Has_c ns t hl) hv ho (by simp) hK
theorem impl_Pool_isTerm_c (ns : List Nd) (r : List A) (t : Int) (hl : ns.length < 9223372036854775807) : T 95 [.pt (.sl ns.length (enc ns) :: r), i6 t] [] (.bool (hasF ns.length t)) ([]) := by
  refine semT' (S := S0) hm impl_Pool_isTerm_ok (Nat.le_of_ble_eq_true rfl) ?_
  unfold impl_Pool_isTerm; dsimp only
  simp [wrap_len hl]
  refine impl_inRange_call rfl ?_; simp
  exact LeV.ro rfl rfl (by simp [hasF])
structure St.fit (s : St) : Prop where
  p : s.pool.length < 9223372036854775807
  k : s.know.length < 9223372036854775807
  t : s.sent.length < 9223372036854775807
  g : s.got.length < 9223372036854775807
def streamF (s : St) : Bool := kpF s.pool s.know && linkF s.pool.length s.out && linkF s.pool.length s.inn && termsF s.pool.length s.sent && termsF s.pool.length s.got
end Go.Proofs.YtmlfacjgfjmdeaaDoor.C

set_option linter.unusedVariables false
set_option linter.unusedSimpArgs false
namespace Go.Proofs.YtmlfacjgfjmdeaaDoor.C
open Go.Sym Go.Proofs.YtmlfacjgfjmdeaaDoor.I
@[simp] theorem enc_take3 (ns : List Nd) (a b c : A) : (enc ns ++ [a, b, c]).take ((ns.length + 1) * 3) = enc ns ++ [a, b, c] := List.take_of_length_le (by simp; omega)
@[simp] theorem enc_view3 (n : Nat) (H : List Blk) (ns : List Nd) (a b c : Int) : viewL (viewA (n + 1) H) (enc ns ++ [i6 a, i6 b, i6 c]) = some (enc ns ++ [i6 a, i6 b, i6 c]) := viewL_scals _ (by simp [scals_app, scals, scal])
def orE (ns : List Nd) : List Nd := if poolF ns then ns else []
theorem poolF_len {ns : List Nd} (h : poolF ns = true) : ns.length ≤ 500 := by
  unfold poolF at h
  simp at h
  exact h.1
theorem okFrom_all {ns : List Nd} (h : poolF ns = true) {j : Nat} (hj : j < ns.length) : rightF ns[j] j = true ∧ ns[j] ∉ ns.take j := by
  simp only [poolF, okFrom, Bool.and_eq_true, List.all_eq_true] at h
  have := h.2 j (by simp [List.mem_range']; omega)
  simp [hj] at this
  refine ⟨this.1, ?_⟩
  have := (findF_first ns j 0 hj (Int.le_refl 0)).1 (by rw [Int.zero_add]; exact this.2)
  exact this
theorem rightF_mono {n : Nd} {a b : Int} (h : rightF n a = true) (hab : a ≤ b) : rightF n b = true := by
  unfold rightF at h ⊢
  split
  · rename_i h0; rw [if_pos h0] at h; exact h
  · rename_i h0
    rw [if_neg h0] at h
    split
    · rename_i h1
      rw [if_pos h1] at h
      simp [inF] at h ⊢
      exact ⟨⟨h.1.1, by omega⟩, h.2⟩
    · rename_i h1
      rw [if_neg h1] at h
      split
      · rename_i h2
        rw [if_pos h2] at h
        simp [inF] at h ⊢
        exact ⟨⟨⟨h.1.1.1, by omega⟩, ⟨h.1.2.1, by omega⟩⟩, h.2⟩
      · rename_i h2; rw [if_neg h2] at h; cases h
theorem findF_at : ∀ (ns : List Nd) (n : Nd) (i : Nat), 0 ≤ findF ns n i → ∃ j : Nat, ∃ h : j < ns.length, findF ns n i = i + j ∧ ns[j] = n
  | [], n, i, h => by simp [findF] at h
  | x :: xs, n, i, h => by
    unfold findF at h ⊢
    by_cases e : x = n
    · rw [if_pos e]; exact ⟨0, by simp, by simp, by simpa using e⟩
    · rw [if_neg e] at h ⊢
      obtain ⟨j, h1, h2, h3⟩ := findF_at xs n (i + 1) (by simpa using h)
      exact ⟨j + 1, by simp; omega, by push_cast at h2 ⊢; omega, by simpa using h3⟩
theorem find_right {ns : List Nd} {n : Nd} (hp : poolF ns = true) (h : 0 ≤ findF ns n 0) : rightF n ns.length = true := by
  obtain ⟨j, hj, _, rfl⟩ := findF_at ns n 0 h
  exact rightF_mono (okFrom_all hp hj).1 (by omega)
theorem findF_none {ns : List Nd} {n : Nd} (i : Int) (hi : 0 ≤ i) (h : n ∉ ns) : findF ns n i = -1 := by
  induction ns generalizing i with
  | nil => rfl
  | cons x xs ih =>
    simp only [List.mem_cons, not_or] at h
    unfold findF
    rw [if_neg (fun e => h.1 e.symm)]
    exact ih (i + 1) (by omega) h.2
theorem findF_mem {ns : List Nd} {n : Nd} (h : n ∈ ns) : 0 ≤ findF ns n 0 := by
  have : ∀ (ns : List Nd) (i : Int), 0 ≤ i → n ∈ ns → 0 ≤ findF ns n i := by
    intro ns
    induction ns with
    | nil => intro i _ h; cases h
    | cons x xs ih =>
      intro i hi h
      unfold findF
      by_cases e : x = n
      · rw [if_pos e]; exact hi
      · rw [if_neg e]; exact ih (i + 1) (by omega) (by rcases List.mem_cons.1 h with h | h; exact absurd h.symm e; exact h)
  exact this ns 0 (Int.le_refl 0) h
theorem addF_ge (ns : List Nd) (n : Nd) : ns.length ≤ (addF ns n).1.length := by
  unfold addF
  split
  · exact Nat.le_refl _
  · split
    · exact Nat.le_refl _
    · split
      · exact Nat.le_refl _
      · simp
theorem addF_pool {ns : List Nd} (n : Nd) (hp : poolF ns = true) : poolF (addF ns n).1 = true := by
  unfold addF
  split
  · exact hp
  · rename_i h1
    split
    · exact hp
    · rename_i h2
      split
      · exact hp
      · rename_i h3
        generalize normN n = m at h1 h2 h3 ⊢
        have hm : m ∉ ns := fun hm => h2 (findF_mem hm)
        have hr : rightF m ns.length = true := by simpa using h1
        have hl := poolF_len hp
        simp only [poolF, okFrom, Bool.and_eq_true, List.all_eq_true, decide_eq_true_eq]
        refine ⟨by simp; omega, fun j hj => ?_⟩
        have hj' : j < ns.length + 1 := by simp [List.mem_range'] at hj; omega
        have key : ∀ (hjl : j < (ns ++ [m]).length), rightF (ns ++ [m])[j] j = true ∧ (ns ++ [m])[j] ∉ (ns ++ [m]).take j := by
          intro hjl
          rcases Nat.lt_or_ge j ns.length with h | h
          · rw [List.getElem_append_left h, List.take_append_of_le_length (by omega)]
            exact okFrom_all hp h
          · have : j = ns.length := by omega
            subst this
            simp [hr, hm]
        obtain ⟨k1, k2⟩ := key (by simp; omega)
        have h5 : (ns ++ [m]).getD j ⟨0, 0, 0⟩ = (ns ++ [m])[j]'(by simp; omega) := by simp [List.getD_eq_getElem?_getD, List.getElem?_eq_getElem (show j < (ns ++ [m]).length by simp; omega)]
        have h6 := (findF_first (ns ++ [m]) j 0 (by simp; omega) (Int.le_refl 0)).2 k2
        rw [Int.zero_add] at h6
        rw [h5, k1, h6]
        simp
theorem spec_l1Add_c (ns : List Nd) (n : Nd) (hp : poolF ns = true) : T 91 [aP ns, aN n] [] (.tup [aP (addF ns n).1, i6 (addF ns n).2]) ([]) := by
  refine semT' (S := S0) hm spec_l1Add_ok (Nat.le_of_ble_eq_true rfl) ?_
  unfold spec_l1Add; dsimp only
  have hl := poolF_len hp
  have hw : IntKind.i64.wrap (ns.length : Int) = ns.length := wrap64 (by omega) (by omega)
  have fin : ∀ m : Nd, normN n = m → (addF ns n) = if 0 ≤ findF ns m 0 then (ns, findF ns m 0) else if rightF m ns.length = false then (ns, -1) else if 500 ≤ ns.length then (ns, -1) else (ns ++ [m], (ns.length : Int)) := by
    intro m hm
    unfold addF
    rw [hm]
    by_cases h1 : 0 ≤ findF ns m 0
    · rw [if_neg (by rw [find_right hp h1]; simp), if_pos h1, if_pos h1]
    · rw [if_neg h1, if_neg h1]
  simp
  refine br_intro' (fun hk => ?_) (fun hk => ?_) <;> simp at hk <;> simp [hk]
  · refine br_intro' (fun hb => ?_) (fun hb => ?_) <;> simp at hb <;> simp [hb]
    · have hm : normN n = ⟨8, n.b, n.a⟩ := by simp [normN, hk, hb]; omega
      refine spec_l1Find_call (ns := ns) (n := ⟨8,n.b,n.a⟩) (by omega) rfl ?_; simp
      refine br_intro' (fun f => ?_) (fun f => ?_) <;> (have f0 := f) <;> simp at f <;> simp [f]
      · exact LeV.ro rfl rfl (by rw [fin _ hm, if_pos f]; simp)
      · refine spec_l1Right_call (n := ⟨8,n.b,n.a⟩) (many := ns.length) (by omega) (by omega) rfl ?_; simp
        refine br_intro' (fun g => ?_) (fun g => ?_) <;> simp [g]
        · refine br_intro' (fun q => ?_) (fun q => ?_) <;> simp at q <;> simp [q]
          · exact LeV.ro rfl rfl (by rw [fin _ hm, if_neg (by omega), if_neg (by rw [g]; simp), if_pos (by omega)]; simp)
          · refine spec_l1Copy_k (ns := ns) (by omega) rfl (by simp) (by simp [noslBlks]) ?_; simp [shiftB]
            refine ck_intro' (by omega) ?_; simp
            first | (refine ck_intro' (by kernel_rfl) ?_; try simp) | skip
            have h33 : (ns.length + 1) * 3 ≤ ns.length * 3 + 3 := by omega
            exact LeV.ro rfl rfl (by rw [fin _ hm, if_neg (by omega), if_neg (by rw [g]; simp), if_neg (by omega)]; simp [enc_snoc, h33])
        · exact LeV.ro rfl rfl (by rw [fin _ hm, if_neg (by omega), if_pos g]; simp)
    · have hm : normN n = ⟨8, n.a, n.b⟩ := by
        simp only [normN, hk, if_true]
        rw [if_neg (by omega)]
        by_cases e : n.a < n.b
        · rw [if_pos e]
        · rw [if_neg e]; congr 1; omega
      refine spec_l1Find_call (ns := ns) (n := ⟨8,n.a,n.b⟩) (by omega) rfl ?_; simp
      refine br_intro' (fun f => ?_) (fun f => ?_) <;> (have f0 := f) <;> simp at f <;> simp [f]
      · exact LeV.ro rfl rfl (by rw [fin _ hm, if_pos f]; simp)
      · refine spec_l1Right_call (n := ⟨8,n.a,n.b⟩) (many := ns.length) (by omega) (by omega) rfl ?_; simp
        refine br_intro' (fun g => ?_) (fun g => ?_) <;> simp [g]
        · refine br_intro' (fun q => ?_) (fun q => ?_) <;> simp at q <;> simp [q]
          · exact LeV.ro rfl rfl (by rw [fin _ hm, if_neg (by omega), if_neg (by rw [g]; simp), if_pos (by omega)]; simp)
          · refine spec_l1Copy_k (ns := ns) (by omega) rfl (by simp) (by simp [noslBlks]) ?_; simp [shiftB]
            refine ck_intro' (by omega) ?_; simp
            first | (refine ck_intro' (by kernel_rfl) ?_; try simp) | skip
            have h33 : (ns.length + 1) * 3 ≤ ns.length * 3 + 3 := by omega
            exact LeV.ro rfl rfl (by rw [fin _ hm, if_neg (by omega), if_neg (by rw [g]; simp), if_neg (by omega)]; simp [enc_snoc, h33])
        · exact LeV.ro rfl rfl (by rw [fin _ hm, if_neg (by omega), if_pos g]; simp)
  · have hm : normN n = ⟨n.k, n.a, n.b⟩ := by simp [normN, hk]
    refine spec_l1Find_call (ns := ns) (n := ⟨n.k,n.a,n.b⟩) (by omega) rfl ?_; simp
    refine br_intro' (fun f => ?_) (fun f => ?_) <;> (have f0 := f) <;> simp at f <;> simp [f]
    · exact LeV.ro rfl rfl (by rw [fin _ hm, if_pos f]; simp)
    · refine spec_l1Right_call (n := ⟨n.k,n.a,n.b⟩) (many := ns.length) (by omega) (by omega) rfl ?_; simp
      refine br_intro' (fun g => ?_) (fun g => ?_) <;> simp [g]
      · refine br_intro' (fun q => ?_) (fun q => ?_) <;> simp at q <;> simp [q]
        · exact LeV.ro rfl rfl (by rw [fin _ hm, if_neg (by omega), if_neg (by rw [g]; simp), if_pos (by omega)]; simp)
        · refine spec_l1Copy_k (ns := ns) (by omega) rfl (by simp) (by simp [noslBlks]) ?_; simp [shiftB]
          refine ck_intro' (by omega) ?_; simp
          first | (refine ck_intro' (by kernel_rfl) ?_; try simp) | skip
          have h33 : (ns.length + 1) * 3 ≤ ns.length * 3 + 3 := by omega
          exact LeV.ro rfl rfl (by rw [fin _ hm, if_neg (by omega), if_neg (by rw [g]; simp), if_neg (by omega)]; simp [enc_snoc, h33])
      · exact LeV.ro rfl rfl (by rw [fin _ hm, if_neg (by omega), if_pos g]; simp)
theorem spec_l1Add_call {ns : List Nd} {n : Nd} (hp : poolF ns = true) {S : FuncId → Bool} {H : List Blk} {K : A → Dl → Prop} (hS : S 91 = false) (hK : K (.tup [aP (addF ns n).1, i6 (addF ns n).2]) (.news [])) : @WCall' Go.Proofs.Tryd.prog S 91 [aP ns, aN n] H ⟨K⟩ :=
  WCall_pure hS (spec_l1Add_c ns n hp) (by simp) (by simp) (by simp) hK
theorem spec_l1Add_k {ns : List Nd} {n : Nd} (hp : poolF ns = true) {S : FuncId → Bool} {H : List Blk} {K : A → Dl → Prop} {zs : List A} (hS : S 91 = false) (hv : viewL (viewA 8 H) zs = some [aP ns, aN n]) (ho : noOwns zs = true ∨ nosl (.tup [aP (addF ns n).1, i6 (addF ns n).2]) = true) (hK : K (.tup [aP (addF ns n).1, i6 (addF ns n).2]) (.news [])) : @WCall' Go.Proofs.Tryd.prog S 91 zs H ⟨K⟩ :=
  WCall_pure hS (spec_l1Add_c ns n hp) hv ho (by simp) hK
theorem spec_l2Name_c (ns : List Nd) (x : Int) (hp : poolF ns = true) : T 89 [aP ns, i6 x] [] (.tup [aP (addF ns ⟨1, x, 0⟩).1, i6 (addF ns ⟨1, x, 0⟩).2]) ([]) := by
  refine semT' (S := S0) hm spec_l2Name_ok (Nat.le_of_ble_eq_true rfl) ?_
  unfold spec_l2Name; dsimp only
  simp
  refine spec_l1Add_call (n := ⟨1, x, 0⟩) hp rfl ?_; simp
  exact LeV.ro rfl rfl (by simp)
theorem spec_l2Name_call {ns : List Nd} {x : Int} (hp : poolF ns = true) {S : FuncId → Bool} {H : List Blk} {K : A → Dl → Prop} (hS : S 89 = false) (hK : K (.tup [aP (addF ns ⟨1, x, 0⟩).1, i6 (addF ns ⟨1, x, 0⟩).2]) (.news [])) : @WCall' Go.Proofs.Tryd.prog S 89 [aP ns, i6 x] H ⟨K⟩ :=
  WCall_pure hS (spec_l2Name_c ns x hp) (by simp) (by simp) (by simp) hK
theorem spec_l2Name_k {ns : List Nd} {x : Int} (hp : poolF ns = true) {S : FuncId → Bool} {H : List Blk} {K : A → Dl → Prop} {zs : List A} (hS : S 89 = false) (hv : viewL (viewA 8 H) zs = some [aP ns, i6 x]) (ho : noOwns zs = true ∨ nosl (.tup [aP (addF ns ⟨1, x, 0⟩).1, i6 (addF ns ⟨1, x, 0⟩).2]) = true) (hK : K (.tup [aP (addF ns ⟨1, x, 0⟩).1, i6 (addF ns ⟨1, x, 0⟩).2]) (.news [])) : @WCall' Go.Proofs.Tryd.prog S 89 zs H ⟨K⟩ :=
  WCall_pure hS (spec_l2Name_c ns x hp) hv ho (by simp) hK
/-- What turning a link comes to. -/
def turnF (ns : List Nd) (l : Lk) : List Nd × Lk × Bool :=
  if l.over ∨ l.epoch = 20 then (ns, l, false)
  else
    let p := addF ns ⟨1, 7, 0⟩
    if p.2 < 0 then (ns, l, false) else
    let q := addF p.1 ⟨6, l.key, p.2⟩
    if q.2 < 0 then (ns, l, false) else (q.1, ⟨q.2, l.epoch + 1, 0, false⟩, true)
theorem turnF_len (ns : List Nd) (l : Lk) (h : ns.length ≤ 500) : (turnF ns l).1.length ≤ 500 := by
  unfold turnF
  split
  · exact h
  · dsimp only
    split
    · exact h
    · split
      · exact h
      · exact addF_len _ _ (addF_len _ _ h)
/-- What LinkTurn answers. -/
def linkTurnF (ns : List Nd) (l : Lk) : List Nd × Lk × Bool := if lkF ns l then turnF ns l else (orE ns, l, false)
end Go.Proofs.YtmlfacjgfjmdeaaDoor.C

set_option linter.unusedVariables false
set_option linter.unusedSimpArgs false
namespace Go.Proofs.YtmlfacjgfjmdeaaDoor.C
open Go.Sym Go.Proofs.YtmlfacjgfjmdeaaDoor.I
def In64' (n : Int) : Prop := -9223372036854775808 ≤ n ∧ n < 9223372036854775808
def bytes (bs : List Int) : List A := bs.map fun n => .int .u8 n
@[simp] theorem bytes_len (xs : List Int) : (bytes xs).length = xs.length := List.length_map ..
@[simp] theorem bytes_scals (xs : List Int) : scals (bytes xs) = true := scals_map _ (fun _ => rfl) xs
@[simp] theorem bytes_view (n : Nat) (H : List Blk) (xs : List Int) : viewL (viewA (n + 1) H) (bytes xs) = some (bytes xs) := viewL_scals _ (bytes_scals xs)
@[simp] theorem bytes_noOwns (xs : List Int) : noOwns (bytes xs) = true := noOwns_scals _ (bytes_scals xs)
@[simp] theorem bytes_shift (n : Nat) (xs : List Int) : shiftAs n (bytes xs) = bytes xs := shiftAs_scals _ (bytes_scals xs)
@[simp] theorem bytes_tells (H H' : List Blk) (g : List (Option Nat)) (xs : List Int) : Tells H H' g (bytes xs) (bytes xs) := Tells_scals _ (bytes_scals xs)
@[simp] theorem bytes_inAs (m : Nat) (xs : List Int) : inAs m (bytes xs) = true := inAs_scals _ (bytes_scals xs)
@[simp] theorem bytes_get (xs : List Int) (j : Nat) (h : j < (bytes xs).length) : (bytes xs)[j] = .int .u8 (xs[j]'(by simpa using h)) := by simp [bytes]
abbrev aB (bs : List Int) : A := .sl bs.length (bytes bs)
/-- A cursor: how far it is, and its number. -/
structure Cu where
  i : Nat
  h : Int
def cur (H : List Blk) (cb : Nat) (bs : List Int) (s : Cu) : List Blk := H.set cb ⟨0, false, 1, [aB bs, i6 s.i, i6 s.h], none⟩
@[simp] theorem cur_len (H : List Blk) (cb : Nat) (bs : List Int) (s : Cu) : (cur H cb bs s).length = H.length := by simp [cur]
@[simp] theorem cur_cur (H : List Blk) (cb : Nat) (bs : List Int) (s s' : Cu) : cur (cur H cb bs s) cb bs s' = cur H cb bs s' := by simp [cur]
theorem cur_app {H T : List Blk} {cb : Nat} (h : cb < H.length) (bs : List Int) (s : Cu) : cur (H ++ T) cb bs s = cur H cb bs s ++ T := set_left h _
theorem cur_at {H : List Blk} {cb : Nat} (h : cb < H.length) (bs : List Int) (s : Cu) : (cur H cb bs s)[cb]? = some ⟨0, false, 1, [aB bs, i6 s.i, i6 s.h], none⟩ := by simp [cur, h]
theorem cur_call {f : FuncId} {S : FuncId → Bool} {G : List Blk} {K : A → Dl → Prop} (hS : S f = true) (cb : Nat) (bs : List Int) (s s' : Cu) {zs : List A} {r : A} (hG : cur G cb bs s = G)
    (hf : T f zs (cur G cb bs s) r (cur G cb bs s')) (hK : K r (.full [cb] (cur G cb bs s'))) : @WCall' Go.Proofs.Tryd.prog S f zs G ⟨K⟩ := by
  rw [hG] at hf
  refine WCall_t' hS [cb] hf (by simp) (fun q hq _ => ?_) hK
  simp at hq
  exact List.getElem?_set_ne (Ne.symm hq)
@[simp] theorem cur_set (H : List Blk) (cb : Nat) (bs : List Int) (s : Cu) (i : Nat) (h : Int) : (cur H cb bs s).set cb ⟨0, false, 1, [aB bs, i6 i, i6 h], none⟩ = cur H cb bs ⟨i, h⟩ := by simp [cur]
@[simp] theorem cur_set1 (H : List Blk) (cb : Nat) (bs : List Int) (s : Cu) (i : Nat) (h : Int) : (cur H cb bs s).set cb ⟨0, false, 1, [aB bs, i6 ((i : Int) + 1), i6 h], none⟩ = cur H cb bs ⟨i + 1, h⟩ := by simp [cur]
def and255 (x : Int) : Int := IntKind.i64.wrap ((x % 2 ^ IntKind.i64.bits).toNat &&& 255 % 2 ^ IntKind.i64.bits : Nat)
theorem and255_in (x : Int) : 0 ≤ and255 x ∧ and255 x ≤ 255 := by
  have h : (x % 2 ^ IntKind.i64.bits).toNat &&& 255 % 2 ^ IntKind.i64.bits ≤ 255 := Nat.le_trans Nat.and_le_right (by decide)
  unfold and255
  rw [wrap64 (by omega) (by omega)]
  omega
def stepH (h : Int) : Int := IntKind.i64.wrap (IntKind.i64.wrap (h * 6364136223846793005) + 1442695040888963407)
def xorF (h : Int) : Int := IntKind.i64.wrap ((h.fdiv (2 ^ min 33 IntKind.i64.bits) % 2 ^ IntKind.i64.bits).toNat ^^^ (h.fdiv (2 ^ min 45 IntKind.i64.bits) % 2 ^ IntKind.i64.bits).toNat : Nat)
def byteF (bs : List Int) (s : Cu) : Int × Cu :=
  if s.i < bs.length then (and255 (IntKind.i64.wrap (and255 (xorF (stepH s.h)) + IntKind.i64.wrap (bs.getD s.i 0))), ⟨s.i + 1, stepH s.h⟩) else (and255 (xorF (stepH s.h)), ⟨s.i, stepH s.h⟩)
theorem byteF_in (bs : List Int) (s : Cu) : 0 ≤ (byteF bs s).1 ∧ (byteF bs s).1 ≤ 255 := by
  unfold byteF
  split
  · exact and255_in _
  · exact and255_in _
theorem spec_l1Byte_m (H : List Blk) (cb : Nat) (bs : List Int) (s : Cu) (hc : cb < H.length) (hb : bs.length < 9223372036854775807) : T 83 [.ptr cb 0 0] (cur H cb bs s) (i6 (byteF bs s).1) (cur H cb bs (byteF bs s).2) := by
  refine semT' (S := S0) hm spec_l1Byte_ok (Nat.le_of_ble_eq_true rfl) ?_
  unfold spec_l1Byte; dsimp only
  have gc := fun s => cur_at hc bs s
  have hw : s.i < bs.length → IntKind.i64.wrap ((s.i : Int) + 1) = s.i + 1 := fun g => wrap64 (by omega) (by omega)
  simp [gc]
  first | (refine ck_intro' (by kernel_rfl) ?_; try simp [gc]) | skip
  first | (refine ck_intro' (by kernel_rfl) ?_; try simp [gc]) | skip
  refine br_intro' (fun h => ?_) (fun h => ?_) <;> (have h0 := h) <;> (try simp at h) <;> try simp [h0, h, gc]
  · have h9 := h
    first | (refine ck_intro' (by kernel_rfl) ?_; try simp [gc, hw h9, h9]) | skip
    have e : byteF bs s = (and255 (IntKind.i64.wrap (and255 (xorF (stepH s.h)) + IntKind.i64.wrap bs[s.i])), ⟨s.i + 1, stepH s.h⟩) := by simp only [byteF, if_pos h9]; simp [h9]
    rw [e]
    exact LeV.refl _ _ _
  · have e : byteF bs s = (and255 (xorF (stepH s.h)), ⟨s.i, stepH s.h⟩) := if_neg (by omega)
    rw [e]
    exact LeV.refl _ _ _
def bigF (x y z w : Int) : Int := x * 16777216 + y * 65536 + z * 256 + w
def belowF (bs : List Int) (s : Cu) (n : Int) : Int × Cu :=
  if n ≤ 0 then (0, s)
  else if n ≤ 256 then ((byteF bs s).1.tmod n, (byteF bs s).2)
  else
    ((bigF (byteF bs s).1 (byteF bs (byteF bs s).2).1 (byteF bs (byteF bs (byteF bs s).2).2).1 (byteF bs (byteF bs (byteF bs (byteF bs s).2).2).2).1).tmod n, (byteF bs (byteF bs (byteF bs (byteF bs s).2).2).2).2)
theorem spec_l1Below_m (H : List Blk) (cb : Nat) (bs : List Int) (s : Cu) (n : Int) (hc : cb < H.length) (hb : bs.length < 9223372036854775807) : T 55 [.ptr cb 0 0, i6 n] (cur H cb bs s) (i6 (belowF bs s n).1) (cur H cb bs (belowF bs s n).2) := by
  refine semT' (S := (fun f => [83].contains f)) hm spec_l1Below_ok (Nat.le_of_ble_eq_true rfl) ?_
  unfold spec_l1Below; dsimp only
  simp
  refine br_intro' (fun h => ?_) (fun h => ?_) <;> simp at h <;> simp [h]
  · rw [show belowF bs s n = (0, s) from if_pos h]
    exact LeV.refl _ _ _
  · have h' : ¬ n ≤ 0 := by omega
    refine br_intro' (fun g => ?_) (fun g => ?_) <;> simp at g <;> simp [g]
    · rw [show belowF bs s n = ((byteF bs s).1.tmod n, (byteF bs s).2) by simp [belowF, h', g]]
      refine cur_call rfl cb bs s (byteF bs s).2 (cur_cur ..) (by rw [cur_cur, cur_cur]; exact spec_l1Byte_m H cb bs s hc hb) ?_; simp
      refine ck_intro' (by omega) ?_; simp
      exact LeV.refl _ _ _
    · have e : belowF bs s n = ((bigF (byteF bs s).1 (byteF bs (byteF bs s).2).1 (byteF bs (byteF bs (byteF bs s).2).2).1 (byteF bs (byteF bs (byteF bs (byteF bs s).2).2).2).1).tmod n, (byteF bs (byteF bs (byteF bs (byteF bs s).2).2).2).2) := by
        have g' : ¬ n ≤ 256 := by omega
        simp [belowF, h', g']
      rw [e]
      have b1 := byteF_in bs s
      have b2 := byteF_in bs (byteF bs s).2
      have b3 := byteF_in bs (byteF bs (byteF bs s).2).2
      have b4 := byteF_in bs (byteF bs (byteF bs (byteF bs s).2).2).2
      refine cur_call rfl cb bs s (byteF bs s).2 (cur_cur ..) (by rw [cur_cur, cur_cur]; exact spec_l1Byte_m H cb bs s hc hb) ?_; simp
      generalize byteF bs s = t1 at b1 b2 b3 b4 ⊢
      refine cur_call rfl cb bs t1.2 (byteF bs t1.2).2 (cur_cur ..) (by rw [cur_cur, cur_cur]; exact spec_l1Byte_m H cb bs t1.2 hc hb) ?_; simp
      generalize byteF bs t1.2 = t2 at b2 b3 b4 ⊢
      refine cur_call rfl cb bs t2.2 (byteF bs t2.2).2 (cur_cur ..) (by rw [cur_cur, cur_cur]; exact spec_l1Byte_m H cb bs t2.2 hc hb) ?_; simp
      generalize byteF bs t2.2 = t3 at b3 b4 ⊢
      refine cur_call rfl cb bs t3.2 (byteF bs t3.2).2 (cur_cur ..) (by rw [cur_cur, cur_cur]; exact spec_l1Byte_m H cb bs t3.2 hc hb) ?_; simp
      generalize byteF bs t3.2 = t4 at b4 ⊢
      have w1 : IntKind.i64.wrap (t1.1 * 16777216) = t1.1 * 16777216 := wrap64 (by omega) (by omega)
      have w2 : IntKind.i64.wrap (t2.1 * 65536) = t2.1 * 65536 := wrap64 (by omega) (by omega)
      have w3 : IntKind.i64.wrap (t3.1 * 256) = t3.1 * 256 := wrap64 (by omega) (by omega)
      have w4 : IntKind.i64.wrap (t1.1 * 16777216 + t2.1 * 65536) = t1.1 * 16777216 + t2.1 * 65536 := wrap64 (by omega) (by omega)
      have w5 : IntKind.i64.wrap (t1.1 * 16777216 + t2.1 * 65536 + t3.1 * 256) = t1.1 * 16777216 + t2.1 * 65536 + t3.1 * 256 := wrap64 (by omega) (by omega)
      have w6 : IntKind.i64.wrap (t1.1 * 16777216 + t2.1 * 65536 + t3.1 * 256 + t4.1) = bigF t1.1 t2.1 t3.1 t4.1 := wrap64 (by omega) (by omega)
      rw [w1, w2, w3, w4, w5, w6]
      refine ck_intro' (by omega) ?_; simp
      exact LeV.refl _ _ _
theorem tmod_in {x n : Int} (h : 0 ≤ x) (hn : 0 < n) : 0 ≤ x.tmod n ∧ x.tmod n < n := ⟨Int.tmod_nonneg _ h, Int.tmod_lt_of_pos _ hn⟩
theorem belowF_in (bs : List Int) (s : Cu) (n : Int) : 0 ≤ (belowF bs s n).1 ∧ (0 < n → (belowF bs s n).1 < n) ∧ (n ≤ 0 → (belowF bs s n).1 = 0) := by
  unfold belowF
  split
  · exact ⟨by simp, fun h => by omega, fun _ => rfl⟩
  · split
    · have := tmod_in (x := (byteF bs s).1) (n := n) (byteF_in bs s).1 (by omega)
      exact ⟨this.1, fun _ => this.2, fun h => by omega⟩
    · have b1 := byteF_in bs s
      have b2 := byteF_in bs (byteF bs s).2
      have b3 := byteF_in bs (byteF bs (byteF bs s).2).2
      have b4 := byteF_in bs (byteF bs (byteF bs (byteF bs s).2).2).2
      have := tmod_in (x := bigF (byteF bs s).1 (byteF bs (byteF bs s).2).1 (byteF bs (byteF bs (byteF bs s).2).2).1 (byteF bs (byteF bs (byteF bs (byteF bs s).2).2).2).1) (n := n) (by unfold bigF; omega) (by omega)
      exact ⟨this.1, fun _ => this.2, fun h => by omega⟩
def onceF (bs : List Int) (s : Cu) (n : Int) : Bool × Cu := (decide ((belowF bs s n).1 = 0), (belowF bs s n).2)
def pickF (bs : List Int) (s : Cu) (xs : List Int) : Int × Cu := (xs.getD (belowF bs s xs.length).1.toNat 0, (belowF bs s xs.length).2)
def drawF (bs : List Int) (s : Cu) (n : Int) : Int × Cu :=
  if 6 < n then
    if (onceF bs s 2).1 then (n - 1 - (belowF bs (onceF bs s 2).2 6).1, (belowF bs (onceF bs s 2).2 6).2) else belowF bs (onceF bs s 2).2 n
  else belowF bs s n
theorem drawF_in (bs : List Int) (s : Cu) (n : Int) : 0 ≤ (drawF bs s n).1 ∧ (0 < n → (drawF bs s n).1 < n) ∧ (n ≤ 0 → (drawF bs s n).1 = 0) := by
  unfold drawF
  split
  · split
    · have := belowF_in bs (onceF bs s 2).2 6
      have h2 := this.2.1 (by omega)
      refine ⟨by simp; omega, fun _ => by simp; omega, fun _ => by omega⟩
    · exact belowF_in _ _ _
  · exact belowF_in _ _ _
end Go.Proofs.YtmlfacjgfjmdeaaDoor.C

set_option linter.unusedVariables false
set_option linter.unusedSimpArgs false
namespace Go.Proofs.YtmlfacjgfjmdeaaDoor.C
open Go.Sym Go.Proofs.YtmlfacjgfjmdeaaDoor.I
theorem cur_closed {H : List Blk} {cb : Nat} (bs : List Int) (s : Cu) {n : Nat} (h : Closed1 n H = true) : Closed1 n (cur H cb bs s) = true := Closed1_set (by simp [inAs, inA, inAs_scals _ (bytes_scals bs)]) _ _ h
theorem cur_lt {H T : List Blk} {cb : Nat} (bs : List Int) (s : Cu) (hc : cb < H.length) : cb < (cur H cb bs s ++ T).length := by simp; omega
theorem cur_mid {H T : List Blk} {cb : Nat} {bs : List Int} {s s' : Cu} (hc : cb < H.length) : cur (cur H cb bs s ++ T) cb bs s' = cur H cb bs s' ++ T := by rw [cur_app (by simpa using hc), cur_cur]
/-- A call that moves the cursor, over rows of its caller's own. -/
theorem cur_call' {f : FuncId} {S : FuncId → Bool} {H T : List Blk} {K : A → Dl → Prop} (hS : S f = true) (cb : Nat) (bs : List Int) (s s' : Cu) {zs : List A} {r : A} (hc : cb < H.length)
    (hf : SemT Go.Proofs.Tryd.prog f zs (cur (cur H cb bs s ++ T) cb bs s) r (cur (cur H cb bs s ++ T) cb bs s')) (hK : K r (.full [cb] (cur H cb bs s' ++ T))) : @WCall' Go.Proofs.Tryd.prog S f zs (cur H cb bs s ++ T) ⟨K⟩ :=
  cur_call hS cb bs s s' (cur_mid hc) hf (by rw [cur_mid hc]; exact hK)
theorem LeV.trans {B : Nat} {r r' r'' : A} {H H' H'' : List Blk} (h : LeV B r H r' H') (g : LeV B r' H' r'' H'') : LeV B r H r'' H'' := by
  intro c0 c hB hr hH hs
  obtain ⟨c1, w1, h1, r1, s1, v1⟩ := h c0 c hB hr hH hs
  obtain ⟨c2, w2, h2, r2, s2, v2⟩ := g c0 c1 hB r1 h1 s1
  exact ⟨c2, w2.trans w1, h2, r2, s2, fun v hv => v2 v (v1 v hv)⟩
theorem LeV.nilsl (B : Nat) (H : List Blk) : LeV B (.agg [.nil]) H (.agg [.sl 0 []]) H := by
  intro c0 c hB hr hH hs
  refine ⟨c, rfl, hH, hr, hs, fun v hv => ?_⟩
  simp only [VR, VRs] at hv ⊢
  obtain ⟨vs, rfl, u, us, e, ⟨a, rfl⟩, rfl⟩ := hv
  exact ⟨_, rfl, _, _, e, ⟨a, 0, rfl, Nat.le_refl _, .inl trivial⟩, rfl⟩
/-- A slice over a row at the end, told as one that is only read, its row left out. -/
theorem VR_frz {c : Cx} {H1 T : List Blk} (hr : RelH c) (hH : c.H = fun b => (H1 ++ T)[b]?) {b m : Nat} {k : Blk} (hb : H1.length ≤ b) (hk : (H1 ++ T)[b]? = some k) (hsc : scals k.cs = true) (hm : m * k.esz ≤ k.cs.length) {v : Value} (h : VR c (.ref b k.v 0 m) v) :
    VR (c.cut H1.length) (.sl m (k.cs.take (m * k.esz))) v := by
  simp only [VR] at h ⊢
  obtain ⟨k', a, cap, g1, g2, rfl, gn, g4⟩ := h
  rw [hH] at g1
  simp only [hk, Option.some.injEq] at g1
  subst g1
  have hck : c.H b = some k := by rw [hH]; exact hk
  refine ⟨a, cap, rfl, gn.1, ?_⟩
  rcases g4 rfl with g4 | ⟨g0, rfl, g5⟩
  · left; omega
  · right
    obtain ⟨vs, i1, i2⟩ := rowVals hr hck
    refine ⟨c.at b 0, vs.take (m * k.esz), rfl, rfl, hr.lt b k hck g0, ?_, ?_, VRs.cut _ _ (inAs_scals _ (scals_take _ _ hsc)) (i2.take _)⟩
    · rintro (hx | ⟨d, kd, h1, h2, h3⟩)
      · exact hr.nx b k hck g0 hx
      · simp only [Cx.cut] at h1 h3
        split at h1
        · exact hr.uni d b kd k h1 hck h2 g0 (by omega) h3
        · cases h1
    · intro j u hj
      have := (i1.take (m * k.esz)) j u hj
      show c.w.cell? _ = some u
      simpa [Cx.at] using this
theorem LeV.frz {B : Nat} {H1 T : List Blk} (hlen : B ≤ H1.length) (hcl : Closed1 H1.length H1 = true) {b m : Nat} {k : Blk} (hb : H1.length ≤ b) (hk : (H1 ++ T)[b]? = some k) (hsc : scals k.cs = true) (hm : m * k.esz ≤ k.cs.length) :
    LeV B (.ref b k.v 0 m) (H1 ++ T) (.sl m (k.cs.take (m * k.esz))) H1 := by
  intro c0 c hB hr hH hs
  obtain ⟨h1, h2, h3⟩ := T_cut hB hr hH hs hlen hcl
  exact ⟨c.cut H1.length, rfl, h1, h2, h3, fun v hv => VR_frz hr hH hb hk hsc hm hv⟩
theorem LeV.frzA {B : Nat} {H1 T : List Blk} (hlen : B ≤ H1.length) (hcl : Closed1 H1.length H1 = true) {b m : Nat} {k : Blk} (hb : H1.length ≤ b) (hk : (H1 ++ T)[b]? = some k) (hsc : scals k.cs = true) (hm : m * k.esz ≤ k.cs.length) :
    LeV B (.agg [.ref b k.v 0 m]) (H1 ++ T) (.agg [.sl m (k.cs.take (m * k.esz))]) H1 := by
  intro c0 c hB hr hH hs
  obtain ⟨h1, h2, h3⟩ := T_cut hB hr hH hs hlen hcl
  refine ⟨c.cut H1.length, rfl, h1, h2, h3, fun v hv => ?_⟩
  rw [VR] at hv ⊢
  obtain ⟨vs, e1, hv⟩ := hv
  refine ⟨vs, e1, ?_⟩
  rw [VRs] at hv ⊢
  obtain ⟨u, us, e2, g1, g2⟩ := hv
  exact ⟨u, us, e2, VR_frz hr hH hb hk hsc hm g1, by simpa [VRs] using g2⟩
def names13 : List Int := [0, 1, 5, 6, 50, 51, 62, 90, 91, 100, 101, 102, 199]
def termF (bs : List Int) (s : Cu) (m : Nat) : Int × Cu :=
  if (onceF bs s 25).1 then pickF bs (onceF bs s 25).2 [-1, m] else drawF bs (onceF bs s 25).2 (max m 1)
def nodeF (bs : List Int) (s : Cu) (many : Int) : Nd × Cu :=
  if many = 0 then (⟨1, (pickF bs s names13).1, 0⟩, (pickF bs s names13).2)
  else if (onceF bs s 4).1 then (⟨1, (pickF bs (onceF bs s 4).2 names13).1, 0⟩, (pickF bs (onceF bs s 4).2 names13).2)
  else
    if partsF (2 + (drawF bs (onceF bs s 4).2 7).1) = 2 then
      (⟨2 + (drawF bs (onceF bs s 4).2 7).1, (drawF bs (drawF bs (onceF bs s 4).2 7).2 many).1, (drawF bs (drawF bs (drawF bs (onceF bs s 4).2 7).2 many).2 many).1⟩, (drawF bs (drawF bs (drawF bs (onceF bs s 4).2 7).2 many).2 many).2)
    else (⟨2 + (drawF bs (onceF bs s 4).2 7).1, (drawF bs (drawF bs (onceF bs s 4).2 7).2 many).1, 0⟩, (drawF bs (drawF bs (onceF bs s 4).2 7).2 many).2)
/-- A pool that is drawn: so many nodes added in turn. -/
def poolGo (bs : List Int) : Nat → List Nd → Cu → List Nd × Cu
  | 0, ns, s => (ns, s)
  | n + 1, ns, s => poolGo bs n (addF ns (nodeF bs s ns.length).1).1 (nodeF bs s ns.length).2
def poolD (bs : List Int) (s : Cu) (most : Int) : List Nd × Cu := poolGo bs (belowF bs s (most + 1)).1.toNat [] (belowF bs s (most + 1)).2
theorem poolGo_ok (bs : List Int) : ∀ (n : Nat) (ns : List Nd) (s : Cu), poolF ns = true → poolF (poolGo bs n ns s).1 = true
  | 0, ns, s, h => h
  | n + 1, ns, s, h => poolGo_ok bs n _ _ (addF_pool _ h)
theorem poolF_nil : poolF [] = true := by simp [poolF, okFrom]
theorem poolD_ok (bs : List Int) (s : Cu) (most : Int) : poolF (poolD bs s most).1 = true := poolGo_ok bs _ _ _ poolF_nil
end Go.Proofs.YtmlfacjgfjmdeaaDoor.C

set_option linter.unusedVariables false
set_option linter.unusedSimpArgs false
set_option maxRecDepth 4000
namespace Go.Proofs.YtmlfacjgfjmdeaaDoor.C
open Go.Sym Go.Proofs.YtmlfacjgfjmdeaaDoor.I
theorem findF_in {n : Nd} : ∀ {ns : List Nd} {i : Int}, 0 ≤ i → 0 ≤ findF ns n i → n ∈ ns
  | [], i, _, h => by simp [findF] at h
  | x :: xs, i, hi, h => by
    simp only [findF] at h
    split at h
    · rename_i e; subst e; simp
    · exact List.mem_cons_of_mem _ (findF_in (by omega) h)
theorem no_digest {ns : List Nd} (hp : poolF ns = true) : findF ns ⟨5, (ns.length : Int) - 1, 0⟩ 0 < 0 := by
  rcases Int.lt_or_le (findF ns ⟨5, (ns.length : Int) - 1, 0⟩ 0) 0 with h | h
  · exact h
  · have hm := findF_in (Int.le_refl 0) h
    obtain ⟨j, hj, e⟩ := List.getElem_of_mem hm
    have := (okFrom_all hp hj).1
    rw [e] at this
    simp [rightF, partsF, inF] at this
    omega
/-- A pool with one more name and one more digest, where there's room. -/
def moreF (ns : List Nd) : List Nd := (addF (addF ns ⟨1, (ns.length : Int).tmod 200, 0⟩).1 ⟨5, ((addF ns ⟨1, (ns.length : Int).tmod 200, 0⟩).1.length : Int) - 1, 0⟩).1
theorem addF_cases (ns : List Nd) (n : Nd) : (addF ns n).1 = ns ∨ (addF ns n).1.length = ns.length + 1 := by
  unfold addF
  split
  · exact .inl rfl
  · split
    · exact .inl rfl
    · split
      · exact .inl rfl
      · exact .inr (by simp)
theorem moreF_gt {ns : List Nd} (hp : poolF ns = true) (hl : ns.length < 500) : ns.length < (moreF ns).length := by
  have hge := addF_ge (addF ns ⟨1, (ns.length : Int).tmod 200, 0⟩).1 ⟨5, ((addF ns ⟨1, (ns.length : Int).tmod 200, 0⟩).1.length : Int) - 1, 0⟩
  rcases addF_cases ns ⟨1, (ns.length : Int).tmod 200, 0⟩ with h | h
  · have hne : 0 < ns.length := by
      rcases Nat.eq_zero_or_pos ns.length with e | e
      · have : ns = [] := List.eq_nil_of_length_eq_zero e
        subst this
        simp [addF, normN, rightF, partsF, inF, findF] at h
      · exact e
    unfold moreF
    rw [h]
    have hr : rightF ⟨5, (ns.length : Int) - 1, 0⟩ ns.length = true := by simp [rightF, partsF, inF]; omega
    have hf := no_digest hp
    have hnm : normN ⟨5, (ns.length : Int) - 1, 0⟩ = ⟨5, (ns.length : Int) - 1, 0⟩ := by simp [normN]
    simp only [addF, hnm, hr]
    rw [if_neg (by simp), if_neg (by omega), if_neg (by omega)]
    simp
  · unfold moreF
    omega
def fillF : Nat → List Nd → List Nd
  | 0, ns => ns
  | n + 1, ns => if ns.length < 500 then fillF n (moreF ns) else ns
theorem fillF_one (n : Nat) {ns : List Nd} (h : ns.length < 500) : fillF (n + 1) ns = fillF n (moreF ns) := if_pos h
theorem fillF_full : ∀ (n : Nat) {ns : List Nd}, ¬ ns.length < 500 → fillF n ns = ns
  | 0, _, _ => rfl
  | n + 1, _, h => if_neg h
def anyMid (bs : List Int) (p : List Nd) (t : Int × Cu) : List Nd × Cu :=
  if t.1 = 0 then (p ++ [(nodeF bs t.2 3).1], (nodeF bs t.2 3).2)
  else if t.1 = 1 then (p ++ [⟨(belowF bs t.2 10).1, (belowF bs (belowF bs t.2 10).2 30).1 - 1, (belowF bs (belowF bs (belowF bs t.2 10).2 30).2 30).1 - 1⟩], (belowF bs (belowF bs (belowF bs t.2 10).2 30).2 30).2)
  else (p, t.2)
def anyEnd (bs : List Int) (q : List Nd × Cu) : List Nd × Cu := if (onceF bs q.2 80).1 then (fillF 500 [], (onceF bs q.2 80).2) else (q.1, (onceF bs q.2 80).2)
def anyF (bs : List Int) (s : Cu) : List Nd × Cu := anyEnd bs (anyMid bs (poolD bs s 24).1 (belowF bs (poolD bs s 24).2 25))
theorem anyF_len (bs : List Int) (s : Cu) : (anyF bs s).1.length ≤ 501 := by
  have hfill : ∀ (n : Nat) (ns : List Nd), poolF ns = true → (fillF n ns).length ≤ 500 := by
    intro n
    induction n with
    | zero => intro ns h; exact poolF_len h
    | succ n ih =>
      intro ns h
      simp only [fillF]
      split
      · exact ih _ (addF_pool _ (addF_pool _ h))
      · exact poolF_len h
  have hp := poolF_len (poolD_ok bs s 24)
  unfold anyF anyEnd
  split
  · have := hfill 500 [] poolF_nil
    simp only
    omega
  · unfold anyMid
    split
    · simp; omega
    · split
      · simp; omega
      · simp only; omega
end Go.Proofs.YtmlfacjgfjmdeaaDoor.C

set_option linter.unusedVariables false
set_option linter.unusedSimpArgs false
set_option maxRecDepth 40000
namespace Go.Proofs.YtmlfacjgfjmdeaaDoor.C
open Go.Sym Go.Proofs.YtmlfacjgfjmdeaaDoor.I
def hashS (h x : Int) : Int := IntKind.i64.wrap ((IntKind.i64.wrap (IntKind.i64.wrap (IntKind.i64.wrap (h * 131) + IntKind.i64.wrap x) + 7) % 2 ^ IntKind.i64.bits).toNat &&& 1073741823 % 2 ^ IntKind.i64.bits : Nat)
def hashGo (bs : List Int) : Nat → Nat → Int → Int
  | 0, _, h => h
  | n + 1, j, h => if j < bs.length ∧ j < 4000 then hashGo bs n (j + 1) (hashS h (bs.getD j 0)) else h
def newH (bs : List Int) : Int := hashGo bs (bs.length + 1) 0 (IntKind.i64.wrap (12241 + (bs.length : Int)))
abbrev curB (bs : List Int) (s : Cu) : Blk := ⟨0, false, 1, [aB bs, i6 s.i, i6 s.h], none⟩
theorem spec_l1New_c (bs : List Int) (hb : bs.length < 9223372036854775807) : T 53 [aB bs] [] (.ptr 0 0 0) ([curB bs ⟨0, newH bs⟩]) := by
  refine semT' (S := S0) hm spec_l1New_ok (Nat.le_of_ble_eq_true rfl) ?_
  unfold spec_l1New; dsimp only
  simp
  refine WLoop_fam (fun p : Nat × Int => [(0, aB bs), (3, i6 p.2), (4, i6 p.1)]) (fun _ => []) (fun p => bs.length - p.1)
    (fun p => p.1 ≤ bs.length ∧ newH bs = hashGo bs (bs.length + 1 - p.1) p.1 p.2) ?_ (0, IntKind.i64.wrap (12241 + (bs.length : Int))) ⟨Nat.zero_le _, rfl⟩
  rintro ⟨j, h'⟩ ⟨hj, hf⟩ ih
  simp only at hj hf
  obtain ⟨k, hk⟩ : ∃ k, bs.length + 1 - j = k + 1 := ⟨bs.length - j, by omega⟩
  rw [hk] at hf
  simp
  refine br_intro' (fun h => ?_) (fun h => ?_) <;> (have h0 := h) <;> (try simp at h) <;> try simp [h0, h]
  · have h9 := h
    have hw : IntKind.i64.wrap ((j : Int) + 1) = j + 1 := wrap64 (by omega) (by omega)
    refine br_intro' (fun g => ?_) (fun g => ?_) <;> simp at g <;> simp [g]
    · simp [h9]
      rw [hw]
      refine ih (j + 1, hashS h' bs[j]) ⟨h9, ?_⟩ (by simp; omega)
      have hk2 : bs.length + 1 - (j + 1) = k := by omega
      simp only [hk2]
      rw [hf, hashGo, if_pos ⟨h9, by omega⟩]
      simp [h9]
    · have e : newH bs = h' := by rw [hf, hashGo, if_neg (by omega)]
      rw [e]
      exact LeV.refl _ _ _
  · have e : newH bs = h' := by rw [hf, hashGo, if_neg (by omega)]
    rw [e]
    exact LeV.refl _ _ _
theorem spec_l1New_k {bs : List Int} (hb : bs.length < 9223372036854775807) {S : FuncId → Bool} {H : List Blk} {K : A → Dl → Prop} {zs : List A} (hS : S 53 = false) (hv : viewL (viewA 8 H) zs = some [aB bs]) (ho : noOwns zs = true ∨ nosl (.ptr 0 0 0) = true ∧ noslBlks ([curB bs ⟨0, newH bs⟩]) = true) (hK : K (shiftA H.length (.ptr 0 0 0)) (.news (([curB bs ⟨0, newH bs⟩]).map (shiftB H.length)))) : @WCall' Go.Proofs.Tryd.prog S 53 zs H ⟨K⟩ :=
  WCall_ro' hS hv (spec_l1New_c bs hb) rfl ho hK
/-- What is drawn for a link: a pool, a link and a term. -/
def seqF (bs : List Int) (s : Cu) (x : Int) : Int × Cu := if (onceF bs s 12).1 then pickF bs (onceF bs s 12).2 [-1, 19, 20, 21] else (x, (onceF bs s 12).2)
structure Dr where
  pool : List Nd
  link : Lk
  term : Int
def drF5 (bs : List Int) (p : List Nd) (l : Lk) (t : Int) (s : Cu) : Dr :=
  if (onceF bs s 12).1 = true ∧ poolF p = true then ⟨(addF p ⟨1, 8, 0⟩).1, l, (addF p ⟨1, 8, 0⟩).2⟩ else ⟨p, l, t⟩
def drF4 (bs : List Int) (p : List Nd) (l : Lk) (t : Int × Cu) : Dr := drF5 bs p l t.1 t.2
def drF3b (bs : List Int) (p : List Nd) (k : Int) (o : Bool) (q : Int) (e : Int × Cu) : Dr := drF4 bs p ⟨k, e.1, q, o⟩ (termF bs e.2 p.length)
def drF3 (bs : List Int) (p : List Nd) (k e : Int) (o : Bool) (q : Int × Cu) : Dr := drF3b bs p k o q.1 (seqF bs q.2 e)
def drF2c (bs : List Int) (p : List Nd) (k e q : Int) (o : Bool × Cu) : Dr := drF3 bs p k e o.1 (seqF bs o.2 q)
def drF2b (bs : List Int) (p : List Nd) (k e : Int) (q : Int × Cu) : Dr := drF2c bs p k e q.1 (onceF bs q.2 9)
def drF2a (bs : List Int) (p : List Nd) (k : Int) (e : Int × Cu) : Dr := drF2b bs p k e.1 (belowF bs e.2 4)
def drF2 (bs : List Int) (p : List Nd) (k : Int × Cu) : Dr := drF2a bs p k.1 (belowF bs k.2 3)
def drF1 (bs : List Int) (a : List Nd × Cu) : Dr := drF2 bs a.1 (termF bs a.2 a.1.length)
def drF (bs : List Int) : Dr := drF1 bs (anyF bs ⟨0, newH bs⟩)
theorem cur_callR {f : FuncId} {S : FuncId → Bool} {G : List Blk} {K : A → Dl → Prop} (hS : S f = true) (cb : Nat) (bs : List Int) (s s' : Cu) {zs : List A} {r : A} (hG : G[cb]? = some (curB bs s))
    (hf : T f zs (cur G cb bs s) r (cur G cb bs s')) (hK : K r (.full [cb] (cur G cb bs s'))) : @WCall' Go.Proofs.Tryd.prog S f zs G ⟨K⟩ := cur_call hS cb bs s s' (by
      apply List.ext_getElem?
      intro i
      by_cases e : cb = i
      · subst e
        rw [hG]
        simp only [cur]
        rw [List.getElem?_set_self (List.getElem?_eq_some_iff.1 hG).1]
      · simp only [cur]
        rw [List.getElem?_set_ne e]) hf hK
theorem drF5_len (bs : List Int) (p : List Nd) (l : Lk) (t : Int) (s : Cu) (h : p.length ≤ 501) : (drF5 bs p l t s).pool.length ≤ 501 := by
  unfold drF5
  split
  · rename_i g
    have := poolF_len (addF_pool ⟨1, 8, 0⟩ g.2)
    simp only
    omega
  · exact h
theorem drF_len (bs : List Int) : (drF bs).pool.length ≤ 501 := drF5_len _ _ _ _ _ (anyF_len _ _)
theorem fit_u {cs : List A} (h : Fit (.i .u8) cs) : ∃ n : Int, cs = [.int .u8 n] ∧ True := by
  obtain ⟨n, rfl, hn⟩ := h
  exact ⟨n, rfl, trivial⟩
theorem arg_by {x : A} (h : FitA (.sl (.i .u8)) x) : ∃ bs : List Int, x = aB bs ∧ bs.length < 9223372036854775808 := by
  obtain ⟨xs, e, h1, _⟩ := fit_sl (f := fun n => [A.int .u8 n]) (fun r hr => fit_u hr) (show Fit (.sl (.i .u8)) [x] from h)
  refine ⟨xs, ?_, h1⟩
  simp only [List.cons.injEq, and_true] at e
  rw [e]
  simp only [aB, bytes]
  rw [List.map_eq_flatMap]
end Go.Proofs.YtmlfacjgfjmdeaaDoor.C

set_option linter.unusedVariables false
set_option linter.unusedSimpArgs false
set_option maxRecDepth 4000
namespace Go.Proofs
open Go.Shelf
def Tryd.laysItoa_ren : Go.Shelf.Ren := ⟨fun | 171 => 119 | 243 => 132 | 246 => 140 | 283 => 144 | 284 => 145 | 285 => 146 | 286 => 147 | 129 => 151 | 317 => 150 | 318 => 152 | 319 => 153 | 320 => 154 | 337 => 155 | 338 => 156 | n => n, fun | 3 => 3 | 9 => 9 | 2 => 2 | 4 => 4 | 171 => 185 | 0 => 0 | 53 => 179 | 37 => 39 | 5 => 5 | 173 => 188 | 212 => 194 | 51 => 169 | 20 => 20 | 213 => 195 | 46 => 155 | 232 => 198 | 233 => 199 | n => n, fun | 17 => 3 | 18 => 4 | 19 => 5 | n => n⟩
theorem Tryd.laysItoa : Go.Proofs.LaysM.n171 Tryd.prog Tryd.laysItoa_ren := {
  mixed := by kernel_rfl
  f129 := Tryd.func151.trans (congrArg some (by kernel_rfl))
  f171 := Tryd.func119.trans (congrArg some (by kernel_rfl))
  f243 := Tryd.func132.trans (congrArg some (by kernel_rfl))
  f246 := Tryd.func140.trans (congrArg some (by kernel_rfl))
  f283 := Tryd.func144.trans (congrArg some (by kernel_rfl))
  f284 := Tryd.func145.trans (congrArg some (by kernel_rfl))
  f285 := Tryd.func146.trans (congrArg some (by kernel_rfl))
  f286 := Tryd.func147.trans (congrArg some (by kernel_rfl))
  f317 := Tryd.func150.trans (congrArg some (by kernel_rfl))
  f318 := Tryd.func152.trans (congrArg some (by kernel_rfl))
  f319 := Tryd.func153.trans (congrArg some (by kernel_rfl))
  f320 := Tryd.func154.trans (congrArg some (by kernel_rfl))
  f337 := Tryd.func155.trans (congrArg some (by kernel_rfl))
  f338 := Tryd.func156.trans (congrArg some (by kernel_rfl))
  t0 := Tryd.underlying0
  a0 := Tryd.isAgg0
  z0 := Tryd.sizeOf0
  v0 := Tryd.zeroValue0
  t2 := Tryd.underlying2
  a2 := Tryd.isAgg2
  z2 := Tryd.sizeOf2
  v2 := Tryd.zeroValue2
  t3 := Tryd.underlying3
  a3 := Tryd.isAgg3
  z3 := Tryd.sizeOf3
  v3 := Tryd.zeroValue3
  t4 := Tryd.underlying4
  a4 := Tryd.isAgg4
  z4 := Tryd.sizeOf4
  v4 := Tryd.zeroValue4
  t5 := Tryd.underlying5
  a5 := Tryd.isAgg5
  z5 := Tryd.sizeOf5
  v5 := Tryd.zeroValue5
  t9 := Tryd.underlying9
  a9 := Tryd.isAgg9
  z9 := Tryd.sizeOf9
  v9 := Tryd.zeroValue9
  t20 := Tryd.underlying20
  a20 := Tryd.isAgg20
  z20 := Tryd.sizeOf20
  v20 := Tryd.zeroValue20
  t37 := Tryd.underlying39
  a37 := Tryd.isAgg39
  z37 := Tryd.sizeOf39
  v37 := Tryd.zeroValue39
  t46 := Tryd.underlying155
  a46 := Tryd.isAgg155
  z46 := Tryd.sizeOf155
  v46 := Tryd.zeroValue155
  t51 := Tryd.underlying169
  a51 := Tryd.isAgg169
  z51 := Tryd.sizeOf169
  v51 := Tryd.zeroValue169
  t53 := Tryd.underlying179
  a53 := Tryd.isAgg179
  z53 := Tryd.sizeOf179
  v53 := Tryd.zeroValue179
  t171 := Tryd.underlying185
  a171 := Tryd.isAgg185
  z171 := Tryd.sizeOf185
  v171 := Tryd.zeroValue185
  t173 := Tryd.underlying188
  a173 := Tryd.isAgg188
  z173 := Tryd.sizeOf188
  v173 := Tryd.zeroValue188
  t212 := Tryd.underlying194
  a212 := Tryd.isAgg194
  z212 := Tryd.sizeOf194
  v212 := Tryd.zeroValue194
  t213 := Tryd.underlying195
  a213 := Tryd.isAgg195
  z213 := Tryd.sizeOf195
  t232 := Tryd.underlying198
  a232 := Tryd.isAgg198
  z232 := Tryd.sizeOf198
  v232 := Tryd.zeroValue198
  t233 := Tryd.underlying199
  a233 := Tryd.isAgg199
  z233 := Tryd.sizeOf199
  v233 := Tryd.zeroValue199
  g17 := by kernel_rfl
  g18 := by kernel_rfl
  g19 := by kernel_rfl
  i0 := by kernel_rfl
  i2 := by kernel_rfl
  i3 := by kernel_rfl
  i4 := by kernel_rfl
  i5 := by kernel_rfl
  i9 := by kernel_rfl
  i20 := by kernel_rfl
  i37 := by kernel_rfl
  i46 := by kernel_rfl
  i51 := by kernel_rfl
  i53 := by kernel_rfl
  i171 := by kernel_rfl
  i173 := by kernel_rfl
  i212 := by kernel_rfl
  i232 := by kernel_rfl
  i233 := by kernel_rfl
  m17 := by kernel_rfl
  m18 := by kernel_rfl
  m19 := by kernel_rfl }
def Tryd.laysAtoi_ren : Go.Shelf.Ren := ⟨fun | 172 => 118 | 244 => 130 | 245 => 131 | 247 => 135 | 279 => 136 | 280 => 137 | 281 => 138 | 282 => 139 | 287 => 141 | 316 => 142 | 171 => 119 | 205 => 143 | 321 => 148 | 322 => 149 | 243 => 132 | 246 => 140 | 283 => 144 | 284 => 145 | 285 => 146 | 286 => 147 | 129 => 151 | 317 => 150 | 318 => 152 | 319 => 153 | 320 => 154 | 337 => 155 | 338 => 156 | n => n, fun | 9 => 9 | 3 => 3 | 75 => 84 | 76 => 85 | 4 => 4 | 5 => 5 | 167 => 172 | 37 => 39 | 0 => 0 | 85 => 173 | 2 => 2 | 168 => 175 | 53 => 179 | 175 => 180 | 46 => 155 | 210 => 183 | 127 => 118 | 145 => 192 | 143 => 190 | 21 => 21 | 171 => 185 | 173 => 188 | 212 => 194 | 51 => 169 | 20 => 20 | 213 => 195 | 232 => 198 | 233 => 199 | 80 => 87 | n => n, fun | 15 => 1 | 16 => 2 | 17 => 3 | 18 => 4 | 19 => 5 | n => n⟩
theorem Tryd.laysAtoi : Go.Proofs.LaysC.n172 Tryd.prog Tryd.laysAtoi_ren := {
  mixed := by kernel_rfl
  f129 := Tryd.func151.trans (congrArg some (by kernel_rfl))
  f171 := Tryd.func119.trans (congrArg some (by kernel_rfl))
  f172 := Tryd.func118.trans (congrArg some (by kernel_rfl))
  f205 := Tryd.func143.trans (congrArg some (by kernel_rfl))
  f243 := Tryd.func132.trans (congrArg some (by kernel_rfl))
  f244 := Tryd.func130.trans (congrArg some (by kernel_rfl))
  f245 := Tryd.func131.trans (congrArg some (by kernel_rfl))
  f246 := Tryd.func140.trans (congrArg some (by kernel_rfl))
  f247 := Tryd.func135.trans (congrArg some (by kernel_rfl))
  f279 := Tryd.func136.trans (congrArg some (by kernel_rfl))
  f280 := Tryd.func137.trans (congrArg some (by kernel_rfl))
  f281 := Tryd.func138.trans (congrArg some (by kernel_rfl))
  f282 := Tryd.func139.trans (congrArg some (by kernel_rfl))
  f283 := Tryd.func144.trans (congrArg some (by kernel_rfl))
  f284 := Tryd.func145.trans (congrArg some (by kernel_rfl))
  f285 := Tryd.func146.trans (congrArg some (by kernel_rfl))
  f286 := Tryd.func147.trans (congrArg some (by kernel_rfl))
  f287 := Tryd.func141.trans (congrArg some (by kernel_rfl))
  f316 := Tryd.func142.trans (congrArg some (by kernel_rfl))
  f317 := Tryd.func150.trans (congrArg some (by kernel_rfl))
  f318 := Tryd.func152.trans (congrArg some (by kernel_rfl))
  f319 := Tryd.func153.trans (congrArg some (by kernel_rfl))
  f320 := Tryd.func154.trans (congrArg some (by kernel_rfl))
  f321 := Tryd.func148.trans (congrArg some (by kernel_rfl))
  f322 := Tryd.func149.trans (congrArg some (by kernel_rfl))
  f337 := Tryd.func155.trans (congrArg some (by kernel_rfl))
  f338 := Tryd.func156.trans (congrArg some (by kernel_rfl))
  t0 := Tryd.underlying0
  a0 := Tryd.isAgg0
  z0 := Tryd.sizeOf0
  v0 := Tryd.zeroValue0
  t2 := Tryd.underlying2
  a2 := Tryd.isAgg2
  z2 := Tryd.sizeOf2
  v2 := Tryd.zeroValue2
  t3 := Tryd.underlying3
  a3 := Tryd.isAgg3
  z3 := Tryd.sizeOf3
  v3 := Tryd.zeroValue3
  t4 := Tryd.underlying4
  a4 := Tryd.isAgg4
  z4 := Tryd.sizeOf4
  v4 := Tryd.zeroValue4
  t5 := Tryd.underlying5
  a5 := Tryd.isAgg5
  z5 := Tryd.sizeOf5
  v5 := Tryd.zeroValue5
  t9 := Tryd.underlying9
  a9 := Tryd.isAgg9
  z9 := Tryd.sizeOf9
  v9 := Tryd.zeroValue9
  t20 := Tryd.underlying20
  a20 := Tryd.isAgg20
  z20 := Tryd.sizeOf20
  v20 := Tryd.zeroValue20
  t21 := Tryd.underlying21
  a21 := Tryd.isAgg21
  z21 := Tryd.sizeOf21
  v21 := Tryd.zeroValue21
  t37 := Tryd.underlying39
  a37 := Tryd.isAgg39
  z37 := Tryd.sizeOf39
  v37 := Tryd.zeroValue39
  t46 := Tryd.underlying155
  a46 := Tryd.isAgg155
  z46 := Tryd.sizeOf155
  v46 := Tryd.zeroValue155
  t51 := Tryd.underlying169
  a51 := Tryd.isAgg169
  z51 := Tryd.sizeOf169
  v51 := Tryd.zeroValue169
  t53 := Tryd.underlying179
  a53 := Tryd.isAgg179
  z53 := Tryd.sizeOf179
  v53 := Tryd.zeroValue179
  t75 := Tryd.underlying84
  a75 := Tryd.isAgg84
  z75 := Tryd.sizeOf84
  v75 := Tryd.zeroValue84
  t76 := Tryd.underlying85
  a76 := Tryd.isAgg85
  z76 := Tryd.sizeOf85
  v76 := Tryd.zeroValue85
  t85 := Tryd.underlying173
  a85 := Tryd.isAgg173
  z85 := Tryd.sizeOf173
  v85 := Tryd.zeroValue173
  t127 := Tryd.underlying118
  a127 := Tryd.isAgg118
  z127 := Tryd.sizeOf118
  v127 := Tryd.zeroValue118
  t143 := Tryd.underlying190
  a143 := Tryd.isAgg190
  z143 := Tryd.sizeOf190
  v143 := Tryd.zeroValue190
  t145 := Tryd.underlying192
  a145 := Tryd.isAgg192
  z145 := Tryd.sizeOf192
  v145 := Tryd.zeroValue192
  t167 := Tryd.underlying172
  a167 := Tryd.isAgg172
  z167 := Tryd.sizeOf172
  v167 := Tryd.zeroValue172
  t168 := Tryd.underlying175
  a168 := Tryd.isAgg175
  z168 := Tryd.sizeOf175
  v168 := Tryd.zeroValue175
  t171 := Tryd.underlying185
  a171 := Tryd.isAgg185
  z171 := Tryd.sizeOf185
  v171 := Tryd.zeroValue185
  t173 := Tryd.underlying188
  a173 := Tryd.isAgg188
  z173 := Tryd.sizeOf188
  v173 := Tryd.zeroValue188
  t175 := Tryd.underlying180
  a175 := Tryd.isAgg180
  z175 := Tryd.sizeOf180
  v175 := Tryd.zeroValue180
  t210 := Tryd.underlying183
  a210 := Tryd.isAgg183
  z210 := Tryd.sizeOf183
  v210 := Tryd.zeroValue183
  t212 := Tryd.underlying194
  a212 := Tryd.isAgg194
  z212 := Tryd.sizeOf194
  v212 := Tryd.zeroValue194
  t213 := Tryd.underlying195
  a213 := Tryd.isAgg195
  z213 := Tryd.sizeOf195
  t232 := Tryd.underlying198
  a232 := Tryd.isAgg198
  z232 := Tryd.sizeOf198
  v232 := Tryd.zeroValue198
  t233 := Tryd.underlying199
  a233 := Tryd.isAgg199
  z233 := Tryd.sizeOf199
  v233 := Tryd.zeroValue199
  g15 := by kernel_rfl
  g16 := by kernel_rfl
  g17 := by kernel_rfl
  g18 := by kernel_rfl
  g19 := by kernel_rfl
  t80 := Tryd.underlying87
  a80 := Tryd.isAgg87
  z80 := Tryd.sizeOf87
  v80 := Tryd.zeroValue87
  i0 := by kernel_rfl
  i2 := by kernel_rfl
  i3 := by kernel_rfl
  i4 := by kernel_rfl
  i5 := by kernel_rfl
  i9 := by kernel_rfl
  i20 := by kernel_rfl
  i21 := by kernel_rfl
  i37 := by kernel_rfl
  i46 := by kernel_rfl
  i51 := by kernel_rfl
  i53 := by kernel_rfl
  i75 := by kernel_rfl
  i76 := by kernel_rfl
  i80 := by kernel_rfl
  i85 := by kernel_rfl
  i127 := by kernel_rfl
  i143 := by kernel_rfl
  i145 := by kernel_rfl
  i167 := by kernel_rfl
  i168 := by kernel_rfl
  i171 := by kernel_rfl
  i173 := by kernel_rfl
  i175 := by kernel_rfl
  i210 := by kernel_rfl
  i212 := by kernel_rfl
  i232 := by kernel_rfl
  i233 := by kernel_rfl
  m15 := by kernel_rfl
  m16 := by kernel_rfl
  m17 := by kernel_rfl
  m18 := by kernel_rfl
  m19 := by kernel_rfl
  c0 := by kernel_rfl
  c2 := by kernel_rfl
  c3 := by kernel_rfl
  c4 := by kernel_rfl
  c5 := by kernel_rfl
  c9 := by kernel_rfl
  c20 := by kernel_rfl
  c21 := by kernel_rfl
  c37 := by kernel_rfl
  c46 := by kernel_rfl
  c51 := by kernel_rfl
  c53 := by kernel_rfl
  c75 := by kernel_rfl
  c76 := by kernel_rfl
  c80 := by kernel_rfl
  c85 := by kernel_rfl
  c127 := by kernel_rfl
  c143 := by kernel_rfl
  c145 := by kernel_rfl
  c167 := by kernel_rfl
  c168 := by kernel_rfl
  c171 := by kernel_rfl
  c173 := by kernel_rfl
  c175 := by kernel_rfl
  c210 := by kernel_rfl
  c212 := by kernel_rfl
  c213 := by kernel_rfl
  c232 := by kernel_rfl
  c233 := by kernel_rfl }
end Go.Proofs
namespace Go.Proofs.YtmlfacjgfjmdeaaDoor.C
open Go.Sym Go.Proofs.YtmlfacjgfjmdeaaDoor.I
theorem itoa_t {n : Int} (h0 : -9223372036854775808 ≤ n) (h1 : n ≤ 9223372036854775807) : T 119 [i6 n] [] (.str ⟨(Lib.itoa n).toArray⟩) [] :=
  semT_itoa Tryd.laysItoa (g := (Go.Proofs.Tryd.prog.globalNamed "internal/strconv.uint64pow10").getD 0) (by kernel_rfl) h0 h1
theorem atoi_t {s : ByteArray} (hs : s.size ≤ 281474976710656) : T 118 [.str s] [] (.tup [i6 (atoiV (bl s)).1, .err (atoiV (bl s)).2]) [] :=
  semT_atoi Tryd.laysAtoi (g := (Go.Proofs.Tryd.prog.globalNamed "strconv.ErrSyntax").getD 0) (g' := (Go.Proofs.Tryd.prog.globalNamed "strconv.ErrRange").getD 0) (by kernel_rfl) (by kernel_rfl) hs
theorem impl_isFigure_c (x : Int)  : T 117 [.int .u8 x] [] (.bool (decide (48 ≤ x ∧ x ≤ 57))) ([]) := by
  refine semT' (S := S0) hm impl_isFigure_ok (Nat.le_of_ble_eq_true rfl) ?_
  unfold impl_isFigure; dsimp only
  simp
  by_cases h : 48 ≤ x
  · simp [h]
    exact LeV.ro rfl rfl rfl
  · simp [h]
    exact LeV.ro rfl rfl rfl
theorem impl_isFigure_call {x : Int}  {S : FuncId → Bool} {H : List Blk} {K : A → Dl → Prop} (hS : S 117 = false) (hK : K (.bool (decide (48 ≤ x ∧ x ≤ 57))) (.news [])) : @WCall' Go.Proofs.Tryd.prog S 117 [.int .u8 x] H ⟨K⟩ :=
  WCall_pure hS (impl_isFigure_c x) (by simp) (by simp) (by simp) hK
theorem impl_isFigure_k {x : Int}  {S : FuncId → Bool} {H : List Blk} {K : A → Dl → Prop} {zs : List A} (hS : S 117 = false) (hv : viewL (viewA 8 H) zs = some [.int .u8 x]) (ho : noOwns zs = true ∨ nosl (.bool (decide (48 ≤ x ∧ x ≤ 57))) = true) (hK : K (.bool (decide (48 ≤ x ∧ x ≤ 57))) (.news [])) : @WCall' Go.Proofs.Tryd.prog S 117 zs H ⟨K⟩ :=
  WCall_pure hS (impl_isFigure_c x) hv ho (by simp) hK
theorem impl_isOneOf_c (x : Int) (ss : ByteArray) (hl : ss.size < 9223372036854775807) : T 120 [.int .u8 x, .str ss] [] (.bool (inS x ss)) ([]) := by
  refine semT' (S := S0) hm impl_isOneOf_ok (Nat.le_of_ble_eq_true rfl) ?_
  unfold impl_isOneOf; dsimp only
  simp
  refine WLoop_fam (fun j : Nat => [(0, A.int .u8 x), (1, A.str ss), (5, i6 j)]) (fun _ => []) (fun j => ss.size - j)
    (fun j => j ≤ ss.size ∧ inS x ss = ((bl ss).drop j).any fun c => decide ((c.toNat : Int) = x)) ?_ 0 ⟨Nat.zero_le _, rfl⟩
  intro j ⟨hj, hf⟩ ih
  simp
  refine br_intro' (fun u => ?_) (fun u => ?_) <;> (have u0 := u) <;> simp only [decide_eq_true_eq, decide_eq_false_iff_not] at u <;> simp [u0, u]
  · have hju : j < ss.size := by omega
    have hw := wrap_succ (n := j) (by omega)
    have hd := bl_drop hju
    refine br_intro' (fun g => ?_) (fun g => ?_) <;> (have g0 := g) <;> simp only [decide_eq_true_eq, decide_eq_false_iff_not] at g <;> simp [g0]
    · exact LeV.ro rfl rfl (by rw [hf, hd]; simp [g])
    · rw [hw]
      exact ih (j + 1) ⟨by omega, by rw [hf, hd]; simp [g]⟩ (by omega)
  · exact LeV.ro rfl rfl (by rw [hf, List.drop_eq_nil_of_le (by simp; omega)]; rfl)
theorem impl_isOneOf_call {x : Int} {ss : ByteArray} (hl : ss.size < 9223372036854775807) {S : FuncId → Bool} {H : List Blk} {K : A → Dl → Prop} (hS : S 120 = false) (hK : K (.bool (inS x ss)) (.news [])) : @WCall' Go.Proofs.Tryd.prog S 120 [.int .u8 x, .str ss] H ⟨K⟩ :=
  WCall_pure hS (impl_isOneOf_c x ss hl) (by simp) (by simp) (by simp) hK
theorem impl_isOneOf_k {x : Int} {ss : ByteArray} (hl : ss.size < 9223372036854775807) {S : FuncId → Bool} {H : List Blk} {K : A → Dl → Prop} {zs : List A} (hS : S 120 = false) (hv : viewL (viewA 8 H) zs = some [.int .u8 x, .str ss]) (ho : noOwns zs = true ∨ nosl (.bool (inS x ss)) = true) (hK : K (.bool (inS x ss)) (.news [])) : @WCall' Go.Proofs.Tryd.prog S 120 zs H ⟨K⟩ :=
  WCall_pure hS (impl_isOneOf_c x ss hl) hv ho (by simp) hK
def closeF (b : Int) : Int := if b = 123 then 125 else if b = 91 then 93 else 41
theorem impl_closing_c (x : Int)  : T 122 [.int .u8 x] [] (.int .u8 (closeF x)) ([]) := by
  refine semT' (S := S0) hm impl_closing_ok (Nat.le_of_ble_eq_true rfl) ?_
  unfold impl_closing; dsimp only
  simp
  repeat (any_goals (first | (refine br_intro' (fun h => ?_) (fun h => ?_) <;> (have h0 := h) <;> (try simp at h) <;> try simp [h0, h])))
  all_goals exact LeV.eq (by simp [closeF, *]) rfl
theorem impl_closing_call {x : Int}  {S : FuncId → Bool} {H : List Blk} {K : A → Dl → Prop} (hS : S 122 = false) (hK : K (.int .u8 (closeF x)) (.news [])) : @WCall' Go.Proofs.Tryd.prog S 122 [.int .u8 x] H ⟨K⟩ :=
  WCall_pure hS (impl_closing_c x) (by simp) (by simp) (by simp) hK
theorem impl_closing_k {x : Int}  {S : FuncId → Bool} {H : List Blk} {K : A → Dl → Prop} {zs : List A} (hS : S 122 = false) (hv : viewL (viewA 8 H) zs = some [.int .u8 x]) (ho : noOwns zs = true ∨ nosl (.int .u8 (closeF x)) = true) (hK : K (.int .u8 (closeF x)) (.news [])) : @WCall' Go.Proofs.Tryd.prog S 122 zs H ⟨K⟩ :=
  WCall_pure hS (impl_closing_c x) hv ho (by simp) hK
def kindF (b : Int) : Int := if b = 40 then 2 else if b = 123 then 3 else if b = 91 then 4 else if b = 35 then 5 else if b = 107 then 6 else if b = 94 then 7 else 8
theorem impl_kindOf_c (x : Int)  : T 100 [.int .u8 x] [] (i6 (kindF x)) ([]) := by
  refine semT' (S := S0) hm impl_kindOf_ok (Nat.le_of_ble_eq_true rfl) ?_
  unfold impl_kindOf; dsimp only
  simp
  repeat (any_goals (first | (refine br_intro' (fun h => ?_) (fun h => ?_) <;> (have h0 := h) <;> (try simp at h) <;> try simp [h0, h])))
  all_goals exact LeV.eq (by simp [kindF, *]) rfl
theorem impl_kindOf_call {x : Int}  {S : FuncId → Bool} {H : List Blk} {K : A → Dl → Prop} (hS : S 100 = false) (hK : K (i6 (kindF x)) (.news [])) : @WCall' Go.Proofs.Tryd.prog S 100 [.int .u8 x] H ⟨K⟩ :=
  WCall_pure hS (impl_kindOf_c x) (by simp) (by simp) (by simp) hK
theorem impl_kindOf_k {x : Int}  {S : FuncId → Bool} {H : List Blk} {K : A → Dl → Prop} {zs : List A} (hS : S 100 = false) (hv : viewL (viewA 8 H) zs = some [.int .u8 x]) (ho : noOwns zs = true ∨ nosl (i6 (kindF x)) = true) (hK : K (i6 (kindF x)) (.news [])) : @WCall' Go.Proofs.Tryd.prog S 100 zs H ⟨K⟩ :=
  WCall_pure hS (impl_kindOf_c x) hv ho (by simp) hK
theorem rset_same {H : List Blk} {b : Nat} {k : Blk} (h : H[b]? = some k) : H.set b k = H := List.ext_getElem? fun j => by
  rw [List.getElem?_set]
  split
  · rename_i e; subst e
    split
    · rw [h]
    · rename_i g; rw [List.getElem?_eq_none (by omega)]
  · rfl
/-- A reader's row. -/
abbrev rrow (tx mo : ByteArray) (lf jn : A) (i c : Int) : Blk := ⟨0, false, 1, [.str tx, i6 i, i6 c, .str mo, lf, jn], none⟩
abbrev rptr (b : Nat) : A := .ptr b 0 0
def failF (i c code at_ : Int) : Int × Int := if c = 0 then (at_, code) else (i, c)
theorem impl_reader_fail_m (H : List Blk) (b : Nat) (tx mo : ByteArray) (lf jn : A) (i c code at_ : Int) (hk : H[b]? = some (rrow tx mo lf jn i c)) : T 106 [rptr b, i6 code, i6 at_] (H) (i6 (-1)) (H.set b (rrow tx mo lf jn (failF i c code at_).1 (failF i c code at_).2)) := by
  refine semT' (S := S0) hm impl_reader_fail_ok (Nat.le_of_ble_eq_true rfl) ?_
  unfold impl_reader_fail; dsimp only
  have hb : b < H.length := (List.getElem?_eq_some_iff.1 hk).1
  have gs : ∀ x, (H.set b x)[b]? = some x := fun x => by simp [hb]
  simp [hk]
  refine br_intro' (fun u => ?_) (fun u => ?_) <;> (have u0 := u) <;> simp only [decide_eq_true_eq, decide_eq_false_iff_not] at u <;> simp [u0, u]
  · simp [hk, gs]
    rw [show failF i c code at_ = (at_, code) from if_pos u]
    exact LeV.refl _ _ _
  · simp [failF, u]
    rw [rset_same hk]
    exact LeV.refl _ _ _
theorem row_call {f : FuncId} {S : FuncId → Bool} {H : List Blk} {K : A → Dl → Prop} {b : Nat} {k' : Blk} {zs : List A} {r : A} (hS : S f = true) (hf : SemT Go.Proofs.Tryd.prog f zs H r (H.set b k')) (hK : K r (.full [b] (H.set b k'))) : @WCall' Go.Proofs.Tryd.prog S f zs H ⟨K⟩ :=
  WCall_t' hS [b] hf (by simp) (fun q hq hl => by
    simp at hq
    rw [List.getElem?_set_ne (Ne.symm hq)]) hK
theorem same_call {f : FuncId} {S : FuncId → Bool} {H : List Blk} {K : A → Dl → Prop} {zs : List A} {r : A} (hS : S f = true) (hf : SemT Go.Proofs.Tryd.prog f zs H r H) (hK : K r (.full [] H)) : @WCall' Go.Proofs.Tryd.prog S f zs H ⟨K⟩ :=
  WCall_t' hS [] hf (Nat.le_refl _) (fun q hq hl => rfl) hK
def peekF (tx : ByteArray) (i : Nat) : Int := if tx.size ≤ i then 0 else bt tx i
theorem impl_reader_peek_m (H : List Blk) (b : Nat) (tx mo : ByteArray) (lf jn : A) (i : Nat) (c : Int) (hk : H[b]? = some (rrow tx mo lf jn i c)) : T 107 [rptr b] (H) (.int .u8 (peekF tx i)) (H) := by
  refine semT' (S := S0) hm impl_reader_peek_ok (Nat.le_of_ble_eq_true rfl) ?_
  unfold impl_reader_peek; dsimp only
  simp [hk]
  repeat (refine ck_intro' (by first | omega | (simp; omega) | kernel_rfl) ?_; try simp [hk])
  refine br_intro' (fun u => ?_) (fun u => ?_) <;> (have u0 := u) <;> simp only [decide_eq_true_eq, decide_eq_false_iff_not] at u <;> simp [u0, u, hk]
  · rw [show peekF tx i = 0 from if_pos (by omega)]
    exact LeV.refl _ _ _
  · have hju : i < tx.size := by omega
    simp [hju]
    repeat (refine ck_intro' (by first | omega | (simp; omega) | kernel_rfl) ?_; try simp [hk])
    rw [show peekF tx i = bt tx i from if_neg (by omega)]
    exact LeV.refl _ _ _
def takeF (tx : ByteArray) (i : Nat) (c sign : Int) : Nat × Int := if c ≠ 0 then (i, c) else if tx.size ≤ i then (tx.size, 2) else if bt tx i ≠ sign then (i, 3) else (i + 1, 0)
theorem impl_reader_take_m (H : List Blk) (b : Nat) (tx mo : ByteArray) (lf jn : A) (i : Nat) (c sign : Int) (hk : H[b]? = some (rrow tx mo lf jn i c)) (hs : tx.size < 9223372036854775807) : T 123 [rptr b, .int .u8 sign] (H) (.tup []) (H.set b (rrow tx mo lf jn (takeF tx i c sign).1 (takeF tx i c sign).2)) := by
  refine semT' (S := (fun f => [106].contains f)) hm impl_reader_take_ok (Nat.le_of_ble_eq_true rfl) ?_
  unfold impl_reader_take; dsimp only
  have hb : b < H.length := (List.getElem?_eq_some_iff.1 hk).1
  have gs : ∀ x, (H.set b x)[b]? = some x := fun x => by simp [hb]
  simp [hk]
  refine br_intro' (fun u => ?_) (fun u => ?_) <;> (have u0 := u) <;> simp only [decide_eq_true_eq, decide_eq_false_iff_not] at u <;> simp [u0, u, hk]
  · repeat (refine ck_intro' (by first | omega | (simp; omega) | kernel_rfl) ?_; try simp [hk])
    refine br_intro' (fun u1 => ?_) (fun u1 => ?_) <;> (have u10 := u1) <;> simp only [decide_eq_true_eq, decide_eq_false_iff_not] at u1 <;> simp [u10, u1, hk]
    · refine row_call (b := b) rfl (impl_reader_fail_m H b tx mo lf jn i c 2 tx.size hk) ?_; simp
      rw [show failF i c 2 tx.size = ((tx.size : Int), 2) from if_pos (by omega), show takeF tx i c sign = (tx.size, 2) by simp [takeF, u]; omega]
      exact LeV.refl _ _ _
    have hju : i < tx.size := by omega
    simp [hju]
    repeat (refine ck_intro' (by first | omega | (simp; omega) | kernel_rfl) ?_; try simp [hk])
    refine br_intro' (fun u2 => ?_) (fun u2 => ?_) <;> (have u20 := u2) <;> simp only [decide_eq_true_eq, decide_eq_false_iff_not] at u2 <;> simp [u20, u2, hk]
    · rw [wrap_succ (n := i) (by omega), show takeF tx i c sign = (i + 1, 0) by simp [takeF, u, u2]; omega, u]
      exact LeV.refl _ _ _
    · refine row_call (b := b) rfl (impl_reader_fail_m H b tx mo lf jn i c 3 i hk) ?_; simp
      rw [show failF i c 3 i = ((i : Int), 3) from if_pos (by omega), show takeF tx i c sign = (i, 3) by simp [takeF, u, u2]; omega]
      exact LeV.refl _ _ _
  · rw [show takeF tx i c sign = (i, c) from if_pos u, rset_same hk]
    exact LeV.refl _ _ _
theorem peek_dg (tx : ByteArray) (j : Nat) : (decide (48 ≤ peekF tx j) && decide (peekF tx j ≤ 57)) = (decide (j < tx.size) && isDg (byt tx j)) := by
  unfold peekF
  by_cases h : tx.size ≤ j
  · rw [if_pos h]; simp; omega
  · rw [if_neg h]
    have : j < tx.size := by omega
    rw [Bool.eq_iff_iff]
    simp only [isDg, this, decide_true, Bool.true_and, Bool.and_eq_true, decide_eq_true_eq, bt]
    omega
theorem figV_neg {most : Nat} {l : List UInt8} (h : l = [] ∨ most < l.length ∨ lead0 l = true) : figV most l = -1 := if_pos h
theorem figV_pos {most : Nat} {l : List UInt8} (h0 : l ≠ []) (h1 : ¬ most < l.length) (h2 : lead0 l = false) : figV most l = valD l := if_neg (by simp [h0, h1, h2])
theorem impl_reader_figures_m (H : List Blk) (b : Nat) (tx mo : ByteArray) (lf jn : A) (i : Nat) (c : Int) (most : Nat) (hk : H[b]? = some (rrow tx mo lf jn i c)) (hs : tx.size ≤ 281474976710656) (hi : i ≤ tx.size) (hmo : most ≤ 18) : T 105 [rptr b, i6 most] (H) (i6 (figV most (dgRun tx i))) (H.set b (rrow tx mo lf jn (dEnd tx i) c)) := by
  refine semT' (S := (fun f => [107].contains f)) hm impl_reader_figures_ok (Nat.le_of_ble_eq_true rfl) ?_
  unfold impl_reader_figures; dsimp only
  have hb : b < H.length := (List.getElem?_eq_some_iff.1 hk).1
  have gs : ∀ x, (H.set b x)[b]? = some x := fun x => by simp [hb]
  simp [hk]
  refine WLoop_tell (H1 := H.set b (rrow tx mo lf jn i c)) (by rw [rset_same hk]; exact Le.refl _ _ _) ?_
  refine WLoop_fam (fun j : Nat => [(0, rptr b), (1, i6 most), (5, i6 i)]) (fun j => H.set b (rrow tx mo lf jn j c)) (fun j => tx.size - j)
    (fun j => i ≤ j ∧ j ≤ tx.size ∧ dEnd tx i = dEnd tx j) ?_ i ⟨Nat.le_refl _, hi, rfl⟩
  intro j ⟨hij, hj, hd⟩ ih
  simp [gs]
  refine same_call rfl (impl_reader_peek_m (H.set b (rrow tx mo lf jn j c)) b tx mo lf jn j c (gs _)) ?_; simp
  refine impl_isFigure_k (x := peekF tx j) rfl (by simp) (by simp) ?_; simp
  refine br_intro' (fun u => ?_) (fun u => ?_) <;> (have u0 := u) <;> simp [u0, gs]
  · rw [peek_dg] at u
    simp at u
    rw [wrap_succ (n := j) (by omega)]
    exact ih (j + 1) ⟨by omega, by omega, by rw [hd, dEnd_step u.1 u.2]⟩ (by omega)
  · rw [peek_dg] at u
    have he : dEnd tx i = j := by
      rw [hd]
      apply dEnd_stop
      rcases Nat.lt_or_ge j tx.size with g | g
      · right; simpa [g] using u
      · exact .inl g
    repeat (refine ck_intro' (by first | omega | (simp; omega) | kernel_rfl) ?_; try simp [gs])
    have hx := bl_extract hij hj
    have hl : bl (tx.extract i j) = dgRun tx i := by rw [hx, dgRun_take, he]
    have hsz : (tx.extract i j).size = (dgRun tx i).length := by rw [← hl]; simp
    have hdg := dgRun_dg tx i
    have hle := dEnd_le hi
    refine WCall_pure rfl (atoi_t (s := tx.extract i j) (by rw [hsz]; unfold dEnd at hle; omega)) (by simp) (by simp) (by simp) ?_; simp
    rw [hl]
    have hdig : ∀ h0 : dgRun tx i ≠ [], (dgRun tx i).length ≤ 18 → atoiV (dgRun tx i) = ((valD (dgRun tx i) : Int), false) := fun h0 h1 => atoi_dig h0 hdg h1
    have hnil : dgRun tx i = [] → atoiV (dgRun tx i) = (0, true) := fun h0 => by rw [h0]; rfl
    have hvl := valD_lt _ hdg
    have hij' : (dgRun tx i).length = j - i := by unfold dEnd at he; omega
    have hlead := fun h0 => @itoa_dig (dgRun tx i) h0 hdg
    generalize dgRun tx i = l at hl hsz hdg hdig hnil hvl hij' hlead ⊢
    refine br_intro' (fun e => ?_) (fun e => ?_) <;> (have e0 := e) <;> simp [e0]
    · rw [figV_neg (by
        by_cases h0 : l = []
        · exact .inl h0
        · right; left
          rcases Nat.lt_or_ge 18 l.length with g | g
          · omega
          · rw [hdig h0 g] at e; cases e), he]
      exact LeV.refl _ _ _
    · have h0 : l ≠ [] := fun h => by rw [hnil h] at e; cases e
      refine br_intro' (fun g => ?_) (fun g => ?_) <;> (have g0 := g) <;> simp only [decide_eq_true_eq, decide_eq_false_iff_not] at g <;> simp [g0]
      · rw [figV_neg (.inr (.inl (by omega))), he]
        exact LeV.refl _ _ _
      · have h18 : l.length ≤ 18 := by omega
        rw [hdig h0 h18]
        have hp : 10 ^ l.length ≤ 10 ^ 18 := Nat.pow_le_pow_right (by omega) h18
        have e18 : (10 : Nat) ^ 18 = 1000000000000000000 := by decide
        have hiff : (⟨(Lib.itoa (valD l : Int)).toArray⟩ : ByteArray) = tx.extract i j ↔ lead0 l = false := by
          rw [← hlead h0]
          constructor
          · intro q; rw [← q] at hl; simpa [bl] using hl
          · intro q; apply ba_ext; rw [hl]; simpa [bl] using q
        refine WCall_pure rfl (itoa_t (n := (valD l : Int)) (by omega) (by omega)) (by simp) (by simp) (by simp) ?_; simp
        refine br_intro' (fun k => ?_) (fun k => ?_) <;> (have k0 := k) <;> simp only [decide_eq_true_eq, decide_eq_false_iff_not] at k <;> simp [k0]
        · rw [figV_pos h0 (by omega) (hiff.1 k), he]
          exact LeV.refl _ _ _
        · rw [figV_neg (.inr (.inr (by cases hc : lead0 l with | true => rfl | false => exact absurd (hiff.2 hc) k))), he]
          exact LeV.refl _ _ _
end Go.Proofs.YtmlfacjgfjmdeaaDoor.C

set_option linter.unusedVariables false
set_option linter.unusedSimpArgs false
set_option maxRecDepth 4000
namespace Go.Proofs.YtmlfacjgfjmdeaaDoor.C
open Go.Sym Go.Proofs.YtmlfacjgfjmdeaaDoor.I
/-- A name's number behind its sign: it, the place, what is wrong. -/
def numF (tx : ByteArray) (i : Nat) (fr : Int) : Int × Int × Int := if 0 ≤ figV 9 (dgRun tx i) ∧ figV 9 (dgRun tx i) ≤ 199 then (figV 9 (dgRun tx i), (dEnd tx i : Int), 0) else (-1, fr, 4)
theorem impl_reader_number_m (H : List Blk) (b : Nat) (tx mo : ByteArray) (lf jn : A) (i : Nat) (fr : Int) (hk : H[b]? = some (rrow tx mo lf jn i 0)) (hs : tx.size ≤ 281474976710656) (hi : i ≤ tx.size) : T 75 [rptr b, i6 fr] (H) (i6 (numF tx i fr).1) (H.set b (rrow tx mo lf jn (numF tx i fr).2.1 (numF tx i fr).2.2)) := by
  refine semT' (S := (fun f => [105, 106].contains f)) hm impl_reader_number_ok (Nat.le_of_ble_eq_true rfl) ?_
  unfold impl_reader_number; dsimp only
  have hb : b < H.length := (List.getElem?_eq_some_iff.1 hk).1
  have gs : ∀ x, (H.set b x)[b]? = some x := fun x => by simp [hb]
  simp
  refine row_call (b := b) rfl (impl_reader_figures_m H b tx mo lf jn i 0 9 hk hs hi (by omega)) ?_; simp
  refine impl_inRange_k (x := figV 9 (dgRun tx i)) (lo := 0) (hi := 199) rfl (by simp) (by simp) ?_; simp
  refine br_intro' (fun u => ?_) (fun u => ?_) <;> (have u0 := u) <;> simp [u0]
  · rw [inF_iff] at u
    rw [show numF tx i fr = (figV 9 (dgRun tx i), (dEnd tx i : Int), 0) from if_pos u]
    exact LeV.refl _ _ _
  · have hn : ¬ (0 ≤ figV 9 (dgRun tx i) ∧ figV 9 (dgRun tx i) ≤ 199) := fun h => by rw [inF_iff.2 h] at u; cases u
    rw [show numF tx i fr = (-1, fr, 4) from if_neg hn]
    refine row_call (b := b) rfl (impl_reader_fail_m _ b tx mo lf jn (dEnd tx i) 0 4 fr (gs _)) ?_; simp [failF]
    exact LeV.refl _ _ _
/-- A letter behind its sign. -/
def letF (tx : ByteArray) (i : Nat) : Int × Nat × Int := if i + 1 < tx.size ∧ 97 ≤ bt tx (i + 1) ∧ bt tx (i + 1) ≤ 122 then (bt tx (i + 1) - 97, i + 2, 0) else (-1, i + 1, 3)
theorem impl_reader_letter_m (H : List Blk) (b : Nat) (tx mo : ByteArray) (lf jn : A) (i : Nat) (hk : H[b]? = some (rrow tx mo lf jn i 0)) (hs : tx.size ≤ 281474976710656) (hi : i ≤ tx.size) : T 76 [rptr b] (H) (i6 (letF tx i).1) (H.set b (rrow tx mo lf jn (letF tx i).2.1 (letF tx i).2.2)) := by
  refine semT' (S := (fun f => [107, 106].contains f)) hm impl_reader_letter_ok (Nat.le_of_ble_eq_true rfl) ?_
  unfold impl_reader_letter; dsimp only
  have hb : b < H.length := (List.getElem?_eq_some_iff.1 hk).1
  have gs : ∀ x, (H.set b x)[b]? = some x := fun x => by simp [hb]
  simp [hk]
  rw [wrap_succ (n := i) (by omega)]
  have e1 : ((i : Int) + 1) = ((i + 1 : Nat) : Int) := by push_cast; rfl
  rw [e1]
  refine same_call rfl (impl_reader_peek_m _ b tx mo lf jn (i + 1) 0 (gs _)) ?_; simp
  have hno : (peekF tx (i + 1) < 97 ∨ 122 < peekF tx (i + 1)) → letF tx i = (-1, i + 1, 3) := fun h => by
    refine if_neg fun ⟨g1, g2, g3⟩ => ?_
    have : peekF tx (i + 1) = bt tx (i + 1) := if_neg (by omega)
    omega
  refine br_intro' (fun u => ?_) (fun u => ?_) <;> (have u0 := u) <;> simp only [decide_eq_true_eq, decide_eq_false_iff_not] at u <;> simp [u0, gs]
  · rw [e1]
    refine row_call (b := b) rfl (impl_reader_fail_m _ b tx mo lf jn (i + 1 : Nat) 0 3 (i + 1 : Nat) (gs _)) ?_; simp [failF]
    rw [hno (.inl u)]
    simp
    exact LeV.refl _ _ _
  refine br_intro' (fun u1 => ?_) (fun u1 => ?_) <;> (have u10 := u1) <;> simp only [decide_eq_true_eq, decide_eq_false_iff_not] at u1 <;> simp [u10, gs]
  · rw [e1]
    refine row_call (b := b) rfl (impl_reader_fail_m _ b tx mo lf jn (i + 1 : Nat) 0 3 (i + 1 : Nat) (gs _)) ?_; simp [failF]
    rw [hno (.inr u1)]
    simp
    exact LeV.refl _ _ _
  have hlt : i + 1 < tx.size := by
    rcases Nat.lt_or_ge (i + 1) tx.size with g | g
    · exact g
    · have : peekF tx (i + 1) = 0 := if_pos g
      omega
  have hp : peekF tx (i + 1) = bt tx (i + 1) := if_neg (by omega)
  have hy : letF tx i = (bt tx (i + 1) - 97, i + 2, 0) := if_pos ⟨hlt, by omega, by omega⟩
  have hw1 : IntKind.u8.wrap (peekF tx (i + 1) - 97) = peekF tx (i + 1) - 97 := by
    show (peekF tx (i + 1) - 97) % 256 = _
    omega
  have hw2 : IntKind.i64.wrap (peekF tx (i + 1) - 97) = peekF tx (i + 1) - 97 := wrap64 (by omega) (by omega)
  rw [e1, wrap_succ (n := i + 1) (by omega), hw1, hw2, hy, hp]
  exact LeV.refl _ _ _
end Go.Proofs.YtmlfacjgfjmdeaaDoor.C
