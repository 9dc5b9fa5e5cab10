/- What the functions of the pool answer. Conditions: those that each theorem names. -/
import Derived.Test.YtijileoflejgpaaXI
import Derived.Test.YtijileoflejgpaaXSymU
import Derived.Test.YtijileoflejgpaaXSymW
import Derived.Test.YtijileoflejgpaaXSymTx
set_option linter.unusedVariables false
set_option linter.unusedSimpArgs false
namespace Go.Proofs.Ytijileoflejgpaa.C
open Go.Sym Go.Proofs.Ytijileoflejgpaa.I
def S0 : FuncId → Bool := fun _ => false
theorem hm : Go.Proofs.Try.prog.follows .mixedOrders = true := by kernel_rfl
abbrev T := SemT Go.Proofs.Try.prog

structure Nd where
  k : Int
  a : Int
  b : Int
deriving DecidableEq
theorem Nd_eq {x y : Nd} : x = y ↔ x.k = y.k ∧ x.a = y.a ∧ x.b = y.b := by cases x; cases y; simp
def encN (n : Nd) : List A := [i6 n.k, i6 n.a, i6 n.b]
def enc (ns : List Nd) : List A := ns.flatMap encN
theorem encN_len (n : Nd) : (encN n).length = 3 := rfl
@[simp] theorem enc_len (ns : List Nd) : (enc ns).length = ns.length * 3 := flat_len encN_len ns
@[simp] theorem enc_scals (ns : List Nd) : scals (enc ns) = true := scals_flat _ (fun _ => rfl) ns
theorem enc_at {ns : List Nd} {j : Nat} (h : j < ns.length) : ∃ r, (enc ns).drop (j * 3) = i6 ns[j].k :: i6 ns[j].a :: i6 ns[j].b :: r := flat_at encN_len (List.getElem?_eq_getElem h)
@[simp] theorem enc_view (n : Nat) (H : List Blk) (ns : List Nd) : viewL (viewA (n + 1) H) (enc ns) = some (enc ns) := viewL_scals _ (enc_scals ns)
@[simp] theorem enc_noOwns (ns : List Nd) : noOwns (enc ns) = true := noOwns_scals _ (enc_scals ns)
@[simp] theorem enc_nosls (ns : List Nd) : nosls (enc ns) = true := nosls_scals _ (enc_scals ns)
@[simp] theorem enc_shift (n : Nat) (ns : List Nd) : shiftAs n (enc ns) = enc ns := shiftAs_scals _ (enc_scals ns)
abbrev aN (n : Nd) : A := .agg [i6 n.k, i6 n.a, i6 n.b]
abbrev aP (ns : List Nd) : A := .agg [.sl ns.length (enc ns)]

def partsF (k : Int) : Int := if k = 1 then 0 else if k = 5 ∨ k = 7 then 1 else if k = 2 ∨ k = 3 ∨ k = 4 ∨ k = 6 ∨ k = 8 then 2 else -1

def inF (x lo hi : Int) : Bool := decide (lo ≤ x ∧ x ≤ hi)
theorem inF_iff {x lo hi : Int} : inF x lo hi = true ↔ lo ≤ x ∧ x ≤ hi := by simp [inF]
theorem spec_l1In_c (x lo hi : Int)  : T 39 [i6 x, i6 lo, i6 hi] [] (.bool (inF x lo hi)) ([]) := by
  refine semT' (S := S0) hm spec_l1In_ok (Nat.le_of_ble_eq_true rfl) ?_
  unfold spec_l1In; dsimp only
  simp
  by_cases h : lo ≤ x
  · simp [h]
    exact LeV.eq (by simp [inF, h]) rfl
  · simp [h]
    exact LeV.eq (by simp [inF, h]) rfl
theorem spec_l1In_call {x lo hi : Int}  {S : FuncId → Bool} {H : List Blk} {K : A → Dl → Prop} (hS : S 39 = false) (hK : K (.bool (inF x lo hi)) (.news [])) : @WCall' Go.Proofs.Try.prog S 39 [i6 x, i6 lo, i6 hi] H ⟨K⟩ :=
  WCall_pure hS (spec_l1In_c x lo hi) (by simp) (by simp) (by simp) hK
theorem spec_l1In_k {x lo hi : Int}  {S : FuncId → Bool} {H : List Blk} {K : A → Dl → Prop} {zs : List A} (hS : S 39 = false) (hv : viewL (viewA 8 H) zs = some [i6 x, i6 lo, i6 hi]) (ho : noOwns zs = true ∨ nosl (.bool (inF x lo hi)) = true) (hK : K (.bool (inF x lo hi)) (.news [])) : @WCall' Go.Proofs.Try.prog S 39 zs H ⟨K⟩ :=
  WCall_pure hS (spec_l1In_c x lo hi) hv ho (by simp) hK
theorem spec_l1Parts_c (x : Int)  : T 40 [i6 x] [] (i6 (partsF x)) ([]) := by
  refine semT' (S := S0) hm spec_l1Parts_ok (Nat.le_of_ble_eq_true rfl) ?_
  unfold spec_l1Parts; dsimp only
  simp
  repeat (any_goals (first | (refine br_intro' (fun h => ?_) (fun h => ?_) <;> (have h0 := h) <;> (try simp at h) <;> try simp [h0, h])))
  all_goals exact LeV.eq (by simp [partsF, *]) rfl
theorem spec_l1Parts_call {x : Int}  {S : FuncId → Bool} {H : List Blk} {K : A → Dl → Prop} (hS : S 40 = false) (hK : K (i6 (partsF x)) (.news [])) : @WCall' Go.Proofs.Try.prog S 40 [i6 x] H ⟨K⟩ :=
  WCall_pure hS (spec_l1Parts_c x) (by simp) (by simp) (by simp) hK
theorem spec_l1Parts_k {x : Int}  {S : FuncId → Bool} {H : List Blk} {K : A → Dl → Prop} {zs : List A} (hS : S 40 = false) (hv : viewL (viewA 8 H) zs = some [i6 x]) (ho : noOwns zs = true ∨ nosl (i6 (partsF x)) = true) (hK : K (i6 (partsF x)) (.news [])) : @WCall' Go.Proofs.Try.prog S 40 zs H ⟨K⟩ :=
  WCall_pure hS (spec_l1Parts_c x) hv ho (by simp) hK
def rightF (n : Nd) (many : Int) : Bool :=
  if partsF n.k = 0 then inF n.a 0 199 && decide (n.b = 0)
  else if partsF n.k = 1 then inF n.a 0 (many - 1) && decide (n.b = 0)
  else if partsF n.k = 2 then inF n.a 0 (many - 1) && inF n.b 0 (many - 1) && (decide (n.k ≠ 8) || decide (n.a ≤ n.b))
  else false
theorem spec_l1Right_c (n : Nd) (many : Int) (h1 : 0 ≤ many) (h2 : many < 9223372036854775808) : T 29 [aN n, i6 many] [] (.bool (rightF n many)) ([]) := by
  refine semT' (S := S0) hm spec_l1Right_ok (Nat.le_of_ble_eq_true rfl) ?_
  unfold spec_l1Right; dsimp only
  have hw : IntKind.i64.wrap (many - 1) = many - 1 := wrap64 (by omega) (by omega)
  simp [hw]
  repeat (any_goals (first | (refine br_intro' (fun h => ?_) (fun h => ?_) <;> (have h0 := h) <;> (try simp at h) <;> try simp [h0, h, hw]) | (refine spec_l1Parts_call rfl ?_; simp [hw]) | (refine spec_l1In_call rfl ?_; simp [hw])))
  all_goals exact LeV.ro rfl rfl (by first | (simp [rightF, *]; done) | (simp only [viewA, rightF]; simp only [if_neg ‹¬partsF n.k = 0›, if_neg ‹¬partsF n.k = 1›, if_pos ‹partsF n.k = 2›]; simp [*]))
theorem spec_l1Right_call {n : Nd} {many : Int} (h1 : 0 ≤ many) (h2 : many < 9223372036854775808) {S : FuncId → Bool} {H : List Blk} {K : A → Dl → Prop} (hS : S 29 = false) (hK : K (.bool (rightF n many)) (.news [])) : @WCall' Go.Proofs.Try.prog S 29 [aN n, i6 many] H ⟨K⟩ :=
  WCall_pure hS (spec_l1Right_c n many h1 h2) (by simp) (by simp) (by simp) hK
theorem spec_l1Right_k {n : Nd} {many : Int} (h1 : 0 ≤ many) (h2 : many < 9223372036854775808) {S : FuncId → Bool} {H : List Blk} {K : A → Dl → Prop} {zs : List A} (hS : S 29 = false) (hv : viewL (viewA 8 H) zs = some [aN n, i6 many]) (ho : noOwns zs = true ∨ nosl (.bool (rightF n many)) = true) (hK : K (.bool (rightF n many)) (.news [])) : @WCall' Go.Proofs.Try.prog S 29 zs H ⟨K⟩ :=
  WCall_pure hS (spec_l1Right_c n many h1 h2) hv ho (by simp) hK
def findF : List Nd → Nd → Int → Int
  | [], _, _ => -1
  | x :: xs, n, i => if x = n then i else findF xs n (i + 1)
theorem spec_l1Find_c (ns : List Nd) (n : Nd) (hl : ns.length < 9223372036854775807) : T 28 [aP ns, aN n] [] (i6 (findF ns n 0)) ([]) := by
  refine semT' (S := S0) hm spec_l1Find_ok (Nat.le_of_ble_eq_true rfl) ?_
  unfold spec_l1Find; dsimp only
  simp
  refine WLoop_fam (fun j : Nat => [(2, A.ptr 0 0 0), (3, A.ptr 1 0 0), (5, i6 j)]) (fun _ => [⟨0, false, 1, [A.sl ns.length (enc ns)], none⟩, ⟨0, false, 1, [i6 n.k, i6 n.a, i6 n.b], none⟩]) (fun j => ns.length - j)
    (fun j => j ≤ ns.length ∧ findF ns n 0 = findF (ns.drop j) n j) ?_ 0 ⟨Nat.zero_le _, rfl⟩
  intro j ⟨hj, hf⟩ ih
  simp
  refine br_intro' (fun h => ?_) (fun h => ?_) <;> (have h0 := h) <;> (try simp at h) <;> try simp [h0, h]
  · obtain ⟨r, hr⟩ := enc_at h
    have h3 : 3 ≤ ns.length * 3 - j * 3 := by omega
    have hd : ns.drop j = ns[j] :: ns.drop (j + 1) := List.drop_eq_getElem_cons h
    have hw : IntKind.i64.wrap ((j : Int) + 1) = j + 1 := wrap64 (by omega) (by omega)
    simp [h3, hr]
    have h' := h
    first | (refine ck_intro' (by kernel_rfl) ?_; try simp) | skip
    refine br_intro' (fun h => ?_) (fun h => ?_) <;> (have h0 := h) <;> (try simp at h) <;> try simp [h0, h, hr]
    · exact LeV.ro rfl rfl (by rw [hf, hd, findF, if_pos (Nd_eq.2 h)]; rfl)
    · rw [hw]
      refine ih (j + 1) ⟨h', ?_⟩ (by omega)
      rw [hf, hd, findF, if_neg (by rw [Nd_eq]; rintro ⟨a, b, c⟩; exact h a b c)]
      rfl
  · exact LeV.ro rfl rfl (by simp [hf, findF, List.drop_of_length_le h])
theorem spec_l1Find_call {ns : List Nd} {n : Nd} (hl : ns.length < 9223372036854775807) {S : FuncId → Bool} {H : List Blk} {K : A → Dl → Prop} (hS : S 28 = false) (hK : K (i6 (findF ns n 0)) (.news [])) : @WCall' Go.Proofs.Try.prog S 28 [aP ns, aN n] H ⟨K⟩ :=
  WCall_pure hS (spec_l1Find_c ns n hl) (by simp) (by simp) (by simp) hK
theorem spec_l1Find_k {ns : List Nd} {n : Nd} (hl : ns.length < 9223372036854775807) {S : FuncId → Bool} {H : List Blk} {K : A → Dl → Prop} {zs : List A} (hS : S 28 = false) (hv : viewL (viewA 8 H) zs = some [aP ns, aN n]) (ho : noOwns zs = true ∨ nosl (i6 (findF ns n 0)) = true) (hK : K (i6 (findF ns n 0)) (.news [])) : @WCall' Go.Proofs.Try.prog S 28 zs H ⟨K⟩ :=
  WCall_pure hS (spec_l1Find_c ns n hl) hv ho (by simp) hK
def okFrom (ns : List Nd) (j : Nat) : Bool := (List.range' j (ns.length - j)).all fun i => rightF (ns.getD i ⟨0, 0, 0⟩) i && decide (findF ns (ns.getD i ⟨0, 0, 0⟩) 0 = i)
theorem okFrom_at {ns : List Nd} {j : Nat} (h : j < ns.length) : okFrom ns j = (rightF ns[j] j && decide (findF ns ns[j] 0 = j) && okFrom ns (j + 1)) := by
  have : ns.length - j = (ns.length - (j + 1)) + 1 := by omega
  simp only [okFrom]
  rw [this, List.range'_succ, List.all_cons]
  simp [h]
theorem okFrom_end {ns : List Nd} {j : Nat} (h : ns.length ≤ j) : okFrom ns j = true := by simp [okFrom, Nat.sub_eq_zero_of_le h]
def poolF (ns : List Nd) : Bool := decide (ns.length ≤ 500) && okFrom ns 0
end Go.Proofs.Ytijileoflejgpaa.C

set_option linter.unusedVariables false
set_option linter.unusedSimpArgs false
namespace Go.Proofs.Ytijileoflejgpaa.C
open Go.Sym Go.Proofs.Ytijileoflejgpaa.I
@[simp] theorem enc_inAs (m : Nat) (ns : List Nd) : inAs m (enc ns) = true := inAs_scals _ (enc_scals ns)
@[simp] theorem enc_tells (H H' : List Blk) (g : List (Option Nat)) (ns : List Nd) : Tells H H' g (enc ns) (enc ns) := Tells_scals _ (enc_scals ns)
@[simp] theorem enc_one (ns : List Nd) : (enc ns).all A.one = true := one_scals _ (enc_scals ns)
theorem findF_ge (n : Nd) : ∀ (ns : List Nd) (i : Int), findF ns n i = -1 ∨ i ≤ findF ns n i
  | [], i => .inl rfl
  | x :: xs, i => by
    unfold findF
    split
    · exact .inr (Int.le_refl i)
    · rcases findF_ge n xs (i + 1) with h | h
      · exact .inl h
      · exact .inr (by omega)
theorem findF_first : ∀ (ns : List Nd) (j : Nat) (i : Int) (h : j < ns.length), 0 ≤ i → (findF ns ns[j] i = i + j ↔ ns[j] ∉ ns.take j)
  | x :: xs, 0, i, _, hi => by simp [findF]
  | x :: xs, j + 1, i, h, hi => by
    have hj : j < xs.length := by simpa using h
    have ih := findF_first xs j (i + 1) hj (by omega)
    simp only [List.getElem_cons_succ, List.take_succ_cons, List.mem_cons, not_or]
    unfold findF
    by_cases hx : x = xs[j]
    · rw [if_pos hx]
      simp [← hx]
      omega
    · rw [if_neg hx, show i + ((j + 1 : Nat) : Int) = i + 1 + j by push_cast; omega, ih]
      exact ⟨fun h => ⟨fun e => hx e.symm, h⟩, fun h => h.2⟩
theorem impl_inRange_c (x lo hi : Int)  : T 46 [i6 x, i6 lo, i6 hi] [] (.bool (inF x lo hi)) ([]) := by
  refine semT' (S := S0) hm impl_inRange_ok (Nat.le_of_ble_eq_true rfl) ?_
  unfold impl_inRange; dsimp only
  simp
  by_cases h : lo ≤ x
  · simp [h]
    exact LeV.eq (by simp [inF, h]) rfl
  · simp [h]
    exact LeV.eq (by simp [inF, h]) rfl
theorem impl_inRange_call {x lo hi : Int}  {S : FuncId → Bool} {H : List Blk} {K : A → Dl → Prop} (hS : S 46 = false) (hK : K (.bool (inF x lo hi)) (.news [])) : @WCall' Go.Proofs.Try.prog S 46 [i6 x, i6 lo, i6 hi] H ⟨K⟩ :=
  WCall_pure hS (impl_inRange_c x lo hi) (by simp) (by simp) (by simp) hK
theorem impl_inRange_k {x lo hi : Int}  {S : FuncId → Bool} {H : List Blk} {K : A → Dl → Prop} {zs : List A} (hS : S 46 = false) (hv : viewL (viewA 8 H) zs = some [i6 x, i6 lo, i6 hi]) (ho : noOwns zs = true ∨ nosl (.bool (inF x lo hi)) = true) (hK : K (.bool (inF x lo hi)) (.news [])) : @WCall' Go.Proofs.Try.prog S 46 zs H ⟨K⟩ :=
  WCall_pure hS (impl_inRange_c x lo hi) hv ho (by simp) hK
theorem impl_count_c (x : Int)  : T 45 [i6 x] [] (i6 (partsF x)) ([]) := by
  refine semT' (S := S0) hm impl_count_ok (Nat.le_of_ble_eq_true rfl) ?_
  unfold impl_count; dsimp only
  simp
  repeat (any_goals (first | (refine br_intro' (fun h => ?_) (fun h => ?_) <;> (have h0 := h) <;> (try simp at h) <;> try simp [h0, h])))
  all_goals exact LeV.eq (by simp [partsF, *]) rfl
theorem impl_count_call {x : Int}  {S : FuncId → Bool} {H : List Blk} {K : A → Dl → Prop} (hS : S 45 = false) (hK : K (i6 (partsF x)) (.news [])) : @WCall' Go.Proofs.Try.prog S 45 [i6 x] H ⟨K⟩ :=
  WCall_pure hS (impl_count_c x) (by simp) (by simp) (by simp) hK
theorem impl_count_k {x : Int}  {S : FuncId → Bool} {H : List Blk} {K : A → Dl → Prop} {zs : List A} (hS : S 45 = false) (hv : viewL (viewA 8 H) zs = some [i6 x]) (ho : noOwns zs = true ∨ nosl (i6 (partsF x)) = true) (hK : K (i6 (partsF x)) (.news [])) : @WCall' Go.Proofs.Try.prog S 45 zs H ⟨K⟩ :=
  WCall_pure hS (impl_count_c x) hv ho (by simp) hK
theorem impl_nodeOk_c (n : Nd) (many : Int) (h1 : 0 ≤ many) (h2 : many < 9223372036854775808) : T 41 [aN n, i6 many] [] (.bool (rightF n many)) ([]) := by
  refine semT' (S := S0) hm impl_nodeOk_ok (Nat.le_of_ble_eq_true rfl) ?_
  unfold impl_nodeOk; dsimp only
  have hw : IntKind.i64.wrap (many - 1) = many - 1 := wrap64 (by omega) (by omega)
  simp [hw]
  repeat (any_goals (first | (refine br_intro' (fun h => ?_) (fun h => ?_) <;> (have h0 := h) <;> (try simp at h) <;> try simp [h0, h, hw]) | (refine impl_count_call rfl ?_; simp [hw]) | (refine impl_inRange_call rfl ?_; simp [hw])))
  all_goals exact LeV.ro rfl rfl (by first | (simp [rightF, *]; done) | (simp only [viewA, rightF]; simp only [if_neg ‹¬partsF n.k = 0›, if_neg ‹¬partsF n.k = 1›, if_pos ‹partsF n.k = 2›]; simp [*]))
theorem impl_nodeOk_call {n : Nd} {many : Int} (h1 : 0 ≤ many) (h2 : many < 9223372036854775808) {S : FuncId → Bool} {H : List Blk} {K : A → Dl → Prop} (hS : S 41 = false) (hK : K (.bool (rightF n many)) (.news [])) : @WCall' Go.Proofs.Try.prog S 41 [aN n, i6 many] H ⟨K⟩ :=
  WCall_pure hS (impl_nodeOk_c n many h1 h2) (by simp) (by simp) (by simp) hK
theorem impl_nodeOk_k {n : Nd} {many : Int} (h1 : 0 ≤ many) (h2 : many < 9223372036854775808) {S : FuncId → Bool} {H : List Blk} {K : A → Dl → Prop} {zs : List A} (hS : S 41 = false) (hv : viewL (viewA 8 H) zs = some [aN n, i6 many]) (ho : noOwns zs = true ∨ nosl (.bool (rightF n many)) = true) (hK : K (.bool (rightF n many)) (.news [])) : @WCall' Go.Proofs.Try.prog S 41 zs H ⟨K⟩ :=
  WCall_pure hS (impl_nodeOk_c n many h1 h2) hv ho (by simp) hK
def keyN (n : Nd) : List Int := [n.k, n.a, n.b]
theorem keyN_inj {x y : Nd} : keyN x = keyN y ↔ x = y := by rw [Nd_eq]; simp [keyN]
@[simp] theorem keyN_len (n : Nd) : (keyN n).length = 3 := rfl
def mk1 (xs : List Nd) : List (List Int × Int) := xs.map fun n => (keyN n, 1)
theorem mcnt_mk1 (n : Nd) : ∀ (xs : List Nd), mcnt (mk1 xs) (keyN n) = if n ∈ xs then 1 else 0
  | [] => rfl
  | x :: xs => by
    by_cases h : n = x
    · subst h; simp [mk1, mcnt]
    · have hk : ¬ keyN n = keyN x := fun e => h (keyN_inj.1 e)
      have := mcnt_mk1 n xs
      simp only [mk1] at this
      simp [mk1, mcnt, hk, h, this]
theorem mcnt_cons (ks : List Int) (v : Int) (l : List (List Int × Int)) : mcnt ((ks, v) :: l) ks = v := by simp [mcnt]
theorem poolF_false {ns : List Nd} {j : Nat} (h : j < ns.length) (g : rightF ns[j] j = false ∨ ns[j] ∈ ns.take j) (hl : poolF ns = okFrom ns j) : poolF ns = false := by
  rw [hl, okFrom_at h]
  rcases g with g | g
  · simp [g]
  · have := findF_first ns j 0 h (Int.le_refl 0)
    rw [Int.zero_add] at this
    have e : decide (findF ns ns[j] 0 = j) = false := by simpa using fun e => this.1 e g
    simp [e]
theorem poolF_true {ns : List Nd} {j : Nat} (h : j < ns.length) (g : rightF ns[j] j = true) (k : ns[j] ∉ ns.take j) (hl : poolF ns = okFrom ns j) : poolF ns = okFrom ns (j + 1) := by
  have := findF_first ns j 0 h (Int.le_refl 0)
  rw [Int.zero_add] at this
  rw [hl, okFrom_at h, g]
  simp [this.2 k]
theorem key_fold (n : Nd) : [n.k, n.a, n.b] = keyN n := rfl
end Go.Proofs.Ytijileoflejgpaa.C

set_option linter.unusedVariables false
set_option linter.unusedSimpArgs false
namespace Go.Proofs.Ytijileoflejgpaa.C
open Go.Sym Go.Proofs.Ytijileoflejgpaa.I
abbrev pblk (ns : List Nd) : Blk := ⟨ns.length, decide (ns.length = 0), 3, enc ns, none⟩
abbrev pref (b : Nat) (ns : List Nd) : A := .ref b ns.length 0 ns.length
@[simp] theorem enc_take (ns : List Nd) : (enc ns).take (ns.length * 3) = enc ns := List.take_of_length_le (by simp)
@[simp] theorem enc_nil : enc [] = [] := rfl
theorem enc_snoc (ns : List Nd) (n : Nd) : enc (ns ++ [n]) = enc ns ++ [i6 n.k, i6 n.a, i6 n.b] := by simp [enc, encN]
mutual
theorem inA_mono {n m : Nat} (h : n ≤ m) : ∀ (x : A), inA n x = true → inA m x = true
  | .bool _, _ => rfl
  | .int _ _, _ => rfl
  | .str _, _ => rfl
  | .nil, _ => rfl
  | .nilp, _ => rfl
  | .ub, _ => rfl
  | .err _, _ => rfl
  | .nilf, _ => rfl
  | .stamp _ _ _ _, g => by simp [inA] at g ⊢; omega
  | .ref b _ _ _, g => by simp [inA] at g ⊢; omega
  | .ptr b _ _, g => by simp [inA] at g ⊢; omega
  | .mref b _, g => by simp [inA] at g ⊢; omega
  | .sl _ cs, g => by simp only [inA] at g ⊢; first | exact g | exact inAs_mono h cs g
  | .pt cs, g => by simp only [inA] at g ⊢; first | exact g | exact inAs_mono h cs g
  | .fn _ cs, g => by simp only [inA] at g ⊢; exact inAs_mono h cs g
  | .agg cs, g => by simp only [inA] at g ⊢; exact inAs_mono h cs g
  | .tup cs, g => by simp only [inA] at g ⊢; exact inAs_mono h cs g
theorem inAs_mono {n m : Nat} (h : n ≤ m) : ∀ (xs : List A), inAs n xs = true → inAs m xs = true
  | [], _ => rfl
  | x :: xs, g => by
    simp only [inAs, Bool.and_eq_true] at g ⊢
    exact ⟨inA_mono h x g.1, inAs_mono h xs g.2⟩
end
theorem Closed1_mono {n m : Nat} (h : n ≤ m) : ∀ (H : List Blk), Closed1 n H = true → Closed1 m H = true
  | [], _ => rfl
  | k :: H, g => by
    simp only [Closed1_cons, Bool.and_eq_true] at g ⊢
    exact ⟨inAs_mono h _ g.1, Closed1_mono h H g.2⟩
theorem Closed1_app {n : Nat} {T : List Blk} (g : Closed1 n T = true) : ∀ (H : List Blk), Closed1 n H = true → Closed1 n (H ++ T) = true
  | [], _ => g
  | k :: H, h => by
    simp only [List.cons_append, Closed1_cons, Bool.and_eq_true] at h ⊢
    exact ⟨h.1, Closed1_app g H h.2⟩
theorem Closed1_more {H T : List Blk} (h : Closed1 H.length H = true) (g : Closed1 (H.length + T.length) T = true) : Closed1 (H ++ T).length (H ++ T) = true := by
  rw [List.length_append]
  exact Closed1_app g _ (Closed1_mono (by omega) _ h)
theorem Closed1_box {H : List Blk} {k : Blk} (h : Closed1 H.length H = true) (g : inAs (H.length + 1) k.cs = true) : Closed1 (H ++ [k]).length (H ++ [k]) = true := by
  rw [List.length_append]
  exact Closed1_app (by simpa using g) _ (Closed1_mono (by simp) _ h)
theorem spec_l1Copy_c (ns : List Nd) (hl : ns.length ≤ 4294967296) : T 30 [aP ns] [] (.agg [pref 0 ns]) ([pblk ns]) := by
  refine semT' (S := S0) hm spec_l1Copy_ok (Nat.le_of_ble_eq_true rfl) ?_
  unfold spec_l1Copy; dsimp only
  have h1 : ((ns.length : Int)) * 24 ≤ 17592186044416 := by omega
  have h2 : (ns.length : Int) ≤ 4294967296 := by omega
  by_cases h0 : ns = []
  · subst h0
    simp
    first | (refine LeV.tell [none] ?_ ?_ ?_ <;> (simp; done)) | (refine LeV.tell [some 0] ?_ ?_ ?_ <;> (simp; done)) | (refine LeV.tell [some 1] ?_ ?_ ?_ <;> (simp; done)) | (refine LeV.tell [some 2] ?_ ?_ ?_ <;> (simp; done)) | (refine LeV.tell [some 3] ?_ ?_ ?_ <;> (simp; done)) | (refine LeV.tell [some 4] ?_ ?_ ?_ <;> (simp; done)) | (refine LeV.tell [some 5] ?_ ?_ ?_ <;> (simp; done)) | (refine LeV.tell [some 6] ?_ ?_ ?_ <;> (simp; done)) | (refine LeV.tell [some 7] ?_ ?_ ?_ <;> (simp; done)) | (refine LeV.tell [some 8] ?_ ?_ ?_ <;> (simp; done)) | (refine LeV.tell [some 9] ?_ ?_ ?_ <;> (simp; done)) | (refine LeV.tell [some 10] ?_ ?_ ?_ <;> (simp; done)) | (refine LeV.tell [some 11] ?_ ?_ ?_ <;> (simp; done)) | (refine LeV.tell [some 12] ?_ ?_ ?_ <;> (simp; done)) | (refine LeV.tell [some 13] ?_ ?_ ?_ <;> (simp; done)) | (refine LeV.tell [some 14] ?_ ?_ ?_ <;> (simp; done)) | (refine LeV.tell [some 15] ?_ ?_ ?_ <;> (simp; done))
  · simp [h0]
    refine ck_intro' (by omega) ?_; simp [h0]
    first | (refine LeV.tell [none] ?_ ?_ ?_ <;> (simp [h0]; done)) | (refine LeV.tell [some 0] ?_ ?_ ?_ <;> (simp [h0]; done)) | (refine LeV.tell [some 1] ?_ ?_ ?_ <;> (simp [h0]; done)) | (refine LeV.tell [some 2] ?_ ?_ ?_ <;> (simp [h0]; done)) | (refine LeV.tell [some 3] ?_ ?_ ?_ <;> (simp [h0]; done)) | (refine LeV.tell [some 4] ?_ ?_ ?_ <;> (simp [h0]; done)) | (refine LeV.tell [some 5] ?_ ?_ ?_ <;> (simp [h0]; done)) | (refine LeV.tell [some 6] ?_ ?_ ?_ <;> (simp [h0]; done)) | (refine LeV.tell [some 7] ?_ ?_ ?_ <;> (simp [h0]; done)) | (refine LeV.tell [some 8] ?_ ?_ ?_ <;> (simp [h0]; done)) | (refine LeV.tell [some 9] ?_ ?_ ?_ <;> (simp [h0]; done)) | (refine LeV.tell [some 10] ?_ ?_ ?_ <;> (simp [h0]; done)) | (refine LeV.tell [some 11] ?_ ?_ ?_ <;> (simp [h0]; done)) | (refine LeV.tell [some 12] ?_ ?_ ?_ <;> (simp [h0]; done)) | (refine LeV.tell [some 13] ?_ ?_ ?_ <;> (simp [h0]; done)) | (refine LeV.tell [some 14] ?_ ?_ ?_ <;> (simp [h0]; done)) | (refine LeV.tell [some 15] ?_ ?_ ?_ <;> (simp [h0]; done))
theorem spec_l1Copy_k {ns : List Nd} (hl : ns.length ≤ 4294967296) {S : FuncId → Bool} {H : List Blk} {K : A → Dl → Prop} {zs : List A} (hS : S 30 = false) (hv : viewL (viewA 8 H) zs = some [aP ns]) (ho : noOwns zs = true ∨ nosl (.agg [pref 0 ns]) = true ∧ noslBlks ([pblk ns]) = true) (hK : K (shiftA H.length (.agg [pref 0 ns])) (.news (([pblk ns]).map (shiftB H.length)))) : @WCall' Go.Proofs.Try.prog S 30 zs H ⟨K⟩ :=
  WCall_ro' hS hv (spec_l1Copy_c ns hl) rfl ho hK
theorem slices_Index_Node_c (ns : List Nd) (n : Nd) (hl : ns.length < 9223372036854775807) : T 47 [.sl ns.length (enc ns), aN n] [] (i6 (findF ns n 0)) ([]) := by
  refine semT' (S := S0) hm slices_Index_Node_ok (Nat.le_of_ble_eq_true rfl) ?_
  unfold slices_Index_Node; dsimp only
  simp
  refine WLoop_fam (fun j : Nat => [(0, A.sl ns.length (enc ns)), (3, A.ptr 0 0 0), (7, i6 ns.length), (8, i6 j)]) (fun _ => [⟨0, false, 1, [i6 n.k, i6 n.a, i6 n.b], none⟩]) (fun j => ns.length - j)
    (fun j => j ≤ ns.length ∧ findF ns n 0 = findF (ns.drop j) n j) ?_ 0 ⟨Nat.zero_le _, rfl⟩
  intro j ⟨hj, hf⟩ ih
  simp
  refine br_intro' (fun h => ?_) (fun h => ?_) <;> (have h0 := h) <;> (try simp at h) <;> try simp [h0, h]
  · obtain ⟨r, hr⟩ := enc_at h
    have h3 : 3 ≤ ns.length * 3 - j * 3 := by omega
    have hd : ns.drop j = ns[j] :: ns.drop (j + 1) := List.drop_eq_getElem_cons h
    have hw : IntKind.i64.wrap ((j : Int) + 1) = j + 1 := wrap64 (by omega) (by omega)
    have h' := h
    simp [h3, hr, h']
    first | (refine ck_intro' (by kernel_rfl) ?_; try simp) | skip
    refine br_intro' (fun h => ?_) (fun h => ?_) <;> (have h0 := h) <;> (try simp at h) <;> try simp [h0, h, hr]
    · exact LeV.ro rfl rfl (by rw [hf, hd, findF, if_pos (by rw [Nd_eq]; simp [h])]; rfl)
    · rw [hw]
      refine ih (j + 1) ⟨h', ?_⟩ (by omega)
      rw [hf, hd, findF, if_neg (by rw [Nd_eq]; rintro ⟨a, b, c⟩; exact h a.symm b.symm c.symm)]
      rfl
  · exact LeV.ro rfl rfl (by simp [hf, findF, List.drop_of_length_le h])
theorem slices_Index_Node_call {ns : List Nd} {n : Nd} (hl : ns.length < 9223372036854775807) {S : FuncId → Bool} {H : List Blk} {K : A → Dl → Prop} (hS : S 47 = false) (hK : K (i6 (findF ns n 0)) (.news [])) : @WCall' Go.Proofs.Try.prog S 47 [.sl ns.length (enc ns), aN n] H ⟨K⟩ :=
  WCall_pure hS (slices_Index_Node_c ns n hl) (by simp) (by simp) (by simp) hK
theorem slices_Index_Node_k {ns : List Nd} {n : Nd} (hl : ns.length < 9223372036854775807) {S : FuncId → Bool} {H : List Blk} {K : A → Dl → Prop} {zs : List A} (hS : S 47 = false) (hv : viewL (viewA 8 H) zs = some [.sl ns.length (enc ns), aN n]) (ho : noOwns zs = true ∨ nosl (i6 (findF ns n 0)) = true) (hK : K (i6 (findF ns n 0)) (.news [])) : @WCall' Go.Proofs.Try.prog S 47 zs H ⟨K⟩ :=
  WCall_pure hS (slices_Index_Node_c ns n hl) hv ho (by simp) hK
theorem impl_Pool_find_c (ns : List Nd) (r : List A) (n : Nd) (hl : ns.length < 9223372036854775807) : T 42 [.pt (.sl ns.length (enc ns) :: r), aN n] [] (i6 (findF ns n 0)) ([]) := by
  refine semT' (S := S0) hm impl_Pool_find_ok (Nat.le_of_ble_eq_true rfl) ?_
  unfold impl_Pool_find; dsimp only
  simp
  refine slices_Index_Node_k (ns := ns) (n := n) hl rfl (by simp) (by simp [noslBlks]) ?_; simp [shiftB]
  first | (refine ck_intro' (by kernel_rfl) ?_; try simp) | skip
  exact LeV.ro rfl rfl rfl
theorem impl_Pool_find_k {ns : List Nd} {r : List A} {n : Nd} (hl : ns.length < 9223372036854775807) {S : FuncId → Bool} {H : List Blk} {K : A → Dl → Prop} {zs : List A} (hS : S 42 = false) (hv : viewL (viewA 8 H) zs = some [.pt (.sl ns.length (enc ns) :: r), aN n]) (ho : noOwns zs = true ∨ nosl (i6 (findF ns n 0)) = true) (hK : K (i6 (findF ns n 0)) (.news [])) : @WCall' Go.Proofs.Try.prog S 42 zs H ⟨K⟩ :=
  WCall_pure hS (impl_Pool_find_c ns r n hl) hv ho (by simp) hK
/-- A node as it stands: a shared one with the lesser part first. -/
def normN (n : Nd) : Nd := if n.k = 8 then ⟨8, if n.b < n.a then n.b else n.a, if n.a < n.b then n.b else n.a⟩ else n
/-- What adding a node to a right pool comes to. -/
def addF (ns : List Nd) (n : Nd) : List Nd × Int :=
  if rightF (normN n) ns.length = false then (ns, -1)
  else if 0 ≤ findF ns (normN n) 0 then (ns, findF ns (normN n) 0)
  else if 500 ≤ ns.length then (ns, -1)
  else (ns ++ [normN n], ns.length)
/-- A heap in which a pool stands: its row nb, and what names it at place off of row b. -/
def pset (H : List Blk) (b off nb vb eb : Nat) (cb : List A) (ns : List Nd) : List Blk := (H.set nb (pblk ns)).set b ⟨vb, false, eb, cb.set off (pref nb ns), none⟩
structure PIn (H : List Blk) (b off nb : Nat) (cb : List A) : Prop where
  blt : b < H.length
  nlt : nb < H.length
  ne : b ≠ nb
  olt : off < cb.length
  cl : Closed1 H.length H = true
  inc : inAs H.length cb = true
  rest : ∃ r, ∀ G : List Blk, (∀ q, q < H.length → q ≠ b → q ≠ nb → G[q]? = H[q]?) → viewL (viewA 7 G) (cb.drop (off + 1)) = some r
@[simp] theorem pset_len (H : List Blk) (b off nb vb eb : Nat) (cb : List A) (ns : List Nd) : (pset H b off nb vb eb cb ns).length = H.length := by simp [pset]
section
variable {H : List Blk} {b off nb : Nat} {cb : List A} (h : PIn H b off nb cb) (vb eb : Nat) (ns : List Nd)
include h
theorem PIn.at_b : (pset H b off nb vb eb cb ns)[b]? = some ⟨vb, false, eb, cb.set off (pref nb ns), none⟩ := by simp [pset, h.blt]
theorem PIn.at_nb : (pset H b off nb vb eb cb ns)[nb]? = some (pblk ns) := by simp [pset, h.ne, h.nlt]
theorem PIn.closed : Closed1 H.length (pset H b off nb vb eb cb ns) = true := by
  refine Closed1_set ?_ _ _ (Closed1_set (by simp) _ _ h.cl)
  exact inAs_set (by simpa using h.nlt) _ _ h.inc
theorem PIn.set (ns' : List Nd) : ((pset H b off nb vb eb cb ns).set nb (pblk ns')).set b ⟨vb, false, eb, (cb.set off (pref nb ns)).set off (pref nb ns'), none⟩ = pset H b off nb vb eb cb ns' := by
  simp only [pset, List.set_set]
  rw [List.set_comm _ _ h.ne, List.set_set, List.set_set]
end
theorem impl_Pool_add_m (H : List Blk) (b off nb vb eb : Nat) (cb : List A) (ns : List Nd) (k a c : Int) (h : PIn H b off nb cb) (hl : ns.length ≤ 500) : T 32 [.ptr b vb off, i6 k, i6 a, i6 c] (pset H b off nb vb eb cb ns) (i6 (addF ns ⟨k, a, c⟩).2) (pset H b off nb vb eb cb (addF ns ⟨k, a, c⟩).1) := by
  refine semT' (S := S0) hm impl_Pool_add_ok (Nat.le_of_ble_eq_true rfl) ?_
  unfold impl_Pool_add; dsimp only
  have gb := h.at_b vb eb ns
  have gn := h.at_nb vb eb ns
  have hcl := h.closed vb eb ns
  have hset := h.set vb eb ns
  have hbl : b < (pset H b off nb vb eb cb ns).length := by simpa using h.blt
  have hnl : nb < (pset H b off nb vb eb cb ns).length := by simpa using h.nlt
  have hlen : (pset H b off nb vb eb cb ns).length = H.length := by simp
  rw [← hlen] at hcl
  obtain ⟨rr, hrr0⟩ := h.rest
  have hrr1 : ∀ T : List Blk, viewL (viewA 7 (pset H b off nb vb eb cb ns ++ T)) (cb.drop (off + 1)) = some rr := fun T => hrr0 _ fun q hq h1 h2 => by
    rw [get_left (by rw [hlen]; exact hq)]
    simp only [pset]
    rw [List.getElem?_set_ne (Ne.symm h1), List.getElem?_set_ne (Ne.symm h2)]
  generalize hG : pset H b off nb vb eb cb ns = G at gb gn hcl hset hbl hnl hlen hrr1 ⊢
  have hrr := hrr1
  have hd := set_drop cb off (pref nb ns) h.olt
  simp
  have gl : ∀ T : List Blk, (G ++ T)[b]? = _ := fun T => (get_left hbl).trans gb
  have gm : ∀ T : List Blk, (G ++ T)[nb]? = _ := fun T => (get_left hnl).trans gn
  have sm : ∀ (T : List Blk) x, (G ++ T).set nb x = _ := fun T x => set_left hnl x
  have sb : ∀ (T : List Blk) x y, (G.set nb x ++ T).set b y = _ := fun T x y => set_left (by simpa using hbl) y
  have gs : ∀ (T : List Blk) x, (G.set nb x ++ T)[b]? = _ := fun T x => (get_left (by simpa using hbl)).trans ((List.getElem?_set_ne h.ne.symm).trans gb)
  have g2 : ∀ (T : List Blk) x y, ((G.set nb x).set b y ++ T)[b]? = some y := fun T x y => (get_left (by simpa using hbl)).trans (by simp [hbl])
  have hd2 : ∀ p p' : A, ((cb.set off p).set off p').drop off = p' :: cb.drop (off + 1) := fun p p' => by rw [List.set_set]; exact set_drop cb off p' h.olt
  have hw : IntKind.i64.wrap (ns.length : Int) = ns.length := wrap64 (by omega) (by omega)
  have fin0 : ∀ (t : Int) (T : List Blk), addF ns ⟨k, a, c⟩ = (ns, t) → LeV G.length (i6 t) (G ++ T) (i6 (addF ns ⟨k, a, c⟩).2) (pset H b off nb vb eb cb (addF ns ⟨k, a, c⟩).1) := by
    intro t T e
    rw [e, hG]
    exact LeV.drop (Nat.le_refl _) hcl (by simp)
  have fin1 : ∀ (n : Nd) (T : List Blk), addF ns ⟨k, a, c⟩ = (ns ++ [n], (ns.length : Int)) → LeV G.length (i6 ns.length) ((G.set nb ⟨ns.length + 1, false, 3, enc ns ++ [i6 n.k, i6 n.a, i6 n.b], none⟩).set b ⟨vb, false, eb, cb.set off (.ref nb (ns.length + 1) 0 (ns.length + 1)), none⟩ ++ T) (i6 (addF ns ⟨k, a, c⟩).2) (pset H b off nb vb eb cb (addF ns ⟨k, a, c⟩).1) := by
    intro n T e
    have hs := hset (ns ++ [n])
    have hp : pblk (ns ++ [n]) = ⟨ns.length + 1, false, 3, enc ns ++ [i6 n.k, i6 n.a, i6 n.b], none⟩ := by simp [pblk, enc_snoc]
    have hq : pref nb (ns ++ [n]) = .ref nb (ns.length + 1) 0 (ns.length + 1) := by simp [pref]
    rw [List.set_set, hp, hq] at hs
    rw [e, hs]
    exact LeV.drop (by rw [pset_len, hlen]; exact Nat.le_refl _) (by rw [pset_len]; exact h.closed vb eb _) (by simp)
  refine br_intro' (fun hk => ?_) (fun hk => ?_) <;> simp at hk <;> simp [hk]
  · generalize hx : (if c < a then c else a) = x
    generalize hy : (if a < c then c else a) = y
    have hN : normN ⟨k, a, c⟩ = ⟨8, x, y⟩ := by simp [normN, hk, hx, hy]
    simp [gl, gm, hd]
    refine impl_nodeOk_call (n := ⟨8, x, y⟩) (by omega) (by omega) rfl ?_; simp
    first | (refine ck_intro' (by kernel_rfl) ?_; try simp) | skip
    refine br_intro' (fun g => ?_) (fun g => ?_) <;> simp [g]
    · refine impl_Pool_find_k (ns := ns) (r := rr) (n := ⟨8, x, y⟩) (by omega) rfl (by simp [gl, gm, hd, hrr]) (by simp) ?_; simp
      refine br_intro' (fun f => ?_) (fun f => ?_) <;> (have f0 := f) <;> simp at f <;> simp [f, gl, gm, hd]
      · exact fin0 _ _ (by simp only [addF, hN, g]; rw [if_neg (by simp), if_pos f])
      · refine br_intro' (fun q => ?_) (fun q => ?_) <;> simp at q <;> simp [q, gl, gm, hd]
        · exact fin0 _ _ (by simp only [addF, hN, g]; rw [if_neg (by simp), if_neg (by omega), if_pos (by omega)])
        · refine ck_intro' (by omega) ?_; simp [gl, gm, hd, sm, sb, gs]
          refine ck_intro' h.olt ?_; simp [gl, gm, hd, sm, sb, gs]
          first | (refine ck_intro' (by kernel_rfl) ?_; try simp [gl, gm, hd, sm, sb, gs, g2, h.olt, hw]) | skip
          exact fin1 ⟨8, x, y⟩ _ (by simp only [addF, hN, g]; rw [if_neg (by simp), if_neg (by omega), if_neg (by omega)])
    · exact fin0 _ _ (by simp [addF, hN, g])
  · have hN : normN ⟨k, a, c⟩ = ⟨k, a, c⟩ := by simp [normN, hk]
    simp [gl, gm, hd]
    refine impl_nodeOk_call (n := ⟨k, a, c⟩) (by omega) (by omega) rfl ?_; simp
    first | (refine ck_intro' (by kernel_rfl) ?_; try simp) | skip
    refine br_intro' (fun g => ?_) (fun g => ?_) <;> simp [g]
    · refine impl_Pool_find_k (ns := ns) (r := rr) (n := ⟨k, a, c⟩) (by omega) rfl (by simp [gl, gm, hd, hrr]) (by simp) ?_; simp
      refine br_intro' (fun f => ?_) (fun f => ?_) <;> (have f0 := f) <;> simp at f <;> simp [f, gl, gm, hd]
      · exact fin0 _ _ (by simp only [addF, hN, g]; rw [if_neg (by simp), if_pos f])
      · refine br_intro' (fun q => ?_) (fun q => ?_) <;> simp at q <;> simp [q, gl, gm, hd]
        · exact fin0 _ _ (by simp only [addF, hN, g]; rw [if_neg (by simp), if_neg (by omega), if_pos (by omega)])
        · refine ck_intro' (by omega) ?_; simp [gl, gm, hd, sm, sb, gs]
          refine ck_intro' h.olt ?_; simp [gl, gm, hd, sm, sb, gs]
          first | (refine ck_intro' (by kernel_rfl) ?_; try simp [gl, gm, hd, sm, sb, gs, g2, h.olt, hw]) | skip
          exact fin1 ⟨k, a, c⟩ _ (by simp only [addF, hN, g]; rw [if_neg (by simp), if_neg (by omega), if_neg (by omega)])
    · exact fin0 _ _ (by simp [addF, hN, g])
end Go.Proofs.Ytijileoflejgpaa.C

set_option linter.unusedVariables false
set_option linter.unusedSimpArgs false
namespace Go.Proofs.Ytijileoflejgpaa.C
open Go.Sym Go.Proofs.Ytijileoflejgpaa.I
theorem pset_pset {H : List Blk} {b off nb : Nat} {cb : List A} (h : PIn H b off nb cb) (vb eb : Nat) (ns ns' : List Nd) : pset (pset H b off nb vb eb cb ns) b off nb vb eb cb ns' = pset H b off nb vb eb cb ns' := by
  simp only [pset]
  rw [List.set_comm _ _ h.ne, List.set_set, List.set_set]
theorem pset_other {H : List Blk} {b off nb : Nat} {cb : List A} (vb eb : Nat) (ns : List Nd) {q : Nat} (h1 : q ≠ b) (h2 : q ≠ nb) : (pset H b off nb vb eb cb ns)[q]? = H[q]? := by
  simp only [pset]
  rw [List.getElem?_set_ne (Ne.symm h1), List.getElem?_set_ne (Ne.symm h2)]
theorem PIn.pset {H : List Blk} {b off nb : Nat} {cb : List A} (h : PIn H b off nb cb) (vb eb : Nat) (ns : List Nd) : PIn (C.pset H b off nb vb eb cb ns) b off nb cb :=
  ⟨by simpa using h.blt, by simpa using h.nlt, h.ne, h.olt, by simpa using h.closed vb eb ns, by simpa using h.inc, h.rest.imp fun r hr G hG => hr G fun q h0 h1 h2 => (hG q (by simpa using h0) h1 h2).trans (pset_other vb eb ns h1 h2)⟩
theorem addF_len (ns : List Nd) (n : Nd) (h : ns.length ≤ 500) : (addF ns n).1.length ≤ 500 := by
  unfold addF
  split
  · exact h
  · split
    · exact h
    · split
      · exact h
      · simp; omega
/-- A method that turns a pool, called where a pool stands. -/
theorem pool_call {f : FuncId} {S : FuncId → Bool} {G : List Blk} {K : A → Dl → Prop} (hS : S f = true) (b off nb vb eb : Nat) (cb : List A) (ns ns' : List Nd) {zs : List A} {r : A} (h : PIn G b off nb cb) (hG : pset G b off nb vb eb cb ns = G)
    (hf : T f zs (pset G b off nb vb eb cb ns) r (pset G b off nb vb eb cb ns')) (hK : K r (.full [nb, b] (pset G b off nb vb eb cb ns'))) : @WCall' Go.Proofs.Try.prog S f zs G ⟨K⟩ := by
  rw [hG] at hf
  refine WCall_t' hS [nb, b] hf (by simp) (fun q hq _ => ?_) hK
  simp at hq
  exact pset_other vb eb ns' hq.2 hq.1
theorem impl_Pool_name_m (H : List Blk) (b off nb vb eb : Nat) (cb : List A) (ns : List Nd) (x : Int) (h : PIn H b off nb cb) (hl : ns.length ≤ 500) : T 13 [.ptr b vb off, i6 x] (pset H b off nb vb eb cb ns) (i6 (addF ns ⟨1, x, 0⟩).2) (pset H b off nb vb eb cb (addF ns ⟨1, x, 0⟩).1) := by
  refine semT' (S := (fun f => [32].contains f)) hm impl_Pool_name_ok (Nat.le_of_ble_eq_true rfl) ?_
  unfold impl_Pool_name; dsimp only
  simp
  refine pool_call rfl b off nb vb eb cb ns (addF ns ⟨1, x, 0⟩).1 (h.pset vb eb ns) (pset_pset h vb eb ns ns) (by rw [pset_pset h, pset_pset h]; exact impl_Pool_add_m H b off nb vb eb cb ns 1 x 0 h hl) ?_
  simp [pset_pset h]
  exact LeV.refl _ _ _
/-- What a link's word comes to. -/
def sealF (ns : List Nd) (key seq t : Int) : List Nd × Int :=
  let p := addF ns ⟨1, IntKind.i64.wrap (20 + seq), 0⟩
  let q := addF p.1 ⟨2, p.2, t⟩
  addF q.1 ⟨3, q.2, key⟩
theorem sealF_len (ns : List Nd) (key seq t : Int) (h : ns.length ≤ 500) : (sealF ns key seq t).1.length ≤ 500 := addF_len _ _ (addF_len _ _ (addF_len _ _ h))
end Go.Proofs.Ytijileoflejgpaa.C

set_option linter.unusedVariables false
set_option linter.unusedSimpArgs false
namespace Go.Proofs.Ytijileoflejgpaa.C
open Go.Sym Go.Proofs.Ytijileoflejgpaa.I
def ints (xs : List Int) : List A := xs.map i6
@[simp] theorem ints_len (xs : List Int) : (ints xs).length = xs.length := List.length_map ..
@[simp] theorem ints_scals (xs : List Int) : scals (ints xs) = true := scals_map _ (fun _ => rfl) xs
@[simp] theorem ints_view (n : Nat) (H : List Blk) (xs : List Int) : viewL (viewA (n + 1) H) (ints xs) = some (ints xs) := viewL_scals _ (ints_scals xs)
@[simp] theorem ints_noOwns (xs : List Int) : noOwns (ints xs) = true := noOwns_scals _ (ints_scals xs)
@[simp] theorem ints_nosls (xs : List Int) : nosls (ints xs) = true := nosls_scals _ (ints_scals xs)
@[simp] theorem ints_shift (n : Nat) (xs : List Int) : shiftAs n (ints xs) = ints xs := shiftAs_scals _ (ints_scals xs)
@[simp] theorem ints_get (xs : List Int) (j : Nat) (h : j < (ints xs).length) : (ints xs)[j] = i6 (xs[j]'(by simpa using h)) := by simp [ints]
theorem ints_at {xs : List Int} {j : Nat} (h : j < xs.length) : (ints xs)[j]? = some (i6 xs[j]) := by simp [ints, h]
structure Lk where
  key : Int
  epoch : Int
  seq : Int
  over : Bool
  deriving DecidableEq
abbrev aL (l : Lk) : A := .agg [i6 l.key, i6 l.epoch, i6 l.seq, .bool l.over]
abbrev aI (xs : List Int) : A := .sl xs.length (ints xs)
structure St where
  pool : List Nd
  know : List Int
  out : Lk
  inn : Lk
  sent : List Int
  got : List Int
abbrev cS (s : St) : List A := [.sl s.pool.length (enc s.pool), aI s.know, i6 s.out.key, i6 s.out.epoch, i6 s.out.seq, .bool s.out.over, i6 s.inn.key, i6 s.inn.epoch, i6 s.inn.seq, .bool s.inn.over, aI s.sent, aI s.got]
abbrev aS (s : St) : A := .agg (cS s)
def hasF (m : Nat) (t : Int) : Bool := inF t 0 ((m : Int) - 1)
def linkF (m : Nat) (l : Lk) : Bool := hasF m l.key && inF l.epoch 0 20 && inF l.seq 0 20
def allF (p : Nat → Bool) (n j : Nat) : Bool := (List.range' j (n - j)).all p
theorem allF_at {p : Nat → Bool} {n j : Nat} (h : j < n) : allF p n j = (p j && allF p n (j + 1)) := by
  have : n - j = (n - (j + 1)) + 1 := by omega
  simp only [allF]
  rw [this, List.range'_succ, List.all_cons]
theorem allF_end {p : Nat → Bool} {n j : Nat} (h : n ≤ j) : allF p n j = true := by simp [allF, Nat.sub_eq_zero_of_le h]
def kn (m : Nat) (ks : List Int) (i : Nat) : Bool := hasF m (ks.getD i 0) && (decide (i = 0) || decide (ks.getD (i - 1) 0 < ks.getD i 0))
def knowF (m : Nat) (ks : List Int) : Bool := allF (kn m ks) ks.length 0 && decide (ks.length ≤ 200)
def kpF (ns : List Nd) (ks : List Int) : Bool := poolF ns && knowF ns.length ks
def lkF (ns : List Nd) (l : Lk) : Bool := poolF ns && linkF ns.length l
def termsF (m : Nat) (ks : List Int) : Bool := allF (fun i => hasF m (ks.getD i 0)) ks.length 0 && decide (ks.length ≤ 60)
theorem wrap_len {n : Nat} (h : n < 9223372036854775807) : IntKind.i64.wrap ((n : Int) - 1) = n - 1 := wrap64 (by omega) (by omega)
theorem wrap_succ {n : Nat} (h : n < 9223372036854775807) : IntKind.i64.wrap ((n : Int) + 1) = n + 1 := wrap64 (by omega) (by omega)

structure St.fit (s : St) : Prop where
  p : s.pool.length < 9223372036854775807
  k : s.know.length < 9223372036854775807
  t : s.sent.length < 9223372036854775807
  g : s.got.length < 9223372036854775807
def streamF (s : St) : Bool := kpF s.pool s.know && linkF s.pool.length s.out && linkF s.pool.length s.inn && termsF s.pool.length s.sent && termsF s.pool.length s.got
end Go.Proofs.Ytijileoflejgpaa.C

set_option linter.unusedVariables false
set_option linter.unusedSimpArgs false
namespace Go.Proofs.Ytijileoflejgpaa.C
open Go.Sym Go.Proofs.Ytijileoflejgpaa.I
@[simp] theorem enc_take3 (ns : List Nd) (a b c : A) : (enc ns ++ [a, b, c]).take ((ns.length + 1) * 3) = enc ns ++ [a, b, c] := List.take_of_length_le (by simp; omega)
@[simp] theorem enc_view3 (n : Nat) (H : List Blk) (ns : List Nd) (a b c : Int) : viewL (viewA (n + 1) H) (enc ns ++ [i6 a, i6 b, i6 c]) = some (enc ns ++ [i6 a, i6 b, i6 c]) := viewL_scals _ (by simp [scals_app, scals, scal])
def orE (ns : List Nd) : List Nd := if poolF ns then ns else []
theorem poolF_len {ns : List Nd} (h : poolF ns = true) : ns.length ≤ 500 := by
  unfold poolF at h
  simp at h
  exact h.1
theorem okFrom_all {ns : List Nd} (h : poolF ns = true) {j : Nat} (hj : j < ns.length) : rightF ns[j] j = true ∧ ns[j] ∉ ns.take j := by
  simp only [poolF, okFrom, Bool.and_eq_true, List.all_eq_true] at h
  have := h.2 j (by simp [List.mem_range']; omega)
  simp [hj] at this
  refine ⟨this.1, ?_⟩
  have := (findF_first ns j 0 hj (Int.le_refl 0)).1 (by rw [Int.zero_add]; exact this.2)
  exact this
theorem rightF_mono {n : Nd} {a b : Int} (h : rightF n a = true) (hab : a ≤ b) : rightF n b = true := by
  unfold rightF at h ⊢
  split
  · rename_i h0; rw [if_pos h0] at h; exact h
  · rename_i h0
    rw [if_neg h0] at h
    split
    · rename_i h1
      rw [if_pos h1] at h
      simp [inF] at h ⊢
      exact ⟨⟨h.1.1, by omega⟩, h.2⟩
    · rename_i h1
      rw [if_neg h1] at h
      split
      · rename_i h2
        rw [if_pos h2] at h
        simp [inF] at h ⊢
        exact ⟨⟨⟨h.1.1.1, by omega⟩, ⟨h.1.2.1, by omega⟩⟩, h.2⟩
      · rename_i h2; rw [if_neg h2] at h; cases h
theorem findF_at : ∀ (ns : List Nd) (n : Nd) (i : Nat), 0 ≤ findF ns n i → ∃ j : Nat, ∃ h : j < ns.length, findF ns n i = i + j ∧ ns[j] = n
  | [], n, i, h => by simp [findF] at h
  | x :: xs, n, i, h => by
    unfold findF at h ⊢
    by_cases e : x = n
    · rw [if_pos e]; exact ⟨0, by simp, by simp, by simpa using e⟩
    · rw [if_neg e] at h ⊢
      obtain ⟨j, h1, h2, h3⟩ := findF_at xs n (i + 1) (by simpa using h)
      exact ⟨j + 1, by simp; omega, by push_cast at h2 ⊢; omega, by simpa using h3⟩
theorem find_right {ns : List Nd} {n : Nd} (hp : poolF ns = true) (h : 0 ≤ findF ns n 0) : rightF n ns.length = true := by
  obtain ⟨j, hj, _, rfl⟩ := findF_at ns n 0 h
  exact rightF_mono (okFrom_all hp hj).1 (by omega)
theorem findF_none {ns : List Nd} {n : Nd} (i : Int) (hi : 0 ≤ i) (h : n ∉ ns) : findF ns n i = -1 := by
  induction ns generalizing i with
  | nil => rfl
  | cons x xs ih =>
    simp only [List.mem_cons, not_or] at h
    unfold findF
    rw [if_neg (fun e => h.1 e.symm)]
    exact ih (i + 1) (by omega) h.2
theorem findF_mem {ns : List Nd} {n : Nd} (h : n ∈ ns) : 0 ≤ findF ns n 0 := by
  have : ∀ (ns : List Nd) (i : Int), 0 ≤ i → n ∈ ns → 0 ≤ findF ns n i := by
    intro ns
    induction ns with
    | nil => intro i _ h; cases h
    | cons x xs ih =>
      intro i hi h
      unfold findF
      by_cases e : x = n
      · rw [if_pos e]; exact hi
      · rw [if_neg e]; exact ih (i + 1) (by omega) (by rcases List.mem_cons.1 h with h | h; exact absurd h.symm e; exact h)
  exact this ns 0 (Int.le_refl 0) h
theorem addF_ge (ns : List Nd) (n : Nd) : ns.length ≤ (addF ns n).1.length := by
  unfold addF
  split
  · exact Nat.le_refl _
  · split
    · exact Nat.le_refl _
    · split
      · exact Nat.le_refl _
      · simp
theorem addF_pool {ns : List Nd} (n : Nd) (hp : poolF ns = true) : poolF (addF ns n).1 = true := by
  unfold addF
  split
  · exact hp
  · rename_i h1
    split
    · exact hp
    · rename_i h2
      split
      · exact hp
      · rename_i h3
        generalize normN n = m at h1 h2 h3 ⊢
        have hm : m ∉ ns := fun hm => h2 (findF_mem hm)
        have hr : rightF m ns.length = true := by simpa using h1
        have hl := poolF_len hp
        simp only [poolF, okFrom, Bool.and_eq_true, List.all_eq_true, decide_eq_true_eq]
        refine ⟨by simp; omega, fun j hj => ?_⟩
        have hj' : j < ns.length + 1 := by simp [List.mem_range'] at hj; omega
        have key : ∀ (hjl : j < (ns ++ [m]).length), rightF (ns ++ [m])[j] j = true ∧ (ns ++ [m])[j] ∉ (ns ++ [m]).take j := by
          intro hjl
          rcases Nat.lt_or_ge j ns.length with h | h
          · rw [List.getElem_append_left h, List.take_append_of_le_length (by omega)]
            exact okFrom_all hp h
          · have : j = ns.length := by omega
            subst this
            simp [hr, hm]
        obtain ⟨k1, k2⟩ := key (by simp; omega)
        have h5 : (ns ++ [m]).getD j ⟨0, 0, 0⟩ = (ns ++ [m])[j]'(by simp; omega) := by simp [List.getD_eq_getElem?_getD, List.getElem?_eq_getElem (show j < (ns ++ [m]).length by simp; omega)]
        have h6 := (findF_first (ns ++ [m]) j 0 (by simp; omega) (Int.le_refl 0)).2 k2
        rw [Int.zero_add] at h6
        rw [h5, k1, h6]
        simp
theorem spec_l1Add_c (ns : List Nd) (n : Nd) (hp : poolF ns = true) : T 11 [aP ns, aN n] [] (.tup [aP (addF ns n).1, i6 (addF ns n).2]) ([]) := by
  refine semT' (S := S0) hm spec_l1Add_ok (Nat.le_of_ble_eq_true rfl) ?_
  unfold spec_l1Add; dsimp only
  have hl := poolF_len hp
  have hw : IntKind.i64.wrap (ns.length : Int) = ns.length := wrap64 (by omega) (by omega)
  have fin : ∀ m : Nd, normN n = m → (addF ns n) = if 0 ≤ findF ns m 0 then (ns, findF ns m 0) else if rightF m ns.length = false then (ns, -1) else if 500 ≤ ns.length then (ns, -1) else (ns ++ [m], (ns.length : Int)) := by
    intro m hm
    unfold addF
    rw [hm]
    by_cases h1 : 0 ≤ findF ns m 0
    · rw [if_neg (by rw [find_right hp h1]; simp), if_pos h1, if_pos h1]
    · rw [if_neg h1, if_neg h1]
  simp
  refine br_intro' (fun hk => ?_) (fun hk => ?_) <;> simp at hk <;> simp [hk]
  · refine br_intro' (fun hb => ?_) (fun hb => ?_) <;> simp at hb <;> simp [hb]
    · have hm : normN n = ⟨8, n.b, n.a⟩ := by simp [normN, hk, hb]; omega
      refine spec_l1Find_call (ns := ns) (n := ⟨8,n.b,n.a⟩) (by omega) rfl ?_; simp
      refine br_intro' (fun f => ?_) (fun f => ?_) <;> (have f0 := f) <;> simp at f <;> simp [f]
      · exact LeV.ro rfl rfl (by rw [fin _ hm, if_pos f]; simp)
      · refine spec_l1Right_call (n := ⟨8,n.b,n.a⟩) (many := ns.length) (by omega) (by omega) rfl ?_; simp
        refine br_intro' (fun g => ?_) (fun g => ?_) <;> simp [g]
        · refine br_intro' (fun q => ?_) (fun q => ?_) <;> simp at q <;> simp [q]
          · exact LeV.ro rfl rfl (by rw [fin _ hm, if_neg (by omega), if_neg (by rw [g]; simp), if_pos (by omega)]; simp)
          · refine spec_l1Copy_k (ns := ns) (by omega) rfl (by simp) (by simp [noslBlks]) ?_; simp [shiftB]
            refine ck_intro' (by omega) ?_; simp
            first | (refine ck_intro' (by kernel_rfl) ?_; try simp) | skip
            have h33 : (ns.length + 1) * 3 ≤ ns.length * 3 + 3 := by omega
            exact LeV.ro rfl rfl (by rw [fin _ hm, if_neg (by omega), if_neg (by rw [g]; simp), if_neg (by omega)]; simp [enc_snoc, h33])
        · exact LeV.ro rfl rfl (by rw [fin _ hm, if_neg (by omega), if_pos g]; simp)
    · have hm : normN n = ⟨8, n.a, n.b⟩ := by
        simp only [normN, hk, if_true]
        rw [if_neg (by omega)]
        by_cases e : n.a < n.b
        · rw [if_pos e]
        · rw [if_neg e]; congr 1; omega
      refine spec_l1Find_call (ns := ns) (n := ⟨8,n.a,n.b⟩) (by omega) rfl ?_; simp
      refine br_intro' (fun f => ?_) (fun f => ?_) <;> (have f0 := f) <;> simp at f <;> simp [f]
      · exact LeV.ro rfl rfl (by rw [fin _ hm, if_pos f]; simp)
      · refine spec_l1Right_call (n := ⟨8,n.a,n.b⟩) (many := ns.length) (by omega) (by omega) rfl ?_; simp
        refine br_intro' (fun g => ?_) (fun g => ?_) <;> simp [g]
        · refine br_intro' (fun q => ?_) (fun q => ?_) <;> simp at q <;> simp [q]
          · exact LeV.ro rfl rfl (by rw [fin _ hm, if_neg (by omega), if_neg (by rw [g]; simp), if_pos (by omega)]; simp)
          · refine spec_l1Copy_k (ns := ns) (by omega) rfl (by simp) (by simp [noslBlks]) ?_; simp [shiftB]
            refine ck_intro' (by omega) ?_; simp
            first | (refine ck_intro' (by kernel_rfl) ?_; try simp) | skip
            have h33 : (ns.length + 1) * 3 ≤ ns.length * 3 + 3 := by omega
            exact LeV.ro rfl rfl (by rw [fin _ hm, if_neg (by omega), if_neg (by rw [g]; simp), if_neg (by omega)]; simp [enc_snoc, h33])
        · exact LeV.ro rfl rfl (by rw [fin _ hm, if_neg (by omega), if_pos g]; simp)
  · have hm : normN n = ⟨n.k, n.a, n.b⟩ := by simp [normN, hk]
    refine spec_l1Find_call (ns := ns) (n := ⟨n.k,n.a,n.b⟩) (by omega) rfl ?_; simp
    refine br_intro' (fun f => ?_) (fun f => ?_) <;> (have f0 := f) <;> simp at f <;> simp [f]
    · exact LeV.ro rfl rfl (by rw [fin _ hm, if_pos f]; simp)
    · refine spec_l1Right_call (n := ⟨n.k,n.a,n.b⟩) (many := ns.length) (by omega) (by omega) rfl ?_; simp
      refine br_intro' (fun g => ?_) (fun g => ?_) <;> simp [g]
      · refine br_intro' (fun q => ?_) (fun q => ?_) <;> simp at q <;> simp [q]
        · exact LeV.ro rfl rfl (by rw [fin _ hm, if_neg (by omega), if_neg (by rw [g]; simp), if_pos (by omega)]; simp)
        · refine spec_l1Copy_k (ns := ns) (by omega) rfl (by simp) (by simp [noslBlks]) ?_; simp [shiftB]
          refine ck_intro' (by omega) ?_; simp
          first | (refine ck_intro' (by kernel_rfl) ?_; try simp) | skip
          have h33 : (ns.length + 1) * 3 ≤ ns.length * 3 + 3 := by omega
          exact LeV.ro rfl rfl (by rw [fin _ hm, if_neg (by omega), if_neg (by rw [g]; simp), if_neg (by omega)]; simp [enc_snoc, h33])
      · exact LeV.ro rfl rfl (by rw [fin _ hm, if_neg (by omega), if_pos g]; simp)
theorem spec_l1Add_call {ns : List Nd} {n : Nd} (hp : poolF ns = true) {S : FuncId → Bool} {H : List Blk} {K : A → Dl → Prop} (hS : S 11 = false) (hK : K (.tup [aP (addF ns n).1, i6 (addF ns n).2]) (.news [])) : @WCall' Go.Proofs.Try.prog S 11 [aP ns, aN n] H ⟨K⟩ :=
  WCall_pure hS (spec_l1Add_c ns n hp) (by simp) (by simp) (by simp) hK
theorem spec_l1Add_k {ns : List Nd} {n : Nd} (hp : poolF ns = true) {S : FuncId → Bool} {H : List Blk} {K : A → Dl → Prop} {zs : List A} (hS : S 11 = false) (hv : viewL (viewA 8 H) zs = some [aP ns, aN n]) (ho : noOwns zs = true ∨ nosl (.tup [aP (addF ns n).1, i6 (addF ns n).2]) = true) (hK : K (.tup [aP (addF ns n).1, i6 (addF ns n).2]) (.news [])) : @WCall' Go.Proofs.Try.prog S 11 zs H ⟨K⟩ :=
  WCall_pure hS (spec_l1Add_c ns n hp) hv ho (by simp) hK
theorem spec_l2Name_c (ns : List Nd) (x : Int) (hp : poolF ns = true) : T 9 [aP ns, i6 x] [] (.tup [aP (addF ns ⟨1, x, 0⟩).1, i6 (addF ns ⟨1, x, 0⟩).2]) ([]) := by
  refine semT' (S := S0) hm spec_l2Name_ok (Nat.le_of_ble_eq_true rfl) ?_
  unfold spec_l2Name; dsimp only
  simp
  refine spec_l1Add_call (n := ⟨1, x, 0⟩) hp rfl ?_; simp
  exact LeV.ro rfl rfl (by simp)
theorem spec_l2Name_call {ns : List Nd} {x : Int} (hp : poolF ns = true) {S : FuncId → Bool} {H : List Blk} {K : A → Dl → Prop} (hS : S 9 = false) (hK : K (.tup [aP (addF ns ⟨1, x, 0⟩).1, i6 (addF ns ⟨1, x, 0⟩).2]) (.news [])) : @WCall' Go.Proofs.Try.prog S 9 [aP ns, i6 x] H ⟨K⟩ :=
  WCall_pure hS (spec_l2Name_c ns x hp) (by simp) (by simp) (by simp) hK
theorem spec_l2Name_k {ns : List Nd} {x : Int} (hp : poolF ns = true) {S : FuncId → Bool} {H : List Blk} {K : A → Dl → Prop} {zs : List A} (hS : S 9 = false) (hv : viewL (viewA 8 H) zs = some [aP ns, i6 x]) (ho : noOwns zs = true ∨ nosl (.tup [aP (addF ns ⟨1, x, 0⟩).1, i6 (addF ns ⟨1, x, 0⟩).2]) = true) (hK : K (.tup [aP (addF ns ⟨1, x, 0⟩).1, i6 (addF ns ⟨1, x, 0⟩).2]) (.news [])) : @WCall' Go.Proofs.Try.prog S 9 zs H ⟨K⟩ :=
  WCall_pure hS (spec_l2Name_c ns x hp) hv ho (by simp) hK
/-- What turning a link comes to. -/
def turnF (ns : List Nd) (l : Lk) : List Nd × Lk × Bool :=
  if l.over ∨ l.epoch = 20 then (ns, l, false)
  else
    let p := addF ns ⟨1, 7, 0⟩
    if p.2 < 0 then (ns, l, false) else
    let q := addF p.1 ⟨6, l.key, p.2⟩
    if q.2 < 0 then (ns, l, false) else (q.1, ⟨q.2, l.epoch + 1, 0, false⟩, true)
theorem turnF_len (ns : List Nd) (l : Lk) (h : ns.length ≤ 500) : (turnF ns l).1.length ≤ 500 := by
  unfold turnF
  split
  · exact h
  · dsimp only
    split
    · exact h
    · split
      · exact h
      · exact addF_len _ _ (addF_len _ _ h)
/-- What LinkTurn answers. -/
def linkTurnF (ns : List Nd) (l : Lk) : List Nd × Lk × Bool := if lkF ns l then turnF ns l else (orE ns, l, false)
end Go.Proofs.Ytijileoflejgpaa.C

set_option linter.unusedVariables false
set_option linter.unusedSimpArgs false
namespace Go.Proofs.Ytijileoflejgpaa.C
open Go.Sym Go.Proofs.Ytijileoflejgpaa.I
def nodeAt (ns : List Nd) (t : Int) : Nd := ns.getD t.toNat ⟨0, 0, 0⟩
theorem nodeAt_nat {ns : List Nd} {j : Nat} (h : j < ns.length) : nodeAt ns j = ns[j] := by simp [nodeAt, h]
/-- The parts of a node of a right pool stand before it. -/
theorem parts_in {ns : List Nd} (hp : poolF ns = true) {j : Nat} (h : j < ns.length) (hk : partsF ns[j].k = 2) : (∃ a : Nat, ns[j].a = a ∧ a < j) ∧ ∃ b : Nat, ns[j].b = b ∧ b < j := by
  have := (okFrom_all hp h).1
  simp [rightF, hk, inF] at this
  exact ⟨⟨ns[j].a.toNat, by omega, by omega⟩, ns[j].b.toNat, by omega, by omega⟩
theorem part_in {ns : List Nd} (hp : poolF ns = true) {j : Nat} (h : j < ns.length) (hk : partsF ns[j].k = 1) : ∃ a : Nat, ns[j].a = a ∧ a < j := by
  have := (okFrom_all hp h).1
  simp [rightF, hk, inF] at this
  exact ⟨ns[j].a.toNat, by omega, by omega⟩
theorem parts_kind {ns : List Nd} (hp : poolF ns = true) {j : Nat} (h : j < ns.length) : partsF ns[j].k = 0 ∨ partsF ns[j].k = 1 ∨ partsF ns[j].k = 2 := by
  have := (okFrom_all hp h).1
  unfold rightF at this
  split at this
  · exact .inl ‹_›
  · split at this
    · exact .inr (.inl ‹_›)
    · split at this
      · exact .inr (.inr ‹_›)
      · cases this
theorem hasF_of {m j : Nat} (h : j < m) : hasF m j = true := by simp [hasF, inF]; omega
theorem hasN {m : Nat} {t : Int} (h : hasF m t = true) : ∃ j : Nat, t = j ∧ j < m := by
  simp [hasF, inF] at h
  exact ⟨t.toNat, by omega, by omega⟩
abbrev jblk (xs : List Int) : Blk := ⟨xs.length, decide (xs.length = 0), 1, ints xs, none⟩
abbrev jref (b : Nat) (xs : List Int) : A := .ref b xs.length 0 xs.length
@[simp] theorem ints_take' (xs : List Int) : (ints xs).take xs.length = ints xs := List.take_of_length_le (by simp)
@[simp] theorem ints_tells' (H H' : List Blk) (g : List (Option Nat)) (xs : List Int) : Tells H H' g (ints xs) (ints xs) := Tells_scals _ (ints_scals xs)
@[simp] theorem ints_one (xs : List Int) : (ints xs).all A.one = true := one_scals _ (ints_scals xs)
@[simp] theorem ints_inAs (m : Nat) (xs : List Int) : inAs m (ints xs) = true := inAs_scals _ (ints_scals xs)
@[simp] theorem ints_nil : ints [] = [] := rfl
theorem ints_snoc (xs : List Int) (x : Int) : ints (xs ++ [x]) = ints xs ++ [i6 x] := by simp [ints]
/-- The parts of a node. -/
def partsL (n : Nd) : List Int := if partsF n.k = 1 then [n.a] else if partsF n.k = 2 then [n.a, n.b] else []
/-- Looking for a number. -/
def idxF : List Int → Int → Int → Int
  | [], _, _ => -1
  | x :: xs, t, i => if x = t then i else idxF xs t (i + 1)
theorem idxF_neg (t : Int) : ∀ (xs : List Int) (i : Int), 0 ≤ i → (0 ≤ idxF xs t i ↔ t ∈ xs)
  | [], i, _ => by simp [idxF]
  | x :: xs, i, hi => by
    unfold idxF
    by_cases e : x = t
    · rw [if_pos e]; simp [e, hi]
    · rw [if_neg e, idxF_neg t xs (i + 1) (by omega)]
      simp only [List.mem_cons]
      exact ⟨.inr, fun h => h.resolve_left fun q => e q.symm⟩
def hasK (ks : List Int) (t : Int) : Bool := decide (t ∈ ks)
theorem spec_KnowHas_c (ks : List Int) (t : Int) (hl : ks.length < 9223372036854775807) : T 31 [aI ks, i6 t] [] (.bool (hasK ks t)) ([]) := by
  refine semT' (S := S0) hm spec_KnowHas_ok (Nat.le_of_ble_eq_true rfl) ?_
  unfold spec_KnowHas; dsimp only
  have hk := idxF_neg t ks 0 (Int.le_refl 0)
  simp
  refine WLoop_fam (fun j : Nat => [(0, aI ks), (1, i6 t), (5, i6 j)]) (fun _ => []) (fun j => ks.length - j)
    (fun j => j ≤ ks.length ∧ idxF ks t 0 = idxF (ks.drop j) t j) ?_ 0 ⟨Nat.zero_le _, rfl⟩
  intro j ⟨hj, hf⟩ ih
  simp
  refine br_intro' (fun h => ?_) (fun h => ?_) <;> (have h0 := h) <;> (try simp at h) <;> try simp [h0, h]
  · have hd : ks.drop j = ks[j] :: ks.drop (j + 1) := List.drop_eq_getElem_cons h
    have hw : IntKind.i64.wrap ((j : Int) + 1) = j + 1 := wrap64 (by omega) (by omega)
    have h' := h
    try simp [h']
    refine br_intro' (fun g => ?_) (fun g => ?_) <;> (try simp at g) <;> (try simp [g])
    · have e : ks[j] = t := by first | exact g | exact g.symm
      have hi : idxF ks t 0 = j := by rw [hf, hd, idxF, if_pos e]
      exact LeV.ro rfl rfl (by subst e; simp [hasK])
    · have e : ¬ ks[j] = t := fun q => by first | exact g q | exact g q.symm
      rw [hw]
      refine ih (j + 1) ⟨h', ?_⟩ (by omega)
      rw [hf, hd, idxF, if_neg e]
      rfl
  · have hi : idxF ks t 0 = -1 := by rw [hf, List.drop_of_length_le h]; rfl
    exact LeV.ro rfl rfl (by rw [hi] at hk; simp [hasK]; exact fun q => by have := hk.2 q; omega)
theorem spec_KnowHas_call {ks : List Int} {t : Int} (hl : ks.length < 9223372036854775807) {S : FuncId → Bool} {H : List Blk} {K : A → Dl → Prop} (hS : S 31 = false) (hK : K (.bool (hasK ks t)) (.news [])) : @WCall' Go.Proofs.Try.prog S 31 [aI ks, i6 t] H ⟨K⟩ :=
  WCall_pure hS (spec_KnowHas_c ks t hl) (by simp) (by simp) (by simp) hK
theorem spec_KnowHas_k {ks : List Int} {t : Int} (hl : ks.length < 9223372036854775807) {S : FuncId → Bool} {H : List Blk} {K : A → Dl → Prop} {zs : List A} (hS : S 31 = false) (hv : viewL (viewA 8 H) zs = some [aI ks, i6 t]) (ho : noOwns zs = true ∨ nosl (.bool (hasK ks t)) = true) (hK : K (.bool (hasK ks t)) (.news [])) : @WCall' Go.Proofs.Try.prog S 31 zs H ⟨K⟩ :=
  WCall_pure hS (spec_KnowHas_c ks t hl) hv ho (by simp) hK
def pubF (x : Int) : Bool := inF x 0 49
theorem kpF_pool {ns : List Nd} {ks : List Int} (h : kpF ns ks = true) : poolF ns = true := by simp [kpF] at h; exact h.1
end Go.Proofs.Ytijileoflejgpaa.C

set_option linter.unusedVariables false
set_option linter.unusedSimpArgs false
set_option maxRecDepth 4000
namespace Go.Proofs.Ytijileoflejgpaa.C
open Go.Sym Go.Proofs.Ytijileoflejgpaa.I
/-- Rows of bools. -/
def bls (kb : List Bool) : List A := kb.map A.bool
@[simp] theorem bls_len (xs : List Bool) : (bls xs).length = xs.length := List.length_map ..
@[simp] theorem bls_scals (xs : List Bool) : scals (bls xs) = true := scals_map _ (fun _ => rfl) xs
@[simp] theorem bls_view (n : Nat) (H : List Blk) (xs : List Bool) : viewL (viewA (n + 1) H) (bls xs) = some (bls xs) := viewL_scals _ (bls_scals xs)
@[simp] theorem bls_noOwns (xs : List Bool) : noOwns (bls xs) = true := noOwns_scals _ (bls_scals xs)
@[simp] theorem bls_nosls (xs : List Bool) : nosls (bls xs) = true := nosls_scals _ (bls_scals xs)
@[simp] theorem bls_shift (n : Nat) (xs : List Bool) : shiftAs n (bls xs) = bls xs := shiftAs_scals _ (bls_scals xs)
@[simp] theorem bls_inAs (m : Nat) (xs : List Bool) : inAs m (bls xs) = true := inAs_scals _ (bls_scals xs)
@[simp] theorem bls_tells (H H' : List Blk) (g : List (Option Nat)) (xs : List Bool) : Tells H H' g (bls xs) (bls xs) := Tells_scals _ (bls_scals xs)
@[simp] theorem bls_one (xs : List Bool) : (bls xs).all A.one = true := one_scals _ (bls_scals xs)
@[simp] theorem bls_take (xs : List Bool) : (bls xs).take xs.length = bls xs := List.take_of_length_le (by simp)
@[simp] theorem bls_nil : bls [] = [] := rfl
@[simp] theorem bls_get (xs : List Bool) (j : Nat) (h : j < (bls xs).length) : (bls xs)[j] = .bool (xs[j]'(by simpa using h)) := by simp [bls]
theorem bls_at {xs : List Bool} {j : Nat} (h : j < xs.length) : (bls xs)[j]? = some (.bool xs[j]) := by simp [bls, h]
theorem bls_set (xs : List Bool) (j : Nat) (b : Bool) : (bls xs).set j (.bool b) = bls (xs.set j b) := by simp [bls, List.map_set]
theorem bls_rep (n : Nat) : bls (List.replicate n false) = List.replicate n (.bool false) := by simp [bls]
theorem bls_snoc (xs : List Bool) (x : Bool) : bls (xs ++ [x]) = bls xs ++ [.bool x] := by simp [bls]
theorem ints_set' (xs : List Int) (j : Nat) (n : Int) : (ints xs).set j (i6 n) = ints (xs.set j n) := by simp [ints, List.map_set]
theorem ints_rep' (n : Nat) : ints (List.replicate n 0) = List.replicate n (i6 0) := by simp [ints]
abbrev aBl (xs : List Bool) : A := .sl xs.length (bls xs)
abbrev bblk (xs : List Bool) : Blk := ⟨xs.length, decide (xs.length = 0), 1, bls xs, none⟩
abbrev bref (b : Nat) (xs : List Bool) : A := .ref b xs.length 0 xs.length
def bv (mk : List Bool) (t : Int) : Bool := mk.getD t.toNat false
theorem bv_nat {mk : List Bool} {j : Nat} (h : j < mk.length) : bv mk j = mk[j] := by simp [bv, h]
/-- A number at its place among others. -/
def putGo (t : Int) : List Int → Bool → List Int
  | [], put => if put then [] else [t]
  | x :: xs, put => if put = false ∧ t < x then t :: x :: putGo t xs true else x :: putGo t xs put
def putF (ks : List Int) (t : Int) : List Int := putGo t ks (hasK ks t)
theorem putGo_len (t : Int) : ∀ (ks : List Int) (put : Bool), ks.length ≤ (putGo t ks put).length ∧ (putGo t ks put).length ≤ ks.length + 1 ∧ (put = true → (putGo t ks put).length = ks.length)
  | [], put => by cases put <;> simp [putGo]
  | x :: xs, put => by
    unfold putGo
    split
    · rename_i h
      have := (putGo_len t xs true).2.2 rfl
      simp [this, h.1]
    · have := putGo_len t xs put
      refine ⟨by simp; omega, by simp; omega, fun h => by simp [this.2.2 h]⟩
theorem spec_l6Put_c (ks : List Int) (t : Int) (hk : ks.length ≤ 4294960000) : T 12 [aI ks, i6 t] [] (jref 0 (putF ks t)) ([jblk (putF ks t)]) := by
  refine semT' (S := S0) hm spec_l6Put_ok (Nat.le_of_ble_eq_true rfl) ?_
  unfold spec_l6Put; dsimp only
  simp
  refine spec_KnowHas_call (ks := ks) (t := t) (by omega) rfl ?_; simp
  refine WLoop_virt 1 [(0, aI ks), (1, i6 t), (5, A.ref 0 0 0 0), (6, A.bool (hasK ks t)), (7, i6 0)] ?_ ?_
  · intro s y hy
    simp [Sym.get] at hy ⊢
    (repeat' split at hy) <;> simp_all
  refine WLoop_fam (fun p : Nat × List Int × Bool => [(0, aI ks), (1, i6 t), (5, jref 0 p.2.1), (6, A.bool p.2.2), (7, i6 p.1)]) (fun p => [jblk p.2.1]) (fun p => ks.length - p.1)
    (fun p => p.1 ≤ ks.length ∧ p.2.1.length ≤ p.1 + 1 ∧ (p.2.2 = false → p.2.1.length ≤ p.1) ∧ putF ks t = p.2.1 ++ putGo t (ks.drop p.1) p.2.2) ?_ (0, [], hasK ks t) ⟨Nat.zero_le _, by simp, by simp, by simp [putF]⟩
  rintro ⟨j, out, put⟩ ⟨hj, hol, hol2, hpf⟩ ih
  simp only at hj hol hol2 hpf
  simp
  refine br_intro' (fun u => ?_) (fun u => ?_) <;> (have u0 := u) <;> simp at u <;> simp [u0, u]
  · have hd : ks.drop j = ks[j] :: ks.drop (j + 1) := List.drop_eq_getElem_cons u
    have hw := wrap_succ (n := j) (by omega)
    cases put with
    | true =>
      simp [u]
      repeat (refine ck_intro' (by first | omega | (simp; omega) | kernel_rfl) ?_; try simp [u])
      rw [hw]
      rw [show A.ref 0 (out.length + 1) 0 (out.length + 1) = jref 0 (out ++ [ks[j]]) by simp]
      refine WLoop_drop [jblk (out ++ [ks[j]])] [_] (by simp [ints_snoc]; exact rfl) (by simp) (by simp) (by simp) ?_
      exact ih (j + 1, out ++ [ks[j]], true) ⟨u, by simp; omega, by simp, by rw [hpf, hd]; simp [putGo]⟩ (by simp; omega)
    | false =>
      simp [u]
      refine br_intro' (fun g => ?_) (fun g => ?_) <;> (have g0 := g) <;> simp only [decide_eq_true_eq, decide_eq_false_iff_not] at g <;> simp [g0, g]
      · have := hol2 rfl
        repeat (refine ck_intro' (by first | omega | (simp; omega) | kernel_rfl) ?_; try simp [u])
        rw [hw]
        rw [show A.ref 0 (out.length + 1 + 1) 0 (out.length + 1 + 1) = jref 0 (out ++ [t, ks[j]]) by simp]
        refine WLoop_drop [jblk (out ++ [t, ks[j]])] [_, _] (by simp [ints]; exact ⟨rfl, rfl⟩) (by simp) (by simp) (by simp) ?_
        exact ih (j + 1, out ++ [t, ks[j]], true) ⟨u, by simp; omega, by simp, by rw [hpf, hd]; simp [putGo, g]⟩ (by simp; omega)
      · have := hol2 rfl
        repeat (refine ck_intro' (by first | omega | (simp; omega) | kernel_rfl) ?_; try simp [u])
        rw [hw]
        rw [show A.ref 0 (out.length + 1) 0 (out.length + 1) = jref 0 (out ++ [ks[j]]) by simp]
        refine WLoop_drop [jblk (out ++ [ks[j]])] [_] (by simp [ints_snoc]; exact rfl) (by simp) (by simp) (by simp) ?_
        exact ih (j + 1, out ++ [ks[j]], false) ⟨u, by simp; omega, by simp; omega, by rw [hpf, hd]; simp [putGo, g]⟩ (by simp; omega)
  · have hd : ks.drop j = [] := List.drop_of_length_le (by omega)
    rw [hd] at hpf
    cases put with
    | true =>
      simp
      rw [show putF ks t = out by rw [hpf]; simp [putGo]]
      first | (refine LeV.tell [none] ?_ ?_ ?_ <;> (simp; done)) | (refine LeV.tell [some 0] ?_ ?_ ?_ <;> (simp; done)) | (refine LeV.tell [some 1] ?_ ?_ ?_ <;> (simp; done)) | (refine LeV.tell [some 2] ?_ ?_ ?_ <;> (simp; done)) | (refine LeV.tell [some 3] ?_ ?_ ?_ <;> (simp; done)) | (refine LeV.tell [some 4] ?_ ?_ ?_ <;> (simp; done)) | (refine LeV.tell [some 5] ?_ ?_ ?_ <;> (simp; done)) | (refine LeV.tell [some 6] ?_ ?_ ?_ <;> (simp; done)) | (refine LeV.tell [some 7] ?_ ?_ ?_ <;> (simp; done)) | (refine LeV.tell [some 8] ?_ ?_ ?_ <;> (simp; done)) | (refine LeV.tell [some 9] ?_ ?_ ?_ <;> (simp; done)) | (refine LeV.tell [some 10] ?_ ?_ ?_ <;> (simp; done)) | (refine LeV.tell [some 11] ?_ ?_ ?_ <;> (simp; done)) | (refine LeV.tell [some 12] ?_ ?_ ?_ <;> (simp; done)) | (refine LeV.tell [some 13] ?_ ?_ ?_ <;> (simp; done)) | (refine LeV.tell [some 14] ?_ ?_ ?_ <;> (simp; done)) | (refine LeV.tell [some 15] ?_ ?_ ?_ <;> (simp; done))
    | false =>
      simp
      repeat (refine ck_intro' (by first | omega | (simp; omega) | kernel_rfl) ?_; try simp [u])
      rw [show putF ks t = out ++ [t] by rw [hpf]; simp [putGo]]
      exact LeV.tell [some 0] (by simp) (by simp [ints_snoc]; exact Tells_scals _ (by simp [scals_app, scals, scal])) (by simp)
theorem spec_l6Put_k {ks : List Int} {t : Int} (hk : ks.length ≤ 4294960000) {S : FuncId → Bool} {H : List Blk} {K : A → Dl → Prop} {zs : List A} (hS : S 12 = false) (hv : viewL (viewA 8 H) zs = some [aI ks, i6 t]) (ho : noOwns zs = true ∨ nosl (jref 0 (putF ks t)) = true ∧ noslBlks ([jblk (putF ks t)]) = true) (hK : K (shiftA H.length (jref 0 (putF ks t))) (.news (([jblk (putF ks t)]).map (shiftB H.length)))) : @WCall' Go.Proofs.Try.prog S 12 zs H ⟨K⟩ :=
  WCall_ro' hS hv (spec_l6Put_c ks t hk) rfl ho hK
theorem putF_len (ks : List Int) (t : Int) : ks.length ≤ (putF ks t).length ∧ (putF ks t).length ≤ ks.length + 1 := ⟨(putGo_len t ks _).1, (putGo_len t ks _).2.1⟩
theorem partsF_0' {k : Int} (h : partsF k = 0) : k = 1 := by
  unfold partsF at h
  split at h
  · assumption
  · split at h
    · omega
    · split at h <;> omega
/-- Whether the power of a term is one that can be made. -/
def powF (ns : List Nd) (mk : List Bool) (ks : List Int) (x : Int) : Bool := decide (0 ≤ findF ns ⟨7, x, 0⟩ 0) && (bv mk x || hasK ks (findF ns ⟨7, x, 0⟩ 0))
/-- Whether a term is public, or can be made of its parts. -/
def madeB (ns : List Nd) (mk : List Bool) (t : Int) (ks : List Int) : Bool :=
  if (nodeAt ns t).k = 1 then pubF (nodeAt ns t).a
  else if partsF (nodeAt ns t).k = 1 then bv mk (nodeAt ns t).a
  else if bv mk (nodeAt ns t).a = true ∧ bv mk (nodeAt ns t).b = true then true
  else if (nodeAt ns t).k = 8 then (bv mk (nodeAt ns t).a && powF ns mk ks (nodeAt ns t).b) || (bv mk (nodeAt ns t).b && powF ns mk ks (nodeAt ns t).a)
  else false
end Go.Proofs.Ytijileoflejgpaa.C

set_option linter.unusedVariables false
set_option linter.unusedSimpArgs false
namespace Go.Proofs.Ytijileoflejgpaa.C
open Go.Sym Go.Proofs.Ytijileoflejgpaa.I
def In64 (n : Int) : Prop := -9223372036854775808 ≤ n ∧ n < 9223372036854775808
abbrev shI : Sh := .i .i64
abbrev shN : Sh := .st (.p shI (.p shI (.p shI .u)))
abbrev shP : Sh := .st (.p (.sl shN) .u)
abbrev shL : Sh := .st (.p shI (.p shI (.p shI (.p .b .u))))
abbrev shIs : Sh := .sl shI
abbrev shS : Sh := .st (.p shP (.p shIs (.p shL (.p shL (.p shIs (.p shIs .u))))))
theorem fit_i {cs : List A} (h : Fit shI cs) : ∃ n, cs = [i6 n] ∧ In64 n := by
  obtain ⟨n, rfl, hn⟩ := h
  exact ⟨n, rfl, fit_i64 hn⟩
theorem fit_n {cs : List A} (h : Fit shN cs) : ∃ n : Nd, cs = encN n ∧ In64 n.k ∧ In64 n.a ∧ In64 n.b := by
  obtain ⟨x, y, rfl, hx, z, t, rfl, hz, u, w, rfl, hu, rfl⟩ := h
  obtain ⟨a, rfl, ha⟩ := fit_i hx
  obtain ⟨b, rfl, hb⟩ := fit_i hz
  obtain ⟨c, rfl, hc⟩ := fit_i hu
  exact ⟨⟨a, b, c⟩, rfl, ha, hb, hc⟩
theorem fit_p {cs : List A} (h : Fit shP cs) : ∃ ns : List Nd, cs = [.sl ns.length (enc ns)] ∧ ns.length < 9223372036854775808 := by
  obtain ⟨x, y, rfl, hx, rfl⟩ := h
  obtain ⟨ns, rfl, h1, _⟩ := fit_sl (f := encN) (fun r hr => fit_n hr) hx
  exact ⟨ns, by simp [enc], h1⟩
theorem fit_is {cs : List A} (h : Fit shIs cs) : ∃ xs : List Int, cs = [aI xs] ∧ xs.length < 9223372036854775808 := by
  obtain ⟨xs, rfl, h1, _⟩ := fit_sl (f := fun n => [i6 n]) (fun r hr => fit_i hr) h
  exact ⟨xs, by simp only [aI, ints]; rw [List.map_eq_flatMap], h1⟩
structure Lk.fit (l : Lk) : Prop where
  k : In64 l.key
  e : In64 l.epoch
  s : In64 l.seq
theorem fit_l {cs : List A} (h : Fit shL cs) : ∃ l : Lk, cs = [i6 l.key, i6 l.epoch, i6 l.seq, .bool l.over] ∧ l.fit := by
  obtain ⟨x, y, rfl, hx, z, t, rfl, hz, u, w, rfl, hu, b, w, rfl, ⟨o, rfl⟩, rfl⟩ := h
  obtain ⟨a, rfl, ha⟩ := fit_i hx
  obtain ⟨b, rfl, hb⟩ := fit_i hz
  obtain ⟨c, rfl, hc⟩ := fit_i hu
  exact ⟨⟨a, b, c, o⟩, rfl, ha, hb, hc⟩
structure St.fitA (s : St) : Prop where
  p : s.pool.length < 9223372036854775808
  k : s.know.length < 9223372036854775808
  t : s.sent.length < 9223372036854775808
  g : s.got.length < 9223372036854775808
  o : s.out.fit
  i : s.inn.fit
theorem fit_s {cs : List A} (h : Fit shS cs) : ∃ s : St, cs = cS s ∧ s.fitA := by
  obtain ⟨x, y, rfl, hx, z, t, rfl, hz, u, w, rfl, hu, b, w, rfl, hb, e, f, rfl, he, g, i, rfl, hg, rfl⟩ := h
  obtain ⟨ns, rfl, h1⟩ := fit_p hx
  obtain ⟨ks, rfl, h2⟩ := fit_is hz
  obtain ⟨l, rfl, h3⟩ := fit_l hu
  obtain ⟨m, rfl, h4⟩ := fit_l hb
  obtain ⟨ts, rfl, h5⟩ := fit_is he
  obtain ⟨gs, rfl, h6⟩ := fit_is hg
  exact ⟨⟨ns, ks, l, m, ts, gs⟩, rfl, h1, h2, h5, h6, h3, h4⟩
theorem arg_p {x : A} (h : FitA shP x) : ∃ ns : List Nd, x = aP ns ∧ ns.length < 9223372036854775808 := by
  obtain ⟨cs, rfl, h⟩ := h
  obtain ⟨ns, rfl, g⟩ := fit_p h
  exact ⟨ns, rfl, g⟩
theorem arg_l {x : A} (h : FitA shL x) : ∃ l : Lk, x = aL l ∧ l.fit := by
  obtain ⟨cs, rfl, h⟩ := h
  obtain ⟨ns, rfl, g⟩ := fit_l h
  exact ⟨ns, rfl, g⟩
theorem arg_s {x : A} (h : FitA shS x) : ∃ s : St, x = aS s ∧ s.fitA := by
  obtain ⟨cs, rfl, h⟩ := h
  obtain ⟨ns, rfl, g⟩ := fit_s h
  exact ⟨ns, rfl, g⟩
theorem arg_is {x : A} (h : FitA shIs x) : ∃ xs : List Int, x = aI xs ∧ xs.length < 9223372036854775808 := by
  obtain ⟨xs, e, h⟩ := fit_is (show Fit shIs [x] from h)
  exact ⟨xs, by simpa using e, h⟩
theorem arg_i {x : A} (h : FitA shI x) : ∃ n : Int, x = i6 n ∧ In64 n := by
  obtain ⟨n, e, h⟩ := fit_i (show Fit shI [x] from h)
  exact ⟨n, by simpa using e, h⟩
end Go.Proofs.Ytijileoflejgpaa.C

set_option linter.unusedVariables false
set_option linter.unusedSimpArgs false
namespace Go.Proofs.Ytijileoflejgpaa.C
open Go.Sym Go.Proofs.Ytijileoflejgpaa.I
abbrev qblk (ns : List Nd) : Blk := ⟨ns.length, false, 3, enc ns, none⟩
abbrev iblk (xs : List Int) : Blk := ⟨xs.length, false, 1, ints xs, none⟩
abbrev iref (b : Nat) (xs : List Int) : A := .ref b xs.length 0 xs.length
def szF (x : Int) (n : Nat) : Int := if x - n < 0 then -1 else x - n
theorem laws_eqNode_c (n m : Nd)  : T 44 [aN n, aN m] [] (.bool (decide (n = m))) ([]) := by
  refine semT' (S := S0) hm laws_eqNode_ok (Nat.le_of_ble_eq_true rfl) ?_
  unfold laws_eqNode; dsimp only
  simp
  repeat (any_goals (first | (refine br_intro' (fun h => ?_) (fun h => ?_) <;> (have h0 := h) <;> (try simp at h) <;> try simp [h0, h])))
  all_goals exact LeV.ro rfl rfl (by simp [Nd_eq, *])
theorem laws_eqNode_call {n m : Nd}  {S : FuncId → Bool} {H : List Blk} {K : A → Dl → Prop} (hS : S 44 = false) (hK : K (.bool (decide (n = m))) (.news [])) : @WCall' Go.Proofs.Try.prog S 44 [aN n, aN m] H ⟨K⟩ :=
  WCall_pure hS (laws_eqNode_c n m) (by simp) (by simp) (by simp) hK
theorem laws_eqNode_k {n m : Nd}  {S : FuncId → Bool} {H : List Blk} {K : A → Dl → Prop} {zs : List A} (hS : S 44 = false) (hv : viewL (viewA 8 H) zs = some [aN n, aN m]) (ho : noOwns zs = true ∨ nosl (.bool (decide (n = m))) = true) (hK : K (.bool (decide (n = m))) (.news [])) : @WCall' Go.Proofs.Try.prog S 44 zs H ⟨K⟩ :=
  WCall_pure hS (laws_eqNode_c n m) hv ho (by simp) hK
theorem Lk_eq {x y : Lk} : x = y ↔ x.key = y.key ∧ x.epoch = y.epoch ∧ x.seq = y.seq ∧ x.over = y.over := by cases x; cases y; simp
def zN (j : Nat) : List Nd := List.replicate j ⟨0, 0, 0⟩
/-- A copy that is made up to a place. -/
def upN (ns : List Nd) (j : Nat) : List Nd := ns.take j ++ zN (ns.length - j)
theorem upN_len (ns : List Nd) (j : Nat) (h : j ≤ ns.length) : (upN ns j).length = ns.length := by simp [upN, zN]; omega
theorem upN_zero (ns : List Nd) : upN ns 0 = zN ns.length := by simp [upN]
theorem upN_end (ns : List Nd) : upN ns ns.length = ns := by simp [upN, zN]
theorem enc_zN (j : Nat) : enc (zN j) = (List.replicate j [i6 0, i6 0, i6 0]).flatten := by
  induction j with
  | zero => rfl
  | succ j ih => simp only [zN, List.replicate_succ, enc, List.flatMap_cons, List.flatten_cons] at ih ⊢; rw [ih]; rfl
theorem upN_set (ns : List Nd) (j : Nat) (h : j < ns.length) : (upN ns j).set j ns[j] = upN ns (j + 1) := by
  have hl : (ns.take j).length = j := by simp; omega
  have e : ns.length - j = (ns.length - (j + 1)) + 1 := by omega
  simp only [upN, zN]
  rw [List.set_append_right _ _ (by omega), hl, Nat.sub_self, e, List.replicate_succ, List.set_cons_zero, List.take_succ_eq_append_getElem h, List.append_assoc]
  rfl
theorem set3 {x y z : A} : ∀ (cs : List A) (a b c : A) (r : List A), (((a :: b :: c :: r).set 0 x).set 1 y).set 2 z = x :: y :: z :: r := fun _ _ _ _ _ => rfl
theorem enc_set : ∀ (xs : List Nd) (j : Nat) (n : Nd), (((enc xs).set (j * 3) (i6 n.k)).set (j * 3 + 1) (i6 n.a)).set (j * 3 + 2) (i6 n.b) = enc (xs.set j n)
  | [], j, n => by simp
  | x :: xs, 0, n => rfl
  | x :: xs, j + 1, n => by
    have := enc_set xs j n
    have e : (j + 1) * 3 = j * 3 + 1 + 1 + 1 := by omega
    show ((([i6 x.k, i6 x.a, i6 x.b] ++ enc xs).set ((j + 1) * 3) _).set ((j + 1) * 3 + 1) _).set ((j + 1) * 3 + 2) _ = [i6 x.k, i6 x.a, i6 x.b] ++ enc (xs.set j n)
    rw [e, ← this]
    rfl
/-- A copy of numbers that is made up to a place. -/
def upI (xs : List Int) (j : Nat) : List Int := xs.take j ++ List.replicate (xs.length - j) 0
theorem upI_len (xs : List Int) (j : Nat) (h : j ≤ xs.length) : (upI xs j).length = xs.length := by simp [upI]; omega
theorem upI_zero (xs : List Int) : upI xs 0 = List.replicate xs.length 0 := by simp [upI]
theorem upI_end (xs : List Int) : upI xs xs.length = xs := by simp [upI]
theorem upI_set (ns : List Int) (j : Nat) (h : j < ns.length) : (upI ns j).set j ns[j] = upI ns (j + 1) := by
  have hl : (ns.take j).length = j := by simp; omega
  have e : ns.length - j = (ns.length - (j + 1)) + 1 := by omega
  simp only [upI]
  rw [List.set_append_right _ _ (by omega), hl, Nat.sub_self, e, List.replicate_succ, List.set_cons_zero, List.take_succ_eq_append_getElem h, List.append_assoc]
  rfl
theorem ints_set (xs : List Int) (j : Nat) (n : Int) : (ints xs).set j (i6 n) = ints (xs.set j n) := by simp [ints, List.map_set]
@[simp] theorem ints_tells (H H' : List Blk) (g : List (Option Nat)) (xs : List Int) : Tells H H' g (ints xs) (ints xs) := Tells_scals _ (ints_scals xs)
@[simp] theorem ints_take (xs : List Int) : (ints xs).take xs.length = ints xs := List.take_of_length_le (by simp)
theorem ints_rep (n : Nat) : ints (List.replicate n 0) = List.replicate n (i6 0) := by simp [ints]
theorem laws_eqNodeS_c (ns ms : List Nd) (hl : ns.length < 9223372036854775807) (hl2 : ms.length < 9223372036854775807) : T 34 [.sl ns.length (enc ns), .sl ms.length (enc ms)] [] (.bool (decide (ns = ms))) ([]) := by
  refine semT' (S := S0) hm laws_eqNodeS_ok (Nat.le_of_ble_eq_true rfl) ?_
  unfold laws_eqNodeS; dsimp only
  simp
  refine br_intro' (fun h => ?_) (fun h => ?_) <;> (try simp at h) <;> (try simp [h])
  · refine WLoop_fam (fun j : Nat => [(0, A.sl ns.length (enc ns)), (1, A.sl ms.length (enc ms)), (5, i6 j)]) (fun _ => []) (fun j => ns.length - j)
      (fun j => j ≤ ns.length ∧ ns.take j = ms.take j) ?_ 0 ⟨Nat.zero_le _, by simp⟩
    intro j ⟨hj, hf⟩ ih
    simp
    have hq : ns.length = ms.length := by omega
    refine br_intro' (fun h => ?_) (fun h => ?_) <;> (have h0 := h) <;> (try simp at h) <;> try simp [h0, h]
    · obtain ⟨r, hr⟩ := enc_at h
      have hm : j < ms.length := by omega
      obtain ⟨r2, hr2⟩ := enc_at hm
      have h3 : 3 ≤ ms.length * 3 - j * 3 := by omega
      have h4 : 3 ≤ ns.length * 3 - j * 3 := by omega
      have hw : IntKind.i64.wrap ((j : Int) + 1) = j + 1 := wrap64 (by omega) (by omega)
      have h' := h
      simp [h3, h4, hr, h', hr2, hm]
      refine laws_eqNode_call (n := ns[j]) (m := ms[j]) rfl ?_; simp
      first | (refine ck_intro' (by kernel_rfl) ?_; try simp) | skip
      refine br_intro' (fun g => ?_) (fun g => ?_) <;> simp at g <;> simp [g]
      · rw [hw]
        exact ih (j + 1) ⟨h', by rw [List.take_succ_eq_append_getElem h', List.take_succ_eq_append_getElem hm, hf, g]⟩ (by omega)
      · exact LeV.ro rfl rfl (by simp; intro e; subst e; exact g rfl)
    · have h0 : j = ns.length := by omega
      exact LeV.ro rfl rfl (by rw [h0, List.take_length, hq, List.take_length] at hf; simp [hf])
  · exact LeV.ro rfl rfl (by simp; intro e; rw [e] at h; exact h rfl)
theorem laws_eqNodeS_call {ns ms : List Nd} (hl : ns.length < 9223372036854775807) (hl2 : ms.length < 9223372036854775807) {S : FuncId → Bool} {H : List Blk} {K : A → Dl → Prop} (hS : S 34 = false) (hK : K (.bool (decide (ns = ms))) (.news [])) : @WCall' Go.Proofs.Try.prog S 34 [.sl ns.length (enc ns), .sl ms.length (enc ms)] H ⟨K⟩ :=
  WCall_pure hS (laws_eqNodeS_c ns ms hl hl2) (by simp) (by simp) (by simp) hK
theorem laws_eqNodeS_k {ns ms : List Nd} (hl : ns.length < 9223372036854775807) (hl2 : ms.length < 9223372036854775807) {S : FuncId → Bool} {H : List Blk} {K : A → Dl → Prop} {zs : List A} (hS : S 34 = false) (hv : viewL (viewA 8 H) zs = some [.sl ns.length (enc ns), .sl ms.length (enc ms)]) (ho : noOwns zs = true ∨ nosl (.bool (decide (ns = ms))) = true) (hK : K (.bool (decide (ns = ms))) (.news [])) : @WCall' Go.Proofs.Try.prog S 34 zs H ⟨K⟩ :=
  WCall_pure hS (laws_eqNodeS_c ns ms hl hl2) hv ho (by simp) hK
theorem laws_eqPool_c (ns ms : List Nd) (hl : ns.length < 9223372036854775807) (hl2 : ms.length < 9223372036854775807) : T 15 [aP ns, aP ms] [] (.bool (decide (ns = ms))) ([]) := by
  refine semT' (S := S0) hm laws_eqPool_ok (Nat.le_of_ble_eq_true rfl) ?_
  unfold laws_eqPool; dsimp only
  simp
  refine laws_eqNodeS_call (ns := ns) (ms := ms) hl hl2 rfl ?_; simp
  refine br_intro' (fun g => ?_) (fun g => ?_) <;> simp at g <;> simp [g]
  · exact LeV.ro rfl rfl (by simp)
  · exact LeV.ro rfl rfl (by simp [g])
theorem laws_eqPool_call {ns ms : List Nd} (hl : ns.length < 9223372036854775807) (hl2 : ms.length < 9223372036854775807) {S : FuncId → Bool} {H : List Blk} {K : A → Dl → Prop} (hS : S 15 = false) (hK : K (.bool (decide (ns = ms))) (.news [])) : @WCall' Go.Proofs.Try.prog S 15 [aP ns, aP ms] H ⟨K⟩ :=
  WCall_pure hS (laws_eqPool_c ns ms hl hl2) (by simp) (by simp) (by simp) hK
theorem laws_eqPool_k {ns ms : List Nd} (hl : ns.length < 9223372036854775807) (hl2 : ms.length < 9223372036854775807) {S : FuncId → Bool} {H : List Blk} {K : A → Dl → Prop} {zs : List A} (hS : S 15 = false) (hv : viewL (viewA 8 H) zs = some [aP ns, aP ms]) (ho : noOwns zs = true ∨ nosl (.bool (decide (ns = ms))) = true) (hK : K (.bool (decide (ns = ms))) (.news [])) : @WCall' Go.Proofs.Try.prog S 15 zs H ⟨K⟩ :=
  WCall_pure hS (laws_eqPool_c ns ms hl hl2) hv ho (by simp) hK
theorem laws_eqIntS_c (ns ms : List Int) (hl : ns.length < 9223372036854775807) (hl2 : ms.length < 9223372036854775807) : T 16 [aI ns, aI ms] [] (.bool (decide (ns = ms))) ([]) := by
  refine semT' (S := S0) hm laws_eqIntS_ok (Nat.le_of_ble_eq_true rfl) ?_
  unfold laws_eqIntS; dsimp only
  simp
  refine br_intro' (fun h => ?_) (fun h => ?_) <;> (try simp at h) <;> (try simp [h])
  · refine WLoop_fam (fun j : Nat => [(0, aI ns), (1, aI ms), (5, i6 j)]) (fun _ => []) (fun j => ns.length - j)
      (fun j => j ≤ ns.length ∧ ns.take j = ms.take j) ?_ 0 ⟨Nat.zero_le _, by simp⟩
    intro j ⟨hj, hf⟩ ih
    simp
    have hq : ns.length = ms.length := by omega
    refine br_intro' (fun h => ?_) (fun h => ?_) <;> (have h0 := h) <;> (try simp at h) <;> try simp [h0, h]
    · have hm : j < ms.length := by omega
      have hw : IntKind.i64.wrap ((j : Int) + 1) = j + 1 := wrap64 (by omega) (by omega)
      have h' := h
      simp [h', hm]
      first | (refine ck_intro' (by kernel_rfl) ?_; try simp) | skip
      refine br_intro' (fun g => ?_) (fun g => ?_) <;> simp at g <;> simp [g]
      · rw [hw]
        exact ih (j + 1) ⟨h', by rw [List.take_succ_eq_append_getElem h', List.take_succ_eq_append_getElem hm, hf, g]⟩ (by omega)
      · exact LeV.ro rfl rfl (by simp; intro e; subst e; exact g rfl)
    · have h0 : j = ns.length := by omega
      exact LeV.ro rfl rfl (by rw [h0, List.take_length, hq, List.take_length] at hf; simp [hf])
  · exact LeV.ro rfl rfl (by simp; intro e; rw [e] at h; exact h rfl)
theorem laws_eqIntS_call {ns ms : List Int} (hl : ns.length < 9223372036854775807) (hl2 : ms.length < 9223372036854775807) {S : FuncId → Bool} {H : List Blk} {K : A → Dl → Prop} (hS : S 16 = false) (hK : K (.bool (decide (ns = ms))) (.news [])) : @WCall' Go.Proofs.Try.prog S 16 [aI ns, aI ms] H ⟨K⟩ :=
  WCall_pure hS (laws_eqIntS_c ns ms hl hl2) (by simp) (by simp) (by simp) hK
theorem laws_eqIntS_k {ns ms : List Int} (hl : ns.length < 9223372036854775807) (hl2 : ms.length < 9223372036854775807) {S : FuncId → Bool} {H : List Blk} {K : A → Dl → Prop} {zs : List A} (hS : S 16 = false) (hv : viewL (viewA 8 H) zs = some [aI ns, aI ms]) (ho : noOwns zs = true ∨ nosl (.bool (decide (ns = ms))) = true) (hK : K (.bool (decide (ns = ms))) (.news [])) : @WCall' Go.Proofs.Try.prog S 16 zs H ⟨K⟩ :=
  WCall_pure hS (laws_eqIntS_c ns ms hl hl2) hv ho (by simp) hK
theorem szF_neg {x : Int} {n : Nat} : szF x n < 0 ↔ x < n := by unfold szF; split <;> omega
theorem szF_pos {x : Int} {n : Nat} (h : ¬ x < n) : szF x n = x - n := by unfold szF; rw [if_neg (by omega)]
/-- The size of a stream. -/
def szStr (s : St) (x : Int) : Int := if x < s.pool.length + s.know.length + s.sent.length + s.got.length then -1 else x - (s.pool.length + s.know.length + s.sent.length + s.got.length)
theorem St_eq {x y : St} : x = y ↔ x.pool = y.pool ∧ x.know = y.know ∧ x.out = y.out ∧ x.inn = y.inn ∧ x.sent = y.sent ∧ x.got = y.got := by cases x; cases y; simp
end Go.Proofs.Ytijileoflejgpaa.C

set_option linter.unusedVariables false
set_option linter.unusedSimpArgs false
namespace Go.Proofs.Ytijileoflejgpaa.C
open Go.Sym Go.Proofs.Ytijileoflejgpaa.I
def mkN (k : Int) : Nat → List Nd
  | 0 => []
  | n + 1 => mkN k n ++ [⟨k + 3 * n, k + 3 * n + 1, k + 3 * n + 2⟩]
@[simp] theorem mkN_len (k : Int) (n : Nat) : (mkN k n).length = n := by induction n with | zero => rfl | succ n ih => simp [mkN, ih]
@[simp] theorem mkN_take (k : Int) (n : Nat) : (enc (mkN k n)).take (n * 3) = enc (mkN k n) := List.take_of_length_le (by simp)
theorem mkN_get (k : Int) : ∀ (n j : Nat) (h : j < (mkN k n).length), (mkN k n)[j] = ⟨k + 3 * j, k + 3 * j + 1, k + 3 * j + 2⟩
  | 0, j, h => by simp at h
  | n + 1, j, h => by
    simp only [mkN]
    rcases Nat.lt_or_ge j n with g | g
    · rw [List.getElem_append_left (by simpa using g)]
      exact mkN_get k n j (by simpa using g)
    · have : j = n := by simp at h; omega
      subst this
      simp
theorem mkN_set (k : Int) (ns : List Nd) (j : Nat) (h : j < ns.length) : (mkN k j ++ ns.drop j).set j ⟨k + 3 * j, k + 3 * j + 1, k + 3 * j + 2⟩ = mkN k (j + 1) ++ ns.drop (j + 1) := by
  rw [List.set_append_right _ _ (by simp), mkN_len, Nat.sub_self, List.drop_eq_getElem_cons h, List.set_cons_zero]
  simp [mkN]
theorem set_self {α : Type} {H : List α} {n : Nat} {x : α} (h : H[n]? = some x) : H.set n x = H := by
  apply List.ext_getElem?
  intro i
  by_cases e : n = i
  · subst e
    rw [h, List.getElem?_set_self (List.getElem?_eq_some_iff.1 h).1]
  · rw [List.getElem?_set_ne e]
theorem laws_markNodeS_m (H : List Blk) (nb v : Nat) (ro : Bool) (ns : List Nd) (k : Int) (hH : H[nb]? = some ⟨v, ro, 3, enc ns, none⟩) (hro : ro = true → ns = []) (hl : ns.length ≤ 4294967296) (hk : 0 ≤ k) (hk2 : k ≤ 4294967296) : T 37 [.ref nb v 0 ns.length, i6 k] (H) (i6 (k + 3 * ns.length)) (H.set nb ⟨v, ro, 3, enc (mkN k ns.length), none⟩) := by
  refine semT' (S := S0) hm laws_markNodeS_ok (Nat.le_of_ble_eq_true rfl) ?_
  unfold laws_markNodeS; dsimp only
  have hlt : nb < H.length := (List.getElem?_eq_some_iff.1 hH).1
  have hs0 : H.set nb ⟨v, ro, 3, enc (mkN k 0 ++ ns.drop 0), none⟩ = H := set_self (by simpa [mkN] using hH)
  simp
  generalize hB : H.length = B
  rw [← hs0]
  refine WLoop_fam (fun p : Nat × Int => [(0, A.ref nb v 0 ns.length), (1, i6 p.2), (5, i6 p.1)]) (fun p => H.set nb ⟨v, ro, 3, enc (mkN k p.1 ++ ns.drop p.1), none⟩) (fun p => ns.length - p.1)
    (fun p => p.1 ≤ ns.length ∧ p.2 = k + 3 * p.1) ?_ (0, k) ⟨Nat.zero_le _, by simp⟩
  rintro ⟨j, k'⟩ ⟨hj, hk'⟩ ih
  simp at hk' hj
  subst hk'
  have hlen : (mkN k j ++ ns.drop j).length = ns.length := by simp; omega
  simp [hlt]
  refine br_intro' (fun h => ?_) (fun h => ?_) <;> (have h0 := h) <;> (try simp at h) <;> try simp [h0, h]
  · have h' := h
    have hr : ro = false := by cases ro with | false => rfl | true => rw [hro rfl] at h; simp at h
    subst hr
    have h3 : j * 3 < ns.length * 3 := by omega
    have h4 : j * 3 + 1 < ns.length * 3 := by omega
    have h5 : j * 3 + 2 < ns.length * 3 := by omega
    have w1 : IntKind.i64.wrap (k + 3 * (j : Int) + 1) = k + 3 * j + 1 := wrap64 (by omega) (by omega)
    have w2 : IntKind.i64.wrap (k + 3 * (j : Int) + 1 + 1) = k + 3 * j + 2 := by rw [wrap64 (by omega) (by omega)]; omega
    have w3 : IntKind.i64.wrap (k + 3 * (j : Int) + 2 + 1) = k + 3 * j + 3 := by rw [wrap64 (by omega) (by omega)]; omega
    have hw : IntKind.i64.wrap ((j : Int) + 1) = j + 1 := wrap64 (by omega) (by omega)
    have hc : (j + (ns.length - j)) * 3 = ns.length * 3 := by rw [Nat.add_sub_cancel' hj]
    simp [h', hlt, hc, w1, w2, w3, h3, h4, h5]
    refine ck_intro' (by omega) ?_; simp [h', hlt, hc, w1, w2, w3, h3, h4, h5]
    refine ck_intro' (by omega) ?_; simp [h', hlt, hc, w1, w2, w3, h3, h4, h5]
    refine ck_intro' (by omega) ?_; simp [h', hlt, hc, w1, w2, w3, h3, h4, h5, hw]
    have e3 := enc_set (mkN k j ++ ns.drop j) j ⟨k + 3 * j, k + 3 * j + 1, k + 3 * j + 2⟩
    rw [mkN_set k ns j h'] at e3
    rw [e3]
    exact ih (j + 1, k + 3 * j + 3) ⟨h', by push_cast; omega⟩ (by simp; omega)
  · have e : j = ns.length := by omega
    subst e
    simp
    exact LeV.refl _ _ _
theorem shift_len {H T : List Blk} {nb : Nat} {x : Blk} (h : nb < H.length) : (H ++ T).set nb x = H.set nb x ++ T := set_left h x
theorem laws_markPool_m (H : List Blk) (nb v : Nat) (ro : Bool) (ns : List Nd) (k : Int) (hH : H[nb]? = some ⟨v, ro, 3, enc ns, none⟩) (hro : ro = true → ns = []) (hl : ns.length ≤ 4294967296) (hk : 0 ≤ k) (hk2 : k ≤ 4294967296) (hcl : Closed1 H.length H = true) : T 19 [.agg [.ref nb v 0 ns.length], i6 k] (H) (i6 (k + 3 * ns.length)) (H.set nb ⟨v, ro, 3, enc (mkN k ns.length), none⟩) := by
  refine semT' (S := (fun f => [37].contains f)) hm laws_markPool_ok (Nat.le_of_ble_eq_true rfl) ?_
  unfold laws_markPool; dsimp only
  have hlt : nb < H.length := (List.getElem?_eq_some_iff.1 hH).1
  simp
  refine WCall_t' rfl [nb] (laws_markNodeS_m (H ++ [_]) nb v ro ns k (by rw [get_left hlt]; exact hH) hro hl hk hk2) (by simp) (fun b hb _ => by simp at hb; rw [List.getElem?_set_ne (Ne.symm hb)]) ?_
  simp [set_left hlt]
  exact LeV.drop (by simp) (by simpa using Closed1_set (by simp) _ _ hcl) (by simp)
theorem enc_gets {ns : List Nd} {j : Nat} (h : j < ns.length) : (enc ns)[j * 3]? = some (i6 ns[j].k) ∧ (enc ns)[j * 3 + 1]? = some (i6 ns[j].a) ∧ (enc ns)[j * 3 + 2]? = some (i6 ns[j].b) := by
  obtain ⟨r, hr⟩ := enc_at h
  have e : ∀ i, (enc ns)[j * 3 + i]? = (i6 ns[j].k :: i6 ns[j].a :: i6 ns[j].b :: r)[i]? := fun i => by rw [← hr, List.getElem?_drop]
  exact ⟨e 0, e 1, e 2⟩
theorem enc_k {ns : List Nd} {j : Nat} (h : j < ns.length) {h' : j * 3 < (enc ns).length} : (enc ns)[j * 3] = i6 ns[j].k := by
  have := (enc_gets h).1
  rw [List.getElem?_eq_getElem h'] at this
  simpa using this
theorem enc_a {ns : List Nd} {j : Nat} (h : j < ns.length) {h' : j * 3 + 1 < (enc ns).length} : (enc ns)[j * 3 + 1] = i6 ns[j].a := by
  have := (enc_gets h).2.1
  rw [List.getElem?_eq_getElem h'] at this
  simpa using this
theorem enc_b {ns : List Nd} {j : Nat} (h : j < ns.length) {h' : j * 3 + 2 < (enc ns).length} : (enc ns)[j * 3 + 2] = i6 ns[j].b := by
  have := (enc_gets h).2.2
  rw [List.getElem?_eq_getElem h'] at this
  simpa using this
theorem laws_heldNodeS_c (n : Nat) (k : Int) (hl : n ≤ 4294967296) (hk : 0 ≤ k) (hk2 : k ≤ 4294967296) : T 38 [.sl n (enc (mkN k n)), i6 k] [] (i6 (k + 3 * n)) ([]) := by
  refine semT' (S := S0) hm laws_heldNodeS_ok (Nat.le_of_ble_eq_true rfl) ?_
  unfold laws_heldNodeS; dsimp only
  simp
  refine WLoop_fam (fun p : Nat × Int => [(0, .sl n (enc (mkN k n))), (1, i6 p.2), (5, i6 p.1)]) (fun _ => []) (fun p => n - p.1)
    (fun p => p.1 ≤ n ∧ p.2 = k + 3 * p.1) ?_ (0, k) ⟨Nat.zero_le _, by simp⟩
  rintro ⟨j, k'⟩ ⟨hj, hk'⟩ ih
  simp at hk' hj
  subst hk'
  simp
  refine br_intro' (fun h => ?_) (fun h => ?_) <;> (have h0 := h) <;> (try simp at h) <;> try simp [h0, h]
  · have h' := h
    obtain ⟨r, hr⟩ := enc_at (ns := mkN k n) (j := j) (by simpa using h)
    rw [mkN_get] at hr
    have h3 : 3 ≤ n * 3 - j * 3 := by omega
    have h4 : j * 3 < n * 3 := by omega
    have w1 : IntKind.i64.wrap (k + 3 * (j : Int) + 1) = k + 3 * j + 1 := wrap64 (by omega) (by omega)
    have w2 : IntKind.i64.wrap (k + 3 * (j : Int) + 1 + 1) = k + 3 * j + 2 := by rw [wrap64 (by omega) (by omega)]; omega
    have w3 : IntKind.i64.wrap (k + 3 * (j : Int) + 2 + 1) = k + 3 * j + 3 := by rw [wrap64 (by omega) (by omega)]; omega
    have hw : IntKind.i64.wrap ((j : Int) + 1) = j + 1 := wrap64 (by omega) (by omega)
    have hj' : j < (mkN k n).length := by simpa using h
    have h5 : j * 3 + 1 < n * 3 := by omega
    have h6 : j * 3 + 2 < n * 3 := by omega
    simp [h', h3, h4, h5, h6, enc_k hj', enc_a hj', enc_b hj', mkN_get, w1, w2, w3, hw]
    exact ih (j + 1, k + 3 * j + 3) ⟨h', by push_cast; omega⟩ (by simp; omega)
  · have e : j = n := by omega
    subst e
    exact LeV.ro rfl rfl (by simp)
theorem laws_heldNodeS_call {n : Nat} {k : Int} (hl : n ≤ 4294967296) (hk : 0 ≤ k) (hk2 : k ≤ 4294967296) {S : FuncId → Bool} {H : List Blk} {K : A → Dl → Prop} (hS : S 38 = false) (hK : K (i6 (k + 3 * n)) (.news [])) : @WCall' Go.Proofs.Try.prog S 38 [.sl n (enc (mkN k n)), i6 k] H ⟨K⟩ :=
  WCall_pure hS (laws_heldNodeS_c n k hl hk hk2) (by simp) (by simp) (by simp) hK
theorem laws_heldNodeS_k {n : Nat} {k : Int} (hl : n ≤ 4294967296) (hk : 0 ≤ k) (hk2 : k ≤ 4294967296) {S : FuncId → Bool} {H : List Blk} {K : A → Dl → Prop} {zs : List A} (hS : S 38 = false) (hv : viewL (viewA 8 H) zs = some [.sl n (enc (mkN k n)), i6 k]) (ho : noOwns zs = true ∨ nosl (i6 (k + 3 * n)) = true) (hK : K (i6 (k + 3 * n)) (.news [])) : @WCall' Go.Proofs.Try.prog S 38 zs H ⟨K⟩ :=
  WCall_pure hS (laws_heldNodeS_c n k hl hk hk2) hv ho (by simp) hK
theorem laws_heldPool_c (n : Nat) (k : Int) (hl : n ≤ 4294967296) (hk : 0 ≤ k) (hk2 : k ≤ 4294967296) : T 23 [.agg [.sl n (enc (mkN k n))], i6 k] [] (i6 (k + 3 * n)) ([]) := by
  refine semT' (S := S0) hm laws_heldPool_ok (Nat.le_of_ble_eq_true rfl) ?_
  unfold laws_heldPool; dsimp only
  simp
  refine laws_heldNodeS_call (n := n) (k := k) hl hk hk2 rfl ?_; simp
  have e : ¬ k + 3 * (n : Int) < 0 := by omega
  simp [e]
  exact LeV.ro rfl rfl (by simp)
theorem laws_heldPool_call {n : Nat} {k : Int} (hl : n ≤ 4294967296) (hk : 0 ≤ k) (hk2 : k ≤ 4294967296) {S : FuncId → Bool} {H : List Blk} {K : A → Dl → Prop} (hS : S 23 = false) (hK : K (i6 (k + 3 * n)) (.news [])) : @WCall' Go.Proofs.Try.prog S 23 [.agg [.sl n (enc (mkN k n))], i6 k] H ⟨K⟩ :=
  WCall_pure hS (laws_heldPool_c n k hl hk hk2) (by simp) (by simp) (by simp) hK
theorem laws_heldPool_k {n : Nat} {k : Int} (hl : n ≤ 4294967296) (hk : 0 ≤ k) (hk2 : k ≤ 4294967296) {S : FuncId → Bool} {H : List Blk} {K : A → Dl → Prop} {zs : List A} (hS : S 23 = false) (hv : viewL (viewA 8 H) zs = some [.agg [.sl n (enc (mkN k n))], i6 k]) (ho : noOwns zs = true ∨ nosl (i6 (k + 3 * n)) = true) (hK : K (i6 (k + 3 * n)) (.news [])) : @WCall' Go.Proofs.Try.prog S 23 zs H ⟨K⟩ :=
  WCall_pure hS (laws_heldPool_c n k hl hk hk2) hv ho (by simp) hK
end Go.Proofs.Ytijileoflejgpaa.C

set_option linter.unusedVariables false
set_option linter.unusedSimpArgs false
set_option maxRecDepth 4000
namespace Go.Proofs.Ytijileoflejgpaa.C
open Go.Sym Go.Proofs.Ytijileoflejgpaa.I
structure Sp where
  r : Int
  t : Int
  a : Int
  b : Int
deriving DecidableEq
theorem Sp_eq {x y : Sp} : x = y ↔ x.r = y.r ∧ x.t = y.t ∧ x.a = y.a ∧ x.b = y.b := by cases x; cases y; simp
def encT (s : Sp) : List A := [i6 s.r, i6 s.t, i6 s.a, i6 s.b]
def encS (ss : List Sp) : List A := ss.flatMap encT
theorem encT_len (n : Sp) : (encT n).length = 4 := rfl
@[simp] theorem encS_len (ns : List Sp) : (encS ns).length = ns.length * 4 := flat_len encT_len ns
@[simp] theorem encS_scals (ns : List Sp) : scals (encS ns) = true := scals_flat _ (fun _ => rfl) ns
theorem encS_at {ns : List Sp} {j : Nat} (h : j < ns.length) : ∃ r, (encS ns).drop (j * 4) = i6 ns[j].r :: i6 ns[j].t :: i6 ns[j].a :: i6 ns[j].b :: r := flat_at encT_len (List.getElem?_eq_getElem h)
@[simp] theorem encS_view (n : Nat) (H : List Blk) (ns : List Sp) : viewL (viewA (n + 1) H) (encS ns) = some (encS ns) := viewL_scals _ (encS_scals ns)
@[simp] theorem encS_noOwns (ns : List Sp) : noOwns (encS ns) = true := noOwns_scals _ (encS_scals ns)
@[simp] theorem encS_nosls (ns : List Sp) : nosls (encS ns) = true := nosls_scals _ (encS_scals ns)
@[simp] theorem encS_shift (n : Nat) (ns : List Sp) : shiftAs n (encS ns) = encS ns := shiftAs_scals _ (encS_scals ns)
@[simp] theorem encS_inAs (m : Nat) (ns : List Sp) : inAs m (encS ns) = true := inAs_scals _ (encS_scals ns)
@[simp] theorem encS_tells (H H' : List Blk) (g : List (Option Nat)) (ns : List Sp) : Tells H H' g (encS ns) (encS ns) := Tells_scals _ (encS_scals ns)
@[simp] theorem encS_one (ns : List Sp) : (encS ns).all A.one = true := one_scals _ (encS_scals ns)
@[simp] theorem encS_take (ns : List Sp) : (encS ns).take (ns.length * 4) = encS ns := List.take_of_length_le (by simp)
@[simp] theorem encS_nil : encS [] = [] := rfl
theorem encS_snoc (ns : List Sp) (n : Sp) : encS (ns ++ [n]) = encS ns ++ [i6 n.r, i6 n.t, i6 n.a, i6 n.b] := by simp [encS, encT]
theorem encS_takes (ns : List Sp) (j : Nat) : (encS ns).take (j * 4) = encS (ns.take j) := flat_take encT_len ns j
theorem encS_drops (ns : List Sp) (j : Nat) : (encS ns).drop (j * 4) = encS (ns.drop j) := flat_drop encT_len ns j
abbrev aSt (n : Sp) : A := .agg [i6 n.r, i6 n.t, i6 n.a, i6 n.b]
abbrev aSs (ss : List Sp) : A := .sl ss.length (encS ss)
/-- How many steps a step needs. -/
def needsF (ns : List Nd) (s : Sp) : Int :=
  if s.r = 1 ∨ s.r = 2 then 0 else if s.r = 3 then partsF (nodeAt ns s.t).k else if s.r = 4 ∨ s.r = 7 then 2 else if s.r = 5 ∨ s.r = 6 ∨ s.r = 8 then 1 else -1
theorem partsL_len {ns : List Nd} (hp : poolF ns = true) {t : Int} (ht : hasF ns.length t = true) : ((partsL (nodeAt ns t)).length : Int) = partsF (nodeAt ns t).k := by
  obtain ⟨j, rfl, hj⟩ := hasN ht
  rw [nodeAt_nat hj]
  rcases parts_kind hp hj with h | h | h <;> simp [partsL, h]
def stepNeedsF (ns : List Nd) (s : Sp) : Int := if poolF ns = true ∧ hasF ns.length s.t = true then needsF ns s else -1
/-- The term of a step ahead of place m; -1: there's none. -/
def termAt (ss : List Sp) (m : Nat) (k : Int) : Int := if inF k 0 ((m : Int) - 1) then (ss.getD k.toNat ⟨0, 0, 0, 0⟩).t else -1
end Go.Proofs.Ytijileoflejgpaa.C

set_option linter.unusedVariables false
set_option linter.unusedSimpArgs false
namespace Go.Proofs.Ytijileoflejgpaa.C
open Go.Sym Go.Proofs.Ytijileoflejgpaa.I
def mkI (k : Int) : Nat → List Int
  | 0 => []
  | n + 1 => mkI k n ++ [k + n]
@[simp] theorem mkI_len (k : Int) (n : Nat) : (mkI k n).length = n := by induction n with | zero => rfl | succ n ih => simp [mkI, ih]
@[simp] theorem mkI_take (k : Int) (n : Nat) : (ints (mkI k n)).take n = ints (mkI k n) := List.take_of_length_le (by simp)
theorem mkI_get (k : Int) : ∀ (n j : Nat) (h : j < (mkI k n).length), (mkI k n)[j] = k + j
  | 0, j, h => by simp at h
  | n + 1, j, h => by
    simp only [mkI]
    rcases Nat.lt_or_ge j n with g | g
    · rw [List.getElem_append_left (by simpa using g)]
      exact mkI_get k n j (by simpa using g)
    · have : j = n := by simp at h; omega
      subst this
      simp
theorem mkI_set (k : Int) (ns : List Int) (j : Nat) (h : j < ns.length) : (mkI k j ++ ns.drop j).set j (k + j) = mkI k (j + 1) ++ ns.drop (j + 1) := by
  rw [List.set_append_right _ _ (by simp), mkI_len, Nat.sub_self, List.drop_eq_getElem_cons h, List.set_cons_zero]
  simp [mkI]
theorem laws_markIntS_m (H : List Blk) (nb v : Nat) (ro : Bool) (ns : List Int) (k : Int) (hH : H[nb]? = some ⟨v, ro, 1, ints ns, none⟩) (hro : ro = true → ns = []) (hl : ns.length ≤ 4294967296) (hk : 0 ≤ k) (hk2 : k ≤ 1099511627776) : T 20 [.ref nb v 0 ns.length, i6 k] (H) (i6 (k + ns.length)) (H.set nb ⟨v, ro, 1, ints (mkI k ns.length), none⟩) := by
  refine semT' (S := S0) hm laws_markIntS_ok (Nat.le_of_ble_eq_true rfl) ?_
  unfold laws_markIntS; dsimp only
  have hlt : nb < H.length := (List.getElem?_eq_some_iff.1 hH).1
  have hs0 : H.set nb ⟨v, ro, 1, ints (mkI k 0 ++ ns.drop 0), none⟩ = H := set_self (by simpa [mkI] using hH)
  simp
  generalize hB : H.length = B
  rw [← hs0]
  refine WLoop_fam (fun p : Nat × Int => [(0, A.ref nb v 0 ns.length), (1, i6 p.2), (5, i6 p.1)]) (fun p => H.set nb ⟨v, ro, 1, ints (mkI k p.1 ++ ns.drop p.1), none⟩) (fun p => ns.length - p.1)
    (fun p => p.1 ≤ ns.length ∧ p.2 = k + p.1) ?_ (0, k) ⟨Nat.zero_le _, by simp⟩
  rintro ⟨j, k'⟩ ⟨hj, hk'⟩ ih
  simp at hk' hj
  subst hk'
  have hlen : (mkI k j ++ ns.drop j).length = ns.length := by simp; omega
  simp [hlt]
  refine br_intro' (fun h => ?_) (fun h => ?_) <;> (have h0 := h) <;> (try simp at h) <;> try simp [h0, h]
  · have h' := h
    have hr : ro = false := by cases ro with | false => rfl | true => rw [hro rfl] at h; simp at h
    subst hr
    have w1 : IntKind.i64.wrap (k + (j : Int) + 1) = k + j + 1 := wrap64 (by omega) (by omega)
    have hw : IntKind.i64.wrap ((j : Int) + 1) = j + 1 := wrap64 (by omega) (by omega)
    have hc : j + (ns.length - j) = ns.length := by omega
    simp [h', hlt, hc, w1, hw]
    refine ck_intro' (by omega) ?_; simp [h', hlt, hc, w1, hw]
    have e3 := ints_set (mkI k j ++ ns.drop j) j (k + j)
    rw [mkI_set k ns j h'] at e3
    rw [e3]
    exact ih (j + 1, k + j + 1) ⟨h', by push_cast; omega⟩ (by simp; omega)
  · have e : j = ns.length := by omega
    subst e
    simp
    exact LeV.refl _ _ _
theorem laws_heldIntS_c (n : Nat) (k : Int) (hl : n ≤ 4294967296) (hk : 0 ≤ k) (hk2 : k ≤ 1099511627776) : T 24 [.sl n (ints (mkI k n)), i6 k] [] (i6 (k + n)) ([]) := by
  refine semT' (S := S0) hm laws_heldIntS_ok (Nat.le_of_ble_eq_true rfl) ?_
  unfold laws_heldIntS; dsimp only
  simp
  refine WLoop_fam (fun p : Nat × Int => [(0, .sl n (ints (mkI k n))), (1, i6 p.2), (5, i6 p.1)]) (fun _ => []) (fun p => n - p.1)
    (fun p => p.1 ≤ n ∧ p.2 = k + p.1) ?_ (0, k) ⟨Nat.zero_le _, by simp⟩
  rintro ⟨j, k'⟩ ⟨hj, hk'⟩ ih
  simp at hk' hj
  subst hk'
  simp
  refine br_intro' (fun h => ?_) (fun h => ?_) <;> (have h0 := h) <;> (try simp at h) <;> try simp [h0, h]
  · have h' := h
    have w1 : IntKind.i64.wrap (k + (j : Int) + 1) = k + j + 1 := wrap64 (by omega) (by omega)
    have hw : IntKind.i64.wrap ((j : Int) + 1) = j + 1 := wrap64 (by omega) (by omega)
    simp [h', mkI_get, w1, hw]
    exact ih (j + 1, k + j + 1) ⟨h', by push_cast; omega⟩ (by simp; omega)
  · have e : j = n := by omega
    subst e
    exact LeV.ro rfl rfl (by simp)
theorem laws_heldIntS_call {n : Nat} {k : Int} (hl : n ≤ 4294967296) (hk : 0 ≤ k) (hk2 : k ≤ 1099511627776) {S : FuncId → Bool} {H : List Blk} {K : A → Dl → Prop} (hS : S 24 = false) (hK : K (i6 (k + n)) (.news [])) : @WCall' Go.Proofs.Try.prog S 24 [.sl n (ints (mkI k n)), i6 k] H ⟨K⟩ :=
  WCall_pure hS (laws_heldIntS_c n k hl hk hk2) (by simp) (by simp) (by simp) hK
theorem laws_heldIntS_k {n : Nat} {k : Int} (hl : n ≤ 4294967296) (hk : 0 ≤ k) (hk2 : k ≤ 1099511627776) {S : FuncId → Bool} {H : List Blk} {K : A → Dl → Prop} {zs : List A} (hS : S 24 = false) (hv : viewL (viewA 8 H) zs = some [.sl n (ints (mkI k n)), i6 k]) (ho : noOwns zs = true ∨ nosl (i6 (k + n)) = true) (hK : K (i6 (k + n)) (.news [])) : @WCall' Go.Proofs.Try.prog S 24 zs H ⟨K⟩ :=
  WCall_pure hS (laws_heldIntS_c n k hl hk hk2) hv ho (by simp) hK

abbrev shT : Sh := .st (.p shI (.p shI (.p shI (.p shI .u))))
theorem fit_t {cs : List A} (h : Fit shT cs) : ∃ n : Sp, cs = encT n ∧ In64 n.r ∧ In64 n.t ∧ In64 n.a ∧ In64 n.b := by
  obtain ⟨x, y, rfl, hx, z, t, rfl, hz, u, w, rfl, hu, v, v', rfl, hv, rfl⟩ := h
  obtain ⟨a, rfl, ha⟩ := fit_i hx
  obtain ⟨b, rfl, hb⟩ := fit_i hz
  obtain ⟨c, rfl, hc⟩ := fit_i hu
  obtain ⟨d, rfl, hd⟩ := fit_i hv
  exact ⟨⟨a, b, c, d⟩, rfl, ha, hb, hc, hd⟩
theorem arg_ts {x : A} (h : FitA (.sl shT) x) : ∃ ss : List Sp, x = aSs ss ∧ ss.length < 9223372036854775808 := by
  obtain ⟨xs, e, h1, _⟩ := fit_sl (f := encT) (fun r hr => fit_t hr) (show Fit (.sl shT) [x] from h)
  refine ⟨xs, ?_, h1⟩
  simp only [List.cons.injEq, and_true] at e
  exact e
abbrev tref (b : Nat) (ss : List Sp) : A := .ref b ss.length 0 ss.length
/-- A row of steps that a law made. -/
abbrev uqblk (ss : List Sp) : Blk := ⟨ss.length, false, 4, encS ss, none⟩
def zT (j : Nat) : List Sp := List.replicate j ⟨0, 0, 0, 0⟩
def upT (ns : List Sp) (j : Nat) : List Sp := ns.take j ++ zT (ns.length - j)
theorem upT_len (ns : List Sp) (j : Nat) (h : j ≤ ns.length) : (upT ns j).length = ns.length := by simp [upT, zT]; omega
theorem upT_zero (ns : List Sp) : upT ns 0 = zT ns.length := by simp [upT]
theorem upT_end (ns : List Sp) : upT ns ns.length = ns := by simp [upT, zT]
theorem encS_zT (j : Nat) : encS (zT j) = (List.replicate j [i6 0, i6 0, i6 0, i6 0]).flatten := by
  induction j with
  | zero => rfl
  | succ j ih => simp only [zT, List.replicate_succ, encS, List.flatMap_cons, List.flatten_cons] at ih ⊢; rw [ih]; rfl
theorem upT_set (ns : List Sp) (j : Nat) (h : j < ns.length) : (upT ns j).set j ns[j] = upT ns (j + 1) := by
  have hl : (ns.take j).length = j := by simp; omega
  have e : ns.length - j = (ns.length - (j + 1)) + 1 := by omega
  simp only [upT, zT]
  rw [List.set_append_right _ _ (by omega), hl, Nat.sub_self, e, List.replicate_succ, List.set_cons_zero, List.take_succ_eq_append_getElem h, List.append_assoc]
  rfl
theorem encS_set : ∀ (xs : List Sp) (j : Nat) (n : Sp), ((((encS xs).set (j * 4) (i6 n.r)).set (j * 4 + 1) (i6 n.t)).set (j * 4 + 2) (i6 n.a)).set (j * 4 + 3) (i6 n.b) = encS (xs.set j n)
  | [], j, n => by simp
  | x :: xs, 0, n => rfl
  | x :: xs, j + 1, n => by
    have := encS_set xs j n
    have e : (j + 1) * 4 = j * 4 + 1 + 1 + 1 + 1 := by omega
    show (((([i6 x.r, i6 x.t, i6 x.a, i6 x.b] ++ encS xs).set ((j + 1) * 4) _).set ((j + 1) * 4 + 1) _).set ((j + 1) * 4 + 2) _).set ((j + 1) * 4 + 3) _ = [i6 x.r, i6 x.t, i6 x.a, i6 x.b] ++ encS (xs.set j n)
    rw [e, ← this]
    rfl
def mkTs (k : Int) : Nat → List Sp
  | 0 => []
  | n + 1 => mkTs k n ++ [⟨k + 4 * n, k + 4 * n + 1, k + 4 * n + 2, k + 4 * n + 3⟩]
@[simp] theorem mkTs_len (k : Int) (n : Nat) : (mkTs k n).length = n := by induction n with | zero => rfl | succ n ih => simp [mkTs, ih]
@[simp] theorem mkTs_take (k : Int) (n : Nat) : (encS (mkTs k n)).take (n * 4) = encS (mkTs k n) := List.take_of_length_le (by simp)
theorem mkTs_get (k : Int) : ∀ (n j : Nat) (h : j < (mkTs k n).length), (mkTs k n)[j] = ⟨k + 4 * j, k + 4 * j + 1, k + 4 * j + 2, k + 4 * j + 3⟩
  | 0, j, h => by simp at h
  | n + 1, j, h => by
    simp only [mkTs]
    rcases Nat.lt_or_ge j n with g | g
    · rw [List.getElem_append_left (by simpa using g)]
      exact mkTs_get k n j (by simpa using g)
    · have : j = n := by simp at h; omega
      subst this
      simp
theorem mkTs_set (k : Int) (ns : List Sp) (j : Nat) (h : j < ns.length) : (mkTs k j ++ ns.drop j).set j ⟨k + 4 * j, k + 4 * j + 1, k + 4 * j + 2, k + 4 * j + 3⟩ = mkTs k (j + 1) ++ ns.drop (j + 1) := by
  rw [List.set_append_right _ _ (by simp), mkTs_len, Nat.sub_self, List.drop_eq_getElem_cons h, List.set_cons_zero]
  simp [mkTs]
theorem encS_gets {ns : List Sp} {j : Nat} (h : j < ns.length) : (encS ns)[j * 4]? = some (i6 ns[j].r) ∧ (encS ns)[j * 4 + 1]? = some (i6 ns[j].t) ∧ (encS ns)[j * 4 + 2]? = some (i6 ns[j].a) ∧ (encS ns)[j * 4 + 3]? = some (i6 ns[j].b) := by
  obtain ⟨r, hr⟩ := encS_at h
  have e : ∀ i, (encS ns)[j * 4 + i]? = (i6 ns[j].r :: i6 ns[j].t :: i6 ns[j].a :: i6 ns[j].b :: r)[i]? := fun i => by rw [← hr, List.getElem?_drop]
  exact ⟨e 0, e 1, e 2, e 3⟩
theorem encS_r {ns : List Sp} {j : Nat} (h : j < ns.length) {h' : j * 4 < (encS ns).length} : (encS ns)[j * 4] = i6 ns[j].r := by
  have := (encS_gets h).1
  rw [List.getElem?_eq_getElem h'] at this
  simpa using this
theorem encS_t {ns : List Sp} {j : Nat} (h : j < ns.length) {h' : j * 4 + 1 < (encS ns).length} : (encS ns)[j * 4 + 1] = i6 ns[j].t := by
  have := (encS_gets h).2.1
  rw [List.getElem?_eq_getElem h'] at this
  simpa using this
theorem encS_a {ns : List Sp} {j : Nat} (h : j < ns.length) {h' : j * 4 + 2 < (encS ns).length} : (encS ns)[j * 4 + 2] = i6 ns[j].a := by
  have := (encS_gets h).2.2.1
  rw [List.getElem?_eq_getElem h'] at this
  simpa using this
theorem encS_b {ns : List Sp} {j : Nat} (h : j < ns.length) {h' : j * 4 + 3 < (encS ns).length} : (encS ns)[j * 4 + 3] = i6 ns[j].b := by
  have := (encS_gets h).2.2.2
  rw [List.getElem?_eq_getElem h'] at this
  simpa using this
end Go.Proofs.Ytijileoflejgpaa.C

set_option linter.unusedVariables false
set_option linter.unusedSimpArgs false
set_option maxRecDepth 4000
namespace Go.Proofs.Ytijileoflejgpaa.C
open Go.Sym Go.Proofs.Ytijileoflejgpaa.I
theorem rest_call {f : FuncId} {S : FuncId → Bool} {H : List Blk} {K : A → Dl → Prop} {zs : List A} {r : A} (hS : S f = true) (h : T f zs [] r []) (hx : noOwns zs = true) (hs : ∀ n, shiftA n r = r) (hK : K r (.full [] H)) : @WCall' Go.Proofs.Try.prog S f zs H ⟨K⟩ :=
  WCall_t' hS [] (h.lift hx hs H) (Nat.le_refl _) (fun _ _ _ => rfl) hK
theorem spec_l2Agent_c (a : Int)  : T 27 [i6 a] [] (.bool (inF a 0 4)) ([]) := by
  refine semT' (S := S0) hm spec_l2Agent_ok (Nat.le_of_ble_eq_true rfl) ?_
  unfold spec_l2Agent; dsimp only
  simp
  refine spec_l1In_call rfl ?_; simp
  exact LeV.ro rfl rfl (by simp)
theorem spec_l2Agent_call {a : Int}  {S : FuncId → Bool} {H : List Blk} {K : A → Dl → Prop} (hS : S 27 = false) (hK : K (.bool (inF a 0 4)) (.news [])) : @WCall' Go.Proofs.Try.prog S 27 [i6 a] H ⟨K⟩ :=
  WCall_pure hS (spec_l2Agent_c a) (by simp) (by simp) (by simp) hK
theorem spec_l2Agent_k {a : Int}  {S : FuncId → Bool} {H : List Blk} {K : A → Dl → Prop} {zs : List A} (hS : S 27 = false) (hv : viewL (viewA 8 H) zs = some [i6 a]) (ho : noOwns zs = true ∨ nosl (.bool (inF a 0 4)) = true) (hK : K (.bool (inF a 0 4)) (.news [])) : @WCall' Go.Proofs.Try.prog S 27 zs H ⟨K⟩ :=
  WCall_pure hS (spec_l2Agent_c a) hv ho (by simp) hK
theorem impl_isAgent_c (a : Int)  : T 43 [i6 a] [] (.bool (inF a 0 4)) ([]) := by
  refine semT' (S := S0) hm impl_isAgent_ok (Nat.le_of_ble_eq_true rfl) ?_
  unfold impl_isAgent; dsimp only
  simp
  refine impl_inRange_call rfl ?_; simp
  exact LeV.ro rfl rfl (by simp)
theorem impl_isAgent_call {a : Int}  {S : FuncId → Bool} {H : List Blk} {K : A → Dl → Prop} (hS : S 43 = false) (hK : K (.bool (inF a 0 4)) (.news [])) : @WCall' Go.Proofs.Try.prog S 43 [i6 a] H ⟨K⟩ :=
  WCall_pure hS (impl_isAgent_c a) (by simp) (by simp) (by simp) hK
theorem impl_isAgent_k {a : Int}  {S : FuncId → Bool} {H : List Blk} {K : A → Dl → Prop} {zs : List A} (hS : S 43 = false) (hv : viewL (viewA 8 H) zs = some [i6 a]) (ho : noOwns zs = true ∨ nosl (.bool (inF a 0 4)) = true) (hK : K (.bool (inF a 0 4)) (.news [])) : @WCall' Go.Proofs.Try.prog S 43 zs H ⟨K⟩ :=
  WCall_pure hS (impl_isAgent_c a) hv ho (by simp) hK
theorem spec_StaticKey_c (a : Nat) (ha : a < 5) : T 10 [i6 a] [] (i6 (90 + a)) ([]) := by
  refine semT' (S := S0) hm spec_StaticKey_ok (Nat.le_of_ble_eq_true rfl) ?_
  unfold spec_StaticKey; dsimp only
  have hw : IntKind.i64.wrap (90 + (a : Int)) = 90 + a := wrap64 (by omega) (by omega)
  have hi : inF a 0 4 = true := by simp [inF]; omega
  simp
  refine spec_l2Agent_call (a := a) rfl ?_; simp [hi, hw]
  exact LeV.ro rfl rfl (by simp)
theorem spec_StaticKey_call {a : Nat} (ha : a < 5) {S : FuncId → Bool} {H : List Blk} {K : A → Dl → Prop} (hS : S 10 = false) (hK : K (i6 (90 + a)) (.news [])) : @WCall' Go.Proofs.Try.prog S 10 [i6 a] H ⟨K⟩ :=
  WCall_pure hS (spec_StaticKey_c a ha) (by simp) (by simp) (by simp) hK
theorem spec_StaticKey_k {a : Nat} (ha : a < 5) {S : FuncId → Bool} {H : List Blk} {K : A → Dl → Prop} {zs : List A} (hS : S 10 = false) (hv : viewL (viewA 8 H) zs = some [i6 a]) (ho : noOwns zs = true ∨ nosl (i6 (90 + a)) = true) (hK : K (i6 (90 + a)) (.news [])) : @WCall' Go.Proofs.Try.prog S 10 zs H ⟨K⟩ :=
  WCall_pure hS (spec_StaticKey_c a ha) hv ho (by simp) hK
theorem impl_StaticKey_c (a : Nat) (ha : a < 5) : T 33 [i6 a] [] (i6 (90 + a)) ([]) := by
  refine semT' (S := S0) hm impl_StaticKey_ok (Nat.le_of_ble_eq_true rfl) ?_
  unfold impl_StaticKey; dsimp only
  have hw : IntKind.i64.wrap (90 + (a : Int)) = 90 + a := wrap64 (by omega) (by omega)
  have hi : inF a 0 4 = true := by simp [inF]; omega
  simp
  refine impl_isAgent_call (a := a) rfl ?_; simp [hi, hw]
  exact LeV.ro rfl rfl (by simp)
theorem impl_StaticKey_call {a : Nat} (ha : a < 5) {S : FuncId → Bool} {H : List Blk} {K : A → Dl → Prop} (hS : S 33 = false) (hK : K (i6 (90 + a)) (.news [])) : @WCall' Go.Proofs.Try.prog S 33 [i6 a] H ⟨K⟩ :=
  WCall_pure hS (impl_StaticKey_c a ha) (by simp) (by simp) (by simp) hK
theorem impl_StaticKey_k {a : Nat} (ha : a < 5) {S : FuncId → Bool} {H : List Blk} {K : A → Dl → Prop} {zs : List A} (hS : S 33 = false) (hv : viewL (viewA 8 H) zs = some [i6 a]) (ho : noOwns zs = true ∨ nosl (i6 (90 + a)) = true) (hK : K (i6 (90 + a)) (.news [])) : @WCall' Go.Proofs.Try.prog S 33 zs H ⟨K⟩ :=
  WCall_pure hS (impl_StaticKey_c a ha) hv ho (by simp) hK
/-- A public key of an agent. -/
def powO (ns : List Nd) (a : Int) : List Nd × Int := addF (addF ns ⟨1, 90 + a, 0⟩).1 ⟨7, (addF ns ⟨1, 90 + a, 0⟩).2, 0⟩
theorem impl_Pool_powerOf_m (H : List Blk) (b off nb vb eb : Nat) (cb : List A) (ns : List Nd) (a : Nat) (h : PIn H b off nb cb) (hl : ns.length ≤ 500) (ha : a < 5) : T 14 [.ptr b vb off, i6 a] (pset H b off nb vb eb cb ns) (i6 (powO ns a).2) (pset H b off nb vb eb cb (powO ns a).1) := by
  refine semT' (S := (fun f => [32, 13].contains f)) hm impl_Pool_powerOf_ok (Nat.le_of_ble_eq_true rfl) ?_
  unfold impl_Pool_powerOf; dsimp only
  simp
  refine impl_StaticKey_call (a := a) ha rfl ?_; simp
  refine pool_call rfl b off nb vb eb cb ns (addF ns ⟨1, 90 + (a : Int), 0⟩).1 (h.pset vb eb ns) (pset_pset h vb eb ns ns) (by rw [pset_pset h, pset_pset h]; exact impl_Pool_name_m H b off nb vb eb cb ns _ h hl) ?_
  simp [pset_pset h]
  have hl1 := addF_len ns ⟨1, 90 + (a : Int), 0⟩ hl
  have e : powO ns a = addF (addF ns ⟨1, 90 + (a : Int), 0⟩).1 ⟨7, (addF ns ⟨1, 90 + (a : Int), 0⟩).2, 0⟩ := rfl
  rw [e]
  generalize addF ns ⟨1, 90 + (a : Int), 0⟩ = A1 at hl1 ⊢
  refine pool_call rfl b off nb vb eb cb A1.1 (addF A1.1 ⟨7, A1.2, 0⟩).1 (h.pset vb eb _) (pset_pset h vb eb _ _) (by rw [pset_pset h, pset_pset h]; exact impl_Pool_add_m H b off nb vb eb cb A1.1 7 A1.2 0 h hl1) ?_
  simp [pset_pset h]
  exact LeV.refl _ _ _
/-- The names of the agents. -/
def wn : Nat → List Nd
  | 0 => []
  | n + 1 => (addF (wn n) ⟨1, n, 0⟩).1
/-- Their public keys. -/
def wp : Nat → List Nd × List Int
  | 0 => (wn 5, [])
  | n + 1 => ((powO (wp n).1 n).1, (wp n).2 ++ [(powO (wp n).1 n).2])
theorem wn_pool (n : Nat) : poolF (wn n) = true := by
  induction n with
  | zero => rfl
  | succ n ih => exact addF_pool _ ih
theorem wp_pool (n : Nat) : poolF (wp n).1 = true := by
  induction n with
  | zero => exact wn_pool 5
  | succ n ih => exact addF_pool _ (addF_pool _ ih)
theorem wn_len (n : Nat) : (wn n).length ≤ 500 := poolF_len (wn_pool n)
theorem wp_len (n : Nat) : (wp n).1.length ≤ 500 := poolF_len (wp_pool n)
theorem wp_klen (n : Nat) : (wp n).2.length = n := by
  induction n with
  | zero => rfl
  | succ n ih => simp [wp, ih]
theorem wp_put : ∀ n : Nat, n < 5 → putF (wp n).2 (powO (wp n).1 n).2 = (wp n).2 ++ [(powO (wp n).1 n).2]
  | 0, _ => by kernel_rfl
  | 1, _ => by kernel_rfl
  | 2, _ => by kernel_rfl
  | 3, _ => by kernel_rfl
  | 4, _ => by kernel_rfl
  | n + 5, h => by omega
end Go.Proofs.Ytijileoflejgpaa.C
