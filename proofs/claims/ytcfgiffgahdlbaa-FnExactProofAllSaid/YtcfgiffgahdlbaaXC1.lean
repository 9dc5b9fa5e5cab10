/- What the functions of the pool answer. Conditions: those that each theorem names. -/
import Derived.Test.YtcfgiffgahdlbaaXI
import Derived.Test.YtcfgiffgahdlbaaXSymU
set_option linter.unusedVariables false
set_option linter.unusedSimpArgs false
namespace Go.Proofs.Ytcfgiffgahdlbaa.C
open Go.Sym Go.Proofs.Ytcfgiffgahdlbaa.I
def S0 : FuncId → Bool := fun _ => false
theorem hm : Go.Proofs.Try.prog.follows .mixedOrders = true := by kernel_rfl
abbrev T := SemT Go.Proofs.Try.prog

structure Nd where
  k : Int
  a : Int
  b : Int
deriving DecidableEq
theorem Nd_eq {x y : Nd} : x = y ↔ x.k = y.k ∧ x.a = y.a ∧ x.b = y.b := by cases x; cases y; simp
def encN (n : Nd) : List A := [i6 n.k, i6 n.a, i6 n.b]
def enc (ns : List Nd) : List A := ns.flatMap encN
theorem encN_len (n : Nd) : (encN n).length = 3 := rfl
@[simp] theorem enc_len (ns : List Nd) : (enc ns).length = ns.length * 3 := flat_len encN_len ns
@[simp] theorem enc_scals (ns : List Nd) : scals (enc ns) = true := scals_flat _ (fun _ => rfl) ns
theorem enc_at {ns : List Nd} {j : Nat} (h : j < ns.length) : ∃ r, (enc ns).drop (j * 3) = i6 ns[j].k :: i6 ns[j].a :: i6 ns[j].b :: r := flat_at encN_len (List.getElem?_eq_getElem h)
@[simp] theorem enc_view (n : Nat) (H : List Blk) (ns : List Nd) : viewL (viewA (n + 1) H) (enc ns) = some (enc ns) := viewL_scals _ (enc_scals ns)
@[simp] theorem enc_noOwns (ns : List Nd) : noOwns (enc ns) = true := noOwns_scals _ (enc_scals ns)
@[simp] theorem enc_nosls (ns : List Nd) : nosls (enc ns) = true := nosls_scals _ (enc_scals ns)
@[simp] theorem enc_shift (n : Nat) (ns : List Nd) : shiftAs n (enc ns) = enc ns := shiftAs_scals _ (enc_scals ns)
abbrev aN (n : Nd) : A := .agg [i6 n.k, i6 n.a, i6 n.b]
abbrev aP (ns : List Nd) : A := .agg [.sl ns.length (enc ns)]

def partsF (k : Int) : Int := if k = 1 then 0 else if k = 5 ∨ k = 7 then 1 else if k = 2 ∨ k = 3 ∨ k = 4 ∨ k = 6 ∨ k = 8 then 2 else -1

def inF (x lo hi : Int) : Bool := decide (lo ≤ x ∧ x ≤ hi)
theorem inF_iff {x lo hi : Int} : inF x lo hi = true ↔ lo ≤ x ∧ x ≤ hi := by simp [inF]
theorem spec_l1In_c (x lo hi : Int)  : T 37 [i6 x, i6 lo, i6 hi] [] (.bool (inF x lo hi)) ([]) := by
  refine semT' (S := S0) hm spec_l1In_ok (Nat.le_of_ble_eq_true rfl) ?_
  unfold spec_l1In; dsimp only
  simp
  by_cases h : lo ≤ x
  · simp [h]
    exact LeV.eq (by simp [inF, h]) rfl
  · simp [h]
    exact LeV.eq (by simp [inF, h]) rfl
theorem spec_l1In_call {x lo hi : Int}  {S : FuncId → Bool} {H : List Blk} {K : A → Dl → Prop} (hS : S 37 = false) (hK : K (.bool (inF x lo hi)) (.news [])) : @WCall' Go.Proofs.Try.prog S 37 [i6 x, i6 lo, i6 hi] H ⟨K⟩ :=
  WCall_pure hS (spec_l1In_c x lo hi) (by simp) (by simp) (by simp) hK
theorem spec_l1In_k {x lo hi : Int}  {S : FuncId → Bool} {H : List Blk} {K : A → Dl → Prop} {zs : List A} (hS : S 37 = false) (hv : viewL (viewA 8 H) zs = some [i6 x, i6 lo, i6 hi]) (ho : noOwns zs = true ∨ nosl (.bool (inF x lo hi)) = true) (hK : K (.bool (inF x lo hi)) (.news [])) : @WCall' Go.Proofs.Try.prog S 37 zs H ⟨K⟩ :=
  WCall_pure hS (spec_l1In_c x lo hi) hv ho (by simp) hK
theorem spec_l1Parts_c (x : Int)  : T 63 [i6 x] [] (i6 (partsF x)) ([]) := by
  refine semT' (S := S0) hm spec_l1Parts_ok (Nat.le_of_ble_eq_true rfl) ?_
  unfold spec_l1Parts; dsimp only
  simp
  repeat (any_goals (first | (refine br_intro' (fun h => ?_) (fun h => ?_) <;> (have h0 := h) <;> (try simp at h) <;> try simp [h0, h])))
  all_goals exact LeV.eq (by simp [partsF, *]) rfl
theorem spec_l1Parts_call {x : Int}  {S : FuncId → Bool} {H : List Blk} {K : A → Dl → Prop} (hS : S 63 = false) (hK : K (i6 (partsF x)) (.news [])) : @WCall' Go.Proofs.Try.prog S 63 [i6 x] H ⟨K⟩ :=
  WCall_pure hS (spec_l1Parts_c x) (by simp) (by simp) (by simp) hK
theorem spec_l1Parts_k {x : Int}  {S : FuncId → Bool} {H : List Blk} {K : A → Dl → Prop} {zs : List A} (hS : S 63 = false) (hv : viewL (viewA 8 H) zs = some [i6 x]) (ho : noOwns zs = true ∨ nosl (i6 (partsF x)) = true) (hK : K (i6 (partsF x)) (.news [])) : @WCall' Go.Proofs.Try.prog S 63 zs H ⟨K⟩ :=
  WCall_pure hS (spec_l1Parts_c x) hv ho (by simp) hK
def rightF (n : Nd) (many : Int) : Bool :=
  if partsF n.k = 0 then inF n.a 0 199 && decide (n.b = 0)
  else if partsF n.k = 1 then inF n.a 0 (many - 1) && decide (n.b = 0)
  else if partsF n.k = 2 then inF n.a 0 (many - 1) && inF n.b 0 (many - 1) && (decide (n.k ≠ 8) || decide (n.a ≤ n.b))
  else false
theorem spec_l1Right_c (n : Nd) (many : Int) (h1 : 0 ≤ many) (h2 : many < 9223372036854775808) : T 88 [aN n, i6 many] [] (.bool (rightF n many)) ([]) := by
  refine semT' (S := S0) hm spec_l1Right_ok (Nat.le_of_ble_eq_true rfl) ?_
  unfold spec_l1Right; dsimp only
  have hw : IntKind.i64.wrap (many - 1) = many - 1 := wrap64 (by omega) (by omega)
  simp [hw]
  repeat (any_goals (first | (refine br_intro' (fun h => ?_) (fun h => ?_) <;> (have h0 := h) <;> (try simp at h) <;> try simp [h0, h, hw]) | (refine spec_l1Parts_call rfl ?_; simp [hw]) | (refine spec_l1In_call rfl ?_; simp [hw])))
  all_goals exact LeV.ro rfl rfl (by first | (simp [rightF, *]; done) | (simp only [viewA, rightF]; simp only [if_neg ‹¬partsF n.k = 0›, if_neg ‹¬partsF n.k = 1›, if_pos ‹partsF n.k = 2›]; simp [*]))
theorem spec_l1Right_call {n : Nd} {many : Int} (h1 : 0 ≤ many) (h2 : many < 9223372036854775808) {S : FuncId → Bool} {H : List Blk} {K : A → Dl → Prop} (hS : S 88 = false) (hK : K (.bool (rightF n many)) (.news [])) : @WCall' Go.Proofs.Try.prog S 88 [aN n, i6 many] H ⟨K⟩ :=
  WCall_pure hS (spec_l1Right_c n many h1 h2) (by simp) (by simp) (by simp) hK
theorem spec_l1Right_k {n : Nd} {many : Int} (h1 : 0 ≤ many) (h2 : many < 9223372036854775808) {S : FuncId → Bool} {H : List Blk} {K : A → Dl → Prop} {zs : List A} (hS : S 88 = false) (hv : viewL (viewA 8 H) zs = some [aN n, i6 many]) (ho : noOwns zs = true ∨ nosl (.bool (rightF n many)) = true) (hK : K (.bool (rightF n many)) (.news [])) : @WCall' Go.Proofs.Try.prog S 88 zs H ⟨K⟩ :=
  WCall_pure hS (spec_l1Right_c n many h1 h2) hv ho (by simp) hK
def findF : List Nd → Nd → Int → Int
  | [], _, _ => -1
  | x :: xs, n, i => if x = n then i else findF xs n (i + 1)
theorem spec_l1Find_c (ns : List Nd) (n : Nd) (hl : ns.length < 9223372036854775807) : T 89 [aP ns, aN n] [] (i6 (findF ns n 0)) ([]) := by
  refine semT' (S := S0) hm spec_l1Find_ok (Nat.le_of_ble_eq_true rfl) ?_
  unfold spec_l1Find; dsimp only
  simp
  refine WLoop_fam (fun j : Nat => [(2, A.ptr 0 0 0), (3, A.ptr 1 0 0), (5, i6 j)]) (fun _ => [⟨0, false, 1, [A.sl ns.length (enc ns)], none⟩, ⟨0, false, 1, [i6 n.k, i6 n.a, i6 n.b], none⟩]) (fun j => ns.length - j)
    (fun j => j ≤ ns.length ∧ findF ns n 0 = findF (ns.drop j) n j) ?_ 0 ⟨Nat.zero_le _, rfl⟩
  intro j ⟨hj, hf⟩ ih
  simp
  refine br_intro' (fun h => ?_) (fun h => ?_) <;> (have h0 := h) <;> (try simp at h) <;> try simp [h0, h]
  · obtain ⟨r, hr⟩ := enc_at h
    have h3 : 3 ≤ ns.length * 3 - j * 3 := by omega
    have hd : ns.drop j = ns[j] :: ns.drop (j + 1) := List.drop_eq_getElem_cons h
    have hw : IntKind.i64.wrap ((j : Int) + 1) = j + 1 := wrap64 (by omega) (by omega)
    simp [h3, hr]
    have h' := h
    first | (refine ck_intro' (by kernel_rfl) ?_; try simp) | skip
    refine br_intro' (fun h => ?_) (fun h => ?_) <;> (have h0 := h) <;> (try simp at h) <;> try simp [h0, h, hr]
    · exact LeV.ro rfl rfl (by rw [hf, hd, findF, if_pos (Nd_eq.2 h)]; rfl)
    · rw [hw]
      refine ih (j + 1) ⟨h', ?_⟩ (by omega)
      rw [hf, hd, findF, if_neg (by rw [Nd_eq]; rintro ⟨a, b, c⟩; exact h a b c)]
      rfl
  · exact LeV.ro rfl rfl (by simp [hf, findF, List.drop_of_length_le h])
theorem spec_l1Find_call {ns : List Nd} {n : Nd} (hl : ns.length < 9223372036854775807) {S : FuncId → Bool} {H : List Blk} {K : A → Dl → Prop} (hS : S 89 = false) (hK : K (i6 (findF ns n 0)) (.news [])) : @WCall' Go.Proofs.Try.prog S 89 [aP ns, aN n] H ⟨K⟩ :=
  WCall_pure hS (spec_l1Find_c ns n hl) (by simp) (by simp) (by simp) hK
theorem spec_l1Find_k {ns : List Nd} {n : Nd} (hl : ns.length < 9223372036854775807) {S : FuncId → Bool} {H : List Blk} {K : A → Dl → Prop} {zs : List A} (hS : S 89 = false) (hv : viewL (viewA 8 H) zs = some [aP ns, aN n]) (ho : noOwns zs = true ∨ nosl (i6 (findF ns n 0)) = true) (hK : K (i6 (findF ns n 0)) (.news [])) : @WCall' Go.Proofs.Try.prog S 89 zs H ⟨K⟩ :=
  WCall_pure hS (spec_l1Find_c ns n hl) hv ho (by simp) hK
def okFrom (ns : List Nd) (j : Nat) : Bool := (List.range' j (ns.length - j)).all fun i => rightF (ns.getD i ⟨0, 0, 0⟩) i && decide (findF ns (ns.getD i ⟨0, 0, 0⟩) 0 = i)
theorem okFrom_at {ns : List Nd} {j : Nat} (h : j < ns.length) : okFrom ns j = (rightF ns[j] j && decide (findF ns ns[j] 0 = j) && okFrom ns (j + 1)) := by
  have : ns.length - j = (ns.length - (j + 1)) + 1 := by omega
  simp only [okFrom]
  rw [this, List.range'_succ, List.all_cons]
  simp [h]
theorem okFrom_end {ns : List Nd} {j : Nat} (h : ns.length ≤ j) : okFrom ns j = true := by simp [okFrom, Nat.sub_eq_zero_of_le h]
def poolF (ns : List Nd) : Bool := decide (ns.length ≤ 500) && okFrom ns 0
theorem spec_PoolOk_c (ns : List Nd)  : T 61 [aP ns] [] (.bool (poolF ns)) ([]) := by
  refine semT' (S := S0) hm spec_PoolOk_ok (Nat.le_of_ble_eq_true rfl) ?_
  unfold spec_PoolOk; dsimp only
  simp
  refine br_intro' (fun h => ?_) (fun h => ?_) <;> (have h0 := h) <;> (try simp at h) <;> try simp [h0, h]
  · exact LeV.ro rfl rfl (by simp [poolF]; omega)
  refine WLoop_fam (fun j : Nat => [(1, A.ptr 0 0 0), (3, i6 j)]) (fun _ => [⟨0, false, 1, [A.sl ns.length (enc ns)], none⟩]) (fun j => ns.length - j)
    (fun j => j ≤ ns.length ∧ poolF ns = okFrom ns j) ?_ 0 ⟨Nat.zero_le _, by simp [poolF]; omega⟩
  intro j ⟨hj, hf⟩ ih
  simp
  refine br_intro' (fun h => ?_) (fun h => ?_) <;> (have h0 := h) <;> (try simp at h) <;> try simp [h0, h]
  · rename_i h5
    obtain ⟨r, hr⟩ := enc_at h
    have h3 : 3 ≤ ns.length * 3 - j * 3 := by omega
    have hw : IntKind.i64.wrap ((j : Int) + 1) = j + 1 := wrap64 (by omega) (by omega)
    simp [h3, hr]
    have h' := h
    refine spec_l1Right_call (n := ns[j]) (by omega) (by omega) rfl ?_; simp
    refine br_intro' (fun g => ?_) (fun g => ?_) <;> simp [g, h3, hr, h']
    · refine spec_l1Find_call (ns := ns) (n := ns[j]) (by omega) rfl ?_; simp
      first | (refine ck_intro' (by kernel_rfl) ?_; try simp) | skip
      refine br_intro' (fun h => ?_) (fun h => ?_) <;> (have h0 := h) <;> (try simp at h) <;> try simp [h0, h]
      · rw [hw]
        exact ih (j + 1) ⟨h', by rw [hf, okFrom_at h', g, h]; simp⟩ (by omega)
      · exact LeV.ro rfl rfl (by rw [hf, okFrom_at h']; simp [h])
    · first | (refine ck_intro' (by kernel_rfl) ?_; try simp) | skip
      exact LeV.ro rfl rfl (by rw [hf, okFrom_at h', g]; simp)
  · exact LeV.ro rfl rfl (by simp [hf, okFrom_end h])
theorem spec_PoolOk_call {ns : List Nd}  {S : FuncId → Bool} {H : List Blk} {K : A → Dl → Prop} (hS : S 61 = false) (hK : K (.bool (poolF ns)) (.news [])) : @WCall' Go.Proofs.Try.prog S 61 [aP ns] H ⟨K⟩ :=
  WCall_pure hS (spec_PoolOk_c ns) (by simp) (by simp) (by simp) hK
theorem spec_PoolOk_k {ns : List Nd}  {S : FuncId → Bool} {H : List Blk} {K : A → Dl → Prop} {zs : List A} (hS : S 61 = false) (hv : viewL (viewA 8 H) zs = some [aP ns]) (ho : noOwns zs = true ∨ nosl (.bool (poolF ns)) = true) (hK : K (.bool (poolF ns)) (.news [])) : @WCall' Go.Proofs.Try.prog S 61 zs H ⟨K⟩ :=
  WCall_pure hS (spec_PoolOk_c ns) hv ho (by simp) hK
end Go.Proofs.Ytcfgiffgahdlbaa.C
