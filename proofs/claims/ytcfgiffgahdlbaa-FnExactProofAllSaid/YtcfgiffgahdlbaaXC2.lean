/- What the functions of links and streams answer. Conditions: those that each theorem names. -/
import Derived.Test.YtcfgiffgahdlbaaXC4
set_option linter.unusedVariables false
set_option linter.unusedSimpArgs false
namespace Go.Proofs.Ytcfgiffgahdlbaa.C
open Go.Sym Go.Proofs.Ytcfgiffgahdlbaa.I
def ints (xs : List Int) : List A := xs.map i6
@[simp] theorem ints_len (xs : List Int) : (ints xs).length = xs.length := List.length_map ..
@[simp] theorem ints_scals (xs : List Int) : scals (ints xs) = true := scals_map _ (fun _ => rfl) xs
@[simp] theorem ints_view (n : Nat) (H : List Blk) (xs : List Int) : viewL (viewA (n + 1) H) (ints xs) = some (ints xs) := viewL_scals _ (ints_scals xs)
@[simp] theorem ints_noOwns (xs : List Int) : noOwns (ints xs) = true := noOwns_scals _ (ints_scals xs)
@[simp] theorem ints_nosls (xs : List Int) : nosls (ints xs) = true := nosls_scals _ (ints_scals xs)
@[simp] theorem ints_shift (n : Nat) (xs : List Int) : shiftAs n (ints xs) = ints xs := shiftAs_scals _ (ints_scals xs)
@[simp] theorem ints_get (xs : List Int) (j : Nat) (h : j < (ints xs).length) : (ints xs)[j] = i6 (xs[j]'(by simpa using h)) := by simp [ints]
theorem ints_at {xs : List Int} {j : Nat} (h : j < xs.length) : (ints xs)[j]? = some (i6 xs[j]) := by simp [ints, h]
structure Lk where
  key : Int
  epoch : Int
  seq : Int
  over : Bool
  deriving DecidableEq
abbrev aL (l : Lk) : A := .agg [i6 l.key, i6 l.epoch, i6 l.seq, .bool l.over]
abbrev aI (xs : List Int) : A := .sl xs.length (ints xs)
structure St where
  pool : List Nd
  know : List Int
  out : Lk
  inn : Lk
  sent : List Int
  got : List Int
abbrev cS (s : St) : List A := [.sl s.pool.length (enc s.pool), aI s.know, i6 s.out.key, i6 s.out.epoch, i6 s.out.seq, .bool s.out.over, i6 s.inn.key, i6 s.inn.epoch, i6 s.inn.seq, .bool s.inn.over, aI s.sent, aI s.got]
abbrev aS (s : St) : A := .agg (cS s)
def hasF (m : Nat) (t : Int) : Bool := inF t 0 ((m : Int) - 1)
def linkF (m : Nat) (l : Lk) : Bool := hasF m l.key && inF l.epoch 0 20 && inF l.seq 0 20
def allF (p : Nat → Bool) (n j : Nat) : Bool := (List.range' j (n - j)).all p
theorem allF_at {p : Nat → Bool} {n j : Nat} (h : j < n) : allF p n j = (p j && allF p n (j + 1)) := by
  have : n - j = (n - (j + 1)) + 1 := by omega
  simp only [allF]
  rw [this, List.range'_succ, List.all_cons]
theorem allF_end {p : Nat → Bool} {n j : Nat} (h : n ≤ j) : allF p n j = true := by simp [allF, Nat.sub_eq_zero_of_le h]
def kn (m : Nat) (ks : List Int) (i : Nat) : Bool := hasF m (ks.getD i 0) && (decide (i = 0) || decide (ks.getD (i - 1) 0 < ks.getD i 0))
def knowF (m : Nat) (ks : List Int) : Bool := allF (kn m ks) ks.length 0 && decide (ks.length ≤ 200)
def kpF (ns : List Nd) (ks : List Int) : Bool := poolF ns && knowF ns.length ks
def lkF (ns : List Nd) (l : Lk) : Bool := poolF ns && linkF ns.length l
def termsF (m : Nat) (ks : List Int) : Bool := allF (fun i => hasF m (ks.getD i 0)) ks.length 0 && decide (ks.length ≤ 60)
theorem wrap_len {n : Nat} (h : n < 9223372036854775807) : IntKind.i64.wrap ((n : Int) - 1) = n - 1 := wrap64 (by omega) (by omega)
theorem wrap_succ {n : Nat} (h : n < 9223372036854775807) : IntKind.i64.wrap ((n : Int) + 1) = n + 1 := wrap64 (by omega) (by omega)

theorem spec_l1Has_c (ns : List Nd) (t : Int) (hl : ns.length < 9223372036854775807) : T 62 [aP ns, i6 t] [] (.bool (hasF ns.length t)) ([]) := by
  refine semT' (S := S0) hm spec_l1Has_ok (Nat.le_of_ble_eq_true rfl) ?_
  unfold spec_l1Has; dsimp only
  simp [wrap_len hl]
  repeat (any_goals (first | (refine br_intro' (fun h => ?_) (fun h => ?_) <;> (have h0 := h) <;> (try simp at h) <;> try simp [h0, h]) | (refine spec_l1In_call rfl ?_; simp [])))
  all_goals exact LeV.ro rfl rfl (by simp [hasF])
theorem spec_l1Has_call {ns : List Nd} {t : Int} (hl : ns.length < 9223372036854775807) {S : FuncId → Bool} {H : List Blk} {K : A → Dl → Prop} (hS : S 62 = false) (hK : K (.bool (hasF ns.length t)) (.news [])) : @WCall' Go.Proofs.Try.prog S 62 [aP ns, i6 t] H ⟨K⟩ :=
  WCall_pure hS (spec_l1Has_c ns t hl) (by simp) (by simp) (by simp) hK
theorem spec_l1Has_k {ns : List Nd} {t : Int} (hl : ns.length < 9223372036854775807) {S : FuncId → Bool} {H : List Blk} {K : A → Dl → Prop} {zs : List A} (hS : S 62 = false) (hv : viewL (viewA 8 H) zs = some [aP ns, i6 t]) (ho : noOwns zs = true ∨ nosl (.bool (hasF ns.length t)) = true) (hK : K (.bool (hasF ns.length t)) (.news [])) : @WCall' Go.Proofs.Try.prog S 62 zs H ⟨K⟩ :=
  WCall_pure hS (spec_l1Has_c ns t hl) hv ho (by simp) hK
theorem impl_Pool_isTerm_c (ns : List Nd) (r : List A) (t : Int) (hl : ns.length < 9223372036854775807) : T 43 [.pt (.sl ns.length (enc ns) :: r), i6 t] [] (.bool (hasF ns.length t)) ([]) := by
  refine semT' (S := S0) hm impl_Pool_isTerm_ok (Nat.le_of_ble_eq_true rfl) ?_
  unfold impl_Pool_isTerm; dsimp only
  simp [wrap_len hl]
  refine impl_inRange_call rfl ?_; simp
  exact LeV.ro rfl rfl (by simp [hasF])
theorem spec_l6Know_c (ns : List Nd) (ks : List Int) (hl : ns.length < 9223372036854775807) : T 71 [aP ns, aI ks] [] (.bool (knowF ns.length ks)) ([]) := by
  refine semT' (S := S0) hm spec_l6Know_ok (Nat.le_of_ble_eq_true rfl) ?_
  unfold spec_l6Know; dsimp only
  simp
  refine br_intro' (fun h => ?_) (fun h => ?_) <;> (have h0 := h) <;> (try simp at h) <;> try simp [h0, h]
  · exact LeV.ro rfl rfl (by simp [knowF]; omega)
  · have h2 := h
    refine WLoop_fam (fun j : Nat => [(1, aI ks), (2, A.ptr 0 0 0), (5, i6 j)]) (fun _ => [⟨0, false, 1, [A.sl ns.length (enc ns)], none⟩]) (fun j => ks.length - j)
      (fun j => j ≤ ks.length ∧ knowF ns.length ks = allF (kn ns.length ks) ks.length j) ?_ 0 ⟨Nat.zero_le _, by simp [knowF]; omega⟩
    intro j ⟨hj, hf⟩ ih
    simp
    refine br_intro' (fun h => ?_) (fun h => ?_) <;> (have h0 := h) <;> (try simp at h) <;> try simp [h0, h]
    · have h' := h
      have hw := wrap_succ (n := j) (by omega)
      refine spec_l1Has_call hl rfl ?_; simp
      refine br_intro' (fun g => ?_) (fun g => ?_) <;> simp [g]
      · have hz : (0 < (j : Int)) ↔ j ≠ 0 := by omega
        refine br_intro' (fun h => ?_) (fun h => ?_) <;> (have h0 := h) <;> (try simp at h) <;> try simp [h0, h]
        · have hm : IntKind.i64.wrap ((j : Int) - 1) = ((j - 1 : Nat) : Int) := by rw [wrap64 (by omega) (by omega)]; omega
          have hj1 : j - 1 < ks.length := by omega
          have hj0 : j ≠ 0 := by omega
          simp [hm, hj1, h']
          first | (refine ck_intro' (by kernel_rfl) ?_; try simp) | skip
          refine br_intro' (fun k => ?_) (fun k => ?_) <;> simp at k <;> try simp [k]
          · exact LeV.ro rfl rfl (by rw [hf, allF_at h', kn]; simp [h', hj1, hj0]; intro _ a; omega)
          · rw [hw]
            exact ih (j + 1) ⟨h', by rw [hf, allF_at h', kn]; simp [h', hj1, hj0, g, k]⟩ (by omega)
        · have hj0 : j = 0 := by omega
          first | (refine ck_intro' (by kernel_rfl) ?_; try simp) | skip
          subst hj0
          rw [show IntKind.i64.wrap 1 = 1 from wrap64 (by omega) (by omega)]
          exact ih 1 ⟨h', by rw [hf, allF_at h', kn]; simp [h', g]⟩ (by omega)
      · first | (refine ck_intro' (by kernel_rfl) ?_; try simp) | skip
        exact LeV.ro rfl rfl (by rw [hf, allF_at h', kn]; simp [h', g])
    · exact LeV.ro rfl rfl (by simp [hf, allF_end h])
theorem spec_l6Know_call {ns : List Nd} {ks : List Int} (hl : ns.length < 9223372036854775807) {S : FuncId → Bool} {H : List Blk} {K : A → Dl → Prop} (hS : S 71 = false) (hK : K (.bool (knowF ns.length ks)) (.news [])) : @WCall' Go.Proofs.Try.prog S 71 [aP ns, aI ks] H ⟨K⟩ :=
  WCall_pure hS (spec_l6Know_c ns ks hl) (by simp) (by simp) (by simp) hK
theorem spec_l6Know_k {ns : List Nd} {ks : List Int} (hl : ns.length < 9223372036854775807) {S : FuncId → Bool} {H : List Blk} {K : A → Dl → Prop} {zs : List A} (hS : S 71 = false) (hv : viewL (viewA 8 H) zs = some [aP ns, aI ks]) (ho : noOwns zs = true ∨ nosl (.bool (knowF ns.length ks)) = true) (hK : K (.bool (knowF ns.length ks)) (.news [])) : @WCall' Go.Proofs.Try.prog S 71 zs H ⟨K⟩ :=
  WCall_pure hS (spec_l6Know_c ns ks hl) hv ho (by simp) hK
theorem spec_KnowOk_c (ns : List Nd) (ks : List Int) (hl : ns.length < 9223372036854775807) : T 52 [aP ns, aI ks] [] (.bool (kpF ns ks)) ([]) := by
  refine semT' (S := S0) hm spec_KnowOk_ok (Nat.le_of_ble_eq_true rfl) ?_
  unfold spec_KnowOk; dsimp only
  simp
  refine spec_PoolOk_call rfl ?_; simp
  refine br_intro' (fun h => ?_) (fun h => ?_) <;> (have h0 := h) <;> (try simp at h) <;> try simp [h0, h]
  · refine spec_l6Know_call hl rfl ?_; simp
    exact LeV.ro rfl rfl (by simp [kpF, *])
  · exact LeV.ro rfl rfl (by simp [kpF, *])
theorem spec_KnowOk_call {ns : List Nd} {ks : List Int} (hl : ns.length < 9223372036854775807) {S : FuncId → Bool} {H : List Blk} {K : A → Dl → Prop} (hS : S 52 = false) (hK : K (.bool (kpF ns ks)) (.news [])) : @WCall' Go.Proofs.Try.prog S 52 [aP ns, aI ks] H ⟨K⟩ :=
  WCall_pure hS (spec_KnowOk_c ns ks hl) (by simp) (by simp) (by simp) hK
theorem spec_KnowOk_k {ns : List Nd} {ks : List Int} (hl : ns.length < 9223372036854775807) {S : FuncId → Bool} {H : List Blk} {K : A → Dl → Prop} {zs : List A} (hS : S 52 = false) (hv : viewL (viewA 8 H) zs = some [aP ns, aI ks]) (ho : noOwns zs = true ∨ nosl (.bool (kpF ns ks)) = true) (hK : K (.bool (kpF ns ks)) (.news [])) : @WCall' Go.Proofs.Try.prog S 52 zs H ⟨K⟩ :=
  WCall_pure hS (spec_KnowOk_c ns ks hl) hv ho (by simp) hK
theorem impl_KnowOk_c (ns : List Nd) (ks : List Int) (hl : ns.length < 9223372036854775807) (hk : ks.length < 9223372036854775807) : T 50 [aP ns, aI ks] [] (.bool (kpF ns ks)) ([]) := by
  refine semT' (S := S0) hm impl_KnowOk_ok (Nat.le_of_ble_eq_true rfl) ?_
  unfold impl_KnowOk; dsimp only
  simp
  refine WLoop_fam (fun j : Nat => [(1, aI ks), (2, A.ptr 0 0 0), (7, aI ks), (8, i6 ks.length), (9, i6 j)]) (fun _ => [⟨0, false, 1, [A.sl ns.length (enc ns)], none⟩]) (fun j => ks.length - j)
    (fun j => j ≤ ks.length ∧ allF (kn ns.length ks) ks.length 0 = allF (kn ns.length ks) ks.length j) ?_ 0 ⟨Nat.zero_le _, rfl⟩
  intro j ⟨hj, hf⟩ ih
  simp
  refine br_intro' (fun h => ?_) (fun h => ?_) <;> (have h0 := h) <;> (try simp at h) <;> try simp [h0, h]
  · have h' := h
    have hw := wrap_succ (n := j) (by omega)
    refine WCall_pure rfl (impl_Pool_isTerm_c ns [] ks[j] hl) (by simp) (by simp) (by simp) ?_; simp
    refine br_intro' (fun g => ?_) (fun g => ?_) <;> simp [g]
    · refine br_intro' (fun h => ?_) (fun h => ?_) <;> (have h0 := h) <;> (try simp at h) <;> try simp [h0, h]
      · have hm : IntKind.i64.wrap ((j : Int) - 1) = ((j - 1 : Nat) : Int) := by rw [wrap64 (by omega) (by omega)]; omega
        have hj1 : j - 1 < ks.length := by omega
        have hj0 : j ≠ 0 := by omega
        simp [hm, hj1, h']
        refine br_intro' (fun k => ?_) (fun k => ?_) <;> simp at k <;> try simp [k]
        · exact LeV.ro rfl rfl (by simp [kpF, knowF, hf, allF_at h', kn, h', hj1, hj0]; intro _ _ _ a; omega)
        · rw [hw]
          exact ih (j + 1) ⟨h', by rw [hf, allF_at h', kn]; simp [h', hj1, hj0, g, k]⟩ (by omega)
      · have hj0 : j = 0 := by omega
        subst hj0
        rw [show IntKind.i64.wrap 1 = 1 from wrap64 (by omega) (by omega)]
        exact ih 1 ⟨h', by rw [hf, allF_at h', kn]; simp [h', g]⟩ (by omega)
    · exact LeV.ro rfl rfl (by simp [kpF, knowF, hf, allF_at h', kn, h', g])
  · have h9 := allF_end (p := kn ns.length ks) h
    refine br_intro' (fun h => ?_) (fun h => ?_) <;> (have h0 := h) <;> (try simp at h) <;> try simp [h0, h]
    · refine impl_PoolOk_call rfl ?_; simp
      have h8 : ks.length ≤ 200 := by omega
      exact LeV.ro rfl rfl (by simp only [kpF, knowF]; rw [hf, h9]; simp [h8])
    · have h8 : ¬ ks.length ≤ 200 := by omega
      exact LeV.ro rfl rfl (by simp only [kpF, knowF]; rw [hf, h9]; simp [h8])
theorem impl_KnowOk_call {ns : List Nd} {ks : List Int} (hl : ns.length < 9223372036854775807) (hk : ks.length < 9223372036854775807) {S : FuncId → Bool} {H : List Blk} {K : A → Dl → Prop} (hS : S 50 = false) (hK : K (.bool (kpF ns ks)) (.news [])) : @WCall' Go.Proofs.Try.prog S 50 [aP ns, aI ks] H ⟨K⟩ :=
  WCall_pure hS (impl_KnowOk_c ns ks hl hk) (by simp) (by simp) (by simp) hK
theorem impl_KnowOk_k {ns : List Nd} {ks : List Int} (hl : ns.length < 9223372036854775807) (hk : ks.length < 9223372036854775807) {S : FuncId → Bool} {H : List Blk} {K : A → Dl → Prop} {zs : List A} (hS : S 50 = false) (hv : viewL (viewA 8 H) zs = some [aP ns, aI ks]) (ho : noOwns zs = true ∨ nosl (.bool (kpF ns ks)) = true) (hK : K (.bool (kpF ns ks)) (.news [])) : @WCall' Go.Proofs.Try.prog S 50 zs H ⟨K⟩ :=
  WCall_pure hS (impl_KnowOk_c ns ks hl hk) hv ho (by simp) hK
structure St.fit (s : St) : Prop where
  p : s.pool.length < 9223372036854775807
  k : s.know.length < 9223372036854775807
  t : s.sent.length < 9223372036854775807
  g : s.got.length < 9223372036854775807
def streamF (s : St) : Bool := kpF s.pool s.know && linkF s.pool.length s.out && linkF s.pool.length s.inn && termsF s.pool.length s.sent && termsF s.pool.length s.got
end Go.Proofs.Ytcfgiffgahdlbaa.C
