/- Steps of proofs: what a step needs, whether it holds. Conditions: those that each theorem names. -/
import Derived.Test.YtcfgiffgahdlbaaXC1B1
set_option linter.unusedVariables false
set_option linter.unusedSimpArgs false
set_option maxRecDepth 4000
namespace Go.Proofs.Ytcfgiffgahdlbaa.C
open Go.Sym Go.Proofs.Ytcfgiffgahdlbaa.I
structure Sp where
  r : Int
  t : Int
  a : Int
  b : Int
deriving DecidableEq
theorem Sp_eq {x y : Sp} : x = y ↔ x.r = y.r ∧ x.t = y.t ∧ x.a = y.a ∧ x.b = y.b := by cases x; cases y; simp
def encT (s : Sp) : List A := [i6 s.r, i6 s.t, i6 s.a, i6 s.b]
def encS (ss : List Sp) : List A := ss.flatMap encT
theorem encT_len (n : Sp) : (encT n).length = 4 := rfl
@[simp] theorem encS_len (ns : List Sp) : (encS ns).length = ns.length * 4 := flat_len encT_len ns
@[simp] theorem encS_scals (ns : List Sp) : scals (encS ns) = true := scals_flat _ (fun _ => rfl) ns
theorem encS_at {ns : List Sp} {j : Nat} (h : j < ns.length) : ∃ r, (encS ns).drop (j * 4) = i6 ns[j].r :: i6 ns[j].t :: i6 ns[j].a :: i6 ns[j].b :: r := flat_at encT_len (List.getElem?_eq_getElem h)
@[simp] theorem encS_view (n : Nat) (H : List Blk) (ns : List Sp) : viewL (viewA (n + 1) H) (encS ns) = some (encS ns) := viewL_scals _ (encS_scals ns)
@[simp] theorem encS_noOwns (ns : List Sp) : noOwns (encS ns) = true := noOwns_scals _ (encS_scals ns)
@[simp] theorem encS_nosls (ns : List Sp) : nosls (encS ns) = true := nosls_scals _ (encS_scals ns)
@[simp] theorem encS_shift (n : Nat) (ns : List Sp) : shiftAs n (encS ns) = encS ns := shiftAs_scals _ (encS_scals ns)
@[simp] theorem encS_inAs (m : Nat) (ns : List Sp) : inAs m (encS ns) = true := inAs_scals _ (encS_scals ns)
@[simp] theorem encS_tells (H H' : List Blk) (g : List (Option Nat)) (ns : List Sp) : Tells H H' g (encS ns) (encS ns) := Tells_scals _ (encS_scals ns)
@[simp] theorem encS_one (ns : List Sp) : (encS ns).all A.one = true := one_scals _ (encS_scals ns)
@[simp] theorem encS_take (ns : List Sp) : (encS ns).take (ns.length * 4) = encS ns := List.take_of_length_le (by simp)
@[simp] theorem encS_nil : encS [] = [] := rfl
theorem encS_snoc (ns : List Sp) (n : Sp) : encS (ns ++ [n]) = encS ns ++ [i6 n.r, i6 n.t, i6 n.a, i6 n.b] := by simp [encS, encT]
theorem encS_takes (ns : List Sp) (j : Nat) : (encS ns).take (j * 4) = encS (ns.take j) := flat_take encT_len ns j
theorem encS_drops (ns : List Sp) (j : Nat) : (encS ns).drop (j * 4) = encS (ns.drop j) := flat_drop encT_len ns j
abbrev aSt (n : Sp) : A := .agg [i6 n.r, i6 n.t, i6 n.a, i6 n.b]
abbrev aSs (ss : List Sp) : A := .sl ss.length (encS ss)
/-- How many steps a step needs. -/
def needsF (ns : List Nd) (s : Sp) : Int :=
  if s.r = 1 ∨ s.r = 2 then 0 else if s.r = 3 then partsF (nodeAt ns s.t).k else if s.r = 4 ∨ s.r = 7 then 2 else if s.r = 5 ∨ s.r = 6 ∨ s.r = 8 then 1 else -1
theorem partsL_len {ns : List Nd} (hp : poolF ns = true) {t : Int} (ht : hasF ns.length t = true) : ((partsL (nodeAt ns t)).length : Int) = partsF (nodeAt ns t).k := by
  obtain ⟨j, rfl, hj⟩ := hasN ht
  rw [nodeAt_nat hj]
  rcases parts_kind hp hj with h | h | h <;> simp [partsL, h]
theorem spec_l9Needs_c (ns : List Nd) (s : Sp) (hl : ns.length < 9223372036854775807) (ht : hasF ns.length s.t = true) : T 38 [aP ns, aSt s] [] (i6 (needsF ns s)) ([]) := by
  refine semT' (S := S0) hm spec_l9Needs_ok (Nat.le_of_ble_eq_true rfl) ?_
  unfold spec_l9Needs; dsimp only
  obtain ⟨j, ej, hj⟩ := hasN ht
  obtain ⟨q, hr⟩ := enc_at hj
  have h3 : 3 ≤ ns.length * 3 - j * 3 := by omega
  have en : nodeAt ns s.t = ns[j] := by rw [ej, nodeAt_nat hj]
  have en2 := nodeAt_nat hj
  simp [ej]
  repeat (any_goals (first | (refine br_intro' (fun h => ?_) (fun h => ?_) <;> (try simp at h) <;> try simp [h, h3, hr, hj]) | (refine spec_l1Parts_call rfl ?_; simp)))
  all_goals exact LeV.ro rfl rfl (by simp [needsF, en, en2, *])
theorem spec_l9Needs_call {ns : List Nd} {s : Sp} (hl : ns.length < 9223372036854775807) (ht : hasF ns.length s.t = true) {S : FuncId → Bool} {H : List Blk} {K : A → Dl → Prop} (hS : S 38 = false) (hK : K (i6 (needsF ns s)) (.news [])) : @WCall' Go.Proofs.Try.prog S 38 [aP ns, aSt s] H ⟨K⟩ :=
  WCall_pure hS (spec_l9Needs_c ns s hl ht) (by simp) (by simp) (by simp) hK
theorem spec_l9Needs_k {ns : List Nd} {s : Sp} (hl : ns.length < 9223372036854775807) (ht : hasF ns.length s.t = true) {S : FuncId → Bool} {H : List Blk} {K : A → Dl → Prop} {zs : List A} (hS : S 38 = false) (hv : viewL (viewA 8 H) zs = some [aP ns, aSt s]) (ho : noOwns zs = true ∨ nosl (i6 (needsF ns s)) = true) (hK : K (i6 (needsF ns s)) (.news [])) : @WCall' Go.Proofs.Try.prog S 38 zs H ⟨K⟩ :=
  WCall_pure hS (spec_l9Needs_c ns s hl ht) hv ho (by simp) hK
theorem impl_Pool_needs_c (ns : List Nd) (r : List A) (s : Sp) (hl : ns.length < 9223372036854775807) (hp : poolF ns = true) (ht : hasF ns.length s.t = true) (hv : ∀ n H, viewL (viewA (n + 1) H) r = some r) (ho : noOwns r = true) : T 44 [.pt (.sl ns.length (enc ns) :: r), aSt s] [] (i6 (needsF ns s)) ([]) := by
  refine semT' (S := S0) hm impl_Pool_needs_ok (Nat.le_of_ble_eq_true rfl) ?_
  unfold impl_Pool_needs; dsimp only
  have hq := partsL_len hp ht
  simp
  repeat (any_goals (first | (refine br_intro' (fun h => ?_) (fun h => ?_) <;> (try simp at h) <;> try simp [h]) | (refine WCall_ro' rfl (by simp [hv]) (impl_Pool_parts_c ns r s.t hl ht) rfl (.inr ⟨by simp, by simp [noslBlks]⟩) ?_; simp [shiftB])))
  all_goals exact LeV.ro rfl rfl (by simp [needsF, *])
def stepNeedsF (ns : List Nd) (s : Sp) : Int := if poolF ns = true ∧ hasF ns.length s.t = true then needsF ns s else -1
theorem spec_StepNeeds_c (ns : List Nd) (s : Sp) (hl : ns.length < 9223372036854775807) : T 36 [aP ns, aSt s] [] (i6 (stepNeedsF ns s)) ([]) := by
  refine semT' (S := S0) hm spec_StepNeeds_ok (Nat.le_of_ble_eq_true rfl) ?_
  unfold spec_StepNeeds; dsimp only
  simp
  refine spec_PoolOk_call rfl ?_; simp
  refine br_intro' (fun h => ?_) (fun h => ?_) <;> simp [h]
  · refine spec_l1Has_call (t := s.t) hl rfl ?_; simp
    refine br_intro' (fun h1 => ?_) (fun h1 => ?_) <;> simp [h1]
    · refine spec_l9Needs_call (s := s) hl h1 rfl ?_; simp
      exact LeV.ro rfl rfl (by simp [stepNeedsF, h, h1])
    · exact LeV.ro rfl rfl (by simp [stepNeedsF, h1])
  · exact LeV.ro rfl rfl (by simp [stepNeedsF, h])
theorem spec_StepNeeds_call {ns : List Nd} {s : Sp} (hl : ns.length < 9223372036854775807) {S : FuncId → Bool} {H : List Blk} {K : A → Dl → Prop} (hS : S 36 = false) (hK : K (i6 (stepNeedsF ns s)) (.news [])) : @WCall' Go.Proofs.Try.prog S 36 [aP ns, aSt s] H ⟨K⟩ :=
  WCall_pure hS (spec_StepNeeds_c ns s hl) (by simp) (by simp) (by simp) hK
theorem spec_StepNeeds_k {ns : List Nd} {s : Sp} (hl : ns.length < 9223372036854775807) {S : FuncId → Bool} {H : List Blk} {K : A → Dl → Prop} {zs : List A} (hS : S 36 = false) (hv : viewL (viewA 8 H) zs = some [aP ns, aSt s]) (ho : noOwns zs = true ∨ nosl (i6 (stepNeedsF ns s)) = true) (hK : K (i6 (stepNeedsF ns s)) (.news [])) : @WCall' Go.Proofs.Try.prog S 36 zs H ⟨K⟩ :=
  WCall_pure hS (spec_StepNeeds_c ns s hl) hv ho (by simp) hK
theorem impl_StepNeeds_c (ns : List Nd) (s : Sp) (hl : ns.length < 9223372036854775807) : T 34 [aP ns, aSt s] [] (i6 (stepNeedsF ns s)) ([]) := by
  refine semT' (S := S0) hm impl_StepNeeds_ok (Nat.le_of_ble_eq_true rfl) ?_
  unfold impl_StepNeeds; dsimp only
  simp
  refine WCall_pure rfl (impl_Pool_isTerm_c ns [] s.t hl) (by simp) (by simp) (by simp) ?_; simp
  refine br_intro' (fun h => ?_) (fun h => ?_) <;> simp [h]
  · refine impl_PoolOk_k (ns := ns) rfl (by simp) (by simp [noslBlks]) ?_; simp [shiftB]
    refine br_intro' (fun h1 => ?_) (fun h1 => ?_) <;> simp [h1]
    · refine WCall_pure rfl (impl_Pool_needs_c ns [] s hl h1 h (by simp) (by simp)) (by simp) (by simp) (by simp) ?_; simp
      exact LeV.ro rfl rfl (by simp [stepNeedsF, h, h1])
    · exact LeV.ro rfl rfl (by simp [stepNeedsF, h1])
  · exact LeV.ro rfl rfl (by simp [stepNeedsF, h])
theorem impl_StepNeeds_call {ns : List Nd} {s : Sp} (hl : ns.length < 9223372036854775807) {S : FuncId → Bool} {H : List Blk} {K : A → Dl → Prop} (hS : S 34 = false) (hK : K (i6 (stepNeedsF ns s)) (.news [])) : @WCall' Go.Proofs.Try.prog S 34 [aP ns, aSt s] H ⟨K⟩ :=
  WCall_pure hS (impl_StepNeeds_c ns s hl) (by simp) (by simp) (by simp) hK
theorem impl_StepNeeds_k {ns : List Nd} {s : Sp} (hl : ns.length < 9223372036854775807) {S : FuncId → Bool} {H : List Blk} {K : A → Dl → Prop} {zs : List A} (hS : S 34 = false) (hv : viewL (viewA 8 H) zs = some [aP ns, aSt s]) (ho : noOwns zs = true ∨ nosl (i6 (stepNeedsF ns s)) = true) (hK : K (i6 (stepNeedsF ns s)) (.news [])) : @WCall' Go.Proofs.Try.prog S 34 zs H ⟨K⟩ :=
  WCall_pure hS (impl_StepNeeds_c ns s hl) hv ho (by simp) hK
/-- The term of a step ahead of place m; -1: there's none. -/
def termAt (ss : List Sp) (m : Nat) (k : Int) : Int := if inF k 0 ((m : Int) - 1) then (ss.getD k.toNat ⟨0, 0, 0, 0⟩).t else -1
theorem spec_l9Term_c (ss : List Sp) (m : Nat) (k : Int) (hl : ss.length < 9223372036854775807) (hml : m ≤ ss.length) : T 69 [aSs ss, i6 m, i6 k] [] (i6 (termAt ss m k)) ([]) := by
  refine semT' (S := S0) hm spec_l9Term_ok (Nat.le_of_ble_eq_true rfl) ?_
  unfold spec_l9Term; dsimp only
  simp [wrap_len (n := m) (by omega)]
  refine spec_l1In_call rfl ?_; simp
  refine br_intro' (fun h => ?_) (fun h => ?_) <;> simp [h]
  · have h' := h
    simp [inF] at h'
    obtain ⟨j, rfl⟩ : ∃ j : Nat, k = j := ⟨k.toNat, by omega⟩
    have hj : j < ss.length := by omega
    obtain ⟨q, hr⟩ := encS_at hj
    have h4 : 2 ≤ ss.length * 4 - j * 4 := by omega
    simp [hr, hj]
    exact LeV.ro rfl rfl (by simp [termAt, h, hj])
  · exact LeV.ro rfl rfl (by simp [termAt, h])
theorem spec_l9Term_call {ss : List Sp} {m : Nat} {k : Int} (hl : ss.length < 9223372036854775807) (hml : m ≤ ss.length) {S : FuncId → Bool} {H : List Blk} {K : A → Dl → Prop} (hS : S 69 = false) (hK : K (i6 (termAt ss m k)) (.news [])) : @WCall' Go.Proofs.Try.prog S 69 [aSs ss, i6 m, i6 k] H ⟨K⟩ :=
  WCall_pure hS (spec_l9Term_c ss m k hl hml) (by simp) (by simp) (by simp) hK
theorem spec_l9Term_k {ss : List Sp} {m : Nat} {k : Int} (hl : ss.length < 9223372036854775807) (hml : m ≤ ss.length) {S : FuncId → Bool} {H : List Blk} {K : A → Dl → Prop} {zs : List A} (hS : S 69 = false) (hv : viewL (viewA 8 H) zs = some [aSs ss, i6 m, i6 k]) (ho : noOwns zs = true ∨ nosl (i6 (termAt ss m k)) = true) (hK : K (i6 (termAt ss m k)) (.news [])) : @WCall' Go.Proofs.Try.prog S 69 zs H ⟨K⟩ :=
  WCall_pure hS (spec_l9Term_c ss m k hl hml) hv ho (by simp) hK
end Go.Proofs.Ytcfgiffgahdlbaa.C

set_option linter.unusedVariables false
set_option linter.unusedSimpArgs false
namespace Go.Proofs.Ytcfgiffgahdlbaa.C
open Go.Sym Go.Proofs.Ytcfgiffgahdlbaa.I
def mkI (k : Int) : Nat → List Int
  | 0 => []
  | n + 1 => mkI k n ++ [k + n]
@[simp] theorem mkI_len (k : Int) (n : Nat) : (mkI k n).length = n := by induction n with | zero => rfl | succ n ih => simp [mkI, ih]
@[simp] theorem mkI_take (k : Int) (n : Nat) : (ints (mkI k n)).take n = ints (mkI k n) := List.take_of_length_le (by simp)
theorem mkI_get (k : Int) : ∀ (n j : Nat) (h : j < (mkI k n).length), (mkI k n)[j] = k + j
  | 0, j, h => by simp at h
  | n + 1, j, h => by
    simp only [mkI]
    rcases Nat.lt_or_ge j n with g | g
    · rw [List.getElem_append_left (by simpa using g)]
      exact mkI_get k n j (by simpa using g)
    · have : j = n := by simp at h; omega
      subst this
      simp
theorem mkI_set (k : Int) (ns : List Int) (j : Nat) (h : j < ns.length) : (mkI k j ++ ns.drop j).set j (k + j) = mkI k (j + 1) ++ ns.drop (j + 1) := by
  rw [List.set_append_right _ _ (by simp), mkI_len, Nat.sub_self, List.drop_eq_getElem_cons h, List.set_cons_zero]
  simp [mkI]
theorem laws_markIntS_m (H : List Blk) (nb v : Nat) (ro : Bool) (ns : List Int) (k : Int) (hH : H[nb]? = some ⟨v, ro, 1, ints ns, none⟩) (hro : ro = true → ns = []) (hl : ns.length ≤ 4294967296) (hk : 0 ≤ k) (hk2 : k ≤ 1099511627776) : T 26 [.ref nb v 0 ns.length, i6 k] (H) (i6 (k + ns.length)) (H.set nb ⟨v, ro, 1, ints (mkI k ns.length), none⟩) := by
  refine semT' (S := S0) hm laws_markIntS_ok (Nat.le_of_ble_eq_true rfl) ?_
  unfold laws_markIntS; dsimp only
  have hlt : nb < H.length := (List.getElem?_eq_some_iff.1 hH).1
  have hs0 : H.set nb ⟨v, ro, 1, ints (mkI k 0 ++ ns.drop 0), none⟩ = H := set_self (by simpa [mkI] using hH)
  simp
  generalize hB : H.length = B
  rw [← hs0]
  refine WLoop_fam (fun p : Nat × Int => [(0, A.ref nb v 0 ns.length), (1, i6 p.2), (5, i6 p.1)]) (fun p => H.set nb ⟨v, ro, 1, ints (mkI k p.1 ++ ns.drop p.1), none⟩) (fun p => ns.length - p.1)
    (fun p => p.1 ≤ ns.length ∧ p.2 = k + p.1) ?_ (0, k) ⟨Nat.zero_le _, by simp⟩
  rintro ⟨j, k'⟩ ⟨hj, hk'⟩ ih
  simp at hk' hj
  subst hk'
  have hlen : (mkI k j ++ ns.drop j).length = ns.length := by simp; omega
  simp [hlt]
  refine br_intro' (fun h => ?_) (fun h => ?_) <;> (have h0 := h) <;> (try simp at h) <;> try simp [h0, h]
  · have h' := h
    have hr : ro = false := by cases ro with | false => rfl | true => rw [hro rfl] at h; simp at h
    subst hr
    have w1 : IntKind.i64.wrap (k + (j : Int) + 1) = k + j + 1 := wrap64 (by omega) (by omega)
    have hw : IntKind.i64.wrap ((j : Int) + 1) = j + 1 := wrap64 (by omega) (by omega)
    have hc : j + (ns.length - j) = ns.length := by omega
    simp [h', hlt, hc, w1, hw]
    refine ck_intro' (by omega) ?_; simp [h', hlt, hc, w1, hw]
    have e3 := ints_set (mkI k j ++ ns.drop j) j (k + j)
    rw [mkI_set k ns j h'] at e3
    rw [e3]
    exact ih (j + 1, k + j + 1) ⟨h', by push_cast; omega⟩ (by simp; omega)
  · have e : j = ns.length := by omega
    subst e
    simp
    exact LeV.refl _ _ _
abbrev shT : Sh := .st (.p shI (.p shI (.p shI (.p shI .u))))
theorem fit_t {cs : List A} (h : Fit shT cs) : ∃ n : Sp, cs = encT n ∧ In64 n.r ∧ In64 n.t ∧ In64 n.a ∧ In64 n.b := by
  obtain ⟨x, y, rfl, hx, z, t, rfl, hz, u, w, rfl, hu, v, v', rfl, hv, rfl⟩ := h
  obtain ⟨a, rfl, ha⟩ := fit_i hx
  obtain ⟨b, rfl, hb⟩ := fit_i hz
  obtain ⟨c, rfl, hc⟩ := fit_i hu
  obtain ⟨d, rfl, hd⟩ := fit_i hv
  exact ⟨⟨a, b, c, d⟩, rfl, ha, hb, hc, hd⟩
theorem arg_ts {x : A} (h : FitA (.sl shT) x) : ∃ ss : List Sp, x = aSs ss ∧ ss.length < 9223372036854775808 := by
  obtain ⟨xs, e, h1, _⟩ := fit_sl (f := encT) (fun r hr => fit_t hr) (show Fit (.sl shT) [x] from h)
  refine ⟨xs, ?_, h1⟩
  simp only [List.cons.injEq, and_true] at e
  exact e
abbrev tref (b : Nat) (ss : List Sp) : A := .ref b ss.length 0 ss.length
/-- A row of steps that a law made. -/
abbrev uqblk (ss : List Sp) : Blk := ⟨ss.length, false, 4, encS ss, none⟩
theorem laws_szStepS_c (ns : List Sp) (x : Int) (hl : ns.length < 9223372036854775808) (h0 : 0 ≤ x) (h1 : x < 9223372036854775808) : T 10 [aSs ns, i6 x] [] (i6 (szF x ns.length)) ([]) := by
  refine semT' (S := S0) hm laws_szStepS_ok (Nat.le_of_ble_eq_true rfl) ?_
  unfold laws_szStepS; dsimp only
  have hw : IntKind.i64.wrap (x - ns.length) = x - ns.length := wrap64 (by omega) (by omega)
  simp [hw]
  refine br_intro' (fun h => ?_) (fun h => ?_) <;> (have h0 := h) <;> (try simp at h) <;> try simp [h0, h]
  · exact LeV.ro rfl rfl (by simp [szF, h])
  · exact LeV.ro rfl rfl (by simp [szF]; omega)
theorem laws_szStepS_call {ns : List Sp} {x : Int} (hl : ns.length < 9223372036854775808) (h0 : 0 ≤ x) (h1 : x < 9223372036854775808) {S : FuncId → Bool} {H : List Blk} {K : A → Dl → Prop} (hS : S 10 = false) (hK : K (i6 (szF x ns.length)) (.news [])) : @WCall' Go.Proofs.Try.prog S 10 [aSs ns, i6 x] H ⟨K⟩ :=
  WCall_pure hS (laws_szStepS_c ns x hl h0 h1) (by simp) (by simp) (by simp) hK
theorem laws_szStepS_k {ns : List Sp} {x : Int} (hl : ns.length < 9223372036854775808) (h0 : 0 ≤ x) (h1 : x < 9223372036854775808) {S : FuncId → Bool} {H : List Blk} {K : A → Dl → Prop} {zs : List A} (hS : S 10 = false) (hv : viewL (viewA 8 H) zs = some [aSs ns, i6 x]) (ho : noOwns zs = true ∨ nosl (i6 (szF x ns.length)) = true) (hK : K (i6 (szF x ns.length)) (.news [])) : @WCall' Go.Proofs.Try.prog S 10 zs H ⟨K⟩ :=
  WCall_pure hS (laws_szStepS_c ns x hl h0 h1) hv ho (by simp) hK
theorem laws_toStep_c (n : Sp)  : T 40 [aSt n] [] (aSt n) ([]) := by
  refine semT' (S := S0) hm laws_toStep_ok (Nat.le_of_ble_eq_true rfl) ?_
  unfold laws_toStep; dsimp only
  simp
  exact LeV.ro rfl rfl (by simp)
theorem laws_toStep_call {n : Sp}  {S : FuncId → Bool} {H : List Blk} {K : A → Dl → Prop} (hS : S 40 = false) (hK : K (aSt n) (.news [])) : @WCall' Go.Proofs.Try.prog S 40 [aSt n] H ⟨K⟩ :=
  WCall_pure hS (laws_toStep_c n) (by simp) (by simp) (by simp) hK
theorem laws_toStep_k {n : Sp}  {S : FuncId → Bool} {H : List Blk} {K : A → Dl → Prop} {zs : List A} (hS : S 40 = false) (hv : viewL (viewA 8 H) zs = some [aSt n]) (ho : noOwns zs = true ∨ nosl (aSt n) = true) (hK : K (aSt n) (.news [])) : @WCall' Go.Proofs.Try.prog S 40 zs H ⟨K⟩ :=
  WCall_pure hS (laws_toStep_c n) hv ho (by simp) hK
theorem laws_eqStep_c (n m : Sp)  : T 46 [aSt n, aSt m] [] (.bool (decide (n = m))) ([]) := by
  refine semT' (S := S0) hm laws_eqStep_ok (Nat.le_of_ble_eq_true rfl) ?_
  unfold laws_eqStep; dsimp only
  simp
  repeat (any_goals (first | (refine br_intro' (fun h => ?_) (fun h => ?_) <;> (have h0 := h) <;> (try simp at h) <;> try simp [h0, h])))
  all_goals exact LeV.ro rfl rfl (by simp [Sp_eq, *])
theorem laws_eqStep_call {n m : Sp}  {S : FuncId → Bool} {H : List Blk} {K : A → Dl → Prop} (hS : S 46 = false) (hK : K (.bool (decide (n = m))) (.news [])) : @WCall' Go.Proofs.Try.prog S 46 [aSt n, aSt m] H ⟨K⟩ :=
  WCall_pure hS (laws_eqStep_c n m) (by simp) (by simp) (by simp) hK
theorem laws_eqStep_k {n m : Sp}  {S : FuncId → Bool} {H : List Blk} {K : A → Dl → Prop} {zs : List A} (hS : S 46 = false) (hv : viewL (viewA 8 H) zs = some [aSt n, aSt m]) (ho : noOwns zs = true ∨ nosl (.bool (decide (n = m))) = true) (hK : K (.bool (decide (n = m))) (.news [])) : @WCall' Go.Proofs.Try.prog S 46 zs H ⟨K⟩ :=
  WCall_pure hS (laws_eqStep_c n m) hv ho (by simp) hK
def zT (j : Nat) : List Sp := List.replicate j ⟨0, 0, 0, 0⟩
def upT (ns : List Sp) (j : Nat) : List Sp := ns.take j ++ zT (ns.length - j)
theorem upT_len (ns : List Sp) (j : Nat) (h : j ≤ ns.length) : (upT ns j).length = ns.length := by simp [upT, zT]; omega
theorem upT_zero (ns : List Sp) : upT ns 0 = zT ns.length := by simp [upT]
theorem upT_end (ns : List Sp) : upT ns ns.length = ns := by simp [upT, zT]
theorem encS_zT (j : Nat) : encS (zT j) = (List.replicate j [i6 0, i6 0, i6 0, i6 0]).flatten := by
  induction j with
  | zero => rfl
  | succ j ih => simp only [zT, List.replicate_succ, encS, List.flatMap_cons, List.flatten_cons] at ih ⊢; rw [ih]; rfl
theorem upT_set (ns : List Sp) (j : Nat) (h : j < ns.length) : (upT ns j).set j ns[j] = upT ns (j + 1) := by
  have hl : (ns.take j).length = j := by simp; omega
  have e : ns.length - j = (ns.length - (j + 1)) + 1 := by omega
  simp only [upT, zT]
  rw [List.set_append_right _ _ (by omega), hl, Nat.sub_self, e, List.replicate_succ, List.set_cons_zero, List.take_succ_eq_append_getElem h, List.append_assoc]
  rfl
theorem encS_set : ∀ (xs : List Sp) (j : Nat) (n : Sp), ((((encS xs).set (j * 4) (i6 n.r)).set (j * 4 + 1) (i6 n.t)).set (j * 4 + 2) (i6 n.a)).set (j * 4 + 3) (i6 n.b) = encS (xs.set j n)
  | [], j, n => by simp
  | x :: xs, 0, n => rfl
  | x :: xs, j + 1, n => by
    have := encS_set xs j n
    have e : (j + 1) * 4 = j * 4 + 1 + 1 + 1 + 1 := by omega
    show (((([i6 x.r, i6 x.t, i6 x.a, i6 x.b] ++ encS xs).set ((j + 1) * 4) _).set ((j + 1) * 4 + 1) _).set ((j + 1) * 4 + 2) _).set ((j + 1) * 4 + 3) _ = [i6 x.r, i6 x.t, i6 x.a, i6 x.b] ++ encS (xs.set j n)
    rw [e, ← this]
    rfl
theorem laws_toStepS_c (ns : List Sp) (hl : ns.length ≤ 4294967296) : T 13 [aSs ns] [] (tref 0 ns) ([uqblk ns]) := by
  refine semT' (S := S0) hm laws_toStepS_ok (Nat.le_of_ble_eq_true rfl) ?_
  unfold laws_toStepS; dsimp only
  have h1 : ((ns.length : Int)) * 32 ≤ 17592186044416 := by omega
  have h2 : (ns.length : Int) ≤ 4294967296 := by omega
  simp
  refine ck_intro' (by omega) ?_; simp
  rw [← encS_zT, ← upT_zero]
  refine WLoop_fam (fun j : Nat => [(0, aSs ns), (3, A.ref 0 0 0 ns.length), (4, i6 j)]) (fun j => [⟨0, false, 4, encS (upT ns j), none⟩]) (fun j => ns.length - j)
    (fun j => j ≤ ns.length) ?_ 0 (Nat.zero_le _)
  intro j hj ih
  simp [upT_len ns j hj]
  refine br_intro' (fun h => ?_) (fun h => ?_) <;> (have h0 := h) <;> (try simp at h) <;> try simp [h0, h]
  · obtain ⟨r, hr⟩ := encS_at h
    have h3 : 4 ≤ ns.length * 4 - j * 4 := by omega
    have hw : IntKind.i64.wrap ((j : Int) + 1) = j + 1 := wrap64 (by omega) (by omega)
    have h' := h
    simp [h3, hr, h']
    refine laws_toStep_call (n := ns[j]) rfl ?_; simp [upT_len ns j hj, h']
    refine ck_intro' (by omega) ?_; simp
    rw [hw, encS_set, upT_set ns j h']
    exact ih (j + 1) h' (by omega)
  · have h0 : j = ns.length := by omega
    subst h0
    rw [upT_end]
    first | (refine LeV.tell [none] ?_ ?_ ?_ <;> (simp; done)) | (refine LeV.tell [some 0] ?_ ?_ ?_ <;> (simp; done)) | (refine LeV.tell [some 1] ?_ ?_ ?_ <;> (simp; done)) | (refine LeV.tell [some 2] ?_ ?_ ?_ <;> (simp; done)) | (refine LeV.tell [some 3] ?_ ?_ ?_ <;> (simp; done)) | (refine LeV.tell [some 4] ?_ ?_ ?_ <;> (simp; done)) | (refine LeV.tell [some 5] ?_ ?_ ?_ <;> (simp; done)) | (refine LeV.tell [some 6] ?_ ?_ ?_ <;> (simp; done)) | (refine LeV.tell [some 7] ?_ ?_ ?_ <;> (simp; done)) | (refine LeV.tell [some 8] ?_ ?_ ?_ <;> (simp; done)) | (refine LeV.tell [some 9] ?_ ?_ ?_ <;> (simp; done)) | (refine LeV.tell [some 10] ?_ ?_ ?_ <;> (simp; done)) | (refine LeV.tell [some 11] ?_ ?_ ?_ <;> (simp; done)) | (refine LeV.tell [some 12] ?_ ?_ ?_ <;> (simp; done)) | (refine LeV.tell [some 13] ?_ ?_ ?_ <;> (simp; done)) | (refine LeV.tell [some 14] ?_ ?_ ?_ <;> (simp; done)) | (refine LeV.tell [some 15] ?_ ?_ ?_ <;> (simp; done))
theorem laws_toStepS_k {ns : List Sp} (hl : ns.length ≤ 4294967296) {S : FuncId → Bool} {H : List Blk} {K : A → Dl → Prop} {zs : List A} (hS : S 13 = false) (hv : viewL (viewA 8 H) zs = some [aSs ns]) (ho : noOwns zs = true ∨ nosl (tref 0 ns) = true ∧ noslBlks ([uqblk ns]) = true) (hK : K (shiftA H.length (tref 0 ns)) (.news (([uqblk ns]).map (shiftB H.length)))) : @WCall' Go.Proofs.Try.prog S 13 zs H ⟨K⟩ :=
  WCall_ro' hS hv (laws_toStepS_c ns hl) rfl ho hK
theorem laws_eqStepS_c (ns ms : List Sp) (hl : ns.length < 9223372036854775807) (hl2 : ms.length < 9223372036854775807) : T 15 [aSs ns, aSs ms] [] (.bool (decide (ns = ms))) ([]) := by
  refine semT' (S := S0) hm laws_eqStepS_ok (Nat.le_of_ble_eq_true rfl) ?_
  unfold laws_eqStepS; dsimp only
  simp
  refine br_intro' (fun h => ?_) (fun h => ?_) <;> (try simp at h) <;> (try simp [h])
  · refine WLoop_fam (fun j : Nat => [(0, aSs ns), (1, aSs ms), (5, i6 j)]) (fun _ => []) (fun j => ns.length - j)
      (fun j => j ≤ ns.length ∧ ns.take j = ms.take j) ?_ 0 ⟨Nat.zero_le _, by simp⟩
    intro j ⟨hj, hf⟩ ih
    simp
    have hq : ns.length = ms.length := by omega
    refine br_intro' (fun h => ?_) (fun h => ?_) <;> (have h0 := h) <;> (try simp at h) <;> try simp [h0, h]
    · obtain ⟨r, hr⟩ := encS_at h
      have hm : j < ms.length := by omega
      obtain ⟨r2, hr2⟩ := encS_at hm
      have h3 : 4 ≤ ms.length * 4 - j * 4 := by omega
      have h4 : 4 ≤ ns.length * 4 - j * 4 := by omega
      have hw : IntKind.i64.wrap ((j : Int) + 1) = j + 1 := wrap64 (by omega) (by omega)
      have h' := h
      simp [h3, h4, hr, h', hr2, hm]
      refine laws_eqStep_call (n := ns[j]) (m := ms[j]) rfl ?_; simp
      first | (refine ck_intro' (by kernel_rfl) ?_; try simp) | skip
      refine br_intro' (fun g => ?_) (fun g => ?_) <;> simp at g <;> simp [g]
      · rw [hw]
        exact ih (j + 1) ⟨h', by rw [List.take_succ_eq_append_getElem h', List.take_succ_eq_append_getElem hm, hf, g]⟩ (by omega)
      · exact LeV.ro rfl rfl (by simp; intro e; subst e; exact g rfl)
    · have h0 : j = ns.length := by omega
      exact LeV.ro rfl rfl (by rw [h0, List.take_length, hq, List.take_length] at hf; simp [hf])
  · exact LeV.ro rfl rfl (by simp; intro e; rw [e] at h; exact h rfl)
theorem laws_eqStepS_call {ns ms : List Sp} (hl : ns.length < 9223372036854775807) (hl2 : ms.length < 9223372036854775807) {S : FuncId → Bool} {H : List Blk} {K : A → Dl → Prop} (hS : S 15 = false) (hK : K (.bool (decide (ns = ms))) (.news [])) : @WCall' Go.Proofs.Try.prog S 15 [aSs ns, aSs ms] H ⟨K⟩ :=
  WCall_pure hS (laws_eqStepS_c ns ms hl hl2) (by simp) (by simp) (by simp) hK
theorem laws_eqStepS_k {ns ms : List Sp} (hl : ns.length < 9223372036854775807) (hl2 : ms.length < 9223372036854775807) {S : FuncId → Bool} {H : List Blk} {K : A → Dl → Prop} {zs : List A} (hS : S 15 = false) (hv : viewL (viewA 8 H) zs = some [aSs ns, aSs ms]) (ho : noOwns zs = true ∨ nosl (.bool (decide (ns = ms))) = true) (hK : K (.bool (decide (ns = ms))) (.news [])) : @WCall' Go.Proofs.Try.prog S 15 zs H ⟨K⟩ :=
  WCall_pure hS (laws_eqStepS_c ns ms hl hl2) hv ho (by simp) hK
def mkTs (k : Int) : Nat → List Sp
  | 0 => []
  | n + 1 => mkTs k n ++ [⟨k + 4 * n, k + 4 * n + 1, k + 4 * n + 2, k + 4 * n + 3⟩]
@[simp] theorem mkTs_len (k : Int) (n : Nat) : (mkTs k n).length = n := by induction n with | zero => rfl | succ n ih => simp [mkTs, ih]
@[simp] theorem mkTs_take (k : Int) (n : Nat) : (encS (mkTs k n)).take (n * 4) = encS (mkTs k n) := List.take_of_length_le (by simp)
theorem mkTs_get (k : Int) : ∀ (n j : Nat) (h : j < (mkTs k n).length), (mkTs k n)[j] = ⟨k + 4 * j, k + 4 * j + 1, k + 4 * j + 2, k + 4 * j + 3⟩
  | 0, j, h => by simp at h
  | n + 1, j, h => by
    simp only [mkTs]
    rcases Nat.lt_or_ge j n with g | g
    · rw [List.getElem_append_left (by simpa using g)]
      exact mkTs_get k n j (by simpa using g)
    · have : j = n := by simp at h; omega
      subst this
      simp
theorem mkTs_set (k : Int) (ns : List Sp) (j : Nat) (h : j < ns.length) : (mkTs k j ++ ns.drop j).set j ⟨k + 4 * j, k + 4 * j + 1, k + 4 * j + 2, k + 4 * j + 3⟩ = mkTs k (j + 1) ++ ns.drop (j + 1) := by
  rw [List.set_append_right _ _ (by simp), mkTs_len, Nat.sub_self, List.drop_eq_getElem_cons h, List.set_cons_zero]
  simp [mkTs]
theorem laws_markStepS_m (H : List Blk) (nb v : Nat) (ro : Bool) (ns : List Sp) (k : Int) (hH : H[nb]? = some ⟨v, ro, 4, encS ns, none⟩) (hro : ro = true → ns = []) (hl : ns.length ≤ 4294967296) (hk : 0 ≤ k) (hk2 : k ≤ 1099511627776) : T 18 [.ref nb v 0 ns.length, i6 k] (H) (i6 (k + 4 * ns.length)) (H.set nb ⟨v, ro, 4, encS (mkTs k ns.length), none⟩) := by
  refine semT' (S := S0) hm laws_markStepS_ok (Nat.le_of_ble_eq_true rfl) ?_
  unfold laws_markStepS; dsimp only
  have hlt : nb < H.length := (List.getElem?_eq_some_iff.1 hH).1
  have hs0 : H.set nb ⟨v, ro, 4, encS (mkTs k 0 ++ ns.drop 0), none⟩ = H := set_self (by simpa [mkTs] using hH)
  simp
  generalize hB : H.length = B
  rw [← hs0]
  refine WLoop_fam (fun p : Nat × Int => [(0, A.ref nb v 0 ns.length), (1, i6 p.2), (5, i6 p.1)]) (fun p => H.set nb ⟨v, ro, 4, encS (mkTs k p.1 ++ ns.drop p.1), none⟩) (fun p => ns.length - p.1)
    (fun p => p.1 ≤ ns.length ∧ p.2 = k + 4 * p.1) ?_ (0, k) ⟨Nat.zero_le _, by simp⟩
  rintro ⟨j, k'⟩ ⟨hj, hk'⟩ ih
  simp at hk' hj
  subst hk'
  have hlen : (mkTs k j ++ ns.drop j).length = ns.length := by simp; omega
  simp [hlt]
  refine br_intro' (fun h => ?_) (fun h => ?_) <;> (have h0 := h) <;> (try simp at h) <;> try simp [h0, h]
  · have h' := h
    have hr : ro = false := by cases ro with | false => rfl | true => rw [hro rfl] at h; simp at h
    subst hr
    have h3 : j * 4 < ns.length * 4 := by omega
    have h4 : j * 4 + 1 < ns.length * 4 := by omega
    have h5 : j * 4 + 2 < ns.length * 4 := by omega
    have h6 : j * 4 + 3 < ns.length * 4 := by omega
    have w1 : IntKind.i64.wrap (k + 4 * (j : Int) + 1) = k + 4 * j + 1 := wrap64 (by omega) (by omega)
    have w2 : IntKind.i64.wrap (k + 4 * (j : Int) + 1 + 1) = k + 4 * j + 2 := by rw [wrap64 (by omega) (by omega)]; omega
    have w3 : IntKind.i64.wrap (k + 4 * (j : Int) + 2 + 1) = k + 4 * j + 3 := by rw [wrap64 (by omega) (by omega)]; omega
    have w4 : IntKind.i64.wrap (k + 4 * (j : Int) + 3 + 1) = k + 4 * j + 4 := by rw [wrap64 (by omega) (by omega)]; omega
    have hw : IntKind.i64.wrap ((j : Int) + 1) = j + 1 := wrap64 (by omega) (by omega)
    have hc : (j + (ns.length - j)) * 4 = ns.length * 4 := by rw [Nat.add_sub_cancel' hj]
    simp [h', hlt, hc, w1, w2, w3, w4, h3, h4, h5, h6]
    refine ck_intro' (by omega) ?_; simp [h', hlt, hc, w1, w2, w3, w4, h3, h4, h5, h6]
    refine ck_intro' (by omega) ?_; simp [h', hlt, hc, w1, w2, w3, w4, h3, h4, h5, h6]
    refine ck_intro' (by omega) ?_; simp [h', hlt, hc, w1, w2, w3, w4, h3, h4, h5, h6]
    refine ck_intro' (by omega) ?_; simp [h', hlt, hc, w1, w2, w3, w4, h3, h4, h5, h6, hw]
    have e3 := encS_set (mkTs k j ++ ns.drop j) j ⟨k + 4 * j, k + 4 * j + 1, k + 4 * j + 2, k + 4 * j + 3⟩
    rw [mkTs_set k ns j h'] at e3
    rw [e3]
    exact ih (j + 1, k + 4 * j + 4) ⟨h', by push_cast; omega⟩ (by simp; omega)
  · have e : j = ns.length := by omega
    subst e
    simp
    exact LeV.refl _ _ _
theorem encS_gets {ns : List Sp} {j : Nat} (h : j < ns.length) : (encS ns)[j * 4]? = some (i6 ns[j].r) ∧ (encS ns)[j * 4 + 1]? = some (i6 ns[j].t) ∧ (encS ns)[j * 4 + 2]? = some (i6 ns[j].a) ∧ (encS ns)[j * 4 + 3]? = some (i6 ns[j].b) := by
  obtain ⟨r, hr⟩ := encS_at h
  have e : ∀ i, (encS ns)[j * 4 + i]? = (i6 ns[j].r :: i6 ns[j].t :: i6 ns[j].a :: i6 ns[j].b :: r)[i]? := fun i => by rw [← hr, List.getElem?_drop]
  exact ⟨e 0, e 1, e 2, e 3⟩
theorem encS_r {ns : List Sp} {j : Nat} (h : j < ns.length) {h' : j * 4 < (encS ns).length} : (encS ns)[j * 4] = i6 ns[j].r := by
  have := (encS_gets h).1
  rw [List.getElem?_eq_getElem h'] at this
  simpa using this
theorem encS_t {ns : List Sp} {j : Nat} (h : j < ns.length) {h' : j * 4 + 1 < (encS ns).length} : (encS ns)[j * 4 + 1] = i6 ns[j].t := by
  have := (encS_gets h).2.1
  rw [List.getElem?_eq_getElem h'] at this
  simpa using this
theorem encS_a {ns : List Sp} {j : Nat} (h : j < ns.length) {h' : j * 4 + 2 < (encS ns).length} : (encS ns)[j * 4 + 2] = i6 ns[j].a := by
  have := (encS_gets h).2.2.1
  rw [List.getElem?_eq_getElem h'] at this
  simpa using this
theorem encS_b {ns : List Sp} {j : Nat} (h : j < ns.length) {h' : j * 4 + 3 < (encS ns).length} : (encS ns)[j * 4 + 3] = i6 ns[j].b := by
  have := (encS_gets h).2.2.2
  rw [List.getElem?_eq_getElem h'] at this
  simpa using this
theorem laws_heldStepS_c (n : Nat) (k : Int) (hl : n ≤ 4294967296) (hk : 0 ≤ k) (hk2 : k ≤ 1099511627776) : T 19 [.sl n (encS (mkTs k n)), i6 k] [] (i6 (k + 4 * n)) ([]) := by
  refine semT' (S := S0) hm laws_heldStepS_ok (Nat.le_of_ble_eq_true rfl) ?_
  unfold laws_heldStepS; dsimp only
  simp
  refine WLoop_fam (fun p : Nat × Int => [(0, .sl n (encS (mkTs k n))), (1, i6 p.2), (5, i6 p.1)]) (fun _ => []) (fun p => n - p.1)
    (fun p => p.1 ≤ n ∧ p.2 = k + 4 * p.1) ?_ (0, k) ⟨Nat.zero_le _, by simp⟩
  rintro ⟨j, k'⟩ ⟨hj, hk'⟩ ih
  simp at hk' hj
  subst hk'
  simp
  refine br_intro' (fun h => ?_) (fun h => ?_) <;> (have h0 := h) <;> (try simp at h) <;> try simp [h0, h]
  · have h' := h
    obtain ⟨r, hr⟩ := encS_at (ns := mkTs k n) (j := j) (by simpa using h)
    rw [mkTs_get] at hr
    have h3 : 4 ≤ n * 4 - j * 4 := by omega
    have h4 : j * 4 < n * 4 := by omega
    have w1 : IntKind.i64.wrap (k + 4 * (j : Int) + 1) = k + 4 * j + 1 := wrap64 (by omega) (by omega)
    have w2 : IntKind.i64.wrap (k + 4 * (j : Int) + 1 + 1) = k + 4 * j + 2 := by rw [wrap64 (by omega) (by omega)]; omega
    have w3 : IntKind.i64.wrap (k + 4 * (j : Int) + 2 + 1) = k + 4 * j + 3 := by rw [wrap64 (by omega) (by omega)]; omega
    have w4 : IntKind.i64.wrap (k + 4 * (j : Int) + 3 + 1) = k + 4 * j + 4 := by rw [wrap64 (by omega) (by omega)]; omega
    have hw : IntKind.i64.wrap ((j : Int) + 1) = j + 1 := wrap64 (by omega) (by omega)
    have hj' : j < (mkTs k n).length := by simpa using h
    have h5 : j * 4 + 1 < n * 4 := by omega
    have h6 : j * 4 + 2 < n * 4 := by omega
    have h7 : j * 4 + 3 < n * 4 := by omega
    simp [h', h3, h4, h5, h6, h7, encS_r hj', encS_t hj', encS_a hj', encS_b hj', mkTs_get, w1, w2, w3, w4, hw]
    exact ih (j + 1, k + 4 * j + 4) ⟨h', by push_cast; omega⟩ (by simp; omega)
  · have e : j = n := by omega
    subst e
    exact LeV.ro rfl rfl (by simp)
theorem laws_heldStepS_call {n : Nat} {k : Int} (hl : n ≤ 4294967296) (hk : 0 ≤ k) (hk2 : k ≤ 1099511627776) {S : FuncId → Bool} {H : List Blk} {K : A → Dl → Prop} (hS : S 19 = false) (hK : K (i6 (k + 4 * n)) (.news [])) : @WCall' Go.Proofs.Try.prog S 19 [.sl n (encS (mkTs k n)), i6 k] H ⟨K⟩ :=
  WCall_pure hS (laws_heldStepS_c n k hl hk hk2) (by simp) (by simp) (by simp) hK
theorem laws_heldStepS_k {n : Nat} {k : Int} (hl : n ≤ 4294967296) (hk : 0 ≤ k) (hk2 : k ≤ 1099511627776) {S : FuncId → Bool} {H : List Blk} {K : A → Dl → Prop} {zs : List A} (hS : S 19 = false) (hv : viewL (viewA 8 H) zs = some [.sl n (encS (mkTs k n)), i6 k]) (ho : noOwns zs = true ∨ nosl (i6 (k + 4 * n)) = true) (hK : K (i6 (k + 4 * n)) (.news [])) : @WCall' Go.Proofs.Try.prog S 19 zs H ⟨K⟩ :=
  WCall_pure hS (laws_heldStepS_c n k hl hk hk2) hv ho (by simp) hK
end Go.Proofs.Ytcfgiffgahdlbaa.C

set_option linter.unusedVariables false
set_option linter.unusedSimpArgs false
set_option maxRecDepth 4000
namespace Go.Proofs.Ytcfgiffgahdlbaa.C
open Go.Sym Go.Proofs.Ytcfgiffgahdlbaa.I
theorem needsF_in {ns : List Nd} (hp : poolF ns = true) {s : Sp} (ht : hasF ns.length s.t = true) : needsF ns s = -1 ∨ needsF ns s = 0 ∨ needsF ns s = 1 ∨ needsF ns s = 2 := by
  obtain ⟨j, ej, hj⟩ := hasN ht
  have := parts_kind hp hj
  rw [← nodeAt_nat hj, ← ej] at this
  unfold needsF
  split
  · simp
  · split
    · rcases this with h | h | h <;> simp [h]
    · split
      · simp
      · split <;> simp
/-- Whether a rule holds, by the terms of the steps that are named. -/
def ruleF (ns : List Nd) (ks : List Int) (s : Sp) (a b : Int) : Bool :=
  if s.r = 1 then hasK ks s.t
  else if s.r = 2 then decide ((nodeAt ns s.t).k = 1) && pubF (nodeAt ns s.t).a
  else if s.r = 3 then decide ((nodeAt ns s.t).k ≠ 1) && decide (a = (nodeAt ns s.t).a) && (decide (needsF ns s < 2) || decide (b = (nodeAt ns s.t).b))
  else if s.r = 4 then decide ((nodeAt ns s.t).k = 8) && decide ((nodeAt ns b).k = 7) && (decide (a = (nodeAt ns s.t).a) && decide ((nodeAt ns b).a = (nodeAt ns s.t).b) || decide (a = (nodeAt ns s.t).b) && decide ((nodeAt ns b).a = (nodeAt ns s.t).a))
  else if s.r = 5 then decide ((nodeAt ns a).k = 2) && decide ((nodeAt ns a).a = s.t)
  else if s.r = 6 then decide ((nodeAt ns a).k = 2) && decide ((nodeAt ns a).b = s.t)
  else if s.r = 7 then decide ((nodeAt ns a).k = 3) && decide ((nodeAt ns a).a = s.t) && decide ((nodeAt ns a).b = b)
  else decide ((nodeAt ns a).k = 4) && decide ((nodeAt ns a).a = s.t)
def lackF (n a b sa sb : Int) : Bool := decide (n < 0 ∨ (0 < n ∧ a < 0) ∨ (1 < n ∧ b < 0) ∨ (n < 1 ∧ sa ≠ 0) ∨ (n < 2 ∧ sb ≠ 0))
def holdsF (ns : List Nd) (ks : List Int) (s : Sp) (a b : Int) : Bool := !lackF (needsF ns s) a b s.a s.b && ruleF ns ks s a b
theorem needs_0 {ns : List Nd} {s : Sp} (h : needsF ns s = 0) : s.r = 1 ∨ s.r = 2 ∨ s.r = 3 := by
  unfold needsF at h
  split at h
  · omega
  · split at h
    · omega
    · split at h
      · omega
      · split at h <;> omega
theorem needs_1 {ns : List Nd} {s : Sp} (h : needsF ns s = 1) : s.r = 3 ∨ s.r = 5 ∨ s.r = 6 ∨ s.r = 8 := by
  unfold needsF at h
  split at h
  · omega
  · split at h
    · omega
    · split at h
      · omega
      · split at h <;> omega
theorem needs_2 {ns : List Nd} {s : Sp} (h : needsF ns s = 2) : s.r = 3 ∨ s.r = 4 ∨ s.r = 7 := by
  unfold needsF at h
  split at h
  · omega
  · split at h
    · omega
    · split at h
      · omega
      · split at h <;> omega
theorem spec_l9Holds_c (ns : List Nd) (ks : List Int) (s : Sp) (a b : Int) (hl : ns.length < 9223372036854775807) (hk : ks.length < 9223372036854775807) (hp : poolF ns = true) (ht : hasF ns.length s.t = true) (ha : a < 0 ∨ hasF ns.length a = true) (hb : b < 0 ∨ hasF ns.length b = true) : T 68 [aP ns, aI ks, aSt s, i6 a, i6 b] [] (.bool (holdsF ns ks s a b)) ([]) := by
  refine semT' (S := S0) hm spec_l9Holds_ok (Nat.le_of_ble_eq_true rfl) ?_
  unfold spec_l9Holds; dsimp only
  obtain ⟨j, ej, hj⟩ := hasN ht
  obtain ⟨q, hr⟩ := enc_at hj
  have h3 : 3 ≤ ns.length * 3 - j * 3 := by omega
  have en := nodeAt_nat hj
  simp [ej, h3, hr, hj]
  rw [← ej]
  refine spec_l9Needs_call (s := s) hl ht rfl ?_; simp
  rcases needsF_in hp ht with hn | hn | hn | hn <;> simp [hn]
  · exact LeV.ro rfl rfl (by simp [holdsF, lackF, hn])
  · rcases needs_0 hn with h0 | h0 | h0
    all_goals repeat (any_goals (first | (refine br_intro' (fun h => ?_) (fun h => ?_) <;> (try simp at h) <;> try simp [h, h0, hn, h3, hr, hj]) | (refine spec_KnowHas_call (t := s.t) hk rfl ?_; simp) | (refine spec_IsPublic_call rfl ?_; simp)))
    all_goals exact LeV.ro rfl rfl (by simp [holdsF, lackF, ruleF, hn, h0, ej, en, *])
  · refine br_intro' (fun g => ?_) (fun g => ?_) <;> (have g0 := g) <;> simp at g <;> simp [g0, g]
    · exact LeV.ro rfl rfl (by simp [holdsF, lackF, hn, g])
    · obtain ⟨ja, rfl, hja⟩ := hasN (ha.resolve_left (by omega))
      obtain ⟨qa, hra⟩ := enc_at hja
      have h3a : 3 ≤ ns.length * 3 - ja * 3 := by omega
      have ena := nodeAt_nat hja
      rcases needs_1 hn with h0 | h0 | h0 | h0
      all_goals repeat (any_goals (first | (refine br_intro' (fun h => ?_) (fun h => ?_) <;> (have k0 := h) <;> (try simp [h0] at h) <;> try simp [k0, h, h0, hn, h3, hr, hj, h3a, hra, hja]) | (refine ck_intro' (by first | omega | kernel_rfl) ?_; simp [h0, hn, h3, hr, hj, h3a, hra, hja])))
      all_goals exact LeV.ro rfl rfl (by first | (simp [holdsF, lackF, ruleF, hn, h0, ej, en, ena, *]; done) | (simp [holdsF, lackF, ruleF, hn, h0, ej, en, ena, *]; omega))
  · refine br_intro' (fun g => ?_) (fun g => ?_) <;> (have g0 := g) <;> simp at g <;> simp [g0, g]
    · exact LeV.ro rfl rfl (by simp [holdsF, lackF, hn, g])
    obtain ⟨ja, rfl, hja⟩ := hasN (ha.resolve_left (by omega))
    refine br_intro' (fun g2 => ?_) (fun g2 => ?_) <;> (have g02 := g2) <;> simp at g2 <;> simp [g02, g2]
    · exact LeV.ro rfl rfl (by simp [holdsF, lackF, hn, g2])
    · obtain ⟨jb, rfl, hjb⟩ := hasN (hb.resolve_left (by omega))
      obtain ⟨qa, hra⟩ := enc_at hja
      have h3a : 3 ≤ ns.length * 3 - ja * 3 := by omega
      have ena := nodeAt_nat hja
      obtain ⟨qb, hrb⟩ := enc_at hjb
      have h3b : 3 ≤ ns.length * 3 - jb * 3 := by omega
      have enb := nodeAt_nat hjb
      rcases needs_2 hn with h0 | h0 | h0
      all_goals try simp [h0]
      all_goals repeat (any_goals (first | (refine br_intro' (fun h => ?_) (fun h => ?_) <;> (have k0 := h) <;> (try simp [h0] at h) <;> try simp [k0, h, h0, hn, h3, hr, hj, h3a, hra, hja, h3b, hrb, hjb]) | (refine ck_intro' (by first | omega | kernel_rfl) ?_; simp [h0, hn, h3, hr, hj, h3a, hra, hja, h3b, hrb, hjb])))
      all_goals exact LeV.ro rfl rfl (by first | (simp [holdsF, lackF, ruleF, hn, h0, ej, en, ena, enb, *]; done) | (simp [holdsF, lackF, ruleF, hn, h0, ej, en, ena, enb, *]; omega) | (simp [holdsF, lackF, ruleF, hn, h0, ej, en, ena, enb, *]; grind))
theorem spec_l9Holds_call {ns : List Nd} {ks : List Int} {s : Sp} {a b : Int} (hl : ns.length < 9223372036854775807) (hk : ks.length < 9223372036854775807) (hp : poolF ns = true) (ht : hasF ns.length s.t = true) (ha : a < 0 ∨ hasF ns.length a = true) (hb : b < 0 ∨ hasF ns.length b = true) {S : FuncId → Bool} {H : List Blk} {K : A → Dl → Prop} (hS : S 68 = false) (hK : K (.bool (holdsF ns ks s a b)) (.news [])) : @WCall' Go.Proofs.Try.prog S 68 [aP ns, aI ks, aSt s, i6 a, i6 b] H ⟨K⟩ :=
  WCall_pure hS (spec_l9Holds_c ns ks s a b hl hk hp ht ha hb) (by simp) (by simp) (by simp) hK
theorem spec_l9Holds_k {ns : List Nd} {ks : List Int} {s : Sp} {a b : Int} (hl : ns.length < 9223372036854775807) (hk : ks.length < 9223372036854775807) (hp : poolF ns = true) (ht : hasF ns.length s.t = true) (ha : a < 0 ∨ hasF ns.length a = true) (hb : b < 0 ∨ hasF ns.length b = true) {S : FuncId → Bool} {H : List Blk} {K : A → Dl → Prop} {zs : List A} (hS : S 68 = false) (hv : viewL (viewA 8 H) zs = some [aP ns, aI ks, aSt s, i6 a, i6 b]) (ho : noOwns zs = true ∨ nosl (.bool (holdsF ns ks s a b)) = true) (hK : K (.bool (holdsF ns ks s a b)) (.news [])) : @WCall' Go.Proofs.Try.prog S 68 zs H ⟨K⟩ :=
  WCall_pure hS (spec_l9Holds_c ns ks s a b hl hk hp ht ha hb) hv ho (by simp) hK
end Go.Proofs.Ytcfgiffgahdlbaa.C

set_option linter.unusedVariables false
set_option linter.unusedSimpArgs false
set_option maxRecDepth 4000
namespace Go.Proofs.Ytcfgiffgahdlbaa.C
open Go.Sym Go.Proofs.Ytcfgiffgahdlbaa.I
/-- The terms of the steps that a step names; false: it may not. -/
def termsV (ns : List Nd) (ss : List Sp) (s : Sp) : Int × Int × Bool :=
  if needsF ns s < 0 ∨ (needsF ns s < 1 ∧ s.a ≠ 0) ∨ (needsF ns s < 2 ∧ s.b ≠ 0) then (0, 0, false)
  else if 0 < needsF ns s ∧ inF s.a 0 ((ss.length : Int) - 1) = false then (0, 0, false)
  else if 1 < needsF ns s ∧ inF s.b 0 ((ss.length : Int) - 1) = false then (0, 0, false)
  else (if 0 < needsF ns s then termAt ss ss.length s.a else -1, if 1 < needsF ns s then termAt ss ss.length s.b else -1, true)
theorem impl_Pool_terms_c (ns : List Nd) (r : List A) (ss : List Sp) (s : Sp) (hl : ns.length < 9223372036854775807) (hls : ss.length < 9223372036854775807) (hp : poolF ns = true) (ht : hasF ns.length s.t = true) (hv : ∀ n H, viewL (viewA (n + 1) H) r = some r) (ho : noOwns r = true) : T 91 [.pt (.sl ns.length (enc ns) :: r), aSs ss, aSt s] [] (.tup [i6 (termsV ns ss s).1, i6 (termsV ns ss s).2.1, .bool (termsV ns ss s).2.2]) ([]) := by
  refine semT' (S := S0) hm impl_Pool_terms_ok (Nat.le_of_ble_eq_true rfl) ?_
  unfold impl_Pool_terms; dsimp only
  have hw := wrap_len (n := ss.length) (by omega)
  simp
  refine WCall_pure rfl (impl_Pool_needs_c ns r s hl hp ht hv ho) (by simp [hv]) (by simp [ho]) (by simp) ?_; simp
  rcases needsF_in hp ht with hn | hn | hn | hn <;> simp [hn]
  · exact LeV.ro rfl rfl (by simp [termsV, hn])
  · repeat (any_goals (first | (refine br_intro' (fun h => ?_) (fun h => ?_) <;> (have k0 := h) <;> (try simp at h) <;> try simp [k0, h])))
    all_goals exact LeV.ro rfl rfl (by simp [termsV, hn, *])
  · refine br_intro' (fun h => ?_) (fun h => ?_) <;> (try simp at h) <;> try simp [h]
    · rw [hw]
      refine impl_inRange_call rfl ?_; simp
      refine br_intro' (fun g => ?_) (fun g => ?_) <;> simp [g]
      · have g' := g
        simp [inF] at g'
        obtain ⟨j, e⟩ : ∃ j : Nat, s.a = j := ⟨s.a.toNat, by omega⟩
        have hj : j < ss.length := by omega
        obtain ⟨q, hr⟩ := encS_at hj
        have h4 : 2 ≤ ss.length * 4 - j * 4 := by omega
        rw [e]
        simp [hr, hj]
        rw [e] at g
        exact LeV.ro rfl rfl (by simp [termsV, termAt, hn, e, g, h, hj])
      · exact LeV.ro rfl rfl (by simp [termsV, hn, h, g])
    · exact LeV.ro rfl rfl (by simp [termsV, hn, h])
  · rw [hw]
    refine impl_inRange_call rfl ?_; simp
    refine br_intro' (fun g => ?_) (fun g => ?_) <;> simp [g]
    · have g' := g
      simp [inF] at g'
      obtain ⟨j, e⟩ : ∃ j : Nat, s.a = j := ⟨s.a.toNat, by omega⟩
      have hj : j < ss.length := by omega
      obtain ⟨q, hr⟩ := encS_at hj
      have h4 : 2 ≤ ss.length * 4 - j * 4 := by omega
      rw [e]
      simp [hr, hj]
      rw [hw]
      refine impl_inRange_call rfl ?_; simp
      refine br_intro' (fun f => ?_) (fun f => ?_) <;> simp [f]
      · have f' := f
        simp [inF] at f'
        obtain ⟨i, e2⟩ : ∃ i : Nat, s.b = i := ⟨s.b.toNat, by omega⟩
        have hi : i < ss.length := by omega
        obtain ⟨q2, hr2⟩ := encS_at hi
        have h42 : 2 ≤ ss.length * 4 - i * 4 := by omega
        rw [e2]
        simp [hr2, hi]
        rw [e] at g
        rw [e2] at f
        exact LeV.ro rfl rfl (by simp [termsV, termAt, hn, e, g, e2, f, hj, hi])
      · rw [e] at g
        exact LeV.ro rfl rfl (by simp [termsV, hn, e, g, f])
    · exact LeV.ro rfl rfl (by simp [termsV, hn, g])
theorem termAt_neg {ss : List Sp} {m : Nat} {k : Int} (h : inF k 0 ((m : Int) - 1) = false) : termAt ss m k = -1 := by simp [termAt, h]
theorem termAt_in {ns : List Nd} {ss : List Sp} {m : Nat} (hml : m ≤ ss.length) (hss : ∀ j : Nat, j < m → (h : j < ss.length) → hasF ns.length ss[j].t = true) (k : Int) : (inF k 0 ((m : Int) - 1) = false ∧ termAt ss m k = -1) ∨ inF k 0 ((m : Int) - 1) = true ∧ hasF ns.length (termAt ss m k) = true := by
  cases h : inF k 0 ((m : Int) - 1) with
  | false => exact .inl ⟨rfl, by simp [termAt, h]⟩
  | true =>
    right
    have h' := h
    simp [inF] at h'
    obtain ⟨j, rfl⟩ : ∃ j : Nat, k = j := ⟨k.toNat, by omega⟩
    have hj : j < ss.length := by omega
    have := hss j (by omega) hj
    refine ⟨rfl, ?_⟩
    simp [termAt, h, hj]
    exact this
theorem partsF_0 {k : Int} (h : partsF k = 0) : k = 1 := by
  unfold partsF at h
  split at h
  · assumption
  · split at h
    · omega
    · split at h <;> omega
theorem partsF_ne {k : Int} (h : partsF k ≠ 0) : k ≠ 1 := fun e => h (by simp [partsF, e])
theorem hasF_pos {m : Nat} {t : Int} (h : hasF m t = true) : ¬ t < 0 := by simp [hasF, inF] at h; omega
end Go.Proofs.Ytcfgiffgahdlbaa.C

set_option linter.unusedVariables false
set_option linter.unusedSimpArgs false
set_option maxRecDepth 4000
namespace Go.Proofs.Ytcfgiffgahdlbaa.C
open Go.Sym Go.Proofs.Ytcfgiffgahdlbaa.I
def stepOkF (ns : List Nd) (ks : List Int) (ss : List Sp) (s : Sp) : Bool := hasF ns.length s.t && holdsF ns ks s (termAt ss ss.length s.a) (termAt ss ss.length s.b)
theorem impl_Pool_holds_c (ns : List Nd) (r : List A) (ks : List Int) (ss : List Sp) (s : Sp) (hl : ns.length < 9223372036854775807) (hk : ks.length < 9223372036854775807) (hls : ss.length < 9223372036854775807) (hp : poolF ns = true) (hss : ∀ j : Nat, (h : j < ss.length) → hasF ns.length ss[j].t = true) (hv : ∀ n H, viewL (viewA (n + 1) H) r = some r) (ho : noOwns r = true) : T 70 [.pt (.sl ns.length (enc ns) :: r), aI ks, aSs ss, aSt s] [] (.bool (stepOkF ns ks ss s)) ([]) := by
  refine semT' (S := S0) hm impl_Pool_holds_ok (Nat.le_of_ble_eq_true rfl) ?_
  unfold impl_Pool_holds; dsimp only
  simp
  refine WCall_pure rfl (impl_Pool_isTerm_c ns r s.t hl) (by simp [hv]) (by simp [ho]) (by simp) ?_; simp
  refine br_intro' (fun h => ?_) (fun h => ?_) <;> simp [h]
  rotate_left
  · exact LeV.ro rfl rfl (by simp [stepOkF, h])
  refine WCall_pure rfl (impl_Pool_terms_c ns r ss s hl hls hp h hv ho) (by simp [hv]) (by simp [ho]) (by simp) ?_; simp
  have hta := termAt_in (Nat.le_refl _) (fun j hj hj' => hss j hj') s.a
  have htb := termAt_in (Nat.le_refl _) (fun j hj hj' => hss j hj') s.b
  obtain ⟨j, ej, hj⟩ := hasN h
  obtain ⟨q, hr⟩ := enc_at hj
  have h3 : 3 ≤ ns.length * 3 - j * 3 := by omega
  have en := nodeAt_nat hj
  have hpk := parts_kind hp hj
  rcases needsF_in hp h with hn | hn | hn | hn
  · simp [termsV, hn]
    exact LeV.ro rfl rfl (by simp [stepOkF, holdsF, lackF, hn])
  · by_cases hz : s.a = 0 ∧ s.b = 0
    · rw [show termsV ns ss s = (-1, -1, true) by simp [termsV, hn, hz]]
      simp [ej, h3, hr, hj]
      refine ck_intro' (by kernel_rfl) ?_; simp [ej, h3, hr, hj]
      rw [← ej]
      have hst : stepOkF ns ks ss s = ruleF ns ks s (termAt ss ss.length s.a) (termAt ss ss.length s.b) := by simp [stepOkF, h, holdsF, lackF, hn, hz]
      have hpl : s.r = 3 → partsL (nodeAt ns s.t) = [] ∧ ns[j].k = 1 := fun e => by
        have hz0 : partsF ns[j].k = 0 := by rw [← en, ← ej]; simpa [needsF, e] using hn
        exact ⟨by rw [ej, en]; simp [partsL, hz0], partsF_0 hz0⟩
      rcases needs_0 hn with h0 | h0 | h0
      all_goals try simp [h0]
      all_goals simp only [h0, true_implies, reduceCtorEq, false_implies] at hpl
      all_goals repeat (any_goals (first | (refine br_intro' (fun h => ?_) (fun h => ?_) <;> (have k0 := h) <;> (try simp [h0] at h) <;> try simp [k0, h, h0, hn, h3, hr, hj]) | (refine ck_intro' (by first | omega | kernel_rfl) ?_; simp [h0, hn, h3, hr, hj]) | (refine slices_Contains_int_call (ks := ks) (t := s.t) hk rfl ?_; simp) | (refine impl_IsPublic_call rfl ?_; simp) | (refine WCall_ro' rfl (by simp [hv]) (impl_Pool_parts_c ns r s.t hl (by assumption)) rfl (.inr ⟨by simp, by simp [noslBlks]⟩) ?_; simp [shiftB, hpl])))
      all_goals exact LeV.ro rfl rfl (by rw [hst]; first | (simp [ruleF, hn, h0, ej, en, *]; done) | (simp [ruleF, hn, h0, ej, en, *]; omega) | (simp [ruleF, hn, h0, ej, en, *]; grind))
    · rw [show termsV ns ss s = (0, 0, false) by simp [termsV, hn]; omega]
      simp
      exact LeV.ro rfl rfl (by simp [stepOkF, holdsF, lackF, hn]; omega)
  · rcases hta with ⟨h1, h2⟩ | ⟨h1, h2⟩
    · have et : (termsV ns ss s).2.2 = false := by simp only [termsV, hn, h1]; split <;> simp
      rw [et]
      simp
      exact LeV.ro rfl rfl (by simp [stepOkF, holdsF, lackF, hn, h2])
    · by_cases hz : s.b = 0
      · rw [show termsV ns ss s = (termAt ss ss.length s.a, -1, true) by simp [termsV, hn, hz, h1]]
        obtain ⟨ja, eja, hja⟩ := hasN h2
        obtain ⟨qa, hra⟩ := enc_at hja
        have h3a : 3 ≤ ns.length * 3 - ja * 3 := by omega
        have ena := nodeAt_nat hja
        simp [ej, h3, hr, hj]
        refine ck_intro' (by kernel_rfl) ?_; simp [ej, h3, hr, hj]
        rw [← ej]
        have hst : stepOkF ns ks ss s = ruleF ns ks s (termAt ss ss.length s.a) (termAt ss ss.length s.b) := by simp [stepOkF, h, holdsF, lackF, hn, hz, hasF_pos h2]
        rw [hst, eja]
        have hpl : s.r = 3 → partsL (nodeAt ns s.t) = [ns[j].a] ∧ ns[j].k ≠ 1 := fun e => by
          have hz0 : partsF ns[j].k = 1 := by rw [← en, ← ej]; simpa [needsF, e] using hn
          exact ⟨by rw [ej, en]; simp [partsL, hz0], partsF_ne (by omega)⟩
        rcases needs_1 hn with h0 | h0 | h0 | h0
        all_goals try simp [h0]
        all_goals simp only [h0, true_implies, reduceCtorEq, false_implies] at hpl
        all_goals repeat (any_goals (first | (refine br_intro' (fun h => ?_) (fun h => ?_) <;> (have k0 := h) <;> (try simp [h0] at h) <;> try simp [k0, h, h0, hn, h3, hr, hj, h3a, hra, hja]) | (refine ck_intro' (by first | omega | kernel_rfl) ?_; simp [h0, hn, h3, hr, hj, h3a, hra, hja]) | (refine slices_Contains_int_call (ks := ks) (t := s.t) hk rfl ?_; simp) | (refine impl_IsPublic_call rfl ?_; simp) | (refine WCall_ro' rfl (by simp [hv]) (impl_Pool_parts_c ns r s.t hl (by assumption)) rfl (.inr ⟨by simp, by simp [noslBlks]⟩) ?_; simp [shiftB, hpl])))
        all_goals exact LeV.ro rfl rfl (by first | (simp [ruleF, hn, h0, ej, en, *]; done) | (simp [ruleF, hn, h0, ej, en, *]; omega) | (simp [ruleF, hn, h0, ej, en, *]; grind))
      · rw [show (termsV ns ss s).2.2 = false by simp [termsV, hn, hz]]
        simp
        exact LeV.ro rfl rfl (by simp [stepOkF, holdsF, lackF, hn, hz])
  · rcases hta with ⟨h1, h2⟩ | ⟨h1, h2⟩
    · have et : (termsV ns ss s).2.2 = false := by simp only [termsV, hn, h1]; simp
      rw [et]
      simp
      exact LeV.ro rfl rfl (by simp [stepOkF, holdsF, lackF, hn, h2])
    rcases htb with ⟨k1, k2⟩ | ⟨k1, k2⟩
    · have et : (termsV ns ss s).2.2 = false := by simp only [termsV, hn, h1, k1]; simp
      rw [et]
      simp
      exact LeV.ro rfl rfl (by simp [stepOkF, holdsF, lackF, hn, k2])
    · rw [show termsV ns ss s = (termAt ss ss.length s.a, termAt ss ss.length s.b, true) by simp [termsV, hn, h1, k1]]
      obtain ⟨ja, eja, hja⟩ := hasN h2
      obtain ⟨qa, hra⟩ := enc_at hja
      have h3a : 3 ≤ ns.length * 3 - ja * 3 := by omega
      have ena := nodeAt_nat hja
      obtain ⟨jb, ejb, hjb⟩ := hasN k2
      obtain ⟨qb, hrb⟩ := enc_at hjb
      have h3b : 3 ≤ ns.length * 3 - jb * 3 := by omega
      have enb := nodeAt_nat hjb
      simp [ej, h3, hr, hj]
      refine ck_intro' (by kernel_rfl) ?_; simp [ej, h3, hr, hj]
      rw [← ej]
      have hst : stepOkF ns ks ss s = ruleF ns ks s (termAt ss ss.length s.a) (termAt ss ss.length s.b) := by simp [stepOkF, h, holdsF, lackF, hn, hasF_pos h2, hasF_pos k2]
      rw [hst, eja, ejb]
      have hpl : s.r = 3 → partsL (nodeAt ns s.t) = [ns[j].a, ns[j].b] ∧ ns[j].k ≠ 1 := fun e => by
        have hz0 : partsF ns[j].k = 2 := by rw [← en, ← ej]; simpa [needsF, e] using hn
        exact ⟨by rw [ej, en]; simp [partsL, hz0], partsF_ne (by omega)⟩
      rcases needs_2 hn with h0 | h0 | h0
      all_goals try simp [h0]
      all_goals simp only [h0, true_implies, reduceCtorEq, false_implies] at hpl
      all_goals repeat (any_goals (first | (refine br_intro' (fun h => ?_) (fun h => ?_) <;> (have k0 := h) <;> (try simp [h0] at h) <;> try simp [k0, h, h0, hn, h3, hr, hj, h3a, hra, hja, h3b, hrb, hjb]) | (refine ck_intro' (by first | omega | kernel_rfl) ?_; simp [h0, hn, h3, hr, hj, h3a, hra, hja, h3b, hrb, hjb]) | (refine slices_Contains_int_call (ks := ks) (t := s.t) hk rfl ?_; simp) | (refine impl_IsPublic_call rfl ?_; simp) | (refine WCall_ro' rfl (by simp [hv]) (impl_Pool_parts_c ns r s.t hl (by assumption)) rfl (.inr ⟨by simp, by simp [noslBlks]⟩) ?_; simp [shiftB, hpl])))
      all_goals exact LeV.ro rfl rfl (by first | (simp [ruleF, hn, h0, ej, en, *]; done) | (simp [ruleF, hn, h0, ej, en, *]; omega) | (simp [ruleF, hn, h0, ej, en, *]; grind))
end Go.Proofs.Ytcfgiffgahdlbaa.C

set_option linter.unusedVariables false
set_option linter.unusedSimpArgs false
set_option maxRecDepth 4000
namespace Go.Proofs.Ytcfgiffgahdlbaa.C
open Go.Sym Go.Proofs.Ytcfgiffgahdlbaa.I
abbrev spAt (ss : List Sp) (i : Nat) : Sp := ss.getD i ⟨0, 0, 0, 0⟩
theorem spAt_lt {ss : List Sp} {i : Nat} (h : i < ss.length) : spAt ss i = ss[i] := by simp [spAt, h]
def freshF (ss : List Sp) (i : Nat) : Bool := decide (∀ x ∈ ss.take i, x.t ≠ (spAt ss i).t)
def prF (ns : List Nd) (ks : List Int) (ss : List Sp) (i : Nat) : Bool := stepOkF ns ks (ss.take i) (spAt ss i) && freshF ss i
/-- A list of steps that is a proof. -/
def proofF (ns : List Nd) (ks : List Int) (ss : List Sp) : Bool := kpF ns ks && decide (ss.length ≤ 500) && allF (prF ns ks ss) ss.length 0
theorem termAt_take {ss : List Sp} {i : Nat} (h : i ≤ ss.length) (k : Int) : termAt (ss.take i) (ss.take i).length k = termAt ss i k := by
  have e : (ss.take i).length = i := by simp; omega
  rw [e]
  unfold termAt
  split
  · rename_i g
    simp [inF] at g
    have : k.toNat < i := by omega
    simp [List.getElem?_take, this]
  · rfl
theorem kpF_pool {ns : List Nd} {ks : List Int} (h : kpF ns ks = true) : poolF ns = true := by simp [kpF] at h; exact h.1
theorem spec_l9Proof_c (ns : List Nd) (ks : List Int) (ss : List Sp) (hl : ns.length < 9223372036854775807) (hk : ks.length < 9223372036854775807) (hls : ss.length < 9223372036854775807) : T 49 [aP ns, aI ks, aSs ss] [] (.bool (proofF ns ks ss)) ([]) := by
  refine semT' (S := S0) hm spec_l9Proof_ok (Nat.le_of_ble_eq_true rfl) ?_
  unfold spec_l9Proof; dsimp only
  simp
  refine spec_KnowOk_call hl rfl ?_; simp
  refine br_intro' (fun hkp => ?_) (fun hkp => ?_) <;> simp [hkp]
  rotate_left
  · exact LeV.ro rfl rfl (by simp [proofF, hkp])
  have hp := kpF_pool hkp
  refine br_intro' (fun h5 => ?_) (fun h5 => ?_) <;> simp at h5 <;> simp [h5]
  · exact LeV.ro rfl rfl (by simp [proofF]; omega)
  have h500 : ss.length ≤ 500 := by omega
  have hP : proofF ns ks ss = allF (prF ns ks ss) ss.length 0 := by simp [proofF, hkp, h500]
  rw [hP]
  refine WLoop_fam (fun j : Nat => [(1, aI ks), (2, aSs ss), (3, A.ptr 0 0 0), (7, i6 j)]) (fun _ => [⟨0, false, 1, [A.sl ns.length (enc ns)], none⟩]) (fun j => ss.length - j)
    (fun j => j ≤ ss.length ∧ allF (prF ns ks ss) ss.length 0 = allF (prF ns ks ss) ss.length j ∧ ∀ i : Nat, i < j → (h : i < ss.length) → hasF ns.length ss[i].t = true) ?_ 0 ⟨Nat.zero_le _, rfl, fun i h => by omega⟩
  intro j ⟨hj, hf, hss⟩ ih
  simp
  refine br_intro' (fun h => ?_) (fun h => ?_) <;> (have h0 := h) <;> (try simp at h) <;> try simp [h0, h]
  · have h' := h
    obtain ⟨q, hr⟩ := encS_at h
    have h4 : 4 ≤ ss.length * 4 - j * 4 := by omega
    have hw := wrap_succ (n := j) (by omega)
    simp [h4, hr]
    refine spec_l1Has_call (t := ss[j].t) hl rfl ?_; simp
    have hfj : allF (prF ns ks ss) ss.length j = (prF ns ks ss j && allF (prF ns ks ss) ss.length (j + 1)) := allF_at h'
    have hprj : prF ns ks ss j = (hasF ns.length ss[j].t && holdsF ns ks ss[j] (termAt ss j ss[j].a) (termAt ss j ss[j].b) && freshF ss j) := by
      simp only [prF, spAt_lt h', stepOkF, termAt_take hj]
    refine br_intro' (fun g => ?_) (fun g => ?_) <;> simp [g]
    · refine spec_l9Term_call (ss := ss) (m := j) (k := ss[j].a) (by omega) hj rfl ?_; simp
      refine spec_l9Term_call (ss := ss) (m := j) (k := ss[j].b) (by omega) hj rfl ?_; simp
      have hta := termAt_in hj hss ss[j].a
      have htb := termAt_in hj hss ss[j].b
      refine spec_l9Holds_k (ns := ns) (ks := ks) (s := ss[j]) (a := termAt ss j ss[j].a) (b := termAt ss j ss[j].b) hl hk hp g (hta.imp (fun z => by omega) (fun z => z.2)) (htb.imp (fun z => by omega) (fun z => z.2)) rfl (by simp) (by simp) ?_; simp
      refine ck_intro' (by kernel_rfl) ?_; simp
      refine br_intro' (fun f => ?_) (fun f => ?_) <;> simp [f]
      · refine WLoop_fam (fun k : Nat => [(1, aI ks), (2, aSs ss), (3, A.ptr 0 0 0), (7, i6 j), (8, A.ptr 1 0 0), (9, i6 k)]) (fun _ => [⟨0, false, 1, [A.sl ns.length (enc ns)], none⟩, ⟨0, false, 1, [i6 ss[j].r, i6 ss[j].t, i6 ss[j].a, i6 ss[j].b], none⟩]) (fun k => j - k)
          (fun k => k ≤ j ∧ ∀ x ∈ ss.take k, x.t ≠ ss[j].t) ?_ 0 ⟨Nat.zero_le _, by simp⟩
        intro k ⟨hkj, hfr⟩ ih2
        simp
        refine br_intro' (fun u => ?_) (fun u => ?_) <;> (have u0 := u) <;> simp at u <;> simp [u0, u]
        · have hkl : k < ss.length := by omega
          obtain ⟨q2, hr2⟩ := encS_at hkl
          have h42 : 2 ≤ ss.length * 4 - k * 4 := by omega
          have hw2 := wrap_succ (n := k) (by omega)
          simp [hkl, hr2]
          refine ck_intro' (by kernel_rfl) ?_; simp
          refine br_intro' (fun v => ?_) (fun v => ?_) <;> simp at v <;> simp [v]
          · exact LeV.ro rfl rfl (by
              have : freshF ss j = false := by
                simp only [freshF, spAt_lt h', decide_eq_false_iff_not]
                intro e
                exact e ss[k] (List.mem_take_iff_getElem.2 ⟨k, by omega, rfl⟩) v
              rw [hf, hfj, hprj]; simp [this])
          · rw [hw2]
            refine ih2 (k + 1) ⟨u, fun x hx => ?_⟩ (by omega)
            rw [List.take_succ_eq_append_getElem hkl] at hx
            rcases List.mem_append.1 hx with hx | hx
            · exact hfr x hx
            · simp at hx; subst hx; exact v
        · have hkj' : k = j := by omega
          subst hkj'
          rw [hw]
          have hfre : freshF ss k = true := by simp only [freshF, spAt_lt h', decide_eq_true_eq]; exact hfr
          refine WLoop_drop [⟨0, false, 1, [A.sl ns.length (enc ns)], none⟩] [_] rfl (by simp) (by simp) (by simp) ?_
          refine ih (k + 1) ⟨h', by rw [hf, hfj, hprj, g, f, hfre]; simp, fun i hi hil => ?_⟩ (by omega)
          rcases Nat.lt_or_ge i k with z | z
          · exact hss i z hil
          · have : i = k := by omega
            subst this; exact g
      · exact LeV.ro rfl rfl (by rw [hf, hfj, hprj]; simp [f])
    · first | (refine ck_intro' (by kernel_rfl) ?_; try simp) | skip
      exact LeV.ro rfl rfl (by rw [hf, hfj, hprj]; simp [g])
  · have e := allF_end (p := prF ns ks ss) h
    exact LeV.ro rfl rfl (by rw [hf, e]; rfl)
theorem spec_l9Proof_call {ns : List Nd} {ks : List Int} {ss : List Sp} (hl : ns.length < 9223372036854775807) (hk : ks.length < 9223372036854775807) (hls : ss.length < 9223372036854775807) {S : FuncId → Bool} {H : List Blk} {K : A → Dl → Prop} (hS : S 49 = false) (hK : K (.bool (proofF ns ks ss)) (.news [])) : @WCall' Go.Proofs.Try.prog S 49 [aP ns, aI ks, aSs ss] H ⟨K⟩ :=
  WCall_pure hS (spec_l9Proof_c ns ks ss hl hk hls) (by simp) (by simp) (by simp) hK
theorem spec_l9Proof_k {ns : List Nd} {ks : List Int} {ss : List Sp} (hl : ns.length < 9223372036854775807) (hk : ks.length < 9223372036854775807) (hls : ss.length < 9223372036854775807) {S : FuncId → Bool} {H : List Blk} {K : A → Dl → Prop} {zs : List A} (hS : S 49 = false) (hv : viewL (viewA 8 H) zs = some [aP ns, aI ks, aSs ss]) (ho : noOwns zs = true ∨ nosl (.bool (proofF ns ks ss)) = true) (hK : K (.bool (proofF ns ks ss)) (.news [])) : @WCall' Go.Proofs.Try.prog S 49 zs H ⟨K⟩ :=
  WCall_pure hS (spec_l9Proof_c ns ks ss hl hk hls) hv ho (by simp) hK
def mkT (xs : List Sp) : List (List Int × Int) := xs.map fun n => ([n.t], 1)
theorem mcnt_mkT (t : Int) : ∀ (xs : List Sp), mcnt (mkT xs) [t] = if ∃ x ∈ xs, x.t = t then 1 else 0
  | [] => by simp [mkT]
  | x :: xs => by
    by_cases h : t = x.t
    · subst h; simp [mkT, mcnt]
    · have := mcnt_mkT t xs
      simp only [mkT] at this
      have h' : ¬ x.t = t := fun e => h e.symm
      simp [mkT, mcnt, h, h', this]
theorem mcnt_c (ks : List Int) (v : Int) (l : List (List Int × Int)) : mcnt ((ks, v) :: l) ks = v := by simp [mcnt]
def proofI (ns : List Nd) (ks : List Int) (ss : List Sp) : Bool := inF ss.length 1 500 && allF (prF ns ks ss) ss.length 0
theorem impl_Pool_isProof_c (ns : List Nd) (ks : List Int) (ss : List Sp) (hl : ns.length < 9223372036854775807) (hk : ks.length < 9223372036854775807) (hls : ss.length < 9223372036854775807) (hp : poolF ns = true) : T 51 [.pt [.sl ns.length (enc ns)], aI ks, aSs ss] [] (.bool (proofI ns ks ss)) ([]) := by
  refine semT' (S := S0) hm impl_Pool_isProof_ok (Nat.le_of_ble_eq_true rfl) ?_
  unfold impl_Pool_isProof; dsimp only
  simp
  refine impl_inRange_call rfl ?_; simp
  refine br_intro' (fun h5 => ?_) (fun h5 => ?_) <;> simp [h5]
  rotate_left
  · exact LeV.ro rfl rfl (by simp [proofI, h5])
  have h50 := h5
  simp [inF] at h50
  have h500 : ss.length ≤ 500 := by omega
  have hP : proofI ns ks ss = allF (prF ns ks ss) ss.length 0 := by simp [proofI, h5]
  refine WLoop_fam (fun j : Nat => [(0, A.pt [.sl ns.length (enc ns)]), (1, aI ks), (2, aSs ss), (7, A.mref 0 0), (15, aSs ss), (16, i6 ss.length), (17, i6 j)]) (fun j => [⟨0, false, 1, [], some (false, mkT (ss.take j).reverse)⟩]) (fun j => ss.length - j)
    (fun j => j ≤ ss.length ∧ allF (prF ns ks ss) ss.length 0 = allF (prF ns ks ss) ss.length j ∧ ∀ i : Nat, i < j → (h : i < ss.length) → hasF ns.length ss[i].t = true) ?_ 0 ⟨Nat.zero_le _, rfl, fun i h => by omega⟩
  intro j ⟨hj, hf, hss⟩ ih
  simp
  refine br_intro' (fun h => ?_) (fun h => ?_) <;> (have h0 := h) <;> (try simp at h) <;> try simp [h0, h]
  · have h' := h
    obtain ⟨q, hr⟩ := encS_at h
    have h4 : 4 ≤ ss.length * 4 - j * 4 := by omega
    have hw := wrap_succ (n := j) (by omega)
    have w1 : IntKind.i64.wrap 1 = 1 := wrap64 (by omega) (by omega)
    have w2 : IntKind.i64.wrap 2 = 2 := wrap64 (by omega) (by omega)
    simp [h4, hr, h', mcnt_c]
    have hfj : allF (prF ns ks ss) ss.length j = (prF ns ks ss j && allF (prF ns ks ss) ss.length (j + 1)) := allF_at h'
    have hprj : prF ns ks ss j = (stepOkF ns ks (ss.take j) ss[j] && freshF ss j) := by
      simp only [prF, spAt_lt h']
    by_cases hm : ∃ x ∈ (ss.take j).reverse, x.t = ss[j].t
    · have hc : mcnt (mkT (ss.take j).reverse) [ss[j].t] = 1 := by rw [mcnt_mkT, if_pos hm]
      have hfre : freshF ss j = false := by
        simp only [freshF, spAt_lt h', decide_eq_false_iff_not]
        intro e
        obtain ⟨x, hx, hx2⟩ := hm
        exact e x (by simpa using hx) hx2
      simp [hc, w2, mcnt_c]
      refine ck_intro' (by kernel_rfl) ?_; simp
      exact LeV.ro rfl rfl (by rw [hP, hf, hfj, hprj, hfre]; simp)
    · have hc : mcnt (mkT (ss.take j).reverse) [ss[j].t] = 0 := by rw [mcnt_mkT, if_neg hm]
      have hfre : freshF ss j = true := by
        simp only [freshF, spAt_lt h', decide_eq_true_eq]
        intro x hx e
        exact hm ⟨x, by simpa using hx, e⟩
      simp [hc, w1, mcnt_c]
      refine ck_intro' hj ?_; simp
      refine WCall_pure rfl (impl_Pool_holds_c ns [] ks (ss.take j) ss[j] hl hk (by simp; omega) hp (fun i hi => by simp at hi; simp; exact hss i (by omega) (by omega)) (by simp) (by simp)) (by simp [encS_takes, Nat.min_eq_left hj]) (by simp) (by simp) ?_; simp
      refine ck_intro' (by kernel_rfl) ?_; simp
      refine br_intro' (fun g => ?_) (fun g => ?_) <;> simp [g]
      · rw [hw]
        have hk2 : ([ss[j].t], (1 : Int)) :: mkT (ss.take j).reverse = mkT (ss.take (j + 1)).reverse := by
          rw [List.take_succ_eq_append_getElem h', List.reverse_append]; rfl
        refine WLoop_drop [⟨0, false, 1, [], some (false, mkT (ss.take (j + 1)).reverse)⟩] [_] (by rw [← hk2]; rfl) (by simp) (by simp) (by simp) ?_
        refine ih (j + 1) ⟨h', by rw [hf, hfj, hprj, g, hfre]; simp, fun i hi hil => ?_⟩ (by omega)
        rcases Nat.lt_or_ge i j with z | z
        · exact hss i z hil
        · have : i = j := by omega
          subst this
          simp only [stepOkF, Bool.and_eq_true] at g
          exact g.1
      · exact LeV.ro rfl rfl (by rw [hP, hf, hfj, hprj, g]; simp)
  · have e := allF_end (p := prF ns ks ss) h
    exact LeV.ro rfl rfl (by rw [hP, hf, e]; rfl)
/-- What ProofCheck answers. -/
def checkF (ns : List Nd) (ks : List Int) (ss : List Sp) (t : Int) : Bool := decide (ss ≠ []) && proofF ns ks ss && decide ((spAt ss (ss.length - 1)).t = t)
theorem spec_ProofCheck_c (ns : List Nd) (ks : List Int) (ss : List Sp) (t : Int) (hl : ns.length < 9223372036854775807) (hk : ks.length < 9223372036854775807) (hls : ss.length < 9223372036854775807) : T 20 [aP ns, aI ks, aSs ss, i6 t] [] (.bool (checkF ns ks ss t)) ([]) := by
  refine semT' (S := S0) hm spec_ProofCheck_ok (Nat.le_of_ble_eq_true rfl) ?_
  unfold spec_ProofCheck; dsimp only
  simp
  refine br_intro' (fun h => ?_) (fun h => ?_) <;> (have h0 := h) <;> simp at h <;> simp [h0, h]
  · have hw := wrap_len (n := ss.length) (by omega)
    obtain ⟨m, hm⟩ : ∃ m : Nat, (ss.length : Int) - 1 = m := ⟨ss.length - 1, by omega⟩
    have hml : m < ss.length := by omega
    obtain ⟨q, hr⟩ := encS_at hml
    have h42 : 2 ≤ ss.length * 4 - m * 4 := by omega
    have hm2 : ss.length - 1 = m := by omega
    have hne : ss ≠ [] := by intro e; rw [e] at hml; exact absurd hml (Nat.not_lt_zero _)
    have hge : (1 : Int) ≤ ss.length := by omega
    have hc5 : (ss.length : Int) ≤ 500 ↔ ss.length ≤ 500 := by omega
    refine spec_l9Proof_k (ns := ns) (ks := ks) (ss := ss) hl hk hls rfl (by simp) (by simp) ?_; simp
    refine br_intro' (fun g => ?_) (fun g => ?_) <;> simp [g]
    · rw [hw, hm]
      simp [hml, hr]
      exact LeV.ro rfl rfl (by simp [checkF, g, hm2, hml, hne])
    · exact LeV.ro rfl rfl (by simp [checkF, g])
  · exact LeV.ro rfl rfl (by simp [checkF, h])
theorem spec_ProofCheck_call {ns : List Nd} {ks : List Int} {ss : List Sp} {t : Int} (hl : ns.length < 9223372036854775807) (hk : ks.length < 9223372036854775807) (hls : ss.length < 9223372036854775807) {S : FuncId → Bool} {H : List Blk} {K : A → Dl → Prop} (hS : S 20 = false) (hK : K (.bool (checkF ns ks ss t)) (.news [])) : @WCall' Go.Proofs.Try.prog S 20 [aP ns, aI ks, aSs ss, i6 t] H ⟨K⟩ :=
  WCall_pure hS (spec_ProofCheck_c ns ks ss t hl hk hls) (by simp) (by simp) (by simp) hK
theorem spec_ProofCheck_k {ns : List Nd} {ks : List Int} {ss : List Sp} {t : Int} (hl : ns.length < 9223372036854775807) (hk : ks.length < 9223372036854775807) (hls : ss.length < 9223372036854775807) {S : FuncId → Bool} {H : List Blk} {K : A → Dl → Prop} {zs : List A} (hS : S 20 = false) (hv : viewL (viewA 8 H) zs = some [aP ns, aI ks, aSs ss, i6 t]) (ho : noOwns zs = true ∨ nosl (.bool (checkF ns ks ss t)) = true) (hK : K (.bool (checkF ns ks ss t)) (.news [])) : @WCall' Go.Proofs.Try.prog S 20 zs H ⟨K⟩ :=
  WCall_pure hS (spec_ProofCheck_c ns ks ss t hl hk hls) hv ho (by simp) hK
theorem impl_ProofCheck_c (ns : List Nd) (ks : List Int) (ss : List Sp) (t : Int) (hl : ns.length < 9223372036854775807) (hk : ks.length < 9223372036854775807) (hls : ss.length < 9223372036854775807) : T 22 [aP ns, aI ks, aSs ss, i6 t] [] (.bool (checkF ns ks ss t)) ([]) := by
  refine semT' (S := S0) hm impl_ProofCheck_ok (Nat.le_of_ble_eq_true rfl) ?_
  unfold impl_ProofCheck; dsimp only
  simp
  refine br_intro' (fun h => ?_) (fun h => ?_) <;> (have h0 := h) <;> simp at h <;> simp [h0, h]
  · have hw := wrap_len (n := ss.length) (by omega)
    obtain ⟨m, hm⟩ : ∃ m : Nat, (ss.length : Int) - 1 = m := ⟨ss.length - 1, by omega⟩
    have hml : m < ss.length := by omega
    obtain ⟨q, hr⟩ := encS_at hml
    have h42 : 2 ≤ ss.length * 4 - m * 4 := by omega
    have hm2 : ss.length - 1 = m := by omega
    have hne : ss ≠ [] := by intro e; rw [e] at hml; exact absurd hml (Nat.not_lt_zero _)
    have hge : (1 : Int) ≤ ss.length := by omega
    have hc5 : (ss.length : Int) ≤ 500 ↔ ss.length ≤ 500 := by omega
    rw [hw, hm]
    simp [hml, hr]
    refine br_intro' (fun g => ?_) (fun g => ?_) <;> (have g0 := g) <;> simp at g <;> simp [g0, g]
    · refine impl_KnowOk_k (ns := ns) (ks := ks) hl hk rfl (by simp) (by simp) ?_; simp
      refine br_intro' (fun f => ?_) (fun f => ?_) <;> simp [f]
      · refine WCall_pure rfl (impl_Pool_isProof_c ns ks ss hl hk hls (kpF_pool f)) (by simp) (by simp) (by simp) ?_; simp
        exact LeV.ro rfl rfl (by simp [checkF, proofF, proofI, f, hm2, hml, hne, g, inF, hge, hc5])
      · exact LeV.ro rfl rfl (by simp [checkF, proofF, f])
    · exact LeV.ro rfl rfl (by simp [checkF, hm2, hml, g])
  · exact LeV.ro rfl rfl (by simp [checkF, h])
theorem impl_ProofCheck_call {ns : List Nd} {ks : List Int} {ss : List Sp} {t : Int} (hl : ns.length < 9223372036854775807) (hk : ks.length < 9223372036854775807) (hls : ss.length < 9223372036854775807) {S : FuncId → Bool} {H : List Blk} {K : A → Dl → Prop} (hS : S 22 = false) (hK : K (.bool (checkF ns ks ss t)) (.news [])) : @WCall' Go.Proofs.Try.prog S 22 [aP ns, aI ks, aSs ss, i6 t] H ⟨K⟩ :=
  WCall_pure hS (impl_ProofCheck_c ns ks ss t hl hk hls) (by simp) (by simp) (by simp) hK
theorem impl_ProofCheck_k {ns : List Nd} {ks : List Int} {ss : List Sp} {t : Int} (hl : ns.length < 9223372036854775807) (hk : ks.length < 9223372036854775807) (hls : ss.length < 9223372036854775807) {S : FuncId → Bool} {H : List Blk} {K : A → Dl → Prop} {zs : List A} (hS : S 22 = false) (hv : viewL (viewA 8 H) zs = some [aP ns, aI ks, aSs ss, i6 t]) (ho : noOwns zs = true ∨ nosl (.bool (checkF ns ks ss t)) = true) (hK : K (.bool (checkF ns ks ss t)) (.news [])) : @WCall' Go.Proofs.Try.prog S 22 zs H ⟨K⟩ :=
  WCall_pure hS (impl_ProofCheck_c ns ks ss t hl hk hls) hv ho (by simp) hK
end Go.Proofs.Ytcfgiffgahdlbaa.C

set_option linter.unusedVariables false
set_option linter.unusedSimpArgs false
set_option maxRecDepth 4000
namespace Go.Proofs.Ytcfgiffgahdlbaa.C
open Go.Sym Go.Proofs.Ytcfgiffgahdlbaa.I
def bls (kb : List Bool) : List A := kb.map A.bool
@[simp] theorem bls_len (xs : List Bool) : (bls xs).length = xs.length := List.length_map ..
@[simp] theorem bls_scals (xs : List Bool) : scals (bls xs) = true := scals_map _ (fun _ => rfl) xs
@[simp] theorem bls_view (n : Nat) (H : List Blk) (xs : List Bool) : viewL (viewA (n + 1) H) (bls xs) = some (bls xs) := viewL_scals _ (bls_scals xs)
@[simp] theorem bls_noOwns (xs : List Bool) : noOwns (bls xs) = true := noOwns_scals _ (bls_scals xs)
@[simp] theorem bls_nosls (xs : List Bool) : nosls (bls xs) = true := nosls_scals _ (bls_scals xs)
@[simp] theorem bls_shift (n : Nat) (xs : List Bool) : shiftAs n (bls xs) = bls xs := shiftAs_scals _ (bls_scals xs)
@[simp] theorem bls_inAs (m : Nat) (xs : List Bool) : inAs m (bls xs) = true := inAs_scals _ (bls_scals xs)
@[simp] theorem bls_tells (H H' : List Blk) (g : List (Option Nat)) (xs : List Bool) : Tells H H' g (bls xs) (bls xs) := Tells_scals _ (bls_scals xs)
@[simp] theorem bls_one (xs : List Bool) : (bls xs).all A.one = true := one_scals _ (bls_scals xs)
@[simp] theorem bls_get (xs : List Bool) (j : Nat) (h : j < (bls xs).length) : (bls xs)[j] = .bool (xs[j]'(by simpa using h)) := by simp [bls]
theorem bls_set (xs : List Bool) (j : Nat) (b : Bool) : (bls xs).set j (.bool b) = bls (xs.set j b) := by simp [bls, List.map_set]
theorem bls_rep (n : Nat) : bls (List.replicate n false) = List.replicate n (.bool false) := by simp [bls]
theorem ints_set' (xs : List Int) (j : Nat) (n : Int) : (ints xs).set j (i6 n) = ints (xs.set j n) := by simp [ints, List.map_set]
theorem ints_rep' (n : Nat) : ints (List.replicate n 0) = List.replicate n (i6 0) := by simp [ints]
abbrev tblk (ss : List Sp) : Blk := ⟨ss.length, decide (ss.length = 0), 4, encS ss, none⟩
abbrev tref' (b : Nat) (ss : List Sp) : A := .ref b ss.length 0 ss.length
/-- What a step asks of those ahead of it. -/
def wellF (ns : List Nd) (ss : List Sp) (i : Nat) : Bool :=
  hasF ns.length (spAt ss i).t && decide (0 ≤ needsF ns (spAt ss i)) && (decide (needsF ns (spAt ss i) < 1) || inF (spAt ss i).a 0 ((i : Int) - 1)) && (decide (needsF ns (spAt ss i) < 2) || inF (spAt ss i).b 0 ((i : Int) - 1))
def keepStep (ns : List Nd) (ss : List Sp) (kb : List Bool) (i : Nat) : List Bool :=
  if kb.getD i false = true then
    if 0 < needsF ns (spAt ss i) then
      if 1 < needsF ns (spAt ss i) then (kb.set (spAt ss i).a.toNat true).set (spAt ss i).b.toNat true else kb.set (spAt ss i).a.toNat true
    else kb
  else kb
def keepGo (ns : List Nd) (ss : List Sp) : Nat → List Bool → List Bool
  | 0, kb => kb
  | n + 1, kb => keepGo ns ss n (keepStep ns ss kb n)
def keepV (ns : List Nd) (ss : List Sp) : List Bool := keepGo ns ss ss.length ((List.replicate ss.length false).set (ss.length - 1) true)
theorem keepStep_len (ns : List Nd) (ss : List Sp) (kb : List Bool) (i : Nat) : (keepStep ns ss kb i).length = kb.length := by
  unfold keepStep
  split
  · split
    · split <;> simp
    · rfl
  · rfl
/-- A step, its places told anew. -/
def moveF (ns : List Nd) (now : List Int) (s : Sp) : Sp := ⟨s.r, s.t, if 0 < needsF ns s then now.getD s.a.toNat 0 else s.a, if 1 < needsF ns s then now.getD s.b.toNat 0 else s.b⟩
def trimGo (ns : List Nd) (ss : List Sp) (kb : List Bool) : Nat → Nat → List Int → List Sp → List Sp
  | 0, _, _, out => out
  | n + 1, j, now, out => if kb.getD j false = true then trimGo ns ss kb n (j + 1) (now.set j out.length) (out ++ [moveF ns now (spAt ss j)]) else trimGo ns ss kb n (j + 1) now out
def trimV (ns : List Nd) (ss : List Sp) : List Sp := trimGo ns ss (keepV ns ss) ss.length 0 (List.replicate ss.length 0) []
/-- What ProofTrim answers. -/
def trimF (ns : List Nd) (ss : List Sp) : List Sp := if ss ≠ [] ∧ ss.length ≤ 500 ∧ poolF ns = true ∧ allF (wellF ns ss) ss.length 0 = true then trimV ns ss else []
theorem allF_all {p : Nat → Bool} {n : Nat} (h : allF p n 0 = true) {i : Nat} (hi : i < n) : p i = true := by
  simp only [allF, List.all_eq_true] at h
  exact h i (by simp [List.mem_range']; omega)
theorem well_at {ns : List Nd} {ss : List Sp} {i : Nat} (h : wellF ns ss i = true) (hi : i < ss.length) : hasF ns.length ss[i].t = true ∧ (needsF ns ss[i] = 0 ∨ (needsF ns ss[i] = 1 ∧ ∃ a : Nat, ss[i].a = a ∧ a < i) ∨ (needsF ns ss[i] = 2 ∧ (∃ a : Nat, ss[i].a = a ∧ a < i) ∧ ∃ b : Nat, ss[i].b = b ∧ b < i) ∨ 2 < needsF ns ss[i]) := by
  simp only [wellF, spAt_lt hi, Bool.and_eq_true, Bool.or_eq_true, decide_eq_true_eq] at h
  obtain ⟨⟨⟨h1, h2⟩, h3⟩, h4⟩ := h
  refine ⟨h1, ?_⟩
  rcases Int.lt_or_le (needsF ns ss[i]) 1 with g | g
  · left; omega
  · right
    have ha := h3.resolve_left (by omega)
    simp [inF] at ha
    have e1 : ∃ a : Nat, ss[i].a = a ∧ a < i := ⟨ss[i].a.toNat, by omega, by omega⟩
    rcases Int.lt_or_le (needsF ns ss[i]) 2 with f | f
    · left; exact ⟨by omega, e1⟩
    · right
      rcases Int.lt_or_le 2 (needsF ns ss[i]) with u | u
      · right; exact u
      · left
        have hb := h4.resolve_left (by omega)
        simp [inF] at hb
        exact ⟨by omega, e1, ss[i].b.toNat, by omega, by omega⟩
theorem impl_Pool_trimmed_c (ns : List Nd) (ss : List Sp) (hl : ns.length < 9223372036854775807) (hp : poolF ns = true) (hne : ss ≠ []) (h5 : ss.length ≤ 500) (hwl : ∀ i : Nat, i < ss.length → wellF ns ss i = true) : T 45 [.pt [.sl ns.length (enc ns)], aSs ss] [] (tref' 0 (trimV ns ss)) ([tblk (trimV ns ss)]) := by
  refine semT' (S := S0) hm impl_Pool_trimmed_ok (Nat.le_of_ble_eq_true rfl) ?_
  unfold impl_Pool_trimmed; dsimp only
  have h0 : 0 < ss.length := List.length_pos_iff.2 hne
  have hw := wrap_len (n := ss.length) (by omega)
  obtain ⟨m, hm⟩ : ∃ m : Nat, (ss.length : Int) - 1 = m := ⟨ss.length - 1, by omega⟩
  have hml : m < ss.length := by omega
  have hm2 : ss.length - 1 = m := by omega
  have hB : ((ss.length : Int)) * 8 ≤ 17592186044416 := by omega
  have h2 : (ss.length : Int) ≤ 4294967296 := by omega
  simp [hw]
  refine ck_intro' (by omega) ?_; simp [hw]
  refine ck_intro' (by omega) ?_; simp [hw]
  refine ck_intro' (by omega) ?_; simp [hw]
  rw [← bls_rep, bls_set]
  have hkv : keepV ns ss = keepGo ns ss ss.length ((List.replicate ss.length false).set (ss.length - 1) true) := rfl
  refine WLoop_fam (fun p : Nat × List Bool => [(0, A.pt [.sl ns.length (enc ns)]), (1, aSs ss), (5, A.ref 0 0 0 ss.length), (6, i6 ((p.1 : Int) - 1))]) (fun p => [⟨0, false, 1, bls p.2, none⟩]) (fun p => p.1)
    (fun p => p.1 ≤ ss.length ∧ p.2.length = ss.length ∧ keepV ns ss = keepGo ns ss p.1 p.2) ?_ (ss.length, (List.replicate ss.length false).set (ss.length - 1) true) ⟨Nat.le_refl _, by simp, hkv⟩
  rintro ⟨k, kb⟩ ⟨hk, hkl, hkg⟩ ih
  simp only at hk hkl hkg
  simp
  refine br_intro' (fun h => ?_) (fun h => ?_) <;> (have hc0 := h) <;> simp at h <;> simp [hc0, h]
  · obtain ⟨i, rfl⟩ : ∃ i, k = i + 1 := ⟨k - 1, by omega⟩
    have e1 : ((i + 1 : Nat) : Int) - 1 = i := by omega
    have hil : i < ss.length := by omega
    have hik : i < kb.length := by omega
    have hw2 : IntKind.i64.wrap ((i : Int) - 1) = i - 1 := wrap64 (by omega) (by omega)
    obtain ⟨q, hr⟩ := encS_at hil
    have h4 : 4 ≤ ss.length * 4 - i * 4 := by omega
    have hst : keepGo ns ss (i + 1) kb = keepGo ns ss i (keepStep ns ss kb i) := rfl
    have hks : keepStep ns ss kb i = if kb[i] = true then
      if 0 < needsF ns ss[i] then
        if 1 < needsF ns ss[i] then (kb.set ss[i].a.toNat true).set ss[i].b.toNat true else kb.set ss[i].a.toNat true
      else kb
      else kb := by simp only [keepStep, spAt_lt hil]; simp [hik]
    obtain ⟨ht, hn⟩ := well_at (hwl i hil) hil
    simp [e1, hil, hik, hkl]
    refine br_intro' (fun g => ?_) (fun g => ?_) <;> simp [g]
    · refine ck_intro' hil ?_; simp [h4, hr]
      refine WCall_pure rfl (impl_Pool_needs_c ns [] ss[i] hl hp ht (by simp) (by simp)) (by simp) (by simp) (by simp) ?_; simp
      rcases hn with hn | ⟨hn, a, ea, hla⟩ | ⟨hn, ⟨a, ea, hla⟩, b, eb, hlb⟩ | hn
      · simp [hn, hw2]
        exact ih (i, kb) ⟨by omega, hkl, by rw [hkg, hst, hks]; simp [g, hn]⟩ (by simp)
      · have hal : a < kb.length := by omega
        simp [hn, ea, h4, hr, hil, hw2]
        repeat (refine ck_intro' (by first | omega | (simp; omega) | kernel_rfl) ?_; try simp [hn, ea, h4, hr, hil, hw2, bls_set])
        exact ih (i, kb.set a true) ⟨by omega, by simp [hkl], by rw [hkg, hst, hks]; simp [g, hn, ea]⟩ (by simp)
      · have hal : a < kb.length := by omega
        have hbl : b < kb.length := by omega
        simp [hn, ea, eb, h4, hr, hil, hw2]
        repeat (refine ck_intro' (by first | omega | (simp; omega) | kernel_rfl) ?_; try simp [hn, ea, eb, h4, hr, hil, hw2, bls_set])
        exact ih (i, (kb.set a true).set b true) ⟨by omega, by simp [hkl], by rw [hkg, hst, hks]; simp [g, hn, ea, eb]⟩ (by simp)
      · rcases needsF_in hp ht with z | z | z | z <;> omega
    · simp [hw2]
      exact ih (i, kb) ⟨by omega, hkl, by rw [hkg, hst, hks]; simp [g]⟩ (by simp)
  · have hk0 : k = 0 := by omega
    subst hk0
    have hkv2 : keepV ns ss = kb := hkg
    refine ck_intro' (by omega) ?_; simp
    rw [← ints_rep']
    refine WLoop_virt 4 [(0, A.pt [.sl ns.length (enc ns)]), (5, A.ref 0 0 0 ss.length), (8, A.ref 2 0 0 0), (9, A.ref 1 0 0 ss.length), (60, aSs ss), (61, i6 ss.length), (62, i6 0)] ?_ ?_
    · intro t y hy
      simp [Sym.get] at hy ⊢
      (repeat' split at hy) <;> simp_all
    refine WLoop_fam (fun p : Nat × List Int × List Sp => [(0, A.pt [.sl ns.length (enc ns)]), (5, A.ref 0 0 0 ss.length), (8, tref' 2 p.2.2), (9, A.ref 1 0 0 ss.length), (60, aSs ss), (61, i6 ss.length), (62, i6 p.1)]) (fun p => [⟨0, false, 1, bls kb, none⟩, ⟨0, false, 1, ints p.2.1, none⟩, tblk p.2.2]) (fun p => ss.length - p.1)
      (fun p => p.1 ≤ ss.length ∧ p.2.1.length = ss.length ∧ p.2.2.length ≤ p.1 ∧ trimV ns ss = trimGo ns ss kb (ss.length - p.1) p.1 p.2.1 p.2.2) ?_ (0, List.replicate ss.length 0, []) ⟨Nat.zero_le _, by simp, by simp, by simp [trimV, hkv2]⟩
    rintro ⟨j, now, out⟩ ⟨hj, hnl, hol, htg⟩ ih2
    simp only at hj hnl hol htg
    simp
    refine br_intro' (fun u => ?_) (fun u => ?_) <;> (have u0 := u) <;> simp at u <;> simp [u0, u]
    · obtain ⟨q, hr⟩ := encS_at u
      have h4 : 4 ≤ ss.length * 4 - j * 4 := by omega
      have hjk : j < kb.length := by omega
      have hw3 := wrap_succ (n := j) (by omega)
      obtain ⟨ht, hn⟩ := well_at (hwl j u) u
      have hst : trimGo ns ss kb (ss.length - j) j now out = if kb[j] = true then trimGo ns ss kb (ss.length - (j + 1)) (j + 1) (now.set j out.length) (out ++ [moveF ns now ss[j]]) else trimGo ns ss kb (ss.length - (j + 1)) (j + 1) now out := by
        rw [show ss.length - j = (ss.length - (j + 1)) + 1 by omega, trimGo, spAt_lt u]
        simp [hjk]
      simp [h4, hr, hjk, u]
      refine br_intro' (fun g => ?_) (fun g => ?_) <;> simp [g]
      · refine WCall_pure rfl (impl_Pool_needs_c ns [] ss[j] hl hp ht (by simp) (by simp)) (by simp) (by simp) (by simp) ?_; simp
        have hlo : out.length < 500 := by omega
        rcases hn with hn | ⟨hn, a, ea, hla⟩ | ⟨hn, ⟨a, ea, hla⟩, b, eb, hlb⟩ | hn
        · have hmv : moveF ns now ss[j] = ss[j] := by simp [moveF, hn]
          simp [hn, hnl, u, ints_set']
          repeat (refine ck_intro' (by first | omega | (simp; omega) | kernel_rfl) ?_; try simp [hn, hnl, u, ints_set', hw3])
          refine WLoop_drop [⟨0, false, 1, bls kb, none⟩, ⟨0, false, 1, ints (now.set j out.length), none⟩, tblk (out ++ [ss[j]])] [_, _] (by simp [encS_snoc]; exact ⟨rfl, rfl⟩) (by simp) (by simp) (by simp) ?_
          rw [show A.ref 2 (out.length + 1) 0 (out.length + 1) = tref' 2 (out ++ [ss[j]]) by simp]
          exact ih2 (j + 1, now.set j out.length, out ++ [ss[j]]) ⟨u, by simp [hnl], by simp; omega, by rw [htg, hst]; simp [g, hmv]⟩ (by simp; omega)
        · have hal : a < now.length := by omega
          have hmv : moveF ns now ss[j] = ⟨ss[j].r, ss[j].t, now[a], ss[j].b⟩ := by simp [moveF, hn, ea, hal]
          simp [hn, ea, hal, ints_at hal, hnl, u, ints_set']
          repeat (refine ck_intro' (by first | omega | (simp; omega) | kernel_rfl) ?_; try simp [hn, ea, hal, ints_at hal, hnl, u, ints_set', hw3])
          refine WLoop_drop [⟨0, false, 1, bls kb, none⟩, ⟨0, false, 1, ints (now.set j out.length), none⟩, tblk (out ++ [⟨ss[j].r, ss[j].t, now[a], ss[j].b⟩])] [_, _] (by simp [encS_snoc]; exact ⟨rfl, rfl⟩) (by simp) (by simp) (by simp) ?_
          rw [show A.ref 2 (out.length + 1) 0 (out.length + 1) = tref' 2 (out ++ [⟨ss[j].r, ss[j].t, now[a], ss[j].b⟩]) by simp]
          exact ih2 (j + 1, now.set j out.length, out ++ [⟨ss[j].r, ss[j].t, now[a], ss[j].b⟩]) ⟨u, by simp [hnl], by simp; omega, by rw [htg, hst]; simp [g, hmv]⟩ (by simp; omega)
        · have hal : a < now.length := by omega
          have hbl : b < now.length := by omega
          have hmv : moveF ns now ss[j] = ⟨ss[j].r, ss[j].t, now[a], now[b]⟩ := by simp [moveF, hn, ea, eb, hal, hbl]
          simp [hn, ea, eb, hal, hbl, ints_at hal, ints_at hbl, hnl, u, ints_set']
          repeat (refine ck_intro' (by first | omega | (simp; omega) | kernel_rfl) ?_; try simp [hn, ea, eb, hal, hbl, ints_at hal, ints_at hbl, hnl, u, ints_set', hw3])
          refine WLoop_drop [⟨0, false, 1, bls kb, none⟩, ⟨0, false, 1, ints (now.set j out.length), none⟩, tblk (out ++ [⟨ss[j].r, ss[j].t, now[a], now[b]⟩])] [_, _] (by simp [encS_snoc]; exact ⟨rfl, rfl⟩) (by simp) (by simp) (by simp) ?_
          rw [show A.ref 2 (out.length + 1) 0 (out.length + 1) = tref' 2 (out ++ [⟨ss[j].r, ss[j].t, now[a], now[b]⟩]) by simp]
          exact ih2 (j + 1, now.set j out.length, out ++ [⟨ss[j].r, ss[j].t, now[a], now[b]⟩]) ⟨u, by simp [hnl], by simp; omega, by rw [htg, hst]; simp [g, hmv]⟩ (by simp; omega)
        · rcases needsF_in hp ht with z | z | z | z <;> omega
      · rw [hw3]
        refine WLoop_drop [⟨0, false, 1, bls kb, none⟩, ⟨0, false, 1, ints now, none⟩, tblk out] [_] rfl (by simp) (by simp) (by simp) ?_
        exact ih2 (j + 1, now, out) ⟨u, hnl, by simp; omega, by rw [htg, hst]; simp [g]⟩ (by simp; omega)
    · have hjn : j = ss.length := by omega
      have e : trimV ns ss = out := by rw [htg, hjn, Nat.sub_self]; rfl
      rw [e]
      first | (refine LeV.tell [none] ?_ ?_ ?_ <;> (simp; done)) | (refine LeV.tell [some 0] ?_ ?_ ?_ <;> (simp; done)) | (refine LeV.tell [some 1] ?_ ?_ ?_ <;> (simp; done)) | (refine LeV.tell [some 2] ?_ ?_ ?_ <;> (simp; done)) | (refine LeV.tell [some 3] ?_ ?_ ?_ <;> (simp; done)) | (refine LeV.tell [some 4] ?_ ?_ ?_ <;> (simp; done)) | (refine LeV.tell [some 5] ?_ ?_ ?_ <;> (simp; done)) | (refine LeV.tell [some 6] ?_ ?_ ?_ <;> (simp; done)) | (refine LeV.tell [some 7] ?_ ?_ ?_ <;> (simp; done)) | (refine LeV.tell [some 8] ?_ ?_ ?_ <;> (simp; done)) | (refine LeV.tell [some 9] ?_ ?_ ?_ <;> (simp; done)) | (refine LeV.tell [some 10] ?_ ?_ ?_ <;> (simp; done)) | (refine LeV.tell [some 11] ?_ ?_ ?_ <;> (simp; done)) | (refine LeV.tell [some 12] ?_ ?_ ?_ <;> (simp; done)) | (refine LeV.tell [some 13] ?_ ?_ ?_ <;> (simp; done)) | (refine LeV.tell [some 14] ?_ ?_ ?_ <;> (simp; done)) | (refine LeV.tell [some 15] ?_ ?_ ?_ <;> (simp; done))
theorem impl_Pool_trimmed_k {ns : List Nd} {ss : List Sp} (hl : ns.length < 9223372036854775807) (hp : poolF ns = true) (hne : ss ≠ []) (h5 : ss.length ≤ 500) (hwl : ∀ i : Nat, i < ss.length → wellF ns ss i = true) {S : FuncId → Bool} {H : List Blk} {K : A → Dl → Prop} {zs : List A} (hS : S 45 = false) (hv : viewL (viewA 8 H) zs = some [.pt [.sl ns.length (enc ns)], aSs ss]) (ho : noOwns zs = true ∨ nosl (tref' 0 (trimV ns ss)) = true ∧ noslBlks ([tblk (trimV ns ss)]) = true) (hK : K (shiftA H.length (tref' 0 (trimV ns ss))) (.news (([tblk (trimV ns ss)]).map (shiftB H.length)))) : @WCall' Go.Proofs.Try.prog S 45 zs H ⟨K⟩ :=
  WCall_ro' hS hv (impl_Pool_trimmed_c ns ss hl hp hne h5 hwl) rfl ho hK
end Go.Proofs.Ytcfgiffgahdlbaa.C
