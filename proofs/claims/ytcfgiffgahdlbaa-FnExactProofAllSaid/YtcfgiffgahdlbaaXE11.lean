/- The prover's own functions. Conditions: those that each theorem names. -/
import Derived.Test.YtcfgiffgahdlbaaXE10
set_option linter.unusedVariables false
set_option linter.unusedSimpArgs false
set_option maxRecDepth 4000
namespace Go.Proofs.Ytcfgiffgahdlbaa.C
open Go.Sym Go.Proofs.Ytcfgiffgahdlbaa.I
abbrev aV (ns : List Nd) (ks : List Int) (x : A) (st : List Int) : A := .pt [.pt [.sl ns.length (enc ns)], aI ks, x, aI st]
def hasSt (st : List Int) (t : Int) : Bool := decide (0 ≤ t) && decide (0 ≤ sv st t)
theorem impl_prover_has_c (ns : List Nd) (ks : List Int) (x : A) (st : List Int) (t : Int) (ht : t < 0 ∨ t < st.length) (hx : ∀ n H, viewA (n + 2) H x = some x) (ox : noOwn x = true) : T 109 [aV ns ks x st, i6 t] [] (.bool (hasSt st t)) ([]) := by
  refine semT' (S := S0) hm impl_prover_has_ok (Nat.le_of_ble_eq_true rfl) ?_
  unfold impl_prover_has; dsimp only
  simp
  refine br_intro' (fun g => ?_) (fun g => ?_) <;> (have g0 := g) <;> simp only [decide_eq_true_eq, decide_eq_false_iff_not] at g <;> simp [g0, g]
  · obtain ⟨j, rfl⟩ : ∃ j : Nat, t = j := ⟨t.toNat, by omega⟩
    have hj : j < st.length := by omega
    simp [hj]
    exact LeV.ro rfl rfl (by simp [hasSt, sv_nat hj])
  · exact LeV.ro rfl rfl (by simp [hasSt, g])
theorem impl_prover_has_k {ns : List Nd} {ks : List Int} {x : A} {st : List Int} {t : Int} (ht : t < 0 ∨ t < st.length) (hx : ∀ n H, viewA (n + 2) H x = some x) (ox : noOwn x = true) {S : FuncId → Bool} {H : List Blk} {K : A → Dl → Prop} {zs : List A} (hS : S 109 = false) (hv : viewL (viewA 8 H) zs = some [aV ns ks x st, i6 t]) (ho : noOwns zs = true ∨ nosl (.bool (hasSt st t)) = true) (hK : K (.bool (hasSt st t)) (.news [])) : @WCall' Go.Proofs.Try.prog S 109 zs H ⟨K⟩ :=
  WCall_pure hS (impl_prover_has_c ns ks x st t ht hx ox) hv ho (by simp) hK
theorem impl_prover_share_c (ns : List Nd) (ks : List Int) (x : A) (st : List Int) (t : Int) (hl : ns.length < 9223372036854775807) (hp : poolF ns = true) (hst : st.length = ns.length) (ht : hasF ns.length t = true) (hx : ∀ n H, viewA (n + 2) H x = some x) (ox : noOwn x = true) : T 95 [aV ns ks x st, i6 t] [] (.tup [aSt (optS (shareF ns st t)), .bool (shareF ns st t).isSome]) ([]) := by
  refine semT' (S := S0) hm impl_prover_share_ok (Nat.le_of_ble_eq_true rfl) ?_
  unfold impl_prover_share; dsimp only
  obtain ⟨j, rfl, hj⟩ := hasN ht
  obtain ⟨q, hq⟩ := enc_at hj
  have h3 : 3 ≤ ns.length * 3 - j * 3 := by omega
  have en := nodeAt_nat hj
  have w1 : IntKind.i64.wrap 1 = 1 := wrap64 (by omega) (by omega)
  have w2 : IntKind.i64.wrap 2 = 2 := wrap64 (by omega) (by omega)
  simp [h3, hq, hj]
  refine br_intro' (fun u => ?_) (fun u => ?_) <;> (have u0 := u) <;> (try simp at u) <;> try simp [u0, u]
  · obtain ⟨⟨a, ea, ha⟩, b, eb, hb⟩ := parts_in hp hj (by rw [u]; rfl)
    have hal : a < st.length := by omega
    have hbl : b < st.length := by omega
    have esa := sv_nat hal
    have esb := sv_nat hbl
    have hsh : shareF ns st j = if 0 ≤ sv st a ∧ 0 ≤ findF ns ⟨7, b, 0⟩ 0 ∧ 0 ≤ sv st (findF ns ⟨7, b, 0⟩ 0) then some ⟨4, j, sv st a, sv st (findF ns ⟨7, b, 0⟩ 0)⟩
      else if 0 ≤ sv st b ∧ 0 ≤ findF ns ⟨7, a, 0⟩ 0 ∧ 0 ≤ sv st (findF ns ⟨7, a, 0⟩ 0) then some ⟨4, j, sv st b, sv st (findF ns ⟨7, a, 0⟩ 0)⟩ else none := by
      unfold shareF
      rw [en, if_neg (by simp [u]), ea, eb]
    have hxr : ∀ n : Nd, findF ns n 0 < 0 ∨ findF ns n 0 < st.length := fun n => by
      rcases Int.lt_or_le (findF ns n 0) 0 with z | z
      · exact .inl z
      · obtain ⟨y, e, hy⟩ := findF_lt z
        right; omega
    have hsh2 : shareF ns st j = if hasSt st a = true ∧ hasSt st (findF ns ⟨7, b, 0⟩ 0) = true then some ⟨4, j, st[a], sv st (findF ns ⟨7, b, 0⟩ 0)⟩
      else if hasSt st b = true ∧ hasSt st (findF ns ⟨7, a, 0⟩ 0) = true then some ⟨4, j, st[b], sv st (findF ns ⟨7, a, 0⟩ 0)⟩ else none := by
      rw [hsh]
      have e1 : (0 : Int) ≤ a := by omega
      have e2 : (0 : Int) ≤ b := by omega
      simp [hasSt, esa, esb, e1, e2]
    rw [ea, eb]
    refine WLoop_step' ?_; simp
    refine impl_Pool_find_k (ns := ns) (r := []) (n := ⟨7, b, 0⟩) hl rfl (by simp) (by simp) ?_; simp
    first | (refine ck_intro' (by kernel_rfl) ?_; try simp) | skip
    refine impl_prover_has_k (ns := ns) (ks := ks) (x := x) (st := st) (t := a) (.inr (by omega)) hx ox rfl (by simp [hx]) (by simp [ox]) ?_; simp
    refine br_intro' (fun g1 => ?_) (fun g1 => ?_) <;> simp [g1]
    · refine impl_prover_has_k (ns := ns) (ks := ks) (x := x) (st := st) (t := findF ns ⟨7, b, 0⟩ 0) (hxr _) hx ox rfl (by simp [hx]) (by simp [ox]) ?_; simp
      refine br_intro' (fun f1 => ?_) (fun f1 => ?_) <;> simp [f1]
      · have f0 := f1
        simp only [hasSt, Bool.and_eq_true, decide_eq_true_eq] at f0
        obtain ⟨y, ey, hy⟩ := findF_lt f0.1
        have hy' : y < st.length := by omega
        rw [ey] at f1 ⊢
        simp [hal, hy']
        first | (refine ck_intro' (by kernel_rfl) ?_; try simp [hal, hy']) | skip
        exact LeV.ro rfl rfl (by rw [hsh2, ey, sv_nat hy']; simp [optS, g1, f1])
      · have h1 : ¬ (hasSt st a = true ∧ hasSt st (findF ns ⟨7, b, 0⟩ 0) = true) := by simp [f1]
        rw [w1]
        refine WLoop_step' ?_; simp
        refine impl_Pool_find_k (ns := ns) (r := []) (n := ⟨7, a, 0⟩) hl rfl (by simp) (by simp) ?_; simp
        first | (refine ck_intro' (by kernel_rfl) ?_; try simp) | skip
        refine impl_prover_has_k (ns := ns) (ks := ks) (x := x) (st := st) (t := b) (.inr (by omega)) hx ox rfl (by simp [hx]) (by simp [ox]) ?_; simp
        refine br_intro' (fun g2 => ?_) (fun g2 => ?_) <;> simp [g2]
        · refine impl_prover_has_k (ns := ns) (ks := ks) (x := x) (st := st) (t := findF ns ⟨7, a, 0⟩ 0) (hxr _) hx ox rfl (by simp [hx]) (by simp [ox]) ?_; simp
          refine br_intro' (fun f2 => ?_) (fun f2 => ?_) <;> simp [f2]
          · have f0 := f2
            simp only [hasSt, Bool.and_eq_true, decide_eq_true_eq] at f0
            obtain ⟨y, ey, hy⟩ := findF_lt f0.1
            have hy' : y < st.length := by omega
            rw [ey] at f2 ⊢
            simp [hbl, hy']
            first | (refine ck_intro' (by kernel_rfl) ?_; try simp [hbl, hy']) | skip
            exact LeV.ro rfl rfl (by rw [hsh2, if_neg h1, ey, sv_nat hy']; simp [optS, g2, f2])
          · have h2 : ¬ (hasSt st b = true ∧ hasSt st (findF ns ⟨7, a, 0⟩ 0) = true) := by simp [f2]
            rw [w2]
            refine WLoop_step' ?_; simp
            exact LeV.ro rfl rfl (by rw [hsh2, if_neg h1, if_neg h2]; rfl)
        · have h2 : ¬ (hasSt st b = true ∧ hasSt st (findF ns ⟨7, a, 0⟩ 0) = true) := by simp [g2]
          rw [w2]
          refine WLoop_step' ?_; simp
          exact LeV.ro rfl rfl (by rw [hsh2, if_neg h1, if_neg h2]; rfl)
    · have h1 : ¬ (hasSt st a = true ∧ hasSt st (findF ns ⟨7, b, 0⟩ 0) = true) := by simp [g1]
      rw [w1]
      refine WLoop_step' ?_; simp
      refine impl_Pool_find_k (ns := ns) (r := []) (n := ⟨7, a, 0⟩) hl rfl (by simp) (by simp) ?_; simp
      first | (refine ck_intro' (by kernel_rfl) ?_; try simp) | skip
      refine impl_prover_has_k (ns := ns) (ks := ks) (x := x) (st := st) (t := b) (.inr (by omega)) hx ox rfl (by simp [hx]) (by simp [ox]) ?_; simp
      refine br_intro' (fun g2 => ?_) (fun g2 => ?_) <;> simp [g2]
      · refine impl_prover_has_k (ns := ns) (ks := ks) (x := x) (st := st) (t := findF ns ⟨7, a, 0⟩ 0) (hxr _) hx ox rfl (by simp [hx]) (by simp [ox]) ?_; simp
        refine br_intro' (fun f2 => ?_) (fun f2 => ?_) <;> simp [f2]
        · have f0 := f2
          simp only [hasSt, Bool.and_eq_true, decide_eq_true_eq] at f0
          obtain ⟨y, ey, hy⟩ := findF_lt f0.1
          have hy' : y < st.length := by omega
          rw [ey] at f2 ⊢
          simp [hbl, hy']
          first | (refine ck_intro' (by kernel_rfl) ?_; try simp [hbl, hy']) | skip
          exact LeV.ro rfl rfl (by rw [hsh2, if_neg h1, ey, sv_nat hy']; simp [optS, g2, f2])
        · have h2 : ¬ (hasSt st b = true ∧ hasSt st (findF ns ⟨7, a, 0⟩ 0) = true) := by simp [f2]
          rw [w2]
          refine WLoop_step' ?_; simp
          exact LeV.ro rfl rfl (by rw [hsh2, if_neg h1, if_neg h2]; rfl)
      · have h2 : ¬ (hasSt st b = true ∧ hasSt st (findF ns ⟨7, a, 0⟩ 0) = true) := by simp [g2]
        rw [w2]
        refine WLoop_step' ?_; simp
        exact LeV.ro rfl rfl (by rw [hsh2, if_neg h1, if_neg h2]; rfl)
  · exact LeV.ro rfl rfl (by simp [shareF, en, u, optS])
theorem impl_prover_share_k {ns : List Nd} {ks : List Int} {x : A} {st : List Int} {t : Int} (hl : ns.length < 9223372036854775807) (hp : poolF ns = true) (hst : st.length = ns.length) (ht : hasF ns.length t = true) (hx : ∀ n H, viewA (n + 2) H x = some x) (ox : noOwn x = true) {S : FuncId → Bool} {H : List Blk} {K : A → Dl → Prop} {zs : List A} (hS : S 95 = false) (hv : viewL (viewA 8 H) zs = some [aV ns ks x st, i6 t]) (ho : noOwns zs = true ∨ nosl (.tup [aSt (optS (shareF ns st t)), .bool (shareF ns st t).isSome]) = true) (hK : K (.tup [aSt (optS (shareF ns st t)), .bool (shareF ns st t).isSome]) (.news [])) : @WCall' Go.Proofs.Try.prog S 95 zs H ⟨K⟩ :=
  WCall_pure hS (impl_prover_share_c ns ks x st t hl hp hst ht hx ox) hv ho (by simp) hK
def madeS (ns : List Nd) (st : List Int) (t : Int) : Sp := if partsF (nodeAt ns t).k = 0 then ⟨3, t, 0, 0⟩ else optS (madeF ns st t)
theorem impl_prover_made_c (ns : List Nd) (ks : List Int) (x : A) (st : List Int) (t : Int) (hl : ns.length < 9223372036854775807) (hp : poolF ns = true) (hst : st.length = ns.length) (ht : hasF ns.length t = true) (hx : ∀ n H, viewA (n + 2) H x = some x) (ox : noOwn x = true) : T 94 [aV ns ks x st, i6 t] [] (.tup [aSt (madeS ns st t), .bool (madeF ns st t).isSome]) ([]) := by
  refine semT' (S := S0) hm impl_prover_made_ok (Nat.le_of_ble_eq_true rfl) ?_
  unfold impl_prover_made; dsimp only
  have hht := ht
  obtain ⟨j, rfl, hj⟩ := hasN ht
  have en := nodeAt_nat hj
  have w1 : IntKind.i64.wrap 1 = 1 := wrap64 (by omega) (by omega)
  have w2 : IntKind.i64.wrap 2 = 2 := wrap64 (by omega) (by omega)
  simp
  refine impl_Pool_parts_k (ns := ns) (r := []) (t := j) hl hht rfl (by simp) (by simp [noslBlks]) ?_; simp [shiftB]
  first | (refine ck_intro' (by kernel_rfl) ?_; try simp) | skip
  rw [en]
  rcases parts_kind hp hj with hpk | hpk | hpk
  · rw [show partsL ns[j] = [] by simp [partsL, hpk]]
    simp
    refine WLoop_step' ?_; simp
    exact LeV.ro rfl rfl (by simp [madeS, madeF, en, hpk, optS])
  · obtain ⟨a, ea, ha⟩ := part_in hp hj hpk
    have hal : a < st.length := by omega
    have esa := sv_nat hal
    have ha0 : (0 : Int) ≤ a := by omega
    rw [show partsL ns[j] = [ns[j].a] by simp [partsL, hpk], ea]
    simp [ints]
    refine WLoop_step' ?_; simp [ints]
    refine impl_prover_has_k (ns := ns) (ks := ks) (x := x) (st := st) (t := a) (.inr (by omega)) hx ox rfl (by simp [hx]) (by simp [ox]) ?_; simp
    refine br_intro' (fun g => ?_) (fun g => ?_) <;> simp [g]
    · have g' := g
      simp [hasSt, esa, ha0] at g'
      simp [hal, w1]
      first | (refine ck_intro' (by kernel_rfl) ?_; try simp [hal, w1]) | skip
      refine WLoop_step' ?_; simp
      exact LeV.ro rfl rfl (by simp [madeS, madeF, en, hpk, ea, esa, g', optS])
    · have g' := g
      simp only [hasSt, esa, ha0, decide_true, Bool.true_and, decide_eq_false_iff_not] at g'
      exact LeV.ro rfl rfl (by simp [madeS, madeF, en, hpk, ea, esa, g', optS])
  · obtain ⟨⟨a, ea, ha⟩, b, eb, hb⟩ := parts_in hp hj hpk
    have hal : a < st.length := by omega
    have hbl : b < st.length := by omega
    have esa := sv_nat hal
    have esb := sv_nat hbl
    have ha0 : (0 : Int) ≤ a := by omega
    have hb0 : (0 : Int) ≤ b := by omega
    rw [show partsL ns[j] = [ns[j].a, ns[j].b] by simp [partsL, hpk], ea, eb]
    simp [ints]
    refine WLoop_step' ?_; simp [ints]
    refine impl_prover_has_k (ns := ns) (ks := ks) (x := x) (st := st) (t := a) (.inr (by omega)) hx ox rfl (by simp [hx]) (by simp [ox]) ?_; simp
    refine br_intro' (fun g => ?_) (fun g => ?_) <;> simp [g]
    · have g' := g
      simp [hasSt, esa, ha0] at g'
      simp [hal, w1]
      first | (refine ck_intro' (by kernel_rfl) ?_; try simp [hal, w1]) | skip
      refine WLoop_step' ?_; simp [ints]
      refine impl_prover_has_k (ns := ns) (ks := ks) (x := x) (st := st) (t := b) (.inr (by omega)) hx ox rfl (by simp [hx]) (by simp [ox]) ?_; simp
      refine br_intro' (fun f => ?_) (fun f => ?_) <;> simp [f]
      · have f' := f
        simp [hasSt, esb, hb0] at f'
        simp [hbl, w2]
        first | (refine ck_intro' (by kernel_rfl) ?_; try simp [hbl, w2]) | skip
        refine WLoop_step' ?_; simp
        exact LeV.ro rfl rfl (by simp [madeS, madeF, en, hpk, ea, eb, esa, esb, g', f', optS])
      · have f' := f
        simp only [hasSt, esb, hb0, decide_true, Bool.true_and, decide_eq_false_iff_not] at f'
        exact LeV.ro rfl rfl (by simp [madeS, madeF, en, hpk, ea, eb, esa, esb, g', f', optS])
    · have g' := g
      simp only [hasSt, esa, ha0, decide_true, Bool.true_and, decide_eq_false_iff_not] at g'
      exact LeV.ro rfl rfl (by simp [madeS, madeF, en, hpk, ea, eb, esa, g', optS])
theorem impl_prover_made_k {ns : List Nd} {ks : List Int} {x : A} {st : List Int} {t : Int} (hl : ns.length < 9223372036854775807) (hp : poolF ns = true) (hst : st.length = ns.length) (ht : hasF ns.length t = true) (hx : ∀ n H, viewA (n + 2) H x = some x) (ox : noOwn x = true) {S : FuncId → Bool} {H : List Blk} {K : A → Dl → Prop} {zs : List A} (hS : S 94 = false) (hv : viewL (viewA 8 H) zs = some [aV ns ks x st, i6 t]) (ho : noOwns zs = true ∨ nosl (.tup [aSt (madeS ns st t), .bool (madeF ns st t).isSome]) = true) (hK : K (.tup [aSt (madeS ns st t), .bool (madeF ns st t).isSome]) (.news [])) : @WCall' Go.Proofs.Try.prog S 94 zs H ⟨K⟩ :=
  WCall_pure hS (impl_prover_made_c ns ks x st t hl hp hst ht hx ox) hv ho (by simp) hK
/-- From the first term on it comes to the same: no part stands behind its whole. -/
theorem upGo_lo {ns : List Nd} (hp : poolF ns = true) (st : List Int) (r : Int) (t : Nat) : ∀ (n i m : Nat), i + n = t + 1 → t < ns.length → upGo ns st r t (n + m) i = upGo ns st r t m (t + 1)
  | 0, i, m, h, _ => by rw [show i = t + 1 by omega, Nat.zero_add]
  | n + 1, i, m, h, ht => by
    have hi : i < ns.length := by omega
    have en := nodeAt_nat hi
    have hb : upOk ns st r t i = false := by
      have h2 : partsF ns[i].k = 2 → ns[i].a < i ∧ ns[i].b < i := fun e => by
        obtain ⟨⟨a, e1, e2⟩, b, e3, e4⟩ := parts_in hp hi e
        omega
      simp only [upOk, en]
      rw [Bool.and_eq_false_iff]
      right
      simp only [Bool.or_eq_false_iff, Bool.and_eq_false_iff, decide_eq_false_iff_not]
      refine ⟨⟨⟨?_, ?_⟩, ?_⟩, .inl ?_⟩
      · rintro ⟨_, k, e⟩; have := h2 (by rw [k]; rfl); omega
      · rintro ⟨_, k, e⟩; have := h2 (by rw [k]; rfl); omega
      · rintro ⟨_, k, e⟩; have := h2 (by rw [k]; rfl); omega
      · rintro ⟨_, k, e⟩; have := h2 (by rw [k]; rfl); omega
    rw [show n + 1 + m = (n + m) + 1 by omega, upGo, hb]
    simp only [Bool.false_eq_true, if_false]
    exact upGo_lo hp st r t n (i + 1) m (by omega) ht
theorem upF_lo {ns : List Nd} (hp : poolF ns = true) (st : List Int) (r : Int) {t : Nat} (ht : t < ns.length) : upF ns st r t = upGo ns st r t ns.length 0 := by
  have := upGo_lo hp st r t (t + 1) 0 (ns.length - (t + 1)) (by omega) ht
  rw [show t + 1 + (ns.length - (t + 1)) = ns.length by omega] at this
  rw [this]
  simp [upF]
end Go.Proofs.Ytcfgiffgahdlbaa.C
