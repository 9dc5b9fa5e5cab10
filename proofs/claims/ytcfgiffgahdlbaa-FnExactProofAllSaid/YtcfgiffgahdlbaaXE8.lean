/- The step that is first for a term. Conditions: those that each theorem names. -/
import Derived.Test.YtcfgiffgahdlbaaXE7
set_option linter.unusedVariables false
set_option linter.unusedSimpArgs false
set_option maxRecDepth 4000
namespace Go.Proofs.Ytcfgiffgahdlbaa.C
open Go.Sym Go.Proofs.Ytcfgiffgahdlbaa.I
/-- The step of a term; below 0: there is none. -/
def sv (st : List Int) (t : Int) : Int := st.getD t.toNat 0
theorem sv_nat {st : List Int} {j : Nat} (h : j < st.length) : sv st j = st[j] := by simp [sv, h]
def optS (o : Option Sp) : Sp := o.getD ⟨0, 0, 0, 0⟩
def upOk (ns : List Nd) (st : List Int) (r t : Int) (i : Nat) : Bool :=
  decide (0 ≤ sv st i) && (decide (r = 5 ∧ (nodeAt ns i).k = 2 ∧ (nodeAt ns i).a = t) || decide (r = 6 ∧ (nodeAt ns i).k = 2 ∧ (nodeAt ns i).b = t) || decide (r = 8 ∧ (nodeAt ns i).k = 4 ∧ (nodeAt ns i).a = t) ||
    (decide (r = 7 ∧ (nodeAt ns i).k = 3 ∧ (nodeAt ns i).a = t) && decide (0 ≤ sv st (nodeAt ns i).b)))
def upGo (ns : List Nd) (st : List Int) (r t : Int) : Nat → Nat → Option Sp
  | 0, _ => none
  | n + 1, i => if upOk ns st r t i = true then some ⟨r, t, sv st i, if r = 7 then sv st (nodeAt ns i).b else 0⟩ else upGo ns st r t n (i + 1)
def upF (ns : List Nd) (st : List Int) (r t : Int) : Option Sp := upGo ns st r t (ns.length - (t.toNat + 1)) (t.toNat + 1)
theorem spec_l9Up_c (ns : List Nd) (st : List Int) (t r : Int) (hl : ns.length < 9223372036854775807) (hp : poolF ns = true) (hst : st.length = ns.length) (ht : hasF ns.length t = true) (hr : r = 5 ∨ r = 6 ∨ r = 7 ∨ r = 8) : T 76 [aP ns, aI st, i6 t, i6 r] [] (.tup [aSt (optS (upF ns st r t)), .bool (upF ns st r t).isSome]) ([]) := by
  refine semT' (S := S0) hm spec_l9Up_ok (Nat.le_of_ble_eq_true rfl) ?_
  unfold spec_l9Up; dsimp only
  obtain ⟨j, rfl, hj⟩ := hasN ht
  have hw := wrap_succ (n := j) (by omega)
  simp
  rw [hw]
  refine WLoop_fam (fun i : Nat => [(1, aI st), (2, i6 j), (3, i6 r), (4, A.ptr 0 0 0), (8, A.ptr 1 0 0), (10, i6 i)]) (fun _ => [⟨0, false, 1, [A.sl ns.length (enc ns)], none⟩, ⟨0, false, 1, [i6 0, i6 0, i6 0, i6 0], none⟩]) (fun i => ns.length - i)
    (fun i => i ≤ ns.length ∧ upF ns st r j = upGo ns st r j (ns.length - i) i) ?_ (j + 1) ⟨hj, by simp [upF]⟩
  intro i ⟨hi, hf⟩ ih
  simp
  refine br_intro' (fun h => ?_) (fun h => ?_) <;> (have h0 := h) <;> (try simp at h) <;> try simp [h0, h]
  · have h' := h
    have his : i < st.length := by omega
    obtain ⟨q, hq⟩ := enc_at h
    have h3 : 3 ≤ ns.length * 3 - i * 3 := by omega
    have hwi := wrap_succ (n := i) (by omega)
    have en := nodeAt_nat h'
    have es := sv_nat his
    have hgo : upGo ns st r j (ns.length - i) i = if upOk ns st r j i = true then some ⟨r, j, sv st i, if r = 7 then sv st (nodeAt ns i).b else 0⟩ else upGo ns st r j (ns.length - (i + 1)) (i + 1) := by
      rw [show ns.length - i = (ns.length - (i + 1)) + 1 by omega]; rfl
    simp [h3, hq, his, h']
    refine br_intro' (fun g => ?_) (fun g => ?_) <;> (have g0 := g) <;> simp at g <;> simp [g0, g]
    · have hb : upOk ns st r j i = false := by
        have : ¬ 0 ≤ st[i] := by omega
        simp [upOk, es, this]
      try simp [his, h']
      rw [hwi]
      refine WLoop_drop [⟨0, false, 1, [A.sl ns.length (enc ns)], none⟩, ⟨0, false, 1, [i6 0, i6 0, i6 0, i6 0], none⟩] [_] rfl (by simp) (by simp) (by simp) ?_
      exact ih (i + 1) ⟨h', by rw [hf, hgo, hb]; simp⟩ (by omega)
    · have hsi : 0 ≤ st[i] := g
      have hbr : ns[i].k = 3 → ∃ b : Nat, ns[i].b = b ∧ b < st.length := fun e => by
        obtain ⟨_, b, e2, e3⟩ := parts_in hp h' (by rw [e]; rfl)
        exact ⟨b, e2, by omega⟩
      rcases hr with rfl | rfl | rfl | rfl <;> simp
      · refine br_intro' (fun u => ?_) (fun u => ?_) <;> (have u0 := u) <;> (try simp at u) <;> try simp [u0, u, hq, h3, his, h']
        · refine br_intro' (fun v => ?_) (fun v => ?_) <;> (have v0 := v) <;> (try simp at v) <;> try simp [v0, v, hq, h3, his, h']
          · first | (refine ck_intro' (by kernel_rfl) ?_; try simp [his, h']) | skip
            have hb : upOk ns st 5 j i = true := by simp [upOk, es, en, u, v, hsi]
            exact LeV.ro rfl rfl (by rw [hf, hgo, hb]; simp [optS, es])
          · have hb : upOk ns st 5 j i = false := by simp [upOk, es, en, v]
            try simp [his, h']
            rw [hwi]
            refine WLoop_drop [⟨0, false, 1, [A.sl ns.length (enc ns)], none⟩, ⟨0, false, 1, [i6 0, i6 0, i6 0, i6 0], none⟩] [_] rfl (by simp) (by simp) (by simp) ?_
            exact ih (i + 1) ⟨h', by rw [hf, hgo, hb]; simp⟩ (by omega)
        · have hb : upOk ns st 5 j i = false := by simp [upOk, es, en, u]
          try simp [his, h']
          rw [hwi]
          refine WLoop_drop [⟨0, false, 1, [A.sl ns.length (enc ns)], none⟩, ⟨0, false, 1, [i6 0, i6 0, i6 0, i6 0], none⟩] [_] rfl (by simp) (by simp) (by simp) ?_
          exact ih (i + 1) ⟨h', by rw [hf, hgo, hb]; simp⟩ (by omega)
      · refine br_intro' (fun u => ?_) (fun u => ?_) <;> (have u0 := u) <;> (try simp at u) <;> try simp [u0, u, hq, h3, his, h']
        · refine br_intro' (fun v => ?_) (fun v => ?_) <;> (have v0 := v) <;> (try simp at v) <;> try simp [v0, v, hq, h3, his, h']
          · first | (refine ck_intro' (by kernel_rfl) ?_; try simp [his, h']) | skip
            have hb : upOk ns st 6 j i = true := by simp [upOk, es, en, u, v, hsi]
            exact LeV.ro rfl rfl (by rw [hf, hgo, hb]; simp [optS, es])
          · have hb : upOk ns st 6 j i = false := by simp [upOk, es, en, v]
            try simp [his, h']
            rw [hwi]
            refine WLoop_drop [⟨0, false, 1, [A.sl ns.length (enc ns)], none⟩, ⟨0, false, 1, [i6 0, i6 0, i6 0, i6 0], none⟩] [_] rfl (by simp) (by simp) (by simp) ?_
            exact ih (i + 1) ⟨h', by rw [hf, hgo, hb]; simp⟩ (by omega)
        · have hb : upOk ns st 6 j i = false := by simp [upOk, es, en, u]
          try simp [his, h']
          rw [hwi]
          refine WLoop_drop [⟨0, false, 1, [A.sl ns.length (enc ns)], none⟩, ⟨0, false, 1, [i6 0, i6 0, i6 0, i6 0], none⟩] [_] rfl (by simp) (by simp) (by simp) ?_
          exact ih (i + 1) ⟨h', by rw [hf, hgo, hb]; simp⟩ (by omega)
      · refine br_intro' (fun u => ?_) (fun u => ?_) <;> (have u0 := u) <;> (try simp at u) <;> try simp [u0, u, hq, h3, his, h']
        · refine br_intro' (fun v => ?_) (fun v => ?_) <;> (have v0 := v) <;> (try simp at v) <;> try simp [v0, v, hq, h3, his, h']
          · obtain ⟨b, eb, hb1⟩ := hbr u
            rw [eb]
            simp [hb1]
            have esb := sv_nat hb1
            refine br_intro' (fun z => ?_) (fun z => ?_) <;> (have z0 := z) <;> (try simp at z) <;> try simp [z0, z, hq, h3, his, h', eb, hb1]
            · first | (refine ck_intro' (by kernel_rfl) ?_; try simp [his, h', hb1, eb]) | skip
              have hb : upOk ns st 7 j i = true := by simp [upOk, es, en, u, v, hsi, eb, esb, z]
              exact LeV.ro rfl rfl (by rw [hf, hgo, hb]; simp [optS, es, en, eb, esb])
            · have hb : upOk ns st 7 j i = false := by
                have : ¬ 0 ≤ st[b] := by omega
                simp [upOk, es, en, eb, esb, this]
              try simp [his, h']
              rw [hwi]
              refine WLoop_drop [⟨0, false, 1, [A.sl ns.length (enc ns)], none⟩, ⟨0, false, 1, [i6 0, i6 0, i6 0, i6 0], none⟩] [_] rfl (by simp) (by simp) (by simp) ?_
              exact ih (i + 1) ⟨h', by rw [hf, hgo, hb]; simp⟩ (by omega)
          · have hb : upOk ns st 7 j i = false := by simp [upOk, es, en, v]
            try simp [his, h']
            rw [hwi]
            refine WLoop_drop [⟨0, false, 1, [A.sl ns.length (enc ns)], none⟩, ⟨0, false, 1, [i6 0, i6 0, i6 0, i6 0], none⟩] [_] rfl (by simp) (by simp) (by simp) ?_
            exact ih (i + 1) ⟨h', by rw [hf, hgo, hb]; simp⟩ (by omega)
        · have hb : upOk ns st 7 j i = false := by simp [upOk, es, en, u]
          try simp [his, h']
          rw [hwi]
          refine WLoop_drop [⟨0, false, 1, [A.sl ns.length (enc ns)], none⟩, ⟨0, false, 1, [i6 0, i6 0, i6 0, i6 0], none⟩] [_] rfl (by simp) (by simp) (by simp) ?_
          exact ih (i + 1) ⟨h', by rw [hf, hgo, hb]; simp⟩ (by omega)
      · refine br_intro' (fun u => ?_) (fun u => ?_) <;> (have u0 := u) <;> (try simp at u) <;> try simp [u0, u, hq, h3, his, h']
        · refine br_intro' (fun v => ?_) (fun v => ?_) <;> (have v0 := v) <;> (try simp at v) <;> try simp [v0, v, hq, h3, his, h']
          · first | (refine ck_intro' (by kernel_rfl) ?_; try simp [his, h']) | skip
            have hb : upOk ns st 8 j i = true := by simp [upOk, es, en, u, v, hsi]
            exact LeV.ro rfl rfl (by rw [hf, hgo, hb]; simp [optS, es])
          · have hb : upOk ns st 8 j i = false := by simp [upOk, es, en, v]
            try simp [his, h']
            rw [hwi]
            refine WLoop_drop [⟨0, false, 1, [A.sl ns.length (enc ns)], none⟩, ⟨0, false, 1, [i6 0, i6 0, i6 0, i6 0], none⟩] [_] rfl (by simp) (by simp) (by simp) ?_
            exact ih (i + 1) ⟨h', by rw [hf, hgo, hb]; simp⟩ (by omega)
        · have hb : upOk ns st 8 j i = false := by simp [upOk, es, en, u]
          try simp [his, h']
          rw [hwi]
          refine WLoop_drop [⟨0, false, 1, [A.sl ns.length (enc ns)], none⟩, ⟨0, false, 1, [i6 0, i6 0, i6 0, i6 0], none⟩] [_] rfl (by simp) (by simp) (by simp) ?_
          exact ih (i + 1) ⟨h', by rw [hf, hgo, hb]; simp⟩ (by omega)
  · have hi0 : ns.length - i = 0 := by omega
    exact LeV.ro rfl rfl (by rw [hf, hi0]; simp [upGo, optS])
theorem spec_l9Up_call {ns : List Nd} {st : List Int} {t r : Int} (hl : ns.length < 9223372036854775807) (hp : poolF ns = true) (hst : st.length = ns.length) (ht : hasF ns.length t = true) (hr : r = 5 ∨ r = 6 ∨ r = 7 ∨ r = 8) {S : FuncId → Bool} {H : List Blk} {K : A → Dl → Prop} (hS : S 76 = false) (hK : K (.tup [aSt (optS (upF ns st r t)), .bool (upF ns st r t).isSome]) (.news [])) : @WCall' Go.Proofs.Try.prog S 76 [aP ns, aI st, i6 t, i6 r] H ⟨K⟩ :=
  WCall_pure hS (spec_l9Up_c ns st t r hl hp hst ht hr) (by simp) (by simp) (by simp) hK
theorem spec_l9Up_k {ns : List Nd} {st : List Int} {t r : Int} (hl : ns.length < 9223372036854775807) (hp : poolF ns = true) (hst : st.length = ns.length) (ht : hasF ns.length t = true) (hr : r = 5 ∨ r = 6 ∨ r = 7 ∨ r = 8) {S : FuncId → Bool} {H : List Blk} {K : A → Dl → Prop} {zs : List A} (hS : S 76 = false) (hv : viewL (viewA 8 H) zs = some [aP ns, aI st, i6 t, i6 r]) (ho : noOwns zs = true ∨ nosl (.tup [aSt (optS (upF ns st r t)), .bool (upF ns st r t).isSome]) = true) (hK : K (.tup [aSt (optS (upF ns st r t)), .bool (upF ns st r t).isSome]) (.news [])) : @WCall' Go.Proofs.Try.prog S 76 zs H ⟨K⟩ :=
  WCall_pure hS (spec_l9Up_c ns st t r hl hp hst ht hr) hv ho (by simp) hK
theorem findF_lt {ns : List Nd} {n : Nd} (h : 0 ≤ findF ns n 0) : ∃ x : Nat, findF ns n 0 = x ∧ x < ns.length := by
  obtain ⟨j, hj, e, _⟩ := findF_at ns n 0 h
  exact ⟨j, by simpa using e, hj⟩
/-- The step that shares. -/
def shareF (ns : List Nd) (st : List Int) (t : Int) : Option Sp :=
  if (nodeAt ns t).k ≠ 8 then none
  else if 0 ≤ sv st (nodeAt ns t).a ∧ 0 ≤ findF ns ⟨7, (nodeAt ns t).b, 0⟩ 0 ∧ 0 ≤ sv st (findF ns ⟨7, (nodeAt ns t).b, 0⟩ 0) then some ⟨4, t, sv st (nodeAt ns t).a, sv st (findF ns ⟨7, (nodeAt ns t).b, 0⟩ 0)⟩
  else if 0 ≤ sv st (nodeAt ns t).b ∧ 0 ≤ findF ns ⟨7, (nodeAt ns t).a, 0⟩ 0 ∧ 0 ≤ sv st (findF ns ⟨7, (nodeAt ns t).a, 0⟩ 0) then some ⟨4, t, sv st (nodeAt ns t).b, sv st (findF ns ⟨7, (nodeAt ns t).a, 0⟩ 0)⟩
  else none
theorem spec_l9Share_c (ns : List Nd) (st : List Int) (t : Int) (hl : ns.length < 9223372036854775807) (hp : poolF ns = true) (hst : st.length = ns.length) (ht : hasF ns.length t = true) : T 75 [aP ns, aI st, i6 t] [] (.tup [aSt (optS (shareF ns st t)), .bool (shareF ns st t).isSome]) ([]) := by
  refine semT' (S := S0) hm spec_l9Share_ok (Nat.le_of_ble_eq_true rfl) ?_
  unfold spec_l9Share; dsimp only
  obtain ⟨j, rfl, hj⟩ := hasN ht
  obtain ⟨q, hq⟩ := enc_at hj
  have h3 : 3 ≤ ns.length * 3 - j * 3 := by omega
  have en := nodeAt_nat hj
  simp [h3, hq, hj]
  refine br_intro' (fun u => ?_) (fun u => ?_) <;> (have u0 := u) <;> (try simp at u) <;> try simp [u0, u]
  · obtain ⟨⟨a, ea, ha⟩, b, eb, hb⟩ := parts_in hp hj (by rw [u]; rfl)
    have hal : a < st.length := by omega
    have hbl : b < st.length := by omega
    have esa := sv_nat hal
    have esb := sv_nat hbl
    have hsh : shareF ns st j = if 0 ≤ sv st a ∧ 0 ≤ findF ns ⟨7, b, 0⟩ 0 ∧ 0 ≤ sv st (findF ns ⟨7, b, 0⟩ 0) then some ⟨4, j, sv st a, sv st (findF ns ⟨7, b, 0⟩ 0)⟩
      else if 0 ≤ sv st b ∧ 0 ≤ findF ns ⟨7, a, 0⟩ 0 ∧ 0 ≤ sv st (findF ns ⟨7, a, 0⟩ 0) then some ⟨4, j, sv st b, sv st (findF ns ⟨7, a, 0⟩ 0)⟩ else none := by
      unfold shareF
      rw [en, if_neg (by simp [u]), ea, eb]
    rw [ea, eb]
    refine spec_l1Find_call (ns := ns) (n := ⟨7, b, 0⟩) hl rfl ?_; simp
    refine spec_l1Find_call (ns := ns) (n := ⟨7, a, 0⟩) hl rfl ?_; simp
    have hx := @findF_lt ns ⟨7, b, 0⟩
    have hy := @findF_lt ns ⟨7, a, 0⟩
    generalize findF ns ⟨7, b, 0⟩ 0 = x at hsh hx ⊢
    generalize findF ns ⟨7, a, 0⟩ 0 = y at hsh hy ⊢
    simp [hal, hbl]
    rcases Int.lt_or_le x 0 with kx | kx
    · have kx' : ¬ 0 ≤ x := by omega
      rcases Int.lt_or_le y 0 with ky | ky
      · have ky' : ¬ 0 ≤ y := by omega
        repeat (any_goals (first | (refine br_intro' (fun h => ?_) (fun h => ?_) <;> (have k0 := h) <;> (try simp only [decide_eq_true_eq, decide_eq_false_iff_not] at h) <;> try simp [k0, h, kx', ky', hal, hbl, hq, h3]) | (refine ck_intro' (by first | omega | kernel_rfl) ?_; try simp [kx', ky', hal, hbl, hq, h3])))
        all_goals exact LeV.ro rfl rfl (by rw [hsh]; simp [optS, esa, esb, kx', ky', hal, hbl, *])
      · obtain ⟨y, rfl, hyl⟩ := hy ky
        have hyl' : y < st.length := by omega
        have esy := sv_nat hyl'
        have ky' : (0 : Int) ≤ y := by omega
        repeat (any_goals (first | (refine br_intro' (fun h => ?_) (fun h => ?_) <;> (have k0 := h) <;> (try simp only [decide_eq_true_eq, decide_eq_false_iff_not] at h) <;> try simp [k0, h, kx', ky', hal, hbl, hyl', esy, hq, h3]) | (refine ck_intro' (by first | omega | kernel_rfl) ?_; try simp [kx', ky', hal, hbl, hyl', esy, hq, h3])))
        all_goals exact LeV.ro rfl rfl (by rw [hsh]; simp [optS, esa, esb, kx', ky', hal, hbl, hyl', esy, *])
    · obtain ⟨x, rfl, hxl⟩ := hx kx
      have hxl' : x < st.length := by omega
      have esx := sv_nat hxl'
      have kx' : (0 : Int) ≤ x := by omega
      rcases Int.lt_or_le y 0 with ky | ky
      · have ky' : ¬ 0 ≤ y := by omega
        repeat (any_goals (first | (refine br_intro' (fun h => ?_) (fun h => ?_) <;> (have k0 := h) <;> (try simp only [decide_eq_true_eq, decide_eq_false_iff_not] at h) <;> try simp [k0, h, kx', ky', hal, hbl, hxl', esx, hq, h3]) | (refine ck_intro' (by first | omega | kernel_rfl) ?_; try simp [kx', ky', hal, hbl, hxl', esx, hq, h3])))
        all_goals exact LeV.ro rfl rfl (by rw [hsh]; simp [optS, esa, esb, kx', ky', hal, hbl, hxl', esx, *])
      · obtain ⟨y, rfl, hyl⟩ := hy ky
        have hyl' : y < st.length := by omega
        have esy := sv_nat hyl'
        have ky' : (0 : Int) ≤ y := by omega
        repeat (any_goals (first | (refine br_intro' (fun h => ?_) (fun h => ?_) <;> (have k0 := h) <;> (try simp only [decide_eq_true_eq, decide_eq_false_iff_not] at h) <;> try simp [k0, h, kx', ky', hal, hbl, hxl', hyl', esx, esy, hq, h3]) | (refine ck_intro' (by first | omega | kernel_rfl) ?_; try simp [kx', ky', hal, hbl, hxl', hyl', esx, esy, hq, h3])))
        all_goals exact LeV.ro rfl rfl (by rw [hsh]; simp [optS, esa, esb, kx', ky', hal, hbl, hxl', hyl', esx, esy, *])
  · exact LeV.ro rfl rfl (by simp [shareF, en, u, optS])
theorem spec_l9Share_call {ns : List Nd} {st : List Int} {t : Int} (hl : ns.length < 9223372036854775807) (hp : poolF ns = true) (hst : st.length = ns.length) (ht : hasF ns.length t = true) {S : FuncId → Bool} {H : List Blk} {K : A → Dl → Prop} (hS : S 75 = false) (hK : K (.tup [aSt (optS (shareF ns st t)), .bool (shareF ns st t).isSome]) (.news [])) : @WCall' Go.Proofs.Try.prog S 75 [aP ns, aI st, i6 t] H ⟨K⟩ :=
  WCall_pure hS (spec_l9Share_c ns st t hl hp hst ht) (by simp) (by simp) (by simp) hK
theorem spec_l9Share_k {ns : List Nd} {st : List Int} {t : Int} (hl : ns.length < 9223372036854775807) (hp : poolF ns = true) (hst : st.length = ns.length) (ht : hasF ns.length t = true) {S : FuncId → Bool} {H : List Blk} {K : A → Dl → Prop} {zs : List A} (hS : S 75 = false) (hv : viewL (viewA 8 H) zs = some [aP ns, aI st, i6 t]) (ho : noOwns zs = true ∨ nosl (.tup [aSt (optS (shareF ns st t)), .bool (shareF ns st t).isSome]) = true) (hK : K (.tup [aSt (optS (shareF ns st t)), .bool (shareF ns st t).isSome]) (.news [])) : @WCall' Go.Proofs.Try.prog S 75 zs H ⟨K⟩ :=
  WCall_pure hS (spec_l9Share_c ns st t hl hp hst ht) hv ho (by simp) hK
end Go.Proofs.Ytcfgiffgahdlbaa.C
