/- What can be made, in the program. Conditions: those that each theorem names. -/
import Derived.Test.YtcfgiffgahdlbaaGreatXB1E6
import Derived.Test.YtcfgiffgahdlbaaGreatXQ1Q2
import Derived.Test.YtcfgiffgahdlbaaGreatXD8Z1
import Derived.Test.YtcfgiffgahdlbaaGreatXC1D4
set_option linter.unusedVariables false
set_option linter.unusedSimpArgs false
set_option maxRecDepth 4000
namespace Go.Proofs.YtcfgiffgahdlbaaGreat.C
open Go.Sym Go.Proofs.YtcfgiffgahdlbaaGreat.I
def isMd (ns : List Nd) (mk : List Bool) (n : Nd) : Bool := decide (0 ≤ findF ns n 0) && bv mk (findF ns n 0)
theorem findF_lt' {ns : List Nd} {n : Nd} (h : 0 ≤ findF ns n 0) : ∃ x : Nat, findF ns n 0 = x ∧ x < ns.length := by
  obtain ⟨j, hj, e, _⟩ := findF_at ns n 0 h
  exact ⟨j, by simpa using e, hj⟩
theorem impl_Pool_isMade_c (ns : List Nd) (n : Nd) (mk : List Bool) (hl : ns.length < 9223372036854775807) (hmk : mk.length = ns.length) : T 90 [.pt [.sl ns.length (enc ns)], aN n, aBl mk] [] (.bool (isMd ns mk n)) ([]) := by
  refine semT' (S := S0) hm impl_Pool_isMade_ok (Nat.le_of_ble_eq_true rfl) ?_
  unfold impl_Pool_isMade; dsimp only
  simp
  refine impl_Pool_find_k (ns := ns) (r := []) (n := n) hl rfl (by simp) (by simp) ?_; simp
  refine br_intro' (fun g => ?_) (fun g => ?_) <;> (have g0 := g) <;> simp only [decide_eq_true_eq, decide_eq_false_iff_not] at g <;> simp [g0, g]
  · obtain ⟨x, e, hx⟩ := findF_lt' g
    have hxm : x < mk.length := by omega
    have eb := bls_at hxm
    have ebv := bv_nat hxm
    simp [e, hxm, eb]
    repeat (refine ck_intro' (by first | omega | (simp; omega) | kernel_rfl) ?_; try simp [hxm])
    exact LeV.ro rfl rfl (by simp [isMd, e, ebv])
  · repeat (refine ck_intro' (by first | omega | (simp; omega) | kernel_rfl) ?_; try simp [g])
    exact LeV.ro rfl rfl (by simp [isMd, g])
theorem impl_Pool_isMade_k {ns : List Nd} {n : Nd} {mk : List Bool} (hl : ns.length < 9223372036854775807) (hmk : mk.length = ns.length) {S : FuncId → Bool} {H : List Blk} {K : A → Dl → Prop} {zs : List A} (hS : S 90 = false) (hv : viewL (viewA 8 H) zs = some [.pt [.sl ns.length (enc ns)], aN n, aBl mk]) (ho : noOwns zs = true ∨ nosl (.bool (isMd ns mk n)) = true) (hK : K (.bool (isMd ns mk n)) (.news [])) : @WCall' Go.Proofs.Tryz.prog S 90 zs H ⟨K⟩ :=
  WCall_pure hS (impl_Pool_isMade_c ns n mk hl hmk) hv ho (by simp) hK
/-- What can be made, by what can be. -/
def canF (ns : List Nd) (mk : List Bool) (t : Int) : Bool :=
  if (nodeAt ns t).k = 1 then pubF (nodeAt ns t).a
  else if partsF (nodeAt ns t).k = 1 then bv mk (nodeAt ns t).a
  else if bv mk (nodeAt ns t).a = true ∧ bv mk (nodeAt ns t).b = true then true
  else if (nodeAt ns t).k = 8 then (bv mk (nodeAt ns t).a && isMd ns mk ⟨7, (nodeAt ns t).b, 0⟩) || (bv mk (nodeAt ns t).b && isMd ns mk ⟨7, (nodeAt ns t).a, 0⟩)
  else false
theorem impl_Pool_canMake_c (ns : List Nd) (t : Int) (mk : List Bool) (hl : ns.length < 9223372036854775807) (hp : poolF ns = true) (hmk : mk.length = ns.length) (ht : hasF ns.length t = true) : T 67 [.pt [.sl ns.length (enc ns)], i6 t, aBl mk] [] (.bool (canF ns mk t)) ([]) := by
  refine semT' (S := S0) hm impl_Pool_canMake_ok (Nat.le_of_ble_eq_true rfl) ?_
  unfold impl_Pool_canMake; dsimp only
  have hht := ht
  obtain ⟨j, rfl, hj⟩ := hasN ht
  obtain ⟨q, hq⟩ := enc_at hj
  have h3 : 3 ≤ ns.length * 3 - j * 3 := by omega
  have en := nodeAt_nat hj
  simp [h3, hq, hj]
  refine br_intro' (fun u => ?_) (fun u => ?_) <;> (have u0 := u) <;> (try simp at u) <;> try simp [u0, u, hj, h3, hq]
  · refine impl_IsPublic_k (x := ns[j].a) rfl (by simp) (by simp [noslBlks]) ?_; simp [shiftB]
    exact LeV.ro rfl rfl (by simp [canF, en, u])
  · refine impl_Pool_parts_k (ns := ns) (r := []) (t := j) hl hht rfl (by simp) (by simp [noslBlks]) ?_; simp [shiftB]
    rw [en]
    have w1 : IntKind.i64.wrap 1 = 1 := wrap64 (by omega) (by omega)
    have w2 : IntKind.i64.wrap 2 = 2 := wrap64 (by omega) (by omega)
    rcases parts_kind hp hj with hpk | hpk | hpk
    · unfold partsF at hpk
      rw [if_neg u] at hpk
      exfalso
      split at hpk
      · omega
      · split at hpk <;> omega
    · obtain ⟨a, ea, ha⟩ := part_in hp hj hpk
      have ham : a < mk.length := by omega
      have eba := bls_at ham
      have ebva := bv_nat ham
      have k8 : ¬ ns[j].k = 8 := by intro e; rw [e] at hpk; simp [partsF] at hpk
      rw [show partsL ns[j] = [ns[j].a] by simp [partsL, hpk], ea]
      simp [ints]
      refine WLoop_step' ?_; simp [ints, eba]
      repeat (refine ck_intro' (by first | omega | (simp; omega) | kernel_rfl) ?_; try simp [ham])
      rw [w1]
      refine WLoop_step' ?_; simp
      refine br_intro' (fun v => ?_) (fun v => ?_) <;> (have v0 := v) <;> simp [v0]
      · repeat (refine ck_intro' (by first | omega | (simp; omega) | kernel_rfl) ?_; try simp [ham])
        exact LeV.ro rfl rfl (by simp [canF, en, u, hpk, ea, ebva, v])
      · repeat (refine ck_intro' (by first | omega | (simp; omega) | kernel_rfl) ?_; try simp [ham])
        simp [k8]
        exact LeV.ro rfl rfl (by simp [canF, en, u, hpk, ea, ebva, v])
    · obtain ⟨⟨a, ea, ha⟩, b, eb, hb⟩ := parts_in hp hj hpk
      have ham : a < mk.length := by omega
      have eba := bls_at ham
      have ebva := bv_nat ham
      have hbm : b < mk.length := by omega
      have ebb := bls_at hbm
      have ebvb := bv_nat hbm
      rw [show partsL ns[j] = [ns[j].a, ns[j].b] by simp [partsL, hpk], ea, eb]
      simp [ints]
      refine WLoop_step' ?_; simp [ints, eba]
      repeat (refine ck_intro' (by first | omega | (simp; omega) | kernel_rfl) ?_; try simp [ham])
      rw [w1]
      cases va : mk[a] with
      | false =>
        refine WLoop_step' ?_; simp [ints]
        repeat (refine ck_intro' (by first | omega | (simp; omega) | kernel_rfl) ?_; try simp [hbm])
        rw [w2]
        refine WLoop_step' ?_; simp
        cases vb : mk[b] with
        | false =>
          refine br_intro' (fun k8 => ?_) (fun k8 => ?_) <;> (have k80 := k8) <;> (try simp only [decide_eq_true_eq, decide_eq_false_iff_not] at k8) <;> simp [k80, k8, ea, eb, eba, ebb]
          · repeat (refine ck_intro' (by first | omega | (simp; omega) | kernel_rfl) ?_; try simp [ham, va])
            try simp [eba, va]
            repeat (refine ck_intro' (by first | omega | (simp; omega) | kernel_rfl) ?_; try simp [hbm, va])
            try simp [ebb, vb, va]
            skip
            repeat (refine ck_intro' (by first | omega | (simp; omega) | kernel_rfl) ?_; try simp [ham, va])
            skip
            all_goals first | (have zz := z0; exact LeV.ro rfl rfl (by simp [canF, en, u, hpk, ea, eb, ebva, ebvb, va, vb, k8, show ¬ partsF 8 = 1 by simp [partsF], z0])) | exact LeV.ro rfl rfl (by simp [canF, en, u, hpk, ea, eb, ebva, ebvb, va, vb, k8, show ¬ partsF 8 = 1 by simp [partsF]])
          · exact LeV.ro rfl rfl (by simp [canF, en, u, hpk, ea, eb, ebva, ebvb, va, vb, k8, show ¬ partsF 8 = 1 by simp [partsF]])
        | true =>
          refine br_intro' (fun k8 => ?_) (fun k8 => ?_) <;> (have k80 := k8) <;> (try simp only [decide_eq_true_eq, decide_eq_false_iff_not] at k8) <;> simp [k80, k8, ea, eb, eba, ebb]
          · repeat (refine ck_intro' (by first | omega | (simp; omega) | kernel_rfl) ?_; try simp [ham, va])
            try simp [eba, va]
            repeat (refine ck_intro' (by first | omega | (simp; omega) | kernel_rfl) ?_; try simp [hbm, va])
            try simp [ebb, vb, va]
            refine impl_Pool_isMade_k (ns := ns) (n := ⟨7, a, 0⟩) (mk := mk) hl hmk rfl (by simp) (by simp) ?_; simp
            repeat (refine ck_intro' (by first | omega | (simp; omega) | kernel_rfl) ?_; try simp [ham, va])
            skip
            all_goals first | (have zz := z0; exact LeV.ro rfl rfl (by simp [canF, en, u, hpk, ea, eb, ebva, ebvb, va, vb, k8, show ¬ partsF 8 = 1 by simp [partsF], z0])) | exact LeV.ro rfl rfl (by simp [canF, en, u, hpk, ea, eb, ebva, ebvb, va, vb, k8, show ¬ partsF 8 = 1 by simp [partsF]])
          · exact LeV.ro rfl rfl (by simp [canF, en, u, hpk, ea, eb, ebva, ebvb, va, vb, k8, show ¬ partsF 8 = 1 by simp [partsF]])
      | true =>
        refine WLoop_step' ?_; simp [ints, ebb]
        repeat (refine ck_intro' (by first | omega | (simp; omega) | kernel_rfl) ?_; try simp [hbm])
        rw [w2]
        refine WLoop_step' ?_; simp
        refine br_intro' (fun v => ?_) (fun v => ?_) <;> (have v0 := v) <;> simp [v0]
        · exact LeV.ro rfl rfl (by simp [canF, en, u, hpk, ea, eb, ebva, ebvb, va, v])
        · have vb := v
          refine br_intro' (fun k8 => ?_) (fun k8 => ?_) <;> (have k80 := k8) <;> (try simp only [decide_eq_true_eq, decide_eq_false_iff_not] at k8) <;> simp [k80, k8, ea, eb, eba, ebb]
          · repeat (refine ck_intro' (by first | omega | (simp; omega) | kernel_rfl) ?_; try simp [ham, va])
            try simp [eba, va]
            repeat (refine ck_intro' (by first | omega | (simp; omega) | kernel_rfl) ?_; try simp [hbm, va])
            try simp [ebb, vb, va]
            refine impl_Pool_isMade_k (ns := ns) (n := ⟨7, b, 0⟩) (mk := mk) hl hmk rfl (by simp) (by simp) ?_; simp
            repeat (refine ck_intro' (by first | omega | (simp; omega) | kernel_rfl) ?_; try simp [ham, va])
            refine br_intro' (fun z => ?_) (fun z => ?_) <;> (have z0 := z) <;> simp [z0, ebb, vb, hbm]
            all_goals first | (have zz := z0; exact LeV.ro rfl rfl (by simp [canF, en, u, hpk, ea, eb, ebva, ebvb, va, vb, k8, show ¬ partsF 8 = 1 by simp [partsF], z0])) | exact LeV.ro rfl rfl (by simp [canF, en, u, hpk, ea, eb, ebva, ebvb, va, vb, k8, show ¬ partsF 8 = 1 by simp [partsF]])
          · exact LeV.ro rfl rfl (by simp [canF, en, u, hpk, ea, eb, ebva, ebvb, va, vb, k8, show ¬ partsF 8 = 1 by simp [partsF]])
theorem impl_Pool_canMake_k {ns : List Nd} {t : Int} {mk : List Bool} (hl : ns.length < 9223372036854775807) (hp : poolF ns = true) (hmk : mk.length = ns.length) (ht : hasF ns.length t = true) {S : FuncId → Bool} {H : List Blk} {K : A → Dl → Prop} {zs : List A} (hS : S 67 = false) (hv : viewL (viewA 8 H) zs = some [.pt [.sl ns.length (enc ns)], i6 t, aBl mk]) (ho : noOwns zs = true ∨ nosl (.bool (canF ns mk t)) = true) (hK : K (.bool (canF ns mk t)) (.news [])) : @WCall' Go.Proofs.Tryz.prog S 67 zs H ⟨K⟩ :=
  WCall_pure hS (impl_Pool_canMake_c ns t mk hl hp hmk ht) hv ho (by simp) hK
end Go.Proofs.YtcfgiffgahdlbaaGreat.C

set_option linter.unusedVariables false
set_option linter.unusedSimpArgs false
set_option maxRecDepth 4000
namespace Go.Proofs.YtcfgiffgahdlbaaGreat.C
open Go.Sym Go.Proofs.YtcfgiffgahdlbaaGreat.I
def mkPass (ns : List Nd) : Nat → Nat → List Bool → Bool → List Bool × Bool
  | 0, _, mk, m => (mk, m)
  | n + 1, t, mk, m => if mk.getD t false = false ∧ canF ns mk t = true then mkPass ns n (t + 1) (mk.set t true) true else mkPass ns n (t + 1) mk m
def falses (mk : List Bool) : Nat := mk.countP fun x => !x
theorem falses_set {mk : List Bool} {t : Nat} (ht : t < mk.length) (h : mk[t] = false) : falses (mk.set t true) + 1 = falses mk := by
  have hp : 0 < mk.countP fun x => !x := List.countP_pos_iff.2 ⟨mk[t], List.getElem_mem ht, by simp [h]⟩
  simp only [falses]
  rw [List.countP_set ht]
  simp [h]
  omega
/-- What is made so far. -/
structure MkI (ns : List Nd) (ks : List Int) (mk : List Bool) : Prop where
  len : mk.length = ns.length
  ok : ∀ t : Nat, mk.getD t false = true → Mk ns ks t
  know : ∀ t : Nat, (t : Int) ∈ ks → mk.getD t false = true
theorem bv_get (mk : List Bool) (t : Nat) : bv mk t = mk.getD t false := rfl
theorem canF_Mk {ns : List Nd} (hp : poolF ns = true) {ks : List Int} {mk : List Bool} (I : MkI ns ks mk) {t : Nat} (ht : t < ns.length) (h : canF ns mk t = true) : Mk ns ks t := by
  have en := nodeAt_nat ht
  have isM : ∀ c : Int, isMd ns mk ⟨7, c, 0⟩ = true → ∃ x : Nat, x < ns.length ∧ nodeAt ns x = ⟨7, c, 0⟩ ∧ Mk ns ks x := fun c hc => by
    simp only [isMd, Bool.and_eq_true, decide_eq_true_eq] at hc
    obtain ⟨x, e, hx, ex⟩ := findF_node hc.1
    rw [e] at hc
    exact ⟨x, hx, ex, I.ok x hc.2⟩
  unfold canF at h
  split at h
  · rename_i k
    exact .pub ht k h
  · rename_i k
    split at h
    · rename_i k1
      obtain ⟨a, ea, ha⟩ := part_in hp ht (by rw [← en]; exact k1)
      rw [← en] at ea
      rw [ea] at h
      exact .make1 ht k1 ea (I.ok a h)
    · rename_i k1
      have k2 : partsF (nodeAt ns t).k = 2 := by
        have := parts_kind hp ht
        rw [← en] at this
        rcases this with e | e | e
        · unfold partsF at e
          rw [if_neg k] at e
          split at e
          · omega
          · split at e <;> omega
        · exact absurd e k1
        · exact e
      obtain ⟨⟨a, ea, ha⟩, b, eb, hb⟩ := parts_in hp ht (by rw [← en]; exact k2)
      rw [← en] at ea eb
      rw [ea, eb] at h
      split at h
      · rename_i g
        exact .make2 ht k2 ea eb (I.ok a g.1) (I.ok b g.2)
      · split at h
        · rename_i k8
          simp only [Bool.or_eq_true, Bool.and_eq_true] at h
          rcases h with ⟨h1, h2⟩ | ⟨h1, h2⟩
          · obtain ⟨x, hx, ex, hm'⟩ := isM _ h2
            exact .shareA ht hx k8 ea (by rw [ex, eb]) (I.ok a h1) hm'
          · obtain ⟨x, hx, ex, hm'⟩ := isM _ h2
            exact .shareB ht hx k8 eb (by rw [ex, ea]) (I.ok b h1) hm'
        · simp at h
theorem MkI.put {ns : List Nd} (hp : poolF ns = true) {ks : List Int} {mk : List Bool} (I : MkI ns ks mk) {t : Nat} (ht : t < ns.length) (h : canF ns mk t = true) : MkI ns ks (mk.set t true) := by
  have htm : t < mk.length := by rw [I.len]; exact ht
  have key : ∀ i : Nat, (mk.set t true).getD i false = true ↔ t = i ∨ mk.getD i false = true := fun i => by
    rcases Nat.decEq t i with e | e
    · simp [List.getElem?_set_ne e, e]
    · subst e; simp [List.getElem?_set_self htm]
  refine ⟨by simpa using I.len, fun i hi => ?_, fun i hi => (key i).2 (.inr (I.know i hi))⟩
  rcases (key i).1 hi with e | e
  · subst e; exact canF_Mk hp I ht h
  · exact I.ok i e
theorem mkPass_spec {ns : List Nd} (hp : poolF ns = true) {ks : List Int} : ∀ (n t : Nat) (mk : List Bool) (m : Bool), t + n = ns.length → MkI ns ks mk → MkI ns ks (mkPass ns n t mk m).1 ∧ falses (mkPass ns n t mk m).1 ≤ falses mk ∧
    ((mkPass ns n t mk m).2 = true → m = true ∨ falses (mkPass ns n t mk m).1 < falses mk) ∧
    ((mkPass ns n t mk m).2 = false → m = false ∧ (mkPass ns n t mk m).1 = mk ∧ ∀ i : Nat, t ≤ i → i < ns.length → mk.getD i false = false → canF ns mk i = false)
  | 0, t, mk, m, _, I => ⟨I, Nat.le_refl _, fun h => .inl h, fun h => ⟨h, rfl, fun i h1 h2 => by omega⟩⟩
  | n + 1, t, mk, m, ht, I => by
    have htm : t < mk.length := by rw [I.len]; omega
    unfold mkPass
    split
    · rename_i g
      obtain ⟨h1, h2, h3, h4⟩ := mkPass_spec hp n (t + 1) (mk.set t true) true (by omega) (I.put hp (by omega) g.2)
      have hf := falses_set htm (by have := g.1; simpa [htm] using this)
      exact ⟨h1, by omega, fun _ => .inr (by omega), fun h => absurd (h4 h).1 (by simp)⟩
    · rename_i g
      obtain ⟨h1, h2, h3, h4⟩ := mkPass_spec hp n (t + 1) mk m (by omega) I
      refine ⟨h1, h2, h3, fun h => ?_⟩
      obtain ⟨e1, e2, e3⟩ := h4 h
      refine ⟨e1, e2, fun i hi hil hn => ?_⟩
      rcases Nat.lt_or_ge t i with u | u
      · exact e3 i u hil hn
      · have : i = t := by omega
        subst this
        cases hc : canF ns mk i with
        | false => rfl
        | true => exact absurd ⟨hn, hc⟩ g
/-- Where nothing more can be made, all is made. -/
theorem mk_stuck {ns : List Nd} (hp : poolF ns = true) {ks : List Int} (hks : ∀ x ∈ ks, hasF ns.length x = true) {mk : List Bool} (I : MkI ns ks mk) (hs : ∀ i : Nat, i < ns.length → mk.getD i false = false → canF ns mk i = false) : mk = mkUp ns ks ns.length := by
  have all : ∀ t : Nat, Mk ns ks t → mk.getD t false = true := by
    intro t h
    have key : ∀ t : Nat, t < ns.length → canF ns mk t = true → mk.getD t false = true := fun t ht hc => by
      cases hv : mk.getD t false with
      | true => rfl
      | false => rw [hs t ht hv] at hc; simp at hc
    have isM : ∀ (c : Int) (x : Nat), x < ns.length → nodeAt ns x = ⟨7, c, 0⟩ → mk.getD x false = true → isMd ns mk ⟨7, c, 0⟩ = true := fun c x hx ex hv => by
      have hf := findF_of hp hx
      rw [ex] at hf
      simp only [isMd, hf, Bool.and_eq_true, decide_eq_true_eq]
      exact ⟨by omega, hv⟩
    induction h with
    | know h => exact I.know _ h
    | pub ht hk h => exact key _ ht (by unfold canF; rw [if_pos hk]; exact h)
    | make1 ht hk ea _ ih =>
      refine key _ ht ?_
      unfold canF
      rw [if_neg (by intro e; rw [e] at hk; simp [partsF] at hk), if_pos hk, ea]
      exact ih
    | make2 ht hk ea eb _ _ ih ih2 =>
      refine key _ ht ?_
      unfold canF
      rw [if_neg (by intro e; rw [e] at hk; simp [partsF] at hk), if_neg (by omega), ea, eb, if_pos ⟨ih, ih2⟩]
    | @shareA t a x ht hx hk ea ex _ _ ih ih2 =>
      refine key _ ht ?_
      unfold canF
      rw [if_neg (by omega), if_neg (by rw [hk]; simp [partsF])]
      split
      · rfl
      · simp only [Bool.or_eq_true, Bool.and_eq_true]
        exact .inl ⟨by rw [ea]; exact ih, isM _ x hx ex ih2⟩
    | @shareB t b x ht hx hk eb ex _ _ ih ih2 =>
      refine key _ ht ?_
      unfold canF
      rw [if_neg (by omega), if_neg (by rw [hk]; simp [partsF])]
      split
      · rfl
      · simp only [Bool.or_eq_true, Bool.and_eq_true]
        exact .inr ⟨by rw [eb]; exact ih, isM _ x hx ex ih2⟩
  refine List.ext_getElem (by rw [mkUp_len, I.len]) fun i hi hi' => ?_
  have hil : i < ns.length := by rw [← I.len]; exact hi
  rw [mkUp_get, Bool.eq_iff_iff, mkv_Mk hp hil]
  have e : mk.getD i false = mk[i] := by simp [hi]
  exact ⟨fun h => I.ok i (by rw [e]; exact h), fun h => by rw [← e]; exact all i h⟩
/-- What is known, marked. -/
def seedF (n : Nat) (ks : List Int) : List Bool := ks.foldl (fun mk t => mk.set t.toNat true) (List.replicate n false)
theorem seed_len (ks : List Int) : ∀ mk : List Bool, (ks.foldl (fun mk t => mk.set t.toNat true) mk).length = mk.length := by
  induction ks with
  | nil => intro mk; rfl
  | cons x xs ih => intro mk; rw [List.foldl_cons, ih]; simp
theorem seed_get {n : Nat} : ∀ (ks : List Int) (mk : List Bool), mk.length = n → (∀ x ∈ ks, hasF n x = true) → ∀ t : Nat, (ks.foldl (fun mk t => mk.set t.toNat true) mk).getD t false = true ↔ (t : Int) ∈ ks ∨ mk.getD t false = true
  | [], mk, hl, _, t => by simp
  | x :: xs, mk, hl, hx, t => by
    obtain ⟨j, rfl, hj⟩ := hasN (hx x (by simp))
    rw [List.foldl_cons, seed_get xs _ (by simpa using hl) (fun y hy => hx y (by simp [hy]))]
    have e : ((j : Nat) : Int).toNat = j := rfl
    rw [e]
    have key : (mk.set j true).getD t false = true ↔ j = t ∨ mk.getD t false = true := by
      rcases Nat.decEq j t with e | e
      · simp [List.getElem?_set_ne e, e]
      · subst e; simp [List.getElem?_set_self (show j < mk.length by omega)]
    rw [key]
    simp only [List.mem_cons]
    constructor
    · rintro (h | h | h)
      · exact .inl (.inr h)
      · exact .inl (.inl (by omega))
      · exact .inr h
    · rintro ((h | h) | h)
      · exact .inr (.inl (by omega))
      · exact .inl h
      · exact .inr (.inr h)
theorem seed_inv {ns : List Nd} {ks : List Int} (hks : ∀ x ∈ ks, hasF ns.length x = true) : MkI ns ks (seedF ns.length ks) := by
  have h := fun t => seed_get ks (List.replicate ns.length false) (by simp) hks t
  have h0 : ∀ t, ¬ (List.replicate ns.length false).getD t false = true := fun t => by simp [List.getElem?_replicate]; split <;> simp
  exact ⟨by simp [seedF, seed_len], fun t ht => .know (((h t).1 ht).resolve_right (h0 t)), fun t ht => (h t).2 (.inl ht)⟩
end Go.Proofs.YtcfgiffgahdlbaaGreat.C

set_option linter.unusedVariables false
set_option linter.unusedSimpArgs false
set_option maxRecDepth 4000
namespace Go.Proofs.YtcfgiffgahdlbaaGreat.C
open Go.Sym Go.Proofs.YtcfgiffgahdlbaaGreat.I
theorem impl_Pool_makes_c (ns : List Nd) (ks : List Int) (hp : poolF ns = true) (hks : ∀ x ∈ ks, hasF ns.length x = true) (hkl : ks.length < 9223372036854775807) : T 42 [.pt [.sl ns.length (enc ns)], aI ks] [] (bref 0 (mkUp ns ks ns.length)) ([⟨(mkUp ns ks ns.length).length, false, 1, bls (mkUp ns ks ns.length), none⟩]) := by
  refine semT' (S := S0) hm impl_Pool_makes_ok (Nat.le_of_ble_eq_true rfl) ?_
  unfold impl_Pool_makes; dsimp only
  have hl5 := poolF_len hp
  have hl : ns.length < 9223372036854775807 := by omega
  have I0 := seed_inv hks
  simp
  repeat (refine ck_intro' (by first | omega | (simp; omega) | kernel_rfl) ?_; try simp [hl5])
  rw [← bls_rep]
  refine WLoop_fam (fun p : Nat × List Bool => [(0, A.pt [A.sl ns.length (enc ns)]), (5, A.ref 0 0 0 ns.length), (16, aI ks), (17, i6 ks.length), (18, i6 p.1)]) (fun p => [⟨0, false, 1, bls p.2, none⟩]) (fun p => ks.length - p.1)
    (fun p => p.1 ≤ ks.length ∧ p.2.length = ns.length ∧ p.2 = (ks.take p.1).foldl (fun mk t => mk.set t.toNat true) (List.replicate ns.length false)) ?_ (0, List.replicate ns.length false) ⟨Nat.zero_le _, by simp, by simp⟩
  rintro ⟨i, mk⟩ ⟨hi, hml, hmk⟩ ih
  simp only at hi hml hmk
  simp
  refine br_intro' (fun u => ?_) (fun u => ?_) <;> (have u0 := u) <;> simp only [decide_eq_true_eq, decide_eq_false_iff_not] at u <;> simp [u0, u]
  · obtain ⟨t, et, ht⟩ := hasN (hks _ (List.getElem_mem u))
    have hw := wrap_succ (n := i) (by omega)
    have htm : t < mk.length := by omega
    repeat (refine ck_intro' (by first | omega | (simp; omega) | kernel_rfl) ?_; try simp [u])
    rw [et]
    simp [ht, hml, htm, bls_set]
    repeat (refine ck_intro' (by first | omega | (simp; omega) | kernel_rfl) ?_; try simp [ht, hml, htm])
    rw [hw]
    exact ih (i + 1, mk.set t true) ⟨u, by simpa using hml, by rw [List.take_succ_eq_append_getElem u, List.foldl_append, ← hmk, et]; rfl⟩ (by simp; omega)
  · have hik : i = ks.length := by omega
    have hseed : mk = seedF ns.length ks := by rw [hmk, hik, List.take_length]; rfl
    rw [hseed]
    clear hseed hmk hml ih u0 u hi mk
    refine WLoop_fam (fun p : Bool × List Bool => [(0, A.pt [A.sl ns.length (enc ns)]), (5, A.ref 0 0 0 ns.length), (8, A.bool p.1)]) (fun p => [⟨0, false, 1, bls p.2, none⟩]) (fun p => 2 * falses p.2 + if p.1 = true then 1 else 0)
      (fun p => MkI ns ks p.2 ∧ (p.1 = false → ∀ i : Nat, i < ns.length → p.2.getD i false = false → canF ns p.2 i = false)) ?_ (true, seedF ns.length ks) ⟨I0, fun h => by simp at h⟩
    rintro ⟨b, mk⟩ ⟨I, hst⟩ ih
    simp only at I hst
    have hml := I.len
    cases b with
    | false =>
      have e := mk_stuck hp hks I (hst rfl)
      simp
      rw [e]
      have hmm := mkUp_len ns ks ns.length
      exact LeV.tell [some 0] (by simp) (by simp) (by simp [hmm])
    | true =>
      simp
      have hps := mkPass_spec hp ns.length 0 mk false (by omega) I
      refine WLoop_fam (fun p : Nat × List Bool × Bool => [(0, A.pt [A.sl ns.length (enc ns)]), (5, A.ref 0 0 0 ns.length), (8, A.bool p.2.2), (28, i6 ns.length), (29, i6 p.1)]) (fun p => [⟨0, false, 1, bls p.2.1, none⟩]) (fun p => ns.length - p.1)
        (fun p => p.1 ≤ ns.length ∧ p.2.1.length = ns.length ∧ mkPass ns ns.length 0 mk false = mkPass ns (ns.length - p.1) p.1 p.2.1 p.2.2) ?_ (0, mk, false) ⟨Nat.zero_le _, hml, rfl⟩
      rintro ⟨t, mk2, m2⟩ ⟨ht, hml2, hgo⟩ ih2
      simp only at ht hml2 hgo
      simp
      refine br_intro' (fun u => ?_) (fun u => ?_) <;> (have u0 := u) <;> simp only [decide_eq_true_eq, decide_eq_false_iff_not] at u <;> simp [u0, u]
      · have hw := wrap_succ (n := t) (by omega)
        have htm : t < mk2.length := by omega
        have hgn : mkPass ns (ns.length - t) t mk2 m2 = if mk2.getD t false = false ∧ canF ns mk2 t = true then mkPass ns (ns.length - (t + 1)) (t + 1) (mk2.set t true) true else mkPass ns (ns.length - (t + 1)) (t + 1) mk2 m2 := by
          rw [show ns.length - t = (ns.length - (t + 1)) + 1 by omega]; rfl
        have eb := bls_at htm
        repeat (refine ck_intro' (by first | omega | (simp; omega) | kernel_rfl) ?_; try simp [u, htm])
        simp [eb]
        refine br_intro' (fun v => ?_) (fun v => ?_) <;> (have v0 := v) <;> simp [v0]
        · rw [hw]
          exact ih2 (t + 1, mk2, m2) ⟨u, hml2, by rw [hgo, hgn, if_neg (by simp [htm, v])]⟩ (by simp; omega)
        · have tk : (bls mk2).take ns.length = bls mk2 := List.take_of_length_le (by simp; omega)
          refine impl_Pool_canMake_k (ns := ns) (t := t) (mk := mk2) hl hp hml2 (hasF_of u) rfl (by simp [hml2, tk]) (by simp [noslBlks]) ?_; simp [shiftB]
          refine br_intro' (fun z => ?_) (fun z => ?_) <;> (have z0 := z) <;> simp [z0]
          · have hul : t < ns.length := u
            repeat (refine ck_intro' (by first | omega | (simp; omega) | kernel_rfl) ?_; try simp [u, htm, hml2])
            simp [u, htm, bls_set]
            repeat (refine ck_intro' (by first | omega | (simp; omega) | kernel_rfl) ?_; try simp [u, htm, hml2])
            rw [hw]
            exact ih2 (t + 1, mk2.set t true, true) ⟨u, by simpa using hml2, by rw [hgo, hgn, if_pos (by simp [htm, v, z])]⟩ (by simp; omega)
          · rw [hw]
            exact ih2 (t + 1, mk2, m2) ⟨u, hml2, by rw [hgo, hgn, if_neg (by simp [z])]⟩ (by simp; omega)
      · have ht0 : ns.length - t = 0 := by omega
        have e0 : mkPass ns ns.length 0 mk false = (mk2, m2) := by rw [hgo, ht0]; rfl
        rw [e0] at hps
        obtain ⟨p1, p2, p3, p4⟩ := hps
        refine WLoop_env [(0, A.pt [A.sl ns.length (enc ns)]), (5, A.ref 0 0 0 ns.length), (8, A.bool m2)] ?_ ?_
        · intro s y hy
          simp [Sym.get] at hy ⊢
          (repeat' split at hy) <;> simp_all
        refine ih (m2, mk2) ⟨p1, fun h => ?_⟩ ?_
        · obtain ⟨_, q1, q2⟩ := p4 h
          simp only at q1 ⊢
          rw [q1]
          exact fun i hi => q2 i (Nat.zero_le _) hi
        · simp only at p2 p3 p4 ⊢
          cases m2 with
          | true => have := (p3 rfl).resolve_left (by simp); simp; omega
          | false => have := (p4 rfl).2.1; rw [this]; simp
theorem impl_Pool_makes_k {ns : List Nd} {ks : List Int} (hp : poolF ns = true) (hks : ∀ x ∈ ks, hasF ns.length x = true) (hkl : ks.length < 9223372036854775807) {S : FuncId → Bool} {H : List Blk} {K : A → Dl → Prop} {zs : List A} (hS : S 42 = false) (hv : viewL (viewA 8 H) zs = some [.pt [.sl ns.length (enc ns)], aI ks]) (ho : noOwns zs = true ∨ nosl (bref 0 (mkUp ns ks ns.length)) = true ∧ noslBlks ([⟨(mkUp ns ks ns.length).length, false, 1, bls (mkUp ns ks ns.length), none⟩]) = true) (hK : K (shiftA H.length (bref 0 (mkUp ns ks ns.length))) (.news (([⟨(mkUp ns ks ns.length).length, false, 1, bls (mkUp ns ks ns.length), none⟩]).map (shiftB H.length)))) : @WCall' Go.Proofs.Tryz.prog S 42 zs H ⟨K⟩ :=
  WCall_ro' hS hv (impl_Pool_makes_c ns ks hp hks hkl) rfl ho hK
end Go.Proofs.YtcfgiffgahdlbaaGreat.C

set_option linter.unusedVariables false
set_option linter.unusedSimpArgs false
set_option maxRecDepth 4000
namespace Go.Proofs.YtcfgiffgahdlbaaGreat.C
open Go.Sym Go.Proofs.YtcfgiffgahdlbaaGreat.I
theorem row_call {f : FuncId} {S : FuncId → Bool} {H : List Blk} {K : A → Dl → Prop} {b : Nat} {k' : Blk} {zs : List A} {r : A} (hS : S f = true) (hf : SemT Go.Proofs.Tryz.prog f zs H r (H.set b k')) (hK : K r (.full [b] (H.set b k'))) : @WCall' Go.Proofs.Tryz.prog S f zs H ⟨K⟩ :=
  WCall_t' hS [b] hf (by simp) (fun q hq hl => by
    simp at hq
    rw [List.getElem?_set_ne (Ne.symm hq)]) hK
theorem same_call {f : FuncId} {S : FuncId → Bool} {H : List Blk} {K : A → Dl → Prop} {zs : List A} {r : A} (hS : S f = true) (hf : SemT Go.Proofs.Tryz.prog f zs H r H) (hK : K r (.full [] H)) : @WCall' Go.Proofs.Tryz.prog S f zs H ⟨K⟩ :=
  WCall_t' hS [] hf (Nat.le_refl _) (fun q hq hl => rfl) hK
theorem slices_Clip_int_m (H : List Blk) (b v m : Nat) (ro : Bool) (cs : List A) (hk : H[b]? = some ⟨v, ro, 1, cs, none⟩) (hl : m ≤ cs.length) : T 88 [.ref b v 0 m] (H) (.ref b v 0 m) (H) := by
  refine semT' (S := S0) hm slices_Clip_int_ok (Nat.le_of_ble_eq_true rfl) ?_
  unfold slices_Clip_int; dsimp only
  simp [hk]
  exact LeV.refl _ _ _
theorem slices_Clone_int_c (xs : List Int) (hl : xs.length ≤ 4294967296) : T 86 [aI xs] [] (jref 0 xs) ([jblk xs]) := by
  refine semT' (S := S0) hm slices_Clone_int_ok (Nat.le_of_ble_eq_true rfl) ?_
  unfold slices_Clone_int; dsimp only
  simp
  have h1 : ((xs.length : Int)) * 8 ≤ 17592186044416 := by omega
  have h2 : (xs.length : Int) ≤ 4294967296 := by omega
  refine br_intro' (fun h => ?_) (fun h => ?_)
  · have h0 : xs = [] := by simpa using h
    subst h0
    simp
    first | (refine LeV.tell [none] ?_ ?_ ?_ <;> (simp; done)) | (refine LeV.tell [some 0] ?_ ?_ ?_ <;> (simp; done)) | (refine LeV.tell [some 1] ?_ ?_ ?_ <;> (simp; done)) | (refine LeV.tell [some 2] ?_ ?_ ?_ <;> (simp; done)) | (refine LeV.tell [some 3] ?_ ?_ ?_ <;> (simp; done)) | (refine LeV.tell [some 4] ?_ ?_ ?_ <;> (simp; done)) | (refine LeV.tell [some 5] ?_ ?_ ?_ <;> (simp; done)) | (refine LeV.tell [some 6] ?_ ?_ ?_ <;> (simp; done)) | (refine LeV.tell [some 7] ?_ ?_ ?_ <;> (simp; done)) | (refine LeV.tell [some 8] ?_ ?_ ?_ <;> (simp; done)) | (refine LeV.tell [some 9] ?_ ?_ ?_ <;> (simp; done)) | (refine LeV.tell [some 10] ?_ ?_ ?_ <;> (simp; done)) | (refine LeV.tell [some 11] ?_ ?_ ?_ <;> (simp; done)) | (refine LeV.tell [some 12] ?_ ?_ ?_ <;> (simp; done)) | (refine LeV.tell [some 13] ?_ ?_ ?_ <;> (simp; done)) | (refine LeV.tell [some 14] ?_ ?_ ?_ <;> (simp; done)) | (refine LeV.tell [some 15] ?_ ?_ ?_ <;> (simp; done))
  · have h0 : xs ≠ [] := by simpa using h
    simp [h0]
    refine ck_intro' (by omega) ?_; simp [h0]
    first | (refine LeV.tell [none] ?_ ?_ ?_ <;> (simp [h0]; done)) | (refine LeV.tell [some 0] ?_ ?_ ?_ <;> (simp [h0]; done)) | (refine LeV.tell [some 1] ?_ ?_ ?_ <;> (simp [h0]; done)) | (refine LeV.tell [some 2] ?_ ?_ ?_ <;> (simp [h0]; done)) | (refine LeV.tell [some 3] ?_ ?_ ?_ <;> (simp [h0]; done)) | (refine LeV.tell [some 4] ?_ ?_ ?_ <;> (simp [h0]; done)) | (refine LeV.tell [some 5] ?_ ?_ ?_ <;> (simp [h0]; done)) | (refine LeV.tell [some 6] ?_ ?_ ?_ <;> (simp [h0]; done)) | (refine LeV.tell [some 7] ?_ ?_ ?_ <;> (simp [h0]; done)) | (refine LeV.tell [some 8] ?_ ?_ ?_ <;> (simp [h0]; done)) | (refine LeV.tell [some 9] ?_ ?_ ?_ <;> (simp [h0]; done)) | (refine LeV.tell [some 10] ?_ ?_ ?_ <;> (simp [h0]; done)) | (refine LeV.tell [some 11] ?_ ?_ ?_ <;> (simp [h0]; done)) | (refine LeV.tell [some 12] ?_ ?_ ?_ <;> (simp [h0]; done)) | (refine LeV.tell [some 13] ?_ ?_ ?_ <;> (simp [h0]; done)) | (refine LeV.tell [some 14] ?_ ?_ ?_ <;> (simp [h0]; done)) | (refine LeV.tell [some 15] ?_ ?_ ?_ <;> (simp [h0]; done))
theorem slices_Clone_int_k {xs : List Int} (hl : xs.length ≤ 4294967296) {S : FuncId → Bool} {H : List Blk} {K : A → Dl → Prop} {zs : List A} (hS : S 86 = false) (hv : viewL (viewA 8 H) zs = some [aI xs]) (ho : noOwns zs = true ∨ nosl (jref 0 xs) = true ∧ noslBlks ([jblk xs]) = true) (hK : K (shiftA H.length (jref 0 xs)) (.news (([jblk xs]).map (shiftB H.length)))) : @WCall' Go.Proofs.Tryz.prog S 86 zs H ⟨K⟩ :=
  WCall_ro' hS hv (slices_Clone_int_c xs hl) rfl ho hK
/-- What a term that is known opens. -/
def addO (ns : List Nd) (mk : List Bool) (t : Int) : List Int :=
  if (nodeAt ns t).k = 2 then [(nodeAt ns t).a, (nodeAt ns t).b] else if (nodeAt ns t).k = 4 ∨ (nodeAt ns t).k = 3 ∧ bv mk (nodeAt ns t).b = true then [(nodeAt ns t).a] else []
def outO (ns : List Nd) (mk : List Bool) (ks : List Int) : List Int := ks.foldl (fun out t => out ++ addO ns mk t) ks
theorem outO_mem {ns : List Nd} {mk : List Bool} {x : Int} : ∀ {ks out : List Int}, x ∈ ks.foldl (fun out t => out ++ addO ns mk t) out ↔ x ∈ out ∨ ∃ t ∈ ks, x ∈ addO ns mk t
  | [], out => by simp
  | y :: ys, out => by
    rw [List.foldl_cons, outO_mem]
    simp only [List.mem_append, List.mem_cons, exists_eq_or_imp, or_assoc]
theorem stepO_mem' {ns : List Nd} {mk : List Bool} {out : List Int} {t x : Int} : x ∈ stepO ns mk out t ↔ x ∈ out ∨ x ∈ addO ns mk t := by
  unfold stepO addO
  split
  · rw [putF_mem, putF_mem]
    simp only [List.mem_cons, List.not_mem_nil, or_false]
    constructor
    · rintro (h | h | h)
      · exact .inr (.inr h)
      · exact .inr (.inl h)
      · exact .inl h
    · rintro (h | h | h)
      · exact .inr (.inr h)
      · exact .inr (.inl h)
      · exact .inl h
  · split
    · rw [putF_mem]
      simp [or_comm]
    · simp
theorem foldO_mem' {ns : List Nd} {mk : List Bool} {x : Int} : ∀ {ks out : List Int}, x ∈ ks.foldl (stepO ns mk) out ↔ x ∈ out ∨ ∃ t ∈ ks, x ∈ addO ns mk t
  | [], out => by simp
  | y :: ys, out => by
    rw [List.foldl_cons, foldO_mem', stepO_mem']
    simp only [List.mem_cons, exists_eq_or_imp, or_assoc]
theorem once_eq {ns : List Nd} {ks : List Int} (hs : Srt ks) : cmp (sortI (outO ns (mkUp ns ks ns.length) ks)) = onceV ns ks := by
  obtain ⟨h1, h2⟩ := sqz_spec (outO ns (mkUp ns ks ns.length) ks)
  refine srt_ext h1 (onceV_srt hs) fun x => ?_
  rw [h2]
  unfold outO onceV
  rw [outO_mem, foldO_mem']
theorem outO_len {ns : List Nd} {mk : List Bool} : ∀ {ks out : List Int}, (ks.foldl (fun out t => out ++ addO ns mk t) out).length ≤ out.length + 2 * ks.length
  | [], out => by simp
  | y :: ys, out => by
    have h := @outO_len ns mk ys (out ++ addO ns mk y)
    have h2 : (addO ns mk y).length ≤ 2 := by
      unfold addO
      split
      · simp
      · split <;> simp
    rw [List.foldl_cons]
    simp only [List.length_append, List.length_cons] at h ⊢
    omega
end Go.Proofs.YtcfgiffgahdlbaaGreat.C

set_option linter.unusedVariables false
set_option linter.unusedSimpArgs false
set_option maxRecDepth 4000
namespace Go.Proofs.YtcfgiffgahdlbaaGreat.C
open Go.Sym Go.Proofs.YtcfgiffgahdlbaaGreat.I
def openF (ns : List Nd) (ks : List Int) : List Int := if 200 < (onceV ns ks).length then ks else onceV ns ks
theorem impl_Pool_openOnce_c (ns : List Nd) (ks : List Int) (hkp : kpF ns ks = true) : T 66 [.pt [.sl ns.length (enc ns)], aI ks] [] (jref 0 (openF ns ks)) ([jblk (openF ns ks)]) := by
  refine semT' (S := (fun f => [87, 89, 88].contains f)) hm impl_Pool_openOnce_ok (Nat.le_of_ble_eq_true rfl) ?_
  unfold impl_Pool_openOnce; dsimp only
  obtain ⟨hp, hks, hsr, hkl⟩ := kpF_iff.1 hkp
  have hl5 := poolF_len hp
  simp
  refine impl_Pool_makes_k (ns := ns) (ks := ks) hp hks (by omega) rfl (by simp) (by simp [noslBlks]) ?_; simp [shiftB]
  have hmm := mkUp_len ns ks ns.length
  refine slices_Clone_int_k (xs := ks) (by omega) rfl (by simp) (by simp [noslBlks]) ?_; simp [shiftB]
  have hon := once_eq (ns := ns) hsr
  have hol := @outO_len ns (mkUp ns ks ns.length) ks ks
  have hoe : outO ns (mkUp ns ks ns.length) ks = ks.foldl (fun out t => out ++ addO ns (mkUp ns ks ns.length) t) ks := rfl
  generalize mkUp ns ks ns.length = mk at hmm hon hol hoe ⊢
  have hmt : (bls mk).take mk.length = bls mk := List.take_of_length_le (by simp)
  refine WLoop_fam (fun p : Nat × Nat × List Int => [(0, A.pt [A.sl ns.length (enc ns)]), (1, aI ks), (5, A.ref 0 mk.length 0 mk.length), (6, A.ref 1 p.2.1 0 p.2.2.length), (15, aI ks), (16, i6 ks.length), (17, i6 p.1)])
    (fun p => [⟨mk.length, false, 1, bls mk, none⟩, ⟨p.2.1, decide (p.2.2 = []), 1, ints p.2.2, none⟩]) (fun p => ks.length - p.1)
    (fun p => p.1 ≤ ks.length ∧ p.2.2.length ≤ ks.length + 2 * p.1 ∧ p.2.1 ≤ ks.length + p.1 ∧ outO ns mk ks = (ks.drop p.1).foldl (fun out t => out ++ addO ns mk t) p.2.2) ?_ (0, ks.length, ks) ⟨Nat.zero_le _, by simp, by simp, by simp [hoe]⟩
  rintro ⟨i, v, out⟩ ⟨hi, hil, hvl, hgo⟩ ih
  simp only at hi hil hvl hgo
  simp
  refine br_intro' (fun u => ?_) (fun u => ?_) <;> (have u0 := u) <;> simp only [decide_eq_true_eq, decide_eq_false_iff_not] at u <;> simp [u0, u]
  · obtain ⟨j, ej, hj⟩ := hasN (hks _ (List.getElem_mem u))
    have hw := wrap_succ (n := i) (by omega)
    obtain ⟨q, hq⟩ := enc_at hj
    have h3 : 3 ≤ ns.length * 3 - j * 3 := by omega
    have en := nodeAt_nat hj
    have hgn : ∀ o, addO ns mk j = o → outO ns mk ks = (ks.drop (i + 1)).foldl (fun out t => out ++ addO ns mk t) (out ++ o) := fun o ho => by
      rw [hgo, List.drop_eq_getElem_cons u, List.foldl_cons, ej, ho]
    repeat (refine ck_intro' (by first | omega | (simp; omega) | kernel_rfl) ?_; try simp [u])
    rw [ej]
    simp [h3, hq, hj]
    repeat (refine ck_intro' (by first | omega | (simp; omega) | kernel_rfl) ?_; try simp [hj])
    refine br_intro' (fun v1 => ?_) (fun v1 => ?_) <;> (have v10 := v1) <;> simp only [decide_eq_true_eq, decide_eq_false_iff_not] at v1 <;> simp [v10, v1]
    · have ho : addO ns mk j = [ns[j].a, ns[j].b] := by simp [addO, en, v1]
      repeat (refine ck_intro' (by first | omega | (simp; omega) | kernel_rfl) ?_; try simp [v1])
      rw [hw]
      refine WLoop_drop [⟨mk.length, false, 1, bls mk, none⟩, ⟨v + 1, decide (out ++ [ns[j].a, ns[j].b] = []), 1, ints (out ++ [ns[j].a, ns[j].b]), none⟩] [_, _] (by simp [ints]; exact ⟨rfl, rfl⟩) (by simp) (by simp) (by simp) ?_
      rw [show A.ref 1 (v + 1) 0 (out.length + 2) = A.ref 1 (v + 1) 0 (out ++ [ns[j].a, ns[j].b]).length by simp]
      exact ih (i + 1, v + 1, out ++ [ns[j].a, ns[j].b]) ⟨u, by simp; omega, by simp; omega, by simpa using hgn _ ho⟩ (by simp; omega)
    · refine br_intro' (fun v2 => ?_) (fun v2 => ?_) <;> (have v20 := v2) <;> simp only [decide_eq_true_eq, decide_eq_false_iff_not] at v2 <;> simp [v20, v2]
      · have ho : addO ns mk j = [ns[j].a] := by simp [addO, en, v2]
        repeat (refine ck_intro' (by first | omega | (simp; omega) | kernel_rfl) ?_; try simp [v2])
        rw [hw]
        refine WLoop_drop [⟨mk.length, false, 1, bls mk, none⟩, ⟨v + 1, decide (out ++ [ns[j].a] = []), 1, ints (out ++ [ns[j].a]), none⟩] [_, _] (by simp [ints]; exact ⟨rfl, rfl⟩) (by simp) (by simp) (by simp) ?_
        rw [show A.ref 1 (v + 1) 0 (out.length + 1) = A.ref 1 (v + 1) 0 (out ++ [ns[j].a]).length by simp]
        exact ih (i + 1, v + 1, out ++ [ns[j].a]) ⟨u, by simp; omega, by simp; omega, by simpa using hgn _ ho⟩ (by simp; omega)
      · refine br_intro' (fun v3 => ?_) (fun v3 => ?_) <;> (have v30 := v3) <;> simp only [decide_eq_true_eq, decide_eq_false_iff_not] at v3 <;> simp [v30, v3]
        · obtain ⟨_, b, eb, hb⟩ := parts_in hp hj (by rw [v3]; rfl)
          have hbm : b < mk.length := by omega
          have ebb := bls_at hbm
          have ebv := bv_nat hbm
          rw [eb]
          repeat (refine ck_intro' (by first | omega | (simp; omega) | kernel_rfl) ?_; try simp [hbm, ebb])
          refine br_intro' (fun z => ?_) (fun z => ?_) <;> (have z0 := z) <;> simp [z0]
          · have ho : addO ns mk j = [ns[j].a] := by simp [addO, en, v3, eb, ebv, z]
            repeat (refine ck_intro' (by first | omega | (simp; omega) | kernel_rfl) ?_; try simp [z0])
            rw [hw]
            refine WLoop_drop [⟨mk.length, false, 1, bls mk, none⟩, ⟨v + 1, decide (out ++ [ns[j].a] = []), 1, ints (out ++ [ns[j].a]), none⟩] [_, _] (by simp [ints]; exact ⟨rfl, rfl⟩) (by simp) (by simp) (by simp) ?_
            rw [show A.ref 1 (v + 1) 0 (out.length + 1) = A.ref 1 (v + 1) 0 (out ++ [ns[j].a]).length by simp]
            exact ih (i + 1, v + 1, out ++ [ns[j].a]) ⟨u, by simp; omega, by simp; omega, by simpa using hgn _ ho⟩ (by simp; omega)
          · have ho : addO ns mk j = [] := by simp [addO, en, v3, eb, ebv, z]
            rw [hw]
            refine WLoop_drop [⟨mk.length, false, 1, bls mk, none⟩, ⟨v, decide (out = []), 1, ints out, none⟩] [_] (by simp; rfl) (by simp) (by simp) (by simp) ?_
            exact ih (i + 1, v, out) ⟨u, by simp; omega, by simp; omega, by simpa using hgn _ ho⟩ (by simp; omega)
        · have ho : addO ns mk j = [] := by simp [addO, en, v1, v2, v3]
          rw [hw]
          refine WLoop_drop [⟨mk.length, false, 1, bls mk, none⟩, ⟨v, decide (out = []), 1, ints out, none⟩] [_] (by simp; rfl) (by simp) (by simp) (by simp) ?_
          exact ih (i + 1, v, out) ⟨u, by simp; omega, by simp; omega, by simpa using hgn _ ho⟩ (by simp; omega)
  · have hik : ks.drop i = [] := List.drop_of_length_le (by omega)
    have hout : out = outO ns mk ks := by rw [hgo, hik]; rfl
    refine row_call (b := 1) rfl (sort_t (b := 1) (v := v) (ro := decide (out = [])) (xs := out) rfl (by simp) (by omega)) ?_; simp
    have hsl := sortI_len out
    have hcm := compact_t (H := [⟨mk.length, false, 1, bls mk, none⟩, ⟨v, decide (out = []), 1, ints (sortI out), none⟩]) (b := 1) (v := v) (ro := decide (out = [])) (xs := sortI out) rfl (fun h => by simp at h; subst h; simp [sortI]) (by omega)
    rw [hsl] at hcm
    refine row_call (b := 1) rfl hcm ?_; simp
    have hce := cmp_le (sortI out)
    refine same_call rfl (slices_Clip_int_m _ 1 v (cmp (sortI out)).length (decide (out = [])) _ rfl (by simp)) ?_; simp
    rw [hout, hon]
    refine br_intro' (fun z => ?_) (fun z => ?_) <;> (have z0 := z) <;> simp only [decide_eq_true_eq, decide_eq_false_iff_not] at z <;> simp [z0]
    · rw [show openF ns ks = ks from if_pos (by omega)]
      refine slices_Clone_int_k (xs := ks) (by omega) rfl (by simp) (by simp [noslBlks]) ?_; simp [shiftB]
      exact LeV.tell [some 2] (by simp) (by simp) (by simp)
    · rw [show openF ns ks = onceV ns ks from if_neg (by omega)]
      have he : decide (outO ns mk ks = []) = decide ((onceV ns ks).length = 0) := by
        have hmem := (sqz_spec (outO ns mk ks)).2
        rw [hon] at hmem
        rw [decide_eq_decide, List.length_eq_zero_iff]
        constructor
        · intro e
          refine List.eq_nil_iff_forall_not_mem.2 fun x hx => ?_
          have := (hmem x).1 hx
          rw [e] at this
          simp at this
        · intro e
          refine List.eq_nil_iff_forall_not_mem.2 fun x hx => ?_
          have := (hmem x).2 hx
          rw [e] at this
          simp at this
      rw [he]
      refine LeV.trans (LeV.trim (b := 1) (n := (onceV ns ks).length) rfl (Nat.zero_le _) rfl) ?_
      have ht : (ints (onceV ns ks ++ List.replicate ((outO ns mk ks).length - (onceV ns ks).length) 0)).take (onceV ns ks).length = ints (onceV ns ks) := by
        simp [ints]
      simp [ht]
      exact LeV.tell [some 1] (by simp) (by simp) (by simp)
theorem impl_Pool_openOnce_k {ns : List Nd} {ks : List Int} (hkp : kpF ns ks = true) {S : FuncId → Bool} {H : List Blk} {K : A → Dl → Prop} {zs : List A} (hS : S 66 = false) (hv : viewL (viewA 8 H) zs = some [.pt [.sl ns.length (enc ns)], aI ks]) (ho : noOwns zs = true ∨ nosl (jref 0 (openF ns ks)) = true ∧ noslBlks ([jblk (openF ns ks)]) = true) (hK : K (shiftA H.length (jref 0 (openF ns ks))) (.news (([jblk (openF ns ks)]).map (shiftB H.length)))) : @WCall' Go.Proofs.Tryz.prog S 66 zs H ⟨K⟩ :=
  WCall_ro' hS hv (impl_Pool_openOnce_c ns ks hkp) rfl ho hK
end Go.Proofs.YtcfgiffgahdlbaaGreat.C

set_option linter.unusedVariables false
set_option linter.unusedSimpArgs false
set_option maxRecDepth 4000
namespace Go.Proofs.YtcfgiffgahdlbaaGreat.C
open Go.Sym Go.Proofs.YtcfgiffgahdlbaaGreat.I
def opOnceF (ns : List Nd) (ks : List Int) : List Int := if kpF ns ks = true then openF ns ks else []
theorem openF_len {ns : List Nd} {ks : List Int} (h : kpF ns ks = true) : (openF ns ks).length ≤ 200 := by
  unfold openF
  split
  · exact kpF_len h
  · omega
theorem opOnceF_len (ns : List Nd) (ks : List Int) : (opOnceF ns ks).length ≤ 200 := by
  unfold opOnceF
  split
  · exact openF_len ‹_›
  · simp
end Go.Proofs.YtcfgiffgahdlbaaGreat.C

set_option linter.unusedVariables false
set_option linter.unusedSimpArgs false
set_option maxRecDepth 4000
namespace Go.Proofs.YtcfgiffgahdlbaaGreat.C
open Go.Sym Go.Proofs.YtcfgiffgahdlbaaGreat.I
theorem foldO_id {ns : List Nd} {mk : List Bool} {out : List Int} : ∀ {xs : List Int}, (∀ x ∈ xs, stepO ns mk out x = out) → xs.foldl (stepO ns mk) out = out
  | [], _ => rfl
  | x :: xs, h => by rw [List.foldl_cons, h x (by simp)]; exact foldO_id fun y hy => h y (by simp [hy])
theorem once_same {ns : List Nd} {ks : List Int} (h : (onceV ns ks).length = ks.length) : onceV ns ks = ks := foldO_id (foldO_same (Nat.le_of_eq h))
theorem openF_same {ns : List Nd} {ks : List Int} (hk : kpF ns ks = true) : ((openF ns ks).length = ks.length ↔ ¬ ((onceV ns ks).length ≤ 200 ∧ (onceV ns ks).length ≠ ks.length)) ∧ (¬ ((onceV ns ks).length ≤ 200 ∧ (onceV ns ks).length ≠ ks.length) → openF ns ks = ks) := by
  have hl := kpF_len hk
  unfold openF
  split
  · rename_i g
    exact ⟨⟨fun _ h => by omega, fun _ => rfl⟩, fun _ => rfl⟩
  · rename_i g
    refine ⟨⟨fun h g2 => g2.2 h, fun h => Classical.byContradiction fun e => h ⟨by omega, e⟩⟩, fun h => once_same (Classical.byContradiction fun e => h ⟨by omega, e⟩)⟩
theorem impl_Pool_openAll_c (ns : List Nd) (ks : List Int) (hkp : kpF ns ks = true) : T 41 [.pt [.sl ns.length (enc ns)], aI ks] [] (.tup [jref 0 (openV ns ks).1, i6 (openV ns ks).2]) ([jblk (openV ns ks).1]) := by
  refine semT' (S := S0) hm impl_Pool_openAll_ok (Nat.le_of_ble_eq_true rfl) ?_
  unfold impl_Pool_openAll; dsimp only
  simp
  refine WLoop_fam (fun p : Bool × Nat × List Int × Nat => [(0, A.pt [A.sl ns.length (enc ns)]), (1, if p.1 = true then aI p.2.2.1 else jref 0 p.2.2.1), (6, i6 p.2.2.2)]) (fun p => if p.1 = true then [] else [jblk p.2.2.1]) (fun p => 200 - p.2.2.1.length)
    (fun p => kpF ns p.2.2.1 = true ∧ openV ns ks = allO ns p.2.1 p.2.2.1 p.2.2.2 ∧ 201 ≤ p.2.2.1.length + p.2.1 ∧ p.2.2.2 + p.2.1 ≤ 201 ∧ (p.1 = true → p.2.2.1 = ks)) ?_ (true, 201, ks, 0) ⟨hkp, rfl, by simp, by simp, by simp⟩
  rintro ⟨b, n1, out, t⟩ ⟨hko, hgo, hn, htn, hb⟩ ih
  simp only at hko hgo hn htn hb
  have hol := kpF_len hko
  obtain ⟨n, rfl⟩ : ∃ n, n1 = n + 1 := ⟨n1 - 1, by omega⟩
  have hgn : allO ns (n + 1) out t = if (onceV ns out).length ≤ 200 ∧ (onceV ns out).length ≠ out.length then allO ns n (onceV ns out) (t + 1) else (out, t) := rfl
  have hw := wrap_succ (n := t) (by omega)
  cases b with
  | true =>
    simp
    refine impl_Pool_openOnce_k (ns := ns) (ks := out) hko rfl (by simp) (by simp [noslBlks]) ?_; simp [shiftB]
    obtain ⟨hs1, hs2⟩ := openF_same hko
    refine br_intro' (fun u => ?_) (fun u => ?_) <;> (have u0 := u) <;> simp only [decide_eq_true_eq, decide_eq_false_iff_not] at u <;> simp [u0, u]
    · have hcond := hs1.1 (by omega)
      have e := hs2 hcond
      have hv : openV ns ks = (out, t) := by rw [hgo, hgn, if_neg hcond]
      rw [hv, e]
      exact LeV.tell [some 0] (by simp) (by simp) (by simp)
    · have hcond : (onceV ns out).length ≤ 200 ∧ (onceV ns out).length ≠ out.length := Classical.byContradiction fun e => u (by have := hs1.2 e; omega)
      have e : openF ns out = onceV ns out := if_neg (by omega)
      have hge := onceV_len ns out
      rw [e, hw]
      refine WLoop_ren [some 0] [(0, A.pt [A.sl ns.length (enc ns)]), (1, jref 0 (onceV ns out)), (6, i6 ((t + 1 : Nat) : Int))] [jblk (onceV ns out)] (by simp) (by simp) (by simp) ?_
      exact ih (false, n, onceV ns out, t + 1) ⟨onceV_kp hko hcond.1, by rw [hgo, hgn, if_pos hcond], by simp only; omega, by simp only; omega, by simp⟩ (by simp; omega)
  | false =>
    simp
    refine impl_Pool_openOnce_k (ns := ns) (ks := out) hko rfl (by simp) (by simp [noslBlks]) ?_; simp [shiftB]
    obtain ⟨hs1, hs2⟩ := openF_same hko
    refine br_intro' (fun u => ?_) (fun u => ?_) <;> (have u0 := u) <;> simp only [decide_eq_true_eq, decide_eq_false_iff_not] at u <;> simp [u0, u]
    · have hcond := hs1.1 (by omega)
      have e := hs2 hcond
      have hv : openV ns ks = (out, t) := by rw [hgo, hgn, if_neg hcond]
      rw [hv, e]
      exact LeV.tell [some 1] (by simp) (by simp) (by simp)
    · have hcond : (onceV ns out).length ≤ 200 ∧ (onceV ns out).length ≠ out.length := Classical.byContradiction fun e => u (by have := hs1.2 e; omega)
      have e : openF ns out = onceV ns out := if_neg (by omega)
      have hge := onceV_len ns out
      rw [e, hw]
      refine WLoop_ren [some 1] [(0, A.pt [A.sl ns.length (enc ns)]), (1, jref 0 (onceV ns out)), (6, i6 ((t + 1 : Nat) : Int))] [jblk (onceV ns out)] (by simp) (by simp) (by simp) ?_
      exact ih (false, n, onceV ns out, t + 1) ⟨onceV_kp hko hcond.1, by rw [hgo, hgn, if_pos hcond], by simp only; omega, by simp only; omega, by simp⟩ (by simp; omega)
end Go.Proofs.YtcfgiffgahdlbaaGreat.C

set_option linter.unusedVariables false
set_option linter.unusedSimpArgs false
set_option maxRecDepth 4000
namespace Go.Proofs.YtcfgiffgahdlbaaGreat.C
open Go.Sym Go.Proofs.YtcfgiffgahdlbaaGreat.I
theorem impl_Pool_openAll_k {ns : List Nd} {ks : List Int} (hkp : kpF ns ks = true) {S : FuncId → Bool} {H : List Blk} {K : A → Dl → Prop} {zs : List A} (hS : S 41 = false) (hv : viewL (viewA 8 H) zs = some [.pt [.sl ns.length (enc ns)], aI ks]) (ho : noOwns zs = true ∨ nosl (.tup [jref 0 (openV ns ks).1, i6 (openV ns ks).2]) = true ∧ noslBlks ([jblk (openV ns ks).1]) = true) (hK : K (shiftA H.length (.tup [jref 0 (openV ns ks).1, i6 (openV ns ks).2])) (.news (([jblk (openV ns ks).1]).map (shiftB H.length)))) : @WCall' Go.Proofs.Tryz.prog S 41 zs H ⟨K⟩ :=
  WCall_ro' hS hv (impl_Pool_openAll_c ns ks hkp) rfl ho hK
def opAllF (ns : List Nd) (ks : List Int) : List Int × Nat := if kpF ns ks = true then openV ns ks else ([], 0)
theorem openV_len {ns : List Nd} {ks : List Int} (h : kpF ns ks = true) : (openV ns ks).1.length ≤ 200 := allO_len ns 201 ks 0 (kpF_len h)
theorem opAllF_len (ns : List Nd) (ks : List Int) : (opAllF ns ks).1.length ≤ 200 := by
  unfold opAllF
  split
  · exact openV_len ‹_›
  · simp
/-- Whether a term can be derived, as the program says. -/
def derT (ns : List Nd) (ks : List Int) (t : Int) : Bool := hasF ns.length t && kpF ns ks && bv (mkUp ns (openV ns ks).1 ns.length) t
theorem impl_Pool_derives_c (ns : List Nd) (ks : List Int) (hkp : kpF ns ks = true) (hop : ∀ x ∈ (openV ns ks).1, hasF ns.length x = true) : T 22 [.pt [.sl ns.length (enc ns)], aI ks] [] (bref 0 (mkUp ns (openV ns ks).1 ns.length)) ([⟨(mkUp ns (openV ns ks).1 ns.length).length, false, 1, bls (mkUp ns (openV ns ks).1 ns.length), none⟩]) := by
  refine semT' (S := S0) hm impl_Pool_derives_ok (Nat.le_of_ble_eq_true rfl) ?_
  unfold impl_Pool_derives; dsimp only
  obtain ⟨hp, hks, hsr, hkl⟩ := kpF_iff.1 hkp
  have hol := openV_len hkp
  simp
  refine impl_Pool_openAll_k (ns := ns) (ks := ks) hkp rfl (by simp) (by simp [noslBlks]) ?_; simp [shiftB]
  refine impl_Pool_makes_k (ns := ns) (ks := (openV ns ks).1) hp hop (by omega) rfl (by simp) (by simp [noslBlks]) ?_; simp [shiftB]
  first | (refine LeV.tell [none] ?_ ?_ ?_ <;> (simp; done)) | (refine LeV.tell [some 0] ?_ ?_ ?_ <;> (simp; done)) | (refine LeV.tell [some 1] ?_ ?_ ?_ <;> (simp; done)) | (refine LeV.tell [some 2] ?_ ?_ ?_ <;> (simp; done)) | (refine LeV.tell [some 3] ?_ ?_ ?_ <;> (simp; done)) | (refine LeV.tell [some 4] ?_ ?_ ?_ <;> (simp; done)) | (refine LeV.tell [some 5] ?_ ?_ ?_ <;> (simp; done)) | (refine LeV.tell [some 6] ?_ ?_ ?_ <;> (simp; done)) | (refine LeV.tell [some 7] ?_ ?_ ?_ <;> (simp; done)) | (refine LeV.tell [some 8] ?_ ?_ ?_ <;> (simp; done)) | (refine LeV.tell [some 9] ?_ ?_ ?_ <;> (simp; done)) | (refine LeV.tell [some 10] ?_ ?_ ?_ <;> (simp; done)) | (refine LeV.tell [some 11] ?_ ?_ ?_ <;> (simp; done)) | (refine LeV.tell [some 12] ?_ ?_ ?_ <;> (simp; done)) | (refine LeV.tell [some 13] ?_ ?_ ?_ <;> (simp; done)) | (refine LeV.tell [some 14] ?_ ?_ ?_ <;> (simp; done)) | (refine LeV.tell [some 15] ?_ ?_ ?_ <;> (simp; done))
theorem impl_Pool_derives_k {ns : List Nd} {ks : List Int} (hkp : kpF ns ks = true) (hop : ∀ x ∈ (openV ns ks).1, hasF ns.length x = true) {S : FuncId → Bool} {H : List Blk} {K : A → Dl → Prop} {zs : List A} (hS : S 22 = false) (hv : viewL (viewA 8 H) zs = some [.pt [.sl ns.length (enc ns)], aI ks]) (ho : noOwns zs = true ∨ nosl (bref 0 (mkUp ns (openV ns ks).1 ns.length)) = true ∧ noslBlks ([⟨(mkUp ns (openV ns ks).1 ns.length).length, false, 1, bls (mkUp ns (openV ns ks).1 ns.length), none⟩]) = true) (hK : K (shiftA H.length (bref 0 (mkUp ns (openV ns ks).1 ns.length))) (.news (([⟨(mkUp ns (openV ns ks).1 ns.length).length, false, 1, bls (mkUp ns (openV ns ks).1 ns.length), none⟩]).map (shiftB H.length)))) : @WCall' Go.Proofs.Tryz.prog S 22 zs H ⟨K⟩ :=
  WCall_ro' hS hv (impl_Pool_derives_c ns ks hkp hop) rfl ho hK
theorem openV_has {ns : List Nd} {ks : List Int} (h : kpF ns ks = true) : ∀ x ∈ (openV ns ks).1, hasF ns.length x = true := by
  obtain ⟨hp, hks, _, _⟩ := kpF_iff.1 h
  have key : ∀ (n : Nat) (out : List Int) (t : Nat), (∀ x ∈ out, hasF ns.length x = true) → ∀ x ∈ (allO ns n out t).1, hasF ns.length x = true := by
    intro n
    induction n with
    | zero => intro out t ho; exact ho
    | succ n ih =>
      intro out t ho
      unfold allO
      split
      · exact ih _ _ (onceV_mem hp ho)
      · exact ho
  exact key 201 ks 0 hks
theorem impl_Derives_c (ns : List Nd) (ks : List Int) (t : Int) (hl : ns.length < 9223372036854775807) (hk : ks.length < 9223372036854775807) : T 9 [aP ns, aI ks, i6 t] [] (.bool (derT ns ks t)) ([]) := by
  refine semT' (S := S0) hm impl_Derives_ok (Nat.le_of_ble_eq_true rfl) ?_
  unfold impl_Derives; dsimp only
  simp
  refine WCall_pure rfl (impl_Pool_isTerm_c ns [] t hl) (by simp) (by simp) (by simp) ?_; simp
  refine br_intro' (fun g => ?_) (fun g => ?_) <;> (have g0 := g) <;> simp [g0]
  · refine impl_KnowOk_k (ns := ns) (ks := ks) hl hk rfl (by simp) (by simp [noslBlks]) ?_; simp [shiftB]
    refine br_intro' (fun u => ?_) (fun u => ?_) <;> (have u0 := u) <;> simp [u0]
    · obtain ⟨j, rfl, hj⟩ := hasN g
      have hmm := mkUp_len ns (openV ns ks).1 ns.length
      have hjm : j < (mkUp ns (openV ns ks).1 ns.length).length := by omega
      have eb := bls_at hjm
      have ebv := bv_nat hjm
      refine impl_Pool_derives_k (ns := ns) (ks := ks) u (openV_has u) rfl (by simp) (by simp [noslBlks]) ?_; simp [shiftB]
      repeat (refine ck_intro' (by first | omega | (simp; omega) | kernel_rfl) ?_; try simp [hjm])
      try simp [eb]
      repeat (refine ck_intro' (by first | omega | (simp; omega) | kernel_rfl) ?_; try simp [hjm])
      exact LeV.ro rfl rfl (by simp [derT, g, u, ebv])
    · repeat (refine ck_intro' (by first | omega | (simp; omega) | kernel_rfl) ?_; try simp [g0])
      exact LeV.ro rfl rfl (by simp [derT, u])
  · repeat (refine ck_intro' (by first | omega | (simp; omega) | kernel_rfl) ?_; try simp [g0])
    exact LeV.ro rfl rfl (by simp [derT, g])
theorem impl_Derives_call {ns : List Nd} {ks : List Int} {t : Int} (hl : ns.length < 9223372036854775807) (hk : ks.length < 9223372036854775807) {S : FuncId → Bool} {H : List Blk} {K : A → Dl → Prop} (hS : S 9 = false) (hK : K (.bool (derT ns ks t)) (.news [])) : @WCall' Go.Proofs.Tryz.prog S 9 [aP ns, aI ks, i6 t] H ⟨K⟩ :=
  WCall_pure hS (impl_Derives_c ns ks t hl hk) (by simp) (by simp) (by simp) hK
theorem impl_Derives_k {ns : List Nd} {ks : List Int} {t : Int} (hl : ns.length < 9223372036854775807) (hk : ks.length < 9223372036854775807) {S : FuncId → Bool} {H : List Blk} {K : A → Dl → Prop} {zs : List A} (hS : S 9 = false) (hv : viewL (viewA 8 H) zs = some [aP ns, aI ks, i6 t]) (ho : noOwns zs = true ∨ nosl (.bool (derT ns ks t)) = true) (hK : K (.bool (derT ns ks t)) (.news [])) : @WCall' Go.Proofs.Tryz.prog S 9 zs H ⟨K⟩ :=
  WCall_pure hS (impl_Derives_c ns ks t hl hk) hv ho (by simp) hK
end Go.Proofs.YtcfgiffgahdlbaaGreat.C

set_option linter.unusedVariables false
set_option linter.unusedSimpArgs false
namespace Go.Proofs.YtcfgiffgahdlbaaGreat.C
theorem derT_iff {ns : List Nd} (hme : Meek ns) {ks : List Int} (h : kpF ns ks = true) {t : Nat} (ht : t < ns.length) : derT ns ks t = true ↔ Der ns ks t := by
  obtain ⟨hp, hks, _, _⟩ := kpF_iff.1 h
  obtain ⟨O, S⟩ := openV_spec hme h
  have e : derT ns ks t = bv (mkUp ns (openV ns ks).1 ns.length) t := by simp only [derT, hasF_of ht, h, Bool.true_and]
  rw [e, bv_Mk hp ht]
  exact ⟨fun q => Mk_Der O.der q, fun q => Der_Mk O S q⟩
theorem derT_kp {ns : List Nd} {ks : List Int} {t : Int} (h : derT ns ks t = true) : kpF ns ks = true ∧ ∃ j : Nat, t = j ∧ j < ns.length := by
  simp only [derT, Bool.and_eq_true] at h
  exact ⟨h.1.2, hasN h.1.1⟩
theorem idxT_has {t : Int} : ∀ {ss : List Sp} {i : Nat}, (∃ s ∈ ss, s.t = t) → 0 ≤ idxT ss t i
  | [], i, h => by simp at h
  | x :: xs, i, h => by
    unfold idxT
    split
    · omega
    · rename_i e
      obtain ⟨s, hs, hst⟩ := h
      have ih := @idxT_has t xs (i + 1)
      rcases List.mem_cons.1 hs with g | g
      · subst g; first | exact absurd hst e | exact absurd hst.symm e
      · have := ih ⟨s, g, hst⟩
        first | exact this | (simp only [Int.natCast_add] at this; exact this) | simpa using this
/-- There is a proof of just what can be derived. -/
theorem ofF_derT {ns : List Nd} (hme : Meek ns) {ks : List Int} (t : Int) : (ofF ns ks t).2 = derT ns ks t := by
  have e : (ofF ns ks t).2 = decide (0 ≤ idxT (allSt ns ks) t 0) := by
    unfold ofF
    split <;> simp_all
  rw [e, Bool.eq_iff_iff, decide_eq_true_eq]
  by_cases h : kpF ns ks = true
  · obtain ⟨hp, hks, _, _⟩ := kpF_iff.1 h
    obtain ⟨st, e1, e2, e3, e4⟩ := allV_spec hp hks
    have ea : allSt ns ks = allV ns ks := if_pos h
    rw [ea]
    constructor
    · intro g
      obtain ⟨j, hj, _, ej⟩ := idxT_at0 g
      obtain ⟨t', et, htl, hd⟩ := proof_Der hp (allV_inv ks hp).ok j hj
      rw [spAt_lt hj, ej] at et
      subst et
      exact (derT_iff hme h htl).2 hd
    · intro g
      obtain ⟨_, j, rfl, hj⟩ := derT_kp g
      obtain ⟨i, hi, ei⟩ := (e4 j hj).1 ((e3 j hj).2 ((derT_iff hme h hj).1 g))
      exact idxT_has ⟨spAt (allV ns ks) i, by rw [spAt_lt hi]; exact List.getElem_mem hi, ei⟩
  · constructor
    · intro g
      rw [show allSt ns ks = [] from if_neg h] at g
      simp [idxT] at g
    · intro g
      exact absurd (derT_kp g).1 h
/-- The proof of a term proves it, and its last step alone does. -/
theorem ofF_proof {ns : List Nd} {ks : List Int} {t : Int} (h : (ofF ns ks t).2 = true) : checkF ns ks (ofF ns ks t).1 t = true ∧ checkF ns ks ((ofF ns ks t).1.take ((ofF ns ks t).1.length - 1)) t = false := by
  have g : 0 ≤ idxT (allSt ns ks) t 0 := by
    unfold ofF at h
    split at h
    · assumption
    · simp at h
  have hkp : kpF ns ks = true := by
    cases hc : kpF ns ks with
    | true => rfl
    | false =>
      rw [show allSt ns ks = [] from if_neg (by simp [hc])] at g
      simp [idxT] at g
  obtain ⟨j, hj, ej, et⟩ := idxT_at0 g
  have eo : ofF ns ks t = (trimF ns (upto (allSt ns ks) t), true) := if_pos g
  have hup : upto (allSt ns ks) t = (allSt ns ks).take (j + 1) := by simp [upto, ej]
  rw [eo, hup]
  simp only
  have hpr := allSt_pr hkp
  have hln : ((allSt ns ks).take (j + 1)).length = j + 1 := by simp; omega
  have hc0 : checkF ns ks ((allSt ns ks).take (j + 1)) t = true := by
    refine checkF_iff.2 ⟨by intro e; rw [e] at hln; simp at hln, hkp, by have := allSt_le ns ks; omega, fun i hi => ?_, ?_⟩
    · rw [prF_take (by omega)]
      exact hpr i (by omega)
    · rw [hln, show j + 1 - 1 = j from rfl, spAt_take (by omega), spAt_lt hj]
      exact et
  obtain ⟨hc, _⟩ := trimF_spec hc0
  refine ⟨hc, ?_⟩
  obtain ⟨h1, h2, h3, h4, h5⟩ := checkF_iff.1 hc
  generalize trimF ns ((allSt ns ks).take (j + 1)) = out at h1 h2 h3 h4 h5
  have h0 : 0 < out.length := List.length_pos_iff.2 h1
  cases hx : checkF ns ks (out.take (out.length - 1)) t with
  | false => rfl
  | true =>
    obtain ⟨q1, _, _, _, q5⟩ := checkF_iff.1 hx
    have hlt : (out.take (out.length - 1)).length = out.length - 1 := by simp
    have hq0 : 0 < (out.take (out.length - 1)).length := List.length_pos_iff.2 q1
    have hf := h4 (out.length - 1) (by omega)
    simp only [prF, Bool.and_eq_true, freshF, decide_eq_true_eq] at hf
    have hm' := hf.2 (spAt (out.take (out.length - 1)) ((out.take (out.length - 1)).length - 1)) (by
      rw [spAt_lt (by omega)]
      exact List.getElem_mem _)
    exact absurd (q5.trans h5.symm) hm'
theorem check_Der {ns : List Nd} (hme : Meek ns) {ks : List Int} {ss : List Sp} {t : Int} (h : checkF ns ks ss t = true) {i : Nat} (hi : i < ss.length) : derT ns ks (spAt ss i).t = true := by
  obtain ⟨h1, h2, h3, h4, h5⟩ := checkF_iff.1 h
  obtain ⟨t', et, htl, hd⟩ := proof_Der (kpF_pool h2) h4 i hi
  rw [et]
  exact (derT_iff hme h2 htl).2 hd
end Go.Proofs.YtcfgiffgahdlbaaGreat.C

set_option linter.unusedVariables false
set_option linter.unusedSimpArgs false
namespace Go.Proofs.YtcfgiffgahdlbaaGreat.C
open Go.Sym Go.Proofs.YtcfgiffgahdlbaaGreat.I
def In64 (n : Int) : Prop := -9223372036854775808 ≤ n ∧ n < 9223372036854775808
abbrev shI : Sh := .i .i64
abbrev shN : Sh := .st (.p shI (.p shI (.p shI .u)))
abbrev shP : Sh := .st (.p (.sl shN) .u)
abbrev shL : Sh := .st (.p shI (.p shI (.p shI (.p .b .u))))
abbrev shIs : Sh := .sl shI
abbrev shS : Sh := .st (.p shP (.p shIs (.p shL (.p shL (.p shIs (.p shIs .u))))))
theorem fit_i {cs : List A} (h : Fit shI cs) : ∃ n, cs = [i6 n] ∧ In64 n := by
  obtain ⟨n, rfl, hn⟩ := h
  exact ⟨n, rfl, fit_i64 hn⟩
theorem fit_n {cs : List A} (h : Fit shN cs) : ∃ n : Nd, cs = encN n ∧ In64 n.k ∧ In64 n.a ∧ In64 n.b := by
  obtain ⟨x, y, rfl, hx, z, t, rfl, hz, u, w, rfl, hu, rfl⟩ := h
  obtain ⟨a, rfl, ha⟩ := fit_i hx
  obtain ⟨b, rfl, hb⟩ := fit_i hz
  obtain ⟨c, rfl, hc⟩ := fit_i hu
  exact ⟨⟨a, b, c⟩, rfl, ha, hb, hc⟩
theorem fit_p {cs : List A} (h : Fit shP cs) : ∃ ns : List Nd, cs = [.sl ns.length (enc ns)] ∧ ns.length < 9223372036854775808 := by
  obtain ⟨x, y, rfl, hx, rfl⟩ := h
  obtain ⟨ns, rfl, h1, _⟩ := fit_sl (f := encN) (fun r hr => fit_n hr) hx
  exact ⟨ns, by simp [enc], h1⟩
theorem fit_is {cs : List A} (h : Fit shIs cs) : ∃ xs : List Int, cs = [aI xs] ∧ xs.length < 9223372036854775808 := by
  obtain ⟨xs, rfl, h1, _⟩ := fit_sl (f := fun n => [i6 n]) (fun r hr => fit_i hr) h
  exact ⟨xs, by simp only [aI, ints]; rw [List.map_eq_flatMap], h1⟩
structure Lk.fit (l : Lk) : Prop where
  k : In64 l.key
  e : In64 l.epoch
  s : In64 l.seq
theorem fit_l {cs : List A} (h : Fit shL cs) : ∃ l : Lk, cs = [i6 l.key, i6 l.epoch, i6 l.seq, .bool l.over] ∧ l.fit := by
  obtain ⟨x, y, rfl, hx, z, t, rfl, hz, u, w, rfl, hu, b, w, rfl, ⟨o, rfl⟩, rfl⟩ := h
  obtain ⟨a, rfl, ha⟩ := fit_i hx
  obtain ⟨b, rfl, hb⟩ := fit_i hz
  obtain ⟨c, rfl, hc⟩ := fit_i hu
  exact ⟨⟨a, b, c, o⟩, rfl, ha, hb, hc⟩
structure St.fitA (s : St) : Prop where
  p : s.pool.length < 9223372036854775808
  k : s.know.length < 9223372036854775808
  t : s.sent.length < 9223372036854775808
  g : s.got.length < 9223372036854775808
  o : s.out.fit
  i : s.inn.fit
theorem fit_s {cs : List A} (h : Fit shS cs) : ∃ s : St, cs = cS s ∧ s.fitA := by
  obtain ⟨x, y, rfl, hx, z, t, rfl, hz, u, w, rfl, hu, b, w, rfl, hb, e, f, rfl, he, g, i, rfl, hg, rfl⟩ := h
  obtain ⟨ns, rfl, h1⟩ := fit_p hx
  obtain ⟨ks, rfl, h2⟩ := fit_is hz
  obtain ⟨l, rfl, h3⟩ := fit_l hu
  obtain ⟨m, rfl, h4⟩ := fit_l hb
  obtain ⟨ts, rfl, h5⟩ := fit_is he
  obtain ⟨gs, rfl, h6⟩ := fit_is hg
  exact ⟨⟨ns, ks, l, m, ts, gs⟩, rfl, h1, h2, h5, h6, h3, h4⟩
theorem arg_p {x : A} (h : FitA shP x) : ∃ ns : List Nd, x = aP ns ∧ ns.length < 9223372036854775808 := by
  obtain ⟨cs, rfl, h⟩ := h
  obtain ⟨ns, rfl, g⟩ := fit_p h
  exact ⟨ns, rfl, g⟩
theorem arg_l {x : A} (h : FitA shL x) : ∃ l : Lk, x = aL l ∧ l.fit := by
  obtain ⟨cs, rfl, h⟩ := h
  obtain ⟨ns, rfl, g⟩ := fit_l h
  exact ⟨ns, rfl, g⟩
theorem arg_s {x : A} (h : FitA shS x) : ∃ s : St, x = aS s ∧ s.fitA := by
  obtain ⟨cs, rfl, h⟩ := h
  obtain ⟨ns, rfl, g⟩ := fit_s h
  exact ⟨ns, rfl, g⟩
theorem arg_is {x : A} (h : FitA shIs x) : ∃ xs : List Int, x = aI xs ∧ xs.length < 9223372036854775808 := by
  obtain ⟨xs, e, h⟩ := fit_is (show Fit shIs [x] from h)
  exact ⟨xs, by simpa using e, h⟩
theorem arg_i {x : A} (h : FitA shI x) : ∃ n : Int, x = i6 n ∧ In64 n := by
  obtain ⟨n, e, h⟩ := fit_i (show Fit shI [x] from h)
  exact ⟨n, by simpa using e, h⟩
end Go.Proofs.YtcfgiffgahdlbaaGreat.C

set_option linter.unusedVariables false
set_option linter.unusedSimpArgs false
namespace Go.Proofs.YtcfgiffgahdlbaaGreat.C
open Go.Sym Go.Proofs.YtcfgiffgahdlbaaGreat.I
abbrev qblk (ns : List Nd) : Blk := ⟨ns.length, false, 3, enc ns, none⟩
abbrev iblk (xs : List Int) : Blk := ⟨xs.length, false, 1, ints xs, none⟩
abbrev iref (b : Nat) (xs : List Int) : A := .ref b xs.length 0 xs.length
def szF (x : Int) (n : Nat) : Int := if x - n < 0 then -1 else x - n
theorem Lk_eq {x y : Lk} : x = y ↔ x.key = y.key ∧ x.epoch = y.epoch ∧ x.seq = y.seq ∧ x.over = y.over := by cases x; cases y; simp
def zN (j : Nat) : List Nd := List.replicate j ⟨0, 0, 0⟩
/-- A copy that is made up to a place. -/
def upN (ns : List Nd) (j : Nat) : List Nd := ns.take j ++ zN (ns.length - j)
theorem upN_len (ns : List Nd) (j : Nat) (h : j ≤ ns.length) : (upN ns j).length = ns.length := by simp [upN, zN]; omega
theorem upN_zero (ns : List Nd) : upN ns 0 = zN ns.length := by simp [upN]
theorem upN_end (ns : List Nd) : upN ns ns.length = ns := by simp [upN, zN]
theorem enc_zN (j : Nat) : enc (zN j) = (List.replicate j [i6 0, i6 0, i6 0]).flatten := by
  induction j with
  | zero => rfl
  | succ j ih => simp only [zN, List.replicate_succ, enc, List.flatMap_cons, List.flatten_cons] at ih ⊢; rw [ih]; rfl
theorem upN_set (ns : List Nd) (j : Nat) (h : j < ns.length) : (upN ns j).set j ns[j] = upN ns (j + 1) := by
  have hl : (ns.take j).length = j := by simp; omega
  have e : ns.length - j = (ns.length - (j + 1)) + 1 := by omega
  simp only [upN, zN]
  rw [List.set_append_right _ _ (by omega), hl, Nat.sub_self, e, List.replicate_succ, List.set_cons_zero, List.take_succ_eq_append_getElem h, List.append_assoc]
  rfl
theorem set3 {x y z : A} : ∀ (cs : List A) (a b c : A) (r : List A), (((a :: b :: c :: r).set 0 x).set 1 y).set 2 z = x :: y :: z :: r := fun _ _ _ _ _ => rfl
theorem enc_set : ∀ (xs : List Nd) (j : Nat) (n : Nd), (((enc xs).set (j * 3) (i6 n.k)).set (j * 3 + 1) (i6 n.a)).set (j * 3 + 2) (i6 n.b) = enc (xs.set j n)
  | [], j, n => by simp
  | x :: xs, 0, n => rfl
  | x :: xs, j + 1, n => by
    have := enc_set xs j n
    have e : (j + 1) * 3 = j * 3 + 1 + 1 + 1 := by omega
    show ((([i6 x.k, i6 x.a, i6 x.b] ++ enc xs).set ((j + 1) * 3) _).set ((j + 1) * 3 + 1) _).set ((j + 1) * 3 + 2) _ = [i6 x.k, i6 x.a, i6 x.b] ++ enc (xs.set j n)
    rw [e, ← this]
    rfl
/-- A copy of numbers that is made up to a place. -/
def upI (xs : List Int) (j : Nat) : List Int := xs.take j ++ List.replicate (xs.length - j) 0
theorem upI_len (xs : List Int) (j : Nat) (h : j ≤ xs.length) : (upI xs j).length = xs.length := by simp [upI]; omega
theorem upI_zero (xs : List Int) : upI xs 0 = List.replicate xs.length 0 := by simp [upI]
theorem upI_end (xs : List Int) : upI xs xs.length = xs := by simp [upI]
theorem upI_set (ns : List Int) (j : Nat) (h : j < ns.length) : (upI ns j).set j ns[j] = upI ns (j + 1) := by
  have hl : (ns.take j).length = j := by simp; omega
  have e : ns.length - j = (ns.length - (j + 1)) + 1 := by omega
  simp only [upI]
  rw [List.set_append_right _ _ (by omega), hl, Nat.sub_self, e, List.replicate_succ, List.set_cons_zero, List.take_succ_eq_append_getElem h, List.append_assoc]
  rfl
theorem ints_set (xs : List Int) (j : Nat) (n : Int) : (ints xs).set j (i6 n) = ints (xs.set j n) := by simp [ints, List.map_set]
@[simp] theorem ints_tells (H H' : List Blk) (g : List (Option Nat)) (xs : List Int) : Tells H H' g (ints xs) (ints xs) := Tells_scals _ (ints_scals xs)
@[simp] theorem ints_take (xs : List Int) : (ints xs).take xs.length = ints xs := List.take_of_length_le (by simp)
theorem ints_rep (n : Nat) : ints (List.replicate n 0) = List.replicate n (i6 0) := by simp [ints]
theorem szF_neg {x : Int} {n : Nat} : szF x n < 0 ↔ x < n := by unfold szF; split <;> omega
theorem szF_pos {x : Int} {n : Nat} (h : ¬ x < n) : szF x n = x - n := by unfold szF; rw [if_neg (by omega)]
/-- The size of a stream. -/
def szStr (s : St) (x : Int) : Int := if x < s.pool.length + s.know.length + s.sent.length + s.got.length then -1 else x - (s.pool.length + s.know.length + s.sent.length + s.got.length)
theorem St_eq {x y : St} : x = y ↔ x.pool = y.pool ∧ x.know = y.know ∧ x.out = y.out ∧ x.inn = y.inn ∧ x.sent = y.sent ∧ x.got = y.got := by cases x; cases y; simp
end Go.Proofs.YtcfgiffgahdlbaaGreat.C

set_option linter.unusedVariables false
set_option linter.unusedSimpArgs false
set_option maxRecDepth 4000
namespace Go.Proofs.YtcfgiffgahdlbaaGreat.C
open Go.Sym Go.Proofs.YtcfgiffgahdlbaaGreat.I
theorem laws_big_c (bs : List Int)  : T 5 [aB bs] [] (.bool (decide (1048576 < bs.length))) ([]) := by
  refine semT' (S := S0) hm laws_big_ok (Nat.le_of_ble_eq_true rfl) ?_
  unfold laws_big; dsimp only
  simp
  exact LeV.ro rfl rfl (by simp; omega)
theorem laws_big_call {bs : List Int}  {S : FuncId → Bool} {H : List Blk} {K : A → Dl → Prop} (hS : S 5 = false) (hK : K (.bool (decide (1048576 < bs.length))) (.news [])) : @WCall' Go.Proofs.Tryz.prog S 5 [aB bs] H ⟨K⟩ :=
  WCall_pure hS (laws_big_c bs) (by simp) (by simp) (by simp) hK
theorem laws_big_k {bs : List Int}  {S : FuncId → Bool} {H : List Blk} {K : A → Dl → Prop} {zs : List A} (hS : S 5 = false) (hv : viewL (viewA 8 H) zs = some [aB bs]) (ho : noOwns zs = true ∨ nosl (.bool (decide (1048576 < bs.length))) = true) (hK : K (.bool (decide (1048576 < bs.length))) (.news [])) : @WCall' Go.Proofs.Tryz.prog S 5 zs H ⟨K⟩ :=
  WCall_pure hS (laws_big_c bs) hv ho (by simp) hK
theorem laws_FnChecked_c (bs : List Int) (ha : bs.length < 9223372036854775808) : T 4 [aB bs] [] (.bool true) ([]) := by
  refine semT' (S := S0) hm laws_FnChecked_ok (Nat.le_of_ble_eq_true rfl) ?_
  unfold laws_FnChecked; dsimp only
  simp
  refine laws_big_k (bs := bs) rfl (by simp) (by simp) ?_; simp
  refine br_intro' (fun g => ?_) (fun g => ?_) <;> simp only [decide_eq_true_eq, decide_eq_false_iff_not] at g <;> simp [g]
  · exact LeV.ro rfl rfl rfl
  have hb : bs.length < 9223372036854775807 := by omega
  have hl := d6_len bs
  have hme := d6_meek bs
  have hl8 := d8_len bs (d6 bs)
  refine spec_DrawProofCheck_k (bs := bs) hb rfl (by simp) (by simp [noslBlks]) ?_; simp [shiftB]
  generalize d8 bs (d6 bs) = e at hl8 ⊢
  generalize d6 bs = d at hl hme ⊢
  obtain ⟨ns, ks, t0⟩ := d
  obtain ⟨ss, t⟩ := e
  simp only at hl hl8 hme
  simp
  refine impl_ProofCheck_k (ns := ns) (ks := ks) (ss := ss) (t := t) (by omega) (by omega) (by omega) rfl (by simp) (by simp [noslBlks]) ?_; simp [shiftB]
  refine spec_ProofCheck_k (ns := ns) (ks := ks) (ss := ss) (t := t) (by omega) (by omega) (by omega) rfl (by simp) (by simp [noslBlks]) ?_; simp [shiftB]
  refine br_intro' (fun c => ?_) (fun c => ?_) <;> (have c0 := c) <;> simp [c0]
  rotate_left
  · exact LeV.ro rfl rfl rfl
  obtain ⟨c1, c2, c3, c4, c5⟩ := checkF_iff.1 c
  have hde := fun (i : Nat) (hi : i < ss.length) => check_Der hme c hi
  refine WLoop_fam (fun j : Nat => [(3, A.ptr 0 0 0), (4, aI ks), (5, aSs ss), (6, i6 t), (8, i6 j)]) (fun _ => [⟨0, false, 1, [A.sl ns.length (enc ns)], none⟩]) (fun j => ss.length - j) (fun j => j ≤ ss.length) ?_ 0 (Nat.zero_le _)
  intro j hj ih
  simp
  refine br_intro' (fun u => ?_) (fun u => ?_) <;> (have u0 := u) <;> simp only [decide_eq_true_eq, decide_eq_false_iff_not] at u <;> simp [u0, u]
  · have hw := wrap_succ (n := j) (by omega)
    have h4 := encS_tq u
    repeat (refine ck_intro' (by first | omega | (simp; omega) | kernel_rfl) ?_; try simp [u])
    try simp [h4]
    refine impl_Derives_k (ns := ns) (ks := ks) (t := ss[j].t) (by omega) (by omega) rfl (by simp) (by simp) ?_; simp
    have hd := hde j u
    rw [spAt_lt u] at hd
    rw [hd]
    repeat (refine ck_intro' (by first | omega | (simp; omega) | kernel_rfl) ?_; try simp [u])
    rw [hw]
    exact ih (j + 1) (by omega) (by omega)
  · have h0 : 0 < ss.length := List.length_pos_iff.2 c1
    have hw := wrap_len (n := ss.length) (by omega)
    obtain ⟨m, hm'⟩ : ∃ m : Nat, (ss.length : Int) - 1 = m := ⟨ss.length - 1, by omega⟩
    have hml : m < ss.length := by omega
    have h4 := encS_tq hml
    rw [hw, hm']
    repeat (refine ck_intro' (by first | omega | (simp; omega) | kernel_rfl) ?_; try simp [hml])
    try simp [h4]
    rw [show ss.length - 1 = m by omega, spAt_lt hml] at c5
    exact LeV.ro rfl rfl (by simp [c5])
end Go.Proofs.YtcfgiffgahdlbaaGreat.C
