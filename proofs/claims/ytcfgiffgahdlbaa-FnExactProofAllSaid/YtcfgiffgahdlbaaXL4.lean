/- What a law's own functions answer on lists of numbers and of steps: sizes, copies, likeness, marks. Conditions: those that each theorem names. -/
import Derived.Test.YtcfgiffgahdlbaaXL2
import Derived.Test.YtcfgiffgahdlbaaXE1
set_option linter.unusedVariables false
set_option linter.unusedSimpArgs false
namespace Go.Proofs.Ytcfgiffgahdlbaa.C
open Go.Sym Go.Proofs.Ytcfgiffgahdlbaa.I
def mkI (k : Int) : Nat → List Int
  | 0 => []
  | n + 1 => mkI k n ++ [k + n]
@[simp] theorem mkI_len (k : Int) (n : Nat) : (mkI k n).length = n := by induction n with | zero => rfl | succ n ih => simp [mkI, ih]
@[simp] theorem mkI_take (k : Int) (n : Nat) : (ints (mkI k n)).take n = ints (mkI k n) := List.take_of_length_le (by simp)
theorem mkI_get (k : Int) : ∀ (n j : Nat) (h : j < (mkI k n).length), (mkI k n)[j] = k + j
  | 0, j, h => by simp at h
  | n + 1, j, h => by
    simp only [mkI]
    rcases Nat.lt_or_ge j n with g | g
    · rw [List.getElem_append_left (by simpa using g)]
      exact mkI_get k n j (by simpa using g)
    · have : j = n := by simp at h; omega
      subst this
      simp
theorem mkI_set (k : Int) (ns : List Int) (j : Nat) (h : j < ns.length) : (mkI k j ++ ns.drop j).set j (k + j) = mkI k (j + 1) ++ ns.drop (j + 1) := by
  rw [List.set_append_right _ _ (by simp), mkI_len, Nat.sub_self, List.drop_eq_getElem_cons h, List.set_cons_zero]
  simp [mkI]
theorem laws_markIntS_m (H : List Blk) (nb v : Nat) (ro : Bool) (ns : List Int) (k : Int) (hH : H[nb]? = some ⟨v, ro, 1, ints ns, none⟩) (hro : ro = true → ns = []) (hl : ns.length ≤ 4294967296) (hk : 0 ≤ k) (hk2 : k ≤ 1099511627776) : T 26 [.ref nb v 0 ns.length, i6 k] (H) (i6 (k + ns.length)) (H.set nb ⟨v, ro, 1, ints (mkI k ns.length), none⟩) := by
  refine semT' (S := S0) hm laws_markIntS_ok (Nat.le_of_ble_eq_true rfl) ?_
  unfold laws_markIntS; dsimp only
  have hlt : nb < H.length := (List.getElem?_eq_some_iff.1 hH).1
  have hs0 : H.set nb ⟨v, ro, 1, ints (mkI k 0 ++ ns.drop 0), none⟩ = H := set_self (by simpa [mkI] using hH)
  simp
  generalize hB : H.length = B
  rw [← hs0]
  refine WLoop_fam (fun p : Nat × Int => [(0, A.ref nb v 0 ns.length), (1, i6 p.2), (5, i6 p.1)]) (fun p => H.set nb ⟨v, ro, 1, ints (mkI k p.1 ++ ns.drop p.1), none⟩) (fun p => ns.length - p.1)
    (fun p => p.1 ≤ ns.length ∧ p.2 = k + p.1) ?_ (0, k) ⟨Nat.zero_le _, by simp⟩
  rintro ⟨j, k'⟩ ⟨hj, hk'⟩ ih
  simp at hk' hj
  subst hk'
  have hlen : (mkI k j ++ ns.drop j).length = ns.length := by simp; omega
  simp [hlt]
  refine br_intro' (fun h => ?_) (fun h => ?_) <;> (have h0 := h) <;> (try simp at h) <;> try simp [h0, h]
  · have h' := h
    have hr : ro = false := by cases ro with | false => rfl | true => rw [hro rfl] at h; simp at h
    subst hr
    have w1 : IntKind.i64.wrap (k + (j : Int) + 1) = k + j + 1 := wrap64 (by omega) (by omega)
    have hw : IntKind.i64.wrap ((j : Int) + 1) = j + 1 := wrap64 (by omega) (by omega)
    have hc : j + (ns.length - j) = ns.length := by omega
    simp [h', hlt, hc, w1, hw]
    refine ck_intro' (by omega) ?_; simp [h', hlt, hc, w1, hw]
    have e3 := ints_set (mkI k j ++ ns.drop j) j (k + j)
    rw [mkI_set k ns j h'] at e3
    rw [e3]
    exact ih (j + 1, k + j + 1) ⟨h', by push_cast; omega⟩ (by simp; omega)
  · have e : j = ns.length := by omega
    subst e
    simp
    exact LeV.refl _ _ _
abbrev shT : Sh := .st (.p shI (.p shI (.p shI (.p shI .u))))
theorem fit_t {cs : List A} (h : Fit shT cs) : ∃ n : Sp, cs = encT n ∧ In64 n.r ∧ In64 n.t ∧ In64 n.a ∧ In64 n.b := by
  obtain ⟨x, y, rfl, hx, z, t, rfl, hz, u, w, rfl, hu, v, v', rfl, hv, rfl⟩ := h
  obtain ⟨a, rfl, ha⟩ := fit_i hx
  obtain ⟨b, rfl, hb⟩ := fit_i hz
  obtain ⟨c, rfl, hc⟩ := fit_i hu
  obtain ⟨d, rfl, hd⟩ := fit_i hv
  exact ⟨⟨a, b, c, d⟩, rfl, ha, hb, hc, hd⟩
theorem arg_ts {x : A} (h : FitA (.sl shT) x) : ∃ ss : List Sp, x = aSs ss ∧ ss.length < 9223372036854775808 := by
  obtain ⟨xs, e, h1, _⟩ := fit_sl (f := encT) (fun r hr => fit_t hr) (show Fit (.sl shT) [x] from h)
  refine ⟨xs, ?_, h1⟩
  simp only [List.cons.injEq, and_true] at e
  exact e
abbrev tref (b : Nat) (ss : List Sp) : A := .ref b ss.length 0 ss.length
/-- A row of steps that a law made. -/
abbrev uqblk (ss : List Sp) : Blk := ⟨ss.length, false, 4, encS ss, none⟩
theorem laws_szStepS_c (ns : List Sp) (x : Int) (hl : ns.length < 9223372036854775808) (h0 : 0 ≤ x) (h1 : x < 9223372036854775808) : T 10 [aSs ns, i6 x] [] (i6 (szF x ns.length)) ([]) := by
  refine semT' (S := S0) hm laws_szStepS_ok (Nat.le_of_ble_eq_true rfl) ?_
  unfold laws_szStepS; dsimp only
  have hw : IntKind.i64.wrap (x - ns.length) = x - ns.length := wrap64 (by omega) (by omega)
  simp [hw]
  refine br_intro' (fun h => ?_) (fun h => ?_) <;> (have h0 := h) <;> (try simp at h) <;> try simp [h0, h]
  · exact LeV.ro rfl rfl (by simp [szF, h])
  · exact LeV.ro rfl rfl (by simp [szF]; omega)
theorem laws_szStepS_call {ns : List Sp} {x : Int} (hl : ns.length < 9223372036854775808) (h0 : 0 ≤ x) (h1 : x < 9223372036854775808) {S : FuncId → Bool} {H : List Blk} {K : A → Dl → Prop} (hS : S 10 = false) (hK : K (i6 (szF x ns.length)) (.news [])) : @WCall' Go.Proofs.Try.prog S 10 [aSs ns, i6 x] H ⟨K⟩ :=
  WCall_pure hS (laws_szStepS_c ns x hl h0 h1) (by simp) (by simp) (by simp) hK
theorem laws_szStepS_k {ns : List Sp} {x : Int} (hl : ns.length < 9223372036854775808) (h0 : 0 ≤ x) (h1 : x < 9223372036854775808) {S : FuncId → Bool} {H : List Blk} {K : A → Dl → Prop} {zs : List A} (hS : S 10 = false) (hv : viewL (viewA 8 H) zs = some [aSs ns, i6 x]) (ho : noOwns zs = true ∨ nosl (i6 (szF x ns.length)) = true) (hK : K (i6 (szF x ns.length)) (.news [])) : @WCall' Go.Proofs.Try.prog S 10 zs H ⟨K⟩ :=
  WCall_pure hS (laws_szStepS_c ns x hl h0 h1) hv ho (by simp) hK
theorem laws_toStep_c (n : Sp)  : T 40 [aSt n] [] (aSt n) ([]) := by
  refine semT' (S := S0) hm laws_toStep_ok (Nat.le_of_ble_eq_true rfl) ?_
  unfold laws_toStep; dsimp only
  simp
  exact LeV.ro rfl rfl (by simp)
theorem laws_toStep_call {n : Sp}  {S : FuncId → Bool} {H : List Blk} {K : A → Dl → Prop} (hS : S 40 = false) (hK : K (aSt n) (.news [])) : @WCall' Go.Proofs.Try.prog S 40 [aSt n] H ⟨K⟩ :=
  WCall_pure hS (laws_toStep_c n) (by simp) (by simp) (by simp) hK
theorem laws_toStep_k {n : Sp}  {S : FuncId → Bool} {H : List Blk} {K : A → Dl → Prop} {zs : List A} (hS : S 40 = false) (hv : viewL (viewA 8 H) zs = some [aSt n]) (ho : noOwns zs = true ∨ nosl (aSt n) = true) (hK : K (aSt n) (.news [])) : @WCall' Go.Proofs.Try.prog S 40 zs H ⟨K⟩ :=
  WCall_pure hS (laws_toStep_c n) hv ho (by simp) hK
theorem laws_eqStep_c (n m : Sp)  : T 46 [aSt n, aSt m] [] (.bool (decide (n = m))) ([]) := by
  refine semT' (S := S0) hm laws_eqStep_ok (Nat.le_of_ble_eq_true rfl) ?_
  unfold laws_eqStep; dsimp only
  simp
  repeat (any_goals (first | (refine br_intro' (fun h => ?_) (fun h => ?_) <;> (have h0 := h) <;> (try simp at h) <;> try simp [h0, h])))
  all_goals exact LeV.ro rfl rfl (by simp [Sp_eq, *])
theorem laws_eqStep_call {n m : Sp}  {S : FuncId → Bool} {H : List Blk} {K : A → Dl → Prop} (hS : S 46 = false) (hK : K (.bool (decide (n = m))) (.news [])) : @WCall' Go.Proofs.Try.prog S 46 [aSt n, aSt m] H ⟨K⟩ :=
  WCall_pure hS (laws_eqStep_c n m) (by simp) (by simp) (by simp) hK
theorem laws_eqStep_k {n m : Sp}  {S : FuncId → Bool} {H : List Blk} {K : A → Dl → Prop} {zs : List A} (hS : S 46 = false) (hv : viewL (viewA 8 H) zs = some [aSt n, aSt m]) (ho : noOwns zs = true ∨ nosl (.bool (decide (n = m))) = true) (hK : K (.bool (decide (n = m))) (.news [])) : @WCall' Go.Proofs.Try.prog S 46 zs H ⟨K⟩ :=
  WCall_pure hS (laws_eqStep_c n m) hv ho (by simp) hK
def zT (j : Nat) : List Sp := List.replicate j ⟨0, 0, 0, 0⟩
def upT (ns : List Sp) (j : Nat) : List Sp := ns.take j ++ zT (ns.length - j)
theorem upT_len (ns : List Sp) (j : Nat) (h : j ≤ ns.length) : (upT ns j).length = ns.length := by simp [upT, zT]; omega
theorem upT_zero (ns : List Sp) : upT ns 0 = zT ns.length := by simp [upT]
theorem upT_end (ns : List Sp) : upT ns ns.length = ns := by simp [upT, zT]
theorem encS_zT (j : Nat) : encS (zT j) = (List.replicate j [i6 0, i6 0, i6 0, i6 0]).flatten := by
  induction j with
  | zero => rfl
  | succ j ih => simp only [zT, List.replicate_succ, encS, List.flatMap_cons, List.flatten_cons] at ih ⊢; rw [ih]; rfl
theorem upT_set (ns : List Sp) (j : Nat) (h : j < ns.length) : (upT ns j).set j ns[j] = upT ns (j + 1) := by
  have hl : (ns.take j).length = j := by simp; omega
  have e : ns.length - j = (ns.length - (j + 1)) + 1 := by omega
  simp only [upT, zT]
  rw [List.set_append_right _ _ (by omega), hl, Nat.sub_self, e, List.replicate_succ, List.set_cons_zero, List.take_succ_eq_append_getElem h, List.append_assoc]
  rfl
theorem encS_set : ∀ (xs : List Sp) (j : Nat) (n : Sp), ((((encS xs).set (j * 4) (i6 n.r)).set (j * 4 + 1) (i6 n.t)).set (j * 4 + 2) (i6 n.a)).set (j * 4 + 3) (i6 n.b) = encS (xs.set j n)
  | [], j, n => by simp
  | x :: xs, 0, n => rfl
  | x :: xs, j + 1, n => by
    have := encS_set xs j n
    have e : (j + 1) * 4 = j * 4 + 1 + 1 + 1 + 1 := by omega
    show (((([i6 x.r, i6 x.t, i6 x.a, i6 x.b] ++ encS xs).set ((j + 1) * 4) _).set ((j + 1) * 4 + 1) _).set ((j + 1) * 4 + 2) _).set ((j + 1) * 4 + 3) _ = [i6 x.r, i6 x.t, i6 x.a, i6 x.b] ++ encS (xs.set j n)
    rw [e, ← this]
    rfl
theorem laws_toStepS_c (ns : List Sp) (hl : ns.length ≤ 4294967296) : T 13 [aSs ns] [] (tref 0 ns) ([uqblk ns]) := by
  refine semT' (S := S0) hm laws_toStepS_ok (Nat.le_of_ble_eq_true rfl) ?_
  unfold laws_toStepS; dsimp only
  have h1 : ((ns.length : Int)) * 32 ≤ 17592186044416 := by omega
  have h2 : (ns.length : Int) ≤ 4294967296 := by omega
  simp
  refine ck_intro' (by omega) ?_; simp
  rw [← encS_zT, ← upT_zero]
  refine WLoop_fam (fun j : Nat => [(0, aSs ns), (3, A.ref 0 0 0 ns.length), (4, i6 j)]) (fun j => [⟨0, false, 4, encS (upT ns j), none⟩]) (fun j => ns.length - j)
    (fun j => j ≤ ns.length) ?_ 0 (Nat.zero_le _)
  intro j hj ih
  simp [upT_len ns j hj]
  refine br_intro' (fun h => ?_) (fun h => ?_) <;> (have h0 := h) <;> (try simp at h) <;> try simp [h0, h]
  · obtain ⟨r, hr⟩ := encS_at h
    have h3 : 4 ≤ ns.length * 4 - j * 4 := by omega
    have hw : IntKind.i64.wrap ((j : Int) + 1) = j + 1 := wrap64 (by omega) (by omega)
    have h' := h
    simp [h3, hr, h']
    refine laws_toStep_call (n := ns[j]) rfl ?_; simp [upT_len ns j hj, h']
    refine ck_intro' (by omega) ?_; simp
    rw [hw, encS_set, upT_set ns j h']
    exact ih (j + 1) h' (by omega)
  · have h0 : j = ns.length := by omega
    subst h0
    rw [upT_end]
    first | (refine LeV.tell [none] ?_ ?_ ?_ <;> (simp; done)) | (refine LeV.tell [some 0] ?_ ?_ ?_ <;> (simp; done)) | (refine LeV.tell [some 1] ?_ ?_ ?_ <;> (simp; done)) | (refine LeV.tell [some 2] ?_ ?_ ?_ <;> (simp; done)) | (refine LeV.tell [some 3] ?_ ?_ ?_ <;> (simp; done)) | (refine LeV.tell [some 4] ?_ ?_ ?_ <;> (simp; done)) | (refine LeV.tell [some 5] ?_ ?_ ?_ <;> (simp; done)) | (refine LeV.tell [some 6] ?_ ?_ ?_ <;> (simp; done)) | (refine LeV.tell [some 7] ?_ ?_ ?_ <;> (simp; done)) | (refine LeV.tell [some 8] ?_ ?_ ?_ <;> (simp; done)) | (refine LeV.tell [some 9] ?_ ?_ ?_ <;> (simp; done)) | (refine LeV.tell [some 10] ?_ ?_ ?_ <;> (simp; done)) | (refine LeV.tell [some 11] ?_ ?_ ?_ <;> (simp; done)) | (refine LeV.tell [some 12] ?_ ?_ ?_ <;> (simp; done)) | (refine LeV.tell [some 13] ?_ ?_ ?_ <;> (simp; done)) | (refine LeV.tell [some 14] ?_ ?_ ?_ <;> (simp; done)) | (refine LeV.tell [some 15] ?_ ?_ ?_ <;> (simp; done))
theorem laws_toStepS_k {ns : List Sp} (hl : ns.length ≤ 4294967296) {S : FuncId → Bool} {H : List Blk} {K : A → Dl → Prop} {zs : List A} (hS : S 13 = false) (hv : viewL (viewA 8 H) zs = some [aSs ns]) (ho : noOwns zs = true ∨ nosl (tref 0 ns) = true ∧ noslBlks ([uqblk ns]) = true) (hK : K (shiftA H.length (tref 0 ns)) (.news (([uqblk ns]).map (shiftB H.length)))) : @WCall' Go.Proofs.Try.prog S 13 zs H ⟨K⟩ :=
  WCall_ro' hS hv (laws_toStepS_c ns hl) rfl ho hK
theorem laws_eqStepS_c (ns ms : List Sp) (hl : ns.length < 9223372036854775807) (hl2 : ms.length < 9223372036854775807) : T 15 [aSs ns, aSs ms] [] (.bool (decide (ns = ms))) ([]) := by
  refine semT' (S := S0) hm laws_eqStepS_ok (Nat.le_of_ble_eq_true rfl) ?_
  unfold laws_eqStepS; dsimp only
  simp
  refine br_intro' (fun h => ?_) (fun h => ?_) <;> (try simp at h) <;> (try simp [h])
  · refine WLoop_fam (fun j : Nat => [(0, aSs ns), (1, aSs ms), (5, i6 j)]) (fun _ => []) (fun j => ns.length - j)
      (fun j => j ≤ ns.length ∧ ns.take j = ms.take j) ?_ 0 ⟨Nat.zero_le _, by simp⟩
    intro j ⟨hj, hf⟩ ih
    simp
    have hq : ns.length = ms.length := by omega
    refine br_intro' (fun h => ?_) (fun h => ?_) <;> (have h0 := h) <;> (try simp at h) <;> try simp [h0, h]
    · obtain ⟨r, hr⟩ := encS_at h
      have hm : j < ms.length := by omega
      obtain ⟨r2, hr2⟩ := encS_at hm
      have h3 : 4 ≤ ms.length * 4 - j * 4 := by omega
      have h4 : 4 ≤ ns.length * 4 - j * 4 := by omega
      have hw : IntKind.i64.wrap ((j : Int) + 1) = j + 1 := wrap64 (by omega) (by omega)
      have h' := h
      simp [h3, h4, hr, h', hr2, hm]
      refine laws_eqStep_call (n := ns[j]) (m := ms[j]) rfl ?_; simp
      first | (refine ck_intro' (by kernel_rfl) ?_; try simp) | skip
      refine br_intro' (fun g => ?_) (fun g => ?_) <;> simp at g <;> simp [g]
      · rw [hw]
        exact ih (j + 1) ⟨h', by rw [List.take_succ_eq_append_getElem h', List.take_succ_eq_append_getElem hm, hf, g]⟩ (by omega)
      · exact LeV.ro rfl rfl (by simp; intro e; subst e; exact g rfl)
    · have h0 : j = ns.length := by omega
      exact LeV.ro rfl rfl (by rw [h0, List.take_length, hq, List.take_length] at hf; simp [hf])
  · exact LeV.ro rfl rfl (by simp; intro e; rw [e] at h; exact h rfl)
theorem laws_eqStepS_call {ns ms : List Sp} (hl : ns.length < 9223372036854775807) (hl2 : ms.length < 9223372036854775807) {S : FuncId → Bool} {H : List Blk} {K : A → Dl → Prop} (hS : S 15 = false) (hK : K (.bool (decide (ns = ms))) (.news [])) : @WCall' Go.Proofs.Try.prog S 15 [aSs ns, aSs ms] H ⟨K⟩ :=
  WCall_pure hS (laws_eqStepS_c ns ms hl hl2) (by simp) (by simp) (by simp) hK
theorem laws_eqStepS_k {ns ms : List Sp} (hl : ns.length < 9223372036854775807) (hl2 : ms.length < 9223372036854775807) {S : FuncId → Bool} {H : List Blk} {K : A → Dl → Prop} {zs : List A} (hS : S 15 = false) (hv : viewL (viewA 8 H) zs = some [aSs ns, aSs ms]) (ho : noOwns zs = true ∨ nosl (.bool (decide (ns = ms))) = true) (hK : K (.bool (decide (ns = ms))) (.news [])) : @WCall' Go.Proofs.Try.prog S 15 zs H ⟨K⟩ :=
  WCall_pure hS (laws_eqStepS_c ns ms hl hl2) hv ho (by simp) hK
def mkTs (k : Int) : Nat → List Sp
  | 0 => []
  | n + 1 => mkTs k n ++ [⟨k + 4 * n, k + 4 * n + 1, k + 4 * n + 2, k + 4 * n + 3⟩]
@[simp] theorem mkTs_len (k : Int) (n : Nat) : (mkTs k n).length = n := by induction n with | zero => rfl | succ n ih => simp [mkTs, ih]
@[simp] theorem mkTs_take (k : Int) (n : Nat) : (encS (mkTs k n)).take (n * 4) = encS (mkTs k n) := List.take_of_length_le (by simp)
theorem mkTs_get (k : Int) : ∀ (n j : Nat) (h : j < (mkTs k n).length), (mkTs k n)[j] = ⟨k + 4 * j, k + 4 * j + 1, k + 4 * j + 2, k + 4 * j + 3⟩
  | 0, j, h => by simp at h
  | n + 1, j, h => by
    simp only [mkTs]
    rcases Nat.lt_or_ge j n with g | g
    · rw [List.getElem_append_left (by simpa using g)]
      exact mkTs_get k n j (by simpa using g)
    · have : j = n := by simp at h; omega
      subst this
      simp
theorem mkTs_set (k : Int) (ns : List Sp) (j : Nat) (h : j < ns.length) : (mkTs k j ++ ns.drop j).set j ⟨k + 4 * j, k + 4 * j + 1, k + 4 * j + 2, k + 4 * j + 3⟩ = mkTs k (j + 1) ++ ns.drop (j + 1) := by
  rw [List.set_append_right _ _ (by simp), mkTs_len, Nat.sub_self, List.drop_eq_getElem_cons h, List.set_cons_zero]
  simp [mkTs]
theorem laws_markStepS_m (H : List Blk) (nb v : Nat) (ro : Bool) (ns : List Sp) (k : Int) (hH : H[nb]? = some ⟨v, ro, 4, encS ns, none⟩) (hro : ro = true → ns = []) (hl : ns.length ≤ 4294967296) (hk : 0 ≤ k) (hk2 : k ≤ 1099511627776) : T 18 [.ref nb v 0 ns.length, i6 k] (H) (i6 (k + 4 * ns.length)) (H.set nb ⟨v, ro, 4, encS (mkTs k ns.length), none⟩) := by
  refine semT' (S := S0) hm laws_markStepS_ok (Nat.le_of_ble_eq_true rfl) ?_
  unfold laws_markStepS; dsimp only
  have hlt : nb < H.length := (List.getElem?_eq_some_iff.1 hH).1
  have hs0 : H.set nb ⟨v, ro, 4, encS (mkTs k 0 ++ ns.drop 0), none⟩ = H := set_self (by simpa [mkTs] using hH)
  simp
  generalize hB : H.length = B
  rw [← hs0]
  refine WLoop_fam (fun p : Nat × Int => [(0, A.ref nb v 0 ns.length), (1, i6 p.2), (5, i6 p.1)]) (fun p => H.set nb ⟨v, ro, 4, encS (mkTs k p.1 ++ ns.drop p.1), none⟩) (fun p => ns.length - p.1)
    (fun p => p.1 ≤ ns.length ∧ p.2 = k + 4 * p.1) ?_ (0, k) ⟨Nat.zero_le _, by simp⟩
  rintro ⟨j, k'⟩ ⟨hj, hk'⟩ ih
  simp at hk' hj
  subst hk'
  have hlen : (mkTs k j ++ ns.drop j).length = ns.length := by simp; omega
  simp [hlt]
  refine br_intro' (fun h => ?_) (fun h => ?_) <;> (have h0 := h) <;> (try simp at h) <;> try simp [h0, h]
  · have h' := h
    have hr : ro = false := by cases ro with | false => rfl | true => rw [hro rfl] at h; simp at h
    subst hr
    have h3 : j * 4 < ns.length * 4 := by omega
    have h4 : j * 4 + 1 < ns.length * 4 := by omega
    have h5 : j * 4 + 2 < ns.length * 4 := by omega
    have h6 : j * 4 + 3 < ns.length * 4 := by omega
    have w1 : IntKind.i64.wrap (k + 4 * (j : Int) + 1) = k + 4 * j + 1 := wrap64 (by omega) (by omega)
    have w2 : IntKind.i64.wrap (k + 4 * (j : Int) + 1 + 1) = k + 4 * j + 2 := by rw [wrap64 (by omega) (by omega)]; omega
    have w3 : IntKind.i64.wrap (k + 4 * (j : Int) + 2 + 1) = k + 4 * j + 3 := by rw [wrap64 (by omega) (by omega)]; omega
    have w4 : IntKind.i64.wrap (k + 4 * (j : Int) + 3 + 1) = k + 4 * j + 4 := by rw [wrap64 (by omega) (by omega)]; omega
    have hw : IntKind.i64.wrap ((j : Int) + 1) = j + 1 := wrap64 (by omega) (by omega)
    have hc : (j + (ns.length - j)) * 4 = ns.length * 4 := by rw [Nat.add_sub_cancel' hj]
    simp [h', hlt, hc, w1, w2, w3, w4, h3, h4, h5, h6]
    refine ck_intro' (by omega) ?_; simp [h', hlt, hc, w1, w2, w3, w4, h3, h4, h5, h6]
    refine ck_intro' (by omega) ?_; simp [h', hlt, hc, w1, w2, w3, w4, h3, h4, h5, h6]
    refine ck_intro' (by omega) ?_; simp [h', hlt, hc, w1, w2, w3, w4, h3, h4, h5, h6]
    refine ck_intro' (by omega) ?_; simp [h', hlt, hc, w1, w2, w3, w4, h3, h4, h5, h6, hw]
    have e3 := encS_set (mkTs k j ++ ns.drop j) j ⟨k + 4 * j, k + 4 * j + 1, k + 4 * j + 2, k + 4 * j + 3⟩
    rw [mkTs_set k ns j h'] at e3
    rw [e3]
    exact ih (j + 1, k + 4 * j + 4) ⟨h', by push_cast; omega⟩ (by simp; omega)
  · have e : j = ns.length := by omega
    subst e
    simp
    exact LeV.refl _ _ _
theorem encS_gets {ns : List Sp} {j : Nat} (h : j < ns.length) : (encS ns)[j * 4]? = some (i6 ns[j].r) ∧ (encS ns)[j * 4 + 1]? = some (i6 ns[j].t) ∧ (encS ns)[j * 4 + 2]? = some (i6 ns[j].a) ∧ (encS ns)[j * 4 + 3]? = some (i6 ns[j].b) := by
  obtain ⟨r, hr⟩ := encS_at h
  have e : ∀ i, (encS ns)[j * 4 + i]? = (i6 ns[j].r :: i6 ns[j].t :: i6 ns[j].a :: i6 ns[j].b :: r)[i]? := fun i => by rw [← hr, List.getElem?_drop]
  exact ⟨e 0, e 1, e 2, e 3⟩
theorem encS_r {ns : List Sp} {j : Nat} (h : j < ns.length) {h' : j * 4 < (encS ns).length} : (encS ns)[j * 4] = i6 ns[j].r := by
  have := (encS_gets h).1
  rw [List.getElem?_eq_getElem h'] at this
  simpa using this
theorem encS_t {ns : List Sp} {j : Nat} (h : j < ns.length) {h' : j * 4 + 1 < (encS ns).length} : (encS ns)[j * 4 + 1] = i6 ns[j].t := by
  have := (encS_gets h).2.1
  rw [List.getElem?_eq_getElem h'] at this
  simpa using this
theorem encS_a {ns : List Sp} {j : Nat} (h : j < ns.length) {h' : j * 4 + 2 < (encS ns).length} : (encS ns)[j * 4 + 2] = i6 ns[j].a := by
  have := (encS_gets h).2.2.1
  rw [List.getElem?_eq_getElem h'] at this
  simpa using this
theorem encS_b {ns : List Sp} {j : Nat} (h : j < ns.length) {h' : j * 4 + 3 < (encS ns).length} : (encS ns)[j * 4 + 3] = i6 ns[j].b := by
  have := (encS_gets h).2.2.2
  rw [List.getElem?_eq_getElem h'] at this
  simpa using this
theorem laws_heldStepS_c (n : Nat) (k : Int) (hl : n ≤ 4294967296) (hk : 0 ≤ k) (hk2 : k ≤ 1099511627776) : T 19 [.sl n (encS (mkTs k n)), i6 k] [] (i6 (k + 4 * n)) ([]) := by
  refine semT' (S := S0) hm laws_heldStepS_ok (Nat.le_of_ble_eq_true rfl) ?_
  unfold laws_heldStepS; dsimp only
  simp
  refine WLoop_fam (fun p : Nat × Int => [(0, .sl n (encS (mkTs k n))), (1, i6 p.2), (5, i6 p.1)]) (fun _ => []) (fun p => n - p.1)
    (fun p => p.1 ≤ n ∧ p.2 = k + 4 * p.1) ?_ (0, k) ⟨Nat.zero_le _, by simp⟩
  rintro ⟨j, k'⟩ ⟨hj, hk'⟩ ih
  simp at hk' hj
  subst hk'
  simp
  refine br_intro' (fun h => ?_) (fun h => ?_) <;> (have h0 := h) <;> (try simp at h) <;> try simp [h0, h]
  · have h' := h
    obtain ⟨r, hr⟩ := encS_at (ns := mkTs k n) (j := j) (by simpa using h)
    rw [mkTs_get] at hr
    have h3 : 4 ≤ n * 4 - j * 4 := by omega
    have h4 : j * 4 < n * 4 := by omega
    have w1 : IntKind.i64.wrap (k + 4 * (j : Int) + 1) = k + 4 * j + 1 := wrap64 (by omega) (by omega)
    have w2 : IntKind.i64.wrap (k + 4 * (j : Int) + 1 + 1) = k + 4 * j + 2 := by rw [wrap64 (by omega) (by omega)]; omega
    have w3 : IntKind.i64.wrap (k + 4 * (j : Int) + 2 + 1) = k + 4 * j + 3 := by rw [wrap64 (by omega) (by omega)]; omega
    have w4 : IntKind.i64.wrap (k + 4 * (j : Int) + 3 + 1) = k + 4 * j + 4 := by rw [wrap64 (by omega) (by omega)]; omega
    have hw : IntKind.i64.wrap ((j : Int) + 1) = j + 1 := wrap64 (by omega) (by omega)
    have hj' : j < (mkTs k n).length := by simpa using h
    have h5 : j * 4 + 1 < n * 4 := by omega
    have h6 : j * 4 + 2 < n * 4 := by omega
    have h7 : j * 4 + 3 < n * 4 := by omega
    simp [h', h3, h4, h5, h6, h7, encS_r hj', encS_t hj', encS_a hj', encS_b hj', mkTs_get, w1, w2, w3, w4, hw]
    exact ih (j + 1, k + 4 * j + 4) ⟨h', by push_cast; omega⟩ (by simp; omega)
  · have e : j = n := by omega
    subst e
    exact LeV.ro rfl rfl (by simp)
theorem laws_heldStepS_call {n : Nat} {k : Int} (hl : n ≤ 4294967296) (hk : 0 ≤ k) (hk2 : k ≤ 1099511627776) {S : FuncId → Bool} {H : List Blk} {K : A → Dl → Prop} (hS : S 19 = false) (hK : K (i6 (k + 4 * n)) (.news [])) : @WCall' Go.Proofs.Try.prog S 19 [.sl n (encS (mkTs k n)), i6 k] H ⟨K⟩ :=
  WCall_pure hS (laws_heldStepS_c n k hl hk hk2) (by simp) (by simp) (by simp) hK
theorem laws_heldStepS_k {n : Nat} {k : Int} (hl : n ≤ 4294967296) (hk : 0 ≤ k) (hk2 : k ≤ 1099511627776) {S : FuncId → Bool} {H : List Blk} {K : A → Dl → Prop} {zs : List A} (hS : S 19 = false) (hv : viewL (viewA 8 H) zs = some [.sl n (encS (mkTs k n)), i6 k]) (ho : noOwns zs = true ∨ nosl (i6 (k + 4 * n)) = true) (hK : K (i6 (k + 4 * n)) (.news [])) : @WCall' Go.Proofs.Try.prog S 19 zs H ⟨K⟩ :=
  WCall_pure hS (laws_heldStepS_c n k hl hk hk2) hv ho (by simp) hK
end Go.Proofs.Ytcfgiffgahdlbaa.C
