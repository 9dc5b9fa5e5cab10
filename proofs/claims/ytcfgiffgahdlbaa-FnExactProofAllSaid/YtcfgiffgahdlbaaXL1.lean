/- What a law's own functions answer: sizes, copies, likeness, marks. Conditions: those that each theorem names. -/
import Derived.Test.YtcfgiffgahdlbaaXF
set_option linter.unusedVariables false
set_option linter.unusedSimpArgs false
namespace Go.Proofs.Ytcfgiffgahdlbaa.C
open Go.Sym Go.Proofs.Ytcfgiffgahdlbaa.I
abbrev qblk (ns : List Nd) : Blk := ⟨ns.length, false, 3, enc ns, none⟩
abbrev iblk (xs : List Int) : Blk := ⟨xs.length, false, 1, ints xs, none⟩
abbrev iref (b : Nat) (xs : List Int) : A := .ref b xs.length 0 xs.length
def szF (x : Int) (n : Nat) : Int := if x - n < 0 then -1 else x - n
theorem laws_szNodeS_c (ns : List Nd) (x : Int) (hl : ns.length < 9223372036854775808) (h0 : 0 ≤ x) (h1 : x < 9223372036854775808) : T 35 [.sl ns.length (enc ns), i6 x] [] (i6 (szF x ns.length)) ([]) := by
  refine semT' (S := S0) hm laws_szNodeS_ok (Nat.le_of_ble_eq_true rfl) ?_
  unfold laws_szNodeS; dsimp only
  have hw : IntKind.i64.wrap (x - ns.length) = x - ns.length := wrap64 (by omega) (by omega)
  simp [hw]
  refine br_intro' (fun h => ?_) (fun h => ?_) <;> (have h0 := h) <;> (try simp at h) <;> try simp [h0, h]
  · exact LeV.ro rfl rfl (by simp [szF, h])
  · exact LeV.ro rfl rfl (by simp [szF]; omega)
theorem laws_szNodeS_call {ns : List Nd} {x : Int} (hl : ns.length < 9223372036854775808) (h0 : 0 ≤ x) (h1 : x < 9223372036854775808) {S : FuncId → Bool} {H : List Blk} {K : A → Dl → Prop} (hS : S 35 = false) (hK : K (i6 (szF x ns.length)) (.news [])) : @WCall' Go.Proofs.Try.prog S 35 [.sl ns.length (enc ns), i6 x] H ⟨K⟩ :=
  WCall_pure hS (laws_szNodeS_c ns x hl h0 h1) (by simp) (by simp) (by simp) hK
theorem laws_szNodeS_k {ns : List Nd} {x : Int} (hl : ns.length < 9223372036854775808) (h0 : 0 ≤ x) (h1 : x < 9223372036854775808) {S : FuncId → Bool} {H : List Blk} {K : A → Dl → Prop} {zs : List A} (hS : S 35 = false) (hv : viewL (viewA 8 H) zs = some [.sl ns.length (enc ns), i6 x]) (ho : noOwns zs = true ∨ nosl (i6 (szF x ns.length)) = true) (hK : K (i6 (szF x ns.length)) (.news [])) : @WCall' Go.Proofs.Try.prog S 35 zs H ⟨K⟩ :=
  WCall_pure hS (laws_szNodeS_c ns x hl h0 h1) hv ho (by simp) hK
theorem laws_szPool_c (ns : List Nd) (x : Int) (hl : ns.length < 9223372036854775808) (h0 : 0 ≤ x) (h1 : x < 9223372036854775808) : T 9 [aP ns, i6 x] [] (i6 (szF x ns.length)) ([]) := by
  refine semT' (S := S0) hm laws_szPool_ok (Nat.le_of_ble_eq_true rfl) ?_
  unfold laws_szPool; dsimp only
  simp
  refine laws_szNodeS_call (ns := ns) (x := x) hl h0 h1 rfl ?_; simp
  refine br_intro' (fun h => ?_) (fun h => ?_) <;> (have h0 := h) <;> (try simp at h) <;> try simp [h0, h]
  · exact LeV.ro rfl rfl (by simp [szF] at h ⊢; omega)
  · exact LeV.ro rfl rfl (by simp)
theorem laws_szPool_call {ns : List Nd} {x : Int} (hl : ns.length < 9223372036854775808) (h0 : 0 ≤ x) (h1 : x < 9223372036854775808) {S : FuncId → Bool} {H : List Blk} {K : A → Dl → Prop} (hS : S 9 = false) (hK : K (i6 (szF x ns.length)) (.news [])) : @WCall' Go.Proofs.Try.prog S 9 [aP ns, i6 x] H ⟨K⟩ :=
  WCall_pure hS (laws_szPool_c ns x hl h0 h1) (by simp) (by simp) (by simp) hK
theorem laws_szPool_k {ns : List Nd} {x : Int} (hl : ns.length < 9223372036854775808) (h0 : 0 ≤ x) (h1 : x < 9223372036854775808) {S : FuncId → Bool} {H : List Blk} {K : A → Dl → Prop} {zs : List A} (hS : S 9 = false) (hv : viewL (viewA 8 H) zs = some [aP ns, i6 x]) (ho : noOwns zs = true ∨ nosl (i6 (szF x ns.length)) = true) (hK : K (i6 (szF x ns.length)) (.news [])) : @WCall' Go.Proofs.Try.prog S 9 zs H ⟨K⟩ :=
  WCall_pure hS (laws_szPool_c ns x hl h0 h1) hv ho (by simp) hK
theorem laws_toNode_c (n : Nd)  : T 64 [aN n] [] (aN n) ([]) := by
  refine semT' (S := S0) hm laws_toNode_ok (Nat.le_of_ble_eq_true rfl) ?_
  unfold laws_toNode; dsimp only
  simp
  exact LeV.ro rfl rfl (by simp)
theorem laws_toNode_call {n : Nd}  {S : FuncId → Bool} {H : List Blk} {K : A → Dl → Prop} (hS : S 64 = false) (hK : K (aN n) (.news [])) : @WCall' Go.Proofs.Try.prog S 64 [aN n] H ⟨K⟩ :=
  WCall_pure hS (laws_toNode_c n) (by simp) (by simp) (by simp) hK
theorem laws_toNode_k {n : Nd}  {S : FuncId → Bool} {H : List Blk} {K : A → Dl → Prop} {zs : List A} (hS : S 64 = false) (hv : viewL (viewA 8 H) zs = some [aN n]) (ho : noOwns zs = true ∨ nosl (aN n) = true) (hK : K (aN n) (.news [])) : @WCall' Go.Proofs.Try.prog S 64 zs H ⟨K⟩ :=
  WCall_pure hS (laws_toNode_c n) hv ho (by simp) hK
theorem laws_eqNode_c (n m : Nd)  : T 67 [aN n, aN m] [] (.bool (decide (n = m))) ([]) := by
  refine semT' (S := S0) hm laws_eqNode_ok (Nat.le_of_ble_eq_true rfl) ?_
  unfold laws_eqNode; dsimp only
  simp
  repeat (any_goals (first | (refine br_intro' (fun h => ?_) (fun h => ?_) <;> (have h0 := h) <;> (try simp at h) <;> try simp [h0, h])))
  all_goals exact LeV.ro rfl rfl (by simp [Nd_eq, *])
theorem laws_eqNode_call {n m : Nd}  {S : FuncId → Bool} {H : List Blk} {K : A → Dl → Prop} (hS : S 67 = false) (hK : K (.bool (decide (n = m))) (.news [])) : @WCall' Go.Proofs.Try.prog S 67 [aN n, aN m] H ⟨K⟩ :=
  WCall_pure hS (laws_eqNode_c n m) (by simp) (by simp) (by simp) hK
theorem laws_eqNode_k {n m : Nd}  {S : FuncId → Bool} {H : List Blk} {K : A → Dl → Prop} {zs : List A} (hS : S 67 = false) (hv : viewL (viewA 8 H) zs = some [aN n, aN m]) (ho : noOwns zs = true ∨ nosl (.bool (decide (n = m))) = true) (hK : K (.bool (decide (n = m))) (.news [])) : @WCall' Go.Proofs.Try.prog S 67 zs H ⟨K⟩ :=
  WCall_pure hS (laws_eqNode_c n m) hv ho (by simp) hK
theorem Lk_eq {x y : Lk} : x = y ↔ x.key = y.key ∧ x.epoch = y.epoch ∧ x.seq = y.seq ∧ x.over = y.over := by cases x; cases y; simp
def zN (j : Nat) : List Nd := List.replicate j ⟨0, 0, 0⟩
/-- A copy that is made up to a place. -/
def upN (ns : List Nd) (j : Nat) : List Nd := ns.take j ++ zN (ns.length - j)
theorem upN_len (ns : List Nd) (j : Nat) (h : j ≤ ns.length) : (upN ns j).length = ns.length := by simp [upN, zN]; omega
theorem upN_zero (ns : List Nd) : upN ns 0 = zN ns.length := by simp [upN]
theorem upN_end (ns : List Nd) : upN ns ns.length = ns := by simp [upN, zN]
theorem enc_zN (j : Nat) : enc (zN j) = (List.replicate j [i6 0, i6 0, i6 0]).flatten := by
  induction j with
  | zero => rfl
  | succ j ih => simp only [zN, List.replicate_succ, enc, List.flatMap_cons, List.flatten_cons] at ih ⊢; rw [ih]; rfl
theorem upN_set (ns : List Nd) (j : Nat) (h : j < ns.length) : (upN ns j).set j ns[j] = upN ns (j + 1) := by
  have hl : (ns.take j).length = j := by simp; omega
  have e : ns.length - j = (ns.length - (j + 1)) + 1 := by omega
  simp only [upN, zN]
  rw [List.set_append_right _ _ (by omega), hl, Nat.sub_self, e, List.replicate_succ, List.set_cons_zero, List.take_succ_eq_append_getElem h, List.append_assoc]
  rfl
theorem set3 {x y z : A} : ∀ (cs : List A) (a b c : A) (r : List A), (((a :: b :: c :: r).set 0 x).set 1 y).set 2 z = x :: y :: z :: r := fun _ _ _ _ _ => rfl
theorem enc_set : ∀ (xs : List Nd) (j : Nat) (n : Nd), (((enc xs).set (j * 3) (i6 n.k)).set (j * 3 + 1) (i6 n.a)).set (j * 3 + 2) (i6 n.b) = enc (xs.set j n)
  | [], j, n => by simp
  | x :: xs, 0, n => rfl
  | x :: xs, j + 1, n => by
    have := enc_set xs j n
    have e : (j + 1) * 3 = j * 3 + 1 + 1 + 1 := by omega
    show ((([i6 x.k, i6 x.a, i6 x.b] ++ enc xs).set ((j + 1) * 3) _).set ((j + 1) * 3 + 1) _).set ((j + 1) * 3 + 2) _ = [i6 x.k, i6 x.a, i6 x.b] ++ enc (xs.set j n)
    rw [e, ← this]
    rfl
theorem laws_toNodeS_c (ns : List Nd) (hl : ns.length ≤ 4294967296) : T 39 [.sl ns.length (enc ns)] [] (pref 0 ns) ([qblk ns]) := by
  refine semT' (S := S0) hm laws_toNodeS_ok (Nat.le_of_ble_eq_true rfl) ?_
  unfold laws_toNodeS; dsimp only
  have h1 : ((ns.length : Int)) * 24 ≤ 17592186044416 := by omega
  have h2 : (ns.length : Int) ≤ 4294967296 := by omega
  simp
  refine ck_intro' (by omega) ?_; simp
  rw [← enc_zN, ← upN_zero]
  refine WLoop_fam (fun j : Nat => [(0, A.sl ns.length (enc ns)), (3, A.ref 0 0 0 ns.length), (4, i6 j)]) (fun j => [⟨0, false, 3, enc (upN ns j), none⟩]) (fun j => ns.length - j)
    (fun j => j ≤ ns.length) ?_ 0 (Nat.zero_le _)
  intro j hj ih
  simp [upN_len ns j hj]
  refine br_intro' (fun h => ?_) (fun h => ?_) <;> (have h0 := h) <;> (try simp at h) <;> try simp [h0, h]
  · obtain ⟨r, hr⟩ := enc_at h
    have h3 : 3 ≤ ns.length * 3 - j * 3 := by omega
    have hw : IntKind.i64.wrap ((j : Int) + 1) = j + 1 := wrap64 (by omega) (by omega)
    have h' := h
    simp [h3, hr, h']
    refine laws_toNode_call (n := ns[j]) rfl ?_; simp [upN_len ns j hj, h']
    refine ck_intro' (by omega) ?_; simp
    rw [hw, enc_set, upN_set ns j h']
    exact ih (j + 1) h' (by omega)
  · have h0 : j = ns.length := by omega
    subst h0
    rw [upN_end]
    first | (refine LeV.tell [none] ?_ ?_ ?_ <;> (simp; done)) | (refine LeV.tell [some 0] ?_ ?_ ?_ <;> (simp; done)) | (refine LeV.tell [some 1] ?_ ?_ ?_ <;> (simp; done)) | (refine LeV.tell [some 2] ?_ ?_ ?_ <;> (simp; done)) | (refine LeV.tell [some 3] ?_ ?_ ?_ <;> (simp; done)) | (refine LeV.tell [some 4] ?_ ?_ ?_ <;> (simp; done)) | (refine LeV.tell [some 5] ?_ ?_ ?_ <;> (simp; done)) | (refine LeV.tell [some 6] ?_ ?_ ?_ <;> (simp; done)) | (refine LeV.tell [some 7] ?_ ?_ ?_ <;> (simp; done)) | (refine LeV.tell [some 8] ?_ ?_ ?_ <;> (simp; done)) | (refine LeV.tell [some 9] ?_ ?_ ?_ <;> (simp; done)) | (refine LeV.tell [some 10] ?_ ?_ ?_ <;> (simp; done)) | (refine LeV.tell [some 11] ?_ ?_ ?_ <;> (simp; done)) | (refine LeV.tell [some 12] ?_ ?_ ?_ <;> (simp; done)) | (refine LeV.tell [some 13] ?_ ?_ ?_ <;> (simp; done)) | (refine LeV.tell [some 14] ?_ ?_ ?_ <;> (simp; done)) | (refine LeV.tell [some 15] ?_ ?_ ?_ <;> (simp; done))
theorem laws_toNodeS_k {ns : List Nd} (hl : ns.length ≤ 4294967296) {S : FuncId → Bool} {H : List Blk} {K : A → Dl → Prop} {zs : List A} (hS : S 39 = false) (hv : viewL (viewA 8 H) zs = some [.sl ns.length (enc ns)]) (ho : noOwns zs = true ∨ nosl (pref 0 ns) = true ∧ noslBlks ([qblk ns]) = true) (hK : K (shiftA H.length (pref 0 ns)) (.news (([qblk ns]).map (shiftB H.length)))) : @WCall' Go.Proofs.Try.prog S 39 zs H ⟨K⟩ :=
  WCall_ro' hS hv (laws_toNodeS_c ns hl) rfl ho hK
theorem laws_toPool_c (ns : List Nd) (hl : ns.length ≤ 4294967296) : T 12 [aP ns] [] (.agg [pref 0 ns]) ([qblk ns]) := by
  refine semT' (S := S0) hm laws_toPool_ok (Nat.le_of_ble_eq_true rfl) ?_
  unfold laws_toPool; dsimp only
  simp
  refine laws_toNodeS_k (ns := ns) hl rfl (by simp) (by simp [noslBlks]) ?_; simp [shiftB]
  first | (refine LeV.tell [none] ?_ ?_ ?_ <;> (simp; done)) | (refine LeV.tell [some 0] ?_ ?_ ?_ <;> (simp; done)) | (refine LeV.tell [some 1] ?_ ?_ ?_ <;> (simp; done)) | (refine LeV.tell [some 2] ?_ ?_ ?_ <;> (simp; done)) | (refine LeV.tell [some 3] ?_ ?_ ?_ <;> (simp; done)) | (refine LeV.tell [some 4] ?_ ?_ ?_ <;> (simp; done)) | (refine LeV.tell [some 5] ?_ ?_ ?_ <;> (simp; done)) | (refine LeV.tell [some 6] ?_ ?_ ?_ <;> (simp; done)) | (refine LeV.tell [some 7] ?_ ?_ ?_ <;> (simp; done)) | (refine LeV.tell [some 8] ?_ ?_ ?_ <;> (simp; done)) | (refine LeV.tell [some 9] ?_ ?_ ?_ <;> (simp; done)) | (refine LeV.tell [some 10] ?_ ?_ ?_ <;> (simp; done)) | (refine LeV.tell [some 11] ?_ ?_ ?_ <;> (simp; done)) | (refine LeV.tell [some 12] ?_ ?_ ?_ <;> (simp; done)) | (refine LeV.tell [some 13] ?_ ?_ ?_ <;> (simp; done)) | (refine LeV.tell [some 14] ?_ ?_ ?_ <;> (simp; done)) | (refine LeV.tell [some 15] ?_ ?_ ?_ <;> (simp; done))
theorem laws_toPool_k {ns : List Nd} (hl : ns.length ≤ 4294967296) {S : FuncId → Bool} {H : List Blk} {K : A → Dl → Prop} {zs : List A} (hS : S 12 = false) (hv : viewL (viewA 8 H) zs = some [aP ns]) (ho : noOwns zs = true ∨ nosl (.agg [pref 0 ns]) = true ∧ noslBlks ([qblk ns]) = true) (hK : K (shiftA H.length (.agg [pref 0 ns])) (.news (([qblk ns]).map (shiftB H.length)))) : @WCall' Go.Proofs.Try.prog S 12 zs H ⟨K⟩ :=
  WCall_ro' hS hv (laws_toPool_c ns hl) rfl ho hK
/-- A copy of numbers that is made up to a place. -/
def upI (xs : List Int) (j : Nat) : List Int := xs.take j ++ List.replicate (xs.length - j) 0
theorem upI_len (xs : List Int) (j : Nat) (h : j ≤ xs.length) : (upI xs j).length = xs.length := by simp [upI]; omega
theorem upI_zero (xs : List Int) : upI xs 0 = List.replicate xs.length 0 := by simp [upI]
theorem upI_end (xs : List Int) : upI xs xs.length = xs := by simp [upI]
theorem upI_set (ns : List Int) (j : Nat) (h : j < ns.length) : (upI ns j).set j ns[j] = upI ns (j + 1) := by
  have hl : (ns.take j).length = j := by simp; omega
  have e : ns.length - j = (ns.length - (j + 1)) + 1 := by omega
  simp only [upI]
  rw [List.set_append_right _ _ (by omega), hl, Nat.sub_self, e, List.replicate_succ, List.set_cons_zero, List.take_succ_eq_append_getElem h, List.append_assoc]
  rfl
theorem ints_set (xs : List Int) (j : Nat) (n : Int) : (ints xs).set j (i6 n) = ints (xs.set j n) := by simp [ints, List.map_set]
@[simp] theorem ints_tells (H H' : List Blk) (g : List (Option Nat)) (xs : List Int) : Tells H H' g (ints xs) (ints xs) := Tells_scals _ (ints_scals xs)
@[simp] theorem ints_take (xs : List Int) : (ints xs).take xs.length = ints xs := List.take_of_length_le (by simp)
theorem ints_rep (n : Nat) : ints (List.replicate n 0) = List.replicate n (i6 0) := by simp [ints]
theorem laws_toIntS_c (xs : List Int) (hl : xs.length ≤ 4294967296) : T 21 [aI xs] [] (iref 0 xs) ([iblk xs]) := by
  refine semT' (S := S0) hm laws_toIntS_ok (Nat.le_of_ble_eq_true rfl) ?_
  unfold laws_toIntS; dsimp only
  have h1 : ((xs.length : Int)) * 8 ≤ 17592186044416 := by omega
  have h2 : (xs.length : Int) ≤ 4294967296 := by omega
  simp
  refine ck_intro' (by omega) ?_; simp
  rw [← ints_rep, ← upI_zero]
  refine WLoop_fam (fun j : Nat => [(0, aI xs), (3, A.ref 0 0 0 xs.length), (4, i6 j)]) (fun j => [⟨0, false, 1, ints (upI xs j), none⟩]) (fun j => xs.length - j)
    (fun j => j ≤ xs.length) ?_ 0 (Nat.zero_le _)
  intro j hj ih
  simp [upI_len xs j hj]
  refine br_intro' (fun h => ?_) (fun h => ?_) <;> (have h0 := h) <;> (try simp at h) <;> try simp [h0, h]
  · have hw : IntKind.i64.wrap ((j : Int) + 1) = j + 1 := wrap64 (by omega) (by omega)
    have h' := h
    simp [h', upI_len xs j hj]
    refine ck_intro' (by omega) ?_; simp
    rw [hw, ints_set, upI_set xs j h']
    exact ih (j + 1) h' (by omega)
  · have h0 : j = xs.length := by omega
    subst h0
    rw [upI_end]
    first | (refine LeV.tell [none] ?_ ?_ ?_ <;> (simp; done)) | (refine LeV.tell [some 0] ?_ ?_ ?_ <;> (simp; done)) | (refine LeV.tell [some 1] ?_ ?_ ?_ <;> (simp; done)) | (refine LeV.tell [some 2] ?_ ?_ ?_ <;> (simp; done)) | (refine LeV.tell [some 3] ?_ ?_ ?_ <;> (simp; done)) | (refine LeV.tell [some 4] ?_ ?_ ?_ <;> (simp; done)) | (refine LeV.tell [some 5] ?_ ?_ ?_ <;> (simp; done)) | (refine LeV.tell [some 6] ?_ ?_ ?_ <;> (simp; done)) | (refine LeV.tell [some 7] ?_ ?_ ?_ <;> (simp; done)) | (refine LeV.tell [some 8] ?_ ?_ ?_ <;> (simp; done)) | (refine LeV.tell [some 9] ?_ ?_ ?_ <;> (simp; done)) | (refine LeV.tell [some 10] ?_ ?_ ?_ <;> (simp; done)) | (refine LeV.tell [some 11] ?_ ?_ ?_ <;> (simp; done)) | (refine LeV.tell [some 12] ?_ ?_ ?_ <;> (simp; done)) | (refine LeV.tell [some 13] ?_ ?_ ?_ <;> (simp; done)) | (refine LeV.tell [some 14] ?_ ?_ ?_ <;> (simp; done)) | (refine LeV.tell [some 15] ?_ ?_ ?_ <;> (simp; done))
theorem laws_toIntS_k {xs : List Int} (hl : xs.length ≤ 4294967296) {S : FuncId → Bool} {H : List Blk} {K : A → Dl → Prop} {zs : List A} (hS : S 21 = false) (hv : viewL (viewA 8 H) zs = some [aI xs]) (ho : noOwns zs = true ∨ nosl (iref 0 xs) = true ∧ noslBlks ([iblk xs]) = true) (hK : K (shiftA H.length (iref 0 xs)) (.news (([iblk xs]).map (shiftB H.length)))) : @WCall' Go.Proofs.Try.prog S 21 zs H ⟨K⟩ :=
  WCall_ro' hS hv (laws_toIntS_c xs hl) rfl ho hK
theorem laws_eqNodeS_c (ns ms : List Nd) (hl : ns.length < 9223372036854775807) (hl2 : ms.length < 9223372036854775807) : T 47 [.sl ns.length (enc ns), .sl ms.length (enc ms)] [] (.bool (decide (ns = ms))) ([]) := by
  refine semT' (S := S0) hm laws_eqNodeS_ok (Nat.le_of_ble_eq_true rfl) ?_
  unfold laws_eqNodeS; dsimp only
  simp
  refine br_intro' (fun h => ?_) (fun h => ?_) <;> (try simp at h) <;> (try simp [h])
  · refine WLoop_fam (fun j : Nat => [(0, A.sl ns.length (enc ns)), (1, A.sl ms.length (enc ms)), (5, i6 j)]) (fun _ => []) (fun j => ns.length - j)
      (fun j => j ≤ ns.length ∧ ns.take j = ms.take j) ?_ 0 ⟨Nat.zero_le _, by simp⟩
    intro j ⟨hj, hf⟩ ih
    simp
    have hq : ns.length = ms.length := by omega
    refine br_intro' (fun h => ?_) (fun h => ?_) <;> (have h0 := h) <;> (try simp at h) <;> try simp [h0, h]
    · obtain ⟨r, hr⟩ := enc_at h
      have hm : j < ms.length := by omega
      obtain ⟨r2, hr2⟩ := enc_at hm
      have h3 : 3 ≤ ms.length * 3 - j * 3 := by omega
      have h4 : 3 ≤ ns.length * 3 - j * 3 := by omega
      have hw : IntKind.i64.wrap ((j : Int) + 1) = j + 1 := wrap64 (by omega) (by omega)
      have h' := h
      simp [h3, h4, hr, h', hr2, hm]
      refine laws_eqNode_call (n := ns[j]) (m := ms[j]) rfl ?_; simp
      first | (refine ck_intro' (by kernel_rfl) ?_; try simp) | skip
      refine br_intro' (fun g => ?_) (fun g => ?_) <;> simp at g <;> simp [g]
      · rw [hw]
        exact ih (j + 1) ⟨h', by rw [List.take_succ_eq_append_getElem h', List.take_succ_eq_append_getElem hm, hf, g]⟩ (by omega)
      · exact LeV.ro rfl rfl (by simp; intro e; subst e; exact g rfl)
    · have h0 : j = ns.length := by omega
      exact LeV.ro rfl rfl (by rw [h0, List.take_length, hq, List.take_length] at hf; simp [hf])
  · exact LeV.ro rfl rfl (by simp; intro e; rw [e] at h; exact h rfl)
theorem laws_eqNodeS_call {ns ms : List Nd} (hl : ns.length < 9223372036854775807) (hl2 : ms.length < 9223372036854775807) {S : FuncId → Bool} {H : List Blk} {K : A → Dl → Prop} (hS : S 47 = false) (hK : K (.bool (decide (ns = ms))) (.news [])) : @WCall' Go.Proofs.Try.prog S 47 [.sl ns.length (enc ns), .sl ms.length (enc ms)] H ⟨K⟩ :=
  WCall_pure hS (laws_eqNodeS_c ns ms hl hl2) (by simp) (by simp) (by simp) hK
theorem laws_eqNodeS_k {ns ms : List Nd} (hl : ns.length < 9223372036854775807) (hl2 : ms.length < 9223372036854775807) {S : FuncId → Bool} {H : List Blk} {K : A → Dl → Prop} {zs : List A} (hS : S 47 = false) (hv : viewL (viewA 8 H) zs = some [.sl ns.length (enc ns), .sl ms.length (enc ms)]) (ho : noOwns zs = true ∨ nosl (.bool (decide (ns = ms))) = true) (hK : K (.bool (decide (ns = ms))) (.news [])) : @WCall' Go.Proofs.Try.prog S 47 zs H ⟨K⟩ :=
  WCall_pure hS (laws_eqNodeS_c ns ms hl hl2) hv ho (by simp) hK
theorem laws_eqPool_c (ns ms : List Nd) (hl : ns.length < 9223372036854775807) (hl2 : ms.length < 9223372036854775807) : T 16 [aP ns, aP ms] [] (.bool (decide (ns = ms))) ([]) := by
  refine semT' (S := S0) hm laws_eqPool_ok (Nat.le_of_ble_eq_true rfl) ?_
  unfold laws_eqPool; dsimp only
  simp
  refine laws_eqNodeS_call (ns := ns) (ms := ms) hl hl2 rfl ?_; simp
  refine br_intro' (fun g => ?_) (fun g => ?_) <;> simp at g <;> simp [g]
  · exact LeV.ro rfl rfl (by simp)
  · exact LeV.ro rfl rfl (by simp [g])
theorem laws_eqPool_call {ns ms : List Nd} (hl : ns.length < 9223372036854775807) (hl2 : ms.length < 9223372036854775807) {S : FuncId → Bool} {H : List Blk} {K : A → Dl → Prop} (hS : S 16 = false) (hK : K (.bool (decide (ns = ms))) (.news [])) : @WCall' Go.Proofs.Try.prog S 16 [aP ns, aP ms] H ⟨K⟩ :=
  WCall_pure hS (laws_eqPool_c ns ms hl hl2) (by simp) (by simp) (by simp) hK
theorem laws_eqPool_k {ns ms : List Nd} (hl : ns.length < 9223372036854775807) (hl2 : ms.length < 9223372036854775807) {S : FuncId → Bool} {H : List Blk} {K : A → Dl → Prop} {zs : List A} (hS : S 16 = false) (hv : viewL (viewA 8 H) zs = some [aP ns, aP ms]) (ho : noOwns zs = true ∨ nosl (.bool (decide (ns = ms))) = true) (hK : K (.bool (decide (ns = ms))) (.news [])) : @WCall' Go.Proofs.Try.prog S 16 zs H ⟨K⟩ :=
  WCall_pure hS (laws_eqPool_c ns ms hl hl2) hv ho (by simp) hK
theorem laws_eqIntS_c (ns ms : List Int) (hl : ns.length < 9223372036854775807) (hl2 : ms.length < 9223372036854775807) : T 23 [aI ns, aI ms] [] (.bool (decide (ns = ms))) ([]) := by
  refine semT' (S := S0) hm laws_eqIntS_ok (Nat.le_of_ble_eq_true rfl) ?_
  unfold laws_eqIntS; dsimp only
  simp
  refine br_intro' (fun h => ?_) (fun h => ?_) <;> (try simp at h) <;> (try simp [h])
  · refine WLoop_fam (fun j : Nat => [(0, aI ns), (1, aI ms), (5, i6 j)]) (fun _ => []) (fun j => ns.length - j)
      (fun j => j ≤ ns.length ∧ ns.take j = ms.take j) ?_ 0 ⟨Nat.zero_le _, by simp⟩
    intro j ⟨hj, hf⟩ ih
    simp
    have hq : ns.length = ms.length := by omega
    refine br_intro' (fun h => ?_) (fun h => ?_) <;> (have h0 := h) <;> (try simp at h) <;> try simp [h0, h]
    · have hm : j < ms.length := by omega
      have hw : IntKind.i64.wrap ((j : Int) + 1) = j + 1 := wrap64 (by omega) (by omega)
      have h' := h
      simp [h', hm]
      first | (refine ck_intro' (by kernel_rfl) ?_; try simp) | skip
      refine br_intro' (fun g => ?_) (fun g => ?_) <;> simp at g <;> simp [g]
      · rw [hw]
        exact ih (j + 1) ⟨h', by rw [List.take_succ_eq_append_getElem h', List.take_succ_eq_append_getElem hm, hf, g]⟩ (by omega)
      · exact LeV.ro rfl rfl (by simp; intro e; subst e; exact g rfl)
    · have h0 : j = ns.length := by omega
      exact LeV.ro rfl rfl (by rw [h0, List.take_length, hq, List.take_length] at hf; simp [hf])
  · exact LeV.ro rfl rfl (by simp; intro e; rw [e] at h; exact h rfl)
theorem laws_eqIntS_call {ns ms : List Int} (hl : ns.length < 9223372036854775807) (hl2 : ms.length < 9223372036854775807) {S : FuncId → Bool} {H : List Blk} {K : A → Dl → Prop} (hS : S 23 = false) (hK : K (.bool (decide (ns = ms))) (.news [])) : @WCall' Go.Proofs.Try.prog S 23 [aI ns, aI ms] H ⟨K⟩ :=
  WCall_pure hS (laws_eqIntS_c ns ms hl hl2) (by simp) (by simp) (by simp) hK
theorem laws_eqIntS_k {ns ms : List Int} (hl : ns.length < 9223372036854775807) (hl2 : ms.length < 9223372036854775807) {S : FuncId → Bool} {H : List Blk} {K : A → Dl → Prop} {zs : List A} (hS : S 23 = false) (hv : viewL (viewA 8 H) zs = some [aI ns, aI ms]) (ho : noOwns zs = true ∨ nosl (.bool (decide (ns = ms))) = true) (hK : K (.bool (decide (ns = ms))) (.news [])) : @WCall' Go.Proofs.Try.prog S 23 zs H ⟨K⟩ :=
  WCall_pure hS (laws_eqIntS_c ns ms hl hl2) hv ho (by simp) hK
theorem szF_neg {x : Int} {n : Nat} : szF x n < 0 ↔ x < n := by unfold szF; split <;> omega
theorem szF_pos {x : Int} {n : Nat} (h : ¬ x < n) : szF x n = x - n := by unfold szF; rw [if_neg (by omega)]
/-- The size of a stream. -/
def szStr (s : St) (x : Int) : Int := if x < s.pool.length + s.know.length + s.sent.length + s.got.length then -1 else x - (s.pool.length + s.know.length + s.sent.length + s.got.length)
theorem St_eq {x y : St} : x = y ↔ x.pool = y.pool ∧ x.know = y.know ∧ x.out = y.out ∧ x.inn = y.inn ∧ x.sent = y.sent ∧ x.got = y.got := by cases x; cases y; simp
end Go.Proofs.Ytcfgiffgahdlbaa.C
