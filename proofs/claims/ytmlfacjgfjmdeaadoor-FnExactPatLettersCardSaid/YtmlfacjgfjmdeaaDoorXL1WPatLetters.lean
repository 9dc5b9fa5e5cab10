/- What a law's own functions answer: sizes, copies, likeness, marks. Conditions: those that each theorem names. -/
import Derived.Test.YtmlfacjgfjmdeaaDoorXX12F
set_option linter.unusedVariables false
set_option linter.unusedSimpArgs false
namespace Go.Proofs.YtmlfacjgfjmdeaaDoor.C
open Go.Sym Go.Proofs.YtmlfacjgfjmdeaaDoor.I
abbrev qblk (ns : List Nd) : Blk := ⟨ns.length, false, 3, enc ns, none⟩
abbrev iblk (xs : List Int) : Blk := ⟨xs.length, false, 1, ints xs, none⟩
abbrev iref (b : Nat) (xs : List Int) : A := .ref b xs.length 0 xs.length
def szF (x : Int) (n : Nat) : Int := if x - n < 0 then -1 else x - n
theorem laws_szNodeS_c (ns : List Nd) (x : Int) (hl : ns.length < 9223372036854775808) (h0 : 0 ≤ x) (h1 : x < 9223372036854775808) : T 60 [.sl ns.length (enc ns), i6 x] [] (i6 (szF x ns.length)) ([]) := by
  refine semT' (S := S0) hm laws_szNodeS_ok (Nat.le_of_ble_eq_true rfl) ?_
  unfold laws_szNodeS; dsimp only
  have hw : IntKind.i64.wrap (x - ns.length) = x - ns.length := wrap64 (by omega) (by omega)
  simp [hw]
  refine br_intro' (fun h => ?_) (fun h => ?_) <;> (have h0 := h) <;> (try simp at h) <;> try simp [h0, h]
  · exact LeV.ro rfl rfl (by simp [szF, h])
  · exact LeV.ro rfl rfl (by simp [szF]; omega)
theorem laws_szNodeS_call {ns : List Nd} {x : Int} (hl : ns.length < 9223372036854775808) (h0 : 0 ≤ x) (h1 : x < 9223372036854775808) {S : FuncId → Bool} {H : List Blk} {K : A → Dl → Prop} (hS : S 60 = false) (hK : K (i6 (szF x ns.length)) (.news [])) : @WCall' Go.Proofs.Tryd.prog S 60 [.sl ns.length (enc ns), i6 x] H ⟨K⟩ :=
  WCall_pure hS (laws_szNodeS_c ns x hl h0 h1) (by simp) (by simp) (by simp) hK
theorem laws_szNodeS_k {ns : List Nd} {x : Int} (hl : ns.length < 9223372036854775808) (h0 : 0 ≤ x) (h1 : x < 9223372036854775808) {S : FuncId → Bool} {H : List Blk} {K : A → Dl → Prop} {zs : List A} (hS : S 60 = false) (hv : viewL (viewA 8 H) zs = some [.sl ns.length (enc ns), i6 x]) (ho : noOwns zs = true ∨ nosl (i6 (szF x ns.length)) = true) (hK : K (i6 (szF x ns.length)) (.news [])) : @WCall' Go.Proofs.Tryd.prog S 60 zs H ⟨K⟩ :=
  WCall_pure hS (laws_szNodeS_c ns x hl h0 h1) hv ho (by simp) hK
theorem laws_szPool_c (ns : List Nd) (x : Int) (hl : ns.length < 9223372036854775808) (h0 : 0 ≤ x) (h1 : x < 9223372036854775808) : T 32 [aP ns, i6 x] [] (i6 (szF x ns.length)) ([]) := by
  refine semT' (S := S0) hm laws_szPool_ok (Nat.le_of_ble_eq_true rfl) ?_
  unfold laws_szPool; dsimp only
  simp
  refine laws_szNodeS_call (ns := ns) (x := x) hl h0 h1 rfl ?_; simp
  refine br_intro' (fun h => ?_) (fun h => ?_) <;> (have h0 := h) <;> (try simp at h) <;> try simp [h0, h]
  · exact LeV.ro rfl rfl (by simp [szF] at h ⊢; omega)
  · exact LeV.ro rfl rfl (by simp)
theorem laws_szPool_call {ns : List Nd} {x : Int} (hl : ns.length < 9223372036854775808) (h0 : 0 ≤ x) (h1 : x < 9223372036854775808) {S : FuncId → Bool} {H : List Blk} {K : A → Dl → Prop} (hS : S 32 = false) (hK : K (i6 (szF x ns.length)) (.news [])) : @WCall' Go.Proofs.Tryd.prog S 32 [aP ns, i6 x] H ⟨K⟩ :=
  WCall_pure hS (laws_szPool_c ns x hl h0 h1) (by simp) (by simp) (by simp) hK
theorem laws_szPool_k {ns : List Nd} {x : Int} (hl : ns.length < 9223372036854775808) (h0 : 0 ≤ x) (h1 : x < 9223372036854775808) {S : FuncId → Bool} {H : List Blk} {K : A → Dl → Prop} {zs : List A} (hS : S 32 = false) (hv : viewL (viewA 8 H) zs = some [aP ns, i6 x]) (ho : noOwns zs = true ∨ nosl (i6 (szF x ns.length)) = true) (hK : K (i6 (szF x ns.length)) (.news [])) : @WCall' Go.Proofs.Tryd.prog S 32 zs H ⟨K⟩ :=
  WCall_pure hS (laws_szPool_c ns x hl h0 h1) hv ho (by simp) hK
theorem laws_toNode_c (n : Nd)  : T 93 [aN n] [] (aN n) ([]) := by
  refine semT' (S := S0) hm laws_toNode_ok (Nat.le_of_ble_eq_true rfl) ?_
  unfold laws_toNode; dsimp only
  simp
  exact LeV.ro rfl rfl (by simp)
theorem laws_toNode_call {n : Nd}  {S : FuncId → Bool} {H : List Blk} {K : A → Dl → Prop} (hS : S 93 = false) (hK : K (aN n) (.news [])) : @WCall' Go.Proofs.Tryd.prog S 93 [aN n] H ⟨K⟩ :=
  WCall_pure hS (laws_toNode_c n) (by simp) (by simp) (by simp) hK
theorem laws_toNode_k {n : Nd}  {S : FuncId → Bool} {H : List Blk} {K : A → Dl → Prop} {zs : List A} (hS : S 93 = false) (hv : viewL (viewA 8 H) zs = some [aN n]) (ho : noOwns zs = true ∨ nosl (aN n) = true) (hK : K (aN n) (.news [])) : @WCall' Go.Proofs.Tryd.prog S 93 zs H ⟨K⟩ :=
  WCall_pure hS (laws_toNode_c n) hv ho (by simp) hK
theorem laws_eqNode_c (n m : Nd)  : T 101 [aN n, aN m] [] (.bool (decide (n = m))) ([]) := by
  refine semT' (S := S0) hm laws_eqNode_ok (Nat.le_of_ble_eq_true rfl) ?_
  unfold laws_eqNode; dsimp only
  simp
  repeat (any_goals (first | (refine br_intro' (fun h => ?_) (fun h => ?_) <;> (have h0 := h) <;> (try simp at h) <;> try simp [h0, h])))
  all_goals exact LeV.ro rfl rfl (by simp [Nd_eq, *])
theorem laws_eqNode_call {n m : Nd}  {S : FuncId → Bool} {H : List Blk} {K : A → Dl → Prop} (hS : S 101 = false) (hK : K (.bool (decide (n = m))) (.news [])) : @WCall' Go.Proofs.Tryd.prog S 101 [aN n, aN m] H ⟨K⟩ :=
  WCall_pure hS (laws_eqNode_c n m) (by simp) (by simp) (by simp) hK
theorem laws_eqNode_k {n m : Nd}  {S : FuncId → Bool} {H : List Blk} {K : A → Dl → Prop} {zs : List A} (hS : S 101 = false) (hv : viewL (viewA 8 H) zs = some [aN n, aN m]) (ho : noOwns zs = true ∨ nosl (.bool (decide (n = m))) = true) (hK : K (.bool (decide (n = m))) (.news [])) : @WCall' Go.Proofs.Tryd.prog S 101 zs H ⟨K⟩ :=
  WCall_pure hS (laws_eqNode_c n m) hv ho (by simp) hK
theorem Lk_eq {x y : Lk} : x = y ↔ x.key = y.key ∧ x.epoch = y.epoch ∧ x.seq = y.seq ∧ x.over = y.over := by cases x; cases y; simp
def zN (j : Nat) : List Nd := List.replicate j ⟨0, 0, 0⟩
/-- A copy that is made up to a place. -/
def upN (ns : List Nd) (j : Nat) : List Nd := ns.take j ++ zN (ns.length - j)
theorem upN_len (ns : List Nd) (j : Nat) (h : j ≤ ns.length) : (upN ns j).length = ns.length := by simp [upN, zN]; omega
theorem upN_zero (ns : List Nd) : upN ns 0 = zN ns.length := by simp [upN]
theorem upN_end (ns : List Nd) : upN ns ns.length = ns := by simp [upN, zN]
theorem enc_zN (j : Nat) : enc (zN j) = (List.replicate j [i6 0, i6 0, i6 0]).flatten := by
  induction j with
  | zero => rfl
  | succ j ih => simp only [zN, List.replicate_succ, enc, List.flatMap_cons, List.flatten_cons] at ih ⊢; rw [ih]; rfl
theorem upN_set (ns : List Nd) (j : Nat) (h : j < ns.length) : (upN ns j).set j ns[j] = upN ns (j + 1) := by
  have hl : (ns.take j).length = j := by simp; omega
  have e : ns.length - j = (ns.length - (j + 1)) + 1 := by omega
  simp only [upN, zN]
  rw [List.set_append_right _ _ (by omega), hl, Nat.sub_self, e, List.replicate_succ, List.set_cons_zero, List.take_succ_eq_append_getElem h, List.append_assoc]
  rfl
theorem set3 {x y z : A} : ∀ (cs : List A) (a b c : A) (r : List A), (((a :: b :: c :: r).set 0 x).set 1 y).set 2 z = x :: y :: z :: r := fun _ _ _ _ _ => rfl
theorem enc_set : ∀ (xs : List Nd) (j : Nat) (n : Nd), (((enc xs).set (j * 3) (i6 n.k)).set (j * 3 + 1) (i6 n.a)).set (j * 3 + 2) (i6 n.b) = enc (xs.set j n)
  | [], j, n => by simp
  | x :: xs, 0, n => rfl
  | x :: xs, j + 1, n => by
    have := enc_set xs j n
    have e : (j + 1) * 3 = j * 3 + 1 + 1 + 1 := by omega
    show ((([i6 x.k, i6 x.a, i6 x.b] ++ enc xs).set ((j + 1) * 3) _).set ((j + 1) * 3 + 1) _).set ((j + 1) * 3 + 2) _ = [i6 x.k, i6 x.a, i6 x.b] ++ enc (xs.set j n)
    rw [e, ← this]
    rfl
theorem laws_toNodeS_c (ns : List Nd) (hl : ns.length ≤ 4294967296) : T 65 [.sl ns.length (enc ns)] [] (pref 0 ns) ([qblk ns]) := by
  refine semT' (S := S0) hm laws_toNodeS_ok (Nat.le_of_ble_eq_true rfl) ?_
  unfold laws_toNodeS; dsimp only
  have h1 : ((ns.length : Int)) * 24 ≤ 17592186044416 := by omega
  have h2 : (ns.length : Int) ≤ 4294967296 := by omega
  simp
  refine ck_intro' (by omega) ?_; simp
  rw [← enc_zN, ← upN_zero]
  refine WLoop_fam (fun j : Nat => [(0, A.sl ns.length (enc ns)), (3, A.ref 0 0 0 ns.length), (4, i6 j)]) (fun j => [⟨0, false, 3, enc (upN ns j), none⟩]) (fun j => ns.length - j)
    (fun j => j ≤ ns.length) ?_ 0 (Nat.zero_le _)
  intro j hj ih
  simp [upN_len ns j hj]
  refine br_intro' (fun h => ?_) (fun h => ?_) <;> (have h0 := h) <;> (try simp at h) <;> try simp [h0, h]
  · obtain ⟨r, hr⟩ := enc_at h
    have h3 : 3 ≤ ns.length * 3 - j * 3 := by omega
    have hw : IntKind.i64.wrap ((j : Int) + 1) = j + 1 := wrap64 (by omega) (by omega)
    have h' := h
    simp [h3, hr, h']
    refine laws_toNode_call (n := ns[j]) rfl ?_; simp [upN_len ns j hj, h']
    refine ck_intro' (by omega) ?_; simp
    rw [hw, enc_set, upN_set ns j h']
    exact ih (j + 1) h' (by omega)
  · have h0 : j = ns.length := by omega
    subst h0
    rw [upN_end]
    first | (refine LeV.tell [none] ?_ ?_ ?_ <;> (simp; done)) | (refine LeV.tell [some 0] ?_ ?_ ?_ <;> (simp; done)) | (refine LeV.tell [some 1] ?_ ?_ ?_ <;> (simp; done)) | (refine LeV.tell [some 2] ?_ ?_ ?_ <;> (simp; done)) | (refine LeV.tell [some 3] ?_ ?_ ?_ <;> (simp; done)) | (refine LeV.tell [some 4] ?_ ?_ ?_ <;> (simp; done)) | (refine LeV.tell [some 5] ?_ ?_ ?_ <;> (simp; done)) | (refine LeV.tell [some 6] ?_ ?_ ?_ <;> (simp; done)) | (refine LeV.tell [some 7] ?_ ?_ ?_ <;> (simp; done)) | (refine LeV.tell [some 8] ?_ ?_ ?_ <;> (simp; done)) | (refine LeV.tell [some 9] ?_ ?_ ?_ <;> (simp; done)) | (refine LeV.tell [some 10] ?_ ?_ ?_ <;> (simp; done)) | (refine LeV.tell [some 11] ?_ ?_ ?_ <;> (simp; done)) | (refine LeV.tell [some 12] ?_ ?_ ?_ <;> (simp; done)) | (refine LeV.tell [some 13] ?_ ?_ ?_ <;> (simp; done)) | (refine LeV.tell [some 14] ?_ ?_ ?_ <;> (simp; done)) | (refine LeV.tell [some 15] ?_ ?_ ?_ <;> (simp; done))
theorem laws_toNodeS_k {ns : List Nd} (hl : ns.length ≤ 4294967296) {S : FuncId → Bool} {H : List Blk} {K : A → Dl → Prop} {zs : List A} (hS : S 65 = false) (hv : viewL (viewA 8 H) zs = some [.sl ns.length (enc ns)]) (ho : noOwns zs = true ∨ nosl (pref 0 ns) = true ∧ noslBlks ([qblk ns]) = true) (hK : K (shiftA H.length (pref 0 ns)) (.news (([qblk ns]).map (shiftB H.length)))) : @WCall' Go.Proofs.Tryd.prog S 65 zs H ⟨K⟩ :=
  WCall_ro' hS hv (laws_toNodeS_c ns hl) rfl ho hK
theorem laws_toPool_c (ns : List Nd) (hl : ns.length ≤ 4294967296) : T 34 [aP ns] [] (.agg [pref 0 ns]) ([qblk ns]) := by
  refine semT' (S := S0) hm laws_toPool_ok (Nat.le_of_ble_eq_true rfl) ?_
  unfold laws_toPool; dsimp only
  simp
  refine laws_toNodeS_k (ns := ns) hl rfl (by simp) (by simp [noslBlks]) ?_; simp [shiftB]
  first | (refine LeV.tell [none] ?_ ?_ ?_ <;> (simp; done)) | (refine LeV.tell [some 0] ?_ ?_ ?_ <;> (simp; done)) | (refine LeV.tell [some 1] ?_ ?_ ?_ <;> (simp; done)) | (refine LeV.tell [some 2] ?_ ?_ ?_ <;> (simp; done)) | (refine LeV.tell [some 3] ?_ ?_ ?_ <;> (simp; done)) | (refine LeV.tell [some 4] ?_ ?_ ?_ <;> (simp; done)) | (refine LeV.tell [some 5] ?_ ?_ ?_ <;> (simp; done)) | (refine LeV.tell [some 6] ?_ ?_ ?_ <;> (simp; done)) | (refine LeV.tell [some 7] ?_ ?_ ?_ <;> (simp; done)) | (refine LeV.tell [some 8] ?_ ?_ ?_ <;> (simp; done)) | (refine LeV.tell [some 9] ?_ ?_ ?_ <;> (simp; done)) | (refine LeV.tell [some 10] ?_ ?_ ?_ <;> (simp; done)) | (refine LeV.tell [some 11] ?_ ?_ ?_ <;> (simp; done)) | (refine LeV.tell [some 12] ?_ ?_ ?_ <;> (simp; done)) | (refine LeV.tell [some 13] ?_ ?_ ?_ <;> (simp; done)) | (refine LeV.tell [some 14] ?_ ?_ ?_ <;> (simp; done)) | (refine LeV.tell [some 15] ?_ ?_ ?_ <;> (simp; done))
theorem laws_toPool_k {ns : List Nd} (hl : ns.length ≤ 4294967296) {S : FuncId → Bool} {H : List Blk} {K : A → Dl → Prop} {zs : List A} (hS : S 34 = false) (hv : viewL (viewA 8 H) zs = some [aP ns]) (ho : noOwns zs = true ∨ nosl (.agg [pref 0 ns]) = true ∧ noslBlks ([qblk ns]) = true) (hK : K (shiftA H.length (.agg [pref 0 ns])) (.news (([qblk ns]).map (shiftB H.length)))) : @WCall' Go.Proofs.Tryd.prog S 34 zs H ⟨K⟩ :=
  WCall_ro' hS hv (laws_toPool_c ns hl) rfl ho hK
/-- A copy of numbers that is made up to a place. -/
def upI (xs : List Int) (j : Nat) : List Int := xs.take j ++ List.replicate (xs.length - j) 0
theorem upI_len (xs : List Int) (j : Nat) (h : j ≤ xs.length) : (upI xs j).length = xs.length := by simp [upI]; omega
theorem upI_zero (xs : List Int) : upI xs 0 = List.replicate xs.length 0 := by simp [upI]
theorem upI_end (xs : List Int) : upI xs xs.length = xs := by simp [upI]
theorem upI_set (ns : List Int) (j : Nat) (h : j < ns.length) : (upI ns j).set j ns[j] = upI ns (j + 1) := by
  have hl : (ns.take j).length = j := by simp; omega
  have e : ns.length - j = (ns.length - (j + 1)) + 1 := by omega
  simp only [upI]
  rw [List.set_append_right _ _ (by omega), hl, Nat.sub_self, e, List.replicate_succ, List.set_cons_zero, List.take_succ_eq_append_getElem h, List.append_assoc]
  rfl
theorem ints_set (xs : List Int) (j : Nat) (n : Int) : (ints xs).set j (i6 n) = ints (xs.set j n) := by simp [ints, List.map_set]
@[simp] theorem ints_tells (H H' : List Blk) (g : List (Option Nat)) (xs : List Int) : Tells H H' g (ints xs) (ints xs) := Tells_scals _ (ints_scals xs)
@[simp] theorem ints_take (xs : List Int) : (ints xs).take xs.length = ints xs := List.take_of_length_le (by simp)
theorem ints_rep (n : Nat) : ints (List.replicate n 0) = List.replicate n (i6 0) := by simp [ints]
theorem laws_toIntS_c (xs : List Int) (hl : xs.length ≤ 4294967296) : T 35 [aI xs] [] (iref 0 xs) ([iblk xs]) := by
  refine semT' (S := S0) hm laws_toIntS_ok (Nat.le_of_ble_eq_true rfl) ?_
  unfold laws_toIntS; dsimp only
  have h1 : ((xs.length : Int)) * 8 ≤ 17592186044416 := by omega
  have h2 : (xs.length : Int) ≤ 4294967296 := by omega
  simp
  refine ck_intro' (by omega) ?_; simp
  rw [← ints_rep, ← upI_zero]
  refine WLoop_fam (fun j : Nat => [(0, aI xs), (3, A.ref 0 0 0 xs.length), (4, i6 j)]) (fun j => [⟨0, false, 1, ints (upI xs j), none⟩]) (fun j => xs.length - j)
    (fun j => j ≤ xs.length) ?_ 0 (Nat.zero_le _)
  intro j hj ih
  simp [upI_len xs j hj]
  refine br_intro' (fun h => ?_) (fun h => ?_) <;> (have h0 := h) <;> (try simp at h) <;> try simp [h0, h]
  · have hw : IntKind.i64.wrap ((j : Int) + 1) = j + 1 := wrap64 (by omega) (by omega)
    have h' := h
    simp [h', upI_len xs j hj]
    refine ck_intro' (by omega) ?_; simp
    rw [hw, ints_set, upI_set xs j h']
    exact ih (j + 1) h' (by omega)
  · have h0 : j = xs.length := by omega
    subst h0
    rw [upI_end]
    first | (refine LeV.tell [none] ?_ ?_ ?_ <;> (simp; done)) | (refine LeV.tell [some 0] ?_ ?_ ?_ <;> (simp; done)) | (refine LeV.tell [some 1] ?_ ?_ ?_ <;> (simp; done)) | (refine LeV.tell [some 2] ?_ ?_ ?_ <;> (simp; done)) | (refine LeV.tell [some 3] ?_ ?_ ?_ <;> (simp; done)) | (refine LeV.tell [some 4] ?_ ?_ ?_ <;> (simp; done)) | (refine LeV.tell [some 5] ?_ ?_ ?_ <;> (simp; done)) | (refine LeV.tell [some 6] ?_ ?_ ?_ <;> (simp; done)) | (refine LeV.tell [some 7] ?_ ?_ ?_ <;> (simp; done)) | (refine LeV.tell [some 8] ?_ ?_ ?_ <;> (simp; done)) | (refine LeV.tell [some 9] ?_ ?_ ?_ <;> (simp; done)) | (refine LeV.tell [some 10] ?_ ?_ ?_ <;> (simp; done)) | (refine LeV.tell [some 11] ?_ ?_ ?_ <;> (simp; done)) | (refine LeV.tell [some 12] ?_ ?_ ?_ <;> (simp; done)) | (refine LeV.tell [some 13] ?_ ?_ ?_ <;> (simp; done)) | (refine LeV.tell [some 14] ?_ ?_ ?_ <;> (simp; done)) | (refine LeV.tell [some 15] ?_ ?_ ?_ <;> (simp; done))
theorem laws_toIntS_k {xs : List Int} (hl : xs.length ≤ 4294967296) {S : FuncId → Bool} {H : List Blk} {K : A → Dl → Prop} {zs : List A} (hS : S 35 = false) (hv : viewL (viewA 8 H) zs = some [aI xs]) (ho : noOwns zs = true ∨ nosl (iref 0 xs) = true ∧ noslBlks ([iblk xs]) = true) (hK : K (shiftA H.length (iref 0 xs)) (.news (([iblk xs]).map (shiftB H.length)))) : @WCall' Go.Proofs.Tryd.prog S 35 zs H ⟨K⟩ :=
  WCall_ro' hS hv (laws_toIntS_c xs hl) rfl ho hK
theorem laws_eqNodeS_c (ns ms : List Nd) (hl : ns.length < 9223372036854775807) (hl2 : ms.length < 9223372036854775807) : T 70 [.sl ns.length (enc ns), .sl ms.length (enc ms)] [] (.bool (decide (ns = ms))) ([]) := by
  refine semT' (S := S0) hm laws_eqNodeS_ok (Nat.le_of_ble_eq_true rfl) ?_
  unfold laws_eqNodeS; dsimp only
  simp
  refine br_intro' (fun h => ?_) (fun h => ?_) <;> (try simp at h) <;> (try simp [h])
  · refine WLoop_fam (fun j : Nat => [(0, A.sl ns.length (enc ns)), (1, A.sl ms.length (enc ms)), (5, i6 j)]) (fun _ => []) (fun j => ns.length - j)
      (fun j => j ≤ ns.length ∧ ns.take j = ms.take j) ?_ 0 ⟨Nat.zero_le _, by simp⟩
    intro j ⟨hj, hf⟩ ih
    simp
    have hq : ns.length = ms.length := by omega
    refine br_intro' (fun h => ?_) (fun h => ?_) <;> (have h0 := h) <;> (try simp at h) <;> try simp [h0, h]
    · obtain ⟨r, hr⟩ := enc_at h
      have hm : j < ms.length := by omega
      obtain ⟨r2, hr2⟩ := enc_at hm
      have h3 : 3 ≤ ms.length * 3 - j * 3 := by omega
      have h4 : 3 ≤ ns.length * 3 - j * 3 := by omega
      have hw : IntKind.i64.wrap ((j : Int) + 1) = j + 1 := wrap64 (by omega) (by omega)
      have h' := h
      simp [h3, h4, hr, h', hr2, hm]
      refine laws_eqNode_call (n := ns[j]) (m := ms[j]) rfl ?_; simp
      first | (refine ck_intro' (by kernel_rfl) ?_; try simp) | skip
      refine br_intro' (fun g => ?_) (fun g => ?_) <;> simp at g <;> simp [g]
      · rw [hw]
        exact ih (j + 1) ⟨h', by rw [List.take_succ_eq_append_getElem h', List.take_succ_eq_append_getElem hm, hf, g]⟩ (by omega)
      · exact LeV.ro rfl rfl (by simp; intro e; subst e; exact g rfl)
    · have h0 : j = ns.length := by omega
      exact LeV.ro rfl rfl (by rw [h0, List.take_length, hq, List.take_length] at hf; simp [hf])
  · exact LeV.ro rfl rfl (by simp; intro e; rw [e] at h; exact h rfl)
theorem laws_eqNodeS_call {ns ms : List Nd} (hl : ns.length < 9223372036854775807) (hl2 : ms.length < 9223372036854775807) {S : FuncId → Bool} {H : List Blk} {K : A → Dl → Prop} (hS : S 70 = false) (hK : K (.bool (decide (ns = ms))) (.news [])) : @WCall' Go.Proofs.Tryd.prog S 70 [.sl ns.length (enc ns), .sl ms.length (enc ms)] H ⟨K⟩ :=
  WCall_pure hS (laws_eqNodeS_c ns ms hl hl2) (by simp) (by simp) (by simp) hK
theorem laws_eqNodeS_k {ns ms : List Nd} (hl : ns.length < 9223372036854775807) (hl2 : ms.length < 9223372036854775807) {S : FuncId → Bool} {H : List Blk} {K : A → Dl → Prop} {zs : List A} (hS : S 70 = false) (hv : viewL (viewA 8 H) zs = some [.sl ns.length (enc ns), .sl ms.length (enc ms)]) (ho : noOwns zs = true ∨ nosl (.bool (decide (ns = ms))) = true) (hK : K (.bool (decide (ns = ms))) (.news [])) : @WCall' Go.Proofs.Tryd.prog S 70 zs H ⟨K⟩ :=
  WCall_pure hS (laws_eqNodeS_c ns ms hl hl2) hv ho (by simp) hK
theorem laws_eqPool_c (ns ms : List Nd) (hl : ns.length < 9223372036854775807) (hl2 : ms.length < 9223372036854775807) : T 37 [aP ns, aP ms] [] (.bool (decide (ns = ms))) ([]) := by
  refine semT' (S := S0) hm laws_eqPool_ok (Nat.le_of_ble_eq_true rfl) ?_
  unfold laws_eqPool; dsimp only
  simp
  refine laws_eqNodeS_call (ns := ns) (ms := ms) hl hl2 rfl ?_; simp
  refine br_intro' (fun g => ?_) (fun g => ?_) <;> simp at g <;> simp [g]
  · exact LeV.ro rfl rfl (by simp)
  · exact LeV.ro rfl rfl (by simp [g])
theorem laws_eqPool_call {ns ms : List Nd} (hl : ns.length < 9223372036854775807) (hl2 : ms.length < 9223372036854775807) {S : FuncId → Bool} {H : List Blk} {K : A → Dl → Prop} (hS : S 37 = false) (hK : K (.bool (decide (ns = ms))) (.news [])) : @WCall' Go.Proofs.Tryd.prog S 37 [aP ns, aP ms] H ⟨K⟩ :=
  WCall_pure hS (laws_eqPool_c ns ms hl hl2) (by simp) (by simp) (by simp) hK
theorem laws_eqPool_k {ns ms : List Nd} (hl : ns.length < 9223372036854775807) (hl2 : ms.length < 9223372036854775807) {S : FuncId → Bool} {H : List Blk} {K : A → Dl → Prop} {zs : List A} (hS : S 37 = false) (hv : viewL (viewA 8 H) zs = some [aP ns, aP ms]) (ho : noOwns zs = true ∨ nosl (.bool (decide (ns = ms))) = true) (hK : K (.bool (decide (ns = ms))) (.news [])) : @WCall' Go.Proofs.Tryd.prog S 37 zs H ⟨K⟩ :=
  WCall_pure hS (laws_eqPool_c ns ms hl hl2) hv ho (by simp) hK
theorem laws_eqIntS_c (ns ms : List Int) (hl : ns.length < 9223372036854775807) (hl2 : ms.length < 9223372036854775807) : T 38 [aI ns, aI ms] [] (.bool (decide (ns = ms))) ([]) := by
  refine semT' (S := S0) hm laws_eqIntS_ok (Nat.le_of_ble_eq_true rfl) ?_
  unfold laws_eqIntS; dsimp only
  simp
  refine br_intro' (fun h => ?_) (fun h => ?_) <;> (try simp at h) <;> (try simp [h])
  · refine WLoop_fam (fun j : Nat => [(0, aI ns), (1, aI ms), (5, i6 j)]) (fun _ => []) (fun j => ns.length - j)
      (fun j => j ≤ ns.length ∧ ns.take j = ms.take j) ?_ 0 ⟨Nat.zero_le _, by simp⟩
    intro j ⟨hj, hf⟩ ih
    simp
    have hq : ns.length = ms.length := by omega
    refine br_intro' (fun h => ?_) (fun h => ?_) <;> (have h0 := h) <;> (try simp at h) <;> try simp [h0, h]
    · have hm : j < ms.length := by omega
      have hw : IntKind.i64.wrap ((j : Int) + 1) = j + 1 := wrap64 (by omega) (by omega)
      have h' := h
      simp [h', hm]
      first | (refine ck_intro' (by kernel_rfl) ?_; try simp) | skip
      refine br_intro' (fun g => ?_) (fun g => ?_) <;> simp at g <;> simp [g]
      · rw [hw]
        exact ih (j + 1) ⟨h', by rw [List.take_succ_eq_append_getElem h', List.take_succ_eq_append_getElem hm, hf, g]⟩ (by omega)
      · exact LeV.ro rfl rfl (by simp; intro e; subst e; exact g rfl)
    · have h0 : j = ns.length := by omega
      exact LeV.ro rfl rfl (by rw [h0, List.take_length, hq, List.take_length] at hf; simp [hf])
  · exact LeV.ro rfl rfl (by simp; intro e; rw [e] at h; exact h rfl)
theorem laws_eqIntS_call {ns ms : List Int} (hl : ns.length < 9223372036854775807) (hl2 : ms.length < 9223372036854775807) {S : FuncId → Bool} {H : List Blk} {K : A → Dl → Prop} (hS : S 38 = false) (hK : K (.bool (decide (ns = ms))) (.news [])) : @WCall' Go.Proofs.Tryd.prog S 38 [aI ns, aI ms] H ⟨K⟩ :=
  WCall_pure hS (laws_eqIntS_c ns ms hl hl2) (by simp) (by simp) (by simp) hK
theorem laws_eqIntS_k {ns ms : List Int} (hl : ns.length < 9223372036854775807) (hl2 : ms.length < 9223372036854775807) {S : FuncId → Bool} {H : List Blk} {K : A → Dl → Prop} {zs : List A} (hS : S 38 = false) (hv : viewL (viewA 8 H) zs = some [aI ns, aI ms]) (ho : noOwns zs = true ∨ nosl (.bool (decide (ns = ms))) = true) (hK : K (.bool (decide (ns = ms))) (.news [])) : @WCall' Go.Proofs.Tryd.prog S 38 zs H ⟨K⟩ :=
  WCall_pure hS (laws_eqIntS_c ns ms hl hl2) hv ho (by simp) hK
theorem szF_neg {x : Int} {n : Nat} : szF x n < 0 ↔ x < n := by unfold szF; split <;> omega
theorem szF_pos {x : Int} {n : Nat} (h : ¬ x < n) : szF x n = x - n := by unfold szF; rw [if_neg (by omega)]
/-- The size of a stream. -/
def szStr (s : St) (x : Int) : Int := if x < s.pool.length + s.know.length + s.sent.length + s.got.length then -1 else x - (s.pool.length + s.know.length + s.sent.length + s.got.length)
theorem St_eq {x y : St} : x = y ↔ x.pool = y.pool ∧ x.know = y.know ∧ x.out = y.out ∧ x.inn = y.inn ∧ x.sent = y.sent ∧ x.got = y.got := by cases x; cases y; simp
end Go.Proofs.YtmlfacjgfjmdeaaDoor.C

set_option linter.unusedVariables false
set_option linter.unusedSimpArgs false
namespace Go.Proofs.YtmlfacjgfjmdeaaDoor.C
open Go.Sym Go.Proofs.YtmlfacjgfjmdeaaDoor.I
def mkN (k : Int) : Nat → List Nd
  | 0 => []
  | n + 1 => mkN k n ++ [⟨k + 3 * n, k + 3 * n + 1, k + 3 * n + 2⟩]
@[simp] theorem mkN_len (k : Int) (n : Nat) : (mkN k n).length = n := by induction n with | zero => rfl | succ n ih => simp [mkN, ih]
@[simp] theorem mkN_take (k : Int) (n : Nat) : (enc (mkN k n)).take (n * 3) = enc (mkN k n) := List.take_of_length_le (by simp)
theorem mkN_get (k : Int) : ∀ (n j : Nat) (h : j < (mkN k n).length), (mkN k n)[j] = ⟨k + 3 * j, k + 3 * j + 1, k + 3 * j + 2⟩
  | 0, j, h => by simp at h
  | n + 1, j, h => by
    simp only [mkN]
    rcases Nat.lt_or_ge j n with g | g
    · rw [List.getElem_append_left (by simpa using g)]
      exact mkN_get k n j (by simpa using g)
    · have : j = n := by simp at h; omega
      subst this
      simp
theorem mkN_set (k : Int) (ns : List Nd) (j : Nat) (h : j < ns.length) : (mkN k j ++ ns.drop j).set j ⟨k + 3 * j, k + 3 * j + 1, k + 3 * j + 2⟩ = mkN k (j + 1) ++ ns.drop (j + 1) := by
  rw [List.set_append_right _ _ (by simp), mkN_len, Nat.sub_self, List.drop_eq_getElem_cons h, List.set_cons_zero]
  simp [mkN]
theorem set_self {α : Type} {H : List α} {n : Nat} {x : α} (h : H[n]? = some x) : H.set n x = H := by
  apply List.ext_getElem?
  intro i
  by_cases e : n = i
  · subst e
    rw [h, List.getElem?_set_self (List.getElem?_eq_some_iff.1 h).1]
  · rw [List.getElem?_set_ne e]
theorem laws_markNodeS_m (H : List Blk) (nb v : Nat) (ro : Bool) (ns : List Nd) (k : Int) (hH : H[nb]? = some ⟨v, ro, 3, enc ns, none⟩) (hro : ro = true → ns = []) (hl : ns.length ≤ 4294967296) (hk : 0 ≤ k) (hk2 : k ≤ 4294967296) : T 71 [.ref nb v 0 ns.length, i6 k] (H) (i6 (k + 3 * ns.length)) (H.set nb ⟨v, ro, 3, enc (mkN k ns.length), none⟩) := by
  refine semT' (S := S0) hm laws_markNodeS_ok (Nat.le_of_ble_eq_true rfl) ?_
  unfold laws_markNodeS; dsimp only
  have hlt : nb < H.length := (List.getElem?_eq_some_iff.1 hH).1
  have hs0 : H.set nb ⟨v, ro, 3, enc (mkN k 0 ++ ns.drop 0), none⟩ = H := set_self (by simpa [mkN] using hH)
  simp
  generalize hB : H.length = B
  rw [← hs0]
  refine WLoop_fam (fun p : Nat × Int => [(0, A.ref nb v 0 ns.length), (1, i6 p.2), (5, i6 p.1)]) (fun p => H.set nb ⟨v, ro, 3, enc (mkN k p.1 ++ ns.drop p.1), none⟩) (fun p => ns.length - p.1)
    (fun p => p.1 ≤ ns.length ∧ p.2 = k + 3 * p.1) ?_ (0, k) ⟨Nat.zero_le _, by simp⟩
  rintro ⟨j, k'⟩ ⟨hj, hk'⟩ ih
  simp at hk' hj
  subst hk'
  have hlen : (mkN k j ++ ns.drop j).length = ns.length := by simp; omega
  simp [hlt]
  refine br_intro' (fun h => ?_) (fun h => ?_) <;> (have h0 := h) <;> (try simp at h) <;> try simp [h0, h]
  · have h' := h
    have hr : ro = false := by cases ro with | false => rfl | true => rw [hro rfl] at h; simp at h
    subst hr
    have h3 : j * 3 < ns.length * 3 := by omega
    have h4 : j * 3 + 1 < ns.length * 3 := by omega
    have h5 : j * 3 + 2 < ns.length * 3 := by omega
    have w1 : IntKind.i64.wrap (k + 3 * (j : Int) + 1) = k + 3 * j + 1 := wrap64 (by omega) (by omega)
    have w2 : IntKind.i64.wrap (k + 3 * (j : Int) + 1 + 1) = k + 3 * j + 2 := by rw [wrap64 (by omega) (by omega)]; omega
    have w3 : IntKind.i64.wrap (k + 3 * (j : Int) + 2 + 1) = k + 3 * j + 3 := by rw [wrap64 (by omega) (by omega)]; omega
    have hw : IntKind.i64.wrap ((j : Int) + 1) = j + 1 := wrap64 (by omega) (by omega)
    have hc : (j + (ns.length - j)) * 3 = ns.length * 3 := by rw [Nat.add_sub_cancel' hj]
    simp [h', hlt, hc, w1, w2, w3, h3, h4, h5]
    refine ck_intro' (by omega) ?_; simp [h', hlt, hc, w1, w2, w3, h3, h4, h5]
    refine ck_intro' (by omega) ?_; simp [h', hlt, hc, w1, w2, w3, h3, h4, h5]
    refine ck_intro' (by omega) ?_; simp [h', hlt, hc, w1, w2, w3, h3, h4, h5, hw]
    have e3 := enc_set (mkN k j ++ ns.drop j) j ⟨k + 3 * j, k + 3 * j + 1, k + 3 * j + 2⟩
    rw [mkN_set k ns j h'] at e3
    rw [e3]
    exact ih (j + 1, k + 3 * j + 3) ⟨h', by push_cast; omega⟩ (by simp; omega)
  · have e : j = ns.length := by omega
    subst e
    simp
    exact LeV.refl _ _ _
theorem shift_len {H T : List Blk} {nb : Nat} {x : Blk} (h : nb < H.length) : (H ++ T).set nb x = H.set nb x ++ T := set_left h x
theorem laws_markPool_m (H : List Blk) (nb v : Nat) (ro : Bool) (ns : List Nd) (k : Int) (hH : H[nb]? = some ⟨v, ro, 3, enc ns, none⟩) (hro : ro = true → ns = []) (hl : ns.length ≤ 4294967296) (hk : 0 ≤ k) (hk2 : k ≤ 4294967296) (hcl : Closed1 H.length H = true) : T 39 [.agg [.ref nb v 0 ns.length], i6 k] (H) (i6 (k + 3 * ns.length)) (H.set nb ⟨v, ro, 3, enc (mkN k ns.length), none⟩) := by
  refine semT' (S := (fun f => [71].contains f)) hm laws_markPool_ok (Nat.le_of_ble_eq_true rfl) ?_
  unfold laws_markPool; dsimp only
  have hlt : nb < H.length := (List.getElem?_eq_some_iff.1 hH).1
  simp
  refine WCall_t' rfl [nb] (laws_markNodeS_m (H ++ [_]) nb v ro ns k (by rw [get_left hlt]; exact hH) hro hl hk hk2) (by simp) (fun b hb _ => by simp at hb; rw [List.getElem?_set_ne (Ne.symm hb)]) ?_
  simp [set_left hlt]
  exact LeV.drop (by simp) (by simpa using Closed1_set (by simp) _ _ hcl) (by simp)
theorem enc_gets {ns : List Nd} {j : Nat} (h : j < ns.length) : (enc ns)[j * 3]? = some (i6 ns[j].k) ∧ (enc ns)[j * 3 + 1]? = some (i6 ns[j].a) ∧ (enc ns)[j * 3 + 2]? = some (i6 ns[j].b) := by
  obtain ⟨r, hr⟩ := enc_at h
  have e : ∀ i, (enc ns)[j * 3 + i]? = (i6 ns[j].k :: i6 ns[j].a :: i6 ns[j].b :: r)[i]? := fun i => by rw [← hr, List.getElem?_drop]
  exact ⟨e 0, e 1, e 2⟩
theorem enc_k {ns : List Nd} {j : Nat} (h : j < ns.length) {h' : j * 3 < (enc ns).length} : (enc ns)[j * 3] = i6 ns[j].k := by
  have := (enc_gets h).1
  rw [List.getElem?_eq_getElem h'] at this
  simpa using this
theorem enc_a {ns : List Nd} {j : Nat} (h : j < ns.length) {h' : j * 3 + 1 < (enc ns).length} : (enc ns)[j * 3 + 1] = i6 ns[j].a := by
  have := (enc_gets h).2.1
  rw [List.getElem?_eq_getElem h'] at this
  simpa using this
theorem enc_b {ns : List Nd} {j : Nat} (h : j < ns.length) {h' : j * 3 + 2 < (enc ns).length} : (enc ns)[j * 3 + 2] = i6 ns[j].b := by
  have := (enc_gets h).2.2
  rw [List.getElem?_eq_getElem h'] at this
  simpa using this
theorem laws_heldNodeS_c (n : Nat) (k : Int) (hl : n ≤ 4294967296) (hk : 0 ≤ k) (hk2 : k ≤ 4294967296) : T 72 [.sl n (enc (mkN k n)), i6 k] [] (i6 (k + 3 * n)) ([]) := by
  refine semT' (S := S0) hm laws_heldNodeS_ok (Nat.le_of_ble_eq_true rfl) ?_
  unfold laws_heldNodeS; dsimp only
  simp
  refine WLoop_fam (fun p : Nat × Int => [(0, .sl n (enc (mkN k n))), (1, i6 p.2), (5, i6 p.1)]) (fun _ => []) (fun p => n - p.1)
    (fun p => p.1 ≤ n ∧ p.2 = k + 3 * p.1) ?_ (0, k) ⟨Nat.zero_le _, by simp⟩
  rintro ⟨j, k'⟩ ⟨hj, hk'⟩ ih
  simp at hk' hj
  subst hk'
  simp
  refine br_intro' (fun h => ?_) (fun h => ?_) <;> (have h0 := h) <;> (try simp at h) <;> try simp [h0, h]
  · have h' := h
    obtain ⟨r, hr⟩ := enc_at (ns := mkN k n) (j := j) (by simpa using h)
    rw [mkN_get] at hr
    have h3 : 3 ≤ n * 3 - j * 3 := by omega
    have h4 : j * 3 < n * 3 := by omega
    have w1 : IntKind.i64.wrap (k + 3 * (j : Int) + 1) = k + 3 * j + 1 := wrap64 (by omega) (by omega)
    have w2 : IntKind.i64.wrap (k + 3 * (j : Int) + 1 + 1) = k + 3 * j + 2 := by rw [wrap64 (by omega) (by omega)]; omega
    have w3 : IntKind.i64.wrap (k + 3 * (j : Int) + 2 + 1) = k + 3 * j + 3 := by rw [wrap64 (by omega) (by omega)]; omega
    have hw : IntKind.i64.wrap ((j : Int) + 1) = j + 1 := wrap64 (by omega) (by omega)
    have hj' : j < (mkN k n).length := by simpa using h
    have h5 : j * 3 + 1 < n * 3 := by omega
    have h6 : j * 3 + 2 < n * 3 := by omega
    simp [h', h3, h4, h5, h6, enc_k hj', enc_a hj', enc_b hj', mkN_get, w1, w2, w3, hw]
    exact ih (j + 1, k + 3 * j + 3) ⟨h', by push_cast; omega⟩ (by simp; omega)
  · have e : j = n := by omega
    subst e
    exact LeV.ro rfl rfl (by simp)
theorem laws_heldNodeS_call {n : Nat} {k : Int} (hl : n ≤ 4294967296) (hk : 0 ≤ k) (hk2 : k ≤ 4294967296) {S : FuncId → Bool} {H : List Blk} {K : A → Dl → Prop} (hS : S 72 = false) (hK : K (i6 (k + 3 * n)) (.news [])) : @WCall' Go.Proofs.Tryd.prog S 72 [.sl n (enc (mkN k n)), i6 k] H ⟨K⟩ :=
  WCall_pure hS (laws_heldNodeS_c n k hl hk hk2) (by simp) (by simp) (by simp) hK
theorem laws_heldNodeS_k {n : Nat} {k : Int} (hl : n ≤ 4294967296) (hk : 0 ≤ k) (hk2 : k ≤ 4294967296) {S : FuncId → Bool} {H : List Blk} {K : A → Dl → Prop} {zs : List A} (hS : S 72 = false) (hv : viewL (viewA 8 H) zs = some [.sl n (enc (mkN k n)), i6 k]) (ho : noOwns zs = true ∨ nosl (i6 (k + 3 * n)) = true) (hK : K (i6 (k + 3 * n)) (.news [])) : @WCall' Go.Proofs.Tryd.prog S 72 zs H ⟨K⟩ :=
  WCall_pure hS (laws_heldNodeS_c n k hl hk hk2) hv ho (by simp) hK
theorem laws_heldPool_c (n : Nat) (k : Int) (hl : n ≤ 4294967296) (hk : 0 ≤ k) (hk2 : k ≤ 4294967296) : T 41 [.agg [.sl n (enc (mkN k n))], i6 k] [] (i6 (k + 3 * n)) ([]) := by
  refine semT' (S := S0) hm laws_heldPool_ok (Nat.le_of_ble_eq_true rfl) ?_
  unfold laws_heldPool; dsimp only
  simp
  refine laws_heldNodeS_call (n := n) (k := k) hl hk hk2 rfl ?_; simp
  have e : ¬ k + 3 * (n : Int) < 0 := by omega
  simp [e]
  exact LeV.ro rfl rfl (by simp)
theorem laws_heldPool_call {n : Nat} {k : Int} (hl : n ≤ 4294967296) (hk : 0 ≤ k) (hk2 : k ≤ 4294967296) {S : FuncId → Bool} {H : List Blk} {K : A → Dl → Prop} (hS : S 41 = false) (hK : K (i6 (k + 3 * n)) (.news [])) : @WCall' Go.Proofs.Tryd.prog S 41 [.agg [.sl n (enc (mkN k n))], i6 k] H ⟨K⟩ :=
  WCall_pure hS (laws_heldPool_c n k hl hk hk2) (by simp) (by simp) (by simp) hK
theorem laws_heldPool_k {n : Nat} {k : Int} (hl : n ≤ 4294967296) (hk : 0 ≤ k) (hk2 : k ≤ 4294967296) {S : FuncId → Bool} {H : List Blk} {K : A → Dl → Prop} {zs : List A} (hS : S 41 = false) (hv : viewL (viewA 8 H) zs = some [.agg [.sl n (enc (mkN k n))], i6 k]) (ho : noOwns zs = true ∨ nosl (i6 (k + 3 * n)) = true) (hK : K (i6 (k + 3 * n)) (.news [])) : @WCall' Go.Proofs.Tryd.prog S 41 zs H ⟨K⟩ :=
  WCall_pure hS (laws_heldPool_c n k hl hk hk2) hv ho (by simp) hK
end Go.Proofs.YtmlfacjgfjmdeaaDoor.C

set_option linter.unusedVariables false
set_option linter.unusedSimpArgs false
set_option maxRecDepth 4000
namespace Go.Proofs.YtmlfacjgfjmdeaaDoor.C
open Go.Sym Go.Proofs.YtmlfacjgfjmdeaaDoor.I
theorem Ac_eq {x y : Ac} : x = y ↔ x.k = y.k ∧ x.t = y.t := by cases x; cases y; simp
def encA (a : Ac) : List A := [i6 a.k, .str a.t]
def encAs (xs : List Ac) : List A := xs.flatMap encA
theorem encA_len (p : Ac) : (encA p).length = 2 := rfl
@[simp] theorem encAs_len (xs : List Ac) : (encAs xs).length = xs.length * 2 := flat_len encA_len xs
@[simp] theorem encAs_scals (xs : List Ac) : scals (encAs xs) = true := scals_flat encA (fun _ => rfl) xs
@[simp] theorem encAs_nil : encAs [] = [] := rfl
theorem encAs_snoc (xs : List Ac) (p : Ac) : encAs (xs ++ [p]) = encAs xs ++ encA p := by simp [encAs]
theorem encAs_at {ns : List Ac} {j : Nat} (h : j < ns.length) : ∃ r, (encAs ns).drop (j * 2) = i6 ns[j].k :: .str ns[j].t :: r := flat_at encA_len (List.getElem?_eq_getElem h)
@[simp] theorem encAs_view (n : Nat) (H : List Blk) (xs : List Ac) : viewL (viewA (n + 1) H) (encAs xs) = some (encAs xs) := viewL_scals _ (encAs_scals xs)
@[simp] theorem encAs_noOwns (xs : List Ac) : noOwns (encAs xs) = true := noOwns_scals _ (encAs_scals xs)
@[simp] theorem encAs_nosls (xs : List Ac) : nosls (encAs xs) = true := nosls_scals _ (encAs_scals xs)
@[simp] theorem encAs_shift (n : Nat) (xs : List Ac) : shiftAs n (encAs xs) = encAs xs := shiftAs_scals _ (encAs_scals xs)
@[simp] theorem encAs_inAs (m : Nat) (xs : List Ac) : inAs m (encAs xs) = true := inAs_scals _ (encAs_scals xs)
@[simp] theorem encAs_tells (H H' : List Blk) (g : List (Option Nat)) (xs : List Ac) : Tells H H' g (encAs xs) (encAs xs) := Tells_scals _ (encAs_scals xs)
@[simp] theorem encAs_one (xs : List Ac) : (encAs xs).all A.one = true := one_scals _ (encAs_scals xs)
@[simp] theorem encAs_take (xs : List Ac) : (encAs xs).take (xs.length * 2) = encAs xs := List.take_of_length_le (by simp)
theorem encAs_gets {ns : List Ac} {j : Nat} (h : j < ns.length) : (encAs ns)[j * 2]? = some (i6 ns[j].k) ∧ (encAs ns)[j * 2 + 1]? = some (.str ns[j].t) := by
  obtain ⟨r, hr⟩ := encAs_at h
  have e : ∀ i, (encAs ns)[j * 2 + i]? = (i6 ns[j].k :: .str ns[j].t :: r)[i]? := fun i => by rw [← hr, List.getElem?_drop]
  exact ⟨e 0, e 1⟩
theorem encAs_k {ns : List Ac} {j : Nat} (h : j < ns.length) {h' : j * 2 < (encAs ns).length} : (encAs ns)[j * 2] = i6 ns[j].k := by
  have := (encAs_gets h).1
  rw [List.getElem?_eq_getElem h'] at this
  simpa using this
theorem encAs_t {ns : List Ac} {j : Nat} (h : j < ns.length) {h' : j * 2 + 1 < (encAs ns).length} : (encAs ns)[j * 2 + 1] = .str ns[j].t := by
  have := (encAs_gets h).2
  rw [List.getElem?_eq_getElem h'] at this
  simpa using this
abbrev aAs (xs : List Ac) : A := .sl xs.length (encAs xs)
abbrev acref (b : Nat) (ss : List Ac) : A := .ref b ss.length 0 ss.length
/-- A row of acts that grew. -/
abbrev acblk (ss : List Ac) : Blk := ⟨ss.length, decide (ss.length = 0), 2, encAs ss, none⟩
/-- A row of acts that a law made. -/
abbrev uacblk (ss : List Ac) : Blk := ⟨ss.length, false, 2, encAs ss, none⟩
abbrev shAc : Sh := .st (.p shI (.p .tx .u))
theorem fit_ac {cs : List A} (h : Fit shAc cs) : ∃ a : Ac, cs = encA a ∧ a.t.size ≤ maxLen := by
  obtain ⟨x, y, rfl, hx, z, t, rfl, hz, rfl⟩ := h
  obtain ⟨a, rfl, ha⟩ := fit_i hx
  obtain ⟨s, rfl, hs⟩ := hz
  exact ⟨⟨a, s⟩, rfl, hs⟩
theorem arg_ac {x : A} (h : FitA shAc x) : ∃ a : Ac, x = aAc a ∧ a.t.size ≤ maxLen := by
  obtain ⟨cs, rfl, h⟩ := h
  obtain ⟨a, rfl, g⟩ := fit_ac h
  exact ⟨a, rfl, g⟩
theorem arg_acs {x : A} (h : FitA (.sl shAc) x) : ∃ ss : List Ac, x = aAs ss ∧ (ss.length < 9223372036854775808 ∧ ∀ a ∈ ss, a.t.size ≤ maxLen) := by
  obtain ⟨xs, e, h1, h2⟩ := fit_sl (f := encA) (fun r hr => fit_ac hr) (show Fit (.sl shAc) [x] from h)
  refine ⟨xs, ?_, h1, h2⟩
  simp only [List.cons.injEq, and_true] at e
  exact e
theorem laws_toAct_c (a : Ac)  : T 17 [aAc a] [] (aAc a) ([]) := by
  refine semT' (S := S0) hm laws_toAct_ok (Nat.le_of_ble_eq_true rfl) ?_
  unfold laws_toAct; dsimp only
  simp
  exact LeV.ro rfl rfl (by simp)
theorem laws_toAct_call {a : Ac}  {S : FuncId → Bool} {H : List Blk} {K : A → Dl → Prop} (hS : S 17 = false) (hK : K (aAc a) (.news [])) : @WCall' Go.Proofs.Tryd.prog S 17 [aAc a] H ⟨K⟩ :=
  WCall_pure hS (laws_toAct_c a) (by simp) (by simp) (by simp) hK
theorem laws_toAct_k {a : Ac}  {S : FuncId → Bool} {H : List Blk} {K : A → Dl → Prop} {zs : List A} (hS : S 17 = false) (hv : viewL (viewA 8 H) zs = some [aAc a]) (ho : noOwns zs = true ∨ nosl (aAc a) = true) (hK : K (aAc a) (.news [])) : @WCall' Go.Proofs.Tryd.prog S 17 zs H ⟨K⟩ :=
  WCall_pure hS (laws_toAct_c a) hv ho (by simp) hK
theorem laws_szAct_c (a : Ac) (x : Int) (hl : a.t.size ≤ maxLen) (h0 : 0 ≤ x) (h1 : x < 9223372036854775808) : T 15 [aAc a, i6 x] [] (i6 (szF x a.t.size)) ([]) := by
  refine semT' (S := S0) hm laws_szAct_ok (Nat.le_of_ble_eq_true rfl) ?_
  unfold laws_szAct; dsimp only
  have hm' : maxLen = 9223372036854775807 := rfl
  have hw : IntKind.i64.wrap (x - a.t.size) = x - a.t.size := wrap64 (by omega) (by omega)
  simp [hw]
  refine br_intro' (fun u => ?_) (fun u => ?_) <;> (have u0 := u) <;> simp only [decide_eq_true_eq, decide_eq_false_iff_not] at u <;> simp [u0]
  · exact LeV.ro rfl rfl (by simp [szF, u])
  · exact LeV.ro rfl rfl (by simp [szF]; omega)
theorem laws_szAct_call {a : Ac} {x : Int} (hl : a.t.size ≤ maxLen) (h0 : 0 ≤ x) (h1 : x < 9223372036854775808) {S : FuncId → Bool} {H : List Blk} {K : A → Dl → Prop} (hS : S 15 = false) (hK : K (i6 (szF x a.t.size)) (.news [])) : @WCall' Go.Proofs.Tryd.prog S 15 [aAc a, i6 x] H ⟨K⟩ :=
  WCall_pure hS (laws_szAct_c a x hl h0 h1) (by simp) (by simp) (by simp) hK
theorem laws_szAct_k {a : Ac} {x : Int} (hl : a.t.size ≤ maxLen) (h0 : 0 ≤ x) (h1 : x < 9223372036854775808) {S : FuncId → Bool} {H : List Blk} {K : A → Dl → Prop} {zs : List A} (hS : S 15 = false) (hv : viewL (viewA 8 H) zs = some [aAc a, i6 x]) (ho : noOwns zs = true ∨ nosl (i6 (szF x a.t.size)) = true) (hK : K (i6 (szF x a.t.size)) (.news [])) : @WCall' Go.Proofs.Tryd.prog S 15 zs H ⟨K⟩ :=
  WCall_pure hS (laws_szAct_c a x hl h0 h1) hv ho (by simp) hK
/-- What is left behind some acts. -/
def szGo : Int → List Ac → Int
  | x, [] => x
  | x, a :: az => if x - a.t.size < 0 then -1 else szGo (x - a.t.size) az
def szAs (x : Int) (xs : List Ac) : Int := if x - xs.length < 0 then -1 else szGo (x - xs.length) xs
/-- The sizes of some acts together. -/
def totA : List Ac → Nat
  | [] => 0
  | a :: az => a.t.size + totA az
theorem szGo_tot : ∀ (xs : List Ac) (x : Int), 0 ≤ x → 0 ≤ szGo x xs → (totA xs : Int) ≤ x
  | [], x, h, _ => by simpa [totA] using h
  | a :: az, x, h, g => by
    unfold szGo at g
    split at g
    · omega
    · have := szGo_tot az _ (by omega) g
      simp only [totA]
      omega
theorem totA_mem : ∀ {xs : List Ac} {a : Ac}, a ∈ xs → a.t.size ≤ totA xs
  | x :: xs, a, h => by
    simp only [List.mem_cons] at h
    simp only [totA]
    rcases h with rfl | h
    · omega
    · have := totA_mem h; omega
theorem szAs_pos {x : Int} {xs : List Ac} (h : ¬ szAs x xs < 0) : (xs.length : Int) ≤ x ∧ (totA xs : Int) + xs.length ≤ x := by
  unfold szAs at h
  split at h
  · exact absurd (by decide) h
  · have := szGo_tot xs (x - xs.length) (by omega) (by omega)
    omega
theorem laws_szActS_c (xs : List Ac) (x : Int) (hl : xs.length < 9223372036854775808 ∧ ∀ a ∈ xs, a.t.size ≤ maxLen) (h0 : 0 ≤ x) (h1 : x < 9223372036854775808) : T 19 [aAs xs, i6 x] [] (i6 (szAs x xs)) ([]) := by
  refine semT' (S := S0) hm laws_szActS_ok (Nat.le_of_ble_eq_true rfl) ?_
  unfold laws_szActS; dsimp only
  obtain ⟨hl, hs⟩ := hl
  have hw : IntKind.i64.wrap (x - xs.length) = x - xs.length := wrap64 (by omega) (by omega)
  simp [hw]
  refine br_intro' (fun u => ?_) (fun u => ?_) <;> (have u0 := u) <;> simp only [decide_eq_true_eq, decide_eq_false_iff_not] at u <;> simp [u0]
  · exact LeV.ro rfl rfl (by simp [szAs, u])
  refine WLoop_fam (fun p : Nat × Int => [(0, aAs xs), (1, i6 p.2), (5, i6 p.1)]) (fun _ => []) (fun p => xs.length - p.1)
    (fun p => p.1 ≤ xs.length ∧ 0 ≤ p.2 ∧ p.2 < 9223372036854775808 ∧ szAs x xs = szGo p.2 (xs.drop p.1)) ?_ (0, x - xs.length) ⟨Nat.zero_le _, by simp only; omega, by simp only; omega, by simp only [szAs, if_neg u]; rfl⟩
  rintro ⟨j, y⟩ ⟨hj, hy0, hy1, hf⟩ ih
  simp only at hj hy0 hy1 hf
  simp
  refine br_intro' (fun v => ?_) (fun v => ?_) <;> (have v0 := v) <;> simp only [decide_eq_true_eq, decide_eq_false_iff_not] at v <;> simp [v0]
  · have h' : j < xs.length := by omega
    obtain ⟨r, hr⟩ := encAs_at h'
    have h3 : 2 ≤ xs.length * 2 - j * 2 := by omega
    have hd : xs.drop j = xs[j] :: xs.drop (j + 1) := List.drop_eq_getElem_cons h'
    simp [h3, hr, h']
    refine laws_szAct_call (a := xs[j]) (x := y) (hs _ (List.getElem_mem h')) hy0 hy1 rfl ?_; simp
    refine br_intro' (fun g => ?_) (fun g => ?_) <;> simp only [decide_eq_true_eq, decide_eq_false_iff_not, szF_neg] at g <;> simp [szF_neg, g]
    · exact LeV.ro rfl rfl (by rw [hf, hd]; simp only [szGo]; rw [if_pos (by omega)]; rfl)
    · rw [szF_pos g, wrap_succ (n := j) (by omega)]
      exact ih (j + 1, y - xs[j].t.size) ⟨by simp only; omega, by simp only; omega, by simp only; omega, by rw [hf, hd]; simp only [szGo]; rw [if_neg (by omega)]⟩ (by simp only; omega)
  · exact LeV.ro rfl rfl (by rw [hf, List.drop_eq_nil_of_le (by omega)]; rfl)
theorem laws_szActS_call {xs : List Ac} {x : Int} (hl : xs.length < 9223372036854775808 ∧ ∀ a ∈ xs, a.t.size ≤ maxLen) (h0 : 0 ≤ x) (h1 : x < 9223372036854775808) {S : FuncId → Bool} {H : List Blk} {K : A → Dl → Prop} (hS : S 19 = false) (hK : K (i6 (szAs x xs)) (.news [])) : @WCall' Go.Proofs.Tryd.prog S 19 [aAs xs, i6 x] H ⟨K⟩ :=
  WCall_pure hS (laws_szActS_c xs x hl h0 h1) (by simp) (by simp) (by simp) hK
theorem laws_szActS_k {xs : List Ac} {x : Int} (hl : xs.length < 9223372036854775808 ∧ ∀ a ∈ xs, a.t.size ≤ maxLen) (h0 : 0 ≤ x) (h1 : x < 9223372036854775808) {S : FuncId → Bool} {H : List Blk} {K : A → Dl → Prop} {zs : List A} (hS : S 19 = false) (hv : viewL (viewA 8 H) zs = some [aAs xs, i6 x]) (ho : noOwns zs = true ∨ nosl (i6 (szAs x xs)) = true) (hK : K (i6 (szAs x xs)) (.news [])) : @WCall' Go.Proofs.Tryd.prog S 19 zs H ⟨K⟩ :=
  WCall_pure hS (laws_szActS_c xs x hl h0 h1) hv ho (by simp) hK
theorem laws_eqAct_c (n m : Ac)  : T 48 [aAc n, aAc m] [] (.bool (decide (n = m))) ([]) := by
  refine semT' (S := S0) hm laws_eqAct_ok (Nat.le_of_ble_eq_true rfl) ?_
  unfold laws_eqAct; dsimp only
  simp
  repeat (any_goals (first | (refine br_intro' (fun h => ?_) (fun h => ?_) <;> (have h0 := h) <;> (try simp at h) <;> try simp [h0, h])))
  all_goals exact LeV.ro rfl rfl (by simp [Ac_eq, *])
theorem laws_eqAct_call {n m : Ac}  {S : FuncId → Bool} {H : List Blk} {K : A → Dl → Prop} (hS : S 48 = false) (hK : K (.bool (decide (n = m))) (.news [])) : @WCall' Go.Proofs.Tryd.prog S 48 [aAc n, aAc m] H ⟨K⟩ :=
  WCall_pure hS (laws_eqAct_c n m) (by simp) (by simp) (by simp) hK
theorem laws_eqAct_k {n m : Ac}  {S : FuncId → Bool} {H : List Blk} {K : A → Dl → Prop} {zs : List A} (hS : S 48 = false) (hv : viewL (viewA 8 H) zs = some [aAc n, aAc m]) (ho : noOwns zs = true ∨ nosl (.bool (decide (n = m))) = true) (hK : K (.bool (decide (n = m))) (.news [])) : @WCall' Go.Proofs.Tryd.prog S 48 zs H ⟨K⟩ :=
  WCall_pure hS (laws_eqAct_c n m) hv ho (by simp) hK
def zA (j : Nat) : List Ac := List.replicate j ⟨0, ⟨#[]⟩⟩
def upA (ns : List Ac) (j : Nat) : List Ac := ns.take j ++ zA (ns.length - j)
theorem upA_len (ns : List Ac) (j : Nat) (h : j ≤ ns.length) : (upA ns j).length = ns.length := by simp [upA, zA]; omega
theorem upA_zero (ns : List Ac) : upA ns 0 = zA ns.length := by simp [upA]
theorem upA_end (ns : List Ac) : upA ns ns.length = ns := by simp [upA, zA]
theorem encAs_zA (j : Nat) : encAs (zA j) = (List.replicate j [i6 0, .str ⟨#[]⟩]).flatten := by
  induction j with
  | zero => rfl
  | succ j ih => simp only [zA, List.replicate_succ, encAs, List.flatMap_cons, List.flatten_cons] at ih ⊢; rw [ih]; rfl
theorem upA_set (ns : List Ac) (j : Nat) (h : j < ns.length) : (upA ns j).set j ns[j] = upA ns (j + 1) := by
  have hl : (ns.take j).length = j := by simp; omega
  have e : ns.length - j = (ns.length - (j + 1)) + 1 := by omega
  simp only [upA, zA]
  rw [List.set_append_right _ _ (by omega), hl, Nat.sub_self, e, List.replicate_succ, List.set_cons_zero, List.take_succ_eq_append_getElem h, List.append_assoc]
  rfl
theorem encAs_set : ∀ (xs : List Ac) (j : Nat) (n : Ac), ((encAs xs).set (j * 2) (i6 n.k)).set (j * 2 + 1) (.str n.t) = encAs (xs.set j n)
  | [], j, n => by simp
  | x :: xs, 0, n => rfl
  | x :: xs, j + 1, n => by
    have := encAs_set xs j n
    have e : (j + 1) * 2 = j * 2 + 1 + 1 := by omega
    show (([i6 x.k, .str x.t] ++ encAs xs).set ((j + 1) * 2) _).set ((j + 1) * 2 + 1) _ = [i6 x.k, .str x.t] ++ encAs (xs.set j n)
    rw [e, ← this]
    rfl
theorem laws_toActS_c (ns : List Ac) (hl : ns.length ≤ 4294967296) : T 21 [aAs ns] [] (acref 0 ns) ([uacblk ns]) := by
  refine semT' (S := S0) hm laws_toActS_ok (Nat.le_of_ble_eq_true rfl) ?_
  unfold laws_toActS; dsimp only
  have h1 : ((ns.length : Int)) * 24 ≤ 17592186044416 := by omega
  have h2 : (ns.length : Int) ≤ 4294967296 := by omega
  simp
  refine ck_intro' (by omega) ?_; simp
  rw [← encAs_zA, ← upA_zero]
  refine WLoop_fam (fun j : Nat => [(0, aAs ns), (3, A.ref 0 0 0 ns.length), (4, i6 j)]) (fun j => [⟨0, false, 2, encAs (upA ns j), none⟩]) (fun j => ns.length - j)
    (fun j => j ≤ ns.length) ?_ 0 (Nat.zero_le _)
  intro j hj ih
  simp [upA_len ns j hj]
  refine br_intro' (fun h => ?_) (fun h => ?_) <;> (have h0 := h) <;> (try simp at h) <;> try simp [h0, h]
  · obtain ⟨r, hr⟩ := encAs_at h
    have h3 : 2 ≤ ns.length * 2 - j * 2 := by omega
    have hw : IntKind.i64.wrap ((j : Int) + 1) = j + 1 := wrap64 (by omega) (by omega)
    have h' := h
    simp [h3, hr, h']
    refine laws_toAct_call (a := ns[j]) rfl ?_; simp [upA_len ns j hj, h']
    refine ck_intro' (by omega) ?_; simp
    rw [hw, encAs_set, upA_set ns j h']
    exact ih (j + 1) h' (by omega)
  · have h0 : j = ns.length := by omega
    subst h0
    rw [upA_end]
    first | (refine LeV.tell [none] ?_ ?_ ?_ <;> (simp; done)) | (refine LeV.tell [some 0] ?_ ?_ ?_ <;> (simp; done)) | (refine LeV.tell [some 1] ?_ ?_ ?_ <;> (simp; done)) | (refine LeV.tell [some 2] ?_ ?_ ?_ <;> (simp; done)) | (refine LeV.tell [some 3] ?_ ?_ ?_ <;> (simp; done)) | (refine LeV.tell [some 4] ?_ ?_ ?_ <;> (simp; done)) | (refine LeV.tell [some 5] ?_ ?_ ?_ <;> (simp; done)) | (refine LeV.tell [some 6] ?_ ?_ ?_ <;> (simp; done)) | (refine LeV.tell [some 7] ?_ ?_ ?_ <;> (simp; done)) | (refine LeV.tell [some 8] ?_ ?_ ?_ <;> (simp; done)) | (refine LeV.tell [some 9] ?_ ?_ ?_ <;> (simp; done)) | (refine LeV.tell [some 10] ?_ ?_ ?_ <;> (simp; done)) | (refine LeV.tell [some 11] ?_ ?_ ?_ <;> (simp; done)) | (refine LeV.tell [some 12] ?_ ?_ ?_ <;> (simp; done)) | (refine LeV.tell [some 13] ?_ ?_ ?_ <;> (simp; done)) | (refine LeV.tell [some 14] ?_ ?_ ?_ <;> (simp; done)) | (refine LeV.tell [some 15] ?_ ?_ ?_ <;> (simp; done))
theorem laws_toActS_k {ns : List Ac} (hl : ns.length ≤ 4294967296) {S : FuncId → Bool} {H : List Blk} {K : A → Dl → Prop} {zs : List A} (hS : S 21 = false) (hv : viewL (viewA 8 H) zs = some [aAs ns]) (ho : noOwns zs = true ∨ nosl (acref 0 ns) = true ∧ noslBlks ([uacblk ns]) = true) (hK : K (shiftA H.length (acref 0 ns)) (.news (([uacblk ns]).map (shiftB H.length)))) : @WCall' Go.Proofs.Tryd.prog S 21 zs H ⟨K⟩ :=
  WCall_ro' hS hv (laws_toActS_c ns hl) rfl ho hK
theorem laws_eqActS_c (ns ms : List Ac) (hl : ns.length < 9223372036854775807) (hl2 : ms.length < 9223372036854775807) : T 23 [aAs ns, aAs ms] [] (.bool (decide (ns = ms))) ([]) := by
  refine semT' (S := S0) hm laws_eqActS_ok (Nat.le_of_ble_eq_true rfl) ?_
  unfold laws_eqActS; dsimp only
  simp
  refine br_intro' (fun h => ?_) (fun h => ?_) <;> (try simp at h) <;> (try simp [h])
  · refine WLoop_fam (fun j : Nat => [(0, aAs ns), (1, aAs ms), (5, i6 j)]) (fun _ => []) (fun j => ns.length - j)
      (fun j => j ≤ ns.length ∧ ns.take j = ms.take j) ?_ 0 ⟨Nat.zero_le _, by simp⟩
    intro j ⟨hj, hf⟩ ih
    simp
    have hq : ns.length = ms.length := by omega
    refine br_intro' (fun h => ?_) (fun h => ?_) <;> (have h0 := h) <;> (try simp at h) <;> try simp [h0, h]
    · obtain ⟨r, hr⟩ := encAs_at h
      have hm : j < ms.length := by omega
      obtain ⟨r2, hr2⟩ := encAs_at hm
      have h3 : 2 ≤ ms.length * 2 - j * 2 := by omega
      have h4 : 2 ≤ ns.length * 2 - j * 2 := by omega
      have hw : IntKind.i64.wrap ((j : Int) + 1) = j + 1 := wrap64 (by omega) (by omega)
      have h' := h
      simp [h3, h4, hr, h', hr2, hm]
      refine laws_eqAct_call (n := ns[j]) (m := ms[j]) rfl ?_; simp
      first | (refine ck_intro' (by kernel_rfl) ?_; try simp) | skip
      refine br_intro' (fun g => ?_) (fun g => ?_) <;> simp at g <;> simp [g]
      · rw [hw]
        exact ih (j + 1) ⟨h', by rw [List.take_succ_eq_append_getElem h', List.take_succ_eq_append_getElem hm, hf, g]⟩ (by omega)
      · exact LeV.ro rfl rfl (by simp; intro e; subst e; exact g rfl)
    · have h0 : j = ns.length := by omega
      exact LeV.ro rfl rfl (by rw [h0, List.take_length, hq, List.take_length] at hf; simp [hf])
  · exact LeV.ro rfl rfl (by simp; intro e; rw [e] at h; exact h rfl)
theorem laws_eqActS_call {ns ms : List Ac} (hl : ns.length < 9223372036854775807) (hl2 : ms.length < 9223372036854775807) {S : FuncId → Bool} {H : List Blk} {K : A → Dl → Prop} (hS : S 23 = false) (hK : K (.bool (decide (ns = ms))) (.news [])) : @WCall' Go.Proofs.Tryd.prog S 23 [aAs ns, aAs ms] H ⟨K⟩ :=
  WCall_pure hS (laws_eqActS_c ns ms hl hl2) (by simp) (by simp) (by simp) hK
theorem laws_eqActS_k {ns ms : List Ac} (hl : ns.length < 9223372036854775807) (hl2 : ms.length < 9223372036854775807) {S : FuncId → Bool} {H : List Blk} {K : A → Dl → Prop} {zs : List A} (hS : S 23 = false) (hv : viewL (viewA 8 H) zs = some [aAs ns, aAs ms]) (ho : noOwns zs = true ∨ nosl (.bool (decide (ns = ms))) = true) (hK : K (.bool (decide (ns = ms))) (.news [])) : @WCall' Go.Proofs.Tryd.prog S 23 zs H ⟨K⟩ :=
  WCall_pure hS (laws_eqActS_c ns ms hl hl2) hv ho (by simp) hK
end Go.Proofs.YtmlfacjgfjmdeaaDoor.C

set_option linter.unusedVariables false
set_option linter.unusedSimpArgs false
set_option maxRecDepth 4000
namespace Go.Proofs.YtmlfacjgfjmdeaaDoor.C
open Go.Sym Go.Proofs.YtmlfacjgfjmdeaaDoor.I
theorem arg_tx {x : A} (h : FitA .tx x) : ∃ s : ByteArray, x = .str s ∧ s.size ≤ maxLen := by
  obtain ⟨s, e, h⟩ := (show Fit .tx [x] from h)
  exact ⟨s, by simpa using e, h⟩
theorem laws_FnExactPatLetters_c (tx : ByteArray) (ha : tx.size ≤ maxLen) : T 4 [.str tx] [] (.bool true) ([]) := by
  refine semT' (S := (fun f => [13].contains f)) hm laws_FnExactPatLetters_ok (Nat.le_of_ble_eq_true rfl) ?_
  unfold laws_FnExactPatLetters; dsimp only
  simp
  refine br_intro' (fun g => ?_) (fun g => ?_) <;> (have g0 := g) <;> simp only [decide_eq_true_eq, decide_eq_false_iff_not] at g <;> simp [g0]
  · exact LeV.ro rfl rfl rfl
  have hs : tx.size ≤ 281474976710656 := by omega
  refine WCall_t' rfl [] (spec_PatLetters_c tx hs) (by simp) (by simp) ?_; simp
  refine impl_PatLetters_call (tx := tx) hs rfl ?_; simp
  exact LeV.ro rfl rfl rfl
end Go.Proofs.YtmlfacjgfjmdeaaDoor.C
