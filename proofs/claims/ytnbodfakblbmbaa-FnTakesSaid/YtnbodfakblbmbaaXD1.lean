/- What drawing answers: a cursor over bytes, and what is drawn by it. Conditions: those that each theorem names. -/
import Derived.Test.YtnbodfakblbmbaaXC5
set_option linter.unusedVariables false
set_option linter.unusedSimpArgs false
namespace Go.Proofs.Ytnbodfakblbmbaa.C
open Go.Sym Go.Proofs.Ytnbodfakblbmbaa.I
def In64' (n : Int) : Prop := -9223372036854775808 ≤ n ∧ n < 9223372036854775808
def bytes (bs : List Int) : List A := bs.map fun n => .int .u8 n
@[simp] theorem bytes_len (xs : List Int) : (bytes xs).length = xs.length := List.length_map ..
@[simp] theorem bytes_scals (xs : List Int) : scals (bytes xs) = true := scals_map _ (fun _ => rfl) xs
@[simp] theorem bytes_view (n : Nat) (H : List Blk) (xs : List Int) : viewL (viewA (n + 1) H) (bytes xs) = some (bytes xs) := viewL_scals _ (bytes_scals xs)
@[simp] theorem bytes_noOwns (xs : List Int) : noOwns (bytes xs) = true := noOwns_scals _ (bytes_scals xs)
@[simp] theorem bytes_shift (n : Nat) (xs : List Int) : shiftAs n (bytes xs) = bytes xs := shiftAs_scals _ (bytes_scals xs)
@[simp] theorem bytes_tells (H H' : List Blk) (g : List (Option Nat)) (xs : List Int) : Tells H H' g (bytes xs) (bytes xs) := Tells_scals _ (bytes_scals xs)
@[simp] theorem bytes_inAs (m : Nat) (xs : List Int) : inAs m (bytes xs) = true := inAs_scals _ (bytes_scals xs)
@[simp] theorem bytes_get (xs : List Int) (j : Nat) (h : j < (bytes xs).length) : (bytes xs)[j] = .int .u8 (xs[j]'(by simpa using h)) := by simp [bytes]
abbrev aB (bs : List Int) : A := .sl bs.length (bytes bs)
/-- A cursor: how far it is, and its number. -/
structure Cu where
  i : Nat
  h : Int
def cur (H : List Blk) (cb : Nat) (bs : List Int) (s : Cu) : List Blk := H.set cb ⟨0, false, 1, [aB bs, i6 s.i, i6 s.h], none⟩
@[simp] theorem cur_len (H : List Blk) (cb : Nat) (bs : List Int) (s : Cu) : (cur H cb bs s).length = H.length := by simp [cur]
@[simp] theorem cur_cur (H : List Blk) (cb : Nat) (bs : List Int) (s s' : Cu) : cur (cur H cb bs s) cb bs s' = cur H cb bs s' := by simp [cur]
theorem cur_app {H T : List Blk} {cb : Nat} (h : cb < H.length) (bs : List Int) (s : Cu) : cur (H ++ T) cb bs s = cur H cb bs s ++ T := set_left h _
theorem cur_at {H : List Blk} {cb : Nat} (h : cb < H.length) (bs : List Int) (s : Cu) : (cur H cb bs s)[cb]? = some ⟨0, false, 1, [aB bs, i6 s.i, i6 s.h], none⟩ := by simp [cur, h]
theorem cur_call {f : FuncId} {S : FuncId → Bool} {G : List Blk} {K : A → Dl → Prop} (hS : S f = true) (cb : Nat) (bs : List Int) (s s' : Cu) {zs : List A} {r : A} (hG : cur G cb bs s = G)
    (hf : T f zs (cur G cb bs s) r (cur G cb bs s')) (hK : K r (.full [cb] (cur G cb bs s'))) : @WCall' Go.Proofs.Try.prog S f zs G ⟨K⟩ := by
  rw [hG] at hf
  refine WCall_t' hS [cb] hf (by simp) (fun q hq _ => ?_) hK
  simp at hq
  exact List.getElem?_set_ne (Ne.symm hq)
@[simp] theorem cur_set (H : List Blk) (cb : Nat) (bs : List Int) (s : Cu) (i : Nat) (h : Int) : (cur H cb bs s).set cb ⟨0, false, 1, [aB bs, i6 i, i6 h], none⟩ = cur H cb bs ⟨i, h⟩ := by simp [cur]
@[simp] theorem cur_set1 (H : List Blk) (cb : Nat) (bs : List Int) (s : Cu) (i : Nat) (h : Int) : (cur H cb bs s).set cb ⟨0, false, 1, [aB bs, i6 ((i : Int) + 1), i6 h], none⟩ = cur H cb bs ⟨i + 1, h⟩ := by simp [cur]
def and255 (x : Int) : Int := IntKind.i64.wrap ((x % 2 ^ IntKind.i64.bits).toNat &&& 255 % 2 ^ IntKind.i64.bits : Nat)
theorem and255_in (x : Int) : 0 ≤ and255 x ∧ and255 x ≤ 255 := by
  have h : (x % 2 ^ IntKind.i64.bits).toNat &&& 255 % 2 ^ IntKind.i64.bits ≤ 255 := Nat.le_trans Nat.and_le_right (by decide)
  unfold and255
  rw [wrap64 (by omega) (by omega)]
  omega
def stepF (h : Int) : Int := IntKind.i64.wrap (IntKind.i64.wrap (h * 6364136223846793005) + 1442695040888963407)
def xorF (h : Int) : Int := IntKind.i64.wrap ((h.fdiv (2 ^ min 33 IntKind.i64.bits) % 2 ^ IntKind.i64.bits).toNat ^^^ (h.fdiv (2 ^ min 45 IntKind.i64.bits) % 2 ^ IntKind.i64.bits).toNat : Nat)
def byteF (bs : List Int) (s : Cu) : Int × Cu :=
  if s.i < bs.length then (and255 (IntKind.i64.wrap (and255 (xorF (stepF s.h)) + IntKind.i64.wrap (bs.getD s.i 0))), ⟨s.i + 1, stepF s.h⟩) else (and255 (xorF (stepF s.h)), ⟨s.i, stepF s.h⟩)
theorem byteF_in (bs : List Int) (s : Cu) : 0 ≤ (byteF bs s).1 ∧ (byteF bs s).1 ≤ 255 := by
  unfold byteF
  split
  · exact and255_in _
  · exact and255_in _
theorem spec_l1Byte_m (H : List Blk) (cb : Nat) (bs : List Int) (s : Cu) (hc : cb < H.length) (hb : bs.length < 9223372036854775807) : T 123 [.ptr cb 0 0] (cur H cb bs s) (i6 (byteF bs s).1) (cur H cb bs (byteF bs s).2) := by
  refine semT' (S := S0) hm spec_l1Byte_ok (Nat.le_of_ble_eq_true rfl) ?_
  unfold spec_l1Byte; dsimp only
  have gc := fun s => cur_at hc bs s
  have hw : s.i < bs.length → IntKind.i64.wrap ((s.i : Int) + 1) = s.i + 1 := fun g => wrap64 (by omega) (by omega)
  simp [gc]
  first | (refine ck_intro' (by kernel_rfl) ?_; try simp [gc]) | skip
  first | (refine ck_intro' (by kernel_rfl) ?_; try simp [gc]) | skip
  refine br_intro' (fun h => ?_) (fun h => ?_) <;> (have h0 := h) <;> (try simp at h) <;> try simp [h0, h, gc]
  · have h9 := h
    first | (refine ck_intro' (by kernel_rfl) ?_; try simp [gc, hw h9, h9]) | skip
    have e : byteF bs s = (and255 (IntKind.i64.wrap (and255 (xorF (stepF s.h)) + IntKind.i64.wrap bs[s.i])), ⟨s.i + 1, stepF s.h⟩) := by simp only [byteF, if_pos h9]; simp [h9]
    rw [e]
    exact LeV.refl _ _ _
  · have e : byteF bs s = (and255 (xorF (stepF s.h)), ⟨s.i, stepF s.h⟩) := if_neg (by omega)
    rw [e]
    exact LeV.refl _ _ _
def bigF (x y z w : Int) : Int := x * 16777216 + y * 65536 + z * 256 + w
def belowF (bs : List Int) (s : Cu) (n : Int) : Int × Cu :=
  if n ≤ 0 then (0, s)
  else if n ≤ 256 then ((byteF bs s).1.tmod n, (byteF bs s).2)
  else
    ((bigF (byteF bs s).1 (byteF bs (byteF bs s).2).1 (byteF bs (byteF bs (byteF bs s).2).2).1 (byteF bs (byteF bs (byteF bs (byteF bs s).2).2).2).1).tmod n, (byteF bs (byteF bs (byteF bs (byteF bs s).2).2).2).2)
theorem spec_l1Below_m (H : List Blk) (cb : Nat) (bs : List Int) (s : Cu) (n : Int) (hc : cb < H.length) (hb : bs.length < 9223372036854775807) : T 94 [.ptr cb 0 0, i6 n] (cur H cb bs s) (i6 (belowF bs s n).1) (cur H cb bs (belowF bs s n).2) := by
  refine semT' (S := (fun f => [123].contains f)) hm spec_l1Below_ok (Nat.le_of_ble_eq_true rfl) ?_
  unfold spec_l1Below; dsimp only
  simp
  refine br_intro' (fun h => ?_) (fun h => ?_) <;> simp at h <;> simp [h]
  · rw [show belowF bs s n = (0, s) from if_pos h]
    exact LeV.refl _ _ _
  · have h' : ¬ n ≤ 0 := by omega
    refine br_intro' (fun g => ?_) (fun g => ?_) <;> simp at g <;> simp [g]
    · rw [show belowF bs s n = ((byteF bs s).1.tmod n, (byteF bs s).2) by simp [belowF, h', g]]
      refine cur_call rfl cb bs s (byteF bs s).2 (cur_cur ..) (by rw [cur_cur, cur_cur]; exact spec_l1Byte_m H cb bs s hc hb) ?_; simp
      refine ck_intro' (by omega) ?_; simp
      exact LeV.refl _ _ _
    · have e : belowF bs s n = ((bigF (byteF bs s).1 (byteF bs (byteF bs s).2).1 (byteF bs (byteF bs (byteF bs s).2).2).1 (byteF bs (byteF bs (byteF bs (byteF bs s).2).2).2).1).tmod n, (byteF bs (byteF bs (byteF bs (byteF bs s).2).2).2).2) := by
        have g' : ¬ n ≤ 256 := by omega
        simp [belowF, h', g']
      rw [e]
      have b1 := byteF_in bs s
      have b2 := byteF_in bs (byteF bs s).2
      have b3 := byteF_in bs (byteF bs (byteF bs s).2).2
      have b4 := byteF_in bs (byteF bs (byteF bs (byteF bs s).2).2).2
      refine cur_call rfl cb bs s (byteF bs s).2 (cur_cur ..) (by rw [cur_cur, cur_cur]; exact spec_l1Byte_m H cb bs s hc hb) ?_; simp
      generalize byteF bs s = t1 at b1 b2 b3 b4 ⊢
      refine cur_call rfl cb bs t1.2 (byteF bs t1.2).2 (cur_cur ..) (by rw [cur_cur, cur_cur]; exact spec_l1Byte_m H cb bs t1.2 hc hb) ?_; simp
      generalize byteF bs t1.2 = t2 at b2 b3 b4 ⊢
      refine cur_call rfl cb bs t2.2 (byteF bs t2.2).2 (cur_cur ..) (by rw [cur_cur, cur_cur]; exact spec_l1Byte_m H cb bs t2.2 hc hb) ?_; simp
      generalize byteF bs t2.2 = t3 at b3 b4 ⊢
      refine cur_call rfl cb bs t3.2 (byteF bs t3.2).2 (cur_cur ..) (by rw [cur_cur, cur_cur]; exact spec_l1Byte_m H cb bs t3.2 hc hb) ?_; simp
      generalize byteF bs t3.2 = t4 at b4 ⊢
      have w1 : IntKind.i64.wrap (t1.1 * 16777216) = t1.1 * 16777216 := wrap64 (by omega) (by omega)
      have w2 : IntKind.i64.wrap (t2.1 * 65536) = t2.1 * 65536 := wrap64 (by omega) (by omega)
      have w3 : IntKind.i64.wrap (t3.1 * 256) = t3.1 * 256 := wrap64 (by omega) (by omega)
      have w4 : IntKind.i64.wrap (t1.1 * 16777216 + t2.1 * 65536) = t1.1 * 16777216 + t2.1 * 65536 := wrap64 (by omega) (by omega)
      have w5 : IntKind.i64.wrap (t1.1 * 16777216 + t2.1 * 65536 + t3.1 * 256) = t1.1 * 16777216 + t2.1 * 65536 + t3.1 * 256 := wrap64 (by omega) (by omega)
      have w6 : IntKind.i64.wrap (t1.1 * 16777216 + t2.1 * 65536 + t3.1 * 256 + t4.1) = bigF t1.1 t2.1 t3.1 t4.1 := wrap64 (by omega) (by omega)
      rw [w1, w2, w3, w4, w5, w6]
      refine ck_intro' (by omega) ?_; simp
      exact LeV.refl _ _ _
theorem tmod_in {x n : Int} (h : 0 ≤ x) (hn : 0 < n) : 0 ≤ x.tmod n ∧ x.tmod n < n := ⟨Int.tmod_nonneg _ h, Int.tmod_lt_of_pos _ hn⟩
theorem belowF_in (bs : List Int) (s : Cu) (n : Int) : 0 ≤ (belowF bs s n).1 ∧ (0 < n → (belowF bs s n).1 < n) ∧ (n ≤ 0 → (belowF bs s n).1 = 0) := by
  unfold belowF
  split
  · exact ⟨by simp, fun h => by omega, fun _ => rfl⟩
  · split
    · have := tmod_in (x := (byteF bs s).1) (n := n) (byteF_in bs s).1 (by omega)
      exact ⟨this.1, fun _ => this.2, fun h => by omega⟩
    · have b1 := byteF_in bs s
      have b2 := byteF_in bs (byteF bs s).2
      have b3 := byteF_in bs (byteF bs (byteF bs s).2).2
      have b4 := byteF_in bs (byteF bs (byteF bs (byteF bs s).2).2).2
      have := tmod_in (x := bigF (byteF bs s).1 (byteF bs (byteF bs s).2).1 (byteF bs (byteF bs (byteF bs s).2).2).1 (byteF bs (byteF bs (byteF bs (byteF bs s).2).2).2).1) (n := n) (by unfold bigF; omega) (by omega)
      exact ⟨this.1, fun _ => this.2, fun h => by omega⟩
def onceF (bs : List Int) (s : Cu) (n : Int) : Bool × Cu := (decide ((belowF bs s n).1 = 0), (belowF bs s n).2)
theorem spec_l1Once_m (H : List Blk) (cb : Nat) (bs : List Int) (s : Cu) (n : Int) (hc : cb < H.length) (hb : bs.length < 9223372036854775807) : T 91 [.ptr cb 0 0, i6 n] (cur H cb bs s) (.bool (onceF bs s n).1) (cur H cb bs (onceF bs s n).2) := by
  refine semT' (S := (fun f => [123, 94].contains f)) hm spec_l1Once_ok (Nat.le_of_ble_eq_true rfl) ?_
  unfold spec_l1Once; dsimp only
  simp
  refine cur_call rfl cb bs s (belowF bs s n).2 (cur_cur ..) (by rw [cur_cur, cur_cur]; exact spec_l1Below_m H cb bs s n hc hb) ?_; simp
  exact LeV.refl _ _ _
def pickF (bs : List Int) (s : Cu) (xs : List Int) : Int × Cu := (xs.getD (belowF bs s xs.length).1.toNat 0, (belowF bs s xs.length).2)
theorem spec_l1PickInt_m (H : List Blk) (cb : Nat) (bs : List Int) (s : Cu) (lb v : Nat) (xs : List Int) (hc : cb < H.length) (hb : bs.length < 9223372036854775807) (hl : xs.length < 9223372036854775807) (hx : xs ≠ []) (hL : H[lb]? = some ⟨v, false, 1, ints xs, none⟩) (hne : lb ≠ cb) : T 120 [.ptr cb 0 0, .ref lb v 0 xs.length] (cur H cb bs s) (i6 (pickF bs s xs).1) (cur H cb bs (pickF bs s xs).2) := by
  refine semT' (S := (fun f => [123, 94].contains f)) hm spec_l1PickInt_ok (Nat.le_of_ble_eq_true rfl) ?_
  unfold spec_l1PickInt; dsimp only
  have gL : ∀ s, (cur H cb bs s)[lb]? = _ := fun s => (show (cur H cb bs s)[lb]? = H[lb]? from List.getElem?_set_ne hne.symm).trans hL
  have hp : 0 < xs.length := List.length_pos_iff.2 hx
  have hi := belowF_in bs s xs.length
  obtain ⟨j, hj⟩ : ∃ j : Nat, (belowF bs s xs.length).1 = j := ⟨(belowF bs s xs.length).1.toNat, by omega⟩
  have hj' : j < xs.length := by have := hi.2.1 (by omega); omega
  simp [gL]
  refine cur_call rfl cb bs s (belowF bs s xs.length).2 (cur_cur ..) (by rw [cur_cur, cur_cur]; exact spec_l1Below_m H cb bs s xs.length hc hb) ?_; simp
  rw [hj]
  simp [gL, hj']
  have e : pickF bs s xs = (xs[j], (belowF bs s xs.length).2) := by simp [pickF, hj, hj']
  rw [e]
  exact LeV.refl _ _ _
theorem spec_l1Max_c (a b : Int)  : T 93 [i6 a, i6 b] [] (i6 (max a b)) ([]) := by
  refine semT' (S := S0) hm spec_l1Max_ok (Nat.le_of_ble_eq_true rfl) ?_
  unfold spec_l1Max; dsimp only
  simp
  refine br_intro' (fun h => ?_) (fun h => ?_) <;> (have h0 := h) <;> (try simp at h) <;> try simp [h0, h]
  · exact LeV.ro rfl rfl (by simp; omega)
  · exact LeV.ro rfl rfl (by simp; omega)
theorem spec_l1Max_call {a b : Int}  {S : FuncId → Bool} {H : List Blk} {K : A → Dl → Prop} (hS : S 93 = false) (hK : K (i6 (max a b)) (.news [])) : @WCall' Go.Proofs.Try.prog S 93 [i6 a, i6 b] H ⟨K⟩ :=
  WCall_pure hS (spec_l1Max_c a b) (by simp) (by simp) (by simp) hK
theorem spec_l1Max_k {a b : Int}  {S : FuncId → Bool} {H : List Blk} {K : A → Dl → Prop} {zs : List A} (hS : S 93 = false) (hv : viewL (viewA 8 H) zs = some [i6 a, i6 b]) (ho : noOwns zs = true ∨ nosl (i6 (max a b)) = true) (hK : K (i6 (max a b)) (.news [])) : @WCall' Go.Proofs.Try.prog S 93 zs H ⟨K⟩ :=
  WCall_pure hS (spec_l1Max_c a b) hv ho (by simp) hK
theorem spec_l1Min_c (a b : Int)  : T 92 [i6 a, i6 b] [] (i6 (min a b)) ([]) := by
  refine semT' (S := S0) hm spec_l1Min_ok (Nat.le_of_ble_eq_true rfl) ?_
  unfold spec_l1Min; dsimp only
  simp
  refine br_intro' (fun h => ?_) (fun h => ?_) <;> (have h0 := h) <;> (try simp at h) <;> try simp [h0, h]
  · exact LeV.ro rfl rfl (by simp; omega)
  · exact LeV.ro rfl rfl (by simp; omega)
theorem spec_l1Min_call {a b : Int}  {S : FuncId → Bool} {H : List Blk} {K : A → Dl → Prop} (hS : S 92 = false) (hK : K (i6 (min a b)) (.news [])) : @WCall' Go.Proofs.Try.prog S 92 [i6 a, i6 b] H ⟨K⟩ :=
  WCall_pure hS (spec_l1Min_c a b) (by simp) (by simp) (by simp) hK
theorem spec_l1Min_k {a b : Int}  {S : FuncId → Bool} {H : List Blk} {K : A → Dl → Prop} {zs : List A} (hS : S 92 = false) (hv : viewL (viewA 8 H) zs = some [i6 a, i6 b]) (ho : noOwns zs = true ∨ nosl (i6 (min a b)) = true) (hK : K (i6 (min a b)) (.news [])) : @WCall' Go.Proofs.Try.prog S 92 zs H ⟨K⟩ :=
  WCall_pure hS (spec_l1Min_c a b) hv ho (by simp) hK
def drawF (bs : List Int) (s : Cu) (n : Int) : Int × Cu :=
  if 6 < n then
    if (onceF bs s 2).1 then (n - 1 - (belowF bs (onceF bs s 2).2 6).1, (belowF bs (onceF bs s 2).2 6).2) else belowF bs (onceF bs s 2).2 n
  else belowF bs s n
theorem drawF_in (bs : List Int) (s : Cu) (n : Int) : 0 ≤ (drawF bs s n).1 ∧ (0 < n → (drawF bs s n).1 < n) ∧ (n ≤ 0 → (drawF bs s n).1 = 0) := by
  unfold drawF
  split
  · split
    · have := belowF_in bs (onceF bs s 2).2 6
      have h2 := this.2.1 (by omega)
      refine ⟨by simp; omega, fun _ => by simp; omega, fun _ => by omega⟩
    · exact belowF_in _ _ _
  · exact belowF_in _ _ _
theorem spec_l1Draw_m (H : List Blk) (cb : Nat) (bs : List Int) (s : Cu) (n : Int) (hc : cb < H.length) (hb : bs.length < 9223372036854775807) (hn : In64' n) : T 134 [.ptr cb 0 0, i6 n] (cur H cb bs s) (i6 (drawF bs s n).1) (cur H cb bs (drawF bs s n).2) := by
  refine semT' (S := (fun f => [123, 94, 91].contains f)) hm spec_l1Draw_ok (Nat.le_of_ble_eq_true rfl) ?_
  unfold spec_l1Draw; dsimp only
  obtain ⟨hn1, hn2⟩ := hn
  simp
  refine br_intro' (fun h => ?_) (fun h => ?_) <;> simp at h <;> simp [h]
  · refine cur_call rfl cb bs s (onceF bs s 2).2 (cur_cur ..) (by rw [cur_cur, cur_cur]; exact spec_l1Once_m H cb bs s 2 hc hb) ?_; simp
    refine br_intro' (fun g => ?_) (fun g => ?_) <;> simp [g]
    · refine cur_call rfl cb bs (onceF bs s 2).2 (belowF bs (onceF bs s 2).2 6).2 (cur_cur ..) (by rw [cur_cur, cur_cur]; exact spec_l1Below_m H cb bs _ 6 hc hb) ?_; simp
      have hi := belowF_in bs (onceF bs s 2).2 6
      have hi2 := hi.2.1 (by omega)
      rw [show drawF bs s n = (n - 1 - (belowF bs (onceF bs s 2).2 6).1, (belowF bs (onceF bs s 2).2 6).2) by simp [drawF, h, g]]
      generalize belowF bs (onceF bs s 2).2 6 = t at hi hi2 ⊢
      rw [wrap64 (n := n - 1) (by omega) (by omega), wrap64 (n := n - 1 - t.1) (by omega) (by omega)]
      exact LeV.refl _ _ _
    · rw [show drawF bs s n = belowF bs (onceF bs s 2).2 n by simp [drawF, h, g]]
      refine cur_call rfl cb bs (onceF bs s 2).2 (belowF bs (onceF bs s 2).2 n).2 (cur_cur ..) (by rw [cur_cur, cur_cur]; exact spec_l1Below_m H cb bs _ n hc hb) ?_; simp
      exact LeV.refl _ _ _
  · have h' : ¬ 6 < n := by omega
    simp [h']
    rw [show drawF bs s n = belowF bs s n from if_neg (by omega)]
    refine cur_call rfl cb bs s (belowF bs s n).2 (cur_cur ..) (by rw [cur_cur, cur_cur]; exact spec_l1Below_m H cb bs _ n hc hb) ?_; simp
    exact LeV.refl _ _ _
end Go.Proofs.Ytnbodfakblbmbaa.C
