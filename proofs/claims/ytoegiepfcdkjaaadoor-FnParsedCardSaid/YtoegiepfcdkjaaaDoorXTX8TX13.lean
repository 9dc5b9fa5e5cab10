/- Sizes of terms. Conditions: those that each theorem names. -/
import Derived.Test.YtoegiepfcdkjaaaDoorXX4TX6
import Derived.Test.YtoegiepfcdkjaaaDoorXTX7L1
import Derived.Test.YtoegiepfcdkjaaaDoorXC1X3
set_option linter.unusedVariables false
set_option linter.unusedSimpArgs false
set_option maxRecDepth 4000
namespace Go.Proofs.YtoegiepfcdkjaaaDoor.C
open Go.Sym Go.Proofs.YtoegiepfcdkjaaaDoor.I
def min1 (a b : Int) : Int := if 1001 < a + b then 1001 else a + b
def szN (L : List Int) (n : Nd) : Int := (partsL n).foldl (fun a p => min1 a (L.getD p.toNat 0)) 1
/-- The size of a term, at most one more than may be. -/
def szT (ns : List Nd) (j : Nat) : Int := (accL szN ns).getD j 0
theorem szT_eq {ns : List Nd} (hp : poolF ns = true) {j : Nat} (h : j < ns.length) : szT ns j = (partsL ns[j]).foldl (fun a p => min1 a (szT ns p.toNat)) 1 := by
  have e := accL_at szN h
  have e2 : szT ns j = szN ((accL szN ns).take j) ns[j] := by
    simp only [szT, List.getD_eq_getElem?_getD, e, Option.getD_some]
  rw [e2]
  have hg : ∀ x : Nat, x < j → ((accL szN ns).take j).getD x 0 = szT ns x := fun x h1 => by
    simp only [szT, List.getD_eq_getElem?_getD]
    rw [List.getElem?_take_of_lt h1]
  generalize (accL szN ns).take j = L at hg ⊢
  unfold szN
  rcases parts_kind hp h with hk | hk | hk
  · simp [partsL, hk]
  · obtain ⟨a, ea, ha⟩ := part_in hp h hk
    simp [partsL, hk, ea, ← hg a ha]
  · obtain ⟨⟨a, ea, ha⟩, b, eb, hb⟩ := parts_in hp h hk
    simp [partsL, hk, ea, eb, ← hg a ha, ← hg b hb]
theorem min1_rng {a b : Int} (ha : 1 ≤ a) (hb : 1 ≤ b) : 1 ≤ min1 a b ∧ min1 a b ≤ 1001 := by unfold min1; split <;> omega
theorem szT_rng {ns : List Nd} (hp : poolF ns = true) : ∀ (m j : Nat), j < m → j < ns.length → 1 ≤ szT ns j ∧ szT ns j ≤ 1001
  | 0, j, h, _ => by omega
  | m + 1, j, hm, h => by
    rw [szT_eq hp h]
    rcases parts_kind hp h with hk | hk | hk
    · simp [partsL, hk]
    · obtain ⟨a, ea, ha⟩ := part_in hp h hk
      have h1 := szT_rng hp m a (by omega) (by omega)
      have := min1_rng (a := 1) (b := szT ns a) (by omega) h1.1
      simpa [partsL, hk, ea] using this
    · obtain ⟨⟨a, ea, ha⟩, b, eb, hb⟩ := parts_in hp h hk
      have h1 := szT_rng hp m a (by omega) (by omega)
      have h2 := szT_rng hp m b (by omega) (by omega)
      have h3 := min1_rng (a := 1) (b := szT ns a) (by omega) h1.1
      have := min1_rng (a := min1 1 (szT ns a)) (b := szT ns b) h3.1 h2.1
      simpa [partsL, hk, ea, eb] using this
/-- The row of sizes, so far. -/
def upS (ns : List Nd) (t j : Nat) : List Int := (List.range t).map fun i => if i < j then szT ns i else 0
@[simp] theorem upS_len (ns : List Nd) (t j : Nat) : (upS ns t j).length = t := by simp [upS]
theorem upS_get {ns : List Nd} {t j i : Nat} (h : i < (upS ns t j).length) : (upS ns t j)[i] = if i < j then szT ns i else 0 := by simp [upS]
theorem upS_zero (ns : List Nd) (t : Nat) : upS ns t 0 = List.replicate t 0 := by
  apply List.ext_getElem (by simp)
  intro i h1 h2
  rw [upS_get]
  simp
theorem upS_next {ns : List Nd} {t j : Nat} (hj : j < t) : (upS ns t j).set j (szT ns j) = upS ns t (j + 1) := by
  apply List.ext_getElem (by simp)
  intro i h1 h2
  rw [List.getElem_set, upS_get, upS_get]
  by_cases e : j = i
  · subst e; simp
  · rw [if_neg e]
    by_cases g : i < j
    · rw [if_pos g, if_pos (by omega)]
    · rw [if_neg g, if_neg (by omega)]
theorem min_eq (x : Int) : (if x ≤ 1001 then x else 1001) = (if x < 1001 then x else 1001) := by split <;> split <;> omega
theorem impl_Pool_size_c (ns : List Nd) (j : Nat) (hp : poolF ns = true) (hj : j < ns.length) : T 44 [.pt [.sl ns.length (enc ns)], i6 j] [] (i6 (szT ns j)) ([]) := by
  refine semT' (S := S0) hm impl_Pool_size_ok (Nat.le_of_ble_eq_true rfl) ?_
  unfold impl_Pool_size; dsimp only
  have hl5 := poolF_len hp
  have hw0 := wrap_succ (n := j) (by omega)
  have e0 : ((j : Int) + 1) = ((j + 1 : Nat) : Int) := by push_cast; rfl
  simp
  rw [hw0]
  repeat (refine ck_intro' (by first | omega | (simp; omega) | kernel_rfl) ?_; try simp [hw0])
  have hr0 : List.replicate (j + 1) (A.int IntKind.i64 0) = ints (upS ns (j + 1) 0) := by rw [upS_zero]; simp [ints]
  rw [hr0]
  refine WLoop_fam (fun n : Nat => [(0, A.pt [A.sl ns.length (enc ns)]), (1, i6 j), (5, A.ref 0 0 0 (j + 1)), (13, i6 ((j + 1 : Nat) : Int)), (14, i6 n)]) (fun n => [⟨0, false, 1, ints (upS ns (j + 1) n), none⟩]) (fun n => j + 1 - n)
    (fun n => n ≤ j + 1) ?_ 0 (Nat.zero_le _)
  intro n hn ih
  simp
  refine br_intro' (fun u => ?_) (fun u => ?_) <;> (have u0 := u) <;> simp only [decide_eq_true_eq, decide_eq_false_iff_not] at u <;> simp [u0]
  · have hnj : n < j + 1 := by omega
    have hnl : n < ns.length := by omega
    have wn := wrap_succ (n := n) (by omega)
    have w1 : IntKind.i64.wrap 1 = 1 := wrap64 (by omega) (by omega)
    have w2 : IntKind.i64.wrap 2 = 2 := wrap64 (by omega) (by omega)
    have en := nodeAt_nat hnl
    repeat (refine ck_intro' (by first | omega | (simp; omega) | kernel_rfl) ?_; try simp [hnj])
    refine impl_Pool_parts_k (ns := ns) (r := []) (t := n) (by omega) (hasF_of hnl) rfl (by simp) (by simp [noslBlks]) ?_; simp [shiftB]
    rw [en, ints_set]
    have hsz := szT_eq hp hnl
    have nx : ∀ (x : Int) (T : List Blk) (e2 : Env), x = szT ns n → ints ((upS ns (j + 1) n).set n x) = ints (upS ns (j + 1) (n + 1)) := fun x T e2 h => by rw [h, upS_next hnj]
    rcases parts_kind hp hnl with hpk | hpk | hpk
    · rw [show partsL ns[n] = [] by simp [partsL, hpk]] at hsz ⊢
      simp
      refine WLoop_step' ?_; simp
      rw [nx 1 [] [] (by rw [hsz]; rfl), wn]
      exact WLoop_drop [⟨0, false, 1, ints (upS ns (j + 1) (n + 1)), none⟩] _ rfl (by simp) (by simp) (by simp) (ih (n + 1) (by omega) (by omega))
    · obtain ⟨a, ea, ha⟩ := part_in hp hnl hpk
      rw [show partsL ns[n] = [ns[n].a] by simp [partsL, hpk], ea] at hsz ⊢
      have i1 : ints [(a : Int)] = [i6 a] := rfl
      have haj : a < j + 1 := by omega
      have hr := szT_rng hp _ a (Nat.lt_succ_self _) (by omega)
      have wa : IntKind.i64.wrap (1 + szT ns a) = 1 + szT ns a := wrap64 (by omega) (by omega)
      have ga : ((upS ns (j + 1) n).set n 1)[a]'(by simp; omega) = szT ns a := by
        rw [List.getElem_set_ne (by omega), upS_get, if_pos ha]
      have hsz1 : szT ns n = min1 1 (szT ns a) := by rw [hsz]; rfl
      simp [i1]
      refine WLoop_step' ?_; simp [i1]
      repeat (refine ck_intro' (by first | omega | (simp; omega) | kernel_rfl) ?_; try simp [haj, hnj, w1, wa, ga, i1, ints_set])
      refine WLoop_step' ?_; simp
      rw [nx _ [] [] (by rw [hsz1]; rfl), wn]
      exact WLoop_drop [⟨0, false, 1, ints (upS ns (j + 1) (n + 1)), none⟩] _ rfl (by simp) (by simp) (by simp) (ih (n + 1) (by omega) (by omega))
    · obtain ⟨⟨a, ea, ha⟩, b, eb, hb⟩ := parts_in hp hnl hpk
      rw [show partsL ns[n] = [ns[n].a, ns[n].b] by simp [partsL, hpk], ea, eb] at hsz ⊢
      have i1 : ints [(a : Int), (b : Int)] = [i6 a, i6 b] := rfl
      have haj : a < j + 1 := by omega
      have hbj : b < j + 1 := by omega
      have hr := szT_rng hp _ a (Nat.lt_succ_self _) (by omega)
      have hrb := szT_rng hp _ b (Nat.lt_succ_self _) (by omega)
      have hm1 := min1_rng (a := 1) (b := szT ns a) (by omega) hr.1
      have wa : IntKind.i64.wrap (1 + szT ns a) = 1 + szT ns a := wrap64 (by omega) (by omega)
      have ga : ((upS ns (j + 1) n).set n 1)[a]'(by simp; omega) = szT ns a := by
        rw [List.getElem_set_ne (by omega), upS_get, if_pos ha]
      have em : (if 1001 < 1 + szT ns a then 1001 else 1 + szT ns a) = min1 1 (szT ns a) := rfl
      have gb : ∀ x : Int, ((upS ns (j + 1) n).set n x)[b]'(by simp; omega) = szT ns b := fun x => by
        rw [List.getElem_set_ne (by omega), upS_get, if_pos hb]
      have wb : IntKind.i64.wrap (min1 1 (szT ns a) + szT ns b) = min1 1 (szT ns a) + szT ns b := wrap64 (by omega) (by omega)
      have hsz1 : szT ns n = min1 (min1 1 (szT ns a)) (szT ns b) := by rw [hsz]; rfl
      simp [i1]
      refine WLoop_step' ?_; simp [i1]
      repeat (refine ck_intro' (by first | omega | (simp; omega) | kernel_rfl) ?_; try simp [haj, hnj, w1, wa, ga, i1, ints_set])
      rw [em]
      refine WLoop_step' ?_; simp [i1]
      repeat (refine ck_intro' (by first | omega | (simp; omega) | kernel_rfl) ?_; try simp [hbj, hnj, w2, wb, gb, i1, ints_set])
      refine WLoop_step' ?_; simp
      rw [nx _ [] [] (by rw [hsz1]; rfl), wn]
      exact WLoop_drop [⟨0, false, 1, ints (upS ns (j + 1) (n + 1)), none⟩] _ rfl (by simp) (by simp) (by simp) (ih (n + 1) (by omega) (by omega))
  · have : n = j + 1 := by omega
    subst this
    repeat (refine ck_intro' (by first | omega | (simp; omega) | kernel_rfl) ?_; try simp)
    exact LeV.ro rfl rfl (by rw [upS_get, if_pos (by omega)]; rfl)
theorem impl_Pool_size_k {ns : List Nd} {j : Nat} (hp : poolF ns = true) (hj : j < ns.length) {S : FuncId → Bool} {H : List Blk} {K : A → Dl → Prop} {zs : List A} (hS : S 44 = false) (hv : viewL (viewA 8 H) zs = some [.pt [.sl ns.length (enc ns)], i6 j]) (ho : noOwns zs = true ∨ nosl (i6 (szT ns j)) = true) (hK : K (i6 (szT ns j)) (.news [])) : @WCall' Go.Proofs.Tryd.prog S 44 zs H ⟨K⟩ :=
  WCall_pure hS (impl_Pool_size_c ns j hp hj) hv ho (by simp) hK
end Go.Proofs.YtoegiepfcdkjaaaDoor.C

set_option linter.unusedVariables false
set_option linter.unusedSimpArgs false
namespace Go.Proofs.YtoegiepfcdkjaaaDoor.C
open Go.Sym Go.Proofs.YtoegiepfcdkjaaaDoor.I
def In64' (n : Int) : Prop := -9223372036854775808 ≤ n ∧ n < 9223372036854775808
def bytes (bs : List Int) : List A := bs.map fun n => .int .u8 n
@[simp] theorem bytes_len (xs : List Int) : (bytes xs).length = xs.length := List.length_map ..
@[simp] theorem bytes_scals (xs : List Int) : scals (bytes xs) = true := scals_map _ (fun _ => rfl) xs
@[simp] theorem bytes_view (n : Nat) (H : List Blk) (xs : List Int) : viewL (viewA (n + 1) H) (bytes xs) = some (bytes xs) := viewL_scals _ (bytes_scals xs)
@[simp] theorem bytes_noOwns (xs : List Int) : noOwns (bytes xs) = true := noOwns_scals _ (bytes_scals xs)
@[simp] theorem bytes_shift (n : Nat) (xs : List Int) : shiftAs n (bytes xs) = bytes xs := shiftAs_scals _ (bytes_scals xs)
@[simp] theorem bytes_tells (H H' : List Blk) (g : List (Option Nat)) (xs : List Int) : Tells H H' g (bytes xs) (bytes xs) := Tells_scals _ (bytes_scals xs)
@[simp] theorem bytes_inAs (m : Nat) (xs : List Int) : inAs m (bytes xs) = true := inAs_scals _ (bytes_scals xs)
@[simp] theorem bytes_get (xs : List Int) (j : Nat) (h : j < (bytes xs).length) : (bytes xs)[j] = .int .u8 (xs[j]'(by simpa using h)) := by simp [bytes]
abbrev aB (bs : List Int) : A := .sl bs.length (bytes bs)
/-- A cursor: how far it is, and its number. -/
structure Cu where
  i : Nat
  h : Int
def cur (H : List Blk) (cb : Nat) (bs : List Int) (s : Cu) : List Blk := H.set cb ⟨0, false, 1, [aB bs, i6 s.i, i6 s.h], none⟩
@[simp] theorem cur_len (H : List Blk) (cb : Nat) (bs : List Int) (s : Cu) : (cur H cb bs s).length = H.length := by simp [cur]
@[simp] theorem cur_cur (H : List Blk) (cb : Nat) (bs : List Int) (s s' : Cu) : cur (cur H cb bs s) cb bs s' = cur H cb bs s' := by simp [cur]
theorem cur_app {H T : List Blk} {cb : Nat} (h : cb < H.length) (bs : List Int) (s : Cu) : cur (H ++ T) cb bs s = cur H cb bs s ++ T := set_left h _
theorem cur_at {H : List Blk} {cb : Nat} (h : cb < H.length) (bs : List Int) (s : Cu) : (cur H cb bs s)[cb]? = some ⟨0, false, 1, [aB bs, i6 s.i, i6 s.h], none⟩ := by simp [cur, h]
theorem cur_call {f : FuncId} {S : FuncId → Bool} {G : List Blk} {K : A → Dl → Prop} (hS : S f = true) (cb : Nat) (bs : List Int) (s s' : Cu) {zs : List A} {r : A} (hG : cur G cb bs s = G)
    (hf : T f zs (cur G cb bs s) r (cur G cb bs s')) (hK : K r (.full [cb] (cur G cb bs s'))) : @WCall' Go.Proofs.Tryd.prog S f zs G ⟨K⟩ := by
  rw [hG] at hf
  refine WCall_t' hS [cb] hf (by simp) (fun q hq _ => ?_) hK
  simp at hq
  exact List.getElem?_set_ne (Ne.symm hq)
@[simp] theorem cur_set (H : List Blk) (cb : Nat) (bs : List Int) (s : Cu) (i : Nat) (h : Int) : (cur H cb bs s).set cb ⟨0, false, 1, [aB bs, i6 i, i6 h], none⟩ = cur H cb bs ⟨i, h⟩ := by simp [cur]
@[simp] theorem cur_set1 (H : List Blk) (cb : Nat) (bs : List Int) (s : Cu) (i : Nat) (h : Int) : (cur H cb bs s).set cb ⟨0, false, 1, [aB bs, i6 ((i : Int) + 1), i6 h], none⟩ = cur H cb bs ⟨i + 1, h⟩ := by simp [cur]
def and255 (x : Int) : Int := IntKind.i64.wrap ((x % 2 ^ IntKind.i64.bits).toNat &&& 255 % 2 ^ IntKind.i64.bits : Nat)
theorem and255_in (x : Int) : 0 ≤ and255 x ∧ and255 x ≤ 255 := by
  have h : (x % 2 ^ IntKind.i64.bits).toNat &&& 255 % 2 ^ IntKind.i64.bits ≤ 255 := Nat.le_trans Nat.and_le_right (by decide)
  unfold and255
  rw [wrap64 (by omega) (by omega)]
  omega
def stepH (h : Int) : Int := IntKind.i64.wrap (IntKind.i64.wrap (h * 6364136223846793005) + 1442695040888963407)
def xorF (h : Int) : Int := IntKind.i64.wrap ((h.fdiv (2 ^ min 33 IntKind.i64.bits) % 2 ^ IntKind.i64.bits).toNat ^^^ (h.fdiv (2 ^ min 45 IntKind.i64.bits) % 2 ^ IntKind.i64.bits).toNat : Nat)
def byteF (bs : List Int) (s : Cu) : Int × Cu :=
  if s.i < bs.length then (and255 (IntKind.i64.wrap (and255 (xorF (stepH s.h)) + IntKind.i64.wrap (bs.getD s.i 0))), ⟨s.i + 1, stepH s.h⟩) else (and255 (xorF (stepH s.h)), ⟨s.i, stepH s.h⟩)
theorem byteF_in (bs : List Int) (s : Cu) : 0 ≤ (byteF bs s).1 ∧ (byteF bs s).1 ≤ 255 := by
  unfold byteF
  split
  · exact and255_in _
  · exact and255_in _
theorem spec_l1Byte_m (H : List Blk) (cb : Nat) (bs : List Int) (s : Cu) (hc : cb < H.length) (hb : bs.length < 9223372036854775807) : T 79 [.ptr cb 0 0] (cur H cb bs s) (i6 (byteF bs s).1) (cur H cb bs (byteF bs s).2) := by
  refine semT' (S := S0) hm spec_l1Byte_ok (Nat.le_of_ble_eq_true rfl) ?_
  unfold spec_l1Byte; dsimp only
  have gc := fun s => cur_at hc bs s
  have hw : s.i < bs.length → IntKind.i64.wrap ((s.i : Int) + 1) = s.i + 1 := fun g => wrap64 (by omega) (by omega)
  simp [gc]
  first | (refine ck_intro' (by kernel_rfl) ?_; try simp [gc]) | skip
  first | (refine ck_intro' (by kernel_rfl) ?_; try simp [gc]) | skip
  refine br_intro' (fun h => ?_) (fun h => ?_) <;> (have h0 := h) <;> (try simp at h) <;> try simp [h0, h, gc]
  · have h9 := h
    first | (refine ck_intro' (by kernel_rfl) ?_; try simp [gc, hw h9, h9]) | skip
    have e : byteF bs s = (and255 (IntKind.i64.wrap (and255 (xorF (stepH s.h)) + IntKind.i64.wrap bs[s.i])), ⟨s.i + 1, stepH s.h⟩) := by simp only [byteF, if_pos h9]; simp [h9]
    rw [e]
    exact LeV.refl _ _ _
  · have e : byteF bs s = (and255 (xorF (stepH s.h)), ⟨s.i, stepH s.h⟩) := if_neg (by omega)
    rw [e]
    exact LeV.refl _ _ _
def bigF (x y z w : Int) : Int := x * 16777216 + y * 65536 + z * 256 + w
def belowF (bs : List Int) (s : Cu) (n : Int) : Int × Cu :=
  if n ≤ 0 then (0, s)
  else if n ≤ 256 then ((byteF bs s).1.tmod n, (byteF bs s).2)
  else
    ((bigF (byteF bs s).1 (byteF bs (byteF bs s).2).1 (byteF bs (byteF bs (byteF bs s).2).2).1 (byteF bs (byteF bs (byteF bs (byteF bs s).2).2).2).1).tmod n, (byteF bs (byteF bs (byteF bs (byteF bs s).2).2).2).2)
theorem spec_l1Below_m (H : List Blk) (cb : Nat) (bs : List Int) (s : Cu) (n : Int) (hc : cb < H.length) (hb : bs.length < 9223372036854775807) : T 50 [.ptr cb 0 0, i6 n] (cur H cb bs s) (i6 (belowF bs s n).1) (cur H cb bs (belowF bs s n).2) := by
  refine semT' (S := (fun f => [79].contains f)) hm spec_l1Below_ok (Nat.le_of_ble_eq_true rfl) ?_
  unfold spec_l1Below; dsimp only
  simp
  refine br_intro' (fun h => ?_) (fun h => ?_) <;> simp at h <;> simp [h]
  · rw [show belowF bs s n = (0, s) from if_pos h]
    exact LeV.refl _ _ _
  · have h' : ¬ n ≤ 0 := by omega
    refine br_intro' (fun g => ?_) (fun g => ?_) <;> simp at g <;> simp [g]
    · rw [show belowF bs s n = ((byteF bs s).1.tmod n, (byteF bs s).2) by simp [belowF, h', g]]
      refine cur_call rfl cb bs s (byteF bs s).2 (cur_cur ..) (by rw [cur_cur, cur_cur]; exact spec_l1Byte_m H cb bs s hc hb) ?_; simp
      refine ck_intro' (by omega) ?_; simp
      exact LeV.refl _ _ _
    · have e : belowF bs s n = ((bigF (byteF bs s).1 (byteF bs (byteF bs s).2).1 (byteF bs (byteF bs (byteF bs s).2).2).1 (byteF bs (byteF bs (byteF bs (byteF bs s).2).2).2).1).tmod n, (byteF bs (byteF bs (byteF bs (byteF bs s).2).2).2).2) := by
        have g' : ¬ n ≤ 256 := by omega
        simp [belowF, h', g']
      rw [e]
      have b1 := byteF_in bs s
      have b2 := byteF_in bs (byteF bs s).2
      have b3 := byteF_in bs (byteF bs (byteF bs s).2).2
      have b4 := byteF_in bs (byteF bs (byteF bs (byteF bs s).2).2).2
      refine cur_call rfl cb bs s (byteF bs s).2 (cur_cur ..) (by rw [cur_cur, cur_cur]; exact spec_l1Byte_m H cb bs s hc hb) ?_; simp
      generalize byteF bs s = t1 at b1 b2 b3 b4 ⊢
      refine cur_call rfl cb bs t1.2 (byteF bs t1.2).2 (cur_cur ..) (by rw [cur_cur, cur_cur]; exact spec_l1Byte_m H cb bs t1.2 hc hb) ?_; simp
      generalize byteF bs t1.2 = t2 at b2 b3 b4 ⊢
      refine cur_call rfl cb bs t2.2 (byteF bs t2.2).2 (cur_cur ..) (by rw [cur_cur, cur_cur]; exact spec_l1Byte_m H cb bs t2.2 hc hb) ?_; simp
      generalize byteF bs t2.2 = t3 at b3 b4 ⊢
      refine cur_call rfl cb bs t3.2 (byteF bs t3.2).2 (cur_cur ..) (by rw [cur_cur, cur_cur]; exact spec_l1Byte_m H cb bs t3.2 hc hb) ?_; simp
      generalize byteF bs t3.2 = t4 at b4 ⊢
      have w1 : IntKind.i64.wrap (t1.1 * 16777216) = t1.1 * 16777216 := wrap64 (by omega) (by omega)
      have w2 : IntKind.i64.wrap (t2.1 * 65536) = t2.1 * 65536 := wrap64 (by omega) (by omega)
      have w3 : IntKind.i64.wrap (t3.1 * 256) = t3.1 * 256 := wrap64 (by omega) (by omega)
      have w4 : IntKind.i64.wrap (t1.1 * 16777216 + t2.1 * 65536) = t1.1 * 16777216 + t2.1 * 65536 := wrap64 (by omega) (by omega)
      have w5 : IntKind.i64.wrap (t1.1 * 16777216 + t2.1 * 65536 + t3.1 * 256) = t1.1 * 16777216 + t2.1 * 65536 + t3.1 * 256 := wrap64 (by omega) (by omega)
      have w6 : IntKind.i64.wrap (t1.1 * 16777216 + t2.1 * 65536 + t3.1 * 256 + t4.1) = bigF t1.1 t2.1 t3.1 t4.1 := wrap64 (by omega) (by omega)
      rw [w1, w2, w3, w4, w5, w6]
      refine ck_intro' (by omega) ?_; simp
      exact LeV.refl _ _ _
theorem tmod_in {x n : Int} (h : 0 ≤ x) (hn : 0 < n) : 0 ≤ x.tmod n ∧ x.tmod n < n := ⟨Int.tmod_nonneg _ h, Int.tmod_lt_of_pos _ hn⟩
theorem belowF_in (bs : List Int) (s : Cu) (n : Int) : 0 ≤ (belowF bs s n).1 ∧ (0 < n → (belowF bs s n).1 < n) ∧ (n ≤ 0 → (belowF bs s n).1 = 0) := by
  unfold belowF
  split
  · exact ⟨by simp, fun h => by omega, fun _ => rfl⟩
  · split
    · have := tmod_in (x := (byteF bs s).1) (n := n) (byteF_in bs s).1 (by omega)
      exact ⟨this.1, fun _ => this.2, fun h => by omega⟩
    · have b1 := byteF_in bs s
      have b2 := byteF_in bs (byteF bs s).2
      have b3 := byteF_in bs (byteF bs (byteF bs s).2).2
      have b4 := byteF_in bs (byteF bs (byteF bs (byteF bs s).2).2).2
      have := tmod_in (x := bigF (byteF bs s).1 (byteF bs (byteF bs s).2).1 (byteF bs (byteF bs (byteF bs s).2).2).1 (byteF bs (byteF bs (byteF bs (byteF bs s).2).2).2).1) (n := n) (by unfold bigF; omega) (by omega)
      exact ⟨this.1, fun _ => this.2, fun h => by omega⟩
def onceF (bs : List Int) (s : Cu) (n : Int) : Bool × Cu := (decide ((belowF bs s n).1 = 0), (belowF bs s n).2)
theorem spec_l1Once_m (H : List Blk) (cb : Nat) (bs : List Int) (s : Cu) (n : Int) (hc : cb < H.length) (hb : bs.length < 9223372036854775807) : T 48 [.ptr cb 0 0, i6 n] (cur H cb bs s) (.bool (onceF bs s n).1) (cur H cb bs (onceF bs s n).2) := by
  refine semT' (S := (fun f => [79, 50].contains f)) hm spec_l1Once_ok (Nat.le_of_ble_eq_true rfl) ?_
  unfold spec_l1Once; dsimp only
  simp
  refine cur_call rfl cb bs s (belowF bs s n).2 (cur_cur ..) (by rw [cur_cur, cur_cur]; exact spec_l1Below_m H cb bs s n hc hb) ?_; simp
  exact LeV.refl _ _ _
def pickF (bs : List Int) (s : Cu) (xs : List Int) : Int × Cu := (xs.getD (belowF bs s xs.length).1.toNat 0, (belowF bs s xs.length).2)
theorem spec_l1PickInt_m (H : List Blk) (cb : Nat) (bs : List Int) (s : Cu) (lb v : Nat) (xs : List Int) (hc : cb < H.length) (hb : bs.length < 9223372036854775807) (hl : xs.length < 9223372036854775807) (hx : xs ≠ []) (hL : H[lb]? = some ⟨v, false, 1, ints xs, none⟩) (hne : lb ≠ cb) : T 94 [.ptr cb 0 0, .ref lb v 0 xs.length] (cur H cb bs s) (i6 (pickF bs s xs).1) (cur H cb bs (pickF bs s xs).2) := by
  refine semT' (S := (fun f => [79, 50].contains f)) hm spec_l1PickInt_ok (Nat.le_of_ble_eq_true rfl) ?_
  unfold spec_l1PickInt; dsimp only
  have gL : ∀ s, (cur H cb bs s)[lb]? = _ := fun s => (show (cur H cb bs s)[lb]? = H[lb]? from List.getElem?_set_ne hne.symm).trans hL
  have hp : 0 < xs.length := List.length_pos_iff.2 hx
  have hi := belowF_in bs s xs.length
  obtain ⟨j, hj⟩ : ∃ j : Nat, (belowF bs s xs.length).1 = j := ⟨(belowF bs s xs.length).1.toNat, by omega⟩
  have hj' : j < xs.length := by have := hi.2.1 (by omega); omega
  simp [gL]
  refine cur_call rfl cb bs s (belowF bs s xs.length).2 (cur_cur ..) (by rw [cur_cur, cur_cur]; exact spec_l1Below_m H cb bs s xs.length hc hb) ?_; simp
  rw [hj]
  simp [gL, hj']
  have e : pickF bs s xs = (xs[j], (belowF bs s xs.length).2) := by simp [pickF, hj, hj']
  rw [e]
  exact LeV.refl _ _ _
theorem spec_l1Max_c (a b : Int)  : T 98 [i6 a, i6 b] [] (i6 (max a b)) ([]) := by
  refine semT' (S := S0) hm spec_l1Max_ok (Nat.le_of_ble_eq_true rfl) ?_
  unfold spec_l1Max; dsimp only
  simp
  refine br_intro' (fun h => ?_) (fun h => ?_) <;> (have h0 := h) <;> (try simp at h) <;> try simp [h0, h]
  · exact LeV.ro rfl rfl (by simp; omega)
  · exact LeV.ro rfl rfl (by simp; omega)
theorem spec_l1Max_call {a b : Int}  {S : FuncId → Bool} {H : List Blk} {K : A → Dl → Prop} (hS : S 98 = false) (hK : K (i6 (max a b)) (.news [])) : @WCall' Go.Proofs.Tryd.prog S 98 [i6 a, i6 b] H ⟨K⟩ :=
  WCall_pure hS (spec_l1Max_c a b) (by simp) (by simp) (by simp) hK
theorem spec_l1Max_k {a b : Int}  {S : FuncId → Bool} {H : List Blk} {K : A → Dl → Prop} {zs : List A} (hS : S 98 = false) (hv : viewL (viewA 8 H) zs = some [i6 a, i6 b]) (ho : noOwns zs = true ∨ nosl (i6 (max a b)) = true) (hK : K (i6 (max a b)) (.news [])) : @WCall' Go.Proofs.Tryd.prog S 98 zs H ⟨K⟩ :=
  WCall_pure hS (spec_l1Max_c a b) hv ho (by simp) hK
theorem spec_l1Min_c (a b : Int)  : T 78 [i6 a, i6 b] [] (i6 (min a b)) ([]) := by
  refine semT' (S := S0) hm spec_l1Min_ok (Nat.le_of_ble_eq_true rfl) ?_
  unfold spec_l1Min; dsimp only
  simp
  refine br_intro' (fun h => ?_) (fun h => ?_) <;> (have h0 := h) <;> (try simp at h) <;> try simp [h0, h]
  · exact LeV.ro rfl rfl (by simp; omega)
  · exact LeV.ro rfl rfl (by simp; omega)
theorem spec_l1Min_call {a b : Int}  {S : FuncId → Bool} {H : List Blk} {K : A → Dl → Prop} (hS : S 78 = false) (hK : K (i6 (min a b)) (.news [])) : @WCall' Go.Proofs.Tryd.prog S 78 [i6 a, i6 b] H ⟨K⟩ :=
  WCall_pure hS (spec_l1Min_c a b) (by simp) (by simp) (by simp) hK
theorem spec_l1Min_k {a b : Int}  {S : FuncId → Bool} {H : List Blk} {K : A → Dl → Prop} {zs : List A} (hS : S 78 = false) (hv : viewL (viewA 8 H) zs = some [i6 a, i6 b]) (ho : noOwns zs = true ∨ nosl (i6 (min a b)) = true) (hK : K (i6 (min a b)) (.news [])) : @WCall' Go.Proofs.Tryd.prog S 78 zs H ⟨K⟩ :=
  WCall_pure hS (spec_l1Min_c a b) hv ho (by simp) hK
def drawF (bs : List Int) (s : Cu) (n : Int) : Int × Cu :=
  if 6 < n then
    if (onceF bs s 2).1 then (n - 1 - (belowF bs (onceF bs s 2).2 6).1, (belowF bs (onceF bs s 2).2 6).2) else belowF bs (onceF bs s 2).2 n
  else belowF bs s n
theorem drawF_in (bs : List Int) (s : Cu) (n : Int) : 0 ≤ (drawF bs s n).1 ∧ (0 < n → (drawF bs s n).1 < n) ∧ (n ≤ 0 → (drawF bs s n).1 = 0) := by
  unfold drawF
  split
  · split
    · have := belowF_in bs (onceF bs s 2).2 6
      have h2 := this.2.1 (by omega)
      refine ⟨by simp; omega, fun _ => by simp; omega, fun _ => by omega⟩
    · exact belowF_in _ _ _
  · exact belowF_in _ _ _
theorem spec_l1Draw_m (H : List Blk) (cb : Nat) (bs : List Int) (s : Cu) (n : Int) (hc : cb < H.length) (hb : bs.length < 9223372036854775807) (hn : In64' n) : T 76 [.ptr cb 0 0, i6 n] (cur H cb bs s) (i6 (drawF bs s n).1) (cur H cb bs (drawF bs s n).2) := by
  refine semT' (S := (fun f => [79, 50, 48].contains f)) hm spec_l1Draw_ok (Nat.le_of_ble_eq_true rfl) ?_
  unfold spec_l1Draw; dsimp only
  obtain ⟨hn1, hn2⟩ := hn
  simp
  refine br_intro' (fun h => ?_) (fun h => ?_) <;> simp at h <;> simp [h]
  · refine cur_call rfl cb bs s (onceF bs s 2).2 (cur_cur ..) (by rw [cur_cur, cur_cur]; exact spec_l1Once_m H cb bs s 2 hc hb) ?_; simp
    refine br_intro' (fun g => ?_) (fun g => ?_) <;> simp [g]
    · refine cur_call rfl cb bs (onceF bs s 2).2 (belowF bs (onceF bs s 2).2 6).2 (cur_cur ..) (by rw [cur_cur, cur_cur]; exact spec_l1Below_m H cb bs _ 6 hc hb) ?_; simp
      have hi := belowF_in bs (onceF bs s 2).2 6
      have hi2 := hi.2.1 (by omega)
      rw [show drawF bs s n = (n - 1 - (belowF bs (onceF bs s 2).2 6).1, (belowF bs (onceF bs s 2).2 6).2) by simp [drawF, h, g]]
      generalize belowF bs (onceF bs s 2).2 6 = t at hi hi2 ⊢
      rw [wrap64 (n := n - 1) (by omega) (by omega), wrap64 (n := n - 1 - t.1) (by omega) (by omega)]
      exact LeV.refl _ _ _
    · rw [show drawF bs s n = belowF bs (onceF bs s 2).2 n by simp [drawF, h, g]]
      refine cur_call rfl cb bs (onceF bs s 2).2 (belowF bs (onceF bs s 2).2 n).2 (cur_cur ..) (by rw [cur_cur, cur_cur]; exact spec_l1Below_m H cb bs _ n hc hb) ?_; simp
      exact LeV.refl _ _ _
  · have h' : ¬ 6 < n := by omega
    simp [h']
    rw [show drawF bs s n = belowF bs s n from if_neg (by omega)]
    refine cur_call rfl cb bs s (belowF bs s n).2 (cur_cur ..) (by rw [cur_cur, cur_cur]; exact spec_l1Below_m H cb bs _ n hc hb) ?_; simp
    exact LeV.refl _ _ _
end Go.Proofs.YtoegiepfcdkjaaaDoor.C

set_option linter.unusedVariables false
set_option linter.unusedSimpArgs false
set_option maxRecDepth 4000
namespace Go.Proofs.YtoegiepfcdkjaaaDoor.C
open Go.Sym Go.Proofs.YtoegiepfcdkjaaaDoor.I
theorem take_one (ns : List Nd) {j : Nat} (h : j < ns.length) : (accL szN ns).take (j + 1) = (accL szN ns).take j ++ [szT ns j] := by
  have hl : j < (accL szN ns).length := by simpa using h
  rw [List.take_succ_eq_append_getElem hl]
  congr 2
  simp only [szT, List.getD_eq_getElem?_getD, List.getElem?_eq_getElem hl, Option.getD_some]
theorem accL_getD {ns : List Nd} {t i : Nat} (h : i < ((accL szN ns).take t).length) : ((accL szN ns).take t)[i] = szT ns i := by
  have h2 : i < (accL szN ns).length := by simp at h ⊢; omega
  rw [List.getElem_take]
  simp only [szT, List.getD_eq_getElem?_getD, List.getElem?_eq_getElem h2, Option.getD_some]
theorem min1_F (a b : Int) : min (a + b) 1001 = min1 a b := by rw [Int.min_def]; unfold min1; split <;> split <;> omega
theorem spec_l1Sizes_c (ns : List Nd) (hp : poolF ns = true) : T 72 [aP ns] [] (jref 0 (accL szN ns)) ([jblk (accL szN ns)]) := by
  refine semT' (S := S0) hm spec_l1Sizes_ok (Nat.le_of_ble_eq_true rfl) ?_
  unfold spec_l1Sizes; dsimp only
  have hl5 := poolF_len hp
  simp
  refine WLoop_virt 1 [(1, .ptr 0 0 0), (3, .ref 1 0 0 0), (4, i6 0)] ?_ ?_
  · intro t y hy
    simp [Sym.get] at hy ⊢
    (repeat' split at hy) <;> simp_all
  refine WLoop_fam (fun j : Nat => [(1, .ptr 0 0 0), (3, jref 1 ((accL szN ns).take j)), (4, i6 j)])
    (fun j => [⟨0, false, 1, [.sl ns.length (enc ns)], none⟩, jblk ((accL szN ns).take j)]) (fun j => ns.length - j)
    (fun j => j ≤ ns.length) ?_ 0 (Nat.zero_le _)
  intro n hn ih
  simp
  refine br_intro' (fun u => ?_) (fun u => ?_) <;> (have u0 := u) <;> simp only [decide_eq_true_eq, decide_eq_false_iff_not] at u <;> simp [u0]
  · have hnl : n < ns.length := by omega
    have wn := wrap_succ (n := n) (by omega)
    have w1 : IntKind.i64.wrap 1 = 1 := wrap64 (by omega) (by omega)
    have w2 : IntKind.i64.wrap 2 = 2 := wrap64 (by omega) (by omega)
    have en := nodeAt_nat hnl
    refine spec_l1PartsOf_k (ns := ns) (t := n) (by omega) (hasF_of hnl) rfl (by simp) (by simp [noslBlks]) ?_; simp [shiftB]
    rw [en]
    have hsz := szT_eq hp hnl
    have tk := take_one ns hnl
    have hLl : ((accL szN ns).take n).length = n := by simp; omega
    have gL : ∀ (i : Nat) (h : i < ((accL szN ns).take n).length), ((accL szN ns).take n)[i] = szT ns i := fun i h => accL_getD h
    have ih1 := ih (n + 1) (by omega) (by omega)
    rw [tk] at ih1
    generalize (accL szN ns).take n = L at hLl gL ih1 ⊢
    have e4 : jblk (L ++ [szT ns n]) = ⟨L.length + 1, false, 1, ints L ++ [i6 (szT ns n)], none⟩ := by simp [ints_snoc]
    have e5 : jref 1 (L ++ [szT ns n]) = .ref 1 (L.length + 1) 0 (L.length + 1) := by simp
    rw [e4, e5] at ih1
    rcases parts_kind hp hnl with hpk | hpk | hpk
    · rw [show partsL ns[n] = [] by simp [partsL, hpk]] at hsz ⊢
      simp
      refine WLoop_step' ?_; simp
      have hsz1 : (1 : Int) = szT ns n := by rw [hsz]; rfl
      refine ck_intro' (by omega) ?_; simp
      rw [← hsz1] at ih1
      rw [wn]
      exact WLoop_drop [⟨0, false, 1, [.sl ns.length (enc ns)], none⟩, ⟨L.length + 1, false, 1, ints L ++ [i6 1], none⟩] _ rfl (by simp) (by simp [inAs_app, inAs_scals _ (ints_scals _)]) (by simp) ih1
    · obtain ⟨a, ea, ha⟩ := part_in hp hnl hpk
      rw [show partsL ns[n] = [ns[n].a] by simp [partsL, hpk], ea] at hsz ⊢
      have i1 : ints [(a : Int)] = [i6 a] := rfl
      have haL : a < L.length := by omega
      have hr := szT_rng hp _ a (Nat.lt_succ_self _) (by omega)
      have wa : IntKind.i64.wrap (1 + szT ns a) = 1 + szT ns a := wrap64 (by omega) (by omega)
      have hsz1 : min1 1 (szT ns a) = szT ns n := by rw [hsz]; rfl
      simp [i1]
      refine WLoop_step' ?_; simp [i1]
      repeat (refine ck_intro' (by first | omega | (simp; omega) | kernel_rfl) ?_; try simp [i1, haL, gL])
      rw [wa]
      refine spec_l1Min_call (a := 1 + szT ns a) (b := 1001) rfl ?_; simp [w1]
      rw [min1_F, hsz1]
      refine WLoop_step' ?_; simp
      refine ck_intro' (by omega) ?_; simp
      rw [wn]
      exact WLoop_drop [⟨0, false, 1, [.sl ns.length (enc ns)], none⟩, ⟨L.length + 1, false, 1, ints L ++ [i6 (szT ns n)], none⟩] _ rfl (by simp) (by simp [inAs_app, inAs_scals _ (ints_scals _)]) (by simp) ih1
    · obtain ⟨⟨a, ea, ha⟩, b, eb, hb⟩ := parts_in hp hnl hpk
      rw [show partsL ns[n] = [ns[n].a, ns[n].b] by simp [partsL, hpk], ea, eb] at hsz ⊢
      have i1 : ints [(a : Int), (b : Int)] = [i6 a, i6 b] := rfl
      have haL : a < L.length := by omega
      have hbL : b < L.length := by omega
      have hr := szT_rng hp _ a (Nat.lt_succ_self _) (by omega)
      have hrb := szT_rng hp _ b (Nat.lt_succ_self _) (by omega)
      have hm1 := min1_rng (a := 1) (b := szT ns a) (by omega) hr.1
      have wa : IntKind.i64.wrap (1 + szT ns a) = 1 + szT ns a := wrap64 (by omega) (by omega)
      have wb : IntKind.i64.wrap (min1 1 (szT ns a) + szT ns b) = min1 1 (szT ns a) + szT ns b := wrap64 (by omega) (by omega)
      have hsz1 : min1 (min1 1 (szT ns a)) (szT ns b) = szT ns n := by rw [hsz]; rfl
      simp [i1]
      refine WLoop_step' ?_; simp [i1]
      repeat (refine ck_intro' (by first | omega | (simp; omega) | kernel_rfl) ?_; try simp [i1, haL, gL])
      rw [wa]
      refine spec_l1Min_call (a := 1 + szT ns a) (b := 1001) rfl ?_; simp [w1]
      rw [min1_F]
      refine WLoop_step' ?_; simp [i1]
      repeat (refine ck_intro' (by first | omega | (simp; omega) | kernel_rfl) ?_; try simp [i1, hbL, gL])
      rw [wb]
      refine spec_l1Min_call (a := min1 1 (szT ns a) + szT ns b) (b := 1001) rfl ?_; simp [w2]
      rw [min1_F, hsz1]
      refine WLoop_step' ?_; simp
      refine ck_intro' (by omega) ?_; simp
      rw [wn]
      exact WLoop_drop [⟨0, false, 1, [.sl ns.length (enc ns)], none⟩, ⟨L.length + 1, false, 1, ints L ++ [i6 (szT ns n)], none⟩] _ rfl (by simp) (by simp [inAs_app, inAs_scals _ (ints_scals _)]) (by simp) ih1
  · have : n = ns.length := by omega
    subst this
    rw [List.take_of_length_le (by simp)]
    exact LeV.tell [some 1] (by simp) (by simp) (by simp)
theorem spec_l1Sizes_k {ns : List Nd} (hp : poolF ns = true) {S : FuncId → Bool} {H : List Blk} {K : A → Dl → Prop} {zs : List A} (hS : S 72 = false) (hv : viewL (viewA 8 H) zs = some [aP ns]) (ho : noOwns zs = true ∨ nosl (jref 0 (accL szN ns)) = true ∧ noslBlks ([jblk (accL szN ns)]) = true) (hK : K (shiftA H.length (jref 0 (accL szN ns))) (.news (([jblk (accL szN ns)]).map (shiftB H.length)))) : @WCall' Go.Proofs.Tryd.prog S 72 zs H ⟨K⟩ :=
  WCall_ro' hS hv (spec_l1Sizes_c ns hp) rfl ho hK
/-- What TermSize answers. -/
def tsF (ns : List Nd) (t : Int) : Int := if poolF ns = true ∧ hasF ns.length t = true then szT ns t.toNat else 0
theorem spec_TermSize_c (ns : List Nd) (t : Int) (hl : ns.length < 9223372036854775807) : T 41 [aP ns, i6 t] [] (i6 (tsF ns t)) ([]) := by
  refine semT' (S := S0) hm spec_TermSize_ok (Nat.le_of_ble_eq_true rfl) ?_
  unfold spec_TermSize; dsimp only
  simp
  refine spec_PoolOk_call (ns := ns) rfl ?_; simp
  rcases Bool.eq_false_or_eq_true (poolF ns) with hp | hp
  case inr =>
    simp [hp]
    exact LeV.ro rfl rfl (by simp [tsF, hp])
  simp [hp]
  refine spec_l1Has_call (ns := ns) (t := t) hl rfl ?_; simp
  rcases Bool.eq_false_or_eq_true (hasF ns.length t) with ht | ht
  case inr =>
    simp [ht]
    exact LeV.ro rfl rfl (by simp [tsF, ht])
  obtain ⟨j, rfl, hj⟩ := hasN ht
  simp [ht]
  refine spec_l1Sizes_k (ns := ns) hp rfl (by simp) (by simp [noslBlks]) ?_; simp [shiftB]
  simp [hj]
  repeat (refine ck_intro' (by first | omega | (simp; omega) | kernel_rfl) ?_; try simp [hj])
  have hl2 : j < (accL szN ns).length := by simpa using hj
  have e : (accL szN ns)[j] = szT ns j := by
    simp only [szT, List.getD_eq_getElem?_getD, List.getElem?_eq_getElem hl2, Option.getD_some]
  rw [e]
  exact LeV.ro rfl rfl (by simp [tsF, hp, ht])
theorem spec_TermSize_call {ns : List Nd} {t : Int} (hl : ns.length < 9223372036854775807) {S : FuncId → Bool} {H : List Blk} {K : A → Dl → Prop} (hS : S 41 = false) (hK : K (i6 (tsF ns t)) (.news [])) : @WCall' Go.Proofs.Tryd.prog S 41 [aP ns, i6 t] H ⟨K⟩ :=
  WCall_pure hS (spec_TermSize_c ns t hl) (by simp) (by simp) (by simp) hK
theorem spec_TermSize_k {ns : List Nd} {t : Int} (hl : ns.length < 9223372036854775807) {S : FuncId → Bool} {H : List Blk} {K : A → Dl → Prop} {zs : List A} (hS : S 41 = false) (hv : viewL (viewA 8 H) zs = some [aP ns, i6 t]) (ho : noOwns zs = true ∨ nosl (i6 (tsF ns t)) = true) (hK : K (i6 (tsF ns t)) (.news [])) : @WCall' Go.Proofs.Tryd.prog S 41 zs H ⟨K⟩ :=
  WCall_pure hS (spec_TermSize_c ns t hl) hv ho (by simp) hK
theorem impl_TermSize_c (ns : List Nd) (t : Int) (hl : ns.length < 9223372036854775807) : T 17 [aP ns, i6 t] [] (i6 (tsF ns t)) ([]) := by
  refine semT' (S := S0) hm impl_TermSize_ok (Nat.le_of_ble_eq_true rfl) ?_
  unfold impl_TermSize; dsimp only
  simp
  refine WCall_pure rfl (impl_Pool_isTerm_c ns [] t hl) (by simp) (by simp) (by simp) ?_; simp
  rcases Bool.eq_false_or_eq_true (hasF ns.length t) with ht | ht
  case inr =>
    simp [ht]
    exact LeV.ro rfl rfl (by simp [tsF, ht])
  simp [ht]
  refine impl_PoolOk_call (ns := ns) rfl ?_; simp
  rcases Bool.eq_false_or_eq_true (poolF ns) with hp | hp
  case inr =>
    simp [hp]
    exact LeV.ro rfl rfl (by simp [tsF, hp])
  obtain ⟨j, rfl, hj⟩ := hasN ht
  simp [hp]
  refine impl_Pool_size_k (ns := ns) (j := j) hp hj rfl (by simp) (by simp) ?_; simp
  exact LeV.ro rfl rfl (by simp [tsF, hp, ht])
theorem impl_TermSize_call {ns : List Nd} {t : Int} (hl : ns.length < 9223372036854775807) {S : FuncId → Bool} {H : List Blk} {K : A → Dl → Prop} (hS : S 17 = false) (hK : K (i6 (tsF ns t)) (.news [])) : @WCall' Go.Proofs.Tryd.prog S 17 [aP ns, i6 t] H ⟨K⟩ :=
  WCall_pure hS (impl_TermSize_c ns t hl) (by simp) (by simp) (by simp) hK
theorem impl_TermSize_k {ns : List Nd} {t : Int} (hl : ns.length < 9223372036854775807) {S : FuncId → Bool} {H : List Blk} {K : A → Dl → Prop} {zs : List A} (hS : S 17 = false) (hv : viewL (viewA 8 H) zs = some [aP ns, i6 t]) (ho : noOwns zs = true ∨ nosl (i6 (tsF ns t)) = true) (hK : K (i6 (tsF ns t)) (.news [])) : @WCall' Go.Proofs.Tryd.prog S 17 zs H ⟨K⟩ :=
  WCall_pure hS (impl_TermSize_c ns t hl) hv ho (by simp) hK
end Go.Proofs.YtoegiepfcdkjaaaDoor.C

set_option linter.unusedVariables false
set_option linter.unusedSimpArgs false
set_option maxRecDepth 4000
namespace Go.Proofs.YtoegiepfcdkjaaaDoor.C
open Go.Sym Go.Proofs.YtoegiepfcdkjaaaDoor.I
theorem sz_one {ns : List Nd} (hp : poolF ns = true) {j a : Nat} (h : j < ns.length) (hk : partsF ns[j].k = 1) (ea : ns[j].a = a) (ha : a < j) (hs : szT ns j ≤ 1000) : szT ns j = 1 + szT ns a := by
  have e : szT ns j = min1 1 (szT ns a) := by rw [szT_eq hp h]; simp [partsL, hk, ea]
  rw [e] at hs ⊢
  unfold min1 at hs ⊢
  split at hs <;> omega
theorem sz_two {ns : List Nd} (hp : poolF ns = true) {j a b : Nat} (h : j < ns.length) (hk : partsF ns[j].k = 2) (ea : ns[j].a = a) (eb : ns[j].b = b) (ha : a < j) (hb : b < j) (hs : szT ns j ≤ 1000) : szT ns j = 1 + szT ns a + szT ns b := by
  have e : szT ns j = min1 (min1 1 (szT ns a)) (szT ns b) := by rw [szT_eq hp h]; simp [partsL, hk, ea, eb]
  have h1 := szT_rng hp _ a (Nat.lt_succ_self _) (by omega)
  have h2 := szT_rng hp _ b (Nat.lt_succ_self _) (by omega)
  rw [e] at hs ⊢
  unfold min1 at hs ⊢
  split at hs
  · omega
  · split at hs <;> omega
theorem ba_nil (s : ByteArray) : s ++ ⟨#[]⟩ = s := ba_ext (by simp [bl_app, bl])
theorem txt_name {ns : List Nd} (hp : poolF ns = true) {j : Nat} (h : j < ns.length) (hk : ns[j].k = 1) : txt ns j = ⟨#[110]⟩ ++ numB ns[j].a := by
  rw [txt_eq hp h, nodeAt_nat h]
  simp [hk]
theorem txt_one {ns : List Nd} (hp : poolF ns = true) {j a : Nat} (h : j < ns.length) (hk : partsF ns[j].k = 1) (ea : ns[j].a = a) : txt ns j = joinB ns[j].k (txt ns a) none := by
  have h1 : ¬ ns[j].k = 1 := by intro e; rw [e] at hk; simp [partsF] at hk
  rw [txt_eq hp h, nodeAt_nat h]
  simp [h1, hk, ea, joinB]
theorem txt_two {ns : List Nd} (hp : poolF ns = true) {j a b : Nat} (h : j < ns.length) (hk : partsF ns[j].k = 2) (ea : ns[j].a = a) (eb : ns[j].b = b) : txt ns j = joinB ns[j].k (txt ns a) (some (txt ns b)) := by
  have h1 : ¬ ns[j].k = 1 := by intro e; rw [e] at hk; simp [partsF] at hk
  rw [txt_eq hp h, nodeAt_nat h]
  simp [h1, hk, ea, eb, joinB]
theorem joinB_size (k : Int) (a : ByteArray) (o : Option ByteArray) : (joinB k a o).size ≤ a.size + (match o with | none => 0 | some b => b.size + 1) + 3 := by
  have := sg_size k
  have g := sz1 44
  cases o <;> simp only [joinB, ByteArray.size_append] <;> omega
theorem numB_small {n : Int} (h0 : 0 ≤ n) (h1 : n ≤ 199) : (numB n).size ≤ 3 := by
  have e : (numB n).size = (Lib.decDigits n.toNat).length := by
    simp only [numB, Lib.itoa, if_neg (show ¬ n < 0 by omega)]
    rfl
  rw [e]
  exact dec_len 2 _ (by omega)
theorem name_rng {ns : List Nd} (hp : poolF ns = true) {j : Nat} (h : j < ns.length) (hk : ns[j].k = 1) : 0 ≤ ns[j].a ∧ ns[j].a ≤ 199 := by
  have := (okFrom_all hp h).1
  simp [rightF, hk, partsF, inF] at this
  omega
/-- A term that is not too great has no long text. -/
theorem txt_size {ns : List Nd} (hp : poolF ns = true) : ∀ (m j : Nat), j < m → j < ns.length → szT ns j ≤ 1000 → ((txt ns j).size : Int) ≤ 5 * szT ns j
  | 0, j, h, _, _ => by omega
  | m + 1, j, hm, h, hs => by
    have hr := szT_rng hp _ j (Nat.lt_succ_self _) h
    rcases parts_kind hp h with hk | hk | hk
    · have hk1 := kind_none hk
      rw [txt_name hp h hk1, ByteArray.size_append, sz1]
      obtain ⟨n0, n1⟩ := name_rng hp h hk1
      have := numB_small n0 n1
      omega
    · obtain ⟨a, ea, ha⟩ := part_in hp h hk
      have h1 := sz_one hp h hk ea ha hs
      have h2 := szT_rng hp _ a (Nat.lt_succ_self _) (by omega)
      have h3 := txt_size hp m a (by omega) (by omega) (by omega)
      rw [txt_one hp h hk ea]
      have := joinB_size ns[j].k (txt ns a) none
      simp only at this
      omega
    · obtain ⟨⟨a, ea, ha⟩, b, eb, hb⟩ := parts_in hp h hk
      have h1 := sz_two hp h hk ea eb ha hb hs
      have h2 := szT_rng hp _ a (Nat.lt_succ_self _) (by omega)
      have h2' := szT_rng hp _ b (Nat.lt_succ_self _) (by omega)
      have h3 := txt_size hp m a (by omega) (by omega) (by omega)
      have h3' := txt_size hp m b (by omega) (by omega) (by omega)
      rw [txt_two hp h hk ea eb]
      have := joinB_size ns[j].k (txt ns a) (some (txt ns b))
      simp only at this
      omega
theorem iprint_t {ns : List Nd} (hp : poolF ns = true) : ∀ (m j : Nat), j < m → j < ns.length → szT ns j ≤ 1000 → T 39 [.pt [.sl ns.length (enc ns)], i6 j] [] (.str (txt ns j)) []
  | 0, j, h, _, _ => by omega
  | m + 1, j, hm', hj, hs => by
    have ih := iprint_t hp m
    have hl5 := poolF_len hp
    obtain ⟨r, hr⟩ := enc_at hj
    have h3 : 3 ≤ ns.length * 3 - j * 3 := by omega
    have hr5 := szT_rng hp _ j (Nat.lt_succ_self _) hj
    have hts := txt_size hp _ j (Nat.lt_succ_self _) hj hs
    have w1 : IntKind.i64.wrap 1 = 1 := wrap64 (by omega) (by omega)
    have w2 : IntKind.i64.wrap 2 = 2 := wrap64 (by omega) (by omega)
    refine semT' (S := S0) hm impl_Pool_print_ok (Nat.le_of_ble_eq_true rfl) ?_
    unfold impl_Pool_print; dsimp only
    simp [hj, h3, hr]
    by_cases hk1 : ns[j].k = 1
    · obtain ⟨n0, n1⟩ := name_rng hp hj hk1
      have hn := numB_small n0 n1
      simp [hk1]
      refine itoa_call (n := ns[j].a) (by omega) (by omega) rfl ?_; simp
      refine ck_intro' (by have := sz1 110; omega) ?_; simp
      exact LeV.ro rfl rfl (by rw [txt_name hp hj hk1]; rfl)
    simp [hk1]
    refine impl_Pool_parts_k (ns := ns) (r := []) (t := j) (by omega) (hasF_of hj) rfl (by simp) (by simp [noslBlks]) ?_; simp [shiftB]
    rw [nodeAt_nat hj]
    rcases parts_kind hp hj with hpk | hpk | hpk
    · exact absurd (kind_none hpk) hk1
    · obtain ⟨a, ea, ha⟩ := part_in hp hj hpk
      have h1 := sz_one hp hj hpk ea ha hs
      have h2 := szT_rng hp _ a (Nat.lt_succ_self _) (by omega)
      have hta := txt_size hp _ a (Nat.lt_succ_self _) (by omega) (by omega)
      rw [show partsL ns[j] = [ns[j].a] by simp [partsL, hpk], ea]
      have i1 : ints [(a : Int)] = [i6 a] := rfl
      simp [i1]
      refine WLoop_step' ?_; simp [i1]
      refine WCall_pure rfl (ih a (by omega) (by omega) (by omega)) (by simp) (by simp) (by simp) ?_; simp [w1]
      repeat (refine ck_intro' (by first | omega | (simp; omega) | kernel_rfl) ?_; try simp [w1])
      refine WLoop_step' ?_; simp
      refine impl_joined_k (k := ns[j].k) (a := txt ns a) (o := none) (by omega) (by simp) rfl (by simp [strs]) (by simp) ?_; simp
      exact LeV.ro rfl rfl (by rw [txt_one hp hj hpk ea]; rfl)
    · obtain ⟨⟨a, ea, ha⟩, b, eb, hb⟩ := parts_in hp hj hpk
      have h1 := sz_two hp hj hpk ea eb ha hb hs
      have h2 := szT_rng hp _ a (Nat.lt_succ_self _) (by omega)
      have h2' := szT_rng hp _ b (Nat.lt_succ_self _) (by omega)
      have hta := txt_size hp _ a (Nat.lt_succ_self _) (by omega) (by omega)
      have htb := txt_size hp _ b (Nat.lt_succ_self _) (by omega) (by omega)
      rw [show partsL ns[j] = [ns[j].a, ns[j].b] by simp [partsL, hpk], ea, eb]
      have i1 : ints [(a : Int), (b : Int)] = [i6 a, i6 b] := rfl
      simp [i1]
      refine WLoop_step' ?_; simp [i1]
      refine WCall_pure rfl (ih a (by omega) (by omega) (by omega)) (by simp) (by simp) (by simp) ?_; simp [w1]
      repeat (refine ck_intro' (by first | omega | (simp; omega) | kernel_rfl) ?_; try simp [w1])
      refine WLoop_step' ?_; simp [i1]
      refine WCall_pure rfl (ih b (by omega) (by omega) (by omega)) (by simp) (by simp) (by simp) ?_; simp [w2]
      repeat (refine ck_intro' (by first | omega | (simp; omega) | kernel_rfl) ?_; try simp [w2])
      refine WLoop_step' ?_; simp
      refine impl_joined_k (k := ns[j].k) (a := txt ns a) (o := some (txt ns b)) (by omega) (by simp; omega) rfl (by simp [strs]) (by simp) ?_; simp
      exact LeV.ro rfl rfl (by rw [txt_two hp hj hpk ea eb]; rfl)
theorem sprint_t {ns : List Nd} (hp : poolF ns = true) : ∀ (m j : Nat), j < m → j < ns.length → szT ns j ≤ 1000 → T 42 [aP ns, i6 j] [] (.str (txt ns j)) []
  | 0, j, h, _, _ => by omega
  | m + 1, j, hm', hj, hs => by
    have ih := sprint_t hp m
    have hl5 := poolF_len hp
    obtain ⟨r, hr⟩ := enc_at hj
    have h3 : 3 ≤ ns.length * 3 - j * 3 := by omega
    have hr5 := szT_rng hp _ j (Nat.lt_succ_self _) hj
    have hts := txt_size hp _ j (Nat.lt_succ_self _) hj hs
    refine semT' (S := S0) hm spec_l4Print_ok (Nat.le_of_ble_eq_true rfl) ?_
    unfold spec_l4Print; dsimp only
    simp [hj, h3, hr]
    by_cases hk1 : ns[j].k = 1
    · obtain ⟨n0, n1⟩ := name_rng hp hj hk1
      have hn := numB_small n0 n1
      simp [hk1]
      refine spec_l4Num_call (n := ns[j].a) n0 (by omega) rfl ?_; simp
      refine ck_intro' (by have := sz1 110; omega) ?_; simp
      exact LeV.ro rfl rfl (by rw [txt_name hp hj hk1]; rfl)
    simp [hk1]
    rcases parts_kind hp hj with hpk | hpk | hpk
    · exact absurd (kind_none hpk) hk1
    · obtain ⟨a, ea, ha⟩ := part_in hp hj hpk
      have h1 := sz_one hp hj hpk ea ha hs
      have h2 := szT_rng hp _ a (Nat.lt_succ_self _) (by omega)
      have hta := txt_size hp _ a (Nat.lt_succ_self _) (by omega) (by omega)
      have et := txt_one hp hj hpk ea
      rcases kind_one hpk with hk | hk
      · simp [hk, ea]
        refine WCall_pure rfl (ih a (by omega) (by omega) (by omega)) (by simp) (by simp) (by simp) ?_; simp
        refine ck_intro' (by have := sz1 35; omega) ?_; simp
        exact LeV.ro rfl rfl (by rw [et, hk]; simp [joinB, sgO, sgE, ba_nil])
      · simp [hk, ea]
        refine WCall_pure rfl (ih a (by omega) (by omega) (by omega)) (by simp) (by simp) (by simp) ?_; simp
        refine ck_intro' (by have := sz1 94; omega) ?_; simp
        exact LeV.ro rfl rfl (by rw [et, hk]; simp [joinB, sgO, sgE, ba_nil])
    · obtain ⟨⟨a, ea, ha⟩, b, eb, hb⟩ := parts_in hp hj hpk
      have h1 := sz_two hp hj hpk ea eb ha hb hs
      have h2 := szT_rng hp _ a (Nat.lt_succ_self _) (by omega)
      have h2' := szT_rng hp _ b (Nat.lt_succ_self _) (by omega)
      have hta := txt_size hp _ a (Nat.lt_succ_self _) (by omega) (by omega)
      have htb := txt_size hp _ b (Nat.lt_succ_self _) (by omega) (by omega)
      have et := txt_two hp hj hpk ea eb
      have k5 : ¬ ns[j].k = 5 := by intro e; rw [e] at hpk; simp [partsF] at hpk
      have k7 : ¬ ns[j].k = 7 := by intro e; rw [e] at hpk; simp [partsF] at hpk
      simp [k5, k7, ea, eb]
      refine WCall_pure rfl (ih a (by omega) (by omega) (by omega)) (by simp) (by simp) (by simp) ?_; simp
      repeat (refine ck_intro' (by first | kernel_rfl | ((try simp only [ByteArray.size_append, sz1, sz2]); omega)) ?_; simp)
      refine WCall_pure rfl (ih b (by omega) (by omega) (by omega)) (by simp) (by simp) (by simp) ?_; simp
      repeat (refine ck_intro' (by first | kernel_rfl | ((try simp only [ByteArray.size_append, sz1, sz2]); omega)) ?_; simp)
      rcases kind_two hpk with hk | hk | hk | hk | hk <;> simp [hk]
      all_goals
        repeat (refine ck_intro' (by first | kernel_rfl | ((try simp only [ByteArray.size_append, sz1, sz2]); omega)) ?_; simp)
        exact LeV.ro rfl rfl (by rw [et, hk]; simp only [viewA, joinB, sgO, sgE]; simp; exact ba_ext (by simp [bl_app]))
end Go.Proofs.YtoegiepfcdkjaaaDoor.C

set_option linter.unusedVariables false
set_option linter.unusedSimpArgs false
set_option maxRecDepth 4000
namespace Go.Proofs.YtoegiepfcdkjaaaDoor.C
open Go.Sym Go.Proofs.YtoegiepfcdkjaaaDoor.I
/-- What TermPrint answers. -/
def tprF (ns : List Nd) (t : Int) : ByteArray := if 1 ≤ tsF ns t ∧ tsF ns t ≤ 1000 then txt ns t.toNat else ⟨#[]⟩
theorem tsF_pos {ns : List Nd} {t : Int} (h : 1 ≤ tsF ns t) : poolF ns = true ∧ ∃ j : Nat, t = j ∧ j < ns.length ∧ tsF ns t = szT ns j := by
  unfold tsF at h ⊢
  split at h
  · rename_i g
    obtain ⟨j, rfl, hj⟩ := hasN g.2
    refine ⟨g.1, j, rfl, hj, ?_⟩
    rw [if_pos g]
    simp
  · omega
theorem tsF_of {ns : List Nd} (hp : poolF ns = true) {j : Nat} (hj : j < ns.length) : tsF ns j = szT ns j := by
  unfold tsF
  rw [if_pos ⟨hp, hasF_of hj⟩]
  simp
theorem impl_TermPrint_c (ns : List Nd) (t : Int) (hl : ns.length < 9223372036854775807) : T 15 [aP ns, i6 t] [] (.str (tprF ns t)) ([]) := by
  refine semT' (S := S0) hm impl_TermPrint_ok (Nat.le_of_ble_eq_true rfl) ?_
  unfold impl_TermPrint; dsimp only
  simp
  refine impl_TermSize_call (ns := ns) (t := t) hl rfl ?_; simp
  refine impl_inRange_call (x := tsF ns t) (lo := 1) (hi := 1000) rfl ?_; simp
  refine br_intro' (fun g => ?_) (fun g => ?_) <;> (have g0 := g) <;> simp [g0]
  · rw [inF_iff] at g
    obtain ⟨hp, j, rfl, hj, e⟩ := tsF_pos g.1
    refine WCall_pure rfl (iprint_t hp _ j (Nat.lt_succ_self _) hj (by omega)) (by simp) (by simp) (by simp) ?_; simp
    exact LeV.ro rfl rfl (by simp only [tprF]; rw [if_pos g]; simp)
  · have hn : ¬ (1 ≤ tsF ns t ∧ tsF ns t ≤ 1000) := fun h => by rw [inF_iff.2 h] at g; cases g
    exact LeV.ro rfl rfl (by simp only [tprF]; rw [if_neg hn]; simp)
theorem impl_TermPrint_call {ns : List Nd} {t : Int} (hl : ns.length < 9223372036854775807) {S : FuncId → Bool} {H : List Blk} {K : A → Dl → Prop} (hS : S 15 = false) (hK : K (.str (tprF ns t)) (.news [])) : @WCall' Go.Proofs.Tryd.prog S 15 [aP ns, i6 t] H ⟨K⟩ :=
  WCall_pure hS (impl_TermPrint_c ns t hl) (by simp) (by simp) (by simp) hK
theorem impl_TermPrint_k {ns : List Nd} {t : Int} (hl : ns.length < 9223372036854775807) {S : FuncId → Bool} {H : List Blk} {K : A → Dl → Prop} {zs : List A} (hS : S 15 = false) (hv : viewL (viewA 8 H) zs = some [aP ns, i6 t]) (ho : noOwns zs = true ∨ nosl (.str (tprF ns t)) = true) (hK : K (.str (tprF ns t)) (.news [])) : @WCall' Go.Proofs.Tryd.prog S 15 zs H ⟨K⟩ :=
  WCall_pure hS (impl_TermPrint_c ns t hl) hv ho (by simp) hK
theorem spec_TermPrint_c (ns : List Nd) (t : Int) (hl : ns.length < 9223372036854775807) : T 16 [aP ns, i6 t] [] (.str (tprF ns t)) ([]) := by
  refine semT' (S := S0) hm spec_TermPrint_ok (Nat.le_of_ble_eq_true rfl) ?_
  unfold spec_TermPrint; dsimp only
  simp
  refine spec_TermSize_call (ns := ns) (t := t) hl rfl ?_; simp
  refine spec_l1In_call (x := tsF ns t) (lo := 1) (hi := 1000) rfl ?_; simp
  refine br_intro' (fun g => ?_) (fun g => ?_) <;> (have g0 := g) <;> simp [g0]
  · rw [inF_iff] at g
    obtain ⟨hp, j, rfl, hj, e⟩ := tsF_pos g.1
    refine WCall_pure rfl (sprint_t hp _ j (Nat.lt_succ_self _) hj (by omega)) (by simp) (by simp) (by simp) ?_; simp
    exact LeV.ro rfl rfl (by simp only [tprF]; rw [if_pos g]; simp)
  · have hn : ¬ (1 ≤ tsF ns t ∧ tsF ns t ≤ 1000) := fun h => by rw [inF_iff.2 h] at g; cases g
    exact LeV.ro rfl rfl (by simp only [tprF]; rw [if_neg hn]; simp)
theorem spec_TermPrint_call {ns : List Nd} {t : Int} (hl : ns.length < 9223372036854775807) {S : FuncId → Bool} {H : List Blk} {K : A → Dl → Prop} (hS : S 16 = false) (hK : K (.str (tprF ns t)) (.news [])) : @WCall' Go.Proofs.Tryd.prog S 16 [aP ns, i6 t] H ⟨K⟩ :=
  WCall_pure hS (spec_TermPrint_c ns t hl) (by simp) (by simp) (by simp) hK
theorem spec_TermPrint_k {ns : List Nd} {t : Int} (hl : ns.length < 9223372036854775807) {S : FuncId → Bool} {H : List Blk} {K : A → Dl → Prop} {zs : List A} (hS : S 16 = false) (hv : viewL (viewA 8 H) zs = some [aP ns, i6 t]) (ho : noOwns zs = true ∨ nosl (.str (tprF ns t)) = true) (hK : K (.str (tprF ns t)) (.news [])) : @WCall' Go.Proofs.Tryd.prog S 16 zs H ⟨K⟩ :=
  WCall_pure hS (spec_TermPrint_c ns t hl) hv ho (by simp) hK
/-- A text has at least one sign. -/
theorem txt_pos {ns : List Nd} (hp : poolF ns = true) {j : Nat} (h : j < ns.length) : 0 < (txt ns j).size := by
  have so : ∀ k : Int, 0 < (sgO k).size := fun k => by
    unfold sgO
    (repeat' split) <;> decide
  rcases parts_kind hp h with hk | hk | hk
  · rw [txt_name hp h (kind_none hk), ByteArray.size_append, sz1]
    omega
  · obtain ⟨a, ea, ha⟩ := part_in hp h hk
    rw [txt_one hp h hk ea]
    have := so ns[j].k
    simp only [joinB, ByteArray.size_append]
    omega
  · obtain ⟨⟨a, ea, ha⟩, b, eb, hb⟩ := parts_in hp h hk
    rw [txt_two hp h hk ea eb]
    have := so ns[j].k
    simp only [joinB, ByteArray.size_append]
    omega
theorem At.refl (s r : ByteArray) : At (s ++ r) 0 s := ⟨bl r, by simp [bl_app]⟩
theorem At.self (s : ByteArray) : At s 0 s := ⟨[], by simp⟩
theorem pre_eq {α : Type} {l m : List α} (h : l <+: m) (hl : m.length ≤ l.length) : m = l := (h.eq_of_length (Nat.le_antisymm h.length_le hl)).symm
/-- What a term's text is read as: in a pool that is told in its own. -/
theorem read_back {ns : List Nd} (hp : poolF ns = true) {j : Nat} (hj : j < ns.length) {r : List Nd} {φ : List Nat} (S : Sim ns r φ) (hr : poolF r = true) (x : ByteArray) (hx : x = ⟨#[]⟩ ∨ x = ⟨#[44]⟩) :
    ∃ φ' v, ReadT ns j r φ (rdF (trmR (txt ns j ++ x)) ((txt ns j ++ x).size + 1) r 0 0) (txt ns j).size φ' v := by
  have h := read_txt hp (txt ns j ++ x) _ j (Nat.lt_succ_self _) hj ((txt ns j ++ x).size + 1) r φ 0 S hr (At.refl _ _) (by
    rw [Nat.zero_add]
    rcases hx with rfl | rfl
    · left
      rw [ba_nil]
      exact Nat.le_refl _
    · right
      have h0 := (At.tail (⟨[], by simp⟩ : At (txt ns j ++ ⟨#[44]⟩) 0 (txt ns j ++ ⟨#[44]⟩))).byt (j := 0) (by decide)
      rw [Nat.zero_add, Nat.add_zero] at h0
      rw [h0]
      decide) (by omega)
  rw [Nat.zero_add] at h
  exact h
theorem read_own {ns : List Nd} (hp : poolF ns = true) {j : Nat} (hj : j < ns.length) (x : ByteArray) (hx : x = ⟨#[]⟩ ∨ x = ⟨#[44]⟩) :
    rdF (trmR (txt ns j ++ x)) ((txt ns j ++ x).size + 1) ns 0 0 = (ns, (j : Int), (txt ns j).size, 0) := by
  obtain ⟨φ', v, R⟩ := read_back hp hj (Sim.self hp) hp x hx
  obtain ⟨q, eq⟩ : ∃ q, rdF (trmR (txt ns j ++ x)) ((txt ns j ++ x).size + 1) ns 0 0 = q := ⟨_, rfl⟩
  rw [eq] at R ⊢
  have h1 := nodup_lt ns.length φ' R.sim.nd R.sim.lt
  have h2 := R.sim.len
  have h3 : q.1 = ns := pre_eq R.pre (by omega)
  have hlr : (List.range ns.length).length = ns.length := by simp
  have h4 : φ' = List.range ns.length := pre_eq R.ext (by rw [hlr]; exact h1)
  have h5 := R.at_
  have h6 := R.lt
  rw [h3] at h6
  rw [h4] at h5
  have h7 : v = j := by
    simp [fi, h6] at h5
    omega
  rw [R.eq, h3, h7]
theorem allRF_end {tx : ByteArray} {s : List Nd} {q : List Nd × Int × Nat × Int} (h2 : tx.size ≤ 2000) (h : rdF (trmR tx) (tx.size + 1) s 0 0 = q) (he : q.2.2.1 = tx.size) : allRF (trmR tx) 2000 s = q := by
  have htx : (trmR tx).text = tx := rfl
  unfold allRF
  rw [htx, if_neg (by omega), h, if_neg (by omega)]
theorem tp_own {ns : List Nd} (hp : poolF ns = true) {j : Nat} (hj : j < ns.length) (h2 : (txt ns j).size ≤ 2000) : tpF ns (txt ns j) = (ns, (j : Int), ((txt ns j).size : Int), 0) := by
  have h := read_own hp hj ⟨#[]⟩ (.inl rfl)
  rw [ba_nil] at h
  have h3 := allRF_end h2 h rfl
  unfold tpF
  rw [if_neg (by omega), if_neg (by simp [hp]), h3, if_pos rfl]
theorem tp_more {ns : List Nd} (hp : poolF ns = true) {j : Nat} (hj : j < ns.length) (h2 : (txt ns j).size < 2000) : (tpF ns (txt ns j ++ ⟨#[44]⟩)).2.2.1 = ((txt ns j).size : Int) ∧ (tpF ns (txt ns j ++ ⟨#[44]⟩)).2.2.2 = 6 := by
  have h := read_own hp hj ⟨#[44]⟩ (.inr rfl)
  have hsz : (txt ns j ++ ⟨#[44]⟩ : ByteArray).size = (txt ns j).size + 1 := by rw [ByteArray.size_append, sz1]
  have htx : (trmR (txt ns j ++ ⟨#[44]⟩)).text = txt ns j ++ ⟨#[44]⟩ := rfl
  have h3 : allRF (trmR (txt ns j ++ ⟨#[44]⟩)) 2000 ns = (ns, -1, (txt ns j).size, 6) := by
    unfold allRF
    rw [htx, if_neg (by omega), h, if_pos ⟨rfl, by simp only; omega⟩]
  unfold tpF
  rw [if_neg (by omega), if_neg (by simp [hp]), h3, if_neg (by simp)]
  exact ⟨rfl, rfl⟩
theorem tp_new {ns : List Nd} (hp : poolF ns = true) {j : Nat} (hj : j < ns.length) (h2 : (txt ns j).size ≤ 2000) : ∃ (r : List Nd) (φ : List Nat) (v : Nat), tpF [] (txt ns j) = (r, (v : Int), ((txt ns j).size : Int), 0) ∧ Sim ns r φ ∧ poolF r = true ∧ v < r.length ∧ fi φ v = j := by
  have hp0 : poolF [] = true := by simp [poolF, okFrom]
  obtain ⟨φ', v, R⟩ := read_back hp hj (Sim.nil ns) hp0 ⟨#[]⟩ (.inl rfl)
  rw [ba_nil] at R
  obtain ⟨q, eq⟩ : ∃ q, rdF (trmR (txt ns j)) ((txt ns j).size + 1) [] 0 0 = q := ⟨_, rfl⟩
  rw [eq] at R
  have qe := R.eq
  have h3 := allRF_end h2 eq (by rw [qe])
  refine ⟨q.1, φ', v, ?_, R.sim, R.ok, R.lt, R.at_⟩
  unfold tpF
  rw [if_neg (by omega), if_neg (by simp [hp0]), h3, if_pos (by rw [qe])]
  rw [qe]
theorem min1_sym {x y : Int} (hx : 1 ≤ x) (hy : 1 ≤ y) (hx2 : x ≤ 1001) (hy2 : y ≤ 1001) : min1 (min1 1 x) y = min1 (min1 1 y) x := by
  unfold min1
  (repeat' split) <;> omega
/-- Terms that are told in each other's pools are of one size, and have texts of one length. -/
theorem sim_same {ns r : List Nd} {φ : List Nat} (hp : poolF ns = true) (hr : poolF r = true) (S : Sim ns r φ) : ∀ (m v : Nat), v < m → v < r.length → ∃ j : Nat, fi φ v = j ∧ j < ns.length ∧ szT r v = szT ns j ∧ (txt r v).size = (txt ns j).size
  | 0, v, h, _ => by omega
  | m + 1, v, hm, hv => by
    have ih := sim_same hp hr S m
    obtain ⟨j, ej, hj, _⟩ := fi_lt S (x := (v : Int)) (by omega) (by omega)
    refine ⟨j, ej, hj, ?_⟩
    have hn := S.node v hv
    rw [ej, nodeAt_nat hj, nodeAt_nat hv] at hn
    rcases parts_kind hr hv with hk | hk | hk
    · have en : ns[j] = r[v] := by rw [hn]; simp [mapN, hk]
      have hk1 := kind_none hk
      have hk2 : ns[j].k = 1 := by rw [en]; exact hk1
      refine ⟨?_, ?_⟩
      · rw [szT_eq hr hv, szT_eq hp hj]
        simp [partsL, hk, en]
      · rw [txt_name hr hv hk1, txt_name hp hj hk2, en]
    · obtain ⟨a, ea, ha⟩ := part_in hr hv hk
      obtain ⟨a2, e2, h2, h3, h4⟩ := ih a (by omega) (by omega)
      have en : ns[j] = ⟨r[v].k, a2, 0⟩ := by rw [hn]; simp [mapN, hk, ea, e2]
      have hkj : partsF ns[j].k = 1 := by rw [en]; exact hk
      have eaj : ns[j].a = a2 := by rw [en]
      refine ⟨?_, ?_⟩
      · rw [szT_eq hr hv, szT_eq hp hj]
        simp [partsL, hk, hkj, ea, eaj, h3]
      · rw [txt_one hr hv hk ea, txt_one hp hj hkj eaj]
        rw [show ns[j].k = r[v].k by rw [en]]
        simp only [joinB, ByteArray.size_append, h4]
    · obtain ⟨⟨a, ea, ha⟩, b, eb, hb⟩ := parts_in hr hv hk
      obtain ⟨a2, e2, h2, h3, h4⟩ := ih a (by omega) (by omega)
      obtain ⟨b2, f2, k2, k3, k4⟩ := ih b (by omega) (by omega)
      have en : ns[j] = normN ⟨r[v].k, a2, b2⟩ := by rw [hn]; simp [mapN, hk, ea, e2, eb, f2]
      have hkj : partsF ns[j].k = 2 := by rw [en, normN_k]; exact hk
      have hkk : ns[j].k = r[v].k := by rw [en, normN_k]
      have ra := szT_rng hp _ a2 (Nat.lt_succ_self _) h2
      have rb := szT_rng hp _ b2 (Nat.lt_succ_self _) k2
      have hc : (ns[j].a = a2 ∧ ns[j].b = b2) ∨ (ns[j].a = b2 ∧ ns[j].b = a2) := by
        rw [en]
        unfold normN
        split
        · simp only
          by_cases g : (b2 : Int) < a2
          · rw [if_pos g, if_neg (by omega)]; exact .inr ⟨rfl, rfl⟩
          · rw [if_neg g]
            by_cases g2 : (a2 : Int) < b2
            · rw [if_pos g2]; exact .inl ⟨rfl, rfl⟩
            · rw [if_neg g2]
              exact .inl ⟨rfl, by omega⟩
        · exact .inl ⟨rfl, rfl⟩
      rcases hc with ⟨c1, c2⟩ | ⟨c1, c2⟩
      · refine ⟨?_, ?_⟩
        · rw [szT_eq hr hv, szT_eq hp hj]
          simp [partsL, hk, hkj, ea, eb, c1, c2, h3, k3]
        · rw [txt_two hr hv hk ea eb, txt_two hp hj hkj c1 c2, hkk]
          simp only [joinB, ByteArray.size_append, h4, k4]
      · refine ⟨?_, ?_⟩
        · rw [szT_eq hr hv, szT_eq hp hj]
          simp [partsL, hk, hkj, ea, eb, c1, c2, h3, k3]
          exact min1_sym ra.1 rb.1 ra.2 rb.2
        · rw [txt_two hr hv hk ea eb, txt_two hp hj hkj c1 c2, hkk]
          simp only [joinB, ByteArray.size_append, h4, k4]
          omega
end Go.Proofs.YtoegiepfcdkjaaaDoor.C

set_option linter.unusedVariables false
set_option linter.unusedSimpArgs false
namespace Go.Proofs.YtoegiepfcdkjaaaDoor.C
open Go.Sym Go.Proofs.YtoegiepfcdkjaaaDoor.I
theorem cur_closed {H : List Blk} {cb : Nat} (bs : List Int) (s : Cu) {n : Nat} (h : Closed1 n H = true) : Closed1 n (cur H cb bs s) = true := Closed1_set (by simp [inAs, inA, inAs_scals _ (bytes_scals bs)]) _ _ h
theorem cur_lt {H T : List Blk} {cb : Nat} (bs : List Int) (s : Cu) (hc : cb < H.length) : cb < (cur H cb bs s ++ T).length := by simp; omega
theorem cur_mid {H T : List Blk} {cb : Nat} {bs : List Int} {s s' : Cu} (hc : cb < H.length) : cur (cur H cb bs s ++ T) cb bs s' = cur H cb bs s' ++ T := by rw [cur_app (by simpa using hc), cur_cur]
/-- A call that moves the cursor, over rows of its caller's own. -/
theorem cur_call' {f : FuncId} {S : FuncId → Bool} {H T : List Blk} {K : A → Dl → Prop} (hS : S f = true) (cb : Nat) (bs : List Int) (s s' : Cu) {zs : List A} {r : A} (hc : cb < H.length)
    (hf : SemT Go.Proofs.Tryd.prog f zs (cur (cur H cb bs s ++ T) cb bs s) r (cur (cur H cb bs s ++ T) cb bs s')) (hK : K r (.full [cb] (cur H cb bs s' ++ T))) : @WCall' Go.Proofs.Tryd.prog S f zs (cur H cb bs s ++ T) ⟨K⟩ :=
  cur_call hS cb bs s s' (cur_mid hc) hf (by rw [cur_mid hc]; exact hK)
theorem LeV.trans {B : Nat} {r r' r'' : A} {H H' H'' : List Blk} (h : LeV B r H r' H') (g : LeV B r' H' r'' H'') : LeV B r H r'' H'' := by
  intro c0 c hB hr hH hs
  obtain ⟨c1, w1, h1, r1, s1, v1⟩ := h c0 c hB hr hH hs
  obtain ⟨c2, w2, h2, r2, s2, v2⟩ := g c0 c1 hB r1 h1 s1
  exact ⟨c2, w2.trans w1, h2, r2, s2, fun v hv => v2 v (v1 v hv)⟩
theorem LeV.nilsl (B : Nat) (H : List Blk) : LeV B (.agg [.nil]) H (.agg [.sl 0 []]) H := by
  intro c0 c hB hr hH hs
  refine ⟨c, rfl, hH, hr, hs, fun v hv => ?_⟩
  simp only [VR, VRs] at hv ⊢
  obtain ⟨vs, rfl, u, us, e, ⟨a, rfl⟩, rfl⟩ := hv
  exact ⟨_, rfl, _, _, e, ⟨a, 0, rfl, Nat.le_refl _, .inl trivial⟩, rfl⟩
/-- A slice over a row at the end, told as one that is only read, its row left out. -/
theorem VR_frz {c : Cx} {H1 T : List Blk} (hr : RelH c) (hH : c.H = fun b => (H1 ++ T)[b]?) {b m : Nat} {k : Blk} (hb : H1.length ≤ b) (hk : (H1 ++ T)[b]? = some k) (hsc : scals k.cs = true) (hm : m * k.esz ≤ k.cs.length) {v : Value} (h : VR c (.ref b k.v 0 m) v) :
    VR (c.cut H1.length) (.sl m (k.cs.take (m * k.esz))) v := by
  simp only [VR] at h ⊢
  obtain ⟨k', a, cap, g1, g2, rfl, gn, g4⟩ := h
  rw [hH] at g1
  simp only [hk, Option.some.injEq] at g1
  subst g1
  have hck : c.H b = some k := by rw [hH]; exact hk
  refine ⟨a, cap, rfl, gn.1, ?_⟩
  rcases g4 rfl with g4 | ⟨g0, rfl, g5⟩
  · left; omega
  · right
    obtain ⟨vs, i1, i2⟩ := rowVals hr hck
    refine ⟨c.at b 0, vs.take (m * k.esz), rfl, rfl, hr.lt b k hck g0, ?_, ?_, VRs.cut _ _ (inAs_scals _ (scals_take _ _ hsc)) (i2.take _)⟩
    · rintro (hx | ⟨d, kd, h1, h2, h3⟩)
      · exact hr.nx b k hck g0 hx
      · simp only [Cx.cut] at h1 h3
        split at h1
        · exact hr.uni d b kd k h1 hck h2 g0 (by omega) h3
        · cases h1
    · intro j u hj
      have := (i1.take (m * k.esz)) j u hj
      show c.w.cell? _ = some u
      simpa [Cx.at] using this
theorem LeV.frz {B : Nat} {H1 T : List Blk} (hlen : B ≤ H1.length) (hcl : Closed1 H1.length H1 = true) {b m : Nat} {k : Blk} (hb : H1.length ≤ b) (hk : (H1 ++ T)[b]? = some k) (hsc : scals k.cs = true) (hm : m * k.esz ≤ k.cs.length) :
    LeV B (.ref b k.v 0 m) (H1 ++ T) (.sl m (k.cs.take (m * k.esz))) H1 := by
  intro c0 c hB hr hH hs
  obtain ⟨h1, h2, h3⟩ := T_cut hB hr hH hs hlen hcl
  exact ⟨c.cut H1.length, rfl, h1, h2, h3, fun v hv => VR_frz hr hH hb hk hsc hm hv⟩
theorem LeV.frzA {B : Nat} {H1 T : List Blk} (hlen : B ≤ H1.length) (hcl : Closed1 H1.length H1 = true) {b m : Nat} {k : Blk} (hb : H1.length ≤ b) (hk : (H1 ++ T)[b]? = some k) (hsc : scals k.cs = true) (hm : m * k.esz ≤ k.cs.length) :
    LeV B (.agg [.ref b k.v 0 m]) (H1 ++ T) (.agg [.sl m (k.cs.take (m * k.esz))]) H1 := by
  intro c0 c hB hr hH hs
  obtain ⟨h1, h2, h3⟩ := T_cut hB hr hH hs hlen hcl
  refine ⟨c.cut H1.length, rfl, h1, h2, h3, fun v hv => ?_⟩
  rw [VR] at hv ⊢
  obtain ⟨vs, e1, hv⟩ := hv
  refine ⟨vs, e1, ?_⟩
  rw [VRs] at hv ⊢
  obtain ⟨u, us, e2, g1, g2⟩ := hv
  exact ⟨u, us, e2, VR_frz hr hH hb hk hsc hm g1, by simpa [VRs] using g2⟩
def names13 : List Int := [0, 1, 5, 6, 50, 51, 62, 90, 91, 100, 101, 102, 199]
def termF (bs : List Int) (s : Cu) (m : Nat) : Int × Cu :=
  if (onceF bs s 25).1 then pickF bs (onceF bs s 25).2 [-1, m] else drawF bs (onceF bs s 25).2 (max m 1)
theorem spec_l1DrawTerm_m (H : List Blk) (cb : Nat) (bs : List Int) (s : Cu) (ns : List Nd) (hc : cb < H.length) (hb : bs.length < 9223372036854775807) (hcl : Closed1 H.length H = true) (hl : ns.length < 9223372036854775807) : T 90 [.ptr cb 0 0, aP ns] (cur H cb bs s) (i6 (termF bs s ns.length).1) (cur H cb bs (termF bs s ns.length).2) := by
  refine semT' (S := (fun f => [79, 50, 48, 94, 76].contains f)) hm spec_l1DrawTerm_ok (Nat.le_of_ble_eq_true rfl) ?_
  unfold spec_l1DrawTerm; dsimp only
  simp
  refine cur_call' rfl cb bs s (onceF bs s 25).2 hc (spec_l1Once_m _ cb bs s 25 (cur_lt _ _ hc) hb) ?_; simp
  refine br_intro' (fun g => ?_) (fun g => ?_) <;> simp [g]
  · rw [show termF bs s ns.length = pickF bs (onceF bs s 25).2 [-1, ns.length] from if_pos g]
    refine cur_call' rfl cb bs (onceF bs s 25).2 (pickF bs (onceF bs s 25).2 [-1, ns.length]).2 hc (spec_l1PickInt_m _ cb bs _ (H.length + 1) 0 [-1, ns.length] (cur_lt _ _ hc) hb (by simp) (by simp) (by simp [ints]) (by omega)) ?_; simp
    exact LeV.drop (by simp) (by simpa using cur_closed _ _ hcl) (by simp)
  · rw [show termF bs s ns.length = drawF bs (onceF bs s 25).2 (max ns.length 1) from if_neg (by simp [g])]
    refine spec_l1Max_call (a := ns.length) (b := 1) rfl ?_; simp
    refine cur_call' rfl cb bs (onceF bs s 25).2 (drawF bs (onceF bs s 25).2 (max ns.length 1)).2 hc (spec_l1Draw_m _ cb bs _ (max ns.length 1) (cur_lt _ _ hc) hb ⟨by omega, by omega⟩) ?_; simp
    exact LeV.drop (by simp) (by simpa using cur_closed _ _ hcl) (by simp)
def nodeF (bs : List Int) (s : Cu) (many : Int) : Nd × Cu :=
  if many = 0 then (⟨1, (pickF bs s names13).1, 0⟩, (pickF bs s names13).2)
  else if (onceF bs s 4).1 then (⟨1, (pickF bs (onceF bs s 4).2 names13).1, 0⟩, (pickF bs (onceF bs s 4).2 names13).2)
  else
    if partsF (2 + (drawF bs (onceF bs s 4).2 7).1) = 2 then
      (⟨2 + (drawF bs (onceF bs s 4).2 7).1, (drawF bs (drawF bs (onceF bs s 4).2 7).2 many).1, (drawF bs (drawF bs (drawF bs (onceF bs s 4).2 7).2 many).2 many).1⟩, (drawF bs (drawF bs (drawF bs (onceF bs s 4).2 7).2 many).2 many).2)
    else (⟨2 + (drawF bs (onceF bs s 4).2 7).1, (drawF bs (drawF bs (onceF bs s 4).2 7).2 many).1, 0⟩, (drawF bs (drawF bs (onceF bs s 4).2 7).2 many).2)
theorem spec_l1DrawNode_m (H : List Blk) (cb : Nat) (bs : List Int) (s : Cu) (many : Int) (hc : cb < H.length) (hb : bs.length < 9223372036854775807) (hcl : Closed1 H.length H = true) (hn : In64' many) : T 75 [.ptr cb 0 0, i6 many] (cur H cb bs s) (aN (nodeF bs s many).1) (cur H cb bs (nodeF bs s many).2) := by
  refine semT' (S := (fun f => [79, 50, 48, 94, 76].contains f)) hm spec_l1DrawNode_ok (Nat.le_of_ble_eq_true rfl) ?_
  unfold spec_l1DrawNode; dsimp only
  by_cases h0 : many = 0
  · subst h0
    simp
    rw [show nodeF bs s 0 = (⟨1, (pickF bs s names13).1, 0⟩, (pickF bs s names13).2) from if_pos rfl]
    refine cur_call' rfl cb bs s (pickF bs s names13).2 hc (spec_l1PickInt_m _ cb bs _ (H.length + 1) 0 names13 (cur_lt _ _ hc) hb (by simp [names13]) (by simp [names13]) (by simp [ints, names13]) (by omega)) ?_; simp
    exact LeV.drop (by simp) (by simpa using cur_closed _ _ hcl) (by simp)
  simp [h0]
  refine cur_call' rfl cb bs s (onceF bs s 4).2 hc (spec_l1Once_m _ cb bs s 4 (cur_lt _ _ hc) hb) ?_; simp
  have en : nodeF bs s many = if (onceF bs s 4).1 then (⟨1, (pickF bs (onceF bs s 4).2 names13).1, 0⟩, (pickF bs (onceF bs s 4).2 names13).2)
    else
      if partsF (2 + (drawF bs (onceF bs s 4).2 7).1) = 2 then
        (⟨2 + (drawF bs (onceF bs s 4).2 7).1, (drawF bs (drawF bs (onceF bs s 4).2 7).2 many).1, (drawF bs (drawF bs (drawF bs (onceF bs s 4).2 7).2 many).2 many).1⟩, (drawF bs (drawF bs (drawF bs (onceF bs s 4).2 7).2 many).2 many).2)
      else (⟨2 + (drawF bs (onceF bs s 4).2 7).1, (drawF bs (drawF bs (onceF bs s 4).2 7).2 many).1, 0⟩, (drawF bs (drawF bs (onceF bs s 4).2 7).2 many).2) := if_neg h0
  rw [en]
  generalize onceF bs s 4 = o
  refine br_intro' (fun g => ?_) (fun g => ?_) <;> simp [g]
  · refine cur_call' rfl cb bs o.2 (pickF bs o.2 names13).2 hc (spec_l1PickInt_m _ cb bs _ (H.length + 1) 0 names13 (cur_lt _ _ hc) hb (by simp [names13]) (by simp [names13]) (by simp [ints, names13]) (by omega)) ?_; simp
    simp [g]
    exact LeV.drop (by simp) (by simpa using cur_closed _ _ hcl) (by simp)
  refine cur_call' rfl cb bs o.2 (drawF bs o.2 7).2 hc (spec_l1Draw_m _ cb bs _ 7 (cur_lt _ _ hc) hb ⟨by omega, by omega⟩) ?_; simp
  have d7 := drawF_in bs o.2 7
  have d7' := d7.2.1 (by omega)
  generalize drawF bs o.2 7 = k at d7 d7' ⊢
  have wk : IntKind.i64.wrap (2 + k.1) = 2 + k.1 := wrap64 (by omega) (by omega)
  refine cur_call' rfl cb bs k.2 (drawF bs k.2 many).2 hc (spec_l1Draw_m _ cb bs _ many (cur_lt _ _ hc) hb hn) ?_; simp
  generalize drawF bs k.2 many = a
  rw [wk]
  refine spec_l1Parts_call rfl ?_; simp
  refine br_intro' (fun f => ?_) (fun f => ?_) <;> simp at f <;> simp [f]
  · refine cur_call' rfl cb bs a.2 (drawF bs a.2 many).2 hc (spec_l1Draw_m _ cb bs _ many (cur_lt _ _ hc) hb hn) ?_; simp
    simp [g, f]
    exact LeV.drop (by simp) (by simpa using cur_closed _ _ hcl) (by simp)
  · simp [g, f]
    exact LeV.drop (by simp) (by simpa using cur_closed _ _ hcl) (by simp)
/-- A pool that is drawn: so many nodes added in turn. -/
def poolGo (bs : List Int) : Nat → List Nd → Cu → List Nd × Cu
  | 0, ns, s => (ns, s)
  | n + 1, ns, s => poolGo bs n (addF ns (nodeF bs s ns.length).1).1 (nodeF bs s ns.length).2
def poolD (bs : List Int) (s : Cu) (most : Int) : List Nd × Cu := poolGo bs (belowF bs s (most + 1)).1.toNat [] (belowF bs s (most + 1)).2
theorem poolGo_ok (bs : List Int) : ∀ (n : Nat) (ns : List Nd) (s : Cu), poolF ns = true → poolF (poolGo bs n ns s).1 = true
  | 0, ns, s, h => h
  | n + 1, ns, s, h => poolGo_ok bs n _ _ (addF_pool _ h)
theorem poolF_nil : poolF [] = true := by simp [poolF, okFrom]
theorem poolD_ok (bs : List Int) (s : Cu) (most : Int) : poolF (poolD bs s most).1 = true := poolGo_ok bs _ _ _ poolF_nil
theorem spec_l1DrawPool_m (H : List Blk) (cb : Nat) (bs : List Int) (s : Cu) (most : Int) (hc : cb < H.length) (hb : bs.length < 9223372036854775807) (hcl : Closed1 H.length H = true) (h0 : 0 ≤ most) (h1 : most < 1000) : T 74 [.ptr cb 0 0, i6 most] (cur H cb bs s) (aP (poolD bs s most).1) (cur H cb bs (poolD bs s most).2) := by
  refine semT' (S := (fun f => [79, 50, 48, 94, 76, 75].contains f)) hm spec_l1DrawPool_ok (Nat.le_of_ble_eq_true rfl) ?_
  unfold spec_l1DrawPool; dsimp only
  have hw : IntKind.i64.wrap (most + 1) = most + 1 := wrap64 (by omega) (by omega)
  simp
  rw [hw]
  have hi := belowF_in bs s (most + 1)
  have hi2 := hi.2.1 (by omega)
  refine cur_call' rfl cb bs s (belowF bs s (most + 1)).2 hc (spec_l1Below_m _ cb bs s (most + 1) (cur_lt _ _ hc) hb) ?_; simp
  have e : poolD bs s most = poolGo bs (belowF bs s (most + 1)).1.toNat [] (belowF bs s (most + 1)).2 := rfl
  rw [e]
  generalize belowF bs s (most + 1) = t at hi hi2 ⊢
  obtain ⟨n, hn⟩ : ∃ n : Nat, t.1 = n := ⟨t.1.toNat, by omega⟩
  rw [hn]
  refine WLoop_fam (fun p : Nat × List Nd × Cu × Bool => [(0, A.ptr cb 0 0), (4, A.ptr H.length 0 0), (5, A.ptr (H.length + 1) 0 0), (6, i6 n), (7, i6 p.1)])
    (fun p => cur H cb bs p.2.2.1 ++ [⟨0, false, 1, [A.nil], none⟩, ⟨0, false, 1, [if p.2.2.2 then A.nil else .sl p.2.1.length (enc p.2.1)], none⟩]) (fun p => n - p.1)
    (fun p => p.1 ≤ n ∧ (p.2.2.2 = true → p.2.1 = []) ∧ poolF p.2.1 = true ∧ poolGo bs n [] t.2 = poolGo bs (n - p.1) p.2.1 p.2.2.1) ?_ (0, [], t.2, true) ⟨Nat.zero_le _, fun _ => rfl, poolF_nil, rfl⟩
  rintro ⟨j, ns, s1, b⟩ ⟨hj, hbn, hp, hgo⟩ ih
  simp only at hj hbn hp hgo
  have hl := poolF_len hp
  have hne : cb ≠ H.length + 1 := by omega
  have hne' : cb ≠ H.length := by omega
  have hcl2 : ∀ x : A, inA (H.length + 2) x = true → Closed1 (cur H cb bs s1 ++ ([⟨0, false, 1, [A.nil], none⟩, ⟨0, false, 1, [x], none⟩] : List Blk)).length (cur H cb bs s1 ++ ([⟨0, false, 1, [A.nil], none⟩, ⟨0, false, 1, [x], none⟩] : List Blk)) = true := fun x hx =>
    Closed1_more (by simpa using cur_closed bs s1 hcl) (by simpa using hx)
  have fin : ¬ (j : Int) < n → poolGo bs n [] t.2 = (ns, s1) := fun h => by
    have : n - j = 0 := by omega
    rw [hgo, this]; rfl
  have nxt : j < n → poolGo bs n [] t.2 = poolGo bs (n - (j + 1)) (addF ns (nodeF bs s1 ns.length).1).1 (nodeF bs s1 ns.length).2 := fun h => by
    have : n - j = (n - (j + 1)) + 1 := by omega
    rw [hgo, this]; rfl
  cases b
  · simp
    refine br_intro' (fun h => ?_) (fun h => ?_) <;> (have h0 := h) <;> (try simp at h) <;> try simp [h0, h]
    · have h' := h
      have hwj : IntKind.i64.wrap ((j : Int) + 1) = j + 1 := wrap64 (by omega) (by omega)
      refine cur_call' rfl cb bs s1 (nodeF bs s1 ns.length).2 hc (spec_l1DrawNode_m _ cb bs s1 ns.length (cur_lt _ _ hc) hb (hcl2 _ (by simp)) ⟨by omega, by omega⟩) ?_
      simp
      refine spec_l1Add_k (ns := ns) (n := (nodeF bs s1 ns.length).1) hp rfl (by simp) (by simp) ?_; simp
      refine ck_intro' (regOk_ren (fun n => if n = cb then 0 else 1) (by simp [hne, hne', hne.symm, hne'.symm]; kernel_rfl)) ?_; simp
      rw [hwj]
      exact ih (j + 1, (addF ns (nodeF bs s1 ns.length).1).1, (nodeF bs s1 ns.length).2, false) ⟨h', by simp, addF_pool _ hp, nxt h'⟩ (by simp; omega)
    · rw [fin (by omega)]
      exact LeV.drop (by simp) (by simpa using cur_closed _ _ hcl) (by simp)
  · obtain rfl := hbn rfl
    simp
    refine br_intro' (fun h => ?_) (fun h => ?_) <;> (have h0 := h) <;> (try simp at h) <;> try simp [h0, h]
    · have h' := h
      have hwj : IntKind.i64.wrap ((j : Int) + 1) = j + 1 := wrap64 (by omega) (by omega)
      refine cur_call' rfl cb bs s1 (nodeF bs s1 0).2 hc (spec_l1DrawNode_m _ cb bs s1 0 (cur_lt _ _ hc) hb (hcl2 _ (by simp)) ⟨by omega, by omega⟩) ?_
      simp
      refine spec_l1Add_k (ns := []) (n := (nodeF bs s1 0).1) hp rfl (by simp) (by simp) ?_; simp
      refine ck_intro' (regOk_ren (fun n => if n = cb then 0 else 1) (by simp [hne, hne', hne.symm, hne'.symm]; kernel_rfl)) ?_; simp
      rw [hwj]
      exact ih (j + 1, (addF [] (nodeF bs s1 0).1).1, (nodeF bs s1 0).2, false) ⟨h', by simp, addF_pool _ hp, nxt h'⟩ (by simp; omega)
    · rw [fin (by omega)]
      exact LeV.trans (LeV.nilsl _ _) (LeV.drop (by simp) (by simpa using cur_closed _ _ hcl) (by simp))
end Go.Proofs.YtoegiepfcdkjaaaDoor.C

set_option linter.unusedVariables false
set_option linter.unusedSimpArgs false
set_option maxRecDepth 4000
namespace Go.Proofs.YtoegiepfcdkjaaaDoor.C
open Go.Sym Go.Proofs.YtoegiepfcdkjaaaDoor.I
theorem findF_in {n : Nd} : ∀ {ns : List Nd} {i : Int}, 0 ≤ i → 0 ≤ findF ns n i → n ∈ ns
  | [], i, _, h => by simp [findF] at h
  | x :: xs, i, hi, h => by
    simp only [findF] at h
    split at h
    · rename_i e; subst e; simp
    · exact List.mem_cons_of_mem _ (findF_in (by omega) h)
theorem no_digest {ns : List Nd} (hp : poolF ns = true) : findF ns ⟨5, (ns.length : Int) - 1, 0⟩ 0 < 0 := by
  rcases Int.lt_or_le (findF ns ⟨5, (ns.length : Int) - 1, 0⟩ 0) 0 with h | h
  · exact h
  · have hm := findF_in (Int.le_refl 0) h
    obtain ⟨j, hj, e⟩ := List.getElem_of_mem hm
    have := (okFrom_all hp hj).1
    rw [e] at this
    simp [rightF, partsF, inF] at this
    omega
/-- A pool with one more name and one more digest, where there's room. -/
def moreF (ns : List Nd) : List Nd := (addF (addF ns ⟨1, (ns.length : Int).tmod 200, 0⟩).1 ⟨5, ((addF ns ⟨1, (ns.length : Int).tmod 200, 0⟩).1.length : Int) - 1, 0⟩).1
theorem addF_cases (ns : List Nd) (n : Nd) : (addF ns n).1 = ns ∨ (addF ns n).1.length = ns.length + 1 := by
  unfold addF
  split
  · exact .inl rfl
  · split
    · exact .inl rfl
    · split
      · exact .inl rfl
      · exact .inr (by simp)
theorem moreF_gt {ns : List Nd} (hp : poolF ns = true) (hl : ns.length < 500) : ns.length < (moreF ns).length := by
  have hge := addF_ge (addF ns ⟨1, (ns.length : Int).tmod 200, 0⟩).1 ⟨5, ((addF ns ⟨1, (ns.length : Int).tmod 200, 0⟩).1.length : Int) - 1, 0⟩
  rcases addF_cases ns ⟨1, (ns.length : Int).tmod 200, 0⟩ with h | h
  · have hne : 0 < ns.length := by
      rcases Nat.eq_zero_or_pos ns.length with e | e
      · have : ns = [] := List.eq_nil_of_length_eq_zero e
        subst this
        simp [addF, normN, rightF, partsF, inF, findF] at h
      · exact e
    unfold moreF
    rw [h]
    have hr : rightF ⟨5, (ns.length : Int) - 1, 0⟩ ns.length = true := by simp [rightF, partsF, inF]; omega
    have hf := no_digest hp
    have hnm : normN ⟨5, (ns.length : Int) - 1, 0⟩ = ⟨5, (ns.length : Int) - 1, 0⟩ := by simp [normN]
    simp only [addF, hnm, hr]
    rw [if_neg (by simp), if_neg (by omega), if_neg (by omega)]
    simp
  · unfold moreF
    omega
def fillF : Nat → List Nd → List Nd
  | 0, ns => ns
  | n + 1, ns => if ns.length < 500 then fillF n (moreF ns) else ns
theorem fillF_one (n : Nat) {ns : List Nd} (h : ns.length < 500) : fillF (n + 1) ns = fillF n (moreF ns) := if_pos h
theorem fillF_full : ∀ (n : Nat) {ns : List Nd}, ¬ ns.length < 500 → fillF n ns = ns
  | 0, _, _ => rfl
  | n + 1, _, h => if_neg h
def anyMid (bs : List Int) (p : List Nd) (t : Int × Cu) : List Nd × Cu :=
  if t.1 = 0 then (p ++ [(nodeF bs t.2 3).1], (nodeF bs t.2 3).2)
  else if t.1 = 1 then (p ++ [⟨(belowF bs t.2 10).1, (belowF bs (belowF bs t.2 10).2 30).1 - 1, (belowF bs (belowF bs (belowF bs t.2 10).2 30).2 30).1 - 1⟩], (belowF bs (belowF bs (belowF bs t.2 10).2 30).2 30).2)
  else (p, t.2)
def anyEnd (bs : List Int) (q : List Nd × Cu) : List Nd × Cu := if (onceF bs q.2 80).1 then (fillF 500 [], (onceF bs q.2 80).2) else (q.1, (onceF bs q.2 80).2)
def anyF (bs : List Int) (s : Cu) : List Nd × Cu := anyEnd bs (anyMid bs (poolD bs s 24).1 (belowF bs (poolD bs s 24).2 25))
theorem spec_l1DrawAny_m (H : List Blk) (cb : Nat) (bs : List Int) (s : Cu) (hc : cb < H.length) (hb : bs.length < 9223372036854775807) (hcl : Closed1 H.length H = true) : T 46 [.ptr cb 0 0] (cur H cb bs s) (aP (anyF bs s).1) (cur H cb bs (anyF bs s).2) := by
  refine semT' (S := (fun f => [79, 50, 48, 94, 76, 75, 74].contains f)) hm spec_l1DrawAny_ok (Nat.le_of_ble_eq_true rfl) ?_
  unfold spec_l1DrawAny; dsimp only
  simp
  refine cur_call' rfl cb bs s (poolD bs s 24).2 hc (spec_l1DrawPool_m _ cb bs s 24 (cur_lt _ _ hc) hb (Closed1_more (by simpa using cur_closed bs s hcl) (by simp)) (by omega) (by omega)) ?_; simp
  have hp := poolD_ok bs s 24
  have hl := poolF_len hp
  refine cur_call' rfl cb bs (poolD bs s 24).2 (belowF bs (poolD bs s 24).2 25).2 hc (spec_l1Below_m _ cb bs _ 25 (cur_lt _ _ hc) hb) ?_; simp
  have ea : anyF bs s = anyEnd bs (anyMid bs (poolD bs s 24).1 (belowF bs (poolD bs s 24).2 25)) := rfl
  rw [ea]
  generalize (poolD bs s 24).1 = ns at hp hl ⊢
  generalize belowF bs (poolD bs s 24).2 25 = t
  refine br_intro' (fun g => ?_) (fun g => ?_) <;> simp at g <;> simp [g]
  · rw [show anyMid bs ns t = (ns ++ [(nodeF bs t.2 3).1], (nodeF bs t.2 3).2) from if_pos g]
    refine spec_l1Copy_k (ns := ns) (by omega) rfl (by simp) (by simp [noslBlks]) ?_; simp [shiftB]
    refine cur_call' rfl cb bs t.2 (nodeF bs t.2 3).2 hc (spec_l1DrawNode_m _ cb bs _ 3 (cur_lt _ _ hc) hb (Closed1_more (by simpa using cur_closed bs t.2 hcl) (by simp)) ⟨by omega, by omega⟩) ?_; simp
    refine ck_intro' (by omega) ?_; simp
    refine cur_call' rfl cb bs (nodeF bs t.2 3).2 (onceF bs (nodeF bs t.2 3).2 80).2 hc (spec_l1Once_m _ cb bs _ 80 (cur_lt _ _ hc) hb) ?_; simp
    have eo : anyEnd bs (ns ++ [(nodeF bs t.2 3).1], (nodeF bs t.2 3).2) = if (onceF bs (nodeF bs t.2 3).2 80).1 then (fillF 500 [], (onceF bs (nodeF bs t.2 3).2 80).2) else (ns ++ [(nodeF bs t.2 3).1], (onceF bs (nodeF bs t.2 3).2 80).2) := rfl
    rw [eo]
    generalize onceF bs (nodeF bs t.2 3).2 80 = o
    refine br_intro' (fun f => ?_) (fun f => ?_) <;> simp [f]
    · refine WLoop_drop (cur H cb bs o.2 ++ [⟨0, false, 1, [A.nil], none⟩, ⟨0, false, 1, [A.nil], none⟩]) _ (by rw [List.append_assoc]; rfl) (by simp) (Closed1_more (by simpa using cur_closed bs o.2 hcl) (by simp)) (by simp) ?_
      generalize hfx : fillF 500 [] = fx
      refine WLoop_fam (fun p : List Nd × Bool => [(2, A.ptr H.length 0 0), (3, A.ptr (H.length + 1) 0 0)])
        (fun p => cur H cb bs o.2 ++ [⟨0, false, 1, [A.nil], none⟩, ⟨0, false, 1, [if p.2 then A.nil else .sl p.1.length (enc p.1)], none⟩]) (fun p => 500 - p.1.length)
        (fun p => (p.2 = true → p.1 = []) ∧ poolF p.1 = true ∧ ∃ k, 500 - p.1.length ≤ k ∧ fx = fillF k p.1) ?_ ([], true) ⟨fun _ => rfl, poolF_nil, 500, by simp, hfx.symm⟩
      rintro ⟨qs, b⟩ ⟨hbn, hq, k, hk, hf⟩ ih
      simp only at hbn hq hk hf
      have hql := poolF_len hq
      have hq1 := addF_pool ⟨1, (qs.length : Int).tmod 200, 0⟩ hq
      have hql1 := poolF_len hq1
      have nxt : qs.length < 500 → ∃ k', 500 - (moreF qs).length ≤ k' ∧ fx = fillF k' (moreF qs) := fun h => by
        obtain ⟨k', rfl⟩ : ∃ k', k = k' + 1 := ⟨k - 1, by omega⟩
        have := moreF_gt hq h
        exact ⟨k', by omega, hf.trans (fillF_one k' h)⟩
      cases b
      · simp
        refine br_intro' (fun h => ?_) (fun h => ?_) <;> (have h0 := h) <;> (try simp at h) <;> try simp [h0, h]
        · have h' : qs.length < 500 := by omega
          have wl : IntKind.i64.wrap (((addF qs ⟨1, (qs.length : Int).tmod 200, 0⟩).1.length : Int) - 1) = ((addF qs ⟨1, (qs.length : Int).tmod 200, 0⟩).1.length : Int) - 1 := wrap64 (by omega) (by omega)
          refine spec_l1Add_k (ns := qs) (n := ⟨1, (qs.length : Int).tmod 200, 0⟩) hq rfl (by simp) (by simp) ?_; simp
          rw [wl]
          refine spec_l1Add_k (ns := (addF qs ⟨1, (qs.length : Int).tmod 200, 0⟩).1) (n := ⟨5, ((addF qs ⟨1, (qs.length : Int).tmod 200, 0⟩).1.length : Int) - 1, 0⟩) hq1 rfl (by simp) (by simp) ?_; simp
          exact ih (moreF qs, false) ⟨by simp, addF_pool _ hq1, nxt h'⟩ (Nat.sub_lt_sub_left h' (moreF_gt hq h'))
        · rw [hf, fillF_full k (by omega)]
          simp [f]
          exact LeV.drop (by simp) (by simpa using cur_closed _ _ hcl) (by simp)
      · obtain rfl := hbn rfl
        simp
        refine spec_l1Add_k (ns := []) (n := ⟨1, 0, 0⟩) hq rfl (by simp) (by simp) ?_; simp
        have hz1 := addF_pool ⟨1, 0, 0⟩ poolF_nil
        have hz2 := poolF_len hz1
        have em : moreF [] = (addF (addF [] ⟨1, 0, 0⟩).1 ⟨5, ((addF [] ⟨1, 0, 0⟩).1.length : Int) - 1, 0⟩).1 := by simp [moreF]
        have hg := moreF_gt hq (by simp)
        have hn := nxt (by simp)
        have wl : IntKind.i64.wrap (((addF [] ⟨1, 0, 0⟩).1.length : Int) - 1) = ((addF [] ⟨1, 0, 0⟩).1.length : Int) - 1 := wrap64 (by omega) (by omega)
        rw [wl]
        refine spec_l1Add_k (ns := (addF [] ⟨1, 0, 0⟩).1) (n := ⟨5, ((addF [] ⟨1, 0, 0⟩).1.length : Int) - 1, 0⟩) hz1 rfl (by simp) (by simp) ?_; simp
        rw [← em]
        have hm : poolF (moreF []) = true := by rw [em]; exact addF_pool _ hz1
        exact ih (moreF [], false) ⟨by simp, hm, hn⟩ (Nat.sub_lt_sub_left (by simp) hg)
    · have := LeV.frzA (B := H.length) (H1 := cur H cb bs o.2) (T := [⟨0, false, 1, [.ref (H.length + 2) (ns.length + 1) 0 (ns.length + 1)], none⟩, ⟨0, false, 1, [.ref (H.length + 2) (ns.length + 1) 0 (ns.length + 1)], none⟩, ⟨ns.length + 1, false, 3, enc (ns ++ [(nodeF bs t.2 3).1]), none⟩, ⟨0, false, 3, encN (nodeF bs t.2 3).1, none⟩]) (b := H.length + 2) (m := ns.length + 1) (k := ⟨ns.length + 1, false, 3, enc (ns ++ [(nodeF bs t.2 3).1]), none⟩) (by simp) (by simpa using cur_closed _ _ hcl) (by simp) (by simp) (by simp) (by simp)
      rw [show (enc (ns ++ [(nodeF bs t.2 3).1])).take ((ns.length + 1) * 3) = enc (ns ++ [(nodeF bs t.2 3).1]) from List.take_of_length_le (by simp)] at this
      simpa [aP, enc_snoc, encN] using this
  refine br_intro' (fun g1 => ?_) (fun g1 => ?_) <;> simp at g1 <;> simp [g1]
  · rw [show anyMid bs ns t = _ from (if_neg g).trans (if_pos g1)]
    refine spec_l1Copy_k (ns := ns) (by omega) rfl (by simp) (by simp [noslBlks]) ?_; simp [shiftB]
    refine cur_call' rfl cb bs t.2 (belowF bs t.2 10).2 hc (spec_l1Below_m _ cb bs _ 10 (cur_lt _ _ hc) hb) ?_; simp
    generalize belowF bs t.2 10 = a
    refine cur_call' rfl cb bs a.2 (belowF bs a.2 30).2 hc (spec_l1Below_m _ cb bs _ 30 (cur_lt _ _ hc) hb) ?_; simp
    have hx := belowF_in bs a.2 30
    have hx' := hx.2.1 (by omega)
    generalize belowF bs a.2 30 = d at hx hx' ⊢
    refine cur_call' rfl cb bs d.2 (belowF bs d.2 30).2 hc (spec_l1Below_m _ cb bs _ 30 (cur_lt _ _ hc) hb) ?_; simp
    have hy := belowF_in bs d.2 30
    have hy' := hy.2.1 (by omega)
    generalize belowF bs d.2 30 = e at hy hy' ⊢
    have w1 : IntKind.i64.wrap (d.1 - 1) = d.1 - 1 := wrap64 (by omega) (by omega)
    have w2 : IntKind.i64.wrap (e.1 - 1) = e.1 - 1 := wrap64 (by omega) (by omega)
    refine ck_intro' (by omega) ?_; simp [w1, w2]
    refine cur_call' rfl cb bs e.2 (onceF bs e.2 80).2 hc (spec_l1Once_m _ cb bs _ 80 (cur_lt _ _ hc) hb) ?_; simp
    have eo : anyEnd bs (ns ++ [(Nd.mk a.1 (d.1 - 1) (e.1 - 1))], e.2) = if (onceF bs e.2 80).1 then (fillF 500 [], (onceF bs e.2 80).2) else (ns ++ [(Nd.mk a.1 (d.1 - 1) (e.1 - 1))], (onceF bs e.2 80).2) := rfl
    rw [eo]
    generalize onceF bs e.2 80 = o
    refine br_intro' (fun f => ?_) (fun f => ?_) <;> simp [f]
    · refine WLoop_drop (cur H cb bs o.2 ++ [⟨0, false, 1, [A.nil], none⟩, ⟨0, false, 1, [A.nil], none⟩]) _ (by rw [List.append_assoc]; rfl) (by simp) (Closed1_more (by simpa using cur_closed bs o.2 hcl) (by simp)) (by simp) ?_
      generalize hfx : fillF 500 [] = fx
      refine WLoop_fam (fun p : List Nd × Bool => [(2, A.ptr H.length 0 0), (3, A.ptr (H.length + 1) 0 0)])
        (fun p => cur H cb bs o.2 ++ [⟨0, false, 1, [A.nil], none⟩, ⟨0, false, 1, [if p.2 then A.nil else .sl p.1.length (enc p.1)], none⟩]) (fun p => 500 - p.1.length)
        (fun p => (p.2 = true → p.1 = []) ∧ poolF p.1 = true ∧ ∃ k, 500 - p.1.length ≤ k ∧ fx = fillF k p.1) ?_ ([], true) ⟨fun _ => rfl, poolF_nil, 500, by simp, hfx.symm⟩
      rintro ⟨qs, b⟩ ⟨hbn, hq, k, hk, hf⟩ ih
      simp only at hbn hq hk hf
      have hql := poolF_len hq
      have hq1 := addF_pool ⟨1, (qs.length : Int).tmod 200, 0⟩ hq
      have hql1 := poolF_len hq1
      have nxt : qs.length < 500 → ∃ k', 500 - (moreF qs).length ≤ k' ∧ fx = fillF k' (moreF qs) := fun h => by
        obtain ⟨k', rfl⟩ : ∃ k', k = k' + 1 := ⟨k - 1, by omega⟩
        have := moreF_gt hq h
        exact ⟨k', by omega, hf.trans (fillF_one k' h)⟩
      cases b
      · simp
        refine br_intro' (fun h => ?_) (fun h => ?_) <;> (have h0 := h) <;> (try simp at h) <;> try simp [h0, h]
        · have h' : qs.length < 500 := by omega
          have wl : IntKind.i64.wrap (((addF qs ⟨1, (qs.length : Int).tmod 200, 0⟩).1.length : Int) - 1) = ((addF qs ⟨1, (qs.length : Int).tmod 200, 0⟩).1.length : Int) - 1 := wrap64 (by omega) (by omega)
          refine spec_l1Add_k (ns := qs) (n := ⟨1, (qs.length : Int).tmod 200, 0⟩) hq rfl (by simp) (by simp) ?_; simp
          rw [wl]
          refine spec_l1Add_k (ns := (addF qs ⟨1, (qs.length : Int).tmod 200, 0⟩).1) (n := ⟨5, ((addF qs ⟨1, (qs.length : Int).tmod 200, 0⟩).1.length : Int) - 1, 0⟩) hq1 rfl (by simp) (by simp) ?_; simp
          exact ih (moreF qs, false) ⟨by simp, addF_pool _ hq1, nxt h'⟩ (Nat.sub_lt_sub_left h' (moreF_gt hq h'))
        · rw [hf, fillF_full k (by omega)]
          simp [f]
          exact LeV.drop (by simp) (by simpa using cur_closed _ _ hcl) (by simp)
      · obtain rfl := hbn rfl
        simp
        refine spec_l1Add_k (ns := []) (n := ⟨1, 0, 0⟩) hq rfl (by simp) (by simp) ?_; simp
        have hz1 := addF_pool ⟨1, 0, 0⟩ poolF_nil
        have hz2 := poolF_len hz1
        have em : moreF [] = (addF (addF [] ⟨1, 0, 0⟩).1 ⟨5, ((addF [] ⟨1, 0, 0⟩).1.length : Int) - 1, 0⟩).1 := by simp [moreF]
        have hg := moreF_gt hq (by simp)
        have hn := nxt (by simp)
        have wl : IntKind.i64.wrap (((addF [] ⟨1, 0, 0⟩).1.length : Int) - 1) = ((addF [] ⟨1, 0, 0⟩).1.length : Int) - 1 := wrap64 (by omega) (by omega)
        rw [wl]
        refine spec_l1Add_k (ns := (addF [] ⟨1, 0, 0⟩).1) (n := ⟨5, ((addF [] ⟨1, 0, 0⟩).1.length : Int) - 1, 0⟩) hz1 rfl (by simp) (by simp) ?_; simp
        rw [← em]
        have hm : poolF (moreF []) = true := by rw [em]; exact addF_pool _ hz1
        exact ih (moreF [], false) ⟨by simp, hm, hn⟩ (Nat.sub_lt_sub_left (by simp) hg)
    · have := LeV.frzA (B := H.length) (H1 := cur H cb bs o.2) (T := [⟨0, false, 1, [.ref (H.length + 2) (ns.length + 1) 0 (ns.length + 1)], none⟩, ⟨0, false, 1, [.ref (H.length + 2) (ns.length + 1) 0 (ns.length + 1)], none⟩, ⟨ns.length + 1, false, 3, enc (ns ++ [(Nd.mk a.1 (d.1 - 1) (e.1 - 1))]), none⟩, ⟨0, false, 3, encN (Nd.mk a.1 (d.1 - 1) (e.1 - 1)), none⟩]) (b := H.length + 2) (m := ns.length + 1) (k := ⟨ns.length + 1, false, 3, enc (ns ++ [(Nd.mk a.1 (d.1 - 1) (e.1 - 1))]), none⟩) (by simp) (by simpa using cur_closed _ _ hcl) (by simp) (by simp) (by simp) (by simp)
      rw [show (enc (ns ++ [(Nd.mk a.1 (d.1 - 1) (e.1 - 1))])).take ((ns.length + 1) * 3) = enc (ns ++ [(Nd.mk a.1 (d.1 - 1) (e.1 - 1))]) from List.take_of_length_le (by simp)] at this
      simpa [aP, enc_snoc, encN] using this
  · rw [show anyMid bs ns t = (ns, t.2) from (if_neg g).trans (if_neg g1)]
    refine cur_call' rfl cb bs t.2 (onceF bs t.2 80).2 hc (spec_l1Once_m _ cb bs _ 80 (cur_lt _ _ hc) hb) ?_; simp
    have eo : anyEnd bs (ns, t.2) = if (onceF bs t.2 80).1 then (fillF 500 [], (onceF bs t.2 80).2) else (ns, (onceF bs t.2 80).2) := rfl
    rw [eo]
    generalize onceF bs t.2 80 = o
    refine br_intro' (fun f => ?_) (fun f => ?_) <;> simp [f]
    · generalize hfx : fillF 500 [] = fx
      refine WLoop_fam (fun p : List Nd × Bool => [(2, A.ptr H.length 0 0), (3, A.ptr (H.length + 1) 0 0)])
        (fun p => cur H cb bs o.2 ++ [⟨0, false, 1, [A.nil], none⟩, ⟨0, false, 1, [if p.2 then A.nil else .sl p.1.length (enc p.1)], none⟩]) (fun p => 500 - p.1.length)
        (fun p => (p.2 = true → p.1 = []) ∧ poolF p.1 = true ∧ ∃ k, 500 - p.1.length ≤ k ∧ fx = fillF k p.1) ?_ ([], true) ⟨fun _ => rfl, poolF_nil, 500, by simp, hfx.symm⟩
      rintro ⟨qs, b⟩ ⟨hbn, hq, k, hk, hf⟩ ih
      simp only at hbn hq hk hf
      have hql := poolF_len hq
      have hq1 := addF_pool ⟨1, (qs.length : Int).tmod 200, 0⟩ hq
      have hql1 := poolF_len hq1
      have nxt : qs.length < 500 → ∃ k', 500 - (moreF qs).length ≤ k' ∧ fx = fillF k' (moreF qs) := fun h => by
        obtain ⟨k', rfl⟩ : ∃ k', k = k' + 1 := ⟨k - 1, by omega⟩
        have := moreF_gt hq h
        exact ⟨k', by omega, hf.trans (fillF_one k' h)⟩
      cases b
      · simp
        refine br_intro' (fun h => ?_) (fun h => ?_) <;> (have h0 := h) <;> (try simp at h) <;> try simp [h0, h]
        · have h' : qs.length < 500 := by omega
          have wl : IntKind.i64.wrap (((addF qs ⟨1, (qs.length : Int).tmod 200, 0⟩).1.length : Int) - 1) = ((addF qs ⟨1, (qs.length : Int).tmod 200, 0⟩).1.length : Int) - 1 := wrap64 (by omega) (by omega)
          refine spec_l1Add_k (ns := qs) (n := ⟨1, (qs.length : Int).tmod 200, 0⟩) hq rfl (by simp) (by simp) ?_; simp
          rw [wl]
          refine spec_l1Add_k (ns := (addF qs ⟨1, (qs.length : Int).tmod 200, 0⟩).1) (n := ⟨5, ((addF qs ⟨1, (qs.length : Int).tmod 200, 0⟩).1.length : Int) - 1, 0⟩) hq1 rfl (by simp) (by simp) ?_; simp
          exact ih (moreF qs, false) ⟨by simp, addF_pool _ hq1, nxt h'⟩ (Nat.sub_lt_sub_left h' (moreF_gt hq h'))
        · rw [hf, fillF_full k (by omega)]
          simp [f]
          exact LeV.drop (by simp) (by simpa using cur_closed _ _ hcl) (by simp)
      · obtain rfl := hbn rfl
        simp
        refine spec_l1Add_k (ns := []) (n := ⟨1, 0, 0⟩) hq rfl (by simp) (by simp) ?_; simp
        have hz1 := addF_pool ⟨1, 0, 0⟩ poolF_nil
        have hz2 := poolF_len hz1
        have em : moreF [] = (addF (addF [] ⟨1, 0, 0⟩).1 ⟨5, ((addF [] ⟨1, 0, 0⟩).1.length : Int) - 1, 0⟩).1 := by simp [moreF]
        have hg := moreF_gt hq (by simp)
        have hn := nxt (by simp)
        have wl : IntKind.i64.wrap (((addF [] ⟨1, 0, 0⟩).1.length : Int) - 1) = ((addF [] ⟨1, 0, 0⟩).1.length : Int) - 1 := wrap64 (by omega) (by omega)
        rw [wl]
        refine spec_l1Add_k (ns := (addF [] ⟨1, 0, 0⟩).1) (n := ⟨5, ((addF [] ⟨1, 0, 0⟩).1.length : Int) - 1, 0⟩) hz1 rfl (by simp) (by simp) ?_; simp
        rw [← em]
        have hm : poolF (moreF []) = true := by rw [em]; exact addF_pool _ hz1
        exact ih (moreF [], false) ⟨by simp, hm, hn⟩ (Nat.sub_lt_sub_left (by simp) hg)
    · exact LeV.drop (by simp) (by simpa using cur_closed _ _ hcl) (by simp)
theorem anyF_len (bs : List Int) (s : Cu) : (anyF bs s).1.length ≤ 501 := by
  have hfill : ∀ (n : Nat) (ns : List Nd), poolF ns = true → (fillF n ns).length ≤ 500 := by
    intro n
    induction n with
    | zero => intro ns h; exact poolF_len h
    | succ n ih =>
      intro ns h
      simp only [fillF]
      split
      · exact ih _ (addF_pool _ (addF_pool _ h))
      · exact poolF_len h
  have hp := poolF_len (poolD_ok bs s 24)
  unfold anyF anyEnd
  split
  · have := hfill 500 [] poolF_nil
    simp only
    omega
  · unfold anyMid
    split
    · simp; omega
    · split
      · simp; omega
      · simp only; omega
end Go.Proofs.YtoegiepfcdkjaaaDoor.C

set_option linter.unusedVariables false
set_option linter.unusedSimpArgs false
set_option maxRecDepth 40000
namespace Go.Proofs.YtoegiepfcdkjaaaDoor.C
open Go.Sym Go.Proofs.YtoegiepfcdkjaaaDoor.I
def hashS (h x : Int) : Int := IntKind.i64.wrap ((IntKind.i64.wrap (IntKind.i64.wrap (IntKind.i64.wrap (h * 131) + IntKind.i64.wrap x) + 7) % 2 ^ IntKind.i64.bits).toNat &&& 1073741823 % 2 ^ IntKind.i64.bits : Nat)
def hashGo (bs : List Int) : Nat → Nat → Int → Int
  | 0, _, h => h
  | n + 1, j, h => if j < bs.length ∧ j < 4000 then hashGo bs n (j + 1) (hashS h (bs.getD j 0)) else h
def newH (bs : List Int) : Int := hashGo bs (bs.length + 1) 0 (IntKind.i64.wrap (12241 + (bs.length : Int)))
abbrev curB (bs : List Int) (s : Cu) : Blk := ⟨0, false, 1, [aB bs, i6 s.i, i6 s.h], none⟩
theorem spec_l1New_c (bs : List Int) (hb : bs.length < 9223372036854775807) : T 45 [aB bs] [] (.ptr 0 0 0) ([curB bs ⟨0, newH bs⟩]) := by
  refine semT' (S := S0) hm spec_l1New_ok (Nat.le_of_ble_eq_true rfl) ?_
  unfold spec_l1New; dsimp only
  simp
  refine WLoop_fam (fun p : Nat × Int => [(0, aB bs), (3, i6 p.2), (4, i6 p.1)]) (fun _ => []) (fun p => bs.length - p.1)
    (fun p => p.1 ≤ bs.length ∧ newH bs = hashGo bs (bs.length + 1 - p.1) p.1 p.2) ?_ (0, IntKind.i64.wrap (12241 + (bs.length : Int))) ⟨Nat.zero_le _, rfl⟩
  rintro ⟨j, h'⟩ ⟨hj, hf⟩ ih
  simp only at hj hf
  obtain ⟨k, hk⟩ : ∃ k, bs.length + 1 - j = k + 1 := ⟨bs.length - j, by omega⟩
  rw [hk] at hf
  simp
  refine br_intro' (fun h => ?_) (fun h => ?_) <;> (have h0 := h) <;> (try simp at h) <;> try simp [h0, h]
  · have h9 := h
    have hw : IntKind.i64.wrap ((j : Int) + 1) = j + 1 := wrap64 (by omega) (by omega)
    refine br_intro' (fun g => ?_) (fun g => ?_) <;> simp at g <;> simp [g]
    · simp [h9]
      rw [hw]
      refine ih (j + 1, hashS h' bs[j]) ⟨h9, ?_⟩ (by simp; omega)
      have hk2 : bs.length + 1 - (j + 1) = k := by omega
      simp only [hk2]
      rw [hf, hashGo, if_pos ⟨h9, by omega⟩]
      simp [h9]
    · have e : newH bs = h' := by rw [hf, hashGo, if_neg (by omega)]
      rw [e]
      exact LeV.refl _ _ _
  · have e : newH bs = h' := by rw [hf, hashGo, if_neg (by omega)]
    rw [e]
    exact LeV.refl _ _ _
theorem spec_l1New_k {bs : List Int} (hb : bs.length < 9223372036854775807) {S : FuncId → Bool} {H : List Blk} {K : A → Dl → Prop} {zs : List A} (hS : S 45 = false) (hv : viewL (viewA 8 H) zs = some [aB bs]) (ho : noOwns zs = true ∨ nosl (.ptr 0 0 0) = true ∧ noslBlks ([curB bs ⟨0, newH bs⟩]) = true) (hK : K (shiftA H.length (.ptr 0 0 0)) (.news (([curB bs ⟨0, newH bs⟩]).map (shiftB H.length)))) : @WCall' Go.Proofs.Tryd.prog S 45 zs H ⟨K⟩ :=
  WCall_ro' hS hv (spec_l1New_c bs hb) rfl ho hK
/-- What is drawn for a link: a pool, a link and a term. -/
def seqF (bs : List Int) (s : Cu) (x : Int) : Int × Cu := if (onceF bs s 12).1 then pickF bs (onceF bs s 12).2 [-1, 19, 20, 21] else (x, (onceF bs s 12).2)
structure Dr where
  pool : List Nd
  link : Lk
  term : Int
def drF5 (bs : List Int) (p : List Nd) (l : Lk) (t : Int) (s : Cu) : Dr :=
  if (onceF bs s 12).1 = true ∧ poolF p = true then ⟨(addF p ⟨1, 8, 0⟩).1, l, (addF p ⟨1, 8, 0⟩).2⟩ else ⟨p, l, t⟩
def drF4 (bs : List Int) (p : List Nd) (l : Lk) (t : Int × Cu) : Dr := drF5 bs p l t.1 t.2
def drF3b (bs : List Int) (p : List Nd) (k : Int) (o : Bool) (q : Int) (e : Int × Cu) : Dr := drF4 bs p ⟨k, e.1, q, o⟩ (termF bs e.2 p.length)
def drF3 (bs : List Int) (p : List Nd) (k e : Int) (o : Bool) (q : Int × Cu) : Dr := drF3b bs p k o q.1 (seqF bs q.2 e)
def drF2c (bs : List Int) (p : List Nd) (k e q : Int) (o : Bool × Cu) : Dr := drF3 bs p k e o.1 (seqF bs o.2 q)
def drF2b (bs : List Int) (p : List Nd) (k e : Int) (q : Int × Cu) : Dr := drF2c bs p k e q.1 (onceF bs q.2 9)
def drF2a (bs : List Int) (p : List Nd) (k : Int) (e : Int × Cu) : Dr := drF2b bs p k e.1 (belowF bs e.2 4)
def drF2 (bs : List Int) (p : List Nd) (k : Int × Cu) : Dr := drF2a bs p k.1 (belowF bs k.2 3)
def drF1 (bs : List Int) (a : List Nd × Cu) : Dr := drF2 bs a.1 (termF bs a.2 a.1.length)
def drF (bs : List Int) : Dr := drF1 bs (anyF bs ⟨0, newH bs⟩)
theorem cur_callR {f : FuncId} {S : FuncId → Bool} {G : List Blk} {K : A → Dl → Prop} (hS : S f = true) (cb : Nat) (bs : List Int) (s s' : Cu) {zs : List A} {r : A} (hG : G[cb]? = some (curB bs s))
    (hf : T f zs (cur G cb bs s) r (cur G cb bs s')) (hK : K r (.full [cb] (cur G cb bs s'))) : @WCall' Go.Proofs.Tryd.prog S f zs G ⟨K⟩ := cur_call hS cb bs s s' (by
      apply List.ext_getElem?
      intro i
      by_cases e : cb = i
      · subst e
        rw [hG]
        simp only [cur]
        rw [List.getElem?_set_self (List.getElem?_eq_some_iff.1 hG).1]
      · simp only [cur]
        rw [List.getElem?_set_ne e]) hf hK
theorem drF5_len (bs : List Int) (p : List Nd) (l : Lk) (t : Int) (s : Cu) (h : p.length ≤ 501) : (drF5 bs p l t s).pool.length ≤ 501 := by
  unfold drF5
  split
  · rename_i g
    have := poolF_len (addF_pool ⟨1, 8, 0⟩ g.2)
    simp only
    omega
  · exact h
theorem drF_len (bs : List Int) : (drF bs).pool.length ≤ 501 := drF5_len _ _ _ _ _ (anyF_len _ _)
theorem fit_u {cs : List A} (h : Fit (.i .u8) cs) : ∃ n : Int, cs = [.int .u8 n] ∧ True := by
  obtain ⟨n, rfl, hn⟩ := h
  exact ⟨n, rfl, trivial⟩
theorem arg_by {x : A} (h : FitA (.sl (.i .u8)) x) : ∃ bs : List Int, x = aB bs ∧ bs.length < 9223372036854775808 := by
  obtain ⟨xs, e, h1, _⟩ := fit_sl (f := fun n => [A.int .u8 n]) (fun r hr => fit_u hr) (show Fit (.sl (.i .u8)) [x] from h)
  refine ⟨xs, ?_, h1⟩
  simp only [List.cons.injEq, and_true] at e
  rw [e]
  simp only [aB, bytes]
  rw [List.map_eq_flatMap]
end Go.Proofs.YtoegiepfcdkjaaaDoor.C

set_option linter.unusedVariables false
set_option linter.unusedSimpArgs false
set_option maxRecDepth 40000
namespace Go.Proofs.YtoegiepfcdkjaaaDoor.C
open Go.Sym Go.Proofs.YtoegiepfcdkjaaaDoor.I
def bothF (bs : List Int) : List Nd × Int := ((anyF bs ⟨0, newH bs⟩).1, (termF bs (anyF bs ⟨0, newH bs⟩).2 (anyF bs ⟨0, newH bs⟩).1.length).1)
theorem bothF_len (bs : List Int) : (bothF bs).1.length ≤ 501 := anyF_len _ _
theorem spec_l1DrawBoth_c (bs : List Int) (hb : bs.length < 9223372036854775807) : T 67 [aB bs] [] (.tup [aP (bothF bs).1, i6 (bothF bs).2]) ([]) := by
  refine semT' (S := (fun f => [79, 50, 48, 94, 76, 75, 74, 46, 90].contains f)) hm spec_l1DrawBoth_ok (Nat.le_of_ble_eq_true rfl) ?_
  unfold spec_l1DrawBoth; dsimp only
  simp
  refine spec_l1New_k (bs := bs) hb rfl (by simp) (by simp [noslBlks]) ?_; simp [shiftB]
  have hal := anyF_len bs ⟨0, newH bs⟩
  unfold bothF
  refine cur_callR rfl 1 bs ⟨0, newH bs⟩ _ rfl (spec_l1DrawAny_m _ 1 bs _ (by simp) hb (by simp)) ?_; simp [cur]
  generalize anyF bs ⟨0, newH bs⟩ = a at hal ⊢
  refine cur_callR rfl 1 bs _ _ rfl (spec_l1DrawTerm_m _ 1 bs _ a.1 (by simp) hb (by simp) (by omega)) ?_; try simp [cur]
  repeat (refine ck_intro' (by first | omega | (simp; omega) | kernel_rfl) ?_; try simp)
  exact LeV.ro rfl rfl (by simp)
def dsGo (bs : List Int) : Nat → Nat → List Nd → Int → Cu → List Nd
  | 0, _, ns, _, _ => ns
  | n + 1, i, ns, t, s => if (i : Int) < 10 + (belowF bs s 3).1 ∧ 0 ≤ t then dsGo bs n (i + 1) (addF ns ⟨2, t, t⟩).1 (addF ns ⟨2, t, t⟩).2 (belowF bs s 3).2 else ns
def dszF (bs : List Int) : List Nd × Int :=
  if (onceF bs ⟨0, newH bs⟩ 9).1 = true ∧ poolF (bothF bs).1 = true then
    (dsGo bs 20 0 (addF (bothF bs).1 ⟨1, 7, 0⟩).1 (addF (bothF bs).1 ⟨1, 7, 0⟩).2 (onceF bs ⟨0, newH bs⟩ 9).2, ((dsGo bs 20 0 (addF (bothF bs).1 ⟨1, 7, 0⟩).1 (addF (bothF bs).1 ⟨1, 7, 0⟩).2 (onceF bs ⟨0, newH bs⟩ 9).2).length : Int) - 1)
  else bothF bs
theorem spec_DrawTermSize_c (bs : List Int) (hb : bs.length < 9223372036854775807) : T 37 [aB bs] [] (.tup [aP (dszF bs).1, i6 (dszF bs).2]) ([]) := by
  refine semT' (S := (fun f => [79, 50, 48, 67].contains f)) hm spec_DrawTermSize_ok (Nat.le_of_ble_eq_true rfl) ?_
  unfold spec_DrawTermSize; dsimp only
  simp
  refine WCall_t' rfl [] (SemT.lift (spec_l1DrawBoth_c bs hb) (by simp) (by simp) _) (by simp) (by simp) ?_; simp
  have hbl := bothF_len bs
  unfold dszF
  generalize bothF bs = p at hbl ⊢
  refine spec_l1New_k (bs := bs) hb rfl (by simp) (by simp [noslBlks]) ?_; simp [shiftB]
  refine cur_callR rfl 2 bs ⟨0, newH bs⟩ _ rfl (spec_l1Once_m _ 2 bs _ 9 (by simp) hb) ?_; simp [cur]
  generalize onceF bs ⟨0, newH bs⟩ 9 = o
  rcases Bool.eq_false_or_eq_true o.1 with ho | ho
  case inr =>
    simp [ho]
    exact LeV.ro rfl rfl (by simp)
  simp [ho]
  refine spec_PoolOk_call (ns := p.1) rfl ?_; simp
  rcases Bool.eq_false_or_eq_true (poolF p.1) with hp | hp
  case inr =>
    simp [hp]
    exact LeV.ro rfl rfl (by simp)
  simp [hp]
  refine WCall_pure rfl (spec_l1Add_c p.1 ⟨1, 7, 0⟩ hp) (by simp) (by simp) (by simp) ?_; simp
  have hp1 := addF_pool ⟨1, 7, 0⟩ hp
  generalize addF p.1 ⟨1, 7, 0⟩ = a at hp1 ⊢
  have key : ∀ (l : List Nd), poolF l = true → l.length < 9223372036854775807 := fun l h => by have := poolF_len h; omega
  generalize hR : dsGo bs 20 0 a.1 a.2 o.2 = R
  refine WLoop_fam (fun q : Nat × List Nd × Int × Cu => [(2, A.ptr 0 0 0), (4, A.ptr 1 0 0), (6, A.ptr 2 0 0), (7, i6 q.2.2.1), (8, i6 q.1)])
    (fun q => [⟨0, false, 1, [.nil], none⟩, ⟨0, false, 1, [.sl q.2.1.length (enc q.2.1)], none⟩, ⟨0, false, 1, [aB bs, i6 q.2.2.2.i, i6 q.2.2.2.h], none⟩]) (fun q => 20 - q.1)
    (fun q => q.1 ≤ 13 ∧ poolF q.2.1 = true ∧ dsGo bs (20 - q.1) q.1 q.2.1 q.2.2.1 q.2.2.2 = R) ?_ (0, a.1, a.2, o.2) ⟨Nat.zero_le _, hp1, hR⟩
  rintro ⟨i, l, at_, s⟩ ⟨hi, hpl, hgo⟩ ih
  simp only at hi hpl hgo
  obtain ⟨m, em⟩ : ∃ m, 20 - i = m + 1 := ⟨19 - i, by omega⟩
  rw [em] at hgo
  simp only [dsGo] at hgo
  have hbi := belowF_in bs s 3
  have hll := key l hpl
  simp
  refine cur_callR rfl 2 bs s _ rfl (spec_l1Below_m _ 2 bs s 3 (by simp) hb) ?_; simp [cur]
  generalize belowF bs s 3 = b at hbi hgo ⊢
  have wb : IntKind.i64.wrap (10 + b.1) = 10 + b.1 := wrap64 (by omega) (by omega)
  rw [wb]
  by_cases c1 : (i : Int) < 10 + b.1
  · have d1 : decide ((i : Int) < 10 + b.1) = true := decide_eq_true c1
    simp [d1]
    by_cases c2 : 0 ≤ at_
    · simp [c2]
      rw [if_pos ⟨c1, c2⟩] at hgo
      refine WCall_pure rfl (spec_l1Add_c l ⟨2, at_, at_⟩ hpl) (by simp) (by simp) (by simp) ?_; simp
      have hp2 := addF_pool ⟨2, at_, at_⟩ hpl
      generalize addF l ⟨2, at_, at_⟩ = z at hp2 hgo ⊢
      rw [wrap_succ (n := i) (by omega)]
      exact ih (i + 1, z.1, z.2, b.2) ⟨by simp only; omega, hp2, by simp only; rw [show 20 - (i + 1) = m by omega]; exact hgo⟩ (by simp only; omega)
    · simp [c2]
      rw [if_neg (fun h => c2 h.2)] at hgo
      subst hgo
      repeat (refine ck_intro' (by first | omega | (simp; omega) | kernel_rfl) ?_; try simp [wrap_len hll])
      rw [if_pos ⟨ho, hp⟩]
      exact LeV.ro rfl rfl (by simp)
  · have d1 : decide ((i : Int) < 10 + b.1) = false := decide_eq_false c1
    simp [d1]
    rw [if_neg (fun h => c1 h.1)] at hgo
    subst hgo
    repeat (refine ck_intro' (by first | omega | (simp; omega) | kernel_rfl) ?_; try simp [wrap_len hll])
    rw [if_pos ⟨ho, hp⟩]
    exact LeV.ro rfl rfl (by simp)
theorem spec_DrawTermPrint_c (bs : List Int) (hb : bs.length < 9223372036854775807) : T 14 [aB bs] [] (.tup [aP (dszF bs).1, i6 (dszF bs).2]) ([]) := by
  refine semT' (S := (fun f => [37].contains f)) hm spec_DrawTermPrint_ok (Nat.le_of_ble_eq_true rfl) ?_
  unfold spec_DrawTermPrint; dsimp only
  simp
  refine WCall_t' rfl [] (SemT.lift (spec_DrawTermSize_c bs hb) (by simp) (by simp) _) (by simp) (by simp) ?_; simp
  exact LeV.ro rfl rfl (by simp)
theorem dsGo_len (bs : List Int) : ∀ (n i : Nat) (ns : List Nd) (t : Int) (s : Cu), poolF ns = true → (dsGo bs n i ns t s).length ≤ 500
  | 0, i, ns, t, s, h => poolF_len h
  | n + 1, i, ns, t, s, h => by
    unfold dsGo
    split
    · exact dsGo_len bs n _ _ _ _ (addF_pool _ h)
    · exact poolF_len h
theorem dszF_len (bs : List Int) : (dszF bs).1.length ≤ 501 := by
  unfold dszF
  split
  · rename_i h
    have := dsGo_len bs 20 0 _ (addF (bothF bs).1 ⟨1, 7, 0⟩).2 (onceF bs ⟨0, newH bs⟩ 9).2 (addF_pool ⟨1, 7, 0⟩ h.2)
    simp only
    omega
  · exact bothF_len bs
end Go.Proofs.YtoegiepfcdkjaaaDoor.C
