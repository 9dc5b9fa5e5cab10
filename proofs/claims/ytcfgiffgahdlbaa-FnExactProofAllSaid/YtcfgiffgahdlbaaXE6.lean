/- Trimming a proof. Conditions: those that each theorem names. -/
import Derived.Test.YtcfgiffgahdlbaaXE5
set_option linter.unusedVariables false
set_option linter.unusedSimpArgs false
set_option maxRecDepth 4000
namespace Go.Proofs.Ytcfgiffgahdlbaa.C
open Go.Sym Go.Proofs.Ytcfgiffgahdlbaa.I
def bls (kb : List Bool) : List A := kb.map A.bool
@[simp] theorem bls_len (xs : List Bool) : (bls xs).length = xs.length := List.length_map ..
@[simp] theorem bls_scals (xs : List Bool) : scals (bls xs) = true := scals_map _ (fun _ => rfl) xs
@[simp] theorem bls_view (n : Nat) (H : List Blk) (xs : List Bool) : viewL (viewA (n + 1) H) (bls xs) = some (bls xs) := viewL_scals _ (bls_scals xs)
@[simp] theorem bls_noOwns (xs : List Bool) : noOwns (bls xs) = true := noOwns_scals _ (bls_scals xs)
@[simp] theorem bls_nosls (xs : List Bool) : nosls (bls xs) = true := nosls_scals _ (bls_scals xs)
@[simp] theorem bls_shift (n : Nat) (xs : List Bool) : shiftAs n (bls xs) = bls xs := shiftAs_scals _ (bls_scals xs)
@[simp] theorem bls_inAs (m : Nat) (xs : List Bool) : inAs m (bls xs) = true := inAs_scals _ (bls_scals xs)
@[simp] theorem bls_tells (H H' : List Blk) (g : List (Option Nat)) (xs : List Bool) : Tells H H' g (bls xs) (bls xs) := Tells_scals _ (bls_scals xs)
@[simp] theorem bls_one (xs : List Bool) : (bls xs).all A.one = true := one_scals _ (bls_scals xs)
@[simp] theorem bls_get (xs : List Bool) (j : Nat) (h : j < (bls xs).length) : (bls xs)[j] = .bool (xs[j]'(by simpa using h)) := by simp [bls]
theorem bls_set (xs : List Bool) (j : Nat) (b : Bool) : (bls xs).set j (.bool b) = bls (xs.set j b) := by simp [bls, List.map_set]
theorem bls_rep (n : Nat) : bls (List.replicate n false) = List.replicate n (.bool false) := by simp [bls]
theorem ints_set' (xs : List Int) (j : Nat) (n : Int) : (ints xs).set j (i6 n) = ints (xs.set j n) := by simp [ints, List.map_set]
theorem ints_rep' (n : Nat) : ints (List.replicate n 0) = List.replicate n (i6 0) := by simp [ints]
abbrev tblk (ss : List Sp) : Blk := ⟨ss.length, decide (ss.length = 0), 4, encS ss, none⟩
abbrev tref' (b : Nat) (ss : List Sp) : A := .ref b ss.length 0 ss.length
/-- What a step asks of those ahead of it. -/
def wellF (ns : List Nd) (ss : List Sp) (i : Nat) : Bool :=
  hasF ns.length (spAt ss i).t && decide (0 ≤ needsF ns (spAt ss i)) && (decide (needsF ns (spAt ss i) < 1) || inF (spAt ss i).a 0 ((i : Int) - 1)) && (decide (needsF ns (spAt ss i) < 2) || inF (spAt ss i).b 0 ((i : Int) - 1))
def keepStep (ns : List Nd) (ss : List Sp) (kb : List Bool) (i : Nat) : List Bool :=
  if kb.getD i false = true then
    if 0 < needsF ns (spAt ss i) then
      if 1 < needsF ns (spAt ss i) then (kb.set (spAt ss i).a.toNat true).set (spAt ss i).b.toNat true else kb.set (spAt ss i).a.toNat true
    else kb
  else kb
def keepGo (ns : List Nd) (ss : List Sp) : Nat → List Bool → List Bool
  | 0, kb => kb
  | n + 1, kb => keepGo ns ss n (keepStep ns ss kb n)
def keepV (ns : List Nd) (ss : List Sp) : List Bool := keepGo ns ss ss.length ((List.replicate ss.length false).set (ss.length - 1) true)
theorem keepStep_len (ns : List Nd) (ss : List Sp) (kb : List Bool) (i : Nat) : (keepStep ns ss kb i).length = kb.length := by
  unfold keepStep
  split
  · split
    · split <;> simp
    · rfl
  · rfl
/-- A step, its places told anew. -/
def moveF (ns : List Nd) (now : List Int) (s : Sp) : Sp := ⟨s.r, s.t, if 0 < needsF ns s then now.getD s.a.toNat 0 else s.a, if 1 < needsF ns s then now.getD s.b.toNat 0 else s.b⟩
def trimGo (ns : List Nd) (ss : List Sp) (kb : List Bool) : Nat → Nat → List Int → List Sp → List Sp
  | 0, _, _, out => out
  | n + 1, j, now, out => if kb.getD j false = true then trimGo ns ss kb n (j + 1) (now.set j out.length) (out ++ [moveF ns now (spAt ss j)]) else trimGo ns ss kb n (j + 1) now out
def trimV (ns : List Nd) (ss : List Sp) : List Sp := trimGo ns ss (keepV ns ss) ss.length 0 (List.replicate ss.length 0) []
/-- What ProofTrim answers. -/
def trimF (ns : List Nd) (ss : List Sp) : List Sp := if ss ≠ [] ∧ ss.length ≤ 500 ∧ poolF ns = true ∧ allF (wellF ns ss) ss.length 0 = true then trimV ns ss else []
theorem allF_all {p : Nat → Bool} {n : Nat} (h : allF p n 0 = true) {i : Nat} (hi : i < n) : p i = true := by
  simp only [allF, List.all_eq_true] at h
  exact h i (by simp [List.mem_range']; omega)
theorem well_at {ns : List Nd} {ss : List Sp} {i : Nat} (h : wellF ns ss i = true) (hi : i < ss.length) : hasF ns.length ss[i].t = true ∧ (needsF ns ss[i] = 0 ∨ (needsF ns ss[i] = 1 ∧ ∃ a : Nat, ss[i].a = a ∧ a < i) ∨ (needsF ns ss[i] = 2 ∧ (∃ a : Nat, ss[i].a = a ∧ a < i) ∧ ∃ b : Nat, ss[i].b = b ∧ b < i) ∨ 2 < needsF ns ss[i]) := by
  simp only [wellF, spAt_lt hi, Bool.and_eq_true, Bool.or_eq_true, decide_eq_true_eq] at h
  obtain ⟨⟨⟨h1, h2⟩, h3⟩, h4⟩ := h
  refine ⟨h1, ?_⟩
  rcases Int.lt_or_le (needsF ns ss[i]) 1 with g | g
  · left; omega
  · right
    have ha := h3.resolve_left (by omega)
    simp [inF] at ha
    have e1 : ∃ a : Nat, ss[i].a = a ∧ a < i := ⟨ss[i].a.toNat, by omega, by omega⟩
    rcases Int.lt_or_le (needsF ns ss[i]) 2 with f | f
    · left; exact ⟨by omega, e1⟩
    · right
      rcases Int.lt_or_le 2 (needsF ns ss[i]) with u | u
      · right; exact u
      · left
        have hb := h4.resolve_left (by omega)
        simp [inF] at hb
        exact ⟨by omega, e1, ss[i].b.toNat, by omega, by omega⟩
theorem impl_Pool_trimmed_c (ns : List Nd) (ss : List Sp) (hl : ns.length < 9223372036854775807) (hp : poolF ns = true) (hne : ss ≠ []) (h5 : ss.length ≤ 500) (hwl : ∀ i : Nat, i < ss.length → wellF ns ss i = true) : T 45 [.pt [.sl ns.length (enc ns)], aSs ss] [] (tref' 0 (trimV ns ss)) ([tblk (trimV ns ss)]) := by
  refine semT' (S := S0) hm impl_Pool_trimmed_ok (Nat.le_of_ble_eq_true rfl) ?_
  unfold impl_Pool_trimmed; dsimp only
  have h0 : 0 < ss.length := List.length_pos_iff.2 hne
  have hw := wrap_len (n := ss.length) (by omega)
  obtain ⟨m, hm⟩ : ∃ m : Nat, (ss.length : Int) - 1 = m := ⟨ss.length - 1, by omega⟩
  have hml : m < ss.length := by omega
  have hm2 : ss.length - 1 = m := by omega
  have hB : ((ss.length : Int)) * 8 ≤ 17592186044416 := by omega
  have h2 : (ss.length : Int) ≤ 4294967296 := by omega
  simp [hw]
  refine ck_intro' (by omega) ?_; simp [hw]
  refine ck_intro' (by omega) ?_; simp [hw]
  refine ck_intro' (by omega) ?_; simp [hw]
  rw [← bls_rep, bls_set]
  have hkv : keepV ns ss = keepGo ns ss ss.length ((List.replicate ss.length false).set (ss.length - 1) true) := rfl
  refine WLoop_fam (fun p : Nat × List Bool => [(0, A.pt [.sl ns.length (enc ns)]), (1, aSs ss), (5, A.ref 0 0 0 ss.length), (6, i6 ((p.1 : Int) - 1))]) (fun p => [⟨0, false, 1, bls p.2, none⟩]) (fun p => p.1)
    (fun p => p.1 ≤ ss.length ∧ p.2.length = ss.length ∧ keepV ns ss = keepGo ns ss p.1 p.2) ?_ (ss.length, (List.replicate ss.length false).set (ss.length - 1) true) ⟨Nat.le_refl _, by simp, hkv⟩
  rintro ⟨k, kb⟩ ⟨hk, hkl, hkg⟩ ih
  simp only at hk hkl hkg
  simp
  refine br_intro' (fun h => ?_) (fun h => ?_) <;> (have hc0 := h) <;> simp at h <;> simp [hc0, h]
  · obtain ⟨i, rfl⟩ : ∃ i, k = i + 1 := ⟨k - 1, by omega⟩
    have e1 : ((i + 1 : Nat) : Int) - 1 = i := by omega
    have hil : i < ss.length := by omega
    have hik : i < kb.length := by omega
    have hw2 : IntKind.i64.wrap ((i : Int) - 1) = i - 1 := wrap64 (by omega) (by omega)
    obtain ⟨q, hr⟩ := encS_at hil
    have h4 : 4 ≤ ss.length * 4 - i * 4 := by omega
    have hst : keepGo ns ss (i + 1) kb = keepGo ns ss i (keepStep ns ss kb i) := rfl
    have hks : keepStep ns ss kb i = if kb[i] = true then
      if 0 < needsF ns ss[i] then
        if 1 < needsF ns ss[i] then (kb.set ss[i].a.toNat true).set ss[i].b.toNat true else kb.set ss[i].a.toNat true
      else kb
      else kb := by simp only [keepStep, spAt_lt hil]; simp [hik]
    obtain ⟨ht, hn⟩ := well_at (hwl i hil) hil
    simp [e1, hil, hik, hkl]
    refine br_intro' (fun g => ?_) (fun g => ?_) <;> simp [g]
    · refine ck_intro' hil ?_; simp [h4, hr]
      refine WCall_pure rfl (impl_Pool_needs_c ns [] ss[i] hl hp ht (by simp) (by simp)) (by simp) (by simp) (by simp) ?_; simp
      rcases hn with hn | ⟨hn, a, ea, hla⟩ | ⟨hn, ⟨a, ea, hla⟩, b, eb, hlb⟩ | hn
      · simp [hn, hw2]
        exact ih (i, kb) ⟨by omega, hkl, by rw [hkg, hst, hks]; simp [g, hn]⟩ (by simp)
      · have hal : a < kb.length := by omega
        simp [hn, ea, h4, hr, hil, hw2]
        repeat (refine ck_intro' (by first | omega | (simp; omega) | kernel_rfl) ?_; try simp [hn, ea, h4, hr, hil, hw2, bls_set])
        exact ih (i, kb.set a true) ⟨by omega, by simp [hkl], by rw [hkg, hst, hks]; simp [g, hn, ea]⟩ (by simp)
      · have hal : a < kb.length := by omega
        have hbl : b < kb.length := by omega
        simp [hn, ea, eb, h4, hr, hil, hw2]
        repeat (refine ck_intro' (by first | omega | (simp; omega) | kernel_rfl) ?_; try simp [hn, ea, eb, h4, hr, hil, hw2, bls_set])
        exact ih (i, (kb.set a true).set b true) ⟨by omega, by simp [hkl], by rw [hkg, hst, hks]; simp [g, hn, ea, eb]⟩ (by simp)
      · rcases needsF_in hp ht with z | z | z | z <;> omega
    · simp [hw2]
      exact ih (i, kb) ⟨by omega, hkl, by rw [hkg, hst, hks]; simp [g]⟩ (by simp)
  · have hk0 : k = 0 := by omega
    subst hk0
    have hkv2 : keepV ns ss = kb := hkg
    refine ck_intro' (by omega) ?_; simp
    rw [← ints_rep']
    refine WLoop_virt 4 [(0, A.pt [.sl ns.length (enc ns)]), (5, A.ref 0 0 0 ss.length), (8, A.ref 2 0 0 0), (9, A.ref 1 0 0 ss.length), (60, aSs ss), (61, i6 ss.length), (62, i6 0)] ?_ ?_
    · intro t y hy
      simp [Sym.get] at hy ⊢
      (repeat' split at hy) <;> simp_all
    refine WLoop_fam (fun p : Nat × List Int × List Sp => [(0, A.pt [.sl ns.length (enc ns)]), (5, A.ref 0 0 0 ss.length), (8, tref' 2 p.2.2), (9, A.ref 1 0 0 ss.length), (60, aSs ss), (61, i6 ss.length), (62, i6 p.1)]) (fun p => [⟨0, false, 1, bls kb, none⟩, ⟨0, false, 1, ints p.2.1, none⟩, tblk p.2.2]) (fun p => ss.length - p.1)
      (fun p => p.1 ≤ ss.length ∧ p.2.1.length = ss.length ∧ p.2.2.length ≤ p.1 ∧ trimV ns ss = trimGo ns ss kb (ss.length - p.1) p.1 p.2.1 p.2.2) ?_ (0, List.replicate ss.length 0, []) ⟨Nat.zero_le _, by simp, by simp, by simp [trimV, hkv2]⟩
    rintro ⟨j, now, out⟩ ⟨hj, hnl, hol, htg⟩ ih2
    simp only at hj hnl hol htg
    simp
    refine br_intro' (fun u => ?_) (fun u => ?_) <;> (have u0 := u) <;> simp at u <;> simp [u0, u]
    · obtain ⟨q, hr⟩ := encS_at u
      have h4 : 4 ≤ ss.length * 4 - j * 4 := by omega
      have hjk : j < kb.length := by omega
      have hw3 := wrap_succ (n := j) (by omega)
      obtain ⟨ht, hn⟩ := well_at (hwl j u) u
      have hst : trimGo ns ss kb (ss.length - j) j now out = if kb[j] = true then trimGo ns ss kb (ss.length - (j + 1)) (j + 1) (now.set j out.length) (out ++ [moveF ns now ss[j]]) else trimGo ns ss kb (ss.length - (j + 1)) (j + 1) now out := by
        rw [show ss.length - j = (ss.length - (j + 1)) + 1 by omega, trimGo, spAt_lt u]
        simp [hjk]
      simp [h4, hr, hjk, u]
      refine br_intro' (fun g => ?_) (fun g => ?_) <;> simp [g]
      · refine WCall_pure rfl (impl_Pool_needs_c ns [] ss[j] hl hp ht (by simp) (by simp)) (by simp) (by simp) (by simp) ?_; simp
        have hlo : out.length < 500 := by omega
        rcases hn with hn | ⟨hn, a, ea, hla⟩ | ⟨hn, ⟨a, ea, hla⟩, b, eb, hlb⟩ | hn
        · have hmv : moveF ns now ss[j] = ss[j] := by simp [moveF, hn]
          simp [hn, hnl, u, ints_set']
          repeat (refine ck_intro' (by first | omega | (simp; omega) | kernel_rfl) ?_; try simp [hn, hnl, u, ints_set', hw3])
          refine WLoop_drop [⟨0, false, 1, bls kb, none⟩, ⟨0, false, 1, ints (now.set j out.length), none⟩, tblk (out ++ [ss[j]])] [_, _] (by simp [encS_snoc]; exact ⟨rfl, rfl⟩) (by simp) (by simp) (by simp) ?_
          rw [show A.ref 2 (out.length + 1) 0 (out.length + 1) = tref' 2 (out ++ [ss[j]]) by simp]
          exact ih2 (j + 1, now.set j out.length, out ++ [ss[j]]) ⟨u, by simp [hnl], by simp; omega, by rw [htg, hst]; simp [g, hmv]⟩ (by simp; omega)
        · have hal : a < now.length := by omega
          have hmv : moveF ns now ss[j] = ⟨ss[j].r, ss[j].t, now[a], ss[j].b⟩ := by simp [moveF, hn, ea, hal]
          simp [hn, ea, hal, ints_at hal, hnl, u, ints_set']
          repeat (refine ck_intro' (by first | omega | (simp; omega) | kernel_rfl) ?_; try simp [hn, ea, hal, ints_at hal, hnl, u, ints_set', hw3])
          refine WLoop_drop [⟨0, false, 1, bls kb, none⟩, ⟨0, false, 1, ints (now.set j out.length), none⟩, tblk (out ++ [⟨ss[j].r, ss[j].t, now[a], ss[j].b⟩])] [_, _] (by simp [encS_snoc]; exact ⟨rfl, rfl⟩) (by simp) (by simp) (by simp) ?_
          rw [show A.ref 2 (out.length + 1) 0 (out.length + 1) = tref' 2 (out ++ [⟨ss[j].r, ss[j].t, now[a], ss[j].b⟩]) by simp]
          exact ih2 (j + 1, now.set j out.length, out ++ [⟨ss[j].r, ss[j].t, now[a], ss[j].b⟩]) ⟨u, by simp [hnl], by simp; omega, by rw [htg, hst]; simp [g, hmv]⟩ (by simp; omega)
        · have hal : a < now.length := by omega
          have hbl : b < now.length := by omega
          have hmv : moveF ns now ss[j] = ⟨ss[j].r, ss[j].t, now[a], now[b]⟩ := by simp [moveF, hn, ea, eb, hal, hbl]
          simp [hn, ea, eb, hal, hbl, ints_at hal, ints_at hbl, hnl, u, ints_set']
          repeat (refine ck_intro' (by first | omega | (simp; omega) | kernel_rfl) ?_; try simp [hn, ea, eb, hal, hbl, ints_at hal, ints_at hbl, hnl, u, ints_set', hw3])
          refine WLoop_drop [⟨0, false, 1, bls kb, none⟩, ⟨0, false, 1, ints (now.set j out.length), none⟩, tblk (out ++ [⟨ss[j].r, ss[j].t, now[a], now[b]⟩])] [_, _] (by simp [encS_snoc]; exact ⟨rfl, rfl⟩) (by simp) (by simp) (by simp) ?_
          rw [show A.ref 2 (out.length + 1) 0 (out.length + 1) = tref' 2 (out ++ [⟨ss[j].r, ss[j].t, now[a], now[b]⟩]) by simp]
          exact ih2 (j + 1, now.set j out.length, out ++ [⟨ss[j].r, ss[j].t, now[a], now[b]⟩]) ⟨u, by simp [hnl], by simp; omega, by rw [htg, hst]; simp [g, hmv]⟩ (by simp; omega)
        · rcases needsF_in hp ht with z | z | z | z <;> omega
      · rw [hw3]
        refine WLoop_drop [⟨0, false, 1, bls kb, none⟩, ⟨0, false, 1, ints now, none⟩, tblk out] [_] rfl (by simp) (by simp) (by simp) ?_
        exact ih2 (j + 1, now, out) ⟨u, hnl, by simp; omega, by rw [htg, hst]; simp [g]⟩ (by simp; omega)
    · have hjn : j = ss.length := by omega
      have e : trimV ns ss = out := by rw [htg, hjn, Nat.sub_self]; rfl
      rw [e]
      first | (refine LeV.tell [none] ?_ ?_ ?_ <;> (simp; done)) | (refine LeV.tell [some 0] ?_ ?_ ?_ <;> (simp; done)) | (refine LeV.tell [some 1] ?_ ?_ ?_ <;> (simp; done)) | (refine LeV.tell [some 2] ?_ ?_ ?_ <;> (simp; done)) | (refine LeV.tell [some 3] ?_ ?_ ?_ <;> (simp; done)) | (refine LeV.tell [some 4] ?_ ?_ ?_ <;> (simp; done)) | (refine LeV.tell [some 5] ?_ ?_ ?_ <;> (simp; done)) | (refine LeV.tell [some 6] ?_ ?_ ?_ <;> (simp; done)) | (refine LeV.tell [some 7] ?_ ?_ ?_ <;> (simp; done)) | (refine LeV.tell [some 8] ?_ ?_ ?_ <;> (simp; done)) | (refine LeV.tell [some 9] ?_ ?_ ?_ <;> (simp; done)) | (refine LeV.tell [some 10] ?_ ?_ ?_ <;> (simp; done)) | (refine LeV.tell [some 11] ?_ ?_ ?_ <;> (simp; done)) | (refine LeV.tell [some 12] ?_ ?_ ?_ <;> (simp; done)) | (refine LeV.tell [some 13] ?_ ?_ ?_ <;> (simp; done)) | (refine LeV.tell [some 14] ?_ ?_ ?_ <;> (simp; done)) | (refine LeV.tell [some 15] ?_ ?_ ?_ <;> (simp; done))
theorem impl_Pool_trimmed_k {ns : List Nd} {ss : List Sp} (hl : ns.length < 9223372036854775807) (hp : poolF ns = true) (hne : ss ≠ []) (h5 : ss.length ≤ 500) (hwl : ∀ i : Nat, i < ss.length → wellF ns ss i = true) {S : FuncId → Bool} {H : List Blk} {K : A → Dl → Prop} {zs : List A} (hS : S 45 = false) (hv : viewL (viewA 8 H) zs = some [.pt [.sl ns.length (enc ns)], aSs ss]) (ho : noOwns zs = true ∨ nosl (tref' 0 (trimV ns ss)) = true ∧ noslBlks ([tblk (trimV ns ss)]) = true) (hK : K (shiftA H.length (tref' 0 (trimV ns ss))) (.news (([tblk (trimV ns ss)]).map (shiftB H.length)))) : @WCall' Go.Proofs.Try.prog S 45 zs H ⟨K⟩ :=
  WCall_ro' hS hv (impl_Pool_trimmed_c ns ss hl hp hne h5 hwl) rfl ho hK
end Go.Proofs.Ytcfgiffgahdlbaa.C
