/- What copying and making a stream answer. Conditions: those that each theorem names. -/
import Derived.Test.YtnbodfakblbmbaaXC8
set_option linter.unusedVariables false
set_option linter.unusedSimpArgs false
namespace Go.Proofs.Ytnbodfakblbmbaa.C
open Go.Sym Go.Proofs.Ytnbodfakblbmbaa.I
abbrev jblk (xs : List Int) : Blk := ⟨xs.length, decide (xs.length = 0), 1, ints xs, none⟩
abbrev jref (b : Nat) (xs : List Int) : A := .ref b xs.length 0 xs.length
@[simp] theorem ints_take' (xs : List Int) : (ints xs).take xs.length = ints xs := List.take_of_length_le (by simp)
@[simp] theorem ints_tells' (H H' : List Blk) (g : List (Option Nat)) (xs : List Int) : Tells H H' g (ints xs) (ints xs) := Tells_scals _ (ints_scals xs)
@[simp] theorem ints_one (xs : List Int) : (ints xs).all A.one = true := one_scals _ (ints_scals xs)
@[simp] theorem ints_inAs (m : Nat) (xs : List Int) : inAs m (ints xs) = true := inAs_scals _ (ints_scals xs)
@[simp] theorem ints_nil : ints [] = [] := rfl
theorem slices_Clone_int_c (xs : List Int) (hl : xs.length ≤ 4294967296) : T 122 [aI xs] [] (jref 0 xs) ([jblk xs]) := by
  refine semT' (S := S0) hm slices_Clone_int_ok (Nat.le_of_ble_eq_true rfl) ?_
  unfold slices_Clone_int; dsimp only
  simp
  have h1 : ((xs.length : Int)) * 8 ≤ 17592186044416 := by omega
  have h2 : (xs.length : Int) ≤ 4294967296 := by omega
  refine br_intro' (fun h => ?_) (fun h => ?_)
  · have h0 : xs = [] := by simpa using h
    subst h0
    simp
    first | (refine LeV.tell [none] ?_ ?_ ?_ <;> (simp; done)) | (refine LeV.tell [some 0] ?_ ?_ ?_ <;> (simp; done)) | (refine LeV.tell [some 1] ?_ ?_ ?_ <;> (simp; done)) | (refine LeV.tell [some 2] ?_ ?_ ?_ <;> (simp; done)) | (refine LeV.tell [some 3] ?_ ?_ ?_ <;> (simp; done)) | (refine LeV.tell [some 4] ?_ ?_ ?_ <;> (simp; done)) | (refine LeV.tell [some 5] ?_ ?_ ?_ <;> (simp; done)) | (refine LeV.tell [some 6] ?_ ?_ ?_ <;> (simp; done)) | (refine LeV.tell [some 7] ?_ ?_ ?_ <;> (simp; done)) | (refine LeV.tell [some 8] ?_ ?_ ?_ <;> (simp; done)) | (refine LeV.tell [some 9] ?_ ?_ ?_ <;> (simp; done)) | (refine LeV.tell [some 10] ?_ ?_ ?_ <;> (simp; done)) | (refine LeV.tell [some 11] ?_ ?_ ?_ <;> (simp; done)) | (refine LeV.tell [some 12] ?_ ?_ ?_ <;> (simp; done)) | (refine LeV.tell [some 13] ?_ ?_ ?_ <;> (simp; done)) | (refine LeV.tell [some 14] ?_ ?_ ?_ <;> (simp; done)) | (refine LeV.tell [some 15] ?_ ?_ ?_ <;> (simp; done))
  · have h0 : xs ≠ [] := by simpa using h
    simp [h0]
    refine ck_intro' (by omega) ?_; simp [h0]
    first | (refine LeV.tell [none] ?_ ?_ ?_ <;> (simp [h0]; done)) | (refine LeV.tell [some 0] ?_ ?_ ?_ <;> (simp [h0]; done)) | (refine LeV.tell [some 1] ?_ ?_ ?_ <;> (simp [h0]; done)) | (refine LeV.tell [some 2] ?_ ?_ ?_ <;> (simp [h0]; done)) | (refine LeV.tell [some 3] ?_ ?_ ?_ <;> (simp [h0]; done)) | (refine LeV.tell [some 4] ?_ ?_ ?_ <;> (simp [h0]; done)) | (refine LeV.tell [some 5] ?_ ?_ ?_ <;> (simp [h0]; done)) | (refine LeV.tell [some 6] ?_ ?_ ?_ <;> (simp [h0]; done)) | (refine LeV.tell [some 7] ?_ ?_ ?_ <;> (simp [h0]; done)) | (refine LeV.tell [some 8] ?_ ?_ ?_ <;> (simp [h0]; done)) | (refine LeV.tell [some 9] ?_ ?_ ?_ <;> (simp [h0]; done)) | (refine LeV.tell [some 10] ?_ ?_ ?_ <;> (simp [h0]; done)) | (refine LeV.tell [some 11] ?_ ?_ ?_ <;> (simp [h0]; done)) | (refine LeV.tell [some 12] ?_ ?_ ?_ <;> (simp [h0]; done)) | (refine LeV.tell [some 13] ?_ ?_ ?_ <;> (simp [h0]; done)) | (refine LeV.tell [some 14] ?_ ?_ ?_ <;> (simp [h0]; done)) | (refine LeV.tell [some 15] ?_ ?_ ?_ <;> (simp [h0]; done))
theorem slices_Clone_int_k {xs : List Int} (hl : xs.length ≤ 4294967296) {S : FuncId → Bool} {H : List Blk} {K : A → Dl → Prop} {zs : List A} (hS : S 122 = false) (hv : viewL (viewA 8 H) zs = some [aI xs]) (ho : noOwns zs = true ∨ nosl (jref 0 xs) = true ∧ noslBlks ([jblk xs]) = true) (hK : K (shiftA H.length (jref 0 xs)) (.news (([jblk xs]).map (shiftB H.length)))) : @WCall' Go.Proofs.Try.prog S 122 zs H ⟨K⟩ :=
  WCall_ro' hS hv (slices_Clone_int_c xs hl) rfl ho hK
structure St.mid (s : St) : Prop where
  p : s.pool.length ≤ 4294967296
  k : s.know.length ≤ 4294967296
  t : s.sent.length ≤ 4294967296
  g : s.got.length ≤ 4294967296
abbrev cT (s : St) : List A := [pref 0 s.pool, jref 1 s.know, i6 s.out.key, i6 s.out.epoch, i6 s.out.seq, .bool s.out.over, i6 s.inn.key, i6 s.inn.epoch, i6 s.inn.seq, .bool s.inn.over, jref 2 s.sent, jref 3 s.got]
abbrev aT (s : St) : A := .agg (cT s)
abbrev bT (s : St) : List Blk := [pblk s.pool, jblk s.know, jblk s.sent, jblk s.got]
theorem impl_copyStream_c (s : St) (hs : s.mid) : T 88 [aS s] [] (aT s) (bT s) := by
  refine semT' (S := S0) hm impl_copyStream_ok (Nat.le_of_ble_eq_true rfl) ?_
  unfold impl_copyStream; dsimp only
  simp
  refine impl_copyPool_k (ns := s.pool) hs.p rfl (by simp) (by simp [noslBlks]) ?_; simp [shiftB]
  refine slices_Clone_int_k (xs := s.know) hs.k rfl (by simp) (by simp [noslBlks]) ?_; simp [shiftB]
  refine slices_Clone_int_k (xs := s.sent) hs.t rfl (by simp) (by simp [noslBlks]) ?_; simp [shiftB]
  refine slices_Clone_int_k (xs := s.got) hs.g rfl (by simp) (by simp [noslBlks]) ?_; simp [shiftB]
  exact LeV.tell [some 2, some 3, some 4, some 5] (by simp) (by simp) (by simp)
theorem impl_copyStream_k {s : St} (hs : s.mid) {S : FuncId → Bool} {H : List Blk} {K : A → Dl → Prop} {zs : List A} (hS : S 88 = false) (hv : viewL (viewA 8 H) zs = some [aS s]) (ho : noOwns zs = true ∨ nosl (aT s) = true ∧ noslBlks (bT s) = true) (hK : K (shiftA H.length (aT s)) (.news ((bT s).map (shiftB H.length)))) : @WCall' Go.Proofs.Try.prog S 88 zs H ⟨K⟩ :=
  WCall_ro' hS hv (impl_copyStream_c s hs) rfl ho hK
theorem spec_l19Copy_c (s : St) (hs : s.mid) : T 89 [aS s] [] (aT s) (bT s) := by
  refine semT' (S := S0) hm spec_l19Copy_ok (Nat.le_of_ble_eq_true rfl) ?_
  unfold spec_l19Copy; dsimp only
  obtain ⟨p, ks, o, i, ts, gs⟩ := s
  obtain ⟨h1, h2, h3, h4⟩ := hs
  simp only at h1 h2 h3 h4
  simp
  refine spec_l1Copy_k (ns := p) h1 rfl (by simp) (by simp [noslBlks]) ?_; simp [shiftB]
  by_cases k0 : ks = [] <;> by_cases t0 : ts = [] <;> by_cases g0 : gs = [] <;> (try simp [k0, t0, g0]) <;>
    repeat (first | (refine ck_intro' (by omega) ?_; try simp [k0, t0, g0]) | (refine ck_intro' (by kernel_rfl) ?_; try simp [k0, t0, g0]))
  all_goals first | (refine LeV.tell [some 2, none, none, none] ?_ ?_ ?_ <;> (simp [k0, t0, g0]; done)) | (refine LeV.tell [some 2, none, none, some 3] ?_ ?_ ?_ <;> (simp [k0, t0, g0]; done)) | (refine LeV.tell [some 2, none, some 3, none] ?_ ?_ ?_ <;> (simp [k0, t0, g0]; done)) | (refine LeV.tell [some 2, none, some 3, some 4] ?_ ?_ ?_ <;> (simp [k0, t0, g0]; done)) | (refine LeV.tell [some 2, some 3, none, none] ?_ ?_ ?_ <;> (simp [k0, t0, g0]; done)) | (refine LeV.tell [some 2, some 3, none, some 4] ?_ ?_ ?_ <;> (simp [k0, t0, g0]; done)) | (refine LeV.tell [some 2, some 3, some 4, none] ?_ ?_ ?_ <;> (simp [k0, t0, g0]; done)) | (refine LeV.tell [some 2, some 3, some 4, some 5] ?_ ?_ ?_ <;> (simp [k0, t0, g0]; done))
theorem spec_l19Copy_k {s : St} (hs : s.mid) {S : FuncId → Bool} {H : List Blk} {K : A → Dl → Prop} {zs : List A} (hS : S 89 = false) (hv : viewL (viewA 8 H) zs = some [aS s]) (ho : noOwns zs = true ∨ nosl (aT s) = true ∧ noslBlks (bT s) = true) (hK : K (shiftA H.length (aT s)) (.news ((bT s).map (shiftB H.length)))) : @WCall' Go.Proofs.Try.prog S 89 zs H ⟨K⟩ :=
  WCall_ro' hS hv (spec_l19Copy_c s hs) rfl ho hK
def noLk : Lk := ⟨0, 0, 0, false⟩
/-- The stream that StreamNew looks at. -/
def newS (ns : List Nd) (ks : List Int) (key : Int) : St := ⟨ns, ks, ⟨key, 0, 0, false⟩, ⟨key, 0, 0, false⟩, [], []⟩
def noS : St := ⟨[], [], noLk, noLk, [], []⟩
/-- What StreamNew answers. -/
def streamNewF (ns : List Nd) (ks : List Int) (key : Int) : St × Bool := if streamF (newS ns ks key) then (newS ns ks key, true) else (noS, false)
theorem spec_StreamNew_c (ns : List Nd) (ks : List Int) (key : Int) (h1 : ns.length ≤ 4294967296) (h2 : ks.length ≤ 4294967296) : T 40 [aP ns, aI ks, i6 key] [] (.tup [aT (streamNewF ns ks key).1, .bool (streamNewF ns ks key).2]) (bT (streamNewF ns ks key).1) := by
  refine semT' (S := S0) hm spec_StreamNew_ok (Nat.le_of_ble_eq_true rfl) ?_
  unfold spec_StreamNew; dsimp only
  have hs : (newS ns ks key).fit := ⟨by simp [newS]; omega, by simp [newS]; omega, by simp [newS], by simp [newS]⟩
  have hm : (newS ns ks key).mid := ⟨by simpa [newS] using h1, by simpa [newS] using h2, by simp [newS], by simp [newS]⟩
  simp
  first | (refine ck_intro' (by kernel_rfl) ?_; try simp) | skip
  refine spec_StreamOk_k (s := newS ns ks key) hs rfl (by simp [newS]) (by simp) ?_; simp
  refine br_intro' (fun g => ?_) (fun g => ?_) <;> simp [g]
  · have e : streamNewF ns ks key = (newS ns ks key, true) := by simp [streamNewF, g]
    rw [e]
    refine spec_l19Copy_k (s := newS ns ks key) hm rfl (by simp [newS]) (by simp [noslBlks]) ?_; simp [shiftB]
    first | (refine ck_intro' (by kernel_rfl) ?_; try simp) | skip
    exact LeV.tell [some 3, some 4, some 5, some 6] (by simp) (by simp) (by simp)
  · have e : streamNewF ns ks key = (noS, false) := by simp [streamNewF, g]
    rw [e]
    exact LeV.tell [none, none, none, none] (by simp) (by simp [noS]) (by simp [noS, noLk])
theorem spec_StreamNew_k {ns : List Nd} {ks : List Int} {key : Int} (h1 : ns.length ≤ 4294967296) (h2 : ks.length ≤ 4294967296) {S : FuncId → Bool} {H : List Blk} {K : A → Dl → Prop} {zs : List A} (hS : S 40 = false) (hv : viewL (viewA 8 H) zs = some [aP ns, aI ks, i6 key]) (ho : noOwns zs = true ∨ nosl (.tup [aT (streamNewF ns ks key).1, .bool (streamNewF ns ks key).2]) = true ∧ noslBlks (bT (streamNewF ns ks key).1) = true) (hK : K (shiftA H.length (.tup [aT (streamNewF ns ks key).1, .bool (streamNewF ns ks key).2])) (.news ((bT (streamNewF ns ks key).1).map (shiftB H.length)))) : @WCall' Go.Proofs.Try.prog S 40 zs H ⟨K⟩ :=
  WCall_ro' hS hv (spec_StreamNew_c ns ks key h1 h2) rfl ho hK
theorem impl_StreamNew_c (ns : List Nd) (ks : List Int) (key : Int) (h1 : ns.length ≤ 4294967296) (h2 : ks.length ≤ 4294967296) : T 39 [aP ns, aI ks, i6 key] [] (.tup [aT (streamNewF ns ks key).1, .bool (streamNewF ns ks key).2]) (bT (streamNewF ns ks key).1) := by
  refine semT' (S := S0) hm impl_StreamNew_ok (Nat.le_of_ble_eq_true rfl) ?_
  unfold impl_StreamNew; dsimp only
  have hs : (newS ns ks key).fit := ⟨by simp [newS]; omega, by simp [newS]; omega, by simp [newS], by simp [newS]⟩
  have hm : (newS ns ks key).mid := ⟨by simpa [newS] using h1, by simpa [newS] using h2, by simp [newS], by simp [newS]⟩
  simp
  first | (refine ck_intro' (by kernel_rfl) ?_; try simp) | skip
  refine impl_StreamOk_k (s := newS ns ks key) hs rfl (by simp [newS]) (by simp) ?_; simp
  refine br_intro' (fun g => ?_) (fun g => ?_) <;> simp [g]
  · have e : streamNewF ns ks key = (newS ns ks key, true) := by simp [streamNewF, g]
    rw [e]
    refine impl_copyStream_k (s := newS ns ks key) hm rfl (by simp [newS]) (by simp [noslBlks]) ?_; simp [shiftB]
    first | (refine ck_intro' (by kernel_rfl) ?_; try simp) | skip
    first | exact LeV.tell [some 4, some 5, some 6, some 7] (by simp) (by simp) (by simp) | exact LeV.tell [some 3, some 4, some 5, some 6] (by simp) (by simp) (by simp)
  · have e : streamNewF ns ks key = (noS, false) := by simp [streamNewF, g]
    rw [e]
    first | (refine ck_intro' (by kernel_rfl) ?_; try simp) | skip
    exact LeV.tell [none, none, none, none] (by simp) (by simp [noS]) (by simp [noS, noLk])
theorem impl_StreamNew_k {ns : List Nd} {ks : List Int} {key : Int} (h1 : ns.length ≤ 4294967296) (h2 : ks.length ≤ 4294967296) {S : FuncId → Bool} {H : List Blk} {K : A → Dl → Prop} {zs : List A} (hS : S 39 = false) (hv : viewL (viewA 8 H) zs = some [aP ns, aI ks, i6 key]) (ho : noOwns zs = true ∨ nosl (.tup [aT (streamNewF ns ks key).1, .bool (streamNewF ns ks key).2]) = true ∧ noslBlks (bT (streamNewF ns ks key).1) = true) (hK : K (shiftA H.length (.tup [aT (streamNewF ns ks key).1, .bool (streamNewF ns ks key).2])) (.news ((bT (streamNewF ns ks key).1).map (shiftB H.length)))) : @WCall' Go.Proofs.Try.prog S 39 zs H ⟨K⟩ :=
  WCall_ro' hS hv (impl_StreamNew_c ns ks key h1 h2) rfl ho hK
end Go.Proofs.Ytnbodfakblbmbaa.C
