/- What the draw for reading texts answers. Conditions: those that each theorem names. -/
import Derived.Test.YtoegiepfcdkjaaaDoorXTX8TX13
set_option linter.unusedVariables false
set_option linter.unusedSimpArgs false
set_option maxRecDepth 40000
namespace Go.Proofs.YtoegiepfcdkjaaaDoor.C
open Go.Sym Go.Proofs.YtoegiepfcdkjaaaDoor.I
def pickS (bs : List Int) (s : Cu) (xs : List ByteArray) : ByteArray × Cu := (xs.getD (belowF bs s xs.length).1.toNat ⟨#[]⟩, (belowF bs s xs.length).2)
theorem strs_at2 {xs : List ByteArray} {j : Nat} (h : j < xs.length) : (strs xs)[j]? = some (.str xs[j]) := strs_at h
theorem spec_l1Pick_m (H : List Blk) (cb : Nat) (bs : List Int) (s : Cu) (lb v : Nat) (xs : List ByteArray) (hc : cb < H.length) (hb : bs.length < 9223372036854775807) (hl : xs.length < 9223372036854775807) (hx : xs ≠ []) (hL : H[lb]? = some ⟨v, false, 1, strs xs, none⟩) (hne : lb ≠ cb) : T 77 [.ptr cb 0 0, .ref lb v 0 xs.length] (cur H cb bs s) (.str (pickS bs s xs).1) (cur H cb bs (pickS bs s xs).2) := by
  refine semT' (S := (fun f => [79, 50].contains f)) hm spec_l1Pick_ok (Nat.le_of_ble_eq_true rfl) ?_
  unfold spec_l1Pick; dsimp only
  have gL : ∀ s, (cur H cb bs s)[lb]? = _ := fun s => (show (cur H cb bs s)[lb]? = H[lb]? from List.getElem?_set_ne hne.symm).trans hL
  have hp : 0 < xs.length := List.length_pos_iff.2 hx
  have hi := belowF_in bs s xs.length
  obtain ⟨j, hj⟩ : ∃ j : Nat, (belowF bs s xs.length).1 = j := ⟨(belowF bs s xs.length).1.toNat, by omega⟩
  have hj' : j < xs.length := by have := hi.2.1 (by omega); omega
  simp [gL]
  refine cur_call rfl cb bs s (belowF bs s xs.length).2 (cur_cur ..) (by rw [cur_cur, cur_cur]; exact spec_l1Below_m H cb bs s xs.length hc hb) ?_; simp
  rw [hj]
  simp [gL, hj']
  have e : pickS bs s xs = (xs[j], (belowF bs s xs.length).2) := by simp [pickS, hj, hj']
  rw [e]
  exact LeV.refl _ _ _
/-- A text turned in one place. -/
def dentG (bs : List Int) (tx : ByteArray) (xs : List ByteArray) (a : Int) (b : Int × Cu) : ByteArray × Cu :=
  if b.1 = 0 then (tx.extract 0 a.toNat, b.2)
  else if b.1 = 1 then (tx.extract 0 a.toNat ++ (pickS bs b.2 xs).1 ++ tx.extract (min (a + 1) tx.size).toNat tx.size, (pickS bs b.2 xs).2)
  else (tx.extract 0 a.toNat ++ (pickS bs b.2 xs).1 ++ tx.extract a.toNat tx.size, (pickS bs b.2 xs).2)
def dentF (bs : List Int) (s : Cu) (tx : ByteArray) (xs : List ByteArray) : ByteArray × Cu := dentG bs tx xs (belowF bs s ((tx.size : Int) + 1)).1 (belowF bs (belowF bs s ((tx.size : Int) + 1)).2 3)
theorem pickS_size (bs : List Int) (s : Cu) {xs : List ByteArray} {m : Nat} (h : ∀ x ∈ xs, x.size ≤ m) : (pickS bs s xs).1.size ≤ m := by
  simp only [pickS, List.getD_eq_getElem?_getD]
  cases e : xs[(belowF bs s ↑xs.length).1.toNat]? with
  | none => exact Nat.zero_le _
  | some x => exact h x (List.mem_of_getElem? e)
theorem dentF_size (bs : List Int) (s : Cu) (tx : ByteArray) {xs : List ByteArray} (h : ∀ x ∈ xs, x.size ≤ 1000) : (dentF bs s tx xs).1.size ≤ 2 * tx.size + 1000 := by
  have hp := pickS_size bs (belowF bs (belowF bs s ((tx.size : Int) + 1)).2 3).2 h
  simp only [dentF, dentG]
  split
  · simp; omega
  · split <;> simp only [ByteArray.size_append, ByteArray.size_extract] <;> omega
theorem spec_l4Dent_m (H : List Blk) (cb : Nat) (bs : List Int) (s : Cu) (tx : ByteArray) (lb v : Nat) (xs : List ByteArray) (hc : cb < H.length) (hb : bs.length < 9223372036854775807) (hl : xs.length < 9223372036854775807) (hx : xs ≠ []) (hL : H[lb]? = some ⟨v, false, 1, strs xs, none⟩) (hne : lb ≠ cb) (hs : tx.size ≤ 281474976710656) (hz : ∀ x ∈ xs, x.size ≤ 1000) : T 49 [.ptr cb 0 0, .str tx, .ref lb v 0 xs.length] (cur H cb bs s) (.str (dentF bs s tx xs).1) (cur H cb bs (dentF bs s tx xs).2) := by
  refine semT' (S := (fun f => [79, 50, 77].contains f)) hm spec_l4Dent_ok (Nat.le_of_ble_eq_true rfl) ?_
  unfold spec_l4Dent; dsimp only
  have hi := belowF_in bs s ((tx.size : Int) + 1)
  simp
  have w0 : IntKind.i64.wrap ((tx.size : Int) + 1) = tx.size + 1 := wrap_succ (by omega)
  rw [w0]
  refine cur_call rfl cb bs s (belowF bs s ((tx.size : Int) + 1)).2 (cur_cur ..) (by rw [cur_cur, cur_cur]; exact spec_l1Below_m H cb bs s _ hc hb) ?_; simp
  rw [show dentF bs s tx xs = dentG bs tx xs (belowF bs s ((tx.size : Int) + 1)).1 (belowF bs (belowF bs s ((tx.size : Int) + 1)).2 3) from rfl]
  generalize belowF bs s ((tx.size : Int) + 1) = a at hi ⊢
  obtain ⟨k, hk⟩ : ∃ k : Nat, a.1 = k := ⟨a.1.toNat, by omega⟩
  have hk2 : k ≤ tx.size := by have := hi.2.1 (by omega); omega
  rw [hk]
  refine cur_call rfl cb bs a.2 (belowF bs a.2 3).2 (cur_cur ..) (by rw [cur_cur, cur_cur]; exact spec_l1Below_m H cb bs _ 3 hc hb) ?_; simp
  have hj := belowF_in bs a.2 3
  generalize belowF bs a.2 3 = b at hj ⊢
  have hp := pickS_size bs b.2 hz
  refine br_intro' (fun c => ?_) (fun c => ?_) <;> (have c0 := c) <;> simp only [decide_eq_true_eq, decide_eq_false_iff_not] at c <;> simp [c0]
  · rw [show dentG bs tx xs k b = (tx.extract 0 k, b.2) by simp [dentG, c]]
    repeat (refine ck_intro' (by first | omega | (simp; omega) | kernel_rfl) ?_; try simp [hk2])
    exact LeV.refl _ _ _
  refine br_intro' (fun c1 => ?_) (fun c1 => ?_) <;> (have c10 := c1) <;> simp only [decide_eq_true_eq, decide_eq_false_iff_not] at c1 <;> simp [c10]
  · rw [show dentG bs tx xs k b = (tx.extract 0 k ++ (pickS bs b.2 xs).1 ++ tx.extract (min ((k : Int) + 1) tx.size).toNat tx.size, (pickS bs b.2 xs).2) by simp [dentG, c1]]
    repeat (refine ck_intro' (by first | omega | (simp; omega) | kernel_rfl) ?_; try simp [hk2])
    refine cur_call rfl cb bs b.2 (pickS bs b.2 xs).2 (cur_cur ..) (by rw [cur_cur, cur_cur]; exact spec_l1Pick_m H cb bs b.2 lb v xs hc hb hl hx hL hne) ?_; simp
    generalize pickS bs b.2 xs = u at hp ⊢
    have h1 : (tx.extract 0 k).size = k := by simp; omega
    have w1 : IntKind.i64.wrap ((k : Int) + 1) = k + 1 := wrap_succ (by omega)
    have h2 : min ((k : Int) + 1) tx.size = ((min (k + 1) tx.size : Nat) : Int) := by omega
    have h3 : (tx.extract (min (k + 1) tx.size) tx.size).size ≤ tx.size := by simp
    have h4 : min (k + 1) tx.size ≤ tx.size := Nat.min_le_right _ _
    refine ck_intro' (by omega) ?_; simp
    rw [w1]
    refine spec_l1Min_call (a := (k : Int) + 1) (b := tx.size) rfl ?_; simp
    repeat (refine ck_intro' (by first | omega | (constructor <;> omega) | (simp only [ByteArray.size_append]; omega) | kernel_rfl) ?_; try simp)
    exact LeV.refl _ _ _
  · rw [show dentG bs tx xs k b = (tx.extract 0 k ++ (pickS bs b.2 xs).1 ++ tx.extract k tx.size, (pickS bs b.2 xs).2) by simp [dentG, c, c1]]
    repeat (refine ck_intro' (by first | omega | (simp; omega) | kernel_rfl) ?_; try simp [hk2])
    refine cur_call rfl cb bs b.2 (pickS bs b.2 xs).2 (cur_cur ..) (by rw [cur_cur, cur_cur]; exact spec_l1Pick_m H cb bs b.2 lb v xs hc hb hl hx hL hne) ?_; simp
    generalize pickS bs b.2 xs = u at hp ⊢
    have h1 : (tx.extract 0 k).size = k := by simp; omega
    have h3 : (tx.extract k tx.size).size ≤ tx.size := by simp
    refine ck_intro' (by omega) ?_; simp
    repeat (refine ck_intro' (by first | omega | (constructor <;> omega) | (simp only [ByteArray.size_append]; omega) | kernel_rfl) ?_; try simp)
    exact LeV.refl _ _ _
theorem sz_zero {ns : List Nd} (hp : poolF ns = true) (h : 0 < ns.length) : szT ns 0 = 1 := by
  rw [szT_eq hp h]
  rcases parts_kind hp h with hk | hk | hk
  · simp [partsL, hk]
  · obtain ⟨a, _, ha⟩ := part_in hp h hk; omega
  · obtain ⟨⟨a, _, ha⟩, _⟩ := parts_in hp h hk; omega
/-- The text of a drawn term. -/
def dtxG (ns : List Nd) (t : Int × Cu) : ByteArray × Cu := (txt ns (if 1 ≤ szT ns t.1.toNat ∧ szT ns t.1.toNat ≤ 60 then t.1.toNat else 0), t.2)
def dtxH (bs : List Int) (p : List Nd × Cu) : ByteArray × Cu := if p.1.length = 0 then (⟨#[110, 53]⟩, p.2) else dtxG p.1 (drawF bs p.2 p.1.length)
def dtxF (bs : List Int) (s : Cu) : ByteArray × Cu := dtxH bs (poolD bs s 16)
theorem dtxG_size {ns : List Nd} (hp : poolF ns = true) (h : 0 < ns.length) (t : Int × Cu) (ht : t.1.toNat < ns.length) : (dtxG ns t).1.size ≤ 5000 := by
  unfold dtxG
  have h0 := sz_zero hp h
  split
  · rename_i g
    have := txt_size hp _ t.1.toNat (Nat.lt_succ_self _) ht (by omega)
    simp only
    omega
  · have := txt_size hp _ 0 (Nat.lt_succ_self _) h (by omega)
    simp only
    omega
theorem spec_l4DrawText_m (H : List Blk) (cb : Nat) (bs : List Int) (s : Cu) (hc : cb < H.length) (hb : bs.length < 9223372036854775807) (hcl : Closed1 H.length H = true) : T 47 [.ptr cb 0 0] (cur H cb bs s) (.str (dtxF bs s).1) (cur H cb bs (dtxF bs s).2) := by
  refine semT' (S := (fun f => [79, 50, 48, 94, 76, 75, 74].contains f)) hm spec_l4DrawText_ok (Nat.le_of_ble_eq_true rfl) ?_
  unfold spec_l4DrawText; dsimp only
  simp
  refine cur_call rfl cb bs s (poolD bs s 16).2 (cur_cur ..) (by rw [cur_cur, cur_cur]; exact spec_l1DrawPool_m H cb bs s 16 hc hb hcl (by omega) (by omega)) ?_; simp
  have hp := poolD_ok bs s 16
  rw [show dtxF bs s = dtxH bs (poolD bs s 16) from rfl]
  generalize poolD bs s 16 = p at hp ⊢
  have hl5 := poolF_len hp
  refine br_intro' (fun c => ?_) (fun c => ?_) <;> (have c0 := c) <;> simp only [decide_eq_true_eq, decide_eq_false_iff_not] at c <;> simp [c0]
  · rw [show dtxH bs p = (⟨#[110, 53]⟩, p.2) from if_pos (by rw [c]; rfl)]
    exact LeV.drop (by simp) (by simpa using cur_closed _ _ hcl) (by simp)
  · have h0 : 0 < p.1.length := List.length_pos_iff.2 c
    rw [show dtxH bs p = dtxG p.1 (drawF bs p.2 p.1.length) from if_neg (by omega)]
    refine cur_call' rfl cb bs p.2 (drawF bs p.2 p.1.length).2 hc (spec_l1Draw_m _ cb bs _ p.1.length (cur_lt _ _ hc) hb ⟨by omega, by omega⟩) ?_; simp
    have hdr := drawF_in bs p.2 p.1.length
    generalize drawF bs p.2 p.1.length = t at hdr ⊢
    obtain ⟨j, hj⟩ : ∃ j : Nat, t.1 = j := ⟨t.1.toNat, by omega⟩
    have hj2 : j < p.1.length := by have := hdr.2.1 (by omega); omega
    refine WCall_ro' rfl (by simp) (spec_l1Sizes_c p.1 hp) rfl (.inl (by simp)) ?_; simp [shiftB]
    rw [hj]
    have hl2 : j < (accL szN p.1).length := by simpa using hj2
    have e : (accL szN p.1)[j] = szT p.1 j := by
      simp only [szT, List.getD_eq_getElem?_getD, List.getElem?_eq_getElem hl2, Option.getD_some]
    repeat (refine ck_intro' (by first | omega | (simp; omega) | kernel_rfl) ?_; try simp [hj2, e])
    refine spec_l1In_call (x := szT p.1 j) (lo := 1) (hi := 60) rfl ?_; simp
    have h0s := sz_zero hp h0
    refine br_intro' (fun g => ?_) (fun g => ?_) <;> (have g0 := g) <;> simp [g0]
    · have g1 := inF_iff.1 g
      rw [show dtxG p.1 t = (txt p.1 j, t.2) by unfold dtxG; rw [hj]; simp only [Int.toNat_natCast]; rw [if_pos g1]]
      refine WCall_pure rfl (sprint_t hp _ j (Nat.lt_succ_self _) hj2 (by omega)) (by simp) (by simp) (by simp) ?_; simp
      exact LeV.drop (by simp) (by simpa using cur_closed _ _ hcl) (by simp)
    · have g1 : ¬ (1 ≤ szT p.1 j ∧ szT p.1 j ≤ 60) := fun h => by rw [inF_iff.2 h] at g; cases g
      rw [show dtxG p.1 t = (txt p.1 0, t.2) by unfold dtxG; rw [hj]; simp only [Int.toNat_natCast]; rw [if_neg g1]]
      refine WCall_pure rfl (sprint_t hp _ 0 (Nat.lt_succ_self _) h0 (by omega)) (by simp) (by simp) (by simp) ?_; simp
      exact LeV.drop (by simp) (by simpa using cur_closed _ _ hcl) (by simp)
theorem dtxF_size (bs : List Int) (s : Cu) : (dtxF bs s).1.size ≤ 5000 := by
  have hp := poolD_ok bs s 16
  unfold dtxF dtxH
  split
  · exact Nat.le_trans (show ByteArray.size ⟨#[110, 53]⟩ ≤ 2 by decide) (by omega)
  · rename_i h
    have h0 : 0 < (poolD bs s 16).1.length := by omega
    have hdr := drawF_in bs (poolD bs s 16).2 (poolD bs s 16).1.length
    exact dtxG_size hp h0 _ (by have := hdr.2.1 (by omega); omega)
def bits17 : List ByteArray := [⟨#[110]⟩, ⟨#[48]⟩, ⟨#[40]⟩, ⟨#[41]⟩, ⟨#[44]⟩, ⟨#[123]⟩, ⟨#[125]⟩, ⟨#[91]⟩, ⟨#[93]⟩, ⟨#[35]⟩, ⟨#[94]⟩, ⟨#[107]⟩, ⟨#[42]⟩, ⟨#[110, 50, 48, 48]⟩, ⟨#[110, 48, 53]⟩, ⟨#[57]⟩, ⟨#[32]⟩]
def hsGo (bs : List Int) : Nat → Nat → Cu → Nat
  | 0, k, _ => k
  | n + 1, k, s => if (k : Int) < 1998 + (belowF bs s 2).1 then hsGo bs n (k + 1) (belowF bs s 2).2 else k
def hs (k : Nat) : ByteArray := ⟨(List.replicate k 35).toArray⟩
theorem hs_size (k : Nat) : (hs k).size = k := by
  show (List.replicate k (35 : UInt8)).toArray.size = k
  simp
theorem hs_next (k : Nat) : hs k ++ ⟨#[35]⟩ = hs (k + 1) := by
  refine ba_ext ?_
  rw [bl_app]
  simp [hs, bl, List.replicate_succ']
def dp2 (bs : List Int) (t : ByteArray) (o : Bool × Cu) : ByteArray := if o.1 = true then hs (hsGo bs 2001 0 o.2) ++ ⟨#[110, 53]⟩ else t
def dp1 (bs : List Int) (t : ByteArray) (o : Bool × Cu) : ByteArray :=
  if o.1 = true then dp2 bs (dentF bs o.2 t bits17).1 (onceF bs (dentF bs o.2 t bits17).2 60) else dp2 bs t (onceF bs o.2 60)
def dp0 (bs : List Int) (t : ByteArray × Cu) : ByteArray := dp1 bs t.1 (onceF bs t.2 2)
def dtpF (bs : List Int) : List Nd × ByteArray := ((anyF bs ⟨0, newH bs⟩).1, dp0 bs (dtxF bs (anyF bs ⟨0, newH bs⟩).2))
theorem spec_DrawTermParse_c (bs : List Int) (hb : bs.length < 9223372036854775807) : T 18 [aB bs] [] (.tup [aP (dtpF bs).1, .str (dtpF bs).2]) ([]) := by
  refine semT' (S := (fun f => [79, 50, 48, 94, 76, 75, 74, 46, 47, 77, 49].contains f)) hm spec_DrawTermParse_ok (Nat.le_of_ble_eq_true rfl) ?_
  unfold spec_DrawTermParse; dsimp only
  simp
  refine spec_l1New_k (bs := bs) hb rfl (by simp) (by simp [noslBlks]) ?_; simp [shiftB]
  refine cur_callR rfl 1 bs ⟨0, newH bs⟩ _ rfl (spec_l1DrawAny_m _ 1 bs _ (by simp) hb (by simp)) ?_; simp [cur]
  rw [show dtpF bs = ((anyF bs ⟨0, newH bs⟩).1, dp0 bs (dtxF bs (anyF bs ⟨0, newH bs⟩).2)) from rfl]
  generalize anyF bs ⟨0, newH bs⟩ = a
  refine cur_callR rfl 1 bs _ _ rfl (spec_l4DrawText_m _ 1 bs _ (by simp) hb (by simp)) ?_; simp [cur]
  have hsz := dtxF_size bs a.2
  generalize dtxF bs a.2 = t at hsz ⊢
  refine cur_callR rfl 1 bs _ _ rfl (spec_l1Once_m _ 1 bs _ 2 (by simp) hb) ?_; simp [cur]
  rw [show dp0 bs t = dp1 bs t.1 (onceF bs t.2 2) from rfl]
  generalize onceF bs t.2 2 = o
  refine br_intro' (fun g => ?_) (fun g => ?_) <;> (have g0 := g) <;> simp [g0]
  · refine cur_callR rfl 1 bs _ _ rfl (spec_l4Dent_m _ 1 bs _ t.1 3 0 bits17 (by simp) hb (by simp [bits17]) (by simp [bits17]) (by simp [strs, bits17]) (by simp) (by omega) (by simp [bits17]; decide)) ?_; simp [cur]
    have hd := dentF_size bs o.2 t.1 (xs := bits17) (by simp [bits17]; decide)
    rw [show dp1 bs t.1 o = dp2 bs (dentF bs o.2 t.1 bits17).1 (onceF bs (dentF bs o.2 t.1 bits17).2 60) from if_pos g]
    generalize dentF bs o.2 t.1 bits17 = d at hd ⊢
    refine cur_callR rfl 1 bs _ _ rfl (spec_l1Once_m _ 1 bs _ 60 (by simp) hb) ?_; simp [cur]
    generalize onceF bs d.2 60 = q
    refine br_intro' (fun k => ?_) (fun k => ?_) <;> (have k0 := k) <;> simp [k0]
    · rw [show dp2 bs d.1 q = hs (hsGo bs 2001 0 q.2) ++ ⟨#[110, 53]⟩ from if_pos k]
      generalize hR : hsGo bs 2001 0 q.2 = R
      refine WLoop_fam (fun p : Nat × Cu => [(2, A.ptr 0 0 0), (4, A.ptr 1 0 0), (5, A.ptr 2 0 0), (6, A.str (hs p.1))])
        (fun p => [⟨0, false, 1, [.nil], none⟩, ⟨0, false, 1, [aB bs, i6 p.2.i, i6 p.2.h], none⟩, ⟨0, false, 1, [.sl a.1.length (enc a.1)], none⟩] ++ [⟨0, false, 1, strs bits17, none⟩]) (fun p => 2001 - p.1)
        (fun p => p.1 ≤ 2000 ∧ hsGo bs (2001 - p.1) p.1 p.2 = R) ?_ (0, q.2) ⟨Nat.zero_le _, hR⟩
      rintro ⟨i, s⟩ ⟨hi, hgo⟩ ih
      simp only at hi hgo
      obtain ⟨m, em⟩ : ∃ m, 2001 - i = m + 1 := ⟨2000 - i, by omega⟩
      rw [em] at hgo
      simp only [hsGo] at hgo
      have hbi := belowF_in bs s 2
      have hz := hs_size i
      simp
      refine cur_callR rfl 1 bs s _ rfl (spec_l1Below_m _ 1 bs s 2 (by simp) hb) ?_; simp [cur]
      generalize belowF bs s 2 = b at hbi hgo ⊢
      have wb : IntKind.i64.wrap (1998 + b.1) = 1998 + b.1 := wrap64 (by omega) (by omega)
      rw [wb, hz]
      by_cases c1 : (i : Int) < 1998 + b.1
      · have d1 : decide ((i : Int) < 1998 + b.1) = true := decide_eq_true c1
        simp [d1]
        rw [if_pos c1] at hgo
        have s35 := sz1 35
        refine ck_intro' (by omega) ?_; simp
        rw [hs_next]
        exact ih (i + 1, b.2) ⟨by simp only; omega, by simp only; rw [show 2001 - (i + 1) = m by omega]; exact hgo⟩ (by simp only; omega)
      · have d1 : decide ((i : Int) < 1998 + b.1) = false := decide_eq_false c1
        simp [d1]
        rw [if_neg c1] at hgo
        subst hgo
        have s110 : ByteArray.size ⟨#[110, 53]⟩ = 2 := rfl
        refine ck_intro' (by omega) ?_; simp
        repeat (refine ck_intro' (by first | omega | (simp; omega) | kernel_rfl) ?_; try simp)
        exact LeV.ro rfl rfl (by simp)
    · rw [show dp2 bs d.1 q = d.1 from if_neg (by simp [k])]
      repeat (refine ck_intro' (by first | omega | (simp; omega) | kernel_rfl) ?_; try simp)
      exact LeV.ro rfl rfl (by simp)
  · rw [show dp1 bs t.1 o = dp2 bs t.1 (onceF bs o.2 60) from if_neg (by simp [g])]
    refine cur_callR rfl 1 bs _ _ rfl (spec_l1Once_m _ 1 bs _ 60 (by simp) hb) ?_; simp [cur]
    generalize onceF bs o.2 60 = q
    refine br_intro' (fun k => ?_) (fun k => ?_) <;> (have k0 := k) <;> simp [k0]
    · rw [show dp2 bs t.1 q = hs (hsGo bs 2001 0 q.2) ++ ⟨#[110, 53]⟩ from if_pos k]
      generalize hR : hsGo bs 2001 0 q.2 = R
      refine WLoop_fam (fun p : Nat × Cu => [(2, A.ptr 0 0 0), (4, A.ptr 1 0 0), (5, A.ptr 2 0 0), (6, A.str (hs p.1))])
        (fun p => [⟨0, false, 1, [.nil], none⟩, ⟨0, false, 1, [aB bs, i6 p.2.i, i6 p.2.h], none⟩, ⟨0, false, 1, [.sl a.1.length (enc a.1)], none⟩] ++ []) (fun p => 2001 - p.1)
        (fun p => p.1 ≤ 2000 ∧ hsGo bs (2001 - p.1) p.1 p.2 = R) ?_ (0, q.2) ⟨Nat.zero_le _, hR⟩
      rintro ⟨i, s⟩ ⟨hi, hgo⟩ ih
      simp only at hi hgo
      obtain ⟨m, em⟩ : ∃ m, 2001 - i = m + 1 := ⟨2000 - i, by omega⟩
      rw [em] at hgo
      simp only [hsGo] at hgo
      have hbi := belowF_in bs s 2
      have hz := hs_size i
      simp
      refine cur_callR rfl 1 bs s _ rfl (spec_l1Below_m _ 1 bs s 2 (by simp) hb) ?_; simp [cur]
      generalize belowF bs s 2 = b at hbi hgo ⊢
      have wb : IntKind.i64.wrap (1998 + b.1) = 1998 + b.1 := wrap64 (by omega) (by omega)
      rw [wb, hz]
      by_cases c1 : (i : Int) < 1998 + b.1
      · have d1 : decide ((i : Int) < 1998 + b.1) = true := decide_eq_true c1
        simp [d1]
        rw [if_pos c1] at hgo
        have s35 := sz1 35
        refine ck_intro' (by omega) ?_; simp
        rw [hs_next]
        exact ih (i + 1, b.2) ⟨by simp only; omega, by simp only; rw [show 2001 - (i + 1) = m by omega]; exact hgo⟩ (by simp only; omega)
      · have d1 : decide ((i : Int) < 1998 + b.1) = false := decide_eq_false c1
        simp [d1]
        rw [if_neg c1] at hgo
        subst hgo
        have s110 : ByteArray.size ⟨#[110, 53]⟩ = 2 := rfl
        refine ck_intro' (by omega) ?_; simp
        repeat (refine ck_intro' (by first | omega | (simp; omega) | kernel_rfl) ?_; try simp)
        exact LeV.ro rfl rfl (by simp)
    · rw [show dp2 bs t.1 q = t.1 from if_neg (by simp [k])]
      repeat (refine ck_intro' (by first | omega | (simp; omega) | kernel_rfl) ?_; try simp)
      exact LeV.ro rfl rfl (by simp)
theorem hsGo_le (bs : List Int) : ∀ (n k : Nat) (s : Cu), k ≤ 2000 → hsGo bs n k s ≤ 2000
  | 0, k, s, h => h
  | n + 1, k, s, h => by
    have hbi := belowF_in bs s 2
    unfold hsGo
    split
    · exact hsGo_le bs n _ _ (by omega)
    · exact h
theorem dp2_size (bs : List Int) (t : ByteArray) (o : Bool × Cu) (h : t.size ≤ 20000) : (dp2 bs t o).size ≤ 20000 := by
  unfold dp2
  split
  · have := hsGo_le bs 2001 0 o.2 (by omega)
    rw [ByteArray.size_append, hs_size]
    have s110 : ByteArray.size ⟨#[110, 53]⟩ = 2 := rfl
    omega
  · exact h
theorem dtpF_size (bs : List Int) : (dtpF bs).1.length ≤ 501 ∧ (dtpF bs).2.size ≤ 20000 := by
  refine ⟨anyF_len _ _, ?_⟩
  have h := dtxF_size bs (anyF bs ⟨0, newH bs⟩).2
  unfold dtpF dp0 dp1
  simp only
  split
  · have hd := dentF_size bs (onceF bs (dtxF bs (anyF bs ⟨0, newH bs⟩).2).2 2).2 (dtxF bs (anyF bs ⟨0, newH bs⟩).2).1 (xs := bits17) (by simp [bits17]; decide)
    exact dp2_size _ _ _ (by omega)
  · exact dp2_size _ _ _ (by omega)
end Go.Proofs.YtoegiepfcdkjaaaDoor.C

set_option linter.unusedVariables false
set_option linter.unusedSimpArgs false
set_option maxRecDepth 4000
namespace Go.Proofs.YtoegiepfcdkjaaaDoor.C
open Go.Sym Go.Proofs.YtoegiepfcdkjaaaDoor.I
theorem txt_ext {ns ms : List Nd} (h : ns <+: ms) {j : Nat} (hj : j < ns.length) : txt ms j = txt ns j := by
  have e : accL txN ns = (accL txN ms).take ns.length := by
    rw [← accL_take txN ms ns.length h.length_le, ← List.prefix_iff_eq_take.1 h]
  simp only [txt, List.getD_eq_getElem?_getD]
  rw [e, List.getElem?_take_of_lt hj]
theorem fullF_put {s : List Nd} {n : Nd} (h : (fullF (addF s n)).2.2 = 0) : ∃ j : Nat, (fullF (addF s n)).2.1 = j ∧ j < (fullF (addF s n)).1.length ∧ nodeAt (fullF (addF s n)).1 j = normN n := by
  obtain ⟨g1, g2, g3⟩ := fullF_ok h
  rw [g2, g3]
  unfold addF at g1 ⊢
  split
  · rename_i k; rw [if_pos k] at g1; simp at g1
  · rename_i k
    rw [if_neg k] at g1
    split
    · rename_i k2
      obtain ⟨j, hj, e1, e2⟩ := findF_at s (normN n) 0 k2
      refine ⟨j, by simpa using e1, hj, ?_⟩
      simp only
      rw [nodeAt_nat hj, e2]
    · rename_i k2
      rw [if_neg k2] at g1
      split
      · rename_i k3; rw [if_pos k3] at g1; simp at g1
      · exact ⟨s.length, rfl, by simp, by simp [nodeAt]⟩
theorem num_size {tx : ByteArray} {i : Nat} (h0 : 0 ≤ figV 9 (dgRun tx i)) : (numB (figV 9 (dgRun tx i))).size = (dgRun tx i).length := by
  have h1 : ¬ (dgRun tx i = [] ∨ 9 < (dgRun tx i).length ∨ lead0 (dgRun tx i) = true) := fun h => by rw [figV_neg h] at h0; omega
  have n1 : dgRun tx i ≠ [] := fun h => h1 (.inl h)
  have n3 : lead0 (dgRun tx i) = false := by
    cases h : lead0 (dgRun tx i) with
    | true => exact absurd (.inr (.inr h)) h1
    | false => rfl
  have e : figV 9 (dgRun tx i) = valD (dgRun tx i) := figV_pos n1 (fun h => h1 (.inr (.inl h))) n3
  rw [e]
  have hb := numB_bl (a := (valD (dgRun tx i) : Int)) (by omega)
  have := dec_val _ n1 (dgRun_dg tx i) n3
  rw [Int.toNat_natCast, this] at hb
  have hlen := congrArg List.length hb
  rwa [bl_len] at hlen
theorem sg_sizes {b : Int} (h : b = 40 ∨ b = 123 ∨ b = 91) : (sgO (kindF b)).size = 1 ∧ (sgE (kindF b)).size = 1 ∧ partsF (kindF b) = 2 := by
  rcases h with rfl | rfl | rfl <;> decide
theorem sg_sizes1 {b : Int} (h : b = 35 ∨ b = 94) : (sgO (kindF b)).size = 1 ∧ (sgE (kindF b)).size = 0 ∧ partsF (kindF b) = 1 := by
  rcases h with rfl | rfl <;> decide
theorem sg_sizes2 {b : Int} (h : b = 107 ∨ b = 42) : (sgO (kindF b)).size = 2 ∧ (sgE (kindF b)).size = 1 ∧ partsF (kindF b) = 2 := by
  rcases h with rfl | rfl <;> decide
/-- A node of two parts has a text of their length. -/
theorem put_two {s : List Nd} (hp : poolF s = true) {k : Int} {a b : Nat} (hk : partsF k = 2) (ha : a < s.length) (hb : b < s.length) {j : Nat} {q : List Nd} (hq : poolF q = true) (he : s <+: q) (hj : j < q.length) (hn : nodeAt q j = normN ⟨k, a, b⟩) : (txt q j).size = (sgO k).size + (txt s a).size + 1 + (txt s b).size + (sgE k).size := by
  rw [nodeAt_nat hj] at hn
  have hkj : q[j].k = k := by rw [hn, normN_k]
  have hk2 : partsF q[j].k = 2 := by rw [hkj]; exact hk
  have hc : (q[j].a = a ∧ q[j].b = b) ∨ (q[j].a = b ∧ q[j].b = a) := by
    rw [hn]
    unfold normN
    split
    · simp only
      by_cases g : (b : Int) < a
      · rw [if_pos g, if_neg (by omega)]; exact .inr ⟨rfl, rfl⟩
      · rw [if_neg g]
        by_cases g2 : (a : Int) < b
        · rw [if_pos g2]; exact .inl ⟨rfl, rfl⟩
        · rw [if_neg g2]
          exact .inl ⟨rfl, by omega⟩
    · exact .inl ⟨rfl, rfl⟩
  have ea := txt_ext he ha
  have eb := txt_ext he hb
  rcases hc with ⟨c1, c2⟩ | ⟨c1, c2⟩
  · rw [txt_two hq hj hk2 c1 c2, hkj]
    simp only [joinB, ByteArray.size_append, sz1, ea, eb]
  · rw [txt_two hq hj hk2 c1 c2, hkj]
    simp only [joinB, ByteArray.size_append, sz1, ea, eb]
    omega
theorem put_one {s : List Nd} (hp : poolF s = true) {k : Int} {a : Nat} (hk : partsF k = 1) (ha : a < s.length) {j : Nat} {q : List Nd} (hq : poolF q = true) (he : s <+: q) (hj : j < q.length) (hn : nodeAt q j = normN ⟨k, a, 0⟩) : (txt q j).size = (sgO k).size + (txt s a).size + (sgE k).size := by
  have h8 : normN ⟨k, a, 0⟩ = ⟨k, a, 0⟩ := by
    unfold normN
    split
    · rename_i h; simp only at h; rw [h] at hk; simp [partsF] at hk
    · rfl
  rw [nodeAt_nat hj, h8] at hn
  have hkj : q[j].k = k := by rw [hn]
  have ea := txt_ext he ha
  rw [txt_one hq hj (by rw [hkj]; exact hk) (show q[j].a = a by rw [hn]), hkj]
  simp only [joinB, ByteArray.size_append, ea]
/-- What is read has the length of its text. -/
theorem read_len (tx : ByteArray) : ∀ (n : Nat) (s : List Nd) (i : Nat), poolF s = true → i ≤ tx.size → (rdF (trmR tx) n s i 0).2.2.2 = 0 → tx.size - i < n → ∃ v : Nat, (rdF (trmR tx) n s i 0).2.1 = v ∧ v < (rdF (trmR tx) n s i 0).1.length ∧ i + (txt (rdF (trmR tx) n s i 0).1 v).size = (rdF (trmR tx) n s i 0).2.2.1
  | 0, s, i, _, _, _, hn => by omega
  | n + 1, s, i, hp, hi0, h, hn => by
    have ih := read_len tx n
    have hgood := fun (s : List Nd) (i : Nat) (hp : poolF s = true) (hi : i ≤ tx.size) (hn : tx.size - i < n) => (trmK tx).rd_good n (s := s) (i := i) (c := 0) hp (show i ≤ tx.size from hi) (show tx.size - i < n from hn)
    obtain ⟨_, hi, hb⟩ := rdF_inv h
    have htx : (trmR tx).text = tx := rfl
    rw [htx] at hi
    have two : ∀ {s : List Nd} {i : Nat} {e : Int} {a b : List Nd × Int × Nat × Int}, TwoOk (trmR tx) (rdF (trmR tx) n) s i e a b → poolF s = true → i ≤ tx.size → tx.size - i < n → ∃ x y : Nat, a.2.1 = x ∧ b.2.1 = y ∧ poolF b.1 = true ∧ x < b.1.length ∧ y < b.1.length ∧ i + (txt b.1 x).size + 1 + (txt b.1 y).size + 1 = b.2.2.1 + 1 := by
      intro s i e a b ht hp hi hn
      have h1 := ih s i hp hi
      have g1 := hgood s i hp hi hn
      rw [ht.ha] at h1 g1
      obtain ⟨x, x1, x2, x3⟩ := h1 ht.ca hn
      obtain ⟨k1, k2, ⟨k3, k4, k5⟩, _⟩ := g1 ht.ca
      rw [htx] at k2
      have la := ht.la
      rw [htx] at la
      have hpa := k5 hp
      have q1 : a.2.2.1 + 1 ≤ tx.size := by omega
      have q2 : tx.size - (a.2.2.1 + 1) < n := by omega
      have h2 := ih a.1 (a.2.2.1 + 1) hpa q1
      have g2 := hgood a.1 (a.2.2.1 + 1) hpa q1 q2
      rw [ht.hb] at h2 g2
      obtain ⟨y, y1, y2, y3⟩ := h2 ht.cb q2
      obtain ⟨_, _, ⟨m3, m4, m5⟩, _⟩ := g2 ht.cb
      refine ⟨x, y, x1, y1, m5 hpa, Nat.lt_of_lt_of_le x2 m3.length_le, y2, ?_⟩
      rw [txt_ext m3 x2]
      omega
    have join2 : ∀ {b : Int} {s : List Nd} {x y : Nat}, partsF (kindF b) = 2 → poolF s = true → x < s.length → y < s.length → (jnF s b [(x : Int), (y : Int)]).2.2 = 0 → ∃ v : Nat, (jnF s b [(x : Int), (y : Int)]).2.1 = v ∧ v < (jnF s b [(x : Int), (y : Int)]).1.length ∧ (txt (jnF s b [(x : Int), (y : Int)]).1 v).size = (sgO (kindF b)).size + (txt s x).size + 1 + (txt s y).size + (sgE (kindF b)).size := by
      intro b s x y hk hs hx hy hj
      unfold jnF at hj ⊢
      simp only [List.getD_cons_zero, List.getD_cons_succ] at hj ⊢
      obtain ⟨j, e1, e2, e3⟩ := fullF_put hj
      obtain ⟨f1, f2, f3⟩ := fullF_ok hj
      refine ⟨j, e1, e2, put_two hs hk hx hy (by rw [f2]; exact addF_pool _ hs) (by rw [f2]; exact addF_ext _ _) e2 e3⟩
    cases hb with
    | leaf hl hq hc =>
      rw [hq] at hc ⊢
      simp only [trmR] at hc ⊢
      unfold nmF at hc ⊢
      split at hc
      · rename_i g
        rw [if_pos g]
        simp only at hc ⊢
        obtain ⟨k1, k2, k3, k4⟩ := numF_ok g
        rw [k1] at hc ⊢
        obtain ⟨j, e1, e2, e3⟩ := fullF_put hc
        refine ⟨j, e1, e2, ?_⟩
        obtain ⟨f1, f2, f3⟩ := fullF_ok hc
        have hq : poolF (fullF (addF s ⟨1, figV 9 (dgRun tx (i + 1)), 0⟩)).1 = true := by rw [f2]; exact addF_pool _ hp
        rw [nodeAt_nat e2] at e3
        have e4 : normN ⟨1, figV 9 (dgRun tx (i + 1)), 0⟩ = ⟨1, figV 9 (dgRun tx (i + 1)), 0⟩ := rfl
        rw [e4] at e3
        rw [txt_name hq e2 (by rw [e3]), e3, ByteArray.size_append, sz1, num_size k2]
        unfold dEnd
        omega
      · simp at hc
    | two a b h0 h1 ht hj hq =>
      rw [hq]
      simp only
      have hb := two_is (b := bt tx i)
      rw [htx] at h1
      rw [h1] at hb
      have hb' : bt tx i = 40 ∨ bt tx i = 123 ∨ bt tx i = 91 := by
        have := hb.symm
        simpa using this
      obtain ⟨z1, z2, z3⟩ := sg_sizes hb'
      obtain ⟨x, y, x1, y1, hpb, x2, y2, e⟩ := two ht hp (by omega) (by omega)
      rw [x1, y1] at hj ⊢
      have hj2 : (jnF b.1 (bt tx i) [(x : Int), (y : Int)]).2.2 = 0 := hj
      obtain ⟨v, v1, v2, v3⟩ := join2 z3 hpb x2 y2 hj2
      refine ⟨v, v1, v2, ?_⟩
      have v3' : (txt ((trmR tx).join b.1 (bt (trmR tx).text i) [(x : Int), (y : Int)] (b.2.2.1 + 1)).1 v).size = _ := v3
      rw [v3']
      omega
    | one a h0 h1 h2 ha ca hj hq =>
      rw [hq]
      simp only
      have hb := trm_one (b := bt tx i) (tx := tx)
      rw [htx] at h2
      rw [h2] at hb
      have hb' : bt tx i = 35 ∨ bt tx i = 94 := by
        have := hb.symm
        simpa using this
      obtain ⟨z1, z2, z3⟩ := sg_sizes1 hb'
      have q1 : i + 1 ≤ tx.size := by omega
      have q2 : tx.size - (i + 1) < n := by omega
      have g1 := hgood s (i + 1) hp q1 q2
      have h3 := ih s (i + 1) hp q1
      rw [ha] at h3 g1
      obtain ⟨x, x1, x2, x3⟩ := h3 ca q2
      obtain ⟨_, _, ⟨_, _, m5⟩, _⟩ := g1 ca
      rw [x1] at hj ⊢
      have hj2 : (fullF (addF a.1 ⟨kindF (bt tx i), x, 0⟩)).2.2 = 0 := hj
      obtain ⟨j, e1, e2, e3⟩ := fullF_put hj2
      obtain ⟨f1, f2, f3⟩ := fullF_ok hj2
      refine ⟨j, e1, e2, ?_⟩
      have := put_one (m5 hp) z3 x2 (by rw [f2]; exact addF_pool _ (m5 hp)) (by rw [f2]; exact addF_ext _ _) e2 e3
      have t3 : (txt ((trmR tx).join a.1 (bt (trmR tx).text i) [(x : Int)] a.2.2.1).1 j).size = _ := this
      rw [t3]
      omega
    | arg a b h0 h1 h2 h3 hl ho ht hj hq =>
      rw [hq]
      simp only
      have hb := trm_arg (b := bt tx i) (tx := tx)
      rw [htx] at h3 hl
      rw [h3] at hb
      have hb' : bt tx i = 107 ∨ bt tx i = 42 := by
        have := hb.symm
        simpa using this
      obtain ⟨z1, z2, z3⟩ := sg_sizes2 hb'
      obtain ⟨x, y, x1, y1, hpb, x2, y2, e⟩ := two ht hp (by omega) (by omega)
      rw [x1, y1] at hj ⊢
      have hj2 : (jnF b.1 (bt tx i) [(x : Int), (y : Int)]).2.2 = 0 := hj
      obtain ⟨v, v1, v2, v3⟩ := join2 z3 hpb x2 y2 hj2
      refine ⟨v, v1, v2, ?_⟩
      have v3' : (txt ((trmR tx).join b.1 (bt (trmR tx).text i) [(x : Int), (y : Int)] (b.2.2.1 + 1)).1 v).size = _ := v3
      rw [v3']
      omega
/-- A reader of terms stands within its text. -/
theorem read_in (tx : ByteArray) : ∀ (n : Nat) (s : List Nd) (i : Nat) (c : Int), i ≤ tx.size → (rdF (trmR tx) n s i c).2.2.1 ≤ tx.size := by
  intro n
  have tk : ∀ (i : Nat) (c e : Int), i ≤ tx.size → (takeF tx i c e).1 ≤ tx.size := fun i c e h => by
    unfold takeF
    split
    · exact h
    · split
      · exact Nat.le_refl _
      · split
        · exact h
        · simp only; omega
  induction n with
  | zero => intro s i c h; exact h
  | succ n ih =>
    intro s i c h
    have htx : (trmR tx).text = tx := rfl
    have two : ∀ (e : Int) (s : List Nd) (i : Nat) (c : Int), i ≤ tx.size → ((trmR tx).two (rdF (trmR tx) n) e s i c).2.2.1 ≤ tx.size := fun e s i c h => tk _ _ _ (ih _ _ _ (tk _ _ _ (ih _ _ _ h)))
    have fin : ∀ (b : Int) (q : List Nd × List Int × Nat × Int), q.2.2.1 ≤ tx.size → ((trmR tx).fin b q).2.2.1 ≤ tx.size := fun b q hq => by
      unfold Rdr.fin
      split <;> exact hq
    unfold rdF
    rw [htx]
    split
    · exact h
    · split
      · exact Nat.le_refl _
      · rename_i hlt
        split
        · show (nmF tx s i).2.2.1 ≤ tx.size
          unfold nmF
          split
          · exact dEnd_le (by omega)
          · exact h
        · split
          · exact fin _ _ (two _ _ _ _ (by omega))
          · split
            · exact fin _ _ (ih _ _ _ (by omega))
            · split
              · exact fin _ _ (two _ _ _ _ (tk _ _ _ (by omega)))
              · exact h
end Go.Proofs.YtoegiepfcdkjaaaDoor.C

set_option linter.unusedVariables false
set_option linter.unusedSimpArgs false
set_option maxRecDepth 40000
namespace Go.Proofs.YtoegiepfcdkjaaaDoor.C
open Go.Sym Go.Proofs.YtoegiepfcdkjaaaDoor.I
theorem laws_big_c (bs : List Int)  : T 13 [aB bs] [] (.bool (decide (1048576 < bs.length))) ([]) := by
  refine semT' (S := S0) hm laws_big_ok (Nat.le_of_ble_eq_true rfl) ?_
  unfold laws_big; dsimp only
  simp
  exact LeV.ro rfl rfl (by simp; omega)
theorem laws_big_call {bs : List Int}  {S : FuncId → Bool} {H : List Blk} {K : A → Dl → Prop} (hS : S 13 = false) (hK : K (.bool (decide (1048576 < bs.length))) (.news [])) : @WCall' Go.Proofs.Tryd.prog S 13 [aB bs] H ⟨K⟩ :=
  WCall_pure hS (laws_big_c bs) (by simp) (by simp) (by simp) hK
theorem laws_big_k {bs : List Int}  {S : FuncId → Bool} {H : List Blk} {K : A → Dl → Prop} {zs : List A} (hS : S 13 = false) (hv : viewL (viewA 8 H) zs = some [aB bs]) (ho : noOwns zs = true ∨ nosl (.bool (decide (1048576 < bs.length))) = true) (hK : K (.bool (decide (1048576 < bs.length))) (.news [])) : @WCall' Go.Proofs.Tryd.prog S 13 zs H ⟨K⟩ :=
  WCall_pure hS (laws_big_c bs) hv ho (by simp) hK
/-- What TermParse answers, by cases. -/
theorem tp_cases (ns : List Nd) (tx : ByteArray) :
    ((tpF ns tx).2.2.2 ≠ 0 ∧ (tpF ns tx).2.1 = -1 ∧ 0 ≤ (tpF ns tx).2.2.1 ∧ (tpF ns tx).2.2.1 ≤ tx.size ∧ ((tpF ns tx).1.length = ns.length ∨ (tpF ns tx).1.length = 0)) ∨
    (∃ (q : List Nd) (v : Nat), tpF ns tx = (q, (v : Int), (tx.size : Int), 0) ∧ poolF q = true ∧ v < q.length ∧ (txt q v).size = tx.size ∧ tx.size ≤ 2000) := by
  unfold tpF
  split
  · left
    refine ⟨by simp, rfl, by simp, by simp, ?_⟩
    unfold orE
    split
    · exact .inl rfl
    · exact .inr rfl
  · rename_i h2
    split
    · left
      exact ⟨by simp, rfl, by simp, by simp, .inr rfl⟩
    · rename_i hp
      have hp : poolF ns = true := by simpa using hp
      have htx : (trmR tx).text = tx := rfl
      have hA : allRF (trmR tx) 2000 ns = if (rdF (trmR tx) (tx.size + 1) ns 0 0).2.2.2 = 0 ∧ (rdF (trmR tx) (tx.size + 1) ns 0 0).2.2.1 < tx.size then ((rdF (trmR tx) (tx.size + 1) ns 0 0).1, -1, (rdF (trmR tx) (tx.size + 1) ns 0 0).2.2.1, 6) else rdF (trmR tx) (tx.size + 1) ns 0 0 := by
        unfold allRF
        rw [htx, if_neg (by omega)]
      have hin := read_in tx (tx.size + 1) ns 0 0 (Nat.zero_le _)
      have hlen := read_len tx (tx.size + 1) ns 0 hp (Nat.zero_le _)
      have hpp := tp_pool hp (tx := tx)
      obtain ⟨q, eq⟩ : ∃ q, rdF (trmR tx) (tx.size + 1) ns 0 0 = q := ⟨_, rfl⟩
      rw [eq] at hA hin hlen hpp
      obtain ⟨r, er⟩ : ∃ r, allRF (trmR tx) 2000 ns = r := ⟨_, rfl⟩
      rw [er] at hA ⊢
      by_cases hc : q.2.2.2 = 0
      · by_cases hl : q.2.2.1 < tx.size
        · rw [if_pos ⟨hc, hl⟩] at hA
          subst hA
          left
          rw [if_neg (by simp)]
          exact ⟨by simp, rfl, by simp only; omega, by simp only; omega, .inl rfl⟩
        · rw [if_neg (fun h => hl h.2)] at hA
          subst hA
          right
          obtain ⟨v, v1, v2, v3⟩ := hlen hc (by omega)
          rw [if_pos hc]
          exact ⟨r.1, v, by rw [v1], hpp, v2, by omega, by omega⟩
      · rw [if_neg (fun h => hc h.1)] at hA
        subst hA
        left
        rw [if_neg hc]
        exact ⟨hc, rfl, by simp only; omega, by simp only; omega, .inl rfl⟩
theorem laws_FnParsed_c (bs : List Int) (ha : bs.length < 9223372036854775808) : T 5 [aB bs] [] (.bool true) ([]) := by
  refine semT' (S := S0) hm laws_FnParsed_ok (Nat.le_of_ble_eq_true rfl) ?_
  unfold laws_FnParsed; dsimp only
  simp
  refine laws_big_call (bs := bs) rfl ?_; simp
  refine br_intro' (fun g => ?_) (fun g => ?_) <;> (have g0 := g) <;> simp only [decide_eq_true_eq, decide_eq_false_iff_not] at g <;> simp [g0]
  · exact LeV.ro rfl rfl rfl
  have hb : bs.length < 9223372036854775807 := by omega
  refine WCall_pure rfl (spec_DrawTermParse_c bs hb) (by simp) (by simp) (by simp) ?_; simp
  obtain ⟨hl, hs⟩ := dtpF_size bs
  generalize dtpF bs = p at hl hs ⊢
  refine impl_TermParse_k (ns := p.1) (tx := p.2) (by omega) (by omega) rfl (by simp) (by simp [noslBlks]) ?_; simp [shiftB]
  refine spec_TermParse_k (ns := p.1) (tx := p.2) (by omega) (by omega) rfl (by simp) (by simp [noslBlks]) ?_; simp [shiftB]
  rcases tp_cases p.1 p.2 with ⟨c1, c2, c3, c4, c5⟩ | ⟨q, v, e, hq, hv, hz, h2⟩
  · have d3 : decide ((tpF p.1 p.2).2.2.1 < 0) = false := decide_eq_false (by omega)
    have d4 : decide ((p.2.size : Int) < (tpF p.1 p.2).2.2.1) = false := decide_eq_false (by omega)
    simp [d3, d4, c1, c2]
    rcases c5 with c5 | c5
    · have d5 : decide (((tpF p.1 p.2).1.length : Int) = p.1.length) = true := decide_eq_true (by omega)
      simp [d5]
      repeat (refine ck_intro' (by first | omega | (simp; omega) | kernel_rfl) ?_; try simp)
      exact LeV.ro rfl rfl (by first | rfl | simp)
    · by_cases c6 : (tpF p.1 p.2).1.length = p.1.length
      · have d5 : decide (((tpF p.1 p.2).1.length : Int) = p.1.length) = true := decide_eq_true (by omega)
        simp [d5]
        repeat (refine ck_intro' (by first | omega | (simp; omega) | kernel_rfl) ?_; try simp)
        exact LeV.ro rfl rfl (by first | rfl | simp)
      · have d5 : decide (((tpF p.1 p.2).1.length : Int) = p.1.length) = false := decide_eq_false (by omega)
        have c7 : (tpF p.1 p.2).1 = [] := List.eq_nil_of_length_eq_zero c5
        simp [d5]
        repeat (refine ck_intro' (by first | omega | (simp; omega) | kernel_rfl) ?_; try simp)
        exact LeV.ro rfl rfl (by simp [c7])
  · rw [e]
    have d3 : decide ((p.2.size : Int) < 0) = false := decide_eq_false (by omega)
    simp [d3]
    have hql := poolF_len hq
    refine impl_TermPrint_k (ns := q) (t := v) (by omega) rfl (by simp) (by simp) ?_; simp
    have hpos := txt_pos hq hv
    have hr := szT_rng hq _ v (Nat.lt_succ_self _) hv
    by_cases hs1 : szT q v ≤ 1000
    · have ep : tprF q v = txt q v := by
        unfold tprF
        rw [tsF_of hq hv, if_pos ⟨hr.1, hs1⟩]
        simp
      rw [ep]
      have hne : ¬ txt q v = ⟨#[]⟩ := fun h => by
        rw [h] at hpos
        exact absurd hpos (by decide)
      have d4 : decide (txt q v = ⟨#[]⟩) = false := decide_eq_false hne
      simp [d4]
      refine impl_TermParse_k (ns := q) (tx := txt q v) (by omega) (by omega) rfl (by simp) (by simp [noslBlks]) ?_; simp [shiftB]
      rw [tp_own hq hv (by omega)]
      simp
      refine impl_PoolOk_k (ns := q) rfl (by simp) (by simp [noslBlks]) ?_; simp [shiftB]
      rw [hq]
      repeat (refine ck_intro' (by first | omega | (simp; omega) | kernel_rfl) ?_; try simp)
      have hz2 : ((txt q v).size : Int) = p.2.size := by omega
      exact LeV.ro rfl rfl (by first | rfl | simp [hz2])
    · have ep : tprF q v = ⟨#[]⟩ := by
        unfold tprF
        rw [tsF_of hq hv, if_neg (fun h => hs1 h.2)]
      rw [ep]
      simp
      refine impl_TermSize_k (ns := q) (t := v) (by omega) rfl (by simp) (by simp) ?_; simp
      rw [tsF_of hq hv]
      exact LeV.ro rfl rfl (by simp; omega)
end Go.Proofs.YtoegiepfcdkjaaaDoor.C
