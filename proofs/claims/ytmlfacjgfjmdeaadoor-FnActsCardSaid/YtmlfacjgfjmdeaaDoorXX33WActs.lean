/- What is drawn for acts. Conditions: those that each theorem names. -/
import Derived.Test.YtmlfacjgfjmdeaaDoorXX18X32
set_option linter.unusedVariables false
set_option linter.unusedSimpArgs false
set_option maxRecDepth 40000
namespace Go.Proofs.YtmlfacjgfjmdeaaDoor.C
open Go.Sym Go.Proofs.YtmlfacjgfjmdeaaDoor.I
theorem encAs_takes : ∀ (L : List Ac) (m : Nat), (encAs L).take (m * 2) = encAs (L.take m)
  | [], m => by simp
  | x :: L, 0 => by simp
  | x :: L, m + 1 => by
    have := encAs_takes L m
    show (i6 x.k :: .str x.t :: encAs L).take ((m + 1) * 2) = i6 x.k :: .str x.t :: encAs (L.take m)
    rw [show (m + 1) * 2 = m * 2 + 1 + 1 by omega, List.take_succ_cons, List.take_succ_cons, this]
theorem frz_acts {H1 T : List Blk} (hcl : Closed1 H1.length H1 = true) {B b v m : Nat} {L L2 : List Ac} (hB : B ≤ H1.length) (hb : H1.length ≤ b) (hk : (H1 ++ T)[b]? = some ⟨v, false, 2, encAs L, none⟩) (hm : m = L2.length) (hL : L2 = L.take m) : LeV B (.ref b v 0 m) (H1 ++ T) (aAs L2) H1 := by
  have h := LeV.frz (B := B) hB hcl (b := b) (m := m) hb hk (by simp) (by
    have := congrArg List.length hL
    rw [List.length_take, ← hm] at this
    simp
    omega)
  simp only [encAs_takes, ← hL] at h
  rw [hm] at h ⊢
  exact h
def pk1 : List ByteArray := [⟨#[36, 97]⟩, ⟨#[63, 97]⟩, ⟨#[110, 53]⟩, ⟨#[]⟩]
def pk2 : List ByteArray := [⟨#[]⟩, ⟨#[65]⟩, ⟨#[97, 98]⟩, ⟨#[122]⟩, ⟨#[10]⟩]
/-- Acts laid before a role's. -/
def padF (bs : List Int) : Nat → List Ac → Cu → List Ac × Cu
  | 0, L, c => (L, c)
  | n + 1, L, c => if (L.length : Int) < 20 + (belowF bs c 2).1 then padF bs n (⟨1, ⟨#[122]⟩⟩ :: L) (belowF bs c 2).2 else (L, (belowF bs c 2).2)
def dAG (bs : List Int) (a : Ac) (M : List Ac) (t : Int × Cu) : List Ac × Cu :=
  if t.1 = 0 then (⟨2, (pickS bs t.2 pk1).1⟩ :: a :: M, (pickS bs t.2 pk1).2)
  else if t.1 = 1 then ((a :: M).take M.length, t.2)
  else if t.1 = 2 then (a :: M ++ [a], t.2)
  else if t.1 = 3 then padF bs 22 (a :: M) t.2
  else if t.1 = 4 then (⟨(belowF bs t.2 6).1, a.t⟩ :: M, (belowF bs t.2 6).2)
  else if t.1 = 5 then (⟨a.k, (pickS bs t.2 pk2).1⟩ :: M, (pickS bs t.2 pk2).2)
  else (a :: M, t.2)
def dAH (bs : List Int) (b : Int) (w : Int × Cu) : List Ac × Cu := dAG bs ((actsOf (rtB b w.1)).headD ⟨0, ⟨#[]⟩⟩) (actsOf (rtB b w.1)).tail (belowF bs w.2 15)
def dAF (bs : List Int) (s : Cu) : List Ac × Cu := dAH bs (1 + (belowF bs s 3).1) (belowF bs (belowF bs s 3).2 2)
theorem spec_l12DrawActs_m (H : List Blk) (cb : Nat) (bs : List Int) (s : Cu) (hc : cb < H.length) (hb : bs.length < 9223372036854775807) (hcl : Closed1 H.length H = true) : T 54 [.ptr cb 0 0] (cur H cb bs s) (aAs (dAF bs s).1) (cur H cb bs (dAF bs s).2) := by
  refine semT' (S := (fun f => [83, 55, 82].contains f)) hm spec_l12DrawActs_ok (Nat.le_of_ble_eq_true rfl) ?_
  unfold spec_l12DrawActs; dsimp only
  simp
  refine cur_call rfl cb bs s (belowF bs s 3).2 (cur_cur ..) (by rw [cur_cur, cur_cur]; exact spec_l1Below_m H cb bs s 3 hc hb) ?_; simp
  have hi := belowF_in bs s 3
  rw [show dAF bs s = dAH bs (1 + (belowF bs s 3).1) (belowF bs (belowF bs s 3).2 2) from rfl]
  generalize belowF bs s 3 = x at hi ⊢
  have hx := hi.2.1 (by omega)
  have hw0 : IntKind.i64.wrap (1 + x.1) = 1 + x.1 := wrap64 (by omega) (by omega)
  refine cur_call rfl cb bs x.2 (belowF bs x.2 2).2 (cur_cur ..) (by rw [cur_cur, cur_cur]; exact spec_l1Below_m H cb bs x.2 2 hc hb) ?_; simp
  have hj := belowF_in bs x.2 2
  generalize belowF bs x.2 2 = y at hj ⊢
  have hy := hj.2.1 (by omega)
  rw [hw0]
  refine spec_l12Acts_k (w := 1 + x.1) (s := y.1) (by omega) (by omega) (by omega) (by omega) rfl (by simp) (by simp [noslBlks]) ?_; simp [shiftB]
  have hlen := (role_ok (w := 1 + x.1) (s := y.1) (by omega) (by omega) (by omega) (by omega)).2
  rw [show dAH bs (1 + x.1) y = dAG bs ((actsOf (rtB (1 + x.1) y.1)).headD ⟨0, ⟨#[]⟩⟩) (actsOf (rtB (1 + x.1) y.1)).tail (belowF bs y.2 15) from rfl]
  generalize actsOf (rtB (1 + x.1) y.1) = L at hlen ⊢
  obtain ⟨a, M, rfl⟩ : ∃ a M, L = a :: M := by
    cases L with
    | nil => simp at hlen
    | cons a M => exact ⟨a, M, rfl⟩
  simp at hlen
  refine cur_call' rfl cb bs y.2 (belowF bs y.2 15).2 hc (spec_l1Below_m _ cb bs y.2 15 (cur_lt _ _ hc) hb) ?_; simp
  show _
  rw [show dAG bs ((a :: M).headD ⟨0, ⟨#[]⟩⟩) (a :: M).tail (belowF bs y.2 15) = dAG bs a M (belowF bs y.2 15) from rfl]
  generalize belowF bs y.2 15 = t
  have hE : encAs (a :: M) = i6 a.k :: .str a.t :: encAs M := rfl
  have hm2 : min 2 ((M.length + 1) * 2) = 2 := by omega
  have hT : (encAs (a :: M)).take ((M.length + 1) * 2) = encAs (a :: M) := List.take_of_length_le (by simp)
  have hcl2 := fun s => cur_closed (cb := cb) bs s hcl
  by_cases g0 : t.1 = 0
  · simp [g0]
    refine cur_call' rfl cb bs t.2 (pickS bs t.2 pk1).2 hc (spec_l1Pick_m _ cb bs t.2 (H.length + 1) 0 pk1 (cur_lt _ _ hc) hb (by simp [pk1]) (by simp [pk1]) (by simp [pk1, strs]) (by omega)) ?_; simp
    rw [show dAG bs a M t = (⟨2, (pickS bs t.2 pk1).1⟩ :: a :: M, (pickS bs t.2 pk1).2) by simp [dAG, g0]]
    generalize pickS bs t.2 pk1 = u
    refine ck_intro' ⟨fun x hx => List.all_eq_true.1 (encAs_one (a :: M)) x (List.mem_of_mem_take hx), by omega, by omega⟩ ?_; simp [hT]
    exact frz_acts (L := ⟨2, u.1⟩ :: a :: M) (by simpa using hcl2 u.2) (by simp) (by simp) (by simp; rfl) (by show 1 + (M.length + 1) = M.length + 1 + 1; omega) (by show _ = List.take (1 + (M.length + 1)) _; rw [show 1 + (M.length + 1) = M.length + 2 by omega]; simp)
  by_cases g1 : t.1 = 1
  · simp [g1]
    rw [show IntKind.i64.wrap (M.length : Int) = M.length from wrap64 (by omega) (by omega)]
    refine ck_intro' (by omega) ?_; simp
    rw [show dAG bs a M t = ((a :: M).take M.length, t.2) by simp [dAG, g0, g1]]
    exact frz_acts (L := a :: M) (by simpa using hcl2 t.2) (by simp) (by simp) (by simp) (by simp) (by simp)
  by_cases g2 : t.1 = 2
  · simp [g2]
    refine ck_intro' (by omega) ?_; simp
    rw [show dAG bs a M t = (a :: M ++ [a], t.2) by simp [dAG, g0, g1, g2]]
    simp [hm2, hE, splice]
    refine ck_intro' (by omega) ?_; simp
    exact frz_acts (L := a :: (M ++ [a])) (by simpa using hcl2 t.2) (by simp) (by simp) (by simp [encAs, encA]) (by simp) (List.take_of_length_le (by simp)).symm
  by_cases g3 : t.1 = 3
  · simp [g3]
    rw [show dAG bs a M t = padF bs 22 (a :: M) t.2 by simp [dAG, g0, g1, g2, g3]]
    clear g0 g1 g2 g3 hE hm2 hT
    generalize hR : padF bs 22 (a :: M) t.2 = R
    refine WLoop_env [(0, A.ptr cb 0 0), (3, A.ref H.length (M.length + 1) 0 (M.length + 1))] (by
      intro t y hy
      simp [Sym.get] at hy ⊢
      (repeat' split at hy) <;> simp_all) ?_
    refine WLoop_fam (fun p : List Ac × Nat × Cu => [(0, A.ptr cb 0 0), (3, A.ref H.length p.2.1 0 p.1.length)]) (fun p => cur H cb bs p.2.2 ++ [⟨p.2.1, false, 2, encAs p.1, none⟩]) (fun p => 22 - p.1.length)
      (fun p => 5 ≤ p.1.length ∧ p.1.length ≤ 21 ∧ R = padF bs (27 - p.1.length) p.1 p.2.2) ?_ (a :: M, M.length + 1, t.2) ⟨by simp; omega, by simp; omega, by rw [← hR]; simp only [List.length_cons, hlen]⟩
    rintro ⟨L, v, c⟩ ⟨h5, h21, hf⟩ ih
    simp only at h5 h21 hf
    simp
    refine cur_call' rfl cb bs c (belowF bs c 2).2 hc (spec_l1Below_m _ cb bs c 2 (cur_lt _ _ hc) hb) ?_; simp
    have hd := belowF_in bs c 2
    obtain ⟨k, hk⟩ : ∃ k, 27 - L.length = k + 1 := ⟨26 - L.length, by omega⟩
    have hst : R = if (L.length : Int) < 20 + (belowF bs c 2).1 then padF bs k (⟨1, ⟨#[122]⟩⟩ :: L) (belowF bs c 2).2 else (L, (belowF bs c 2).2) := by rw [hf, hk]; rfl
    generalize belowF bs c 2 = d at hd hst ⊢
    have hd2 := hd.2.1 (by omega)
    rw [show IntKind.i64.wrap (20 + d.1) = 20 + d.1 from wrap64 (by omega) (by omega)]
    have hT2 : (encAs L).take (L.length * 2) = encAs L := List.take_of_length_le (by simp)
    refine br_intro' (fun u => ?_) (fun u => ?_) <;> (have u0 := u) <;> simp only [decide_eq_true_eq, decide_eq_false_iff_not] at u <;> simp [u0]
    · rw [if_pos u] at hst
      refine ck_intro' ⟨by omega, by omega⟩ ?_; simp [hT2]
      refine WLoop_pick [H.length + 1] [(0, A.ptr cb 0 0), (3, A.ref H.length 1 0 (⟨1, ⟨#[122]⟩⟩ :: L : List Ac).length)] (cur H cb bs d.2) [⟨v, false, 2, encAs L, none⟩, ⟨1, false, 2, encAs (⟨1, ⟨#[122]⟩⟩ :: L), none⟩] [⟨1, false, 2, encAs (⟨1, ⟨#[122]⟩⟩ :: L), none⟩] (by simp; rfl) (by simp) (by simpa using hcl2 d.2) (by simp) (by simp [Pks_self _ (encAs_inAs H.length (⟨1, ⟨#[122]⟩⟩ :: L))]) (by simp; omega) ?_
      exact ih (⟨1, ⟨#[122]⟩⟩ :: L, 1, d.2) ⟨by simp; omega, by simp; omega, by rw [hst]; simp only [List.length_cons]; rw [show 27 - (L.length + 1) = k by omega]⟩ (by simp; omega)
    · rw [if_neg u] at hst
      subst hst
      exact frz_acts (L := L) (by simpa using hcl2 d.2) (by simp) (by simp) (by simp) (by simp) (by simp)
  by_cases g4 : t.1 = 4
  · simp [g4]
    refine cur_call' rfl cb bs t.2 (belowF bs t.2 6).2 hc (spec_l1Below_m _ cb bs t.2 6 (cur_lt _ _ hc) hb) ?_; simp
    rw [show dAG bs a M t = (⟨(belowF bs t.2 6).1, a.t⟩ :: M, (belowF bs t.2 6).2) by simp [dAG, g0, g1, g2, g3, g4]]
    generalize belowF bs t.2 6 = u
    refine ck_intro' (by omega) ?_; simp [hE]
    exact frz_acts (L := ⟨u.1, a.t⟩ :: M) (by simpa using hcl2 u.2) (by simp) (by simp) (by simp; rfl) (by simp) (by simp)
  by_cases g5 : t.1 = 5
  · simp [g5]
    refine cur_call' rfl cb bs t.2 (pickS bs t.2 pk2).2 hc (spec_l1Pick_m _ cb bs t.2 (H.length + 1) 0 pk2 (cur_lt _ _ hc) hb (by simp [pk2]) (by simp [pk2]) (by simp [pk2, strs]) (by omega)) ?_; simp
    rw [show dAG bs a M t = (⟨a.k, (pickS bs t.2 pk2).1⟩ :: M, (pickS bs t.2 pk2).2) by simp [dAG, g0, g1, g2, g3, g4, g5]]
    generalize pickS bs t.2 pk2 = u
    refine ck_intro' (by omega) ?_; simp [hE]
    exact frz_acts (L := ⟨a.k, u.1⟩ :: M) (by simpa using hcl2 u.2) (by simp) (by simp) (by simp; rfl) (by simp) (by simp)
  simp [g0, g1, g2, g3, g4, g5]
  rw [show dAG bs a M t = (a :: M, t.2) by simp [dAG, g0, g1, g2, g3, g4, g5]]
  exact frz_acts (L := a :: M) (by simpa using hcl2 t.2) (by simp) (by simp) (by simp) (by simp) (by simp)
end Go.Proofs.YtmlfacjgfjmdeaaDoor.C

set_option linter.unusedVariables false
set_option linter.unusedSimpArgs false
set_option maxRecDepth 40000
namespace Go.Proofs.YtmlfacjgfjmdeaaDoor.C
open Go.Sym Go.Proofs.YtmlfacjgfjmdeaaDoor.I
theorem padF_ok (bs : List Int) {m : Nat} (hm : 1 ≤ m) : ∀ (n : Nat) (L : List Ac) (c : Cu), L ≠ [] → L.length ≤ 21 → (∀ a ∈ L, a.t.size ≤ m) → (padF bs n L c).1 ≠ [] ∧ (padF bs n L c).1.length ≤ 21 ∧ ∀ a ∈ (padF bs n L c).1, a.t.size ≤ m
  | 0, L, c, h0, h1, h2 => ⟨h0, h1, h2⟩
  | n + 1, L, c, h0, h1, h2 => by
    have hd := belowF_in bs c 2
    unfold padF
    split
    · exact padF_ok bs hm n _ _ (by simp) (by simp; omega) (fun a ha => by
        simp only [List.mem_cons] at ha
        rcases ha with rfl | ha
        · exact hm
        · exact h2 a ha)
    · exact ⟨h0, h1, h2⟩
theorem dAG_ok (bs : List Int) (a : Ac) (M : List Ac) (t : Int × Cu) (hM : M.length = 4) (hs : ∀ x ∈ a :: M, x.t.size ≤ 1000) : (dAG bs a M t).1 ≠ [] ∧ (dAG bs a M t).1.length ≤ 21 ∧ ∀ x ∈ (dAG bs a M t).1, x.t.size ≤ 1000 := by
  have p1 := pickS_size bs t.2 (xs := pk1) (m := 2) (by simp [pk1]; decide)
  have p2 := pickS_size bs t.2 (xs := pk2) (m := 2) (by simp [pk2]; decide)
  have ha := hs a (List.mem_cons_self ..)
  have hm : ∀ x ∈ M, x.t.size ≤ 1000 := fun x hx => hs x (List.mem_cons_of_mem _ hx)
  unfold dAG
  repeat' split
  · refine ⟨by simp, by simp; omega, fun x hx => ?_⟩
    simp only [List.mem_cons] at hx
    rcases hx with rfl | rfl | hx
    · simp only; omega
    · exact ha
    · exact hm x hx
  · refine ⟨fun e => ?_, by simp; omega, fun x hx => hs x (List.mem_of_mem_take hx)⟩
    have := congrArg List.length e
    simp only [List.length_take, List.length_cons, List.length_nil] at this
    omega
  · refine ⟨by simp, by simp; omega, fun x hx => ?_⟩
    simp only [List.mem_append, List.mem_singleton] at hx
    rcases hx with hx | rfl
    · exact hs x hx
    · exact ha
  · exact padF_ok bs (by omega) 22 _ _ (by simp) (by simp; omega) hs
  · refine ⟨by simp, by simp; omega, fun x hx => ?_⟩
    simp only [List.mem_cons] at hx
    rcases hx with rfl | hx
    · exact ha
    · exact hm x hx
  · refine ⟨by simp, by simp; omega, fun x hx => ?_⟩
    simp only [List.mem_cons] at hx
    rcases hx with rfl | hx
    · simp only; omega
    · exact hm x hx
  · exact ⟨by simp, by simp; omega, hs⟩
theorem dAF_ok (bs : List Int) (s : Cu) : (dAF bs s).1 ≠ [] ∧ (dAF bs s).1.length ≤ 21 ∧ ∀ x ∈ (dAF bs s).1, x.t.size ≤ 1000 := by
  have hx := (belowF_in bs s 3).2.1 (by omega)
  have hx0 := (belowF_in bs s 3).1
  have hy := (belowF_in bs (belowF bs s 3).2 2).2.1 (by omega)
  have hy0 := (belowF_in bs (belowF bs s 3).2 2).1
  have hlen := (role_ok (w := 1 + (belowF bs s 3).1) (s := (belowF bs (belowF bs s 3).2 2).1) (by omega) (by omega) hy0 (by omega)).2
  have hsz := fun a h => role_size (w := 1 + (belowF bs s 3).1) (s := (belowF bs (belowF bs s 3).2 2).1) (a := a) h
  unfold dAF dAH
  generalize actsOf (rtB (1 + (belowF bs s 3).1) (belowF bs (belowF bs s 3).2 2).1) = L at hlen hsz ⊢
  cases L with
  | nil => simp at hlen
  | cons a M => exact dAG_ok bs a M _ (by simpa using hlen) hsz
/-- The act that is drawn. -/
def dActG (bs : List Int) (p : List Ac × Cu) : Ac := p.1.getD (belowF bs p.2 p.1.length).1.toNat ⟨0, ⟨#[]⟩⟩
def dActF (bs : List Int) : Ac := dActG bs (dAF bs ⟨0, newH bs⟩)
theorem dActF_size (bs : List Int) : (dActF bs).t.size ≤ 1000 := by
  obtain ⟨_, _, h⟩ := dAF_ok bs ⟨0, newH bs⟩
  unfold dActF dActG
  rw [List.getD_eq_getElem?_getD]
  cases e : (dAF bs ⟨0, newH bs⟩).1[(belowF bs (dAF bs ⟨0, newH bs⟩).2 (dAF bs ⟨0, newH bs⟩).1.length).1.toNat]? with
  | none => exact Nat.zero_le _
  | some x => exact h x (List.mem_of_getElem? e)
theorem spec_DrawActOk_c (bs : List Int) (hb : bs.length < 9223372036854775807) : T 27 [aB bs] [] (aAc (dActF bs)) ([]) := by
  refine semT' (S := (fun f => [83, 55, 82, 54].contains f)) hm spec_DrawActOk_ok (Nat.le_of_ble_eq_true rfl) ?_
  unfold spec_DrawActOk; dsimp only
  simp
  refine spec_l1New_k (bs := bs) hb rfl (by simp) (by simp [noslBlks]) ?_; simp [shiftB]
  refine cur_callR rfl 1 bs ⟨0, newH bs⟩ _ rfl (spec_l12DrawActs_m _ 1 bs _ (by simp) hb (by simp)) ?_; simp [cur]
  obtain ⟨h0, h1, h2⟩ := dAF_ok bs ⟨0, newH bs⟩
  rw [show dActF bs = dActG bs (dAF bs ⟨0, newH bs⟩) from rfl]
  generalize dAF bs ⟨0, newH bs⟩ = p at h0 h1 h2 ⊢
  have hp : 0 < p.1.length := List.length_pos_iff.2 h0
  have hi := belowF_in bs p.2 p.1.length
  obtain ⟨j, hj⟩ : ∃ j : Nat, (belowF bs p.2 p.1.length).1 = j := ⟨(belowF bs p.2 p.1.length).1.toNat, by omega⟩
  have hj' : j < p.1.length := by have := hi.2.1 (by omega); omega
  have hne : ¬ p.1.length = 0 := by omega
  have e : dActG bs p = p.1[j] := by simp [dActG, hj, hj']
  simp [h0, hne]
  refine cur_callR rfl 1 bs p.2 _ rfl (spec_l1Below_m _ 1 bs _ p.1.length (by simp) hb) ?_; simp [cur]
  rw [hj, e]
  obtain ⟨r, hr⟩ := encAs_at hj'
  have h3 : 2 ≤ p.1.length * 2 - j * 2 := by omega
  simp [hj', hr, h3]
  exact LeV.ro rfl rfl (by simp)
theorem spec_DrawActOk_call {bs : List Int} (hb : bs.length < 9223372036854775807) {S : FuncId → Bool} {H : List Blk} {K : A → Dl → Prop} (hS : S 27 = false) (hK : K (aAc (dActF bs)) (.news [])) : @WCall' Go.Proofs.Tryd.prog S 27 [aB bs] H ⟨K⟩ :=
  WCall_pure hS (spec_DrawActOk_c bs hb) (by simp) (by simp) (by simp) hK
theorem spec_DrawActOk_k {bs : List Int} (hb : bs.length < 9223372036854775807) {S : FuncId → Bool} {H : List Blk} {K : A → Dl → Prop} {zs : List A} (hS : S 27 = false) (hv : viewL (viewA 8 H) zs = some [aB bs]) (ho : noOwns zs = true ∨ nosl (aAc (dActF bs)) = true) (hK : K (aAc (dActF bs)) (.news [])) : @WCall' Go.Proofs.Tryd.prog S 27 zs H ⟨K⟩ :=
  WCall_pure hS (spec_DrawActOk_c bs hb) hv ho (by simp) hK
end Go.Proofs.YtmlfacjgfjmdeaaDoor.C

set_option linter.unusedVariables false
set_option linter.unusedSimpArgs false
set_option maxRecDepth 40000
namespace Go.Proofs.YtmlfacjgfjmdeaaDoor.C
open Go.Sym Go.Proofs.YtmlfacjgfjmdeaaDoor.I
theorem laws_big_c (bs : List Int)  : T 26 [aB bs] [] (.bool (decide (1048576 < bs.length))) ([]) := by
  refine semT' (S := S0) hm laws_big_ok (Nat.le_of_ble_eq_true rfl) ?_
  unfold laws_big; dsimp only
  simp
  exact LeV.ro rfl rfl (by simp; omega)
theorem laws_big_call {bs : List Int}  {S : FuncId → Bool} {H : List Blk} {K : A → Dl → Prop} (hS : S 26 = false) (hK : K (.bool (decide (1048576 < bs.length))) (.news [])) : @WCall' Go.Proofs.Tryd.prog S 26 [aB bs] H ⟨K⟩ :=
  WCall_pure hS (laws_big_c bs) (by simp) (by simp) (by simp) hK
theorem laws_big_k {bs : List Int}  {S : FuncId → Bool} {H : List Blk} {K : A → Dl → Prop} {zs : List A} (hS : S 26 = false) (hv : viewL (viewA 8 H) zs = some [aB bs]) (ho : noOwns zs = true ∨ nosl (.bool (decide (1048576 < bs.length))) = true) (hK : K (.bool (decide (1048576 < bs.length))) (.news [])) : @WCall' Go.Proofs.Tryd.prog S 26 zs H ⟨K⟩ :=
  WCall_pure hS (laws_big_c bs) hv ho (by simp) hK
theorem role_one (a : Ac) : roleF [a] = (actF a && decide (a.k = 4)) := by
  simp only [roleF]
  rw [show allF (actAt [a]) [a].length 0 = actAt [a] 0 by rw [allF_at (by simp), allF_end (by simp)]; simp, actAt_eq (by simp)]
  simp [inF]
theorem role_two (a : Ac) : roleF [a, a] = false := by
  simp only [roleF]
  have h : allF (actAt [a, a]) [a, a].length 0 = (actAt [a, a] 0 && actAt [a, a] 1) := by rw [allF_at (by simp), allF_at (by simp), allF_end (by simp)]; simp
  rw [h, actAt_eq (by simp), actAt_eq (by simp)]
  simp
  by_cases g : a.k = 4 <;> simp [g]
theorem laws_FnActs_c (bs : List Int) (ha : bs.length < 9223372036854775808) : T 8 [aB bs] [] (.bool true) ([]) := by
  refine semT' (S := S0) hm laws_FnActs_ok (Nat.le_of_ble_eq_true rfl) ?_
  unfold laws_FnActs; dsimp only
  simp
  refine laws_big_call (bs := bs) rfl ?_; simp
  refine br_intro' (fun g => ?_) (fun g => ?_) <;> (have g0 := g) <;> simp only [decide_eq_true_eq, decide_eq_false_iff_not] at g <;> simp [g0]
  · exact LeV.ro rfl rfl rfl
  have hb : bs.length < 9223372036854775807 := by omega
  refine WCall_pure rfl (spec_DrawActOk_c bs hb) (by simp) (by simp) (by simp) ?_; simp
  have hz := dActF_size bs
  generalize dActF bs = a at hz ⊢
  have hz2 : a.t.size ≤ 281474976710656 := by omega
  refine impl_ActOk_call (a := a) hz2 rfl ?_; simp
  refine spec_ActOk_call (a := a) hz2 rfl ?_; simp
  refine impl_RoleOk_k (xs := [a]) (by simp) (by simpa using hz2) rfl (by simp [encAs, encA]) (by simp) ?_; simp
  rw [role_one]
  have two : ∀ {S : FuncId → Bool} {H : List Blk} {K : A → Dl → Prop} {zs : List A}, S 22 = false → viewL (viewA 8 H) zs = some [aAs [a, a]] → K (.bool false) (.news []) → @WCall' Go.Proofs.Tryd.prog S 22 zs H ⟨K⟩ := fun hS hv hK =>
    impl_RoleOk_k (xs := [a, a]) (by simp) (by simpa using hz2) hS hv (.inr rfl) (by rw [role_two]; exact hK)
  rcases Bool.eq_false_or_eq_true (actF a) with g | g <;> by_cases k : a.k = 4
  all_goals
    simp [g, k]
    try (refine two rfl (by simp [encAs, encA] <;> omega) ?_; simp)
    try exact LeV.ro rfl rfl (by simp)
end Go.Proofs.YtmlfacjgfjmdeaaDoor.C
