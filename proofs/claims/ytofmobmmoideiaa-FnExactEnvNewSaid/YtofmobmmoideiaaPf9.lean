/- The Go functions of this seat as plain Lean functions, and the proofs that each call answers as its function says; laid by a program (gp.py of this repository). Conditions: those that each theorem names. -/
import Derived.Test.YtofmobmmoideiaaP0
import Derived.ChangeKeysEq
namespace Go.Proofs.Ytofmobmmoideiaa.P
open Go.RowKit Go.Proofs.YtofmobmmoideiaaW.PrintWords Go.Proofs.YtofmobmmoideiaaW.PrintLast Go.Proofs.YtofmobmmoideiaaW.PrintMore
attribute [local go_sem] max2_int min2_int max_two min_two max_three min_three max_four min_four   -- for this text's walks alone
set_option linter.unusedVariables false
set_option linter.unusedSimpArgs false

/-! ### spec_RoleText: function 9 -/
mutual
def spec_RoleText.j0 : Nat → Int → Int → Bool → Option (ByteArray)
  | 0, _, _, _ => none
  | k + 1, x0, x1, x5 => if x5 = true then (some (⟨#[102, 114, 101, 115, 104, 32, 120, 10, 115, 101, 110, 100, 32, 94, 36, 120, 10, 116, 97, 107, 101, 32, 40, 63, 121, 44, 91, 40, 110, 53, 44, 40, 40, 94, 36, 120, 44, 36, 121, 41, 44, 36, 109, 41, 41, 44, 36, 113, 93, 41, 10, 115, 101, 110, 100, 32, 91, 40, 110, 54, 44, 40, 40, 36, 121, 44, 94, 36, 120, 41, 44, 36, 112, 41, 41, 44, 36, 115, 93, 10, 99, 108, 97, 105, 109, 32, 107, 40, 120, 40, 36, 120, 44, 36, 121, 41, 44, 40, 94, 36, 120, 44, 36, 121, 41, 41, 10]⟩ : ByteArray)) else (if x0 = 1 then (spec_RoleText.j1 k x0 x1 (x1 == 1)) else (spec_RoleText.j1 k x0 x1 false))
def spec_RoleText.j1 : Nat → Int → Int → Bool → Option (ByteArray)
  | 0, _, _, _ => none
  | k + 1, x0, x1, x12 => if x12 = true then (some (⟨#[102, 114, 101, 115, 104, 32, 121, 10, 116, 97, 107, 101, 32, 63, 120, 10, 115, 101, 110, 100, 32, 40, 94, 36, 121, 44, 91, 40, 110, 53, 44, 40, 40, 36, 120, 44, 94, 36, 121, 41, 44, 36, 112, 41, 41, 44, 36, 115, 93, 41, 10, 116, 97, 107, 101, 32, 91, 40, 110, 54, 44, 40, 40, 94, 36, 121, 44, 36, 120, 41, 44, 36, 109, 41, 41, 44, 36, 113, 93, 10, 99, 108, 97, 105, 109, 32, 107, 40, 120, 40, 36, 121, 44, 36, 120, 41, 44, 40, 36, 120, 44, 94, 36, 121, 41, 41, 10]⟩ : ByteArray)) else (if x0 = 2 then (spec_RoleText.j2 k x0 x1 (x1 == 0)) else (spec_RoleText.j2 k x0 x1 false))
def spec_RoleText.j2 : Nat → Int → Int → Bool → Option (ByteArray)
  | 0, _, _, _ => none
  | k + 1, x0, x1, x19 => if x19 = true then (some (⟨#[102, 114, 101, 115, 104, 32, 120, 10, 115, 101, 110, 100, 32, 36, 120, 10, 116, 97, 107, 101, 32, 123, 40, 110, 53, 44, 40, 40, 36, 120, 44, 63, 121, 41, 44, 36, 112, 41, 41, 44, 36, 107, 125, 10, 115, 101, 110, 100, 32, 123, 40, 110, 54, 44, 40, 40, 36, 121, 44, 36, 120, 41, 44, 36, 109, 41, 41, 44, 36, 107, 125, 10, 99, 108, 97, 105, 109, 32, 107, 40, 36, 107, 44, 40, 36, 120, 44, 36, 121, 41, 41, 10]⟩ : ByteArray)) else (if x0 = 2 then (spec_RoleText.j3 k x0 x1 (x1 == 1)) else (spec_RoleText.j3 k x0 x1 false))
def spec_RoleText.j3 : Nat → Int → Int → Bool → Option (ByteArray)
  | 0, _, _, _ => none
  | k + 1, x0, x1, x26 => if x26 = true then (some (⟨#[102, 114, 101, 115, 104, 32, 121, 10, 116, 97, 107, 101, 32, 63, 120, 10, 115, 101, 110, 100, 32, 123, 40, 110, 53, 44, 40, 40, 36, 120, 44, 36, 121, 41, 44, 36, 109, 41, 41, 44, 36, 107, 125, 10, 116, 97, 107, 101, 32, 123, 40, 110, 54, 44, 40, 40, 36, 121, 44, 36, 120, 41, 44, 36, 112, 41, 41, 44, 36, 107, 125, 10, 99, 108, 97, 105, 109, 32, 107, 40, 36, 107, 44, 40, 36, 120, 44, 36, 121, 41, 41, 10]⟩ : ByteArray)) else (if x0 = 3 then (spec_RoleText.j4 k x0 x1 (x1 == 0)) else (spec_RoleText.j4 k x0 x1 false))
def spec_RoleText.j4 : Nat → Int → Int → Bool → Option (ByteArray)
  | 0, _, _, _ => none
  | k + 1, x0, x1, x33 => if x33 = true then (some (⟨#[102, 114, 101, 115, 104, 32, 120, 10, 115, 101, 110, 100, 32, 94, 36, 120, 10, 116, 97, 107, 101, 32, 40, 63, 121, 44, 35, 40, 110, 53, 44, 107, 40, 40, 120, 40, 36, 120, 44, 36, 117, 41, 44, 120, 40, 36, 116, 44, 36, 121, 41, 41, 44, 40, 120, 40, 36, 120, 44, 36, 121, 41, 44, 40, 40, 94, 36, 120, 44, 36, 121, 41, 44, 40, 36, 109, 44, 36, 112, 41, 41, 41, 41, 41, 41, 10, 115, 101, 110, 100, 32, 35, 40, 110, 54, 44, 107, 40, 40, 120, 40, 36, 120, 44, 36, 117, 41, 44, 120, 40, 36, 116, 44, 36, 121, 41, 41, 44, 40, 120, 40, 36, 120, 44, 36, 121, 41, 44, 40, 40, 94, 36, 120, 44, 36, 121, 41, 44, 40, 36, 109, 44, 36, 112, 41, 41, 41, 41, 41, 10, 99, 108, 97, 105, 109, 32, 107, 40, 40, 120, 40, 36, 120, 44, 36, 117, 41, 44, 120, 40, 36, 116, 44, 36, 121, 41, 41, 44, 40, 120, 40, 36, 120, 44, 36, 121, 41, 44, 40, 40, 94, 36, 120, 44, 36, 121, 41, 44, 40, 36, 109, 44, 36, 112, 41, 41, 41, 41, 10]⟩ : ByteArray)) else (if x0 = 3 then (if x1 = 1 then (some (⟨#[102, 114, 101, 115, 104, 32, 121, 10, 116, 97, 107, 101, 32, 63, 120, 10, 115, 101, 110, 100, 32, 40, 94, 36, 121, 44, 35, 40, 110, 53, 44, 107, 40, 40, 120, 40, 36, 116, 44, 36, 120, 41, 44, 120, 40, 36, 121, 44, 36, 117, 41, 41, 44, 40, 120, 40, 36, 121, 44, 36, 120, 41, 44, 40, 40, 36, 120, 44, 94, 36, 121, 41, 44, 40, 36, 112, 44, 36, 109, 41, 41, 41, 41, 41, 41, 10, 116, 97, 107, 101, 32, 35, 40, 110, 54, 44, 107, 40, 40, 120, 40, 36, 116, 44, 36, 120, 41, 44, 120, 40, 36, 121, 44, 36, 117, 41, 41, 44, 40, 120, 40, 36, 121, 44, 36, 120, 41, 44, 40, 40, 36, 120, 44, 94, 36, 121, 41, 44, 40, 36, 112, 44, 36, 109, 41, 41, 41, 41, 41, 10, 99, 108, 97, 105, 109, 32, 107, 40, 40, 120, 40, 36, 116, 44, 36, 120, 41, 44, 120, 40, 36, 121, 44, 36, 117, 41, 41, 44, 40, 120, 40, 36, 121, 44, 36, 120, 41, 44, 40, 40, 36, 120, 44, 94, 36, 121, 41, 44, 40, 36, 112, 44, 36, 109, 41, 41, 41, 41, 10]⟩ : ByteArray)) else (some (⟨#[]⟩ : ByteArray))) else (some (⟨#[]⟩ : ByteArray)))
end
def spec_RoleText.f (k : Nat) (a0 : Int) (a1 : Int) : Option (ByteArray) := if a0 = 1 then (spec_RoleText.j0 k a0 a1 (a1 == 0)) else (spec_RoleText.j0 k a0 a1 false)
theorem spec_RoleText.mono_l : ∀ k, (∀ y0 y1 y2, LeO (spec_RoleText.j0 k y0 y1 y2) (spec_RoleText.j0 (k + 1) y0 y1 y2)) ∧ (∀ y0 y1 y2, LeO (spec_RoleText.j1 k y0 y1 y2) (spec_RoleText.j1 (k + 1) y0 y1 y2)) ∧ (∀ y0 y1 y2, LeO (spec_RoleText.j2 k y0 y1 y2) (spec_RoleText.j2 (k + 1) y0 y1 y2)) ∧ (∀ y0 y1 y2, LeO (spec_RoleText.j3 k y0 y1 y2) (spec_RoleText.j3 (k + 1) y0 y1 y2)) ∧ (∀ y0 y1 y2, LeO (spec_RoleText.j4 k y0 y1 y2) (spec_RoleText.j4 (k + 1) y0 y1 y2))
  | 0 => ⟨fun _ _ _ r h => by simp [spec_RoleText.j0] at h, fun _ _ _ r h => by simp [spec_RoleText.j1] at h, fun _ _ _ r h => by simp [spec_RoleText.j2] at h, fun _ _ _ r h => by simp [spec_RoleText.j3] at h, fun _ _ _ r h => by simp [spec_RoleText.j4] at h⟩
  | k + 1 => by
    obtain ⟨ih0, ih1, ih2, ih3, ih4⟩ := spec_RoleText.mono_l k
    refine ⟨?_, ?_, ?_, ?_, ?_⟩
    · intro y0 y1 y2
      unfold spec_RoleText.j0
      repeat' first
      | (with_reducible exact ih0 _ _ _)
      | (with_reducible exact ih1 _ _ _)
      | (with_reducible exact ih2 _ _ _)
      | (with_reducible exact ih3 _ _ _)
      | (with_reducible exact ih4 _ _ _)
      | (with_reducible exact LeO.refl _)
      | (with_reducible exact LeO.none _)
      | (with_reducible refine LeO.ite ?_ ?_)
      | (with_reducible refine LeO.bind ?_ (fun _ => ?_))
      | exact ih0 _ _ _
      | exact ih1 _ _ _
      | exact ih2 _ _ _
      | exact ih3 _ _ _
      | exact ih4 _ _ _
      | exact LeO.none _
      | refine LeO.ite ?_ ?_
      | refine LeO.bind ?_ (fun _ => ?_)
    · intro y0 y1 y2
      unfold spec_RoleText.j1
      repeat' first
      | (with_reducible exact ih0 _ _ _)
      | (with_reducible exact ih1 _ _ _)
      | (with_reducible exact ih2 _ _ _)
      | (with_reducible exact ih3 _ _ _)
      | (with_reducible exact ih4 _ _ _)
      | (with_reducible exact LeO.refl _)
      | (with_reducible exact LeO.none _)
      | (with_reducible refine LeO.ite ?_ ?_)
      | (with_reducible refine LeO.bind ?_ (fun _ => ?_))
      | exact ih0 _ _ _
      | exact ih1 _ _ _
      | exact ih2 _ _ _
      | exact ih3 _ _ _
      | exact ih4 _ _ _
      | exact LeO.none _
      | refine LeO.ite ?_ ?_
      | refine LeO.bind ?_ (fun _ => ?_)
    · intro y0 y1 y2
      unfold spec_RoleText.j2
      repeat' first
      | (with_reducible exact ih0 _ _ _)
      | (with_reducible exact ih1 _ _ _)
      | (with_reducible exact ih2 _ _ _)
      | (with_reducible exact ih3 _ _ _)
      | (with_reducible exact ih4 _ _ _)
      | (with_reducible exact LeO.refl _)
      | (with_reducible exact LeO.none _)
      | (with_reducible refine LeO.ite ?_ ?_)
      | (with_reducible refine LeO.bind ?_ (fun _ => ?_))
      | exact ih0 _ _ _
      | exact ih1 _ _ _
      | exact ih2 _ _ _
      | exact ih3 _ _ _
      | exact ih4 _ _ _
      | exact LeO.none _
      | refine LeO.ite ?_ ?_
      | refine LeO.bind ?_ (fun _ => ?_)
    · intro y0 y1 y2
      unfold spec_RoleText.j3
      repeat' first
      | (with_reducible exact ih0 _ _ _)
      | (with_reducible exact ih1 _ _ _)
      | (with_reducible exact ih2 _ _ _)
      | (with_reducible exact ih3 _ _ _)
      | (with_reducible exact ih4 _ _ _)
      | (with_reducible exact LeO.refl _)
      | (with_reducible exact LeO.none _)
      | (with_reducible refine LeO.ite ?_ ?_)
      | (with_reducible refine LeO.bind ?_ (fun _ => ?_))
      | exact ih0 _ _ _
      | exact ih1 _ _ _
      | exact ih2 _ _ _
      | exact ih3 _ _ _
      | exact ih4 _ _ _
      | exact LeO.none _
      | refine LeO.ite ?_ ?_
      | refine LeO.bind ?_ (fun _ => ?_)
    · intro y0 y1 y2
      unfold spec_RoleText.j4
      repeat' first
      | (with_reducible exact ih0 _ _ _)
      | (with_reducible exact ih1 _ _ _)
      | (with_reducible exact ih2 _ _ _)
      | (with_reducible exact ih3 _ _ _)
      | (with_reducible exact ih4 _ _ _)
      | (with_reducible exact LeO.refl _)
      | (with_reducible exact LeO.none _)
      | (with_reducible refine LeO.ite ?_ ?_)
      | (with_reducible refine LeO.bind ?_ (fun _ => ?_))
      | exact ih0 _ _ _
      | exact ih1 _ _ _
      | exact ih2 _ _ _
      | exact ih3 _ _ _
      | exact ih4 _ _ _
      | exact LeO.none _
      | refine LeO.ite ?_ ?_
      | refine LeO.bind ?_ (fun _ => ?_)
theorem spec_RoleText.mono : ∀ a0 a1 k, LeO (spec_RoleText.f k a0 a1) (spec_RoleText.f (k + 1) a0 a1) := by
  intro a0 a1 k
  obtain ⟨ih0, ih1, ih2, ih3, ih4⟩ := spec_RoleText.mono_l k
  unfold spec_RoleText.f
  repeat' first
      | (with_reducible exact ih0 _ _ _)
      | (with_reducible exact ih1 _ _ _)
      | (with_reducible exact ih2 _ _ _)
      | (with_reducible exact ih3 _ _ _)
      | (with_reducible exact ih4 _ _ _)
      | (with_reducible exact LeO.refl _)
      | (with_reducible exact LeO.none _)
      | (with_reducible refine LeO.ite ?_ ?_)
      | (with_reducible refine LeO.bind ?_ (fun _ => ?_))
      | exact ih0 _ _ _
      | exact ih1 _ _ _
      | exact ih2 _ _ _
      | exact ih3 _ _ _
      | exact ih4 _ _ _
      | exact LeO.none _
      | refine LeO.ite ?_ ?_
      | refine LeO.bind ?_ (fun _ => ?_)
set_option maxHeartbeats 8000000 in
set_option maxRecDepth 100000 in
theorem spec_RoleText.calls (k : Nat) (a0 : Int) (a1 : Int) (r : ByteArray) (w : World) (h : spec_RoleText.f k a0 a1 = some r) :
    Calls Try.prog 9 #[.int .i64 a0, .int .i64 a1] w fun e w' => e = .returned (.string r) ∧ Drawn0 w w' := by
  have H : (if a0 = 1 then (spec_RoleText.j0 k a0 a1 (a1 == 0)) else (spec_RoleText.j0 k a0 a1 false)) = some r := h
  clear h
  have HC3 := Aside0.mk H
  clear H
  go_enter Try.func9, Try.ntmps9
  go_upto_region 1 with (fail)
  go_cut [5] (fun v5 wc => ∃ (kq : Nat) (x5_2 : Bool), v5 = .bool x5_2 ∧ Aside0 (spec_RoleText.j0 kq a0 a1 x5_2 = some r) ∧ Aside0 (kq ≤ k) ∧ Drawn0 w wc)
  case first =>
    have H := HC3.out
    clear HC3
    by_cases c4 : a0 = 1
    · rw [if_pos c4] at H
      have c4b0 : (a0 == 1) = true := beq_iff_eq.mpr c4
      have c4b1 : (a0 != 1) = false := bne_eq_false_iff_eq.mpr c4
      clear c4
      (first | rw [c4b0] | (simp only [i64_w, i32_w]; rw [c4b0]) | skip)
      have H' := Aside0.mk H
      clear H
      go_wp2
      go_meet
      case rel => exact ⟨_, ((a1 == 0)), (by first | rfl | (simp; done) | (simp [*]; done)), H', ⟨by first | omega | exact Nat.le_refl _⟩, by repeat (first | exact Drawn0.refl _ | apply Drawn0.step)⟩
    · rw [if_neg c4] at H
      have c4b0 : (a0 == 1) = false := beq_eq_false_iff_ne.mpr c4
      have c4b1 : (a0 != 1) = true := bne_iff_ne.mpr c4
      (first | rw [c4b0] | (simp only [i64_w, i32_w]; rw [c4b0]) | skip)
      have H' := Aside0.mk H
      clear H
      go_wp2
      go_meet
      case rel => exact ⟨_, (false), (by first | rfl | (simp; done) | (simp [*]; done)), H', ⟨by first | omega | exact Nat.le_refl _⟩, by repeat (first | exact Drawn0.refl _ | apply Drawn0.step)⟩
  case rest =>
    clear HC3
    try clear p2
    try clear c4
    try clear c4b0
    try clear c4b1
    obtain ⟨kq, x5_2, rfl, HA, HJ2, ⟨mc2, rfl⟩⟩ := hcut
    cases kq with
    | zero => exact absurd HA.out (by simp [spec_RoleText.j0])
    | succ kj2 =>
      have H := HA.out
      clear HA
      simp only [spec_RoleText.j0] at H
      by_cases c5 : x5_2 = true
      · subst c5
        have H1 : (some (⟨#[102, 114, 101, 115, 104, 32, 120, 10, 115, 101, 110, 100, 32, 94, 36, 120, 10, 116, 97, 107, 101, 32, 40, 63, 121, 44, 91, 40, 110, 53, 44, 40, 40, 94, 36, 120, 44, 36, 121, 41, 44, 36, 109, 41, 41, 44, 36, 113, 93, 41, 10, 115, 101, 110, 100, 32, 91, 40, 110, 54, 44, 40, 40, 36, 121, 44, 94, 36, 120, 41, 44, 36, 112, 41, 41, 44, 36, 115, 93, 10, 99, 108, 97, 105, 109, 32, 107, 40, 120, 40, 36, 120, 44, 36, 121, 41, 44, 40, 94, 36, 120, 44, 36, 121, 41, 41, 10]⟩ : ByteArray)) = some r := by rw [if_pos rfl] at H; exact H
        clear H
        have H := H1
        clear H1
        obtain rfl := Option.some.inj H
        go_wp2
        go_ret
        exact ⟨by first | rfl | (simp; done) | (simp [*]; done), by repeat (first | exact Drawn0.refl _ | apply Drawn0.step)⟩
      · replace c5 := Bool.eq_false_iff.mpr c5
        subst c5
        have H1 : (if a0 = 1 then (spec_RoleText.j1 kj2 a0 a1 (a1 == 1)) else (spec_RoleText.j1 kj2 a0 a1 false)) = some r := by rw [if_neg (show ¬ (false = true) by decide)] at H; exact H
        clear H
        have H := H1
        clear H1
        have HC6 := Aside0.mk H
        clear H
        go_upto_region 3 with (fail)
        go_cut [12] (fun v12 wc => ∃ (kq : Nat) (x12_5 : Bool), v12 = .bool x12_5 ∧ Aside0 (spec_RoleText.j1 kq a0 a1 x12_5 = some r) ∧ Aside0 (kq ≤ kj2) ∧ Drawn0 w wc)
        case first =>
          have H := HC6.out
          clear HC6
          by_cases c7 : a0 = 1
          · rw [if_pos c7] at H
            have c7b0 : (a0 == 1) = true := beq_iff_eq.mpr c7
            have c7b1 : (a0 != 1) = false := bne_eq_false_iff_eq.mpr c7
            clear c7
            (first | rw [c7b0] | (simp only [i64_w, i32_w]; rw [c7b0]) | skip)
            have H' := Aside0.mk H
            clear H
            go_wp2
            go_meet
            case rel => exact ⟨_, ((a1 == 1)), (by first | rfl | (simp; done) | (simp [*]; done)), H', ⟨by have := HJ2.out; first | omega | exact Nat.le_refl _⟩, by repeat (first | exact Drawn0.refl _ | apply Drawn0.step)⟩
          · rw [if_neg c7] at H
            have c7b0 : (a0 == 1) = false := beq_eq_false_iff_ne.mpr c7
            have c7b1 : (a0 != 1) = true := bne_iff_ne.mpr c7
            (first | rw [c7b0] | (simp only [i64_w, i32_w]; rw [c7b0]) | skip)
            have H' := Aside0.mk H
            clear H
            go_wp2
            go_meet
            case rel => exact ⟨_, (false), (by first | rfl | (simp; done) | (simp [*]; done)), H', ⟨by have := HJ2.out; first | omega | exact Nat.le_refl _⟩, by repeat (first | exact Drawn0.refl _ | apply Drawn0.step)⟩
        case rest =>
          clear HC6
          try clear c2
          try clear p2
          try clear c4
          try clear c4b0
          try clear c4b1
          try clear c5
          try clear c7
          try clear c7b0
          try clear c7b1
          try clear p2
          obtain ⟨kq, x12_5, rfl, HA, HJ5, ⟨mc5, rfl⟩⟩ := hcut
          cases kq with
          | zero => exact absurd HA.out (by simp [spec_RoleText.j1])
          | succ kj5 =>
            have H := HA.out
            clear HA
            simp only [spec_RoleText.j1] at H
            by_cases c8 : x12_5 = true
            · subst c8
              have H1 : (some (⟨#[102, 114, 101, 115, 104, 32, 121, 10, 116, 97, 107, 101, 32, 63, 120, 10, 115, 101, 110, 100, 32, 40, 94, 36, 121, 44, 91, 40, 110, 53, 44, 40, 40, 36, 120, 44, 94, 36, 121, 41, 44, 36, 112, 41, 41, 44, 36, 115, 93, 41, 10, 116, 97, 107, 101, 32, 91, 40, 110, 54, 44, 40, 40, 94, 36, 121, 44, 36, 120, 41, 44, 36, 109, 41, 41, 44, 36, 113, 93, 10, 99, 108, 97, 105, 109, 32, 107, 40, 120, 40, 36, 121, 44, 36, 120, 41, 44, 40, 36, 120, 44, 94, 36, 121, 41, 41, 10]⟩ : ByteArray)) = some r := by rw [if_pos rfl] at H; exact H
              clear H
              have H := H1
              clear H1
              obtain rfl := Option.some.inj H
              go_wp2
              go_ret
              exact ⟨by first | rfl | (simp; done) | (simp [*]; done), by repeat (first | exact Drawn0.refl _ | apply Drawn0.step)⟩
            · replace c8 := Bool.eq_false_iff.mpr c8
              subst c8
              have H1 : (if a0 = 2 then (spec_RoleText.j2 kj5 a0 a1 (a1 == 0)) else (spec_RoleText.j2 kj5 a0 a1 false)) = some r := by rw [if_neg (show ¬ (false = true) by decide)] at H; exact H
              clear H
              have H := H1
              clear H1
              have HC9 := Aside0.mk H
              clear H
              go_upto_region 5 with (fail)
              go_cut [19] (fun v19 wc => ∃ (kq : Nat) (x19_8 : Bool), v19 = .bool x19_8 ∧ Aside0 (spec_RoleText.j2 kq a0 a1 x19_8 = some r) ∧ Aside0 (kq ≤ kj5) ∧ Drawn0 w wc)
              case first =>
                have H := HC9.out
                clear HC9
                by_cases c10 : a0 = 2
                · rw [if_pos c10] at H
                  have c10b0 : (a0 == 2) = true := beq_iff_eq.mpr c10
                  have c10b1 : (a0 != 2) = false := bne_eq_false_iff_eq.mpr c10
                  clear c10
                  (first | rw [c10b0] | (simp only [i64_w, i32_w]; rw [c10b0]) | skip)
                  have H' := Aside0.mk H
                  clear H
                  go_wp2
                  go_meet
                  case rel => exact ⟨_, ((a1 == 0)), (by first | rfl | (simp; done) | (simp [*]; done)), H', ⟨by have := HJ2.out; have := HJ5.out; first | omega | exact Nat.le_refl _⟩, by repeat (first | exact Drawn0.refl _ | apply Drawn0.step)⟩
                · rw [if_neg c10] at H
                  have c10b0 : (a0 == 2) = false := beq_eq_false_iff_ne.mpr c10
                  have c10b1 : (a0 != 2) = true := bne_iff_ne.mpr c10
                  (first | rw [c10b0] | (simp only [i64_w, i32_w]; rw [c10b0]) | skip)
                  have H' := Aside0.mk H
                  clear H
                  go_wp2
                  go_meet
                  case rel => exact ⟨_, (false), (by first | rfl | (simp; done) | (simp [*]; done)), H', ⟨by have := HJ2.out; have := HJ5.out; first | omega | exact Nat.le_refl _⟩, by repeat (first | exact Drawn0.refl _ | apply Drawn0.step)⟩
              case rest =>
                clear HC9
                try clear c1
                try clear c2
                try clear p2
                try clear c4
                try clear c4b0
                try clear c4b1
                try clear c5
                try clear c7
                try clear c7b0
                try clear c7b1
                try clear c8
                try clear c9
                try clear c10
                try clear c10b0
                try clear c10b1
                try clear p2
                obtain ⟨kq, x19_8, rfl, HA, HJ8, ⟨mc8, rfl⟩⟩ := hcut
                cases kq with
                | zero => exact absurd HA.out (by simp [spec_RoleText.j2])
                | succ kj8 =>
                  have H := HA.out
                  clear HA
                  simp only [spec_RoleText.j2] at H
                  by_cases c11 : x19_8 = true
                  · subst c11
                    have H1 : (some (⟨#[102, 114, 101, 115, 104, 32, 120, 10, 115, 101, 110, 100, 32, 36, 120, 10, 116, 97, 107, 101, 32, 123, 40, 110, 53, 44, 40, 40, 36, 120, 44, 63, 121, 41, 44, 36, 112, 41, 41, 44, 36, 107, 125, 10, 115, 101, 110, 100, 32, 123, 40, 110, 54, 44, 40, 40, 36, 121, 44, 36, 120, 41, 44, 36, 109, 41, 41, 44, 36, 107, 125, 10, 99, 108, 97, 105, 109, 32, 107, 40, 36, 107, 44, 40, 36, 120, 44, 36, 121, 41, 41, 10]⟩ : ByteArray)) = some r := by rw [if_pos rfl] at H; exact H
                    clear H
                    have H := H1
                    clear H1
                    obtain rfl := Option.some.inj H
                    go_wp2
                    go_ret
                    exact ⟨by first | rfl | (simp; done) | (simp [*]; done), by repeat (first | exact Drawn0.refl _ | apply Drawn0.step)⟩
                  · replace c11 := Bool.eq_false_iff.mpr c11
                    subst c11
                    have H1 : (if a0 = 2 then (spec_RoleText.j3 kj8 a0 a1 (a1 == 1)) else (spec_RoleText.j3 kj8 a0 a1 false)) = some r := by rw [if_neg (show ¬ (false = true) by decide)] at H; exact H
                    clear H
                    have H := H1
                    clear H1
                    have HC12 := Aside0.mk H
                    clear H
                    go_upto_region 7 with (fail)
                    go_cut [26] (fun v26 wc => ∃ (kq : Nat) (x26_11 : Bool), v26 = .bool x26_11 ∧ Aside0 (spec_RoleText.j3 kq a0 a1 x26_11 = some r) ∧ Aside0 (kq ≤ kj8) ∧ Drawn0 w wc)
                    case first =>
                      have H := HC12.out
                      clear HC12
                      by_cases c13 : a0 = 2
                      · rw [if_pos c13] at H
                        have c13b0 : (a0 == 2) = true := beq_iff_eq.mpr c13
                        have c13b1 : (a0 != 2) = false := bne_eq_false_iff_eq.mpr c13
                        clear c13
                        (first | rw [c13b0] | (simp only [i64_w, i32_w]; rw [c13b0]) | skip)
                        have H' := Aside0.mk H
                        clear H
                        go_wp2
                        go_meet
                        case rel => exact ⟨_, ((a1 == 1)), (by first | rfl | (simp; done) | (simp [*]; done)), H', ⟨by have := HJ2.out; have := HJ5.out; have := HJ8.out; first | omega | exact Nat.le_refl _⟩, by repeat (first | exact Drawn0.refl _ | apply Drawn0.step)⟩
                      · rw [if_neg c13] at H
                        have c13b0 : (a0 == 2) = false := beq_eq_false_iff_ne.mpr c13
                        have c13b1 : (a0 != 2) = true := bne_iff_ne.mpr c13
                        (first | rw [c13b0] | (simp only [i64_w, i32_w]; rw [c13b0]) | skip)
                        have H' := Aside0.mk H
                        clear H
                        go_wp2
                        go_meet
                        case rel => exact ⟨_, (false), (by first | rfl | (simp; done) | (simp [*]; done)), H', ⟨by have := HJ2.out; have := HJ5.out; have := HJ8.out; first | omega | exact Nat.le_refl _⟩, by repeat (first | exact Drawn0.refl _ | apply Drawn0.step)⟩
                    case rest =>
                      clear HC12
                      try clear c1
                      try clear c2
                      try clear p2
                      try clear c4
                      try clear c4b0
                      try clear c4b1
                      try clear c5
                      try clear c7
                      try clear c7b0
                      try clear c7b1
                      try clear c8
                      try clear c9
                      try clear c10
                      try clear c10b0
                      try clear c10b1
                      try clear c11
                      try clear c13
                      try clear c13b0
                      try clear c13b1
                      try clear p2
                      obtain ⟨kq, x26_11, rfl, HA, HJ11, ⟨mc11, rfl⟩⟩ := hcut
                      cases kq with
                      | zero => exact absurd HA.out (by simp [spec_RoleText.j3])
                      | succ kj11 =>
                        have H := HA.out
                        clear HA
                        simp only [spec_RoleText.j3] at H
                        by_cases c14 : x26_11 = true
                        · subst c14
                          have H1 : (some (⟨#[102, 114, 101, 115, 104, 32, 121, 10, 116, 97, 107, 101, 32, 63, 120, 10, 115, 101, 110, 100, 32, 123, 40, 110, 53, 44, 40, 40, 36, 120, 44, 36, 121, 41, 44, 36, 109, 41, 41, 44, 36, 107, 125, 10, 116, 97, 107, 101, 32, 123, 40, 110, 54, 44, 40, 40, 36, 121, 44, 36, 120, 41, 44, 36, 112, 41, 41, 44, 36, 107, 125, 10, 99, 108, 97, 105, 109, 32, 107, 40, 36, 107, 44, 40, 36, 120, 44, 36, 121, 41, 41, 10]⟩ : ByteArray)) = some r := by rw [if_pos rfl] at H; exact H
                          clear H
                          have H := H1
                          clear H1
                          obtain rfl := Option.some.inj H
                          go_wp2
                          go_ret
                          exact ⟨by first | rfl | (simp; done) | (simp [*]; done), by repeat (first | exact Drawn0.refl _ | apply Drawn0.step)⟩
                        · replace c14 := Bool.eq_false_iff.mpr c14
                          subst c14
                          have H1 : (if a0 = 3 then (spec_RoleText.j4 kj11 a0 a1 (a1 == 0)) else (spec_RoleText.j4 kj11 a0 a1 false)) = some r := by rw [if_neg (show ¬ (false = true) by decide)] at H; exact H
                          clear H
                          have H := H1
                          clear H1
                          have HC15 := Aside0.mk H
                          clear H
                          go_upto_region 9 with (fail)
                          go_cut [33] (fun v33 wc => ∃ (kq : Nat) (x33_14 : Bool), v33 = .bool x33_14 ∧ Aside0 (spec_RoleText.j4 kq a0 a1 x33_14 = some r) ∧ Aside0 (kq ≤ kj11) ∧ Drawn0 w wc)
                          case first =>
                            have H := HC15.out
                            clear HC15
                            by_cases c16 : a0 = 3
                            · rw [if_pos c16] at H
                              have c16b0 : (a0 == 3) = true := beq_iff_eq.mpr c16
                              have c16b1 : (a0 != 3) = false := bne_eq_false_iff_eq.mpr c16
                              clear c16
                              (first | rw [c16b0] | (simp only [i64_w, i32_w]; rw [c16b0]) | skip)
                              have H' := Aside0.mk H
                              clear H
                              go_wp2
                              go_meet
                              case rel => exact ⟨_, ((a1 == 0)), (by first | rfl | (simp; done) | (simp [*]; done)), H', ⟨by have := HJ2.out; have := HJ5.out; have := HJ8.out; have := HJ11.out; first | omega | exact Nat.le_refl _⟩, by repeat (first | exact Drawn0.refl _ | apply Drawn0.step)⟩
                            · rw [if_neg c16] at H
                              have c16b0 : (a0 == 3) = false := beq_eq_false_iff_ne.mpr c16
                              have c16b1 : (a0 != 3) = true := bne_iff_ne.mpr c16
                              (first | rw [c16b0] | (simp only [i64_w, i32_w]; rw [c16b0]) | skip)
                              have H' := Aside0.mk H
                              clear H
                              go_wp2
                              go_meet
                              case rel => exact ⟨_, (false), (by first | rfl | (simp; done) | (simp [*]; done)), H', ⟨by have := HJ2.out; have := HJ5.out; have := HJ8.out; have := HJ11.out; first | omega | exact Nat.le_refl _⟩, by repeat (first | exact Drawn0.refl _ | apply Drawn0.step)⟩
                          case rest =>
                            clear HC15
                            try clear c1
                            try clear c2
                            try clear p2
                            try clear c4
                            try clear c4b0
                            try clear c4b1
                            try clear c5
                            try clear c7
                            try clear c7b0
                            try clear c7b1
                            try clear c8
                            try clear c9
                            try clear c10
                            try clear c10b0
                            try clear c10b1
                            try clear c11
                            try clear c13
                            try clear c13b0
                            try clear c13b1
                            try clear c14
                            try clear c16
                            try clear c16b0
                            try clear c16b1
                            try clear p2
                            obtain ⟨kq, x33_14, rfl, HA, HJ14, ⟨mc14, rfl⟩⟩ := hcut
                            cases kq with
                            | zero => exact absurd HA.out (by simp [spec_RoleText.j4])
                            | succ kj14 =>
                              have H := HA.out
                              clear HA
                              simp only [spec_RoleText.j4] at H
                              by_cases c17 : x33_14 = true
                              · subst c17
                                have H1 : (some (⟨#[102, 114, 101, 115, 104, 32, 120, 10, 115, 101, 110, 100, 32, 94, 36, 120, 10, 116, 97, 107, 101, 32, 40, 63, 121, 44, 35, 40, 110, 53, 44, 107, 40, 40, 120, 40, 36, 120, 44, 36, 117, 41, 44, 120, 40, 36, 116, 44, 36, 121, 41, 41, 44, 40, 120, 40, 36, 120, 44, 36, 121, 41, 44, 40, 40, 94, 36, 120, 44, 36, 121, 41, 44, 40, 36, 109, 44, 36, 112, 41, 41, 41, 41, 41, 41, 10, 115, 101, 110, 100, 32, 35, 40, 110, 54, 44, 107, 40, 40, 120, 40, 36, 120, 44, 36, 117, 41, 44, 120, 40, 36, 116, 44, 36, 121, 41, 41, 44, 40, 120, 40, 36, 120, 44, 36, 121, 41, 44, 40, 40, 94, 36, 120, 44, 36, 121, 41, 44, 40, 36, 109, 44, 36, 112, 41, 41, 41, 41, 41, 10, 99, 108, 97, 105, 109, 32, 107, 40, 40, 120, 40, 36, 120, 44, 36, 117, 41, 44, 120, 40, 36, 116, 44, 36, 121, 41, 41, 44, 40, 120, 40, 36, 120, 44, 36, 121, 41, 44, 40, 40, 94, 36, 120, 44, 36, 121, 41, 44, 40, 36, 109, 44, 36, 112, 41, 41, 41, 41, 10]⟩ : ByteArray)) = some r := by rw [if_pos rfl] at H; exact H
                                clear H
                                have H := H1
                                clear H1
                                obtain rfl := Option.some.inj H
                                go_wp2
                                go_ret
                                exact ⟨by first | rfl | (simp; done) | (simp [*]; done), by repeat (first | exact Drawn0.refl _ | apply Drawn0.step)⟩
                              · replace c17 := Bool.eq_false_iff.mpr c17
                                subst c17
                                have H1 : (if a0 = 3 then (if a1 = 1 then (some (⟨#[102, 114, 101, 115, 104, 32, 121, 10, 116, 97, 107, 101, 32, 63, 120, 10, 115, 101, 110, 100, 32, 40, 94, 36, 121, 44, 35, 40, 110, 53, 44, 107, 40, 40, 120, 40, 36, 116, 44, 36, 120, 41, 44, 120, 40, 36, 121, 44, 36, 117, 41, 41, 44, 40, 120, 40, 36, 121, 44, 36, 120, 41, 44, 40, 40, 36, 120, 44, 94, 36, 121, 41, 44, 40, 36, 112, 44, 36, 109, 41, 41, 41, 41, 41, 41, 10, 116, 97, 107, 101, 32, 35, 40, 110, 54, 44, 107, 40, 40, 120, 40, 36, 116, 44, 36, 120, 41, 44, 120, 40, 36, 121, 44, 36, 117, 41, 41, 44, 40, 120, 40, 36, 121, 44, 36, 120, 41, 44, 40, 40, 36, 120, 44, 94, 36, 121, 41, 44, 40, 36, 112, 44, 36, 109, 41, 41, 41, 41, 41, 10, 99, 108, 97, 105, 109, 32, 107, 40, 40, 120, 40, 36, 116, 44, 36, 120, 41, 44, 120, 40, 36, 121, 44, 36, 117, 41, 41, 44, 40, 120, 40, 36, 121, 44, 36, 120, 41, 44, 40, 40, 36, 120, 44, 94, 36, 121, 41, 44, 40, 36, 112, 44, 36, 109, 41, 41, 41, 41, 10]⟩ : ByteArray)) else (some (⟨#[]⟩ : ByteArray))) else (some (⟨#[]⟩ : ByteArray))) = some r := by rw [if_neg (show ¬ (false = true) by decide)] at H; exact H
                                clear H
                                have H := H1
                                clear H1
                                by_cases c18 : a0 = 3
                                · rw [if_pos c18] at H
                                  have c18b0 : (a0 == 3) = true := beq_iff_eq.mpr c18
                                  have c18b1 : (a0 != 3) = false := bne_eq_false_iff_eq.mpr c18
                                  clear c18
                                  by_cases c19 : a1 = 1
                                  · rw [if_pos c19] at H
                                    have c19b0 : (a1 == 1) = true := beq_iff_eq.mpr c19
                                    have c19b1 : (a1 != 1) = false := bne_eq_false_iff_eq.mpr c19
                                    clear c19
                                    obtain rfl := Option.some.inj H
                                    go_wp2
                                    go_ret
                                    exact ⟨by first | rfl | (simp; done) | (simp [*]; done), by repeat (first | exact Drawn0.refl _ | apply Drawn0.step)⟩
                                  · rw [if_neg c19] at H
                                    have c19b0 : (a1 == 1) = false := beq_eq_false_iff_ne.mpr c19
                                    have c19b1 : (a1 != 1) = true := bne_iff_ne.mpr c19
                                    obtain rfl := Option.some.inj H
                                    go_wp2
                                    go_ret
                                    exact ⟨by first | rfl | (simp; done) | (simp [*]; done), by repeat (first | exact Drawn0.refl _ | apply Drawn0.step)⟩
                                · rw [if_neg c18] at H
                                  have c18b0 : (a0 == 3) = false := beq_eq_false_iff_ne.mpr c18
                                  have c18b1 : (a0 != 3) = true := bne_iff_ne.mpr c18
                                  obtain rfl := Option.some.inj H
                                  go_wp2
                                  go_ret
                                  exact ⟨by first | rfl | (simp; done) | (simp [*]; done), by repeat (first | exact Drawn0.refl _ | apply Drawn0.step)⟩

/-! ### impl_inRange: function 31 -/
def impl_inRange.f (a0 : Int) (a1 : Int) (a2 : Int) : Option (Bool) := if a0 ≥ a1 then (some (decide (a0 ≤ a2))) else (some false)
set_option maxHeartbeats 8000000 in
set_option maxRecDepth 100000 in
theorem impl_inRange.calls (a0 : Int) (a1 : Int) (a2 : Int) (r : Bool) (w : World) (h : impl_inRange.f a0 a1 a2 = some r) :
    Calls Try.prog 31 #[.int .i64 a0, .int .i64 a1, .int .i64 a2] w fun e w' => e = .returned (.bool r) ∧ Drawn0 w w' := by
  have H : (if a0 ≥ a1 then (some (decide (a0 ≤ a2))) else (some false)) = some r := h
  clear h
  by_cases c4 : a0 ≥ a1
  · rw [if_pos c4] at H
    have c4b0 : decide (a1 ≤ a0) = true := decide_eq_true c4
    clear c4
    obtain rfl := Option.some.inj H
    go_enter Try.func31, Try.ntmps31
    go_wp2
    go_ret
    exact ⟨by first | rfl | (simp; done) | (simp [*]; done), by repeat (first | exact Drawn0.refl _ | apply Drawn0.step)⟩
  · rw [if_neg c4] at H
    have c4b0 : decide (a1 ≤ a0) = false := decide_eq_false c4
    clear c4
    obtain rfl := Option.some.inj H
    go_enter Try.func31, Try.ntmps31
    go_wp2
    go_ret
    exact ⟨by first | rfl | (simp; done) | (simp [*]; done), by repeat (first | exact Drawn0.refl _ | apply Drawn0.step)⟩

/-! ### impl_RoleText: function 10 -/
section
/-! The texts of the six roles lie in an array of arrays: each of the six places is walked with its numbers in hand. -/
def impl_RoleText.f (a0 a1 : Int) : Option ByteArray := spec_RoleText.f 20 a0 a1
theorem index2_0 (W : World) (a b : Value) : (Instr.index 58 (.agg #[a, b]) (.int .i64 0)).run Try.prog W = .ok (a) W := by
  obtain ⟨i, hi⟩ := info_of_underlying Try.underlying9
  have h9 := run_sizeOf (P := Try.prog) W hi
  have c9 : Try.prog.cellsOf 9 = 1 := by kernel_rfl
  rw [c9] at h9
  simp [Instr.index, asIntOf, run_underlying Try.underlying58, part, isAgg, run_underlying Try.underlying9, h9]
theorem index2_1 (W : World) (a b : Value) : (Instr.index 58 (.agg #[a, b]) (.int .i64 1)).run Try.prog W = .ok (b) W := by
  obtain ⟨i, hi⟩ := info_of_underlying Try.underlying9
  have h9 := run_sizeOf (P := Try.prog) W hi
  have c9 : Try.prog.cellsOf 9 = 1 := by kernel_rfl
  rw [c9] at h9
  simp [Instr.index, asIntOf, run_underlying Try.underlying58, part, isAgg, run_underlying Try.underlying9, h9]
theorem index6_0 (W : World) (a b c d e f : Value) : (Instr.index 59 (.agg #[a, b, c, d, e, f]) (.int .i64 0)).run Try.prog W = .ok (.agg #[a, b]) W := by
  obtain ⟨i, hi⟩ := info_of_underlying Try.underlying58
  have h9 := run_sizeOf (P := Try.prog) W hi
  have c9 : Try.prog.cellsOf 58 = 2 := by kernel_rfl
  rw [c9] at h9
  simp [Instr.index, asIntOf, run_underlying Try.underlying59, part, isAgg, run_underlying Try.underlying58, h9]
theorem index6_1 (W : World) (a b c d e f : Value) : (Instr.index 59 (.agg #[a, b, c, d, e, f]) (.int .i64 1)).run Try.prog W = .ok (.agg #[c, d]) W := by
  obtain ⟨i, hi⟩ := info_of_underlying Try.underlying58
  have h9 := run_sizeOf (P := Try.prog) W hi
  have c9 : Try.prog.cellsOf 58 = 2 := by kernel_rfl
  rw [c9] at h9
  simp [Instr.index, asIntOf, run_underlying Try.underlying59, part, isAgg, run_underlying Try.underlying58, h9]
theorem index6_2 (W : World) (a b c d e f : Value) : (Instr.index 59 (.agg #[a, b, c, d, e, f]) (.int .i64 2)).run Try.prog W = .ok (.agg #[e, f]) W := by
  obtain ⟨i, hi⟩ := info_of_underlying Try.underlying58
  have h9 := run_sizeOf (P := Try.prog) W hi
  have c9 : Try.prog.cellsOf 58 = 2 := by kernel_rfl
  rw [c9] at h9
  simp [Instr.index, asIntOf, run_underlying Try.underlying59, part, isAgg, run_underlying Try.underlying58, h9]
attribute [local go_sem high] index2_0 index2_1 index6_0 index6_1 index6_2
set_option maxHeartbeats 4000000 in
set_option maxRecDepth 100000 in
theorem RoleText_out (a0 a1 : Int) (w : World) (h : ¬ ((1 ≤ a0 ∧ a0 ≤ 3) ∧ 0 ≤ a1 ∧ a1 ≤ 1)) :
    Calls Try.prog 10 #[.int .i64 a0, .int .i64 a1] w fun e w' => e = .returned (.string (⟨#[]⟩ : ByteArray)) ∧ Drawn0 w w' := by
  cases h1 : decide (1 ≤ a0 ∧ a0 ≤ 3) with
  | false =>
    have A1 : Aside0 (impl_inRange.f a0 1 3 = some false) := ⟨by rw [← h1]; unfold impl_inRange.f; by_cases h : (1 : Int) ≤ a0 <;> simp [h]⟩
    clear h h1
    go_enter Try.func10, Try.ntmps10
    go_wp2_with (go_at_call 31; (with_reducible refine (impl_inRange.calls a0 1 3 false _ A1.out).mono ?_); rintro e w' ⟨rfl, ⟨nd, rfl⟩⟩)
    go_ret
    exact ⟨rfl, by repeat (first | exact Drawn0.refl _ | apply Drawn0.step)⟩
  | true =>
    have A1 : Aside0 (impl_inRange.f a0 1 3 = some true) := ⟨by rw [← h1]; unfold impl_inRange.f; by_cases h : (1 : Int) ≤ a0 <;> simp [h]⟩
    have A2 : Aside0 (impl_inRange.f a1 0 1 = some false) := ⟨by
      have : decide (0 ≤ a1 ∧ a1 ≤ 1) = false := decide_eq_false (fun hx => h ⟨of_decide_eq_true h1, hx⟩)
      rw [← this]; unfold impl_inRange.f; by_cases h : (0 : Int) ≤ a1 <;> simp [h]⟩
    clear h h1
    go_enter Try.func10, Try.ntmps10
    go_wp2_with (first | (go_at_call 31; (with_reducible refine (impl_inRange.calls a0 1 3 true _ A1.out).mono ?_); rintro e w' ⟨rfl, ⟨nd, rfl⟩⟩) | (go_at_call 31; (with_reducible refine (impl_inRange.calls a1 0 1 false _ A2.out).mono ?_); rintro e w' ⟨rfl, ⟨nd, rfl⟩⟩))
    go_ret
    exact ⟨rfl, by repeat (first | exact Drawn0.refl _ | apply Drawn0.step)⟩
set_option maxHeartbeats 4000000 in
set_option maxRecDepth 100000 in
theorem RoleText_in (a0 a1 : Int) (r : ByteArray) (w : World) (h1 : a0 = 1 ∨ a0 = 2 ∨ a0 = 3) (h2 : a1 = 0 ∨ a1 = 1) (h : spec_RoleText.f 20 a0 a1 = some r) :
    Calls Try.prog 10 #[.int .i64 a0, .int .i64 a1] w fun e w' => e = .returned (.string r) ∧ Drawn0 w w' := by
  have A1 : Aside0 (impl_inRange.f a0 1 3 = some true) := ⟨by rcases h1 with rfl | rfl | rfl <;> rfl⟩
  have A2 : Aside0 (impl_inRange.f a1 0 1 = some true) := ⟨by rcases h2 with rfl | rfl <;> rfl⟩
  have HR := Aside0.mk h
  clear h
  rcases h1 with rfl | rfl | rfl <;> rcases h2 with rfl | rfl <;>
  · go_enter Try.func10, Try.ntmps10
    go_wp2_with (first | (go_at_call 31; (with_reducible refine (impl_inRange.calls _ 1 3 true _ A1.out).mono ?_); rintro e w' ⟨rfl, ⟨nd, rfl⟩⟩) | (go_at_call 31; (with_reducible refine (impl_inRange.calls _ 0 1 true _ A2.out).mono ?_); rintro e w' ⟨rfl, ⟨nd, rfl⟩⟩))
    go_ret
    have h := HR.out
    simp [spec_RoleText.f, spec_RoleText.j0, spec_RoleText.j1, spec_RoleText.j2, spec_RoleText.j3, spec_RoleText.j4] at h
    subst h
    exact ⟨rfl, by repeat (first | exact Drawn0.refl _ | apply Drawn0.step)⟩
theorem impl_RoleText.calls (a0 a1 : Int) (r : ByteArray) (w : World) (h : impl_RoleText.f a0 a1 = some r) :
    Calls Try.prog 10 #[.int .i64 a0, .int .i64 a1] w fun e w' => e = .returned (.string r) ∧ Drawn0 w w' := by
  by_cases hin : (1 ≤ a0 ∧ a0 ≤ 3) ∧ 0 ≤ a1 ∧ a1 ≤ 1
  · exact RoleText_in a0 a1 r w (by omega) (by omega) h
  · have hr : spec_RoleText.f 20 a0 a1 = some (⟨#[]⟩ : ByteArray) := by
      unfold spec_RoleText.f
      simp only [spec_RoleText.j0, spec_RoleText.j1, spec_RoleText.j2, spec_RoleText.j3, spec_RoleText.j4]
      by_cases e1 : a0 = 1
      · subst e1
        have : a1 ≠ 0 ∧ a1 ≠ 1 := by omega
        simp [this.1, this.2]
      · by_cases e2 : a0 = 2
        · subst e2
          have : a1 ≠ 0 ∧ a1 ≠ 1 := by omega
          simp [this.1, this.2]
        · by_cases e3 : a0 = 3
          · subst e3
            have : a1 ≠ 0 ∧ a1 ≠ 1 := by omega
            simp [this.1, this.2]
          · simp [e1, e2, e3]
    have h' : spec_RoleText.f 20 a0 a1 = some r := h
    rw [hr] at h'
    obtain rfl := Option.some.inj h'
    exact RoleText_out a0 a1 w hin
end

end Go.Proofs.Ytofmobmmoideiaa.P
