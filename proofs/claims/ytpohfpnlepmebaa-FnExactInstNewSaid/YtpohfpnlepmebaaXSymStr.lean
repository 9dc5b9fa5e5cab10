/- The library's Itoa and Atoi, told by trees. Conditions: those that each theorem names. -/
import Derived.Test.YtpohfpnlepmebaaXSymZ
import Derived.Shelf.Strconv.Itoa3
import Derived.Shelf.Strconv.ErrVarAll
import Derived.Lib.AtoiTie
import Derived.Lib.AppendIntMem
set_option linter.unusedVariables false
set_option linter.unusedSimpArgs false
namespace Go.Sym
open Go.RowKit Go.Sort Go.Proofs Go.Shelf
theorem Gd.tab {P : Program} {c : Cx} (h : Gd P c) {g : Nat} (hg : P.globalNamed "internal/strconv.uint64pow10" = some g) : Lib.TabIs P c.w "internal/strconv.uint64pow10" .u64 Lib.pow10Tab := by
  obtain ⟨_, cs, h1, h2⟩ := h _ (List.mem_cons_self ..) g hg
  simp only at h1 h2
  rw [h2] at h1
  exact h1
theorem Gd.syn {P : Program} {c : Cx} (h : Gd P c) {g : Nat} (hg : P.globalNamed "strconv.ErrSyntax" = some g) : ∃ t u, c.w.var? P "strconv.ErrSyntax" = some #[.iface t u] := by
  obtain ⟨_, cs, h1, t, u, h2⟩ := h _ (List.mem_cons_of_mem _ (List.mem_cons_self ..)) g hg
  simp only at h1 h2
  rw [h2] at h1
  exact ⟨t, u, h1⟩
theorem Gd.rng {P : Program} {c : Cx} (h : Gd P c) {g : Nat} (hg : P.globalNamed "strconv.ErrRange" = some g) : ∃ t u, c.w.var? P "strconv.ErrRange" = some #[.iface t u] := by
  obtain ⟨_, cs, h1, t, u, h2⟩ := h _ (List.mem_cons_of_mem _ (List.mem_cons_of_mem _ (List.mem_cons_self ..))) g hg
  simp only at h1 h2
  rw [h2] at h1
  exact ⟨t, u, h1⟩
/-- A call that makes new rows alone; what it answers may hang on the run. -/
theorem semT_belowE {P : Program} {f : FuncId} {xs : List A} {r : A} (h : ∀ (c : Cx) (vs : Array Value), Gd P c → RelH c → VRs c xs vs.toList → Calls P f vs c.w fun e w' => ∃ v, (∀ c' : Cx, VR c' r v) ∧ e = .returned v ∧ Below c.w.heap.size c.w w') : SemT P f xs [] r [] := by
  intro c vs hgd hr hH hvs
  refine (h c vs hgd hr hvs).mono ?_
  rintro e w' ⟨v, hv, rfl, hb⟩
  have hn : ∀ b k, c.H b = some k → False := fun b k h => by rw [hH] at h; simp at h
  refine ⟨v, ⟨c.H, c.io, w', c.X⟩, rfl, rfl, hH, ⟨fun b k h => (hn b k h).elim, fun b k h => (hn b k h).elim, fun b k h => (hn b k h).elim, fun b k h => (hn b k h).elim, fun b k st l h => (hn b k h).elim, fun b b' k k' h => (hn b k h).elim, fun b k h => (hn b k h).elim, fun k h => Nat.lt_of_lt_of_le (hr.xlt k h) hb.size⟩, hv _, ?_⟩
  refine ⟨hb.os, hb.tape, hb.output, hb.size, fun k hk _ => hb.block k hk, fun k hk => .inl hk, fun b k h => (hn b k h).elim, rfl, fun ad hh => ?_, MPers.of_blk fun k hk => hb.block k hk⟩
  obtain ⟨u, hu⟩ := Option.isSome_iff_exists.1 hh
  show (w'.cell? ad).isSome = true
  rw [hb.cell (World.block_lt_of_cell? _ _ hu), hu]
  rfl
theorem semT_itoa {P : Program} {ρ : Ren} (L : LaysM.n171 P ρ) {g : Nat} (hg : P.globalNamed "internal/strconv.uint64pow10" = some g) {n : Int} (h0 : -9223372036854775808 ≤ n) (h1 : n ≤ 9223372036854775807) : SemT P (ρ.f 171) [.int .i64 n] [] (.str ⟨(Lib.itoa n).toArray⟩) [] :=
  semT_below fun c vs hgd hr hvs => by
    simp only [VRs, VR] at hvs
    obtain ⟨v, vs', e, rfl, rfl⟩ := hvs
    obtain rfl : vs = #[.int .i64 n] := by cases vs; simp only at e; rw [e]
    refine ⟨.string ⟨(Lib.itoa n).toArray⟩, fun c' => rfl, ?_⟩
    refine (Any.strconv_Itoa L n h0 h1 c.w (hgd.tab hg)).mono ?_
    rintro e w' ⟨rfl, k, os, rfl⟩
    exact ⟨rfl, Lib.below_grow _ _ (Nat.le_refl _) _ _⟩
/-- What Atoi answers: the number, and whether there is an error. -/
def atoiV (l : List UInt8) : Int × Bool := match Lib.atoiAll l with
  | .ok v => (v, false)
  | .range => (Lib.atoiSat l, true)
  | _ => (0, true)
theorem semT_atoi {P : Program} {ρ : Ren} (L : LaysC.n172 P ρ) {g g' : Nat} (hg : P.globalNamed "strconv.ErrSyntax" = some g) (hg' : P.globalNamed "strconv.ErrRange" = some g') {s : ByteArray} (hs : s.size ≤ 281474976710656) :
    SemT P (ρ.f 172) [.str s] [] (.tup [.int .i64 (atoiV s.data.toList).1, .err (atoiV s.data.toList).2]) [] :=
  semT_belowE fun c vs hgd hr hvs => by
    simp only [VRs, VR] at hvs
    obtain ⟨v, vs', e, rfl, rfl⟩ := hvs
    obtain rfl : vs = #[.string s] := by cases vs; simp only at e; rw [e]
    unfold atoiV
    cases h : Lib.atoiAll s.data.toList with
    | ok v =>
      refine (Any.strconv_Atoi_ok L s (by omega) v h c.w).mono ?_
      rintro e w' ⟨rfl, hw⟩
      refine ⟨_, fun c' => ⟨_, rfl, _, _, rfl, rfl, _, _, rfl, by simp [VR], rfl⟩, rfl, ?_⟩
      rcases hw with rfl | ⟨t, rfl⟩
      · exact Below.refl _ _
      · exact Lib.bytesWorld_below _ _ _
    | range =>
      obtain ⟨t, u, hv⟩ := hgd.rng hg'
      refine (Any.strconv_Atoi_range_var L s hs h t u c.w hv).mono ?_
      rintro e w' ⟨N, rfl, _, _, hb⟩
      exact ⟨_, fun c' => ⟨_, rfl, _, _, rfl, rfl, _, _, rfl, by simp [VR], rfl⟩, rfl, hb⟩
    | _ =>
      obtain ⟨t, u, hv⟩ := hgd.syn hg
      refine (Any.strconv_Atoi_syntax_var L s hs h t u c.w hv).mono ?_
      rintro e w' ⟨N, rfl, _, _, hb⟩
      exact ⟨_, fun c' => ⟨_, rfl, _, _, rfl, rfl, _, _, rfl, by simp [VR], rfl⟩, rfl, hb⟩
end Go.Sym
