/- Insertion into a row of numbers, by the kit's contracts. Conditions: those that each theorem names. -/
import Derived.Test.YtpohfpnlepmebaaXSymY
import Derived.Shelf.Spec.SlicesInsert
import Derived.Shelf.Spec.SlicesInsertGrow
set_option linter.unusedVariables false
set_option linter.unusedSimpArgs false
namespace Go.Sym
open Go.RowKit Go.Sort Go.Proofs Go.Shelf
def insI (xs : List Int) (i : Nat) (x : Int) : List Int := xs.take i ++ x :: xs.drop i
theorem insI_len {xs : List Int} {i : Nat} (x : Int) (h : i ≤ xs.length) : (insI xs i x).length = xs.length + 1 := by simp [insI]; omega
theorem insI_get {xs : List Int} {i : Nat} (x : Int) (h : i ≤ xs.length) (j : Nat) : (insI xs i x)[j]? = if j < i then xs[j]? else if j = i then some x else xs[j - 1]? := by
  have htl : (xs.take i).length = i := by simp; omega
  unfold insI
  rw [List.getElem?_append, htl]
  split
  · rename_i g
    rw [List.getElem?_take, if_pos g]
  · rename_i g
    by_cases e : j = i
    · subst e; simp
    · rw [if_neg e, show j - i = (j - i - 1) + 1 by omega, List.getElem?_cons_succ, List.getElem?_drop]
      congr 1
      omega
theorem heap_push {h h' : Array Obj} {o : Obj} (h1 : ∀ q, q < h.size → h'[q]? = h[q]?) (h2 : h'.size = h.size + 1) (h3 : h'[h.size]? = some o) : h' = h.push o := by
  apply Array.ext_getElem?
  intro q
  rw [Array.getElem?_push]
  split
  · rename_i e; subst e; exact h3
  · rename_i e
    rcases Nat.lt_or_ge q h.size with g | g
    · exact h1 q g
    · rw [Array.getElem?_eq_none (by omega), Array.getElem?_eq_none g]
/-- A new block in a row's place. -/
theorem T_newb {c : Cx} (hr : RelH c) {n : Nat} {k : Blk} (hn : ∀ k0, c.H n = some k0 → k0.v < k.v) (hmp : k.mp = none) (hro : k.ro = false) {w' : World} {cs : Array Value} {ty : TypeId}
    (hsame : ∀ q, q < c.w.heap.size → w'.heap[q]? = c.w.heap[q]?) (hsz : w'.heap.size = c.w.heap.size + 1) (hb : w'.heap[c.w.heap.size]? = some (.cells cs ty (0, 0))) (ho : w'.os = c.w.os) (ht : w'.tape = c.w.tape) (hu : w'.output = c.w.output)
    (hcs : ∀ (j : Nat) (x : A), k.cs[j]? = some x → ∃ v, w'.cell? ⟨c.w.heap.size, j, none⟩ = some v ∧ VR c x v) : RelH (c.anew n k w') ∧ Step c (c.anew n k w') :=
  T_newo hr hn (heap_push hsame hsz hb) ho ht hu hcs (fun h => by rw [hro] at h; cases h) (fun _ => ⟨cs, ty, rfl⟩) (fun st l h => by rw [hmp] at h; cases h)
theorem semT_insert {P : Program} {ρ : Ren} (L : Lays2.n21 P ρ) {H : List Blk} {b lb v lv : Nat} {ro : Bool} {xs : List Int} {x : Int} {i : Nat} (hk : H[b]? = some ⟨v, ro, 1, intsY xs, none⟩) (hl : H[lb]? = some ⟨lv, false, 1, [.int .i64 x], none⟩) (hne : lb ≠ b) (hi : i ≤ xs.length) (hx : xs.length ≤ 4294967296) :
    SemT P (ρ.f 21) [.ref b v 0 xs.length, .int .i64 i, .ref lb lv 0 1] H (.ref b (v + 1) 0 (xs.length + 1)) (H.set b ⟨v + 1, false, 1, intsY (insI xs i x), none⟩) := by
  intro c vs hgd hr hH hvs
  have hck : c.H b = some ⟨v, ro, 1, intsY xs, none⟩ := by rw [hH]; exact hk
  have hcl : c.H lb = some ⟨lv, false, 1, [.int .i64 x], none⟩ := by rw [hH]; exact hl
  simp only [VRs] at hvs
  obtain ⟨v1, r1, e1, hv1, v2, r2, rfl, hv2, v3, r3, rfl, hv3, rfl⟩ := hvs
  simp only [VR] at hv1 hv2 hv3
  obtain ⟨k1, a, cap, h1, _, rfl, hcap, g1⟩ := hv1
  rw [hck] at h1
  obtain rfl := (Option.some.inj h1)
  subst hv2
  obtain ⟨k3, a3, cap3, h3, _, rfl, hcap3, g3⟩ := hv3
  rw [hcl] at h3
  obtain rfl := (Option.some.inj h3)
  obtain rfl : vs = #[.slice a xs.length cap, .int .i64 i, .slice a3 1 cap3] := by
    cases vs; simp only at e1; rw [e1]
  have hlenI := insI_len x hi
  rcases g3 rfl with g3 | ⟨_, rfl, c3⟩
  · omega
  obtain ⟨u, hu1, hu2⟩ := hr.cell lb _ hcl 0 (.int .i64 x) rfl
  simp only [VR] at hu2
  subst hu2
  obtain ⟨arrL, tyL, hbL⟩ := hr.fz lb _ hcl rfl rfl
  have hltL := hr.lt lb _ hcl rfl
  have hvs' : ∀ (j : Nat) (w : Value), ([Value.int .i64 x] : List Value)[j]? = some w → c.w.cell? ⟨(c.io lb).1, (c.io lb).2 + 0 + j, none⟩ = some w := fun j w hj => by
    cases j with
    | zero => simp at hj; subst hj; exact hu1
    | succ j => simp at hj
  have h1v : ∀ w ∈ [Value.int .i64 x], w.oneCell' = true := fun w hw => by simp at hw; subst hw; rfl
  have h1c : ∀ w ∈ xs.map (Value.int .i64), w.oneCell' = true := fun w hw => by simp at hw; obtain ⟨q, _, rfl⟩ := hw; rfl
  have hnI : ∀ (j : Nat) (y : A), (intsY (insI xs i x))[j]? = some y → ∃ z, (insI xs i x)[j]? = some z ∧ y = .int .i64 z := fun j y hj => by
    simp only [intsY, List.getElem?_map] at hj
    cases hz : (insI xs i x)[j]? with
    | none => rw [hz] at hj; cases hj
    | some z => rw [hz] at hj; exact ⟨z, rfl, (Option.some.inj hj).symm⟩
  by_cases hroom : xs.length + 1 ≤ cap
  · rcases g1 rfl with g1 | ⟨hro, rfl, c1⟩
    · omega
    simp only at hro
    subst hro
    obtain ⟨arr, ty, hb⟩ := hr.fz b _ hck rfl rfl
    have hlt := hr.lt b _ hck rfl
    have hio : (c.io lb).1 ≠ (c.io b).1 := hr.uni lb b _ _ hcl hck rfl rfl hne
    have hcs : ∀ (j : Nat) (w : Value), (xs.map (Value.int .i64))[j]? = some w → c.w.cell? ⟨(c.io b).1, (c.io b).2 + 0 + j, none⟩ = some w := fun j w hj => by
      simp only [List.getElem?_map] at hj
      cases hz : xs[j]? with
      | none => rw [hz] at hj; cases hj
      | some z =>
        rw [hz] at hj
        obtain rfl := (Option.some.inj hj)
        obtain ⟨u, q1, q2⟩ := hr.cell b _ hck j (.int .i64 z) (by simp [intsY, hz])
        simp only [VR] at q2
        subst q2
        exact q1
    have hsp : ∀ j, j < xs.length + 1 → (c.w.cell? ⟨(c.io b).1, (c.io b).2 + 0 + j, none⟩).isSome = true := fun j hj => by
      have := c1 j (by simp; omega)
      simpa [Cx.at, Nat.add_assoc] using this
    have hold : ∀ j, j < xs.length → c.w.cell? ⟨(c.io b).1, (c.io b).2 + 0 + j, none⟩ = some (.int .i64 (xs.getD j 0)) := fun j hj => hcs j _ (by simp [hj])
    have hfz : ∀ j, j < xs.length + 1 → c.w.frozen? ⟨(c.io b).1, (c.io b).2 + 0 + j, none⟩ = false := fun j _ => frozen_of hb _
    -- what is left of a world in which the row's cells have turned
    have fin : ∀ w' : World, (∀ q, q ≠ (c.io b).1 → w'.heap[q]? = c.w.heap[q]?) → w'.heap.size = c.w.heap.size → w'.os = c.w.os → w'.tape = c.w.tape → w'.output = c.w.output →
        (∃ arr', w'.heap[(c.io b).1]? = some (.cells arr' ty (0, 0)) ∧ arr'.size = arr.size) →
        (∀ j z, (insI xs i x)[j]? = some z → w'.cell? ⟨(c.io b).1, (c.io b).2 + 0 + j, none⟩ = some (.int .i64 z)) →
        ∃ v' c', (Ending.returned (.slice (some ⟨(c.io b).1, (c.io b).2 + 0, none⟩) (xs.length + 1) cap)) = .returned v' ∧ c'.w = w' ∧ c'.H = (fun q => (H.set b ⟨v + 1, false, 1, intsY (insI xs i x), none⟩)[q]?) ∧ RelH c' ∧ VR c' (.ref b (v + 1) 0 (xs.length + 1)) v' ∧ Step c c' := by
      rintro w' p1 p2 p3 p4 p5 ⟨arr', p6, p7⟩ p8
      obtain ⟨j1, j2⟩ := T_set hr hck rfl (k' := ⟨v + 1, false, 1, intsY (insI xs i x), none⟩) rfl rfl (Nat.le_succ _) rfl (w' := w') p1 p2 p3 p4 p5 hb p6 p7 (fun j y hj => by
        obtain ⟨z, hz, rfl⟩ := hnI j y hj
        exact ⟨.int .i64 z, by have := p8 j z hz; simpa [Cx.at] using this, rfl⟩)
      refine ⟨_, _, rfl, rfl, ?_, j1, ?_, j2⟩
      · rw [← upd_list hk]
        simp only [Cx.aset, hH]
        funext q
        simp only [upd]
      · simp only [VR]
        refine ⟨⟨v + 1, false, 1, intsY (insI xs i x), none⟩, _, cap, by simp [Cx.aset, upd], Nat.le_refl _, rfl, ⟨hroom, hcap.2⟩, fun _ => .inr ⟨rfl, ?_, fun j hj => ?_⟩⟩
        · simp [Cx.at, Cx.aset, upd]
        · have := j2.cells _ (c1 j hj)
          simpa [Cx.at, Cx.aset, upd] using this
    have hins := insI_get x hi
    have hgD : ∀ {j : Nat} {z : Int}, xs[j]? = some z → j < xs.length ∧ xs.getD j 0 = z := fun {j z} h => by
      have hj : j < xs.length := by
        rcases Nat.lt_or_ge j xs.length with g | g
        · exact g
        · rw [List.getElem?_eq_none g] at h; cases h
      exact ⟨hj, by simp [h]⟩
    by_cases hin : i < xs.length
    · refine (Any2.slices_Insert_int_shift L (c.io b).1 ((c.io b).2 + 0) xs.length cap i (c.io lb).1 ((c.io lb).2 + 0) 1 cap3 (xs.map (Value.int .i64)) [.int .i64 x] c.w hin (by omega) hroom hcap.2 hio (by simp) rfl hcs hsp hfz hvs' h1c h1v tyL ty arrL.size arr.size (by simp [World.shape?, hbL]) (by simp [World.shape?, hb]) (by
        intro e
        have := hold 0 (by omega)
        obtain ⟨cc, ee, ff, q1, q2⟩ := cells_of_cell? this
        rw [hb] at q1
        cases q1
        have : arr = #[] := Array.eq_empty_of_size_eq_zero e
        rw [this] at q2
        simp at q2) (frozen_of hbL _) (frozen_of hbL _)).mono ?_
      rintro e w' ⟨rfl, rfl⟩
      have hcl1 : (xs.map (Value.int .i64)).drop i = (xs.drop i).map (Value.int .i64) := by rw [List.map_drop]
      obtain ⟨a1, a2, a3⟩ := setCells_rest (c.io b).1 ((xs.map (Value.int .i64)).drop i) ((c.io b).2 + 0 + (i + 1)) c.w.drew
      obtain ⟨b1, b2, b3⟩ := setCells_rest (c.io b).1 [Value.int .i64 x] ((c.io b).2 + 0 + i) (c.w.drew.setCells (c.io b).1 ((c.io b).2 + 0 + (i + 1)) ((xs.map (Value.int .i64)).drop i))
      obtain ⟨ar1, d1, d2⟩ := setCells_block (c.io b).1 ty ((xs.map (Value.int .i64)).drop i) ((c.io b).2 + 0 + (i + 1)) c.w.drew arr hb
      obtain ⟨ar2, d3, d4⟩ := setCells_block (c.io b).1 ty [Value.int .i64 x] ((c.io b).2 + 0 + i) _ ar1 d1
      have hthere1 : ∀ j, j < ((xs.map (Value.int .i64)).drop i).length → (c.w.drew.cell? ⟨(c.io b).1, (c.io b).2 + 0 + (i + 1) + j, none⟩).isSome = true := fun j hj => by
        have := hsp (i + 1 + j) (by simp at hj; omega)
        rw [Nat.add_assoc]
        exact this
      refine fin _ (fun q hq => by rw [setCells_other _ _ _ _ _ hq, setCells_other _ _ _ _ _ hq]; rfl) (by rw [setCells_size, setCells_size]; rfl) (by rw [b1, a1]; rfl) (by rw [b2, a2]; rfl) (by rw [b3, a3]; rfl) ⟨ar2, d3, by rw [d4, d2]⟩ ?_
      intro j z hz
      rw [hins] at hz
      by_cases hj1 : j < i
      · rw [if_pos hj1] at hz
        obtain ⟨hjl, hzz⟩ := hgD hz
        rw [World.cell?_setCells_out _ _ _ _ _ (fun _ _ => by simp only; omega), World.cell?_setCells_out _ _ _ _ _ (fun _ _ => by simp only; omega)]
        have := hold j hjl
        rw [hzz] at this
        exact this
      · rw [if_neg hj1] at hz
        by_cases hj2 : j = i
        · rw [if_pos hj2] at hz
          obtain rfl := Option.some.inj hz
          subst hj2
          have := World.cell?_setCells_in (c.io b).1 [Value.int .i64 x] ((c.io b).2 + 0 + j) (c.w.drew.setCells (c.io b).1 ((c.io b).2 + 0 + (j + 1)) ((xs.map (Value.int .i64)).drop j)) (fun q hq => by
            have hq0 : q = 0 := by simp at hq; omega
            subst hq0
            rw [World.cell?_setCells_out _ _ _ _ _ (fun _ _ => by simp only; omega)]
            exact hsp j (by omega)) 0 (by simp)
          exact this
        · rw [if_neg hj2] at hz
          obtain ⟨hjl, hzz⟩ := hgD hz
          rw [World.cell?_setCells_out _ _ _ _ _ (fun _ _ => by simp only [List.length_singleton]; omega)]
          have := World.cell?_setCells_in (c.io b).1 ((xs.map (Value.int .i64)).drop i) ((c.io b).2 + 0 + (i + 1)) c.w.drew hthere1 (j - (i + 1)) (by simp; omega)
          rw [show (c.io b).2 + 0 + (i + 1) + (j - (i + 1)) = (c.io b).2 + 0 + j by omega] at this
          rw [this]
          congr 1
          simp [List.getElem_drop, show i + (j - (i + 1)) = j - 1 by omega]
          rw [← hzz]
          simp [hjl]
    · have hie : i = xs.length := by omega
      subst hie
      refine (Any2.slices_Insert_int_end_room L (c.io b).1 ((c.io b).2 + 0) xs.length cap (c.io lb).1 ((c.io lb).2 + 0) 1 cap3 [.int .i64 x] c.w (by omega) hroom hcap.2 rfl (fun j hj => by have := hsp (xs.length + j) (by omega); rw [Nat.add_assoc]; exact this) (fun j hj => frozen_of hb _) hvs' h1v).mono ?_
      rintro e w' ⟨rfl, rfl⟩
      obtain ⟨a1, a2, a3⟩ := setCells_rest (c.io b).1 [Value.int .i64 x] ((c.io b).2 + 0 + xs.length) c.w
      obtain ⟨ar1, d1, d2⟩ := setCells_block (c.io b).1 ty [Value.int .i64 x] ((c.io b).2 + 0 + xs.length) c.w arr hb
      refine fin _ (fun q hq => setCells_other _ _ _ _ _ hq) (setCells_size _ _ _ _) a1 a2 a3 ⟨ar1, d1, d2⟩ ?_
      intro j z hz
      rw [hins] at hz
      by_cases hj1 : j < xs.length
      · rw [if_pos hj1] at hz
        obtain ⟨hjl, hzz⟩ := hgD hz
        rw [World.cell?_setCells_out _ _ _ _ _ (fun _ _ => by simp only; omega)]
        have := hold j hjl
        rw [hzz] at this
        exact this
      · rw [if_neg hj1] at hz
        by_cases hj2 : j = xs.length
        · rw [if_pos hj2] at hz
          obtain rfl := Option.some.inj hz
          subst hj2
          exact World.cell?_setCells_in (c.io b).1 [Value.int .i64 x] ((c.io b).2 + 0 + xs.length) c.w (fun q hq => by
            have hq0 : q = 0 := by simp at hq; omega
            subst hq0
            exact hsp xs.length (by omega)) 0 (by simp)
        · rw [if_neg hj2] at hz
          obtain ⟨hjl, _⟩ := hgD hz
          omega
  · have hins := insI_get x hi
    have fin2 : ∀ (w' : World) (gc : Nat) (cs' : Array Value) (ty : TypeId), (∀ q, q < c.w.heap.size → w'.heap[q]? = c.w.heap[q]?) → w'.heap.size = c.w.heap.size + 1 → w'.heap[c.w.heap.size]? = some (.cells cs' ty (0, 0)) → cs'.size = gc → xs.length + 1 ≤ gc → gc ≤ 9223372036854775807 →
        w'.os = c.w.os → w'.tape = c.w.tape → w'.output = c.w.output → (∀ j z, (insI xs i x)[j]? = some z → w'.cell? ⟨c.w.heap.size, j, none⟩ = some (.int .i64 z)) →
        ∃ v' c', (Ending.returned (.slice (some ⟨c.w.heap.size, 0, none⟩) (xs.length + 1) gc)) = .returned v' ∧ c'.w = w' ∧ c'.H = (fun q => (H.set b ⟨v + 1, false, 1, intsY (insI xs i x), none⟩)[q]?) ∧ RelH c' ∧ VR c' (.ref b (v + 1) 0 (xs.length + 1)) v' ∧ Step c c' := by
      intro w' gc cs' ty p1 p2 p3 p4 p5 p6 p7 p8 p9 p10
      obtain ⟨j1, j2⟩ := T_newb hr (n := b) (k := ⟨v + 1, false, 1, intsY (insI xs i x), none⟩) (fun k0 h0 => by rw [hck] at h0; cases h0; exact Nat.lt_succ_self _) rfl rfl (w' := w') p1 p2 p3 p7 p8 p9 (fun j y hj => by
        obtain ⟨z, hz, rfl⟩ := hnI j y hj
        exact ⟨.int .i64 z, p10 j z hz, rfl⟩)
      refine ⟨_, _, rfl, rfl, ?_, j1, ?_, j2⟩
      · rw [← upd_list hk]
        simp only [Cx.anew, hH]
        funext q
        simp only [upd]
      · simp only [VR]
        refine ⟨⟨v + 1, false, 1, intsY (insI xs i x), none⟩, _, gc, by simp [Cx.anew, upd], Nat.le_refl _, rfl, ⟨p5, p6⟩, fun _ => .inr ⟨rfl, ?_, fun j hj => ?_⟩⟩
        · simp [Cx.at, Cx.anew, upd]
        · have hj' : j < cs'.size := by simp at hj; omega
          have e : (c.anew b ⟨v + 1, false, 1, intsY (insI xs i x), none⟩ w').at b (0 + j) = ⟨c.w.heap.size, j, none⟩ := by simp [Cx.at, Cx.anew, upd]
          rw [e]
          show (w'.cell? ⟨c.w.heap.size, j, none⟩).isSome = true
          simp [World.cell?, p3, hj']
    have hgcm : grownCap c.w (xs.length + 1) cap (ρ.t 3) ≤ 9223372036854775807 := grownCap_le_maxLen c.w (xs.length + 1) cap (ρ.t 3) (show xs.length + 1 ≤ 9223372036854775807 by omega)
    have hgcg := grownCap_ge c.w (xs.length + 1) cap (ρ.t 3)
    have hgD : ∀ {j : Nat} {z : Int}, xs[j]? = some z → j < xs.length ∧ xs.getD j 0 = z := fun {j z} h => by
      have hj : j < xs.length := by
        rcases Nat.lt_or_ge j xs.length with g | g
        · exact g
        · rw [List.getElem?_eq_none g] at h; cases h
      exact ⟨hj, by simp [h]⟩
    have hz1 : (Value.int .i64 0).cells.size = 1 := rfl
    have hcells : (cap = 0 ∨ ro = false ∧ a = some (c.at b 0)) := (g1 rfl).imp id fun h => ⟨h.1, h.2.1⟩
    have hcs : ro = false → ∀ (j : Nat) (w : Value), (xs.map (Value.int .i64))[j]? = some w → c.w.cell? ⟨(c.io b).1, (c.io b).2 + 0 + j, none⟩ = some w := fun hro j w hj => by
      subst hro
      simp only [List.getElem?_map] at hj
      cases hz : xs[j]? with
      | none => rw [hz] at hj; cases hj
      | some z =>
        rw [hz] at hj
        obtain rfl := (Option.some.inj hj)
        obtain ⟨u, q1, q2⟩ := hr.cell b _ hck j (.int .i64 z) (by simp [intsY, hz])
        simp only [VR] at q2
        subst q2
        exact q1
    by_cases hin : i < xs.length
    · rcases hcells with h0 | ⟨hro, rfl⟩
      · omega
      have hlt := hr.lt b _ hck hro
      refine (Any2.slices_Insert_int_grow L (c.io b).1 ((c.io b).2 + 0) xs.length cap i (c.io lb).1 ((c.io lb).2 + 0) 1 cap3 (xs.map (Value.int .i64)) [.int .i64 x] c.w hin (by omega) hcap.1 (by omega) (by omega) (by simp) rfl (hcs hro) hvs' h1c h1v).mono ?_
      rintro e w' ⟨rfl, rfl⟩
      obtain ⟨A2, hA2⟩ : ∃ A2, A2 = ((xs.map (Value.int .i64)).take i).toArray ++ Builtin.zeroCells (Value.int .i64 0).cells (xs.length + 1 - i) ++ Builtin.zeroCells (Value.int .i64 0).cells (grownCap c.w (xs.length + 1) cap (ρ.t 3) - (xs.length + 1)) := ⟨_, rfl⟩
      rw [← hA2]
      have hAs : A2.size = grownCap c.w (xs.length + 1) cap (ρ.t 3) := by
        rw [hA2]
        simp only [Array.size_append, List.size_toArray, List.length_take, List.length_map, size_zeroCells, hz1]
        omega
      generalize hgc : grownCap c.w (xs.length + 1) cap (ρ.t 3) = gc at hgcg hgcm hAs
      obtain ⟨W1, hW1⟩ : ∃ W1, W1 = (c.w.alloc (.cells A2 (ρ.t 3))).drew := ⟨_, rfl⟩
      rw [← hW1]
      have hph : W1.heap = c.w.heap.push (.cells A2 (ρ.t 3)) := by rw [hW1]; rfl
      have hpl : W1.heap[c.w.heap.size]? = some (.cells A2 (ρ.t 3) (0, 0)) := by rw [hph, Array.getElem?_push, if_pos rfl]
      have hcell : ∀ j, j < gc → (W1.cell? ⟨c.w.heap.size, j, none⟩).isSome = true := fun j hj => by
        simp [World.cell?, hpl, show j < A2.size by omega]
      have hold1 : ∀ j, j < i → W1.cell? ⟨c.w.heap.size, j, none⟩ = some (.int .i64 (xs.getD j 0)) := fun j hj => by
        have hjl : j < xs.length := by omega
        have e1 : A2[j]? = some (.int .i64 (xs.getD j 0)) := by
          rw [hA2, Array.append_assoc, Array.getElem?_append_left (by simp; omega), List.getElem?_toArray, List.getElem?_take, if_pos hj]
          simp [hjl]
        simp only [World.cell?, hpl]
        simpa using e1
      obtain ⟨a1, a2, a3⟩ := setCells_rest c.w.heap.size [Value.int .i64 x] i W1
      obtain ⟨ar1, d1, d2⟩ := setCells_block c.w.heap.size (ρ.t 3) [Value.int .i64 x] i W1 A2 hpl
      obtain ⟨b1, b2, b3⟩ := setCells_rest c.w.heap.size ((xs.map (Value.int .i64)).drop i) (i + 1) (W1.setCells c.w.heap.size i [Value.int .i64 x]).drew
      obtain ⟨ar2, d3, d4⟩ := setCells_block c.w.heap.size (ρ.t 3) ((xs.map (Value.int .i64)).drop i) (i + 1) (W1.setCells c.w.heap.size i [Value.int .i64 x]).drew ar1 d1
      refine fin2 _ gc ar2 (ρ.t 3) (fun q hq => by
        rw [setCells_other _ _ _ _ _ (Nat.ne_of_lt hq)]
        show (W1.setCells c.w.heap.size i [Value.int .i64 x]).heap[q]? = _
        rw [setCells_other _ _ _ _ _ (Nat.ne_of_lt hq), hph, Array.getElem?_push, if_neg (by omega)]) (by
        rw [setCells_size]
        show (W1.setCells c.w.heap.size i [Value.int .i64 x]).heap.size = _
        rw [setCells_size, hph, Array.size_push]) d3 (by rw [d4, d2, hAs]) hgcg hgcm (by rw [b1]; show (W1.setCells _ _ _).os = _; rw [a1, hW1]; rfl) (by rw [b2]; show (W1.setCells _ _ _).tape = _; rw [a2, hW1]; rfl) (by rw [b3]; show (W1.setCells _ _ _).output = _; rw [a3, hW1]; rfl) ?_
      intro j z hz
      rw [hins] at hz
      by_cases hj1 : j < i
      · rw [if_pos hj1] at hz
        obtain ⟨hjl, hzz⟩ := hgD hz
        rw [World.cell?_setCells_out _ _ _ _ _ (fun _ _ => by simp only; omega)]
        show (W1.setCells c.w.heap.size i [Value.int .i64 x]).cell? _ = _
        rw [World.cell?_setCells_out _ _ _ _ _ (fun _ _ => by simp only; omega), hold1 j hj1, hzz]
      · rw [if_neg hj1] at hz
        by_cases hj2 : j = i
        · rw [if_pos hj2] at hz
          obtain rfl := Option.some.inj hz
          subst hj2
          rw [World.cell?_setCells_out _ _ _ _ _ (fun _ _ => by simp only; omega)]
          exact World.cell?_setCells_in c.w.heap.size [Value.int .i64 x] j W1 (fun q hq => by
            have hq0 : q = 0 := by simp at hq; omega
            subst hq0
            exact hcell j (by omega)) 0 (by simp)
        · rw [if_neg hj2] at hz
          obtain ⟨hjl, hzz⟩ := hgD hz
          have := World.cell?_setCells_in c.w.heap.size ((xs.map (Value.int .i64)).drop i) (i + 1) (W1.setCells c.w.heap.size i [Value.int .i64 x]).drew (fun q hq => by
            show ((W1.setCells c.w.heap.size i [Value.int .i64 x]).cell? _).isSome = true
            rw [World.cell?_setCells_out _ _ _ _ _ (fun _ _ => by simp only [List.length_singleton]; omega)]
            exact hcell _ (by simp at hq; omega)) (j - (i + 1)) (by simp; omega)
          rw [show i + 1 + (j - (i + 1)) = j by omega] at this
          rw [this]
          congr 1
          simp [List.getElem_drop, show i + (j - (i + 1)) = j - 1 by omega]
          rw [← hzz]
          simp [hjl]
    · have hie : i = xs.length := by omega
      subst hie
      refine (Any2.slices_Insert_int_end_grow L a xs.length cap (c.io lb).1 ((c.io lb).2 + 0) 1 cap3 (xs.map (Value.int .i64)) [.int .i64 x] c.w (by omega) hcap.1 (by omega) (by omega) (by simp) rfl (fun h => by rcases hcells with h0 | ⟨_, h1⟩; omega; rw [h] at h1; cases h1) (fun ad had j w hj => by
        rcases hcells with h0 | ⟨hro, h1⟩
        · have : xs.length = 0 := by omega
          have : xs = [] := List.eq_nil_of_length_eq_zero this
          subst this
          simp at hj
        · rw [h1] at had
          obtain rfl := Option.some.inj had
          have := hcs hro j w hj
          rw [addr_add (show (c.at b 0).spot = none from rfl)]
          exact this) hvs' h1v).mono ?_
      rintro e w' ⟨rfl, rfl⟩
      obtain ⟨A2, hA2⟩ : ∃ A2, A2 = (xs.map (Value.int .i64) ++ [Value.int .i64 x]).toArray ++ Builtin.zeroCells (Value.int .i64 0).cells (grownCap c.w (xs.length + 1) cap (ρ.t 3) - (xs.length + 1)) := ⟨_, rfl⟩
      rw [← hA2]
      have hph : (c.w.drew.alloc (.cells A2 (ρ.t 3))).heap = c.w.heap.push (.cells A2 (ρ.t 3)) := rfl
      have hpl : (c.w.drew.alloc (.cells A2 (ρ.t 3))).heap[c.w.heap.size]? = some (.cells A2 (ρ.t 3) (0, 0)) := by rw [hph, Array.getElem?_push, if_pos rfl]
      refine fin2 _ (grownCap c.w (xs.length + 1) cap (ρ.t 3)) A2 (ρ.t 3) (fun q hq => by rw [hph, Array.getElem?_push, if_neg (by omega)]) (by rw [hph, Array.size_push]) hpl (by
        rw [hA2]
        simp only [Array.size_append, List.size_toArray, List.length_append, List.length_map, List.length_singleton, size_zeroCells, hz1]
        omega) hgcg hgcm rfl rfl rfl ?_
      intro j z hz
      have hz0 := hz
      rw [hins] at hz
      have hj : j < xs.length + 1 := by
        rcases Nat.lt_or_ge j (xs.length + 1) with g | g
        · exact g
        · rw [List.getElem?_eq_none (by rw [hlenI]; exact g)] at hz0; cases hz0
      have e1 : A2[j]? = some (.int .i64 z) := by
        rw [hA2]
        rw [Array.getElem?_append_left (by simpa using hj)]
        rw [List.getElem?_toArray, List.getElem?_append]
        by_cases hj1 : j < xs.length
        · rw [if_pos hj1] at hz
          rw [if_pos (by simpa using hj1), List.getElem?_map, hz]
          rfl
        · rw [if_neg hj1, if_pos (by omega)] at hz
          rw [if_neg (by simpa using hj1)]
          obtain rfl := Option.some.inj hz
          simp [show j - xs.length = 0 by omega]
      simp only [World.cell?, hpl]
      simpa using e1
end Go.Sym
