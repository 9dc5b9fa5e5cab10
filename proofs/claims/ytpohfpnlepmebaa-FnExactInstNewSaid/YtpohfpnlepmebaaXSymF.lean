/- Each operation of Go does what stepK says of it (what is built, made and appended). Conditions: those that each theorem names. -/
import Derived.Test.YtpohfpnlepmebaaXSymE
set_option linter.unusedVariables false
set_option linter.unusedSimpArgs false
namespace Go.Sym
open Go.RowKit

theorem VRs.set {c : Cx} {xs : List A} {vs : List Value} (h : VRs c xs vs) (off : Nat) {x : A} {v : Value} (hx : VR c x v) : VRs c (xs.set off x) (vs.set off v) := by
  refine VRs.mk (by simp [h.length]) fun j y u hy hu => ?_
  rw [List.getElem?_set] at hy hu
  split at hy
  · rename_i e
    subst e
    rw [if_pos rfl] at hu
    split at hy
    · rw [if_pos (by rw [h.length]; assumption)] at hu
      cases hy; cases hu; exact hx
    · cases hy
  · rename_i e
    rw [if_neg e] at hu
    obtain ⟨w, h1, h2⟩ := h.get hy
    rw [h1] at hu; cases hu; exact h2

theorem VRs.splice {c : Cx} : ∀ {ys : List A} {us : List Value}, VRs c ys us → ∀ {xs : List A} {vs : List Value}, VRs c xs vs → ∀ off, VRs c (splice xs off ys) (splice vs off us)
  | [], us, h, xs, vs, g, off => by simp only [VRs] at h; subst h; simpa [Sym.splice] using g
  | y :: ys, us, h, xs, vs, g, off => by
    simp only [VRs] at h
    obtain ⟨u, us', rfl, h2, h3⟩ := h
    simp only [Sym.splice]
    exact VRs.splice h3 (g.set off h2) (off + 1)

theorem foldl_splice (off : Nat) : ∀ (vs : List Value) (k : Nat) (arr : Array Value),
    ((vs.zipIdx k).foldl (fun cs (p : Value × Nat) => cs.setIfInBounds (off + p.2) p.1) arr).toList = splice arr.toList (off + k) vs
  | [], k, arr => by simp [splice]
  | v :: vs, k, arr => by
    simp only [List.zipIdx_cons, List.foldl_cons, splice]
    rw [foldl_splice off vs (k + 1)]
    simp [Nat.add_assoc]

def okPs (place : Nat → Option (Nat × Nat)) : List (Nat × Nat × Opd) → List (Nat × Operand) → Bool
  | [], [] => true
  | (off, sz, y) :: ps, (i, x) :: qs => decide (place i = some (off, sz)) && okO y x && okPs place ps qs
  | _, _ => false

theorem fill_sound {c : Cx} {e : Env} {a : Act} (he : EnvRel c e a) (place : Nat → Option (Nat × Nat)) : ∀ (ps : List (Nat × Nat × Opd)) (parts : List (Nat × Operand)), okPs place ps parts = true →
    ∀ (qs : List (Nat × Nat × A)), evPs e ps = some qs → ∀ (zs : List A) (arr : Array Value), VRs c zs arr.toList → ∀ cs, fillA zs qs = some cs →
    ∃ arr', Instr.fill place arr (parts.map fun p => (p.1, a.eval p.2)) = some arr' ∧ VRs c cs arr'.toList
  | [], parts, hok, qs, hq, zs, arr, hz, cs, hf => by
    cases parts <;> simp [okPs] at hok
    simp [evPs] at hq
    subst hq
    simp [fillA] at hf
    subst hf
    exact ⟨arr, rfl, hz⟩
  | (off, sz, y) :: ps, parts, hok, qs, hq, zs, arr, hz, cs, hf => by
    cases parts with
    | nil => simp [okPs] at hok
    | cons p parts =>
      obtain ⟨i, x⟩ := p
      simp [okPs] at hok
      obtain ⟨⟨h1, h2⟩, h3⟩ := hok
      simp only [evPs] at hq
      split at hq
      · rename_i z zs' hy hps
        injection hq with hq
        subst hq
        simp only [fillA] at hf
        split at hf
        · rename_i hc
          have hv := cellsV (evO he h2 hy)
          have hl := hv.length
          simp at hl
          have hzl := hz.length
          simp at hzl
          obtain ⟨arr', g1, g2⟩ := fill_sound he place ps parts h3 zs' hps (splice zs off (cellsA z))
            ((a.eval x).cells.zipIdx.foldl (fun cs (c, j) => cs.setIfInBounds (off + j) c) arr)
            (by
              have := foldl_splice off (a.eval x).cells.toList 0 arr
              simp only [Nat.add_zero] at this
              rw [← Array.foldl_toList, Array.toList_zipIdx, this]
              exact VRs.splice hv hz off) cs hf
          refine ⟨arr', ?_, g2⟩
          simp only [List.map_cons, Instr.fill, h1]
          rw [if_neg (by simp; omega)]
          exact g1
        · cases hf
      · cases hq

def placeOf (P : Program) (t : TypeId) : Option (Nat → Option (Nat × Nat)) :=
  match P.underlying t with
  | some (.array _ e) => (P.info? e).map fun ie => fun i => some (i * ie.size, ie.size)
  | some (.struct fields) => (fields.toList.mapM (fun f => (P.info? f.type).map fun i => (f.offset, i.size))).map fun places => (places.toArray[·]?)
  | _ => none

def okBuild (P : Program) (t : TypeId) (zs : List A) (ps : List (Nat × Nat × Opd)) (parts : List (Nat × Operand)) : Bool :=
  zeroIs P t zs && match placeOf P t with
    | some place => okPs place ps parts
    | none => false

theorem zeroIs.info {P : Program} {t : TypeId} {zs : List A} (h : zeroIs P t zs = true) : ∃ i z, P.info? t = some i ∧ i.zero = some z ∧ okAs zs z.cells.toList = true := by
  unfold zeroIs at h
  split at h
  · rename_i i hi
    split at h
    · rename_i z hz
      exact ⟨i, z, hi, hz, h⟩
    · simp at h
  · simp at h

section
variable {P : Program} {c : Cx} {e : Env} {a : Act} {H : List Blk} (hr : RelH c) (he : EnvRel c e a) (hsub : Sub c H)
include hr he

theorem does_build {t : TypeId} {zs : List A} {ps : List (Nat × Nat × Opd)} {parts : Array (Nat × Operand)} (hok : okBuild P t zs ps parts.toList = true) {r : A} {d : Dl}
    (h : stepK (.build zs ps) e H (fun u b => u = r ∧ b = d)) :
    Does P c H.length (do pure (.value (← Instr.build t (parts.map fun (i, x) => (i, a.eval x))))) r d := by
  simp only [okBuild, Bool.and_eq_true] at hok
  obtain ⟨hz, hok⟩ := hok
  obtain ⟨it, z, h1, h2, h3⟩ := zeroIs.info hz
  simp only [stepK] at h
  split at h
  · rename_i qs hqs
    split at h
    · rename_i cs hcs
      obtain ⟨rfl, rfl⟩ := h
      cases hp : placeOf P t with
      | none => simp [hp] at hok
      | some place =>
        rw [hp] at hok
        obtain ⟨arr', g1, g2⟩ := fill_sound he place ps parts.toList hok qs hqs zs z.cells (VRs.ok zs _ h3) cs hcs
        have hb : P.built t (parts.map fun (i, x) => (i, a.eval x)).toList = some arr' := by
          rw [Array.toList_map]
          unfold Program.built
          unfold placeOf at hp
          split at hp
          · rename_i e' hu
            cases hie : P.info? e' with
            | none => simp [hie] at hp
            | some ie =>
              simp only [hie, Option.map_some, Option.some.injEq] at hp
              subst hp
              simp only [h1, hu, h2, hie]
              exact g1
          · rename_i fields hu
            cases hm : fields.toList.mapM (fun f => (P.info? f.type).map fun i => (f.offset, i.size)) with
            | none => simp [hm] at hp
            | some places =>
              simp only [hm, Option.map_some, Option.some.injEq] at hp
              subst hp
              simp only [h1, hu, h2, hm]
              exact g1
          · cases hp
        refine Does.plain hr ?_ ⟨arr', rfl, g2⟩
        simp only [Sem.run_bind, run_build c.w t _ arr' hb, Result.andThen_ok]
        rfl
    · exact h.elim
  · exact h.elim

omit hr he in
theorem flat_get (zs : List A) : ∀ (n j : Nat), (List.replicate n zs).flatten[j]? = if j < n * zs.length then zs[j % zs.length]? else none
  | 0, j => by simp
  | n + 1, j => by
    simp only [List.replicate_succ, List.flatten_cons, List.getElem?_append, flat_get zs n]
    by_cases h : j < zs.length
    · rw [if_pos h, if_pos (by rw [Nat.add_mul]; omega), Nat.mod_eq_of_lt h]
    · rw [if_neg h]
      by_cases h' : j < (n + 1) * zs.length
      · rw [if_pos h', if_pos (by rw [Nat.add_mul] at h'; omega)]
        congr 1
        exact (Nat.mod_eq_sub_mod (by omega)).symm
      · rw [if_neg h', if_neg (by rw [Nat.add_mul] at h'; omega)]

omit hr he in
theorem flat_made {c : Cx} {zs : List A} {z : Array Value} (h : VRs c zs z.toList) (n : Nat) : VRs c (List.replicate n zs).flatten (madeCells z (n * zs.length)).toList := by
  have hl := h.length
  simp at hl
  refine VRs.mk (by simp [size_madeCells]) fun j x v hx hv => ?_
  rw [flat_get] at hx
  split at hx
  · rename_i hj
    have hpos : 0 < zs.length := by
      rcases Nat.eq_zero_or_pos zs.length with h0 | h0
      · rw [h0] at hj; omega
      · exact h0
    obtain ⟨u, h1, h2⟩ := h.get hx
    simp [madeCells, hj] at hv
    subst hv
    have hm : j % z.size < z.size := by rw [hl]; exact Nat.mod_lt _ hpos
    rw [← hl] at h1
    simp at h1
    have : z[j % z.size]! = u := by
      rw [getElem!_def, h1]
    rw [this]
    exact h2
  · cases hx

omit hr he in
theorem vr_new_refr {c : Cx} (n esz m cap : Nat) (ro : Bool) (hro : ro = true → cap = 0) (cs : List A) (w : World) (hc : ∀ j, j < cap * esz → (w.cell? ⟨c.w.heap.size, j, none⟩).isSome = true) (hm : m ≤ cap ∧ cap ≤ 9223372036854775807) :
    VR (c.anew n ⟨0, ro, esz, cs, none⟩ w) (.ref n 0 0 m) (.slice (some ⟨c.w.heap.size, 0, none⟩) m cap) := by
  refine ⟨_, _, cap, by simp [Cx.anew, upd_same]; rfl, by simp, rfl, hm, fun _ => ?_⟩
  cases ro with
  | true => exact .inl (hro rfl)
  | false =>
    refine .inr ⟨rfl, by simp [Cx.at, Cx.anew, upd_same], ?_⟩
    intro j hj
    simpa [Cx.at, Cx.anew, upd_same] using hc j hj
omit hr he in
theorem vr_new_ref {c : Cx} (n esz m cap : Nat) (cs : List A) (w : World) (hc : ∀ j, j < cap * esz → (w.cell? ⟨c.w.heap.size, j, none⟩).isSome = true) (hm : m ≤ cap ∧ cap ≤ 9223372036854775807) :
    VR (c.anew n ⟨0, false, esz, cs, none⟩ w) (.ref n 0 0 m) (.slice (some ⟨c.w.heap.size, 0, none⟩) m cap) :=
  vr_new_refr n esz m cap false (fun h => by cases h) cs w hc hm

def elemIs (P : Program) (t : TypeId) (esz bytes : Nat) (zs : List A) : Bool :=
  match P.underlying t with
  | some (.slice e) => match P.info? e with
    | some i => i.size == esz && i.bytes == bytes && zeroIs P e zs && zs.length == esz
    | none => false
  | _ => false

omit hr he in
theorem elemIs.out {t : TypeId} {esz bytes : Nat} {zs : List A} (h : elemIs P t esz bytes zs = true) : ∃ e i z, P.underlying t = some (.slice e) ∧ P.info? e = some i ∧ i.size = esz ∧ i.bytes = bytes ∧ i.zero = some z ∧ okAs zs z.cells.toList = true ∧ zs.length = esz := by
  unfold elemIs at h
  split at h
  · rename_i e hu
    split at h
    · rename_i i hi
      simp at h
      obtain ⟨i', z, h1, h2, h3⟩ := zeroIs.info h.1.2
      rw [hi] at h1
      cases h1
      exact ⟨e, i, z, hu, hi, h.1.1.1, h.1.1.2, h2, h3, h.2⟩
    · simp at h
  · simp at h

omit hr he in
theorem cell_push {w : World} {arr : Array Value} {ty : TypeId} (j : Nat) : ({ w with heap := w.heap.push (.cells arr ty) } : World).cell? ⟨w.heap.size, j, none⟩ = arr[j]? := by
  simp [World.cell?]

theorem does_mk {t : TypeId} {esz bytes : Nat} {zs : List A} {x y : Operand} {x' y' : Opd} (ht : elemIs P t esz bytes zs = true) (hx : okO x' x = true) (hy : okO y' y = true) {r : A} {d : Dl} (hn : ∀ k, d = .new k → c.H H.length = none)
    (h : stepK (.mk esz bytes zs x' y') e H (fun u b => u = r ∧ b = d)) :
    Does P c H.length (do pure (.value (← Instr.makeSlice t (a.eval x) (a.eval y)))) r d := by
  obtain ⟨e', i, z, h1, h2, h3, h4, h5, h6, h7⟩ := elemIs.out ht
  simp only [stepK] at h
  split at h
  · rename_i n m hx' hy'
    obtain ⟨rfl, g1, g2, g3, rfl, rfl⟩ := h
    have vx := evO he hx hx'
    have vy := evO he hy hy'
    simp only [VR] at vx vy
    have hz := VRs.ok (c := c) zs _ h6
    have hrun := run_make (P := P) c.w t e' i z h1 h2 h5 .i64 .i64 n n g1 (Int.le_refl _) (by rw [h4, Int.mul_comm]; exact g3) (by omega)
    have hm := flat_made hz n.toNat
    rw [h7, ← h3] at hm
    refine does_anew hr (hn _ rfl) hm esz _ _ (vr_new_ref (c := c) H.length esz n.toNat n.toNat _ _ (fun j hj => ?_) ⟨Nat.le_refl _, by omega⟩) (ty := e') ?_
    · rw [cell_push, Array.getElem?_eq_getElem (by rw [size_madeCells, h3]; exact hj)]; rfl
    · simp only [vx, vy, Sem.run_bind, hrun, Result.andThen_ok]
      rfl
  · exact h.elim

theorem does_bsl {t : TypeId} {esz bytes n : Nat} {zs : List A} {ps : List (Nat × Nat × Opd)} {parts : Array (Nat × Operand)} (ht : elemIs P t esz bytes zs = true) (hsz : n * esz ≤ 16777216 ∧ n ≤ 16777216)
    (hok : okPs (fun i => some (i * esz, esz)) ps parts.toList = true) {r : A} {d : Dl} (hn : ∀ k, d = .new k → c.H H.length = none) (h : stepK (.bsl esz n zs ps) e H (fun u b => u = r ∧ b = d)) :
    Does P c H.length (do pure (.value (← Instr.buildSlice t n (parts.map fun (i, x) => (i, a.eval x))))) r d := by
  obtain ⟨e', i, z, h1, h2, h3, h4, h5, h6, h7⟩ := elemIs.out ht
  simp only [stepK] at h
  by_cases h00 : n = 0
  · rw [if_pos h00] at h
    obtain ⟨hps, rfl, rfl⟩ := h
    subst h00
    have hpp : parts = #[] := by
      have hp0 : ps = [] := by simpa using hps
      subst hp0
      cases hpl : parts.toList with
      | nil => simpa using congrArg List.toArray hpl
      | cons _ _ => rw [hpl] at hok; simp [okPs] at hok
    subst hpp
    refine does_push hr (arr := #[]) (ty := e') .nil (.slice (some ⟨c.w.heap.size, 0, none⟩) 0 0) (fun _ => by simp only [VR]; exact ⟨_, rfl⟩) ?_
    simp only [Instr.buildSlice, run_underlying h1, Sem.run_bind, Result.andThen_ok, sizeOf, typeInfo, run_program, h2, Sem.run_pure, h3]
    simp [newRow, Instr.fill, Array.range_zero']
    try (rw [Array.range_zero']; simp)
  rw [if_neg h00] at h
  split at h
  · rename_i qs hqs
    split at h
    · rename_i cs hcs
      obtain ⟨rfl, rfl⟩ := h
      have hz := VRs.ok (c := c) zs _ h6
      have hm := flat_made hz n
      rw [h7] at hm
      obtain ⟨arr', g1, g2⟩ := fill_sound he _ ps parts.toList hok qs hqs _ (madeCells z.cells (n * esz)) hm cs hcs
      have hl := g2.length
      have hlen : ∀ (place : Nat → Option (Nat × Nat)) (l : List (Nat × Value)) (ar ar' : Array Value), Instr.fill place ar l = some ar' → ar'.size = ar.size := by
        intro place l
        induction l with
        | nil => intro ar ar' hf; simp [Instr.fill] at hf; rw [hf]
        | cons p l ih =>
          intro ar ar' hf
          obtain ⟨i, v⟩ := p
          simp only [Instr.fill] at hf
          split at hf
          · cases hf
          · split at hf
            · cases hf
            · rw [ih _ _ hf]
              rw [← Array.foldl_toList, Array.toList_zipIdx]
              rename_i off _ _ _
              have := congrArg List.length (foldl_splice off v.cells.toList 0 ar)
              rw [Array.length_toList] at this
              rw [this]
              have hsp : ∀ (ys xs : List Value) (o : Nat), (splice xs o ys).length = xs.length := by
                intro ys
                induction ys with
                | nil => intro xs o; rfl
                | cons y ys ih => intro xs o; rw [splice, ih]; simp
              rw [hsp]; simp
      have hsize := hlen _ _ _ _ g1
      rw [size_madeCells] at hsize
      refine does_anewr hr (hn _ rfl) g2 esz (decide (n = 0)) (fun h0 => by
        have h0' : n = 0 := by simpa using h0
        have : cs.length = 0 := by rw [← hl]; simp [hsize, h0']
        exact List.length_eq_zero_iff.1 this) _ _ (vr_new_refr (c := c) H.length esz n n (decide (n = 0)) (fun h0 => by simpa using h0) _ _ (fun j hj => ?_) ⟨Nat.le_refl _, by omega⟩) (ty := e') ?_
      · rw [cell_push, Array.getElem?_eq_getElem (by omega)]; rfl
      · have hfill : ∀ zero, (if n * esz = 0 then zero = #[] else zero = z.cells) → (Array.range (n * esz)).map (fun x => zero[x % zero.size]!) = madeCells z.cells (n * esz) := by
          intro zero hzero
          split at hzero
          · rename_i h0; simp [h0, madeCells, Array.range_zero']
          · rw [hzero]; rfl
        have hsz' : ¬ (16777216 < n * esz) := by omega
        by_cases h0 : n * esz = 0
        · have hm0 : madeCells z.cells 0 = #[] := by simp [madeCells, Array.range_zero']
          simp only [Instr.buildSlice, run_underlying h1, Sem.run_bind, Result.andThen_ok, sizeOf, typeInfo, run_program, h2, Sem.run_pure, h3, gt_iff_lt, hsz', if_false, h0, if_true, Array.toList_map]
          rw [h0, hm0] at g1
          simp [newRow]
          rw [Array.range_zero', Array.map_empty, g1]
          simp
        · have hf := hfill z.cells (by rw [if_neg h0])
          simp only [Instr.buildSlice, run_underlying h1, Sem.run_bind, Result.andThen_ok, sizeOf, typeInfo, zeroValue, run_program, h2, h5, Sem.run_pure, h3, gt_iff_lt, hsz', if_false, h0, Array.toList_map]
          simp [hsz', h0, h2, h5, newRow, typeInfo, zeroValue]
          simp only [madeCells] at g1
          simp [g1, newRow]
    · exact h.elim
  · exact h.elim
end
end Go.Sym
