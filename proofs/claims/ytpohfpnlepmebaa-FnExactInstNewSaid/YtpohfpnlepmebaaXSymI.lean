/- append does what stepK says of it. Conditions: those that each theorem names. -/
import Derived.Test.YtpohfpnlepmebaaXSymH
import Derived.Deep.AppendSrc
set_option linter.unusedVariables false
set_option linter.unusedSimpArgs false
namespace Go.Sym
open Go.RowKit

def elemZ (P : Program) (t : TypeId) (esz bytes : Nat) : Bool :=
  match P.underlying t with
  | some (.slice e) => match P.info? e with
    | some i => i.size == esz && i.bytes == bytes && (match i.zero with | some z => z.cells.size == esz | none => false)
    | none => false
  | _ => false

theorem elemZ.out {P : Program} {t : TypeId} {esz bytes : Nat} (h : elemZ P t esz bytes = true) : ∃ e i z, P.underlying t = some (.slice e) ∧ P.info? e = some i ∧ i.size = esz ∧ i.bytes = bytes ∧ i.zero = some z ∧ z.cells.size = esz := by
  unfold elemZ at h
  split at h
  · rename_i e hu
    split at h
    · rename_i i hi
      simp at h
      split at h
      · rename_i z hz
        simp at h
        exact ⟨e, i, z, hu, hi, h.1.1, h.1.2, hz, h.2⟩
      · simp at h
    · simp at h
  · simp at h

/-- What is appended: its elements and their cells. -/
def srcOf (H : List Blk) (esz : Nat) : Option A → Option (Nat × List A)
  | some (.sl m ys) => some (m, ys)
  | some .nil => some (0, [])
  | some (.ref b v off m) => match H[b]? with
    | some k => if k.v = v ∧ off + m * esz ≤ k.cs.length then some (m, (k.cs.drop off).take (m * esz)) else none
    | none => none
  | some (.str s) => if esz = 1 then some (s.size, s.data.toList.map b8) else none
  | _ => none

theorem srcTo {P : Program} {size : Nat} {tx tx' : TypeId} {x : Value} {n : Nat} {news : List Value} {w : World} (h : Src P size tx x n news w) (hk : (∃ e', P.underlying tx' = some (.slice e')) ∨ P.underlying tx' = some .string) : Src P size tx' x n news w := ⟨hk, h.len, h.cells, h.cellsD, h.newsLen, h.one⟩
theorem byteV {c : Cx} : ∀ (l : List UInt8), VRs c (l.map b8) (l.map fun b => Value.int .u8 b.toNat)
  | [] => rfl
  | b :: l => ⟨_, _, rfl, rfl, byteV l⟩

section
variable {P : Program} {c : Cx} {e : Env} {a : Act} {H : List Blk} (hr : RelH c) (he : EnvRel c e a) (hsub : Sub c H)
include hr hsub

theorem srcV {t tx el : TypeId} {esz : Nat} (htx : P.underlying t = some (.slice el)) (hkd : (∃ e', P.underlying tx = some (.slice e')) ∨ P.underlying tx = some .string) {y : A} {yv : Value} (hy : VR c y yv) {m : Nat} {ys : List A} (h : srcOf H esz (some y) = some (m, ys)) (hl : ys.length = m * esz) (h1 : ys.all A.one = true) :
    ∃ news, Src P esz tx yv m news c.w ∧ VRs c ys news := by
  have hnone : ∀ (ao : Option Addr) (cap : Nat), ∃ news, Src P esz tx (.slice ao 0 cap) 0 news c.w ∧ VRs c [] news := by
    intro ao cap
    cases ao with
    | none => exact ⟨[], srcTo (Src.ofNil c.w htx cap) hkd, rfl⟩
    | some ad => exact ⟨[], srcTo (Src.ofSlice c.w htx ad 0 cap [] (by simp) (by simp) (by simp)) hkd, rfl⟩
  cases y <;> simp only [srcOf] at h <;> try (cases h; done)
  · rename_i s
    split at h
    · rename_i he
      cases h
      subst he
      simp only [VR] at hy
      subst hy
      refine ⟨byteCells s, ⟨hkd, fun _ => rfl, firstCells_string s _, firstCells_string s _, by simp [byteCells_length], fun u hu => ?_⟩, byteV _⟩
      obtain ⟨b, _, rfl⟩ := List.mem_map.1 hu
      rfl
    · cases h
  · rename_i n cs
    cases h
    simp only [VR] at hy
    obtain ⟨ao, cap, rfl, hn, g⟩ := hy
    rcases g with rfl | ⟨ad, vs, rfl, g3, g4, g5, g6, g7⟩
    · have : ys = [] := List.eq_nil_of_length_eq_zero (by simpa using hl)
      subst this
      exact hnone ao cap
    · exact ⟨vs, srcTo (Src.ofSlice c.w htx ad m cap vs (by rw [g7.length, hl]) (fun j u hj => by rw [addr_add g3]; exact g6 j u hj) (onesV g7 h1)) hkd, g7⟩
  · cases h
    simp only [VR] at hy
    obtain ⟨ao, rfl⟩ := hy
    exact hnone ao 0
  · rename_i b v off n
    split at h
    · rename_i k hk
      split at h
      · rename_i hc
        cases h
        simp only [VR] at hy
        obtain ⟨k', ao, cap, g1, g2, rfl, hn, g4⟩ := hy
        have hck : c.H b = some k := by rcases hsub b k hk with h' | h' <;> simp_all
        rw [hck] at g1
        cases g1
        rcases g4 hc.1.symm with g4 | ⟨_, rfl, g5⟩
        · have : m = 0 := by omega
          subst this
          simp
          subst g4
          simpa using hnone ao 0
        · obtain ⟨vs, i1, i2⟩ := rowVals hr hck
          have i3 := ((i2.drop off).take (m * esz))
          refine ⟨_, srcTo (Src.ofSlice c.w htx (c.at b off) m cap _ (by rw [i3.length, hl]) (fun j u hj => ?_) (onesV i3 h1)) hkd, i3⟩
          rw [addr_add rfl]
          have := ((i1.drop off).take (m * esz)) j u hj
          simpa [Cx.at] using this
      · cases h
    · cases h

omit hsub in
theorem grow {t tx ty te : TypeId} {i : TypeInfo} {z : Value} (u1 : P.underlying t = some (.slice te)) (u2 : P.info? te = some i) (u5 : i.zero = some z) (u6 : z.cells.size = i.size) {nn ver : Nat} (hnn : ∀ k0, c.H nn = some k0 → k0.v < ver)
    {ao : Option Addr} {n cap m : Nat} {olds news : List Value} {xs ys : List A} (hold : (Builtin.firstCells i.size n (.slice ao n cap)).run P c.w.drew = .ok olds.toArray c.w.drew) (hx : VRs c xs olds) (hxl : xs.length = n * i.size)
    {yv : Value} (s1 : Src P i.size tx yv m news c.w) (s2 : VRs c ys news) (hg : cap < n + m) (hb : (n + m) * i.bytes ≤ 17592186044416) (h63 : n + m ≤ 4294967296) :
    ∃ v c', (Builtin.append_ #[t, tx] ty #[.slice ao n cap, yv]).run P c.w = .ok v c'.w ∧ VR c' (.ref nn ver 0 (n + m)) v ∧ RelH c' ∧ Step c c' ∧ c'.H = upd c.H nn (some ⟨ver, false, i.size, xs ++ ys, none⟩) := by
  have hrun := run_append_grow_src (P := P) c.w t tx ty te i z u1 u2 u5 ao n cap olds hold yv m news s1 hg (by omega) (growslice_fits hg (by omega))
  have hxy := hx.app s2
  have hol := hx.length
  have hnl := s1.newsLen
  have hge0 := grownCap_ge c.w (n + m) cap te
  have hgm : grownCap c.w (n + m) cap te ≤ 9223372036854775807 := grownCap_le_maxLen c.w (n + m) cap te (show n + m ≤ 9223372036854775807 by omega)
  generalize grownCap c.w (n + m) cap te = gc at hrun hge0 hgm
  have hge : n + m ≤ gc := hge0
  obtain ⟨arr, harr⟩ : ∃ arr, arr = (olds ++ news).toArray ++ Builtin.zeroCells z.cells (gc - (n + m)) := ⟨_, rfl⟩
  rw [← harr] at hrun
  obtain ⟨W, hW⟩ : ∃ W, W = c.w.drew.alloc (.cells arr te) := ⟨_, rfl⟩
  rw [← hW] at hrun
  have hpush : W.heap = c.w.heap.push (.cells arr te) := by rw [hW]; rfl
  have hasz : arr.size = gc * i.size := by
    rw [harr]
    simp only [Array.size_append, List.size_toArray, List.length_append, size_zeroCells, u6, hol, hxl, hnl, Nat.sub_mul]
    have : (n + m) * i.size ≤ gc * i.size := Nat.mul_le_mul_right _ hge
    rw [Nat.add_mul] at this ⊢
    omega
  obtain ⟨h1, h2⟩ := T_new hr (n := nn) (k := ⟨ver, false, i.size, xs ++ ys, none⟩) hnn rfl (by simp) (w' := W) (arr := arr) (ty := te) hpush (by rw [hW]; rfl) (by rw [hW]; rfl) (by rw [hW]; rfl)
    (fun j y hj => by
      obtain ⟨u, g1, g2⟩ := hxy.get hj
      refine ⟨u, ?_, g2⟩
      have hjl : j < (olds ++ news).length := by
        rcases Nat.lt_or_ge j (olds ++ news).length with h' | h'
        · exact h'
        · rw [List.getElem?_eq_none h'] at g1; cases g1
      rw [harr, Array.getElem?_append_left (by simpa using hjl)]
      simpa using g1)
  refine ⟨_, c.anew nn ⟨ver, false, i.size, xs ++ ys, none⟩ W, hrun, ?_, h1, h2, rfl⟩
  refine ⟨⟨ver, false, i.size, xs ++ ys, none⟩, _, _, by simp [Cx.anew, upd_same], Nat.le_refl _, rfl, ⟨hge, hgm⟩, fun _ => .inr ⟨rfl, by simp [Cx.at, Cx.anew, upd_same], fun j hj => ?_⟩⟩
  have hat : (c.anew nn ⟨ver, false, i.size, xs ++ ys, none⟩ W).at nn (0 + j) = ⟨c.w.heap.size, j, none⟩ := by simp [Cx.at, Cx.anew, upd_same]
  rw [hat]
  have hcell : W.cell? ⟨c.w.heap.size, j, none⟩ = arr[j]? := by simp [World.cell?, hpush]
  show (W.cell? ⟨c.w.heap.size, j, none⟩).isSome = true
  rw [hcell, Array.getElem?_eq_getElem (by rw [hasz]; exact hj)]
  rfl

include he
theorem does_app {t tx ty : TypeId} {esz bytes : Nat} (hf : elemZ P t esz bytes = true) (htx : (∃ e', P.underlying tx = some (.slice e')) ∨ P.underlying tx = some .string) {x y : Operand} {x' y' : Opd} (hx : okO x' x = true) (hy : okO y' y = true) {r : A} {d : Dl} (hn : ∀ k, d = .new k → c.H H.length = none)
    (h : stepK (.app esz bytes x' y') e H (fun z b => z = r ∧ b = d)) :
    Does P c H.length (do pure (.value (← Builtin.append_ #[t, tx] ty #[a.eval x, a.eval y]))) r d := by
  obtain ⟨te, i, z, u1, u2, u3, u4, u5, u6⟩ := elemZ.out hf
  have hsrc : ∀ o, (match o with
      | some (A.sl m ys) => some (m, ys)
      | some A.nil => some (0, [])
      | some (A.ref b v off m) => match H[b]? with
        | some k => if k.v = v ∧ off + m * esz ≤ k.cs.length then some (m, (k.cs.drop off).take (m * esz)) else none
        | none => none
      | some (A.str s) => if esz = 1 then some (s.size, s.data.toList.map b8) else none
      | _ => none) = srcOf H esz o := by
    intro o
    cases o with
    | none => rfl
    | some w => cases w <;> rfl
  simp only [stepK, hsrc] at h
  cases hyv : ev e y' with
  | none => rw [hyv] at h; simp only [srcOf] at h; split at h <;> simp_all
  | some yy =>
    rw [hyv] at h
    have vy := evO he hy hyv
    split at h
    · rename_i b v off n m ys hxv hs
      split at h
      · rename_i k hk
        obtain ⟨e1, e2, e3, e4, e5, e6, e7, e8, e9, rfl, rfl⟩ := h
        have hmp := e2
        subst e4
        have vx := evO he hx hxv
        simp only [VR] at vx
        obtain ⟨k', ao, cap, g1, g2, g3, gn, g4⟩ := vx
        have hck : c.H b = some k := by rcases hsub b k hk with h' | h' <;> simp_all
        rw [hck] at g1
        cases g1
        obtain ⟨news, s1, s2⟩ := srcV (P := P) hr hsub u1 htx vy hs e6 e7
        obtain ⟨vs, i1, i2⟩ := rowVals hr hck
        have hvl := i2.length
        have hnl := s2.length
        rw [← u3] at s1
        by_cases hroom : n + m ≤ cap
        · -- there is room
          rcases g4 e1.symm with g4 | ⟨e2, rfl, g5⟩
          · -- of no room at all
            have hn0 : n = 0 := by omega
            have hm0 : m = 0 := by omega
            subst hn0 hm0 g4
            have hys : ys = [] := List.eq_nil_of_length_eq_zero (by simpa using e6)
            have hnw : news = [] := List.eq_nil_of_length_eq_zero (by simpa [hys] using hnl)
            subst hys hnw
            have hrun : (Builtin.append_ #[t, tx] ty #[.slice ao 0 0, a.eval y]).run P c.w = .ok (.slice ao 0 0) c.w := by
              rcases htx with ⟨_, htx⟩ | htx <;> cases ao <;> simp [Builtin.append_, run_underlying u1, run_underlying htx, sizeOf, typeInfo, u2, s1.len, s1.cells, storeCells]
            have hv : ∀ w', VR (c.aset b { k with v := v + 1, ro := k.ro && decide (0 = 0), cs := k.cs ++ [] } w') (.ref b (v + 1) 0 (0 + 0)) (.slice ao 0 0) := fun w' =>
              ⟨_, ao, 0, by simp [Cx.aset, upd_same]; rfl, by simp, rfl, ⟨Nat.le_refl _, by omega⟩, fun _ => .inl rfl⟩
            cases hro : k.ro with
            | false =>
              obtain ⟨arr, ety, hblk⟩ := hr.fz b k hck hro hmp
              obtain ⟨j1, j2⟩ := T_set hr hck hro (k' := { k with v := v + 1, ro := k.ro && decide (0 = 0), cs := k.cs ++ [] }) (by simp [hro]) hmp (by simp; omega) rfl (w' := c.w) (fun _ _ => rfl) rfl rfl rfl rfl hblk hblk rfl
                (fun j x hj => hr.cell b k hck j x (by simpa using hj))
              rw [hro] at j1 j2 hv
              exact ⟨.slice ao 0 0, c.aset b _ _, .inl (by simp only [g3, Sem.run_bind, hrun, Result.andThen_ok]; rfl), hv _, j1, j2, rfl⟩
            | true =>
              obtain ⟨j1, j2⟩ := T_virt hr hck hro (k' := { k with v := v + 1, ro := k.ro && decide (0 = 0), cs := k.cs ++ [] }) (by simp; omega) (by simp [hro]) (by simp [hr.vz b k hck hro]) hmp
              rw [hro] at j1 j2 hv
              exact ⟨.slice ao 0 0, c.aset b _ _, .inl (by simp only [g3, Sem.run_bind, hrun, Result.andThen_ok]; rfl), hv _, j1, j2, rfl⟩
          · obtain ⟨arr, ety, hblk⟩ := hr.fz b k hck e2 hmp
            have hthere : ∀ j, j < news.length → (c.w.cell? ⟨(c.io b).1, (c.io b).2 + n * esz + j, none⟩).isSome = true := by
              intro j hj
              have hlt : n * esz + j < cap * k.esz := by
                rw [e3]
                have : (n + m) * esz ≤ cap * esz := Nat.mul_le_mul_right _ hroom
                rw [Nat.add_mul] at this
                omega
              have := g5 (n * esz + j) hlt
              simpa [Cx.at, Nat.add_assoc] using this
            have hrun := run_append_room_src (P := P) c.w t tx ty te i u1 u2 (c.io b).1 (c.io b).2 n cap (a.eval y) m news s1 hroom (by rw [u3]; exact hthere) (fun j _ => frozen_of hblk _)
            rw [u3] at hrun
            obtain ⟨arr', hb', hs'⟩ := setCells_block (c.io b).1 ety news ((c.io b).2 + n * esz) c.w arr hblk
            obtain ⟨o1, o2, o3⟩ := setCells_rest (c.io b).1 news ((c.io b).2 + n * esz) c.w
            obtain ⟨j1, j2⟩ := T_set hr hck e2 (k' := { k with v := v + 1, ro := k.ro && decide (m = 0), cs := k.cs ++ ys }) (by simp [e2]) hmp (by simp; omega) rfl
              (w' := c.w.setCells (c.io b).1 ((c.io b).2 + n * esz) news)
              (fun q hq => setCells_other _ _ _ _ _ hq) (setCells_size _ _ _ _) o1 o2 o3 hblk hb' hs' (fun j x hj => by
                simp only [List.getElem?_append] at hj
                split at hj
                · rename_i hjl
                  obtain ⟨u, k1, k2⟩ := hr.cell b k hck j x hj
                  refine ⟨u, ?_, k2⟩
                  rw [World.cell?_setCells_out _ _ _ _ _ (fun _ _ => by simp only [Cx.at]; omega), k1]
                · rename_i hjl
                  obtain ⟨u, k1, k2⟩ := s2.get hj
                  have hjl' : j - k.cs.length < news.length := by
                    rcases Nat.lt_or_ge (j - k.cs.length) news.length with h' | h'
                    · exact h'
                    · rw [List.getElem?_eq_none h'] at k1; cases k1
                  have := World.cell?_setCells_in (c.io b).1 news ((c.io b).2 + n * esz) c.w hthere (j - k.cs.length) hjl'
                  refine ⟨u, ?_, k2⟩
                  rw [List.getElem?_eq_getElem hjl'] at k1
                  injection k1 with k1
                  rw [show c.at b j = ⟨(c.io b).1, (c.io b).2 + n * esz + (j - k.cs.length), none⟩ by simp [Cx.at]; omega, this, k1])
            refine ⟨.slice (some (c.at b 0)) (n + m) cap, c.aset b _ _, .inl ?_, ?_, j1, j2, rfl⟩
            · simp only [g3, Sem.run_bind]
              have e0 : c.at b 0 = ⟨(c.io b).1, (c.io b).2, none⟩ := rfl
              rw [e0, hrun]
              rfl
            · refine ⟨_, _, cap, by simp [Cx.aset, upd_same]; rfl, by simp, rfl, ⟨hroom, by omega⟩, fun _ => .inr ⟨by simp [e2], rfl, fun j hj => ?_⟩⟩
              exact j2.cells _ (g5 j hj)
        · -- there is none
          have holds : (Builtin.firstCells i.size n (.slice ao n cap)).run P c.w.drew = .ok vs.toArray c.w.drew := by
            rcases g4 e1.symm with g4 | ⟨_, rfl, g5⟩
            · have hn0 : n = 0 := by omega
              subst hn0
              have : vs = [] := List.eq_nil_of_length_eq_zero (by rw [hvl, ← e5]; simp)
              subst this
              cases ao <;> simp [Builtin.firstCells, loadCells, loadCellsFrom]
            · exact run_firstCells_some c.w.drew i.size n _ n cap vs (by rw [hvl, u3, e5]) (fun j u hj => by rw [addr_add rfl]; exact i1 j u hj)
          obtain ⟨rv, c', q1, q2, q3, q4, q5⟩ := grow (P := P) hr (ty := ty) u1 u2 u5 (by rw [u6, u3]) (nn := b) (ver := v + 1) (fun k0 h0 => by rw [hck] at h0; cases h0; omega) holds i2 (by rw [u3, e5]) s1 s2 (by omega) (by rw [u4]; exact e8) e9
          refine ⟨rv, c', .inl ?_, q2, q3, q4, ?_⟩
          · simp only [g3, Sem.run_bind, q1]
            rfl
          · rw [q5]
            have hm0 : m ≠ 0 := by omega
            simp only [Dl.on, u3, e3, hmp, hm0, decide_false, Bool.and_false]
      · exact h.elim
    · rename_i m ys hxv hs
      obtain ⟨e6, e7, e8, e9, h⟩ := h
      have vx := evO he hx hxv
      simp only [VR] at vx
      obtain ⟨ao, g3⟩ := vx
      obtain ⟨news, s1, s2⟩ := srcV (P := P) hr hsub u1 htx vy hs e6 e7
      have hnl := s2.length
      rw [← u3] at s1
      by_cases hm : m = 0
      · rw [if_pos hm] at h
        obtain ⟨rfl, rfl⟩ := h
        subst hm
        have hys : ys = [] := List.eq_nil_of_length_eq_zero (by simpa using e6)
        have hnw : news = [] := List.eq_nil_of_length_eq_zero (by simpa [hys] using hnl)
        subst hys hnw
        refine Does.plain hr (v := .slice ao 0 0) ?_ ⟨ao, rfl⟩
        rcases htx with ⟨_, htx⟩ | htx <;> cases ao <;> simp [g3, Builtin.append_, run_underlying u1, run_underlying htx, sizeOf, typeInfo, u2, s1.len, s1.cells, storeCells]
      · rw [if_neg hm] at h
        obtain ⟨rfl, rfl⟩ := h
        have holds : (Builtin.firstCells i.size 0 (.slice ao 0 0)).run P c.w.drew = .ok ([] : List Value).toArray c.w.drew := by
          cases ao <;> simp [Builtin.firstCells, loadCells, loadCellsFrom]
        obtain ⟨rv, c', q1, q2, q3, q4, q5⟩ := grow (P := P) hr (ty := ty) u1 u2 u5 (by rw [u6, u3]) (nn := H.length) (ver := 0) (fun k0 h0 => by rw [hn _ rfl] at h0; cases h0) holds (xs := []) rfl (by simp) s1 s2 (by omega) (by rw [u4]; simpa using e8) (by simpa using e9)
        simp only [Nat.zero_add] at q2
        refine ⟨rv, c', .inl ?_, q2, q3, q4, ?_⟩
        · simp only [g3, Sem.run_bind, q1]
          rfl
        · rw [q5]
          simp only [Dl.on, u3, List.nil_append]
    · exact h.elim
end
end Go.Sym
