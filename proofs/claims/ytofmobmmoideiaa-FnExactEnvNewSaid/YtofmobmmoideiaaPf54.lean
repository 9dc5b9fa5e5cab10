/- The Go functions of this seat as plain Lean functions, and the proofs that each call answers as its function says; laid by a program (gp.py of this repository). Conditions: those that each theorem names. -/
import Derived.Test.YtofmobmmoideiaaP0
import Derived.ChangeKeysEq
import Derived.Laws.IdiomCopy
import Derived.Laws.MakeOwn
import Derived.Lib.LazyBuf
namespace Go.Proofs.Ytofmobmmoideiaa.P
open Go.RowKit Go.Proofs.YtofmobmmoideiaaW.PrintWords Go.Proofs.YtofmobmmoideiaaW.PrintLast Go.Proofs.YtofmobmmoideiaaW.PrintMore
attribute [local go_sem] max2_int min2_int max_two min_two max_three min_three max_four min_four   -- for this text's walks alone
set_option linter.unusedVariables false
set_option linter.unusedSimpArgs false

/-! ### bits_Mul64: function 54 -/
def bits_Mul64.f (a0 : Int) (a1 : Int) : Option (Int × Int) := some (IntKind.u64.wrap ((IntKind.u64.wrap ((IntKind.u64.wrap ((a0 / 4294967296) * (a1 / 4294967296))) + ((IntKind.u64.wrap ((IntKind.u64.wrap ((a0 / 4294967296) * (Go.bits .and .u64 a1 4294967295))) + ((IntKind.u64.wrap ((Go.bits .and .u64 a0 4294967295) * (Go.bits .and .u64 a1 4294967295))) / 4294967296))) / 4294967296))) + ((IntKind.u64.wrap ((Go.bits .and .u64 (IntKind.u64.wrap ((IntKind.u64.wrap ((a0 / 4294967296) * (Go.bits .and .u64 a1 4294967295))) + ((IntKind.u64.wrap ((Go.bits .and .u64 a0 4294967295) * (Go.bits .and .u64 a1 4294967295))) / 4294967296))) 4294967295) + (IntKind.u64.wrap ((Go.bits .and .u64 a0 4294967295) * (a1 / 4294967296))))) / 4294967296)), IntKind.u64.wrap (a0 * a1))
set_option maxHeartbeats 8000000 in
set_option maxRecDepth 100000 in
theorem bits_Mul64.calls (a0 : Int) (a1 : Int) (r1 : Int) (r2 : Int) (w : World) (h : bits_Mul64.f a0 a1 = some (r1, r2)) :
    Calls Try.prog 54 #[.int .u64 a0, .int .u64 a1] w fun e w' => e = .returned (.tuple #[.int .u64 r1, .int .u64 r2]) ∧ Drawn0 w w' := by
  have H : (some (IntKind.u64.wrap ((IntKind.u64.wrap ((IntKind.u64.wrap ((a0 / 4294967296) * (a1 / 4294967296))) + ((IntKind.u64.wrap ((IntKind.u64.wrap ((a0 / 4294967296) * (Go.bits .and .u64 a1 4294967295))) + ((IntKind.u64.wrap ((Go.bits .and .u64 a0 4294967295) * (Go.bits .and .u64 a1 4294967295))) / 4294967296))) / 4294967296))) + ((IntKind.u64.wrap ((Go.bits .and .u64 (IntKind.u64.wrap ((IntKind.u64.wrap ((a0 / 4294967296) * (Go.bits .and .u64 a1 4294967295))) + ((IntKind.u64.wrap ((Go.bits .and .u64 a0 4294967295) * (Go.bits .and .u64 a1 4294967295))) / 4294967296))) 4294967295) + (IntKind.u64.wrap ((Go.bits .and .u64 a0 4294967295) * (a1 / 4294967296))))) / 4294967296)), IntKind.u64.wrap (a0 * a1))) = some (r1, r2) := h
  clear h
  simp only [Option.some.injEq, Prod.mk.injEq] at H
  obtain ⟨rfl, rfl⟩ := H
  go_enter Try.func54, Try.ntmps54
  go_wp2
  go_ret2
  exact ⟨by first | rfl | (simp; done) | (simp [*]; done), by repeat (first | exact Drawn0.refl _ | apply Drawn0.step)⟩

/-! ### bits_Mul: function 44 -/
def bits_Mul.f (a0 : Int) (a1 : Int) : Option (Int × Int) := (bits_Mul64.f a0 a1).bind fun bt101 => (some (bt101.1, bt101.2))
set_option maxHeartbeats 8000000 in
set_option maxRecDepth 100000 in
theorem bits_Mul.calls (a0 : Int) (a1 : Int) (r1 : Int) (r2 : Int) (w : World) (h : bits_Mul.f a0 a1 = some (r1, r2)) :
    Calls Try.prog 44 #[.int .u64 a0, .int .u64 a1] w fun e w' => e = .returned (.tuple #[.int .u64 r1, .int .u64 r2]) ∧ Drawn0 w w' := by
  have H : ((bits_Mul64.f a0 a1).bind fun bt101 => (some (bt101.1, bt101.2))) = some (r1, r2) := h
  clear h
  replace H := Option.bind_eq_some_iff.mp H
  obtain ⟨⟨t101, t102⟩, A30, H⟩ := H
  replace H : (some (t101, t102)) = some (r1, r2) := H
  have A3 := Aside0.mk A30
  clear A30
  simp only [Option.some.injEq, Prod.mk.injEq] at H
  obtain ⟨rfl, rfl⟩ := H
  go_enter Try.func44, Try.ntmps44
  go_wp2_with (first | ((with_reducible refine gate_callee (f := 54) rfl ?_); refine goesL_ (some 25) rfl rfl Try.func54 (by kernel_rfl) rfl #[.int .u64 a0, .int .u64 a1] rfl (by (try simp only [List.map_toArray, List.map_cons, List.map_nil]); first | done | rfl | (simp only [List.length_drop, List.length_take]; rfl)) ?_; (with_reducible refine (bits_Mul64.calls a0 a1 t101 t102 _ A3.out).mono ?_); rintro e w' ⟨rfl, ⟨nd, rfl⟩⟩; refine ⟨_, rfl, ?_⟩))
  go_ret2
  exact ⟨by first | rfl | (simp; done) | (simp [*]; done), by repeat (first | exact Drawn0.refl _ | apply Drawn0.step)⟩

/-! ### slices_Repeat_int_int: function 32 -/
section
/-! slices.Repeat at one number, 26 times: the new row is filled by copies of what it has. -/
def slices_Repeat_int_int.f (l : List Int) (a1 : Int) : Option (List Int) := if l.length = 1 ∧ a1 = 26 then some (List.replicate 26 (l.getD 0 0)) else none
def repRow (x : Int) (n : Nat) : List Int := List.replicate n x ++ List.replicate (26 - n) 0
def blkOf (x : Int) (n : Nat) : Array Value := ((repRow x n).map (fun a => Value.int .i64 a)).toArray
theorem repRow_length (x : Int) (n : Nat) (h : n ≤ 26) : (repRow x n).length = 26 := by simp [repRow]; omega
theorem rep_copy (W : World) (ty : TypeId) (g n m s k c c' : Nat) (ad : Addr) (x : Int) (hb : W.heap[g]? = some (.cells (blkOf x n) 3 (0, 0))) (hnm : n + m = 26) (hsrc : ∀ j, j < k → W.cell? (ad.add j) = some (.int .i64 x)) (hk : k = min s m) (kz : Int) (hkz : kz = k) :
    ∃ W1, (Builtin.copy_ #[24, 24] ty #[.slice (some ⟨g, n, none⟩) m c, .slice (some ad) s c']).run Try.prog W = .ok (.int .i64 kz) W1 ∧ Aside0 (W1.heap[g]? = some (.cells (blkOf x (n + k)) 3 (0, 0)) ∧ W.grownBy W1 (some g)) := by
  have hsz : (blkOf x n).size = 26 := by simp [blkOf, repRow_length x n (by omega)]
  have hl : (List.replicate k (Value.int .i64 x)).length = k := by simp
  have hr := run_copy_cells (P := Try.prog) W 24 24 ty 3 g n m c ad s c' (List.replicate k (.int .i64 x)) Try.underlying24 (by kernel_rfl) (by rw [hl, hk])
    (fun j u hu => by
      rw [List.getElem?_replicate] at hu
      split at hu
      · rename_i hj; rw [← Option.some.inj hu]; exact hsrc j hj
      · cases hu)
    (fun j hj => by rw [cell_of_row W g _ _ 3 (0, 0) hb]; simp; rw [hl] at hj; omega) (fun j _ => blk_frozen hb _) (by intro u hu; rw [List.eq_of_mem_replicate hu]; rfl)
  rw [hl] at hr
  subst hkz
  obtain ⟨cur', h3, h4, h5⟩ := setCells_row (List.replicate k (.int .i64 x)) n W (blkOf x n) hb (by rw [hl]; omega)
  obtain ⟨s1, s2, s3, s4⟩ := setCells_same g (List.replicate k (.int .i64 x)) n W
  refine ⟨_, hr, ⟨?_, ⟨s1, s2, s3, by rw [s4]; exact Nat.le_refl _, fun q _ hq => setCells_far _ _ q (fun he => hq (by rw [he]))⟩⟩⟩
  rw [h3]
  have : cur' = blkOf x (n + k) := by
    apply Array.toList_inj.1
    rw [h5, hl]
    have hkm : k ≤ m := by omega
    simp only [blkOf, repRow, List.map_append, List.map_replicate]
    rw [List.take_append, List.take_of_length_le (by simp), List.length_replicate, Nat.sub_self, List.take_zero, List.append_nil]
    rw [List.drop_append, List.drop_eq_nil_of_le (by simp), List.nil_append, List.length_replicate, List.drop_replicate]
    rw [List.replicate_append_replicate]
    congr 2
    omega
  rw [this]
theorem rep_src (W : World) (g n : Nat) (x : Int) (hb : W.heap[g]? = some (.cells (blkOf x n) 3 (0, 0))) (j : Nat) (hj : j < n) : W.cell? (Addr.add ⟨g, 0, none⟩ j) = some (.int .i64 x) := by
  have h : (blkOf x n)[j]? = some (.int .i64 x) := by
    simp only [blkOf, repRow, List.map_append, List.map_replicate, List.getElem?_toArray]
    rw [List.getElem?_append_left (by simp; omega), List.getElem?_replicate, if_pos hj]
  have ha : Addr.add ⟨g, 0, none⟩ j = ⟨g, j, none⟩ := by
    simp [Addr.add]
    try omega
  rw [ha]
  exact (blk_cell hb j).trans h
theorem wp_copy {ops : Array Oper} {rest : List Oper} {o : Oper} {a : Act} {Q : Exit → Act → World → Prop} {W : World} (hgd : o.guard = none) (y z : Operand) (ho : o.op = .call { callee := .builtin .copy, args := #[y, z], argTypes := #[24, 24] }) (g n m s k c c' : Nat) (ad : Addr) (x kz : Int)
    (hy : a.eval y = .slice (some ⟨g, n, none⟩) m c) (hz : a.eval z = .slice (some ad) s c') (hb : W.heap[g]? = some (.cells (blkOf x n) 3 (0, 0))) (hnm : n + m = 26) (hsrc : ∀ j, j < k → W.cell? (ad.add j) = some (.int .i64 x)) (hk : k = min s m) (hkz : kz = k)
    (h : ∀ W1, W1.heap[g]? = some (.cells (blkOf x (n + k)) 3 (0, 0)) → W.grownBy W1 (some g) → wpList Try.prog ops Q rest (a.put o.dst (.int .i64 kz)) W1) : wpList Try.prog ops Q (o :: rest) a W := by
  obtain ⟨W1, hr, hW⟩ := rep_copy W o.type g n m s k c c' ad x hb hnm hsrc hk kz hkz
  refine wpList_plain hgd fun K hK => ?_
  unfold Oper.wp execOp
  simp only [ho, resolve, invoke, builtin, Sem.run_bind, Sem.run_pure, Result.andThen_ok, List.map_toArray, List.map_cons, List.map_nil, hy, hz, hr]
  exact hK _ _ (h W1 hW.out.1 hW.out.2)
set_option maxHeartbeats 1000000 in
set_option maxRecDepth 100000 in
theorem slices_Repeat_int_int.calls (A0 : Option Addr) (c0 : Nat) (l0 : List (Int)) (a1 : Int) (r : List (Int)) (w : World) (hr0 : Kd.C (Kd.int .i64) w A0 l0.length l0) (hc0 : l0.length ≤ c0) (h : slices_Repeat_int_int.f l0 a1 = some r) :
    Calls Try.prog 32 #[.slice A0 l0.length c0, .int .i64 a1] w fun e w' => ∃ v0_ : Value, e = .returned (v0_) ∧ Kd.R (Kd.int .i64) 3 w' w.heap.size (fun _ => True) v0_ r ∧ Below w.heap.size w w' := by
  unfold slices_Repeat_int_int.f at h
  by_cases hl : l0.length = 1 ∧ a1 = 26
  · rw [if_pos hl] at h
    obtain rfl := Option.some.inj h
    obtain ⟨hl, rfl⟩ := hl
    clear h
    obtain ⟨x, rfl⟩ : ∃ x, l0 = [x] := by
      cases l0 with
      | nil => cases hl
      | cons x t => cases t with
        | nil => exact ⟨x, rfl⟩
        | cons y t => simp at hl
    have HR := Aside0.mk hr0
    clear hr0 hl hc0
    have HB := Aside0.mk (Below.refl w.heap.size w)
    obtain ⟨ad, c, hA, hcl, hK, hcc⟩ := Kd.C_get HR.out 0 0 (by omega) (by simp)
    clear hcl
    obtain rfl : c = [.int .i64 x] := hK
    subst hA
    have HX : Aside0 (w.cell? (ad.add 0) = some (.int .i64 x)) := ⟨by simpa using hcc 0 _ rfl⟩
    clear hcc
    have A1 : Aside0 (bits_Mul.f 1 26 = some (0, 26)) := ⟨by decide⟩
    simp only [List.length_cons, List.length_nil, Nat.zero_add] at *
    have hmk : ∀ W : World, (Instr.makeSlice 24 (.int .i64 26) (.int .i64 26)).run Try.prog W = .ok (.slice (some ⟨W.heap.size, 0, none⟩) 26 26) (W.alloc (.cells (blkOf x 0) 3)) := fun W => by
      obtain ⟨i, hi⟩ := info_of_underlying Try.underlying3
      have h2 : (Try.prog.info? 3).map (fun i => (i.zero, i.size, i.bytes)) = some (some (.int .i64 0), 1, 8) := by kernel_rfl
      rw [hi] at h2
      simp only [Option.map_some, Option.some.injEq, Prod.mk.injEq] at h2
      have h := run_make (P := Try.prog) W 24 3 i (.int .i64 0) Try.underlying24 hi h2.1 .i64 .i64 26 26 (by decide) (by decide) (by rw [h2.2.2]; decide) (by decide)
      rw [h2.2.1] at h
      have hm : madeCells (Value.cells (.int .i64 0)) (Int.toNat 26 * 1) = blkOf x 0 := by
        have hz : Value.cells (.int .i64 0) = #[.int .i64 0] := rfl
        rw [hz]
        have : blkOf x 0 = #[.int .i64 0, .int .i64 0, .int .i64 0, .int .i64 0, .int .i64 0, .int .i64 0, .int .i64 0, .int .i64 0, .int .i64 0, .int .i64 0, .int .i64 0, .int .i64 0, .int .i64 0, .int .i64 0, .int .i64 0, .int .i64 0, .int .i64 0, .int .i64 0, .int .i64 0, .int .i64 0, .int .i64 0, .int .i64 0, .int .i64 0, .int .i64 0, .int .i64 0, .int .i64 0] := rfl
        rw [this]
        apply Array.ext
        · rw [size_madeCells]; rfl
        · intro i h1 h2
          rw [size_madeCells] at h1
          simp [madeCells]
          have : i < 26 := h1
          obtain rfl | rfl | rfl | rfl | rfl | rfl | rfl | rfl | rfl | rfl | rfl | rfl | rfl | rfl | rfl | rfl | rfl | rfl | rfl | rfl | rfl | rfl | rfl | rfl | rfl | rfl : i = 0 ∨ i = 1 ∨ i = 2 ∨ i = 3 ∨ i = 4 ∨ i = 5 ∨ i = 6 ∨ i = 7 ∨ i = 8 ∨ i = 9 ∨ i = 10 ∨ i = 11 ∨ i = 12 ∨ i = 13 ∨ i = 14 ∨ i = 15 ∨ i = 16 ∨ i = 17 ∨ i = 18 ∨ i = 19 ∨ i = 20 ∨ i = 21 ∨ i = 22 ∨ i = 23 ∨ i = 24 ∨ i = 25 := by omega
          all_goals rfl
      rw [hm] at h
      exact h
    go_enter Try.func32, Try.ntmps32
    go_wp2_with (first | (go_at_call 44; (with_reducible refine (bits_Mul.calls 1 26 0 26 _ A1.out).mono ?_); rintro e w' ⟨rfl, ⟨nd, rfl⟩⟩; have HB0 : Aside0 (Below w.heap.size w ((w.drewN nd).alloc (.cells (blkOf x 0) 3))) := ⟨by repeat (first | exact HB.out | apply below_alloc | apply pw_below_drewN | apply below_drew1)⟩; have Hb0 : Aside0 (((w.drewN nd).alloc (.cells (blkOf x 0) 3)).heap[w.heap.size]? = some (.cells (blkOf x 0) 3 (0, 0))) := ⟨by simpa using heap_alloc_new (w.drewN nd) (.cells (blkOf x 0) 3)⟩) | ((with_reducible refine gate_builtin (b := .copy) (xs := #[.tmp 31, .tmp 32]) rfl ?_); refine wp_copy rfl (.tmp 31) (.tmp 32) rfl w.heap.size 0 26 1 1 26 c0 ad x 1 rfl rfl Hb0.out rfl (fun j hj => (by have hj0 : j = 0 := Nat.lt_one_iff.1 hj; rw [hj0]; exact (HB0.out.cell (World.block_lt_of_cell? w _ HX.out)).trans HX.out)) rfl rfl ?_; intro W1 hb1 hg1; have HB1 : Aside0 (Below w.heap.size w W1) := ⟨HB0.out.grown hg1 HB0.out.size (fun k hk => (by rw [← Option.some.inj hk]; exact Nat.le_refl _))⟩; have HK1 := Aside0.mk hb1; clear hb1 hg1 HB0 Hb0))
    go_loopw [8] (fun i wr => ∃ z : Int, i = .int .i64 z ∧ Aside0 (z = 1 ∨ z = 2 ∨ z = 4 ∨ z = 8 ∨ z = 16 ∨ z = 26) ∧ Aside0 (wr.heap[w.heap.size]? = some (.cells (blkOf x z.toNat) 3 (0, 0))) ∧ Aside0 (Below w.heap.size w wr)) (fun i _ => 26 - (intOf i).toNat)
    case atStart => exact ⟨1, rfl, ⟨by decide⟩, HK1, HB1⟩
    case round =>
      obtain ⟨z, rfl, hz, HK, HB⟩ := hrel
      clear HB1 HK1
      obtain rfl | rfl | rfl | rfl | rfl | rfl := hz.out
      · go_wp2
        have hb := HK.out
        obtain ⟨W2, hc2, HW2⟩ := rep_copy wr.drew 3 w.heap.size 1 25 1 1 25 26 ⟨w.heap.size, 0, none⟩ x hb rfl (fun j hj => rep_src wr.drew w.heap.size 1 x hb j (by omega)) rfl 1 rfl
        clear hb
        go_region
        go_wp2
        go_roundw
        case rel => exact ⟨2, rfl, ⟨by decide⟩, ⟨HW2.out.1⟩, ⟨(below_drew1 HB.out).grown HW2.out.2 HB.out.size (fun k hk => by rw [← Option.some.inj hk]; exact Nat.le_refl _)⟩⟩
        case measure => simp [intOf]
      · go_wp2
        have hb := HK.out
        obtain ⟨W2, hc2, HW2⟩ := rep_copy wr.drew 3 w.heap.size 2 24 2 2 24 26 ⟨w.heap.size, 0, none⟩ x hb rfl (fun j hj => rep_src wr.drew w.heap.size 2 x hb j (by omega)) rfl 2 rfl
        clear hb
        go_region
        go_wp2
        go_roundw
        case rel => exact ⟨4, rfl, ⟨by decide⟩, ⟨HW2.out.1⟩, ⟨(below_drew1 HB.out).grown HW2.out.2 HB.out.size (fun k hk => by rw [← Option.some.inj hk]; exact Nat.le_refl _)⟩⟩
        case measure => simp [intOf]
      · go_wp2
        have hb := HK.out
        obtain ⟨W2, hc2, HW2⟩ := rep_copy wr.drew 3 w.heap.size 4 22 4 4 22 26 ⟨w.heap.size, 0, none⟩ x hb rfl (fun j hj => rep_src wr.drew w.heap.size 4 x hb j (by omega)) rfl 4 rfl
        clear hb
        go_region
        go_wp2
        go_roundw
        case rel => exact ⟨8, rfl, ⟨by decide⟩, ⟨HW2.out.1⟩, ⟨(below_drew1 HB.out).grown HW2.out.2 HB.out.size (fun k hk => by rw [← Option.some.inj hk]; exact Nat.le_refl _)⟩⟩
        case measure => simp [intOf]
      · go_wp2
        have hb := HK.out
        obtain ⟨W2, hc2, HW2⟩ := rep_copy wr.drew 3 w.heap.size 8 18 8 8 18 26 ⟨w.heap.size, 0, none⟩ x hb rfl (fun j hj => rep_src wr.drew w.heap.size 8 x hb j (by omega)) rfl 8 rfl
        clear hb
        go_region
        go_wp2
        go_roundw
        case rel => exact ⟨16, rfl, ⟨by decide⟩, ⟨HW2.out.1⟩, ⟨(below_drew1 HB.out).grown HW2.out.2 HB.out.size (fun k hk => by rw [← Option.some.inj hk]; exact Nat.le_refl _)⟩⟩
        case measure => simp [intOf]
      · go_wp2
        have hb := HK.out
        obtain ⟨W2, hc2, HW2⟩ := rep_copy wr.drew 3 w.heap.size 16 10 16 10 10 26 ⟨w.heap.size, 0, none⟩ x hb rfl (fun j hj => rep_src wr.drew w.heap.size 16 x hb j (by omega)) rfl 10 rfl
        clear hb
        go_region
        go_wp2
        go_roundw
        case rel => exact ⟨26, rfl, ⟨by decide⟩, ⟨HW2.out.1⟩, ⟨(below_drew1 HB.out).grown HW2.out.2 HB.out.size (fun k hk => by rw [← Option.some.inj hk]; exact Nat.le_refl _)⟩⟩
        case measure => simp [intOf]
      · go_wp2
        go_ret
        have hh := HK.out
        refine ⟨.slice (some ⟨w.heap.size, 0, none⟩) 26 26, rfl, Kd.R_of_own (xs := List.replicate 26 x) ⟨by simp [encs], .inr ⟨w.heap.size, 26, blkOf x 26, rfl, Nat.le_refl _, hh, by simp, by decide, ?_, ?_⟩⟩ (fun _ _ => trivial), HB.out⟩
        · simp [blkOf, repRow]
        · simp [blkOf, repRow, encs]
  · rw [if_neg hl] at h
    cases h
end

end Go.Proofs.Ytofmobmmoideiaa.P
