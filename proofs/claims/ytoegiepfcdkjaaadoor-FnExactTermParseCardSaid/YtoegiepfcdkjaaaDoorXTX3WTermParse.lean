/- TermParse, in the program. Conditions: those that each theorem names. -/
import Derived.Test.YtoegiepfcdkjaaaDoorXX4TX2
import Derived.Test.YtoegiepfcdkjaaaDoorXC1X3
set_option linter.unusedVariables false
set_option linter.unusedSimpArgs false
set_option maxRecDepth 4000
namespace Go.Proofs.YtoegiepfcdkjaaaDoor.C
open Go.Sym Go.Proofs.YtoegiepfcdkjaaaDoor.I
/-- Where a reader stands behind a term that may not be: place, what is wrong. -/
def fullR (t i c : Int) : Int × Int := if t < 0 then failF i c 5 i else (i, c)
theorem impl_reader_orFull_m (H : List Blk) (b : Nat) (tx mo : ByteArray) (lf jn : A) (i c t : Int) (hk : H[b]? = some (rrow tx mo lf jn i c)) : T 29 [rptr b, i6 t] (H) (i6 (if t < 0 then -1 else t)) (H.set b (rrow tx mo lf jn (fullR t i c).1 (fullR t i c).2)) := by
  refine semT' (S := (fun f => [62].contains f)) hm impl_reader_orFull_ok (Nat.le_of_ble_eq_true rfl) ?_
  unfold impl_reader_orFull; dsimp only
  simp [hk]
  refine br_intro' (fun u => ?_) (fun u => ?_) <;> (have u0 := u) <;> simp only [decide_eq_true_eq, decide_eq_false_iff_not] at u <;> simp [u0, hk]
  · refine row_call (b := b) rfl (impl_reader_fail_m H b tx mo lf jn i c 5 i hk) ?_; simp
    rw [if_pos u, show fullR t i c = failF i c 5 i from if_pos u]
    exact LeV.refl _ _ _
  · rw [if_neg u, show fullR t i c = (i, c) from if_neg u, rset_same hk]
    exact LeV.refl _ _ _
theorem fullF_eq {s : List Nd} {n : Nd} (i : Int) : (fullF (addF s n)).1 = (addF s n).1 ∧ (fullF (addF s n)).2.1 = (if (addF s n).2 < 0 then -1 else (addF s n).2) ∧ fullR (addF s n).2 i 0 = (i, (fullF (addF s n)).2.2) := by
  unfold fullF fullR failF
  split <;> simp
theorem impl_reader_added_m (H : List Blk) (b off nb vb eb : Nat) (cb : List A) (ns : List Nd) (rb lb : Nat) (tx mo : ByteArray) (lf jn : A) (i : Int) (sg : Int) (ts : List Int) (h : PIn H b off nb cb) (hl : ns.length ≤ 500) (hr : H[rb]? = some (rrow tx mo lf jn i 0)) (h1 : rb ≠ b) (h2 : rb ≠ nb) (hL : H[lb]? = some ⟨0, false, 1, ints ts, none⟩) (h3 : lb ≠ b) (h4 : lb ≠ nb) (h5 : lb ≠ rb) (hts : ts.length = 1 ∨ ts.length = 2) : T 32 [rptr rb, .ptr b vb off, .int .u8 sg, .ref lb 0 0 ts.length] (pset H b off nb vb eb cb ns) (i6 (jnF ns sg ts).2.1) ((pset H b off nb vb eb cb (jnF ns sg ts).1).set rb (rrow tx mo lf jn i (jnF ns sg ts).2.2)) := by
  refine semT' (S := (fun f => [63, 29].contains f)) hm impl_reader_added_ok (Nat.le_of_ble_eq_true rfl) ?_
  unfold impl_reader_added; dsimp only
  have gL : ∀ ns, (pset H b off nb vb eb cb ns)[lb]? = _ := fun ns => (pset_other vb eb ns h3 h4).trans hL
  have gR : ∀ ns, (pset H b off nb vb eb cb ns)[rb]? = _ := fun ns => (pset_other vb eb ns h1 h2).trans hr
  have fin : ∀ y : Int, y = ts.getD 1 0 → ∀ x : Int, x = ts.getD 0 0 → T 63 [.ptr b vb off, i6 (kindF sg), i6 x, i6 y] (pset H b off nb vb eb cb ns) (i6 (addF ns ⟨kindF sg, ts.getD 0 0, ts.getD 1 0⟩).2) (pset H b off nb vb eb cb (addF ns ⟨kindF sg, ts.getD 0 0, ts.getD 1 0⟩).1) := by
    rintro _ rfl _ rfl
    exact impl_Pool_add_m H b off nb vb eb cb ns (kindF sg) _ _ h hl
  obtain ⟨e1, e2, e3⟩ := fullF_eq (s := ns) (n := ⟨kindF sg, ts.getD 0 0, ts.getD 1 0⟩) i
  unfold jnF
  rw [e1, e2]
  rcases hts with hts | hts
  · obtain ⟨x, rfl⟩ : ∃ x, ts = [x] := by
      match ts, hts with
      | [x], _ => exact ⟨x, rfl⟩
    simp [gL, ints]
    refine impl_kindOf_call (x := sg) rfl ?_; simp [gL, ints]
    refine pool_call rfl b off nb vb eb cb ns (addF ns ⟨kindF sg, x, 0⟩).1 (h.pset vb eb ns) (pset_pset h vb eb ns ns) (by rw [pset_pset h, pset_pset h]; exact fin 0 rfl x rfl) ?_
    simp [pset_pset h, gR]
    refine row_call (b := rb) rfl (impl_reader_orFull_m _ rb tx mo lf jn i 0 (addF ns ⟨kindF sg, x, 0⟩).2 (gR _)) ?_; simp
    refine ck_intro' (regOk_ren (fun n => if n = lb then 0 else 1) (by simp [h3.symm, h4.symm, h5.symm]; kernel_rfl)) ?_; simp
    simp only [List.getD_cons_zero, List.getD_cons_succ, List.getD_nil] at e3 ⊢
    rw [e3]
    exact LeV.refl _ _ _
  · obtain ⟨x, y, rfl⟩ : ∃ x y, ts = [x, y] := by
      match ts, hts with
      | [x, y], _ => exact ⟨x, y, rfl⟩
    simp [gL, ints]
    refine impl_kindOf_call (x := sg) rfl ?_; simp [gL, ints]
    refine pool_call rfl b off nb vb eb cb ns (addF ns ⟨kindF sg, x, y⟩).1 (h.pset vb eb ns) (pset_pset h vb eb ns ns) (by rw [pset_pset h, pset_pset h]; exact fin y rfl x rfl) ?_
    simp [pset_pset h, gR]
    refine row_call (b := rb) rfl (impl_reader_orFull_m _ rb tx mo lf jn i 0 (addF ns ⟨kindF sg, x, y⟩).2 (gR _)) ?_; simp
    refine ck_intro' (regOk_ren (fun n => if n = lb then 0 else 1) (by simp [h3.symm, h4.symm, h5.symm]; kernel_rfl)) ?_; simp
    simp only [List.getD_cons_zero, List.getD_cons_succ, List.getD_nil] at e3 ⊢
    rw [e3]
    exact LeV.refl _ _ _
abbrev tHs (ns : List Nd) (tx : ByteArray) (s : List Nd) (i c : Int) : List Blk :=
  [⟨0, false, 1, [.sl ns.length (enc ns)], none⟩, ⟨0, false, 1, [.nil], none⟩, pblk s, ⟨0, false, 1, [pref 2 s], none⟩, rrow tx ⟨#[]⟩ (.fn 27 [.ptr 3 0 0]) (.fn 31 [.ptr 3 0 0]) i c]
theorem tHs_cl (ns : List Nd) (tx : ByteArray) (s : List Nd) (i c : Int) : Closed1 5 (tHs ns tx s i c) = true := by simp
theorem tLeaf_t (ns : List Nd) (tx : ByteArray) (hs : tx.size ≤ 1000000) (s : List Nd) (hp : poolF s = true) (i : Nat) (b : Int) (hi : i < tx.size) :
    T 27 [rptr 4, .int .u8 b, .ptr 3 0 0] (tHs ns tx s i 0) (i6 (nmF tx s i).2.1) (tHs ns tx (nmF tx s i).1 (nmF tx s i).2.2.1 (nmF tx s i).2.2.2) := by
  have hw : IntKind.i64.wrap ((i : Int) + 1) = ((i + 1 : Nat) : Int) := by rw [wrap_succ (n := i) (by omega)]; rfl
  have hN := impl_reader_number_m (tHs ns tx s ((i + 1 : Nat) : Int) 0) 4 tx _ _ _ (i + 1) i rfl (by omega) (by omega)
  have hpl := poolF_len hp
  have nm : ∀ (x i c : Int), T 30 [.ptr 3 0 0, i6 x] (tHs ns tx s i c) (i6 (addF s ⟨1, x, 0⟩).2) (tHs ns tx (addF s ⟨1, x, 0⟩).1 i c) := fun x i c =>
    impl_Pool_name_m (tHs ns tx s i c) 3 0 2 0 1 [pref 2 s] s x ⟨by simp, by simp, by simp, by simp, by simp, by simp, ⟨[], by simp⟩⟩ hpl
  have of : ∀ (s' : List Nd) (t i : Int), T 29 [rptr 4, i6 t] (tHs ns tx s' i 0) (i6 (if t < 0 then -1 else t)) (tHs ns tx s' (fullR t i 0).1 (fullR t i 0).2) := fun s' t i =>
    impl_reader_orFull_m (tHs ns tx s' i 0) 4 tx _ _ _ i 0 t rfl
  refine semT' (S := fun _ => true) hm impl_TermParse_1_ok (Nat.le_of_ble_eq_true rfl) ?_
  unfold impl_TermParse_1; dsimp only
  simp
  rw [hw]
  refine all_call rfl hN (by simp) ?_; simp
  unfold nmF
  by_cases hc : (numF tx (i + 1) i).2.2 = 0
  · obtain ⟨g1, _, _, g4⟩ := numF_ok hc
    obtain ⟨e1, e2, e3⟩ := fullF_eq (s := s) (n := ⟨1, (numF tx (i + 1) i).1, 0⟩) (dEnd tx (i + 1))
    simp [hc]
    refine all_call rfl (nm _ _ _) (by simp) ?_; simp
    rw [show (numF tx (i + 1) i).2.1 = (dEnd tx (i + 1) : Int) by rw [g4]]
    refine all_call rfl (of _ _ _) (by simp) ?_; simp
    rw [e3, if_pos hc]
    dsimp only
    rw [e1, e2]
    exact LeV.refl _ _ _
  · have e : numF tx (i + 1) i = (-1, (i : Int), 4) := by
      unfold numF at hc ⊢
      split
      · rename_i g; rw [if_pos g] at hc; simp at hc
      · rfl
    simp [hc]
    rw [e]
    exact LeV.refl _ _ _
theorem tJoin_t (ns : List Nd) (tx : ByteArray) (s : List Nd) (hp : poolF s = true) (i b : Int) (ts : List Int) (hts : ts.length = 1 ∨ ts.length = 2) :
    ∃ G, 6 ≤ G.length ∧ T 31 [rptr 4, .int .u8 b, .ref 5 0 0 ts.length, .ptr 3 0 0] (tHs ns tx s i 0 ++ [⟨0, false, 1, ints ts, none⟩]) (i6 (jnF s b ts).2.1) G ∧
      LeV 5 (i6 (jnF s b ts).2.1) G (i6 (jnF s b ts).2.1) (tHs ns tx (jnF s b ts).1 i (jnF s b ts).2.2) := by
  have hpl := poolF_len hp
  have hA := impl_reader_added_m (tHs ns tx s i 0 ++ [⟨0, false, 1, ints ts, none⟩]) 3 0 2 0 1 [pref 2 s] s 4 5 tx _ _ _ i b ts ⟨by simp, by simp, by simp, by simp, by simp [inAs_scals _ (ints_scals _)], by simp, ⟨[], by simp⟩⟩ hpl rfl (by decide) (by decide) rfl (by decide) (by decide) (by decide) hts
  refine ⟨tHs ns tx (jnF s b ts).1 i (jnF s b ts).2.2 ++ [⟨0, false, 1, ints ts, none⟩], by simp, ?_, LeV.drop (by simp) (tHs_cl _ _ _ _ _) (by simp)⟩
  refine semT' (S := fun _ => true) hm impl_TermParse_2_ok (Nat.le_of_ble_eq_true rfl) ?_
  unfold impl_TermParse_2; dsimp only
  simp
  refine all_call rfl hA (by simp) ?_; simp
  exact LeV.refl _ _ _
/-- The reader of a term, in the program. -/
def trmZ (ns : List Nd) (tx : ByteArray) (hs : tx.size ≤ 1000000) : RdrRun (trmK tx) where
  Hs s i c := tHs ns tx s i c
  b := 4
  L := 5
  lf := 27
  jn := 31
  lc := [.ptr 3 0 0]
  jc := [.ptr 3 0 0]
  size := by show tx.size ≤ _; omega
  msize := by show ByteArray.size ⟨#[]⟩ ≤ _; decide
  get _ _ _ := rfl
  set _ _ _ _ _ := rfl
  len _ _ _ := rfl
  cl s i c := tHs_cl ns tx s i c
  el := by kernel_rfl
  ej := by kernel_rfl
  leaf {s i} hW hi _ := tLeaf_t ns tx hs s hW i _ hi
  join {s0 i s i' ts} hW hi hE hi' hS _ := tJoin_t ns tx s (hE.2.2 hW) i' _ ts (by
    simp [Rdr.Shape] at hS
    omega)
/-- What TermParse answers. -/
def tpF (ns : List Nd) (tx : ByteArray) : List Nd × Int × Int × Int :=
  if 2000 < tx.size then (orE ns, -1, 0, 1)
  else if poolF ns = false then ([], -1, 0, 5)
  else if (allRF (trmR tx) 2000 ns).2.2.2 = 0 then ((allRF (trmR tx) 2000 ns).1, (allRF (trmR tx) 2000 ns).2.1, (tx.size : Int), 0)
  else (ns, -1, ((allRF (trmR tx) 2000 ns).2.2.1 : Int), (allRF (trmR tx) 2000 ns).2.2.2)
theorem impl_TermParse_c (ns : List Nd) (tx : ByteArray) (hl : ns.length ≤ 4294967296) (hs : tx.size ≤ 281474976710656) : T 9 [aP ns, .str tx] [] (.tup [.agg [pref 0 (tpF ns tx).1], i6 (tpF ns tx).2.1, i6 (tpF ns tx).2.2.1, i6 (tpF ns tx).2.2.2]) ([pblk (tpF ns tx).1]) := by
  refine semT' (S := (fun f => [33].contains f)) hm impl_TermParse_ok (Nat.le_of_ble_eq_true rfl) ?_
  unfold impl_TermParse; dsimp only
  simp
  by_cases h2 : 2000 < tx.size
  · have b1 : decide ((2000 : Int) < tx.size) = true := decide_eq_true (by omega)
    simp [b1]
    refine impl_orEmpty_k (ns := ns) hl rfl (by simp) (by simp [noslBlks]) ?_; simp [shiftB]
    rw [show tpF ns tx = (orE ns, -1, 0, 1) from if_pos h2]
    first | (refine LeV.tell [none] ?_ ?_ ?_ <;> (simp; done)) | (refine LeV.tell [some 0] ?_ ?_ ?_ <;> (simp; done)) | (refine LeV.tell [some 1] ?_ ?_ ?_ <;> (simp; done)) | (refine LeV.tell [some 2] ?_ ?_ ?_ <;> (simp; done)) | (refine LeV.tell [some 3] ?_ ?_ ?_ <;> (simp; done)) | (refine LeV.tell [some 4] ?_ ?_ ?_ <;> (simp; done)) | (refine LeV.tell [some 5] ?_ ?_ ?_ <;> (simp; done)) | (refine LeV.tell [some 6] ?_ ?_ ?_ <;> (simp; done)) | (refine LeV.tell [some 7] ?_ ?_ ?_ <;> (simp; done)) | (refine LeV.tell [some 8] ?_ ?_ ?_ <;> (simp; done)) | (refine LeV.tell [some 9] ?_ ?_ ?_ <;> (simp; done)) | (refine LeV.tell [some 10] ?_ ?_ ?_ <;> (simp; done)) | (refine LeV.tell [some 11] ?_ ?_ ?_ <;> (simp; done)) | (refine LeV.tell [some 12] ?_ ?_ ?_ <;> (simp; done)) | (refine LeV.tell [some 13] ?_ ?_ ?_ <;> (simp; done)) | (refine LeV.tell [some 14] ?_ ?_ ?_ <;> (simp; done)) | (refine LeV.tell [some 15] ?_ ?_ ?_ <;> (simp; done))
  have b1 : decide ((2000 : Int) < tx.size) = false := decide_eq_false (by omega)
  simp [b1]
  refine impl_PoolOk_call (ns := ns) rfl ?_; simp
  rcases Bool.eq_false_or_eq_true (poolF ns) with hp | hp
  case inr =>
    simp [hp]
    rw [show tpF ns tx = ([], -1, 0, 5) by unfold tpF; rw [if_neg h2, if_pos hp]]
    first | (refine LeV.tell [none] ?_ ?_ ?_ <;> (simp; done)) | (refine LeV.tell [some 0] ?_ ?_ ?_ <;> (simp; done)) | (refine LeV.tell [some 1] ?_ ?_ ?_ <;> (simp; done)) | (refine LeV.tell [some 2] ?_ ?_ ?_ <;> (simp; done)) | (refine LeV.tell [some 3] ?_ ?_ ?_ <;> (simp; done)) | (refine LeV.tell [some 4] ?_ ?_ ?_ <;> (simp; done)) | (refine LeV.tell [some 5] ?_ ?_ ?_ <;> (simp; done)) | (refine LeV.tell [some 6] ?_ ?_ ?_ <;> (simp; done)) | (refine LeV.tell [some 7] ?_ ?_ ?_ <;> (simp; done)) | (refine LeV.tell [some 8] ?_ ?_ ?_ <;> (simp; done)) | (refine LeV.tell [some 9] ?_ ?_ ?_ <;> (simp; done)) | (refine LeV.tell [some 10] ?_ ?_ ?_ <;> (simp; done)) | (refine LeV.tell [some 11] ?_ ?_ ?_ <;> (simp; done)) | (refine LeV.tell [some 12] ?_ ?_ ?_ <;> (simp; done)) | (refine LeV.tell [some 13] ?_ ?_ ?_ <;> (simp; done)) | (refine LeV.tell [some 14] ?_ ?_ ?_ <;> (simp; done)) | (refine LeV.tell [some 15] ?_ ?_ ?_ <;> (simp; done))
  simp [hp]
  refine impl_copyPool_k (ns := ns) hl rfl (by simp) (by simp [noslBlks]) ?_; simp [shiftB]
  have hZ := (trmZ ns tx (by omega)).all (s := ns) (most := 2000) hp
  have hT : tpF ns tx = if (allRF (trmR tx) 2000 ns).2.2.2 = 0 then ((allRF (trmR tx) 2000 ns).1, (allRF (trmR tx) 2000 ns).2.1, (tx.size : Int), 0) else (ns, -1, ((allRF (trmR tx) 2000 ns).2.2.1 : Int), (allRF (trmR tx) 2000 ns).2.2.2) := by
    unfold tpF; rw [if_neg h2, if_neg (by simp [hp])]
  rw [hT]
  obtain ⟨q, eq⟩ : ∃ q, allRF (trmR tx) 2000 ns = q := ⟨_, rfl⟩
  rw [eq] at hZ ⊢
  rw [show decide (ns = []) = decide (ns.length = 0) by cases ns <;> simp]
  refine all_call rfl hZ (by simp [trmZ]) ?_
  simp [trmZ]
  by_cases hc : q.2.2.2 = 0
  · simp [hc]
    first | (refine LeV.tell [none] ?_ ?_ ?_ <;> (simp; done)) | (refine LeV.tell [some 0] ?_ ?_ ?_ <;> (simp; done)) | (refine LeV.tell [some 1] ?_ ?_ ?_ <;> (simp; done)) | (refine LeV.tell [some 2] ?_ ?_ ?_ <;> (simp; done)) | (refine LeV.tell [some 3] ?_ ?_ ?_ <;> (simp; done)) | (refine LeV.tell [some 4] ?_ ?_ ?_ <;> (simp; done)) | (refine LeV.tell [some 5] ?_ ?_ ?_ <;> (simp; done)) | (refine LeV.tell [some 6] ?_ ?_ ?_ <;> (simp; done)) | (refine LeV.tell [some 7] ?_ ?_ ?_ <;> (simp; done)) | (refine LeV.tell [some 8] ?_ ?_ ?_ <;> (simp; done)) | (refine LeV.tell [some 9] ?_ ?_ ?_ <;> (simp; done)) | (refine LeV.tell [some 10] ?_ ?_ ?_ <;> (simp; done)) | (refine LeV.tell [some 11] ?_ ?_ ?_ <;> (simp; done)) | (refine LeV.tell [some 12] ?_ ?_ ?_ <;> (simp; done)) | (refine LeV.tell [some 13] ?_ ?_ ?_ <;> (simp; done)) | (refine LeV.tell [some 14] ?_ ?_ ?_ <;> (simp; done)) | (refine LeV.tell [some 15] ?_ ?_ ?_ <;> (simp; done))
  · simp [hc]
    refine impl_copyPool_k (ns := ns) hl rfl (by simp) (by simp [noslBlks]) ?_; simp [shiftB]
    repeat (refine ck_intro' (by first | omega | (simp; omega) | kernel_rfl) ?_; try simp)
    trace_state
    first | (refine LeV.tell [none] ?_ ?_ ?_ <;> (simp [hc]; done)) | (refine LeV.tell [some 0] ?_ ?_ ?_ <;> (simp [hc]; done)) | (refine LeV.tell [some 1] ?_ ?_ ?_ <;> (simp [hc]; done)) | (refine LeV.tell [some 2] ?_ ?_ ?_ <;> (simp [hc]; done)) | (refine LeV.tell [some 3] ?_ ?_ ?_ <;> (simp [hc]; done)) | (refine LeV.tell [some 4] ?_ ?_ ?_ <;> (simp [hc]; done)) | (refine LeV.tell [some 5] ?_ ?_ ?_ <;> (simp [hc]; done)) | (refine LeV.tell [some 6] ?_ ?_ ?_ <;> (simp [hc]; done)) | (refine LeV.tell [some 7] ?_ ?_ ?_ <;> (simp [hc]; done)) | (refine LeV.tell [some 8] ?_ ?_ ?_ <;> (simp [hc]; done)) | (refine LeV.tell [some 9] ?_ ?_ ?_ <;> (simp [hc]; done)) | (refine LeV.tell [some 10] ?_ ?_ ?_ <;> (simp [hc]; done)) | (refine LeV.tell [some 11] ?_ ?_ ?_ <;> (simp [hc]; done)) | (refine LeV.tell [some 12] ?_ ?_ ?_ <;> (simp [hc]; done)) | (refine LeV.tell [some 13] ?_ ?_ ?_ <;> (simp [hc]; done)) | (refine LeV.tell [some 14] ?_ ?_ ?_ <;> (simp [hc]; done)) | (refine LeV.tell [some 15] ?_ ?_ ?_ <;> (simp [hc]; done))
theorem impl_TermParse_k {ns : List Nd} {tx : ByteArray} (hl : ns.length ≤ 4294967296) (hs : tx.size ≤ 281474976710656) {S : FuncId → Bool} {H : List Blk} {K : A → Dl → Prop} {zs : List A} (hS : S 9 = false) (hv : viewL (viewA 8 H) zs = some [aP ns, .str tx]) (ho : noOwns zs = true ∨ nosl (.tup [.agg [pref 0 (tpF ns tx).1], i6 (tpF ns tx).2.1, i6 (tpF ns tx).2.2.1, i6 (tpF ns tx).2.2.2]) = true ∧ noslBlks ([pblk (tpF ns tx).1]) = true) (hK : K (shiftA H.length (.tup [.agg [pref 0 (tpF ns tx).1], i6 (tpF ns tx).2.1, i6 (tpF ns tx).2.2.1, i6 (tpF ns tx).2.2.2])) (.news (([pblk (tpF ns tx).1]).map (shiftB H.length)))) : @WCall' Go.Proofs.Tryd.prog S 9 zs H ⟨K⟩ :=
  WCall_ro' hS hv (impl_TermParse_c ns tx hl hs) rfl ho hK
end Go.Proofs.YtoegiepfcdkjaaaDoor.C

set_option linter.unusedVariables false
set_option linter.unusedSimpArgs false
set_option maxRecDepth 4000
namespace Go.Proofs.YtoegiepfcdkjaaaDoor.C
open Go.Sym Go.Proofs.YtoegiepfcdkjaaaDoor.I
theorem tp_pool {ns : List Nd} (hp : poolF ns = true) {tx : ByteArray} : poolF (rdF (trmR tx) (tx.size + 1) ns 0 0).1 = true := by
  have key : ∀ (n : Nat) (s : List Nd) (i : Nat) (c : Int), poolF s = true → poolF (rdF (trmR tx) n s i c).1 = true := by
    intro n
    induction n with
    | zero => intro s i c h; exact h
    | succ n ih =>
      intro s i c h
      have full : ∀ (s : List Nd) (m : Nd), poolF s = true → poolF (fullF (addF s m)).1 = true := fun s m hs => by
        unfold fullF
        split <;> exact addF_pool _ hs
      have fin : ∀ (b : Int) (q : List Nd × List Int × Nat × Int), poolF q.1 = true → poolF ((trmR tx).fin b q).1 = true := fun b q hq => by
        unfold Rdr.fin
        split
        · exact full _ _ hq
        · exact hq
      have two : ∀ (e : Int) (s : List Nd) (i : Nat) (c : Int), poolF s = true → poolF ((trmR tx).two (rdF (trmR tx) n) e s i c).1 = true := fun e s i c hs => ih _ _ _ (ih _ _ _ hs)
      unfold rdF
      split
      · exact h
      · split
        · exact h
        · split
          · show poolF (nmF tx s i).1 = true
            unfold nmF
            split
            · exact full _ _ h
            · exact h
          · split
            · exact fin _ _ (two _ _ _ _ h)
            · split
              · exact fin _ _ (ih _ _ _ h)
              · split
                · exact fin _ _ (two _ _ _ _ h)
                · exact h
  exact key _ _ _ _ hp
theorem tp_end {ns : List Nd} (hp : poolF ns = true) {tx : ByteArray} (hc : (rdF (trmR tx) (tx.size + 1) ns 0 0).2.2.2 = 0) : (rdF (trmR tx) (tx.size + 1) ns 0 0).2.2.1 ≤ tx.size :=
  ((trmK tx).rd_good (tx.size + 1) (s := ns) (i := 0) (c := 0) hp (Nat.zero_le _) (by show tx.size - 0 < _; omega) hc).2.1
theorem spec_TermParse_c (ns : List Nd) (tx : ByteArray) (hl : ns.length ≤ 4294967296) (hs : tx.size ≤ 281474976710656) : T 7 [aP ns, .str tx] [] (.tup [.agg [pref 0 (tpF ns tx).1], i6 (tpF ns tx).2.1, i6 (tpF ns tx).2.2.1, i6 (tpF ns tx).2.2.2]) ([pblk (tpF ns tx).1]) := by
  refine semT' (S := S0) hm spec_TermParse_ok (Nat.le_of_ble_eq_true rfl) ?_
  unfold spec_TermParse; dsimp only
  simp
  refine spec_PoolOk_call (ns := ns) rfl ?_; simp
  rcases Bool.eq_false_or_eq_true (poolF ns) with hp | hp
  case inr =>
    simp [hp]
    by_cases h2 : 2000 < tx.size
    · have b1 : decide ((2000 : Int) < tx.size) = true := decide_eq_true (by omega)
      simp [b1]
      rw [show tpF ns tx = ([], -1, 0, 1) by unfold tpF; rw [if_pos h2]; simp [orE, hp]]
      first | (refine LeV.tell [none] ?_ ?_ ?_ <;> (simp; done)) | (refine LeV.tell [some 0] ?_ ?_ ?_ <;> (simp; done)) | (refine LeV.tell [some 1] ?_ ?_ ?_ <;> (simp; done)) | (refine LeV.tell [some 2] ?_ ?_ ?_ <;> (simp; done)) | (refine LeV.tell [some 3] ?_ ?_ ?_ <;> (simp; done)) | (refine LeV.tell [some 4] ?_ ?_ ?_ <;> (simp; done)) | (refine LeV.tell [some 5] ?_ ?_ ?_ <;> (simp; done)) | (refine LeV.tell [some 6] ?_ ?_ ?_ <;> (simp; done)) | (refine LeV.tell [some 7] ?_ ?_ ?_ <;> (simp; done)) | (refine LeV.tell [some 8] ?_ ?_ ?_ <;> (simp; done)) | (refine LeV.tell [some 9] ?_ ?_ ?_ <;> (simp; done)) | (refine LeV.tell [some 10] ?_ ?_ ?_ <;> (simp; done)) | (refine LeV.tell [some 11] ?_ ?_ ?_ <;> (simp; done)) | (refine LeV.tell [some 12] ?_ ?_ ?_ <;> (simp; done)) | (refine LeV.tell [some 13] ?_ ?_ ?_ <;> (simp; done)) | (refine LeV.tell [some 14] ?_ ?_ ?_ <;> (simp; done)) | (refine LeV.tell [some 15] ?_ ?_ ?_ <;> (simp; done))
    · have b1 : decide ((2000 : Int) < tx.size) = false := decide_eq_false (by omega)
      simp [b1]
      rw [show tpF ns tx = ([], -1, 0, 5) by unfold tpF; rw [if_neg h2, if_pos hp]]
      first | (refine LeV.tell [none] ?_ ?_ ?_ <;> (simp; done)) | (refine LeV.tell [some 0] ?_ ?_ ?_ <;> (simp; done)) | (refine LeV.tell [some 1] ?_ ?_ ?_ <;> (simp; done)) | (refine LeV.tell [some 2] ?_ ?_ ?_ <;> (simp; done)) | (refine LeV.tell [some 3] ?_ ?_ ?_ <;> (simp; done)) | (refine LeV.tell [some 4] ?_ ?_ ?_ <;> (simp; done)) | (refine LeV.tell [some 5] ?_ ?_ ?_ <;> (simp; done)) | (refine LeV.tell [some 6] ?_ ?_ ?_ <;> (simp; done)) | (refine LeV.tell [some 7] ?_ ?_ ?_ <;> (simp; done)) | (refine LeV.tell [some 8] ?_ ?_ ?_ <;> (simp; done)) | (refine LeV.tell [some 9] ?_ ?_ ?_ <;> (simp; done)) | (refine LeV.tell [some 10] ?_ ?_ ?_ <;> (simp; done)) | (refine LeV.tell [some 11] ?_ ?_ ?_ <;> (simp; done)) | (refine LeV.tell [some 12] ?_ ?_ ?_ <;> (simp; done)) | (refine LeV.tell [some 13] ?_ ?_ ?_ <;> (simp; done)) | (refine LeV.tell [some 14] ?_ ?_ ?_ <;> (simp; done)) | (refine LeV.tell [some 15] ?_ ?_ ?_ <;> (simp; done))
  simp [hp]
  have hl5 := poolF_len hp
  refine spec_l1Copy_k (ns := ns) hl rfl (by simp) (by simp [noslBlks]) ?_; simp [shiftB]
  by_cases h2 : 2000 < tx.size
  · have b1 : decide ((2000 : Int) < tx.size) = true := decide_eq_true (by omega)
    simp [b1]
    rw [show tpF ns tx = (ns, -1, 0, 1) by unfold tpF; rw [if_pos h2]; simp [orE, hp]]
    first | (refine LeV.tell [none] ?_ ?_ ?_ <;> (simp; done)) | (refine LeV.tell [some 0] ?_ ?_ ?_ <;> (simp; done)) | (refine LeV.tell [some 1] ?_ ?_ ?_ <;> (simp; done)) | (refine LeV.tell [some 2] ?_ ?_ ?_ <;> (simp; done)) | (refine LeV.tell [some 3] ?_ ?_ ?_ <;> (simp; done)) | (refine LeV.tell [some 4] ?_ ?_ ?_ <;> (simp; done)) | (refine LeV.tell [some 5] ?_ ?_ ?_ <;> (simp; done)) | (refine LeV.tell [some 6] ?_ ?_ ?_ <;> (simp; done)) | (refine LeV.tell [some 7] ?_ ?_ ?_ <;> (simp; done)) | (refine LeV.tell [some 8] ?_ ?_ ?_ <;> (simp; done)) | (refine LeV.tell [some 9] ?_ ?_ ?_ <;> (simp; done)) | (refine LeV.tell [some 10] ?_ ?_ ?_ <;> (simp; done)) | (refine LeV.tell [some 11] ?_ ?_ ?_ <;> (simp; done)) | (refine LeV.tell [some 12] ?_ ?_ ?_ <;> (simp; done)) | (refine LeV.tell [some 13] ?_ ?_ ?_ <;> (simp; done)) | (refine LeV.tell [some 14] ?_ ?_ ?_ <;> (simp; done)) | (refine LeV.tell [some 15] ?_ ?_ ?_ <;> (simp; done))
  have b1 : decide ((2000 : Int) < tx.size) = false := decide_eq_false (by omega)
  simp [b1]
  have hT : tpF ns tx = if (allRF (trmR tx) 2000 ns).2.2.2 = 0 then ((allRF (trmR tx) 2000 ns).1, (allRF (trmR tx) 2000 ns).2.1, (tx.size : Int), 0) else (ns, -1, ((allRF (trmR tx) 2000 ns).2.2.1 : Int), (allRF (trmR tx) 2000 ns).2.2.2) := by
    unfold tpF; rw [if_neg h2, if_neg (by simp [hp])]
  have htx : (trmR tx).text = tx := rfl
  have hA : allRF (trmR tx) 2000 ns = if (rdF (trmR tx) (tx.size + 1) ns 0 0).2.2.2 = 0 ∧ (rdF (trmR tx) (tx.size + 1) ns 0 0).2.2.1 < tx.size then ((rdF (trmR tx) (tx.size + 1) ns 0 0).1, -1, (rdF (trmR tx) (tx.size + 1) ns 0 0).2.2.1, 6) else rdF (trmR tx) (tx.size + 1) ns 0 0 := by
    unfold allRF
    rw [htx, if_neg (by omega)]
  have hP := tparse_t (tx := tx) (by omega) (tx.size + 1) ns 0 hp (Nat.zero_le _) (by omega)
  have hpp := tp_pool hp (tx := tx)
  have hee := tp_end hp (tx := tx)
  obtain ⟨q, eq⟩ : ∃ q, rdF (trmR tx) (tx.size + 1) ns 0 0 = q := ⟨_, rfl⟩
  rw [eq] at hP hpp hee hA
  obtain ⟨r, er⟩ : ∃ r, allRF (trmR tx) 2000 ns = r := ⟨_, rfl⟩
  rw [er] at hT hA
  rw [hT]
  have hq5 := poolF_len hpp
  refine WCall_pure rfl hP (by simp) (by simp) (by simp) ?_; simp
  by_cases hc : q.2.2.2 = 0
  · have hle := hee hc
    by_cases hp2 : q.2.2.1 < tx.size
    · rw [if_pos ⟨hc, hp2⟩] at hA
      have b2 : decide (q.2.2.1 < tx.size) = true := decide_eq_true hp2
      simp [hc, b2]
      rw [hA]
      first | (refine LeV.tell [none] ?_ ?_ ?_ <;> (simp; done)) | (refine LeV.tell [some 0] ?_ ?_ ?_ <;> (simp; done)) | (refine LeV.tell [some 1] ?_ ?_ ?_ <;> (simp; done)) | (refine LeV.tell [some 2] ?_ ?_ ?_ <;> (simp; done)) | (refine LeV.tell [some 3] ?_ ?_ ?_ <;> (simp; done)) | (refine LeV.tell [some 4] ?_ ?_ ?_ <;> (simp; done)) | (refine LeV.tell [some 5] ?_ ?_ ?_ <;> (simp; done)) | (refine LeV.tell [some 6] ?_ ?_ ?_ <;> (simp; done)) | (refine LeV.tell [some 7] ?_ ?_ ?_ <;> (simp; done)) | (refine LeV.tell [some 8] ?_ ?_ ?_ <;> (simp; done)) | (refine LeV.tell [some 9] ?_ ?_ ?_ <;> (simp; done)) | (refine LeV.tell [some 10] ?_ ?_ ?_ <;> (simp; done)) | (refine LeV.tell [some 11] ?_ ?_ ?_ <;> (simp; done)) | (refine LeV.tell [some 12] ?_ ?_ ?_ <;> (simp; done)) | (refine LeV.tell [some 13] ?_ ?_ ?_ <;> (simp; done)) | (refine LeV.tell [some 14] ?_ ?_ ?_ <;> (simp; done)) | (refine LeV.tell [some 15] ?_ ?_ ?_ <;> (simp; done))
    · rw [if_neg (fun h => hp2 h.2)] at hA
      have b2 : decide (q.2.2.1 < tx.size) = false := decide_eq_false hp2
      simp [hc, b2]
      refine spec_l1Copy_k (ns := q.1) (by omega) rfl (by simp) (by simp [noslBlks]) ?_; simp [shiftB]
      repeat (refine ck_intro' (by first | omega | (simp; omega) | kernel_rfl) ?_; try simp)
      rw [hA, show q.2.2.1 = tx.size by omega, if_pos hc]
      first | (refine LeV.tell [none] ?_ ?_ ?_ <;> (simp [hc]; done)) | (refine LeV.tell [some 0] ?_ ?_ ?_ <;> (simp [hc]; done)) | (refine LeV.tell [some 1] ?_ ?_ ?_ <;> (simp [hc]; done)) | (refine LeV.tell [some 2] ?_ ?_ ?_ <;> (simp [hc]; done)) | (refine LeV.tell [some 3] ?_ ?_ ?_ <;> (simp [hc]; done)) | (refine LeV.tell [some 4] ?_ ?_ ?_ <;> (simp [hc]; done)) | (refine LeV.tell [some 5] ?_ ?_ ?_ <;> (simp [hc]; done)) | (refine LeV.tell [some 6] ?_ ?_ ?_ <;> (simp [hc]; done)) | (refine LeV.tell [some 7] ?_ ?_ ?_ <;> (simp [hc]; done)) | (refine LeV.tell [some 8] ?_ ?_ ?_ <;> (simp [hc]; done)) | (refine LeV.tell [some 9] ?_ ?_ ?_ <;> (simp [hc]; done)) | (refine LeV.tell [some 10] ?_ ?_ ?_ <;> (simp [hc]; done)) | (refine LeV.tell [some 11] ?_ ?_ ?_ <;> (simp [hc]; done)) | (refine LeV.tell [some 12] ?_ ?_ ?_ <;> (simp [hc]; done)) | (refine LeV.tell [some 13] ?_ ?_ ?_ <;> (simp [hc]; done)) | (refine LeV.tell [some 14] ?_ ?_ ?_ <;> (simp [hc]; done)) | (refine LeV.tell [some 15] ?_ ?_ ?_ <;> (simp [hc]; done))
  · rw [if_neg (fun h => hc h.1)] at hA
    simp [hc]
    rw [hA, if_neg hc]
    first | (refine LeV.tell [none] ?_ ?_ ?_ <;> (simp [hc]; done)) | (refine LeV.tell [some 0] ?_ ?_ ?_ <;> (simp [hc]; done)) | (refine LeV.tell [some 1] ?_ ?_ ?_ <;> (simp [hc]; done)) | (refine LeV.tell [some 2] ?_ ?_ ?_ <;> (simp [hc]; done)) | (refine LeV.tell [some 3] ?_ ?_ ?_ <;> (simp [hc]; done)) | (refine LeV.tell [some 4] ?_ ?_ ?_ <;> (simp [hc]; done)) | (refine LeV.tell [some 5] ?_ ?_ ?_ <;> (simp [hc]; done)) | (refine LeV.tell [some 6] ?_ ?_ ?_ <;> (simp [hc]; done)) | (refine LeV.tell [some 7] ?_ ?_ ?_ <;> (simp [hc]; done)) | (refine LeV.tell [some 8] ?_ ?_ ?_ <;> (simp [hc]; done)) | (refine LeV.tell [some 9] ?_ ?_ ?_ <;> (simp [hc]; done)) | (refine LeV.tell [some 10] ?_ ?_ ?_ <;> (simp [hc]; done)) | (refine LeV.tell [some 11] ?_ ?_ ?_ <;> (simp [hc]; done)) | (refine LeV.tell [some 12] ?_ ?_ ?_ <;> (simp [hc]; done)) | (refine LeV.tell [some 13] ?_ ?_ ?_ <;> (simp [hc]; done)) | (refine LeV.tell [some 14] ?_ ?_ ?_ <;> (simp [hc]; done)) | (refine LeV.tell [some 15] ?_ ?_ ?_ <;> (simp [hc]; done))
theorem spec_TermParse_k {ns : List Nd} {tx : ByteArray} (hl : ns.length ≤ 4294967296) (hs : tx.size ≤ 281474976710656) {S : FuncId → Bool} {H : List Blk} {K : A → Dl → Prop} {zs : List A} (hS : S 7 = false) (hv : viewL (viewA 8 H) zs = some [aP ns, .str tx]) (ho : noOwns zs = true ∨ nosl (.tup [.agg [pref 0 (tpF ns tx).1], i6 (tpF ns tx).2.1, i6 (tpF ns tx).2.2.1, i6 (tpF ns tx).2.2.2]) = true ∧ noslBlks ([pblk (tpF ns tx).1]) = true) (hK : K (shiftA H.length (.tup [.agg [pref 0 (tpF ns tx).1], i6 (tpF ns tx).2.1, i6 (tpF ns tx).2.2.1, i6 (tpF ns tx).2.2.2])) (.news (([pblk (tpF ns tx).1]).map (shiftB H.length)))) : @WCall' Go.Proofs.Tryd.prog S 7 zs H ⟨K⟩ :=
  WCall_ro' hS hv (spec_TermParse_c ns tx hl hs) rfl ho hK
end Go.Proofs.YtoegiepfcdkjaaaDoor.C

set_option linter.unusedVariables false
set_option linter.unusedSimpArgs false
namespace Go.Proofs.YtoegiepfcdkjaaaDoor.C
open Go.Sym Go.Proofs.YtoegiepfcdkjaaaDoor.I
def In64 (n : Int) : Prop := -9223372036854775808 ≤ n ∧ n < 9223372036854775808
abbrev shI : Sh := .i .i64
abbrev shN : Sh := .st (.p shI (.p shI (.p shI .u)))
abbrev shP : Sh := .st (.p (.sl shN) .u)
abbrev shL : Sh := .st (.p shI (.p shI (.p shI (.p .b .u))))
abbrev shIs : Sh := .sl shI
abbrev shS : Sh := .st (.p shP (.p shIs (.p shL (.p shL (.p shIs (.p shIs .u))))))
theorem fit_i {cs : List A} (h : Fit shI cs) : ∃ n, cs = [i6 n] ∧ In64 n := by
  obtain ⟨n, rfl, hn⟩ := h
  exact ⟨n, rfl, fit_i64 hn⟩
theorem fit_n {cs : List A} (h : Fit shN cs) : ∃ n : Nd, cs = encN n ∧ In64 n.k ∧ In64 n.a ∧ In64 n.b := by
  obtain ⟨x, y, rfl, hx, z, t, rfl, hz, u, w, rfl, hu, rfl⟩ := h
  obtain ⟨a, rfl, ha⟩ := fit_i hx
  obtain ⟨b, rfl, hb⟩ := fit_i hz
  obtain ⟨c, rfl, hc⟩ := fit_i hu
  exact ⟨⟨a, b, c⟩, rfl, ha, hb, hc⟩
theorem fit_p {cs : List A} (h : Fit shP cs) : ∃ ns : List Nd, cs = [.sl ns.length (enc ns)] ∧ ns.length < 9223372036854775808 := by
  obtain ⟨x, y, rfl, hx, rfl⟩ := h
  obtain ⟨ns, rfl, h1, _⟩ := fit_sl (f := encN) (fun r hr => fit_n hr) hx
  exact ⟨ns, by simp [enc], h1⟩
theorem fit_is {cs : List A} (h : Fit shIs cs) : ∃ xs : List Int, cs = [aI xs] ∧ xs.length < 9223372036854775808 := by
  obtain ⟨xs, rfl, h1, _⟩ := fit_sl (f := fun n => [i6 n]) (fun r hr => fit_i hr) h
  exact ⟨xs, by simp only [aI, ints]; rw [List.map_eq_flatMap], h1⟩
structure Lk.fit (l : Lk) : Prop where
  k : In64 l.key
  e : In64 l.epoch
  s : In64 l.seq
theorem fit_l {cs : List A} (h : Fit shL cs) : ∃ l : Lk, cs = [i6 l.key, i6 l.epoch, i6 l.seq, .bool l.over] ∧ l.fit := by
  obtain ⟨x, y, rfl, hx, z, t, rfl, hz, u, w, rfl, hu, b, w, rfl, ⟨o, rfl⟩, rfl⟩ := h
  obtain ⟨a, rfl, ha⟩ := fit_i hx
  obtain ⟨b, rfl, hb⟩ := fit_i hz
  obtain ⟨c, rfl, hc⟩ := fit_i hu
  exact ⟨⟨a, b, c, o⟩, rfl, ha, hb, hc⟩
structure St.fitA (s : St) : Prop where
  p : s.pool.length < 9223372036854775808
  k : s.know.length < 9223372036854775808
  t : s.sent.length < 9223372036854775808
  g : s.got.length < 9223372036854775808
  o : s.out.fit
  i : s.inn.fit
theorem fit_s {cs : List A} (h : Fit shS cs) : ∃ s : St, cs = cS s ∧ s.fitA := by
  obtain ⟨x, y, rfl, hx, z, t, rfl, hz, u, w, rfl, hu, b, w, rfl, hb, e, f, rfl, he, g, i, rfl, hg, rfl⟩ := h
  obtain ⟨ns, rfl, h1⟩ := fit_p hx
  obtain ⟨ks, rfl, h2⟩ := fit_is hz
  obtain ⟨l, rfl, h3⟩ := fit_l hu
  obtain ⟨m, rfl, h4⟩ := fit_l hb
  obtain ⟨ts, rfl, h5⟩ := fit_is he
  obtain ⟨gs, rfl, h6⟩ := fit_is hg
  exact ⟨⟨ns, ks, l, m, ts, gs⟩, rfl, h1, h2, h5, h6, h3, h4⟩
theorem arg_p {x : A} (h : FitA shP x) : ∃ ns : List Nd, x = aP ns ∧ ns.length < 9223372036854775808 := by
  obtain ⟨cs, rfl, h⟩ := h
  obtain ⟨ns, rfl, g⟩ := fit_p h
  exact ⟨ns, rfl, g⟩
theorem arg_l {x : A} (h : FitA shL x) : ∃ l : Lk, x = aL l ∧ l.fit := by
  obtain ⟨cs, rfl, h⟩ := h
  obtain ⟨ns, rfl, g⟩ := fit_l h
  exact ⟨ns, rfl, g⟩
theorem arg_s {x : A} (h : FitA shS x) : ∃ s : St, x = aS s ∧ s.fitA := by
  obtain ⟨cs, rfl, h⟩ := h
  obtain ⟨ns, rfl, g⟩ := fit_s h
  exact ⟨ns, rfl, g⟩
theorem arg_is {x : A} (h : FitA shIs x) : ∃ xs : List Int, x = aI xs ∧ xs.length < 9223372036854775808 := by
  obtain ⟨xs, e, h⟩ := fit_is (show Fit shIs [x] from h)
  exact ⟨xs, by simpa using e, h⟩
theorem arg_i {x : A} (h : FitA shI x) : ∃ n : Int, x = i6 n ∧ In64 n := by
  obtain ⟨n, e, h⟩ := fit_i (show Fit shI [x] from h)
  exact ⟨n, by simpa using e, h⟩
end Go.Proofs.YtoegiepfcdkjaaaDoor.C

set_option linter.unusedVariables false
set_option linter.unusedSimpArgs false
namespace Go.Proofs.YtoegiepfcdkjaaaDoor.C
open Go.Sym Go.Proofs.YtoegiepfcdkjaaaDoor.I
abbrev qblk (ns : List Nd) : Blk := ⟨ns.length, false, 3, enc ns, none⟩
abbrev iblk (xs : List Int) : Blk := ⟨xs.length, false, 1, ints xs, none⟩
abbrev iref (b : Nat) (xs : List Int) : A := .ref b xs.length 0 xs.length
def szF (x : Int) (n : Nat) : Int := if x - n < 0 then -1 else x - n
theorem laws_szNodeS_c (ns : List Nd) (x : Int) (hl : ns.length < 9223372036854775808) (h0 : 0 ≤ x) (h1 : x < 9223372036854775808) : T 20 [.sl ns.length (enc ns), i6 x] [] (i6 (szF x ns.length)) ([]) := by
  refine semT' (S := S0) hm laws_szNodeS_ok (Nat.le_of_ble_eq_true rfl) ?_
  unfold laws_szNodeS; dsimp only
  have hw : IntKind.i64.wrap (x - ns.length) = x - ns.length := wrap64 (by omega) (by omega)
  simp [hw]
  refine br_intro' (fun h => ?_) (fun h => ?_) <;> (have h0 := h) <;> (try simp at h) <;> try simp [h0, h]
  · exact LeV.ro rfl rfl (by simp [szF, h])
  · exact LeV.ro rfl rfl (by simp [szF]; omega)
theorem laws_szNodeS_call {ns : List Nd} {x : Int} (hl : ns.length < 9223372036854775808) (h0 : 0 ≤ x) (h1 : x < 9223372036854775808) {S : FuncId → Bool} {H : List Blk} {K : A → Dl → Prop} (hS : S 20 = false) (hK : K (i6 (szF x ns.length)) (.news [])) : @WCall' Go.Proofs.Tryd.prog S 20 [.sl ns.length (enc ns), i6 x] H ⟨K⟩ :=
  WCall_pure hS (laws_szNodeS_c ns x hl h0 h1) (by simp) (by simp) (by simp) hK
theorem laws_szNodeS_k {ns : List Nd} {x : Int} (hl : ns.length < 9223372036854775808) (h0 : 0 ≤ x) (h1 : x < 9223372036854775808) {S : FuncId → Bool} {H : List Blk} {K : A → Dl → Prop} {zs : List A} (hS : S 20 = false) (hv : viewL (viewA 8 H) zs = some [.sl ns.length (enc ns), i6 x]) (ho : noOwns zs = true ∨ nosl (i6 (szF x ns.length)) = true) (hK : K (i6 (szF x ns.length)) (.news [])) : @WCall' Go.Proofs.Tryd.prog S 20 zs H ⟨K⟩ :=
  WCall_pure hS (laws_szNodeS_c ns x hl h0 h1) hv ho (by simp) hK
theorem laws_szPool_c (ns : List Nd) (x : Int) (hl : ns.length < 9223372036854775808) (h0 : 0 ≤ x) (h1 : x < 9223372036854775808) : T 6 [aP ns, i6 x] [] (i6 (szF x ns.length)) ([]) := by
  refine semT' (S := S0) hm laws_szPool_ok (Nat.le_of_ble_eq_true rfl) ?_
  unfold laws_szPool; dsimp only
  simp
  refine laws_szNodeS_call (ns := ns) (x := x) hl h0 h1 rfl ?_; simp
  refine br_intro' (fun h => ?_) (fun h => ?_) <;> (have h0 := h) <;> (try simp at h) <;> try simp [h0, h]
  · exact LeV.ro rfl rfl (by simp [szF] at h ⊢; omega)
  · exact LeV.ro rfl rfl (by simp)
theorem laws_szPool_call {ns : List Nd} {x : Int} (hl : ns.length < 9223372036854775808) (h0 : 0 ≤ x) (h1 : x < 9223372036854775808) {S : FuncId → Bool} {H : List Blk} {K : A → Dl → Prop} (hS : S 6 = false) (hK : K (i6 (szF x ns.length)) (.news [])) : @WCall' Go.Proofs.Tryd.prog S 6 [aP ns, i6 x] H ⟨K⟩ :=
  WCall_pure hS (laws_szPool_c ns x hl h0 h1) (by simp) (by simp) (by simp) hK
theorem laws_szPool_k {ns : List Nd} {x : Int} (hl : ns.length < 9223372036854775808) (h0 : 0 ≤ x) (h1 : x < 9223372036854775808) {S : FuncId → Bool} {H : List Blk} {K : A → Dl → Prop} {zs : List A} (hS : S 6 = false) (hv : viewL (viewA 8 H) zs = some [aP ns, i6 x]) (ho : noOwns zs = true ∨ nosl (i6 (szF x ns.length)) = true) (hK : K (i6 (szF x ns.length)) (.news [])) : @WCall' Go.Proofs.Tryd.prog S 6 zs H ⟨K⟩ :=
  WCall_pure hS (laws_szPool_c ns x hl h0 h1) hv ho (by simp) hK
theorem laws_toNode_c (n : Nd)  : T 59 [aN n] [] (aN n) ([]) := by
  refine semT' (S := S0) hm laws_toNode_ok (Nat.le_of_ble_eq_true rfl) ?_
  unfold laws_toNode; dsimp only
  simp
  exact LeV.ro rfl rfl (by simp)
theorem laws_toNode_call {n : Nd}  {S : FuncId → Bool} {H : List Blk} {K : A → Dl → Prop} (hS : S 59 = false) (hK : K (aN n) (.news [])) : @WCall' Go.Proofs.Tryd.prog S 59 [aN n] H ⟨K⟩ :=
  WCall_pure hS (laws_toNode_c n) (by simp) (by simp) (by simp) hK
theorem laws_toNode_k {n : Nd}  {S : FuncId → Bool} {H : List Blk} {K : A → Dl → Prop} {zs : List A} (hS : S 59 = false) (hv : viewL (viewA 8 H) zs = some [aN n]) (ho : noOwns zs = true ∨ nosl (aN n) = true) (hK : K (aN n) (.news [])) : @WCall' Go.Proofs.Tryd.prog S 59 zs H ⟨K⟩ :=
  WCall_pure hS (laws_toNode_c n) hv ho (by simp) hK
theorem laws_eqNode_c (n m : Nd)  : T 66 [aN n, aN m] [] (.bool (decide (n = m))) ([]) := by
  refine semT' (S := S0) hm laws_eqNode_ok (Nat.le_of_ble_eq_true rfl) ?_
  unfold laws_eqNode; dsimp only
  simp
  repeat (any_goals (first | (refine br_intro' (fun h => ?_) (fun h => ?_) <;> (have h0 := h) <;> (try simp at h) <;> try simp [h0, h])))
  all_goals exact LeV.ro rfl rfl (by simp [Nd_eq, *])
theorem laws_eqNode_call {n m : Nd}  {S : FuncId → Bool} {H : List Blk} {K : A → Dl → Prop} (hS : S 66 = false) (hK : K (.bool (decide (n = m))) (.news [])) : @WCall' Go.Proofs.Tryd.prog S 66 [aN n, aN m] H ⟨K⟩ :=
  WCall_pure hS (laws_eqNode_c n m) (by simp) (by simp) (by simp) hK
theorem laws_eqNode_k {n m : Nd}  {S : FuncId → Bool} {H : List Blk} {K : A → Dl → Prop} {zs : List A} (hS : S 66 = false) (hv : viewL (viewA 8 H) zs = some [aN n, aN m]) (ho : noOwns zs = true ∨ nosl (.bool (decide (n = m))) = true) (hK : K (.bool (decide (n = m))) (.news [])) : @WCall' Go.Proofs.Tryd.prog S 66 zs H ⟨K⟩ :=
  WCall_pure hS (laws_eqNode_c n m) hv ho (by simp) hK
theorem Lk_eq {x y : Lk} : x = y ↔ x.key = y.key ∧ x.epoch = y.epoch ∧ x.seq = y.seq ∧ x.over = y.over := by cases x; cases y; simp
def zN (j : Nat) : List Nd := List.replicate j ⟨0, 0, 0⟩
/-- A copy that is made up to a place. -/
def upN (ns : List Nd) (j : Nat) : List Nd := ns.take j ++ zN (ns.length - j)
theorem upN_len (ns : List Nd) (j : Nat) (h : j ≤ ns.length) : (upN ns j).length = ns.length := by simp [upN, zN]; omega
theorem upN_zero (ns : List Nd) : upN ns 0 = zN ns.length := by simp [upN]
theorem upN_end (ns : List Nd) : upN ns ns.length = ns := by simp [upN, zN]
theorem enc_zN (j : Nat) : enc (zN j) = (List.replicate j [i6 0, i6 0, i6 0]).flatten := by
  induction j with
  | zero => rfl
  | succ j ih => simp only [zN, List.replicate_succ, enc, List.flatMap_cons, List.flatten_cons] at ih ⊢; rw [ih]; rfl
theorem upN_set (ns : List Nd) (j : Nat) (h : j < ns.length) : (upN ns j).set j ns[j] = upN ns (j + 1) := by
  have hl : (ns.take j).length = j := by simp; omega
  have e : ns.length - j = (ns.length - (j + 1)) + 1 := by omega
  simp only [upN, zN]
  rw [List.set_append_right _ _ (by omega), hl, Nat.sub_self, e, List.replicate_succ, List.set_cons_zero, List.take_succ_eq_append_getElem h, List.append_assoc]
  rfl
theorem set3 {x y z : A} : ∀ (cs : List A) (a b c : A) (r : List A), (((a :: b :: c :: r).set 0 x).set 1 y).set 2 z = x :: y :: z :: r := fun _ _ _ _ _ => rfl
theorem enc_set : ∀ (xs : List Nd) (j : Nat) (n : Nd), (((enc xs).set (j * 3) (i6 n.k)).set (j * 3 + 1) (i6 n.a)).set (j * 3 + 2) (i6 n.b) = enc (xs.set j n)
  | [], j, n => by simp
  | x :: xs, 0, n => rfl
  | x :: xs, j + 1, n => by
    have := enc_set xs j n
    have e : (j + 1) * 3 = j * 3 + 1 + 1 + 1 := by omega
    show ((([i6 x.k, i6 x.a, i6 x.b] ++ enc xs).set ((j + 1) * 3) _).set ((j + 1) * 3 + 1) _).set ((j + 1) * 3 + 2) _ = [i6 x.k, i6 x.a, i6 x.b] ++ enc (xs.set j n)
    rw [e, ← this]
    rfl
theorem laws_toNodeS_c (ns : List Nd) (hl : ns.length ≤ 4294967296) : T 24 [.sl ns.length (enc ns)] [] (pref 0 ns) ([qblk ns]) := by
  refine semT' (S := S0) hm laws_toNodeS_ok (Nat.le_of_ble_eq_true rfl) ?_
  unfold laws_toNodeS; dsimp only
  have h1 : ((ns.length : Int)) * 24 ≤ 17592186044416 := by omega
  have h2 : (ns.length : Int) ≤ 4294967296 := by omega
  simp
  refine ck_intro' (by omega) ?_; simp
  rw [← enc_zN, ← upN_zero]
  refine WLoop_fam (fun j : Nat => [(0, A.sl ns.length (enc ns)), (3, A.ref 0 0 0 ns.length), (4, i6 j)]) (fun j => [⟨0, false, 3, enc (upN ns j), none⟩]) (fun j => ns.length - j)
    (fun j => j ≤ ns.length) ?_ 0 (Nat.zero_le _)
  intro j hj ih
  simp [upN_len ns j hj]
  refine br_intro' (fun h => ?_) (fun h => ?_) <;> (have h0 := h) <;> (try simp at h) <;> try simp [h0, h]
  · obtain ⟨r, hr⟩ := enc_at h
    have h3 : 3 ≤ ns.length * 3 - j * 3 := by omega
    have hw : IntKind.i64.wrap ((j : Int) + 1) = j + 1 := wrap64 (by omega) (by omega)
    have h' := h
    simp [h3, hr, h']
    refine laws_toNode_call (n := ns[j]) rfl ?_; simp [upN_len ns j hj, h']
    refine ck_intro' (by omega) ?_; simp
    rw [hw, enc_set, upN_set ns j h']
    exact ih (j + 1) h' (by omega)
  · have h0 : j = ns.length := by omega
    subst h0
    rw [upN_end]
    first | (refine LeV.tell [none] ?_ ?_ ?_ <;> (simp; done)) | (refine LeV.tell [some 0] ?_ ?_ ?_ <;> (simp; done)) | (refine LeV.tell [some 1] ?_ ?_ ?_ <;> (simp; done)) | (refine LeV.tell [some 2] ?_ ?_ ?_ <;> (simp; done)) | (refine LeV.tell [some 3] ?_ ?_ ?_ <;> (simp; done)) | (refine LeV.tell [some 4] ?_ ?_ ?_ <;> (simp; done)) | (refine LeV.tell [some 5] ?_ ?_ ?_ <;> (simp; done)) | (refine LeV.tell [some 6] ?_ ?_ ?_ <;> (simp; done)) | (refine LeV.tell [some 7] ?_ ?_ ?_ <;> (simp; done)) | (refine LeV.tell [some 8] ?_ ?_ ?_ <;> (simp; done)) | (refine LeV.tell [some 9] ?_ ?_ ?_ <;> (simp; done)) | (refine LeV.tell [some 10] ?_ ?_ ?_ <;> (simp; done)) | (refine LeV.tell [some 11] ?_ ?_ ?_ <;> (simp; done)) | (refine LeV.tell [some 12] ?_ ?_ ?_ <;> (simp; done)) | (refine LeV.tell [some 13] ?_ ?_ ?_ <;> (simp; done)) | (refine LeV.tell [some 14] ?_ ?_ ?_ <;> (simp; done)) | (refine LeV.tell [some 15] ?_ ?_ ?_ <;> (simp; done))
theorem laws_toNodeS_k {ns : List Nd} (hl : ns.length ≤ 4294967296) {S : FuncId → Bool} {H : List Blk} {K : A → Dl → Prop} {zs : List A} (hS : S 24 = false) (hv : viewL (viewA 8 H) zs = some [.sl ns.length (enc ns)]) (ho : noOwns zs = true ∨ nosl (pref 0 ns) = true ∧ noslBlks ([qblk ns]) = true) (hK : K (shiftA H.length (pref 0 ns)) (.news (([qblk ns]).map (shiftB H.length)))) : @WCall' Go.Proofs.Tryd.prog S 24 zs H ⟨K⟩ :=
  WCall_ro' hS hv (laws_toNodeS_c ns hl) rfl ho hK
theorem laws_toPool_c (ns : List Nd) (hl : ns.length ≤ 4294967296) : T 8 [aP ns] [] (.agg [pref 0 ns]) ([qblk ns]) := by
  refine semT' (S := S0) hm laws_toPool_ok (Nat.le_of_ble_eq_true rfl) ?_
  unfold laws_toPool; dsimp only
  simp
  refine laws_toNodeS_k (ns := ns) hl rfl (by simp) (by simp [noslBlks]) ?_; simp [shiftB]
  first | (refine LeV.tell [none] ?_ ?_ ?_ <;> (simp; done)) | (refine LeV.tell [some 0] ?_ ?_ ?_ <;> (simp; done)) | (refine LeV.tell [some 1] ?_ ?_ ?_ <;> (simp; done)) | (refine LeV.tell [some 2] ?_ ?_ ?_ <;> (simp; done)) | (refine LeV.tell [some 3] ?_ ?_ ?_ <;> (simp; done)) | (refine LeV.tell [some 4] ?_ ?_ ?_ <;> (simp; done)) | (refine LeV.tell [some 5] ?_ ?_ ?_ <;> (simp; done)) | (refine LeV.tell [some 6] ?_ ?_ ?_ <;> (simp; done)) | (refine LeV.tell [some 7] ?_ ?_ ?_ <;> (simp; done)) | (refine LeV.tell [some 8] ?_ ?_ ?_ <;> (simp; done)) | (refine LeV.tell [some 9] ?_ ?_ ?_ <;> (simp; done)) | (refine LeV.tell [some 10] ?_ ?_ ?_ <;> (simp; done)) | (refine LeV.tell [some 11] ?_ ?_ ?_ <;> (simp; done)) | (refine LeV.tell [some 12] ?_ ?_ ?_ <;> (simp; done)) | (refine LeV.tell [some 13] ?_ ?_ ?_ <;> (simp; done)) | (refine LeV.tell [some 14] ?_ ?_ ?_ <;> (simp; done)) | (refine LeV.tell [some 15] ?_ ?_ ?_ <;> (simp; done))
theorem laws_toPool_k {ns : List Nd} (hl : ns.length ≤ 4294967296) {S : FuncId → Bool} {H : List Blk} {K : A → Dl → Prop} {zs : List A} (hS : S 8 = false) (hv : viewL (viewA 8 H) zs = some [aP ns]) (ho : noOwns zs = true ∨ nosl (.agg [pref 0 ns]) = true ∧ noslBlks ([qblk ns]) = true) (hK : K (shiftA H.length (.agg [pref 0 ns])) (.news (([qblk ns]).map (shiftB H.length)))) : @WCall' Go.Proofs.Tryd.prog S 8 zs H ⟨K⟩ :=
  WCall_ro' hS hv (laws_toPool_c ns hl) rfl ho hK
/-- A copy of numbers that is made up to a place. -/
def upI (xs : List Int) (j : Nat) : List Int := xs.take j ++ List.replicate (xs.length - j) 0
theorem upI_len (xs : List Int) (j : Nat) (h : j ≤ xs.length) : (upI xs j).length = xs.length := by simp [upI]; omega
theorem upI_zero (xs : List Int) : upI xs 0 = List.replicate xs.length 0 := by simp [upI]
theorem upI_end (xs : List Int) : upI xs xs.length = xs := by simp [upI]
theorem upI_set (ns : List Int) (j : Nat) (h : j < ns.length) : (upI ns j).set j ns[j] = upI ns (j + 1) := by
  have hl : (ns.take j).length = j := by simp; omega
  have e : ns.length - j = (ns.length - (j + 1)) + 1 := by omega
  simp only [upI]
  rw [List.set_append_right _ _ (by omega), hl, Nat.sub_self, e, List.replicate_succ, List.set_cons_zero, List.take_succ_eq_append_getElem h, List.append_assoc]
  rfl
theorem ints_set (xs : List Int) (j : Nat) (n : Int) : (ints xs).set j (i6 n) = ints (xs.set j n) := by simp [ints, List.map_set]
@[simp] theorem ints_tells (H H' : List Blk) (g : List (Option Nat)) (xs : List Int) : Tells H H' g (ints xs) (ints xs) := Tells_scals _ (ints_scals xs)
@[simp] theorem ints_take (xs : List Int) : (ints xs).take xs.length = ints xs := List.take_of_length_le (by simp)
theorem ints_rep (n : Nat) : ints (List.replicate n 0) = List.replicate n (i6 0) := by simp [ints]
theorem laws_eqNodeS_c (ns ms : List Nd) (hl : ns.length < 9223372036854775807) (hl2 : ms.length < 9223372036854775807) : T 34 [.sl ns.length (enc ns), .sl ms.length (enc ms)] [] (.bool (decide (ns = ms))) ([]) := by
  refine semT' (S := S0) hm laws_eqNodeS_ok (Nat.le_of_ble_eq_true rfl) ?_
  unfold laws_eqNodeS; dsimp only
  simp
  refine br_intro' (fun h => ?_) (fun h => ?_) <;> (try simp at h) <;> (try simp [h])
  · refine WLoop_fam (fun j : Nat => [(0, A.sl ns.length (enc ns)), (1, A.sl ms.length (enc ms)), (5, i6 j)]) (fun _ => []) (fun j => ns.length - j)
      (fun j => j ≤ ns.length ∧ ns.take j = ms.take j) ?_ 0 ⟨Nat.zero_le _, by simp⟩
    intro j ⟨hj, hf⟩ ih
    simp
    have hq : ns.length = ms.length := by omega
    refine br_intro' (fun h => ?_) (fun h => ?_) <;> (have h0 := h) <;> (try simp at h) <;> try simp [h0, h]
    · obtain ⟨r, hr⟩ := enc_at h
      have hm : j < ms.length := by omega
      obtain ⟨r2, hr2⟩ := enc_at hm
      have h3 : 3 ≤ ms.length * 3 - j * 3 := by omega
      have h4 : 3 ≤ ns.length * 3 - j * 3 := by omega
      have hw : IntKind.i64.wrap ((j : Int) + 1) = j + 1 := wrap64 (by omega) (by omega)
      have h' := h
      simp [h3, h4, hr, h', hr2, hm]
      refine laws_eqNode_call (n := ns[j]) (m := ms[j]) rfl ?_; simp
      first | (refine ck_intro' (by kernel_rfl) ?_; try simp) | skip
      refine br_intro' (fun g => ?_) (fun g => ?_) <;> simp at g <;> simp [g]
      · rw [hw]
        exact ih (j + 1) ⟨h', by rw [List.take_succ_eq_append_getElem h', List.take_succ_eq_append_getElem hm, hf, g]⟩ (by omega)
      · exact LeV.ro rfl rfl (by simp; intro e; subst e; exact g rfl)
    · have h0 : j = ns.length := by omega
      exact LeV.ro rfl rfl (by rw [h0, List.take_length, hq, List.take_length] at hf; simp [hf])
  · exact LeV.ro rfl rfl (by simp; intro e; rw [e] at h; exact h rfl)
theorem laws_eqNodeS_call {ns ms : List Nd} (hl : ns.length < 9223372036854775807) (hl2 : ms.length < 9223372036854775807) {S : FuncId → Bool} {H : List Blk} {K : A → Dl → Prop} (hS : S 34 = false) (hK : K (.bool (decide (ns = ms))) (.news [])) : @WCall' Go.Proofs.Tryd.prog S 34 [.sl ns.length (enc ns), .sl ms.length (enc ms)] H ⟨K⟩ :=
  WCall_pure hS (laws_eqNodeS_c ns ms hl hl2) (by simp) (by simp) (by simp) hK
theorem laws_eqNodeS_k {ns ms : List Nd} (hl : ns.length < 9223372036854775807) (hl2 : ms.length < 9223372036854775807) {S : FuncId → Bool} {H : List Blk} {K : A → Dl → Prop} {zs : List A} (hS : S 34 = false) (hv : viewL (viewA 8 H) zs = some [.sl ns.length (enc ns), .sl ms.length (enc ms)]) (ho : noOwns zs = true ∨ nosl (.bool (decide (ns = ms))) = true) (hK : K (.bool (decide (ns = ms))) (.news [])) : @WCall' Go.Proofs.Tryd.prog S 34 zs H ⟨K⟩ :=
  WCall_pure hS (laws_eqNodeS_c ns ms hl hl2) hv ho (by simp) hK
theorem laws_eqPool_c (ns ms : List Nd) (hl : ns.length < 9223372036854775807) (hl2 : ms.length < 9223372036854775807) : T 10 [aP ns, aP ms] [] (.bool (decide (ns = ms))) ([]) := by
  refine semT' (S := S0) hm laws_eqPool_ok (Nat.le_of_ble_eq_true rfl) ?_
  unfold laws_eqPool; dsimp only
  simp
  refine laws_eqNodeS_call (ns := ns) (ms := ms) hl hl2 rfl ?_; simp
  refine br_intro' (fun g => ?_) (fun g => ?_) <;> simp at g <;> simp [g]
  · exact LeV.ro rfl rfl (by simp)
  · exact LeV.ro rfl rfl (by simp [g])
theorem laws_eqPool_call {ns ms : List Nd} (hl : ns.length < 9223372036854775807) (hl2 : ms.length < 9223372036854775807) {S : FuncId → Bool} {H : List Blk} {K : A → Dl → Prop} (hS : S 10 = false) (hK : K (.bool (decide (ns = ms))) (.news [])) : @WCall' Go.Proofs.Tryd.prog S 10 [aP ns, aP ms] H ⟨K⟩ :=
  WCall_pure hS (laws_eqPool_c ns ms hl hl2) (by simp) (by simp) (by simp) hK
theorem laws_eqPool_k {ns ms : List Nd} (hl : ns.length < 9223372036854775807) (hl2 : ms.length < 9223372036854775807) {S : FuncId → Bool} {H : List Blk} {K : A → Dl → Prop} {zs : List A} (hS : S 10 = false) (hv : viewL (viewA 8 H) zs = some [aP ns, aP ms]) (ho : noOwns zs = true ∨ nosl (.bool (decide (ns = ms))) = true) (hK : K (.bool (decide (ns = ms))) (.news [])) : @WCall' Go.Proofs.Tryd.prog S 10 zs H ⟨K⟩ :=
  WCall_pure hS (laws_eqPool_c ns ms hl hl2) hv ho (by simp) hK
theorem szF_neg {x : Int} {n : Nat} : szF x n < 0 ↔ x < n := by unfold szF; split <;> omega
theorem szF_pos {x : Int} {n : Nat} (h : ¬ x < n) : szF x n = x - n := by unfold szF; rw [if_neg (by omega)]
/-- The size of a stream. -/
def szStr (s : St) (x : Int) : Int := if x < s.pool.length + s.know.length + s.sent.length + s.got.length then -1 else x - (s.pool.length + s.know.length + s.sent.length + s.got.length)
theorem St_eq {x y : St} : x = y ↔ x.pool = y.pool ∧ x.know = y.know ∧ x.out = y.out ∧ x.inn = y.inn ∧ x.sent = y.sent ∧ x.got = y.got := by cases x; cases y; simp
end Go.Proofs.YtoegiepfcdkjaaaDoor.C

set_option linter.unusedVariables false
set_option linter.unusedSimpArgs false
namespace Go.Proofs.YtoegiepfcdkjaaaDoor.C
open Go.Sym Go.Proofs.YtoegiepfcdkjaaaDoor.I
def mkN (k : Int) : Nat → List Nd
  | 0 => []
  | n + 1 => mkN k n ++ [⟨k + 3 * n, k + 3 * n + 1, k + 3 * n + 2⟩]
@[simp] theorem mkN_len (k : Int) (n : Nat) : (mkN k n).length = n := by induction n with | zero => rfl | succ n ih => simp [mkN, ih]
@[simp] theorem mkN_take (k : Int) (n : Nat) : (enc (mkN k n)).take (n * 3) = enc (mkN k n) := List.take_of_length_le (by simp)
theorem mkN_get (k : Int) : ∀ (n j : Nat) (h : j < (mkN k n).length), (mkN k n)[j] = ⟨k + 3 * j, k + 3 * j + 1, k + 3 * j + 2⟩
  | 0, j, h => by simp at h
  | n + 1, j, h => by
    simp only [mkN]
    rcases Nat.lt_or_ge j n with g | g
    · rw [List.getElem_append_left (by simpa using g)]
      exact mkN_get k n j (by simpa using g)
    · have : j = n := by simp at h; omega
      subst this
      simp
theorem mkN_set (k : Int) (ns : List Nd) (j : Nat) (h : j < ns.length) : (mkN k j ++ ns.drop j).set j ⟨k + 3 * j, k + 3 * j + 1, k + 3 * j + 2⟩ = mkN k (j + 1) ++ ns.drop (j + 1) := by
  rw [List.set_append_right _ _ (by simp), mkN_len, Nat.sub_self, List.drop_eq_getElem_cons h, List.set_cons_zero]
  simp [mkN]
theorem set_self {α : Type} {H : List α} {n : Nat} {x : α} (h : H[n]? = some x) : H.set n x = H := by
  apply List.ext_getElem?
  intro i
  by_cases e : n = i
  · subst e
    rw [h, List.getElem?_set_self (List.getElem?_eq_some_iff.1 h).1]
  · rw [List.getElem?_set_ne e]
theorem laws_markNodeS_m (H : List Blk) (nb v : Nat) (ro : Bool) (ns : List Nd) (k : Int) (hH : H[nb]? = some ⟨v, ro, 3, enc ns, none⟩) (hro : ro = true → ns = []) (hl : ns.length ≤ 4294967296) (hk : 0 ≤ k) (hk2 : k ≤ 4294967296) : T 35 [.ref nb v 0 ns.length, i6 k] (H) (i6 (k + 3 * ns.length)) (H.set nb ⟨v, ro, 3, enc (mkN k ns.length), none⟩) := by
  refine semT' (S := S0) hm laws_markNodeS_ok (Nat.le_of_ble_eq_true rfl) ?_
  unfold laws_markNodeS; dsimp only
  have hlt : nb < H.length := (List.getElem?_eq_some_iff.1 hH).1
  have hs0 : H.set nb ⟨v, ro, 3, enc (mkN k 0 ++ ns.drop 0), none⟩ = H := set_self (by simpa [mkN] using hH)
  simp
  generalize hB : H.length = B
  rw [← hs0]
  refine WLoop_fam (fun p : Nat × Int => [(0, A.ref nb v 0 ns.length), (1, i6 p.2), (5, i6 p.1)]) (fun p => H.set nb ⟨v, ro, 3, enc (mkN k p.1 ++ ns.drop p.1), none⟩) (fun p => ns.length - p.1)
    (fun p => p.1 ≤ ns.length ∧ p.2 = k + 3 * p.1) ?_ (0, k) ⟨Nat.zero_le _, by simp⟩
  rintro ⟨j, k'⟩ ⟨hj, hk'⟩ ih
  simp at hk' hj
  subst hk'
  have hlen : (mkN k j ++ ns.drop j).length = ns.length := by simp; omega
  simp [hlt]
  refine br_intro' (fun h => ?_) (fun h => ?_) <;> (have h0 := h) <;> (try simp at h) <;> try simp [h0, h]
  · have h' := h
    have hr : ro = false := by cases ro with | false => rfl | true => rw [hro rfl] at h; simp at h
    subst hr
    have h3 : j * 3 < ns.length * 3 := by omega
    have h4 : j * 3 + 1 < ns.length * 3 := by omega
    have h5 : j * 3 + 2 < ns.length * 3 := by omega
    have w1 : IntKind.i64.wrap (k + 3 * (j : Int) + 1) = k + 3 * j + 1 := wrap64 (by omega) (by omega)
    have w2 : IntKind.i64.wrap (k + 3 * (j : Int) + 1 + 1) = k + 3 * j + 2 := by rw [wrap64 (by omega) (by omega)]; omega
    have w3 : IntKind.i64.wrap (k + 3 * (j : Int) + 2 + 1) = k + 3 * j + 3 := by rw [wrap64 (by omega) (by omega)]; omega
    have hw : IntKind.i64.wrap ((j : Int) + 1) = j + 1 := wrap64 (by omega) (by omega)
    have hc : (j + (ns.length - j)) * 3 = ns.length * 3 := by rw [Nat.add_sub_cancel' hj]
    simp [h', hlt, hc, w1, w2, w3, h3, h4, h5]
    refine ck_intro' (by omega) ?_; simp [h', hlt, hc, w1, w2, w3, h3, h4, h5]
    refine ck_intro' (by omega) ?_; simp [h', hlt, hc, w1, w2, w3, h3, h4, h5]
    refine ck_intro' (by omega) ?_; simp [h', hlt, hc, w1, w2, w3, h3, h4, h5, hw]
    have e3 := enc_set (mkN k j ++ ns.drop j) j ⟨k + 3 * j, k + 3 * j + 1, k + 3 * j + 2⟩
    rw [mkN_set k ns j h'] at e3
    rw [e3]
    exact ih (j + 1, k + 3 * j + 3) ⟨h', by push_cast; omega⟩ (by simp; omega)
  · have e : j = ns.length := by omega
    subst e
    simp
    exact LeV.refl _ _ _
theorem shift_len {H T : List Blk} {nb : Nat} {x : Blk} (h : nb < H.length) : (H ++ T).set nb x = H.set nb x ++ T := set_left h x
theorem laws_markPool_m (H : List Blk) (nb v : Nat) (ro : Bool) (ns : List Nd) (k : Int) (hH : H[nb]? = some ⟨v, ro, 3, enc ns, none⟩) (hro : ro = true → ns = []) (hl : ns.length ≤ 4294967296) (hk : 0 ≤ k) (hk2 : k ≤ 4294967296) (hcl : Closed1 H.length H = true) : T 11 [.agg [.ref nb v 0 ns.length], i6 k] (H) (i6 (k + 3 * ns.length)) (H.set nb ⟨v, ro, 3, enc (mkN k ns.length), none⟩) := by
  refine semT' (S := (fun f => [35].contains f)) hm laws_markPool_ok (Nat.le_of_ble_eq_true rfl) ?_
  unfold laws_markPool; dsimp only
  have hlt : nb < H.length := (List.getElem?_eq_some_iff.1 hH).1
  simp
  refine WCall_t' rfl [nb] (laws_markNodeS_m (H ++ [_]) nb v ro ns k (by rw [get_left hlt]; exact hH) hro hl hk hk2) (by simp) (fun b hb _ => by simp at hb; rw [List.getElem?_set_ne (Ne.symm hb)]) ?_
  simp [set_left hlt]
  exact LeV.drop (by simp) (by simpa using Closed1_set (by simp) _ _ hcl) (by simp)
theorem enc_gets {ns : List Nd} {j : Nat} (h : j < ns.length) : (enc ns)[j * 3]? = some (i6 ns[j].k) ∧ (enc ns)[j * 3 + 1]? = some (i6 ns[j].a) ∧ (enc ns)[j * 3 + 2]? = some (i6 ns[j].b) := by
  obtain ⟨r, hr⟩ := enc_at h
  have e : ∀ i, (enc ns)[j * 3 + i]? = (i6 ns[j].k :: i6 ns[j].a :: i6 ns[j].b :: r)[i]? := fun i => by rw [← hr, List.getElem?_drop]
  exact ⟨e 0, e 1, e 2⟩
theorem enc_k {ns : List Nd} {j : Nat} (h : j < ns.length) {h' : j * 3 < (enc ns).length} : (enc ns)[j * 3] = i6 ns[j].k := by
  have := (enc_gets h).1
  rw [List.getElem?_eq_getElem h'] at this
  simpa using this
theorem enc_a {ns : List Nd} {j : Nat} (h : j < ns.length) {h' : j * 3 + 1 < (enc ns).length} : (enc ns)[j * 3 + 1] = i6 ns[j].a := by
  have := (enc_gets h).2.1
  rw [List.getElem?_eq_getElem h'] at this
  simpa using this
theorem enc_b {ns : List Nd} {j : Nat} (h : j < ns.length) {h' : j * 3 + 2 < (enc ns).length} : (enc ns)[j * 3 + 2] = i6 ns[j].b := by
  have := (enc_gets h).2.2
  rw [List.getElem?_eq_getElem h'] at this
  simpa using this
theorem laws_heldNodeS_c (n : Nat) (k : Int) (hl : n ≤ 4294967296) (hk : 0 ≤ k) (hk2 : k ≤ 4294967296) : T 36 [.sl n (enc (mkN k n)), i6 k] [] (i6 (k + 3 * n)) ([]) := by
  refine semT' (S := S0) hm laws_heldNodeS_ok (Nat.le_of_ble_eq_true rfl) ?_
  unfold laws_heldNodeS; dsimp only
  simp
  refine WLoop_fam (fun p : Nat × Int => [(0, .sl n (enc (mkN k n))), (1, i6 p.2), (5, i6 p.1)]) (fun _ => []) (fun p => n - p.1)
    (fun p => p.1 ≤ n ∧ p.2 = k + 3 * p.1) ?_ (0, k) ⟨Nat.zero_le _, by simp⟩
  rintro ⟨j, k'⟩ ⟨hj, hk'⟩ ih
  simp at hk' hj
  subst hk'
  simp
  refine br_intro' (fun h => ?_) (fun h => ?_) <;> (have h0 := h) <;> (try simp at h) <;> try simp [h0, h]
  · have h' := h
    obtain ⟨r, hr⟩ := enc_at (ns := mkN k n) (j := j) (by simpa using h)
    rw [mkN_get] at hr
    have h3 : 3 ≤ n * 3 - j * 3 := by omega
    have h4 : j * 3 < n * 3 := by omega
    have w1 : IntKind.i64.wrap (k + 3 * (j : Int) + 1) = k + 3 * j + 1 := wrap64 (by omega) (by omega)
    have w2 : IntKind.i64.wrap (k + 3 * (j : Int) + 1 + 1) = k + 3 * j + 2 := by rw [wrap64 (by omega) (by omega)]; omega
    have w3 : IntKind.i64.wrap (k + 3 * (j : Int) + 2 + 1) = k + 3 * j + 3 := by rw [wrap64 (by omega) (by omega)]; omega
    have hw : IntKind.i64.wrap ((j : Int) + 1) = j + 1 := wrap64 (by omega) (by omega)
    have hj' : j < (mkN k n).length := by simpa using h
    have h5 : j * 3 + 1 < n * 3 := by omega
    have h6 : j * 3 + 2 < n * 3 := by omega
    simp [h', h3, h4, h5, h6, enc_k hj', enc_a hj', enc_b hj', mkN_get, w1, w2, w3, hw]
    exact ih (j + 1, k + 3 * j + 3) ⟨h', by push_cast; omega⟩ (by simp; omega)
  · have e : j = n := by omega
    subst e
    exact LeV.ro rfl rfl (by simp)
theorem laws_heldNodeS_call {n : Nat} {k : Int} (hl : n ≤ 4294967296) (hk : 0 ≤ k) (hk2 : k ≤ 4294967296) {S : FuncId → Bool} {H : List Blk} {K : A → Dl → Prop} (hS : S 36 = false) (hK : K (i6 (k + 3 * n)) (.news [])) : @WCall' Go.Proofs.Tryd.prog S 36 [.sl n (enc (mkN k n)), i6 k] H ⟨K⟩ :=
  WCall_pure hS (laws_heldNodeS_c n k hl hk hk2) (by simp) (by simp) (by simp) hK
theorem laws_heldNodeS_k {n : Nat} {k : Int} (hl : n ≤ 4294967296) (hk : 0 ≤ k) (hk2 : k ≤ 4294967296) {S : FuncId → Bool} {H : List Blk} {K : A → Dl → Prop} {zs : List A} (hS : S 36 = false) (hv : viewL (viewA 8 H) zs = some [.sl n (enc (mkN k n)), i6 k]) (ho : noOwns zs = true ∨ nosl (i6 (k + 3 * n)) = true) (hK : K (i6 (k + 3 * n)) (.news [])) : @WCall' Go.Proofs.Tryd.prog S 36 zs H ⟨K⟩ :=
  WCall_pure hS (laws_heldNodeS_c n k hl hk hk2) hv ho (by simp) hK
theorem laws_heldPool_c (n : Nat) (k : Int) (hl : n ≤ 4294967296) (hk : 0 ≤ k) (hk2 : k ≤ 4294967296) : T 12 [.agg [.sl n (enc (mkN k n))], i6 k] [] (i6 (k + 3 * n)) ([]) := by
  refine semT' (S := S0) hm laws_heldPool_ok (Nat.le_of_ble_eq_true rfl) ?_
  unfold laws_heldPool; dsimp only
  simp
  refine laws_heldNodeS_call (n := n) (k := k) hl hk hk2 rfl ?_; simp
  have e : ¬ k + 3 * (n : Int) < 0 := by omega
  simp [e]
  exact LeV.ro rfl rfl (by simp)
theorem laws_heldPool_call {n : Nat} {k : Int} (hl : n ≤ 4294967296) (hk : 0 ≤ k) (hk2 : k ≤ 4294967296) {S : FuncId → Bool} {H : List Blk} {K : A → Dl → Prop} (hS : S 12 = false) (hK : K (i6 (k + 3 * n)) (.news [])) : @WCall' Go.Proofs.Tryd.prog S 12 [.agg [.sl n (enc (mkN k n))], i6 k] H ⟨K⟩ :=
  WCall_pure hS (laws_heldPool_c n k hl hk hk2) (by simp) (by simp) (by simp) hK
theorem laws_heldPool_k {n : Nat} {k : Int} (hl : n ≤ 4294967296) (hk : 0 ≤ k) (hk2 : k ≤ 4294967296) {S : FuncId → Bool} {H : List Blk} {K : A → Dl → Prop} {zs : List A} (hS : S 12 = false) (hv : viewL (viewA 8 H) zs = some [.agg [.sl n (enc (mkN k n))], i6 k]) (ho : noOwns zs = true ∨ nosl (i6 (k + 3 * n)) = true) (hK : K (i6 (k + 3 * n)) (.news [])) : @WCall' Go.Proofs.Tryd.prog S 12 zs H ⟨K⟩ :=
  WCall_pure hS (laws_heldPool_c n k hl hk hk2) hv ho (by simp) hK
end Go.Proofs.YtoegiepfcdkjaaaDoor.C

set_option linter.unusedVariables false
set_option linter.unusedSimpArgs false
set_option maxRecDepth 4000
namespace Go.Proofs.YtoegiepfcdkjaaaDoor.C
open Go.Sym Go.Proofs.YtoegiepfcdkjaaaDoor.I
theorem arg_tx {x : A} (h : FitA .tx x) : ∃ s : ByteArray, x = .str s ∧ s.size ≤ maxLen := by
  obtain ⟨s, e, h⟩ := (show Fit .tx [x] from h)
  exact ⟨s, by simpa using e, h⟩
theorem tpF_len (ns : List Nd) (tx : ByteArray) (h : ns.length ≤ 4294967296) : (tpF ns tx).1.length ≤ 4294967296 := by
  have key := poolF_len (tp_pool (ns := []) (tx := tx) (by simp [poolF, okFrom]))
  unfold tpF
  split
  · unfold orE
    split
    · exact h
    · simp
  · split
    · simp
    · rename_i g
      have hp : poolF ns = true := by simpa using g
      split
      · have := poolF_len (tp_pool hp (tx := tx))
        unfold allRF
        split
        · exact h
        · split <;> simp only <;> exact Nat.le_trans this (by omega)
      · exact h
theorem laws_FnExactTermParse_c (ns : List Nd) (tx : ByteArray) (ha : ns.length < 9223372036854775808) (hb : tx.size ≤ maxLen) : T 3 [aP ns, .str tx] [] (.bool true) ([]) := by
  refine semT' (S := (fun f => [11, 35].contains f)) hm laws_FnExactTermParse_ok (Nat.le_of_ble_eq_true rfl) ?_
  unfold laws_FnExactTermParse; dsimp only
  simp
  refine br_intro' (fun g => ?_) (fun g => ?_) <;> (have g0 := g) <;> simp only [decide_eq_true_eq, decide_eq_false_iff_not] at g <;> simp [g0]
  · exact LeV.ro rfl rfl rfl
  have hs : tx.size ≤ 281474976710656 := by omega
  clear g g0
  refine laws_szPool_call (ns := ns) (x := 1048576) ha (by omega) (by omega) rfl ?_; simp
  refine br_intro' (fun g => ?_) (fun g => ?_) <;> simp only [decide_eq_true_eq, decide_eq_false_iff_not, szF_neg] at g <;> simp [szF_neg, g]
  · exact LeV.ro rfl rfl rfl
  have hl : ns.length ≤ 4294967296 := by omega
  refine laws_toPool_k (ns := ns) hl rfl (by simp) (by simp [noslBlks]) ?_; simp [shiftB]
  refine spec_TermParse_k (ns := ns) (tx := tx) hl hs rfl (by simp) (by simp [noslBlks]) ?_; simp [shiftB]
  first | (refine ck_intro' (by kernel_rfl) ?_; try simp) | skip
  refine laws_toPool_k (ns := ns) hl rfl (by simp) (by simp [noslBlks]) ?_; simp [shiftB]
  refine impl_TermParse_k (ns := ns) (tx := tx) hl hs rfl (by simp) (by simp [noslBlks]) ?_; simp [shiftB]
  first | (refine ck_intro' (by kernel_rfl) ?_; try simp) | skip
  have hR := tpF_len ns tx hl
  refine laws_eqPool_k (ns := (tpF ns tx).1) (ms := (tpF ns tx).1) (by omega) (by omega) rfl (by simp) (by simp [noslBlks]) ?_; simp [shiftB]
  first | (refine ck_intro' (by kernel_rfl) ?_; try simp) | skip
  refine laws_toPool_k (ns := ns) hl rfl (by simp) (by simp [noslBlks]) ?_; simp [shiftB]
  refine laws_eqPool_k (ns := ns) (ms := ns) (by omega) (by omega) rfl (by simp) (by simp [noslBlks]) ?_; simp [shiftB]
  first | (refine ck_intro' (by kernel_rfl) ?_; try simp) | skip
  refine WCall_t' rfl [4] (laws_markPool_m _ 4 ns.length false ns 1 (by simp) (by simp) hl (by omega) (by omega) (by simp)) (by simp) (fun b hb _ => by simp at hb; rw [List.getElem?_set_ne (Ne.symm hb)]) ?_; simp
  have k1 : ¬ 1 + 3 * (ns.length : Int) < 0 := by omega
  have k2 : ¬ 1 + 3 * ((tpF ns tx).1.length : Int) < 0 := by omega
  simp [k1]
  refine laws_eqPool_k (ns := (tpF ns tx).1) (ms := (tpF ns tx).1) (by omega) (by omega) rfl (by simp) (by simp [noslBlks]) ?_; simp [shiftB]
  first | (refine ck_intro' (by kernel_rfl) ?_; try simp) | skip
  refine WCall_t' rfl [6] (laws_markPool_m _ 6 (tpF ns tx).1.length (decide ((tpF ns tx).1 = [])) (tpF ns tx).1 1 (by simp) (by simp) (by omega) (by omega) (by omega) (by simp)) (by simp) (fun b hb _ => by simp at hb; rw [List.getElem?_set_ne (Ne.symm hb)]) ?_; simp
  refine laws_heldPool_k (n := (tpF ns tx).1.length) (k := 1) (by omega) (by omega) (by omega) rfl (by simp) (by simp [noslBlks]) ?_; simp [shiftB]
  simp [k2]
  refine laws_toPool_k (ns := ns) hl rfl (by simp) (by simp [noslBlks]) ?_; simp [shiftB]
  refine impl_TermParse_k (ns := ns) (tx := tx) hl hs rfl (by simp) (by simp [noslBlks]) ?_; simp [shiftB]
  first | (refine ck_intro' (by kernel_rfl) ?_; try simp) | skip
  refine laws_eqPool_k (ns := (tpF ns tx).1) (ms := (tpF ns tx).1) (by omega) (by omega) rfl (by simp) (by simp [noslBlks]) ?_; simp [shiftB]
  first | (refine ck_intro' (by kernel_rfl) ?_; try simp) | skip
  refine laws_heldPool_k (n := (tpF ns tx).1.length) (k := 1) (by omega) (by omega) (by omega) rfl (by simp) (by simp [noslBlks]) ?_; simp [shiftB]
  simp [k2]
  exact LeV.ro rfl rfl rfl
end Go.Proofs.YtoegiepfcdkjaaaDoor.C
