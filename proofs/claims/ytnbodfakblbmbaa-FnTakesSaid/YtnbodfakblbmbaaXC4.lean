/- What links and their words answer, in the program: methods that write. Conditions: those that each theorem names. -/
import Derived.Test.YtnbodfakblbmbaaXC3
set_option linter.unusedVariables false
set_option linter.unusedSimpArgs false
namespace Go.Proofs.Ytnbodfakblbmbaa.C
open Go.Sym Go.Proofs.Ytnbodfakblbmbaa.I
theorem pset_pset {H : List Blk} {b off nb : Nat} {cb : List A} (h : PIn H b off nb cb) (vb eb : Nat) (ns ns' : List Nd) : pset (pset H b off nb vb eb cb ns) b off nb vb eb cb ns' = pset H b off nb vb eb cb ns' := by
  simp only [pset]
  rw [List.set_comm _ _ h.ne, List.set_set, List.set_set]
theorem pset_other {H : List Blk} {b off nb : Nat} {cb : List A} (vb eb : Nat) (ns : List Nd) {q : Nat} (h1 : q ≠ b) (h2 : q ≠ nb) : (pset H b off nb vb eb cb ns)[q]? = H[q]? := by
  simp only [pset]
  rw [List.getElem?_set_ne (Ne.symm h1), List.getElem?_set_ne (Ne.symm h2)]
theorem PIn.pset {H : List Blk} {b off nb : Nat} {cb : List A} (h : PIn H b off nb cb) (vb eb : Nat) (ns : List Nd) : PIn (C.pset H b off nb vb eb cb ns) b off nb cb :=
  ⟨by simpa using h.blt, by simpa using h.nlt, h.ne, h.olt, by simpa using h.closed vb eb ns, by simpa using h.inc, h.rest⟩
theorem addF_len (ns : List Nd) (n : Nd) (h : ns.length ≤ 500) : (addF ns n).1.length ≤ 500 := by
  unfold addF
  split
  · exact h
  · split
    · exact h
    · split
      · exact h
      · simp; omega
/-- A method that turns a pool, called where a pool stands. -/
theorem pool_call {f : FuncId} {S : FuncId → Bool} {G : List Blk} {K : A → Dl → Prop} (hS : S f = true) (b off nb vb eb : Nat) (cb : List A) (ns ns' : List Nd) {zs : List A} {r : A} (h : PIn G b off nb cb) (hG : pset G b off nb vb eb cb ns = G)
    (hf : T f zs (pset G b off nb vb eb cb ns) r (pset G b off nb vb eb cb ns')) (hK : K r (.full [nb, b] (pset G b off nb vb eb cb ns'))) : @WCall' Go.Proofs.Try.prog S f zs G ⟨K⟩ := by
  rw [hG] at hf
  refine WCall_t' hS [nb, b] hf (by simp) (fun q hq _ => ?_) hK
  simp at hq
  exact pset_other vb eb ns' hq.2 hq.1
theorem impl_Pool_name_m (H : List Blk) (b off nb vb eb : Nat) (cb : List A) (ns : List Nd) (x : Int) (h : PIn H b off nb cb) (hl : ns.length ≤ 500) : T 77 [.ptr b vb off, i6 x] (pset H b off nb vb eb cb ns) (i6 (addF ns ⟨1, x, 0⟩).2) (pset H b off nb vb eb cb (addF ns ⟨1, x, 0⟩).1) := by
  refine semT' (S := (fun f => [76].contains f)) hm impl_Pool_name_ok (Nat.le_of_ble_eq_true rfl) ?_
  unfold impl_Pool_name; dsimp only
  simp
  refine pool_call rfl b off nb vb eb cb ns (addF ns ⟨1, x, 0⟩).1 (h.pset vb eb ns) (pset_pset h vb eb ns ns) (by rw [pset_pset h, pset_pset h]; exact impl_Pool_add_m H b off nb vb eb cb ns 1 x 0 h hl) ?_
  simp [pset_pset h]
  exact LeV.refl _ _ _
/-- What a link's word comes to. -/
def sealF (ns : List Nd) (key seq t : Int) : List Nd × Int :=
  let p := addF ns ⟨1, IntKind.i64.wrap (20 + seq), 0⟩
  let q := addF p.1 ⟨2, p.2, t⟩
  addF q.1 ⟨3, q.2, key⟩
theorem sealF_len (ns : List Nd) (key seq t : Int) (h : ns.length ≤ 500) : (sealF ns key seq t).1.length ≤ 500 := addF_len _ _ (addF_len _ _ (addF_len _ _ h))
theorem impl_Link_seal_m (H : List Blk) (b off nb vb eb : Nat) (cb : List A) (ns : List Nd) (lb vl el : Nat) (key ep sq : Int) (ov : Bool) (t : Int) (h : PIn H b off nb cb) (hl : ns.length ≤ 500) (h1 : lb ≠ b) (h2 : lb ≠ nb) (hL : H[lb]? = some ⟨vl, false, el, [i6 key, i6 ep, i6 sq, .bool ov], none⟩) : T 81 [.ptr lb vl 0, .ptr b vb off, i6 t] (pset H b off nb vb eb cb ns) (i6 (sealF ns key sq t).2) (pset H b off nb vb eb cb (sealF ns key sq t).1) := by
  refine semT' (S := (fun f => [76, 77].contains f)) hm impl_Link_seal_ok (Nat.le_of_ble_eq_true rfl) ?_
  unfold impl_Link_seal; dsimp only
  have gL : ∀ ns, (pset H b off nb vb eb cb ns)[lb]? = _ := fun ns => (pset_other vb eb ns h1 h2).trans hL
  simp [gL]
  refine pool_call rfl b off nb vb eb cb ns (addF ns ⟨1, IntKind.i64.wrap (20 + sq), 0⟩).1 (h.pset vb eb ns) (pset_pset h vb eb ns ns) (by rw [pset_pset h, pset_pset h]; exact impl_Pool_name_m H b off nb vb eb cb ns _ h hl) ?_
  simp [pset_pset h, gL]
  have hl1 := addF_len ns ⟨1, IntKind.i64.wrap (20 + sq), 0⟩ hl
  generalize hA : addF ns ⟨1, IntKind.i64.wrap (20 + sq), 0⟩ = A1 at hl1 ⊢
  refine pool_call rfl b off nb vb eb cb A1.1 (addF A1.1 ⟨2, A1.2, t⟩).1 (h.pset vb eb _) (pset_pset h vb eb _ _) (by rw [pset_pset h, pset_pset h]; exact impl_Pool_add_m H b off nb vb eb cb A1.1 2 A1.2 t h hl1) ?_
  simp [pset_pset h, gL]
  have hl2 := addF_len A1.1 ⟨2, A1.2, t⟩ hl1
  generalize hB : addF A1.1 ⟨2, A1.2, t⟩ = A2 at hl2 ⊢
  refine pool_call rfl b off nb vb eb cb A2.1 (addF A2.1 ⟨3, A2.2, key⟩).1 (h.pset vb eb _) (pset_pset h vb eb _ _) (by rw [pset_pset h, pset_pset h]; exact impl_Pool_add_m H b off nb vb eb cb A2.1 3 A2.2 key h hl2) ?_
  simp [pset_pset h, gL]
  refine ck_intro' (regOk_ren (fun n => if n = lb then 0 else 1) (by simp [h1.symm, h2.symm]; kernel_rfl)) ?_; simp
  have e : A2 = addF A1.1 ⟨2, A1.2, t⟩ := hB.symm
  subst hA hB
  exact LeV.refl _ _ _
end Go.Proofs.Ytnbodfakblbmbaa.C
