/- What links and their words answer, in the program: methods that write. Conditions: those that each theorem names. -/
import Derived.Test.YtcfgiffgahdlbaaXC3
set_option linter.unusedVariables false
set_option linter.unusedSimpArgs false
namespace Go.Proofs.Ytcfgiffgahdlbaa.C
open Go.Sym Go.Proofs.Ytcfgiffgahdlbaa.I
theorem pset_pset {H : List Blk} {b off nb : Nat} {cb : List A} (h : PIn H b off nb cb) (vb eb : Nat) (ns ns' : List Nd) : pset (pset H b off nb vb eb cb ns) b off nb vb eb cb ns' = pset H b off nb vb eb cb ns' := by
  simp only [pset]
  rw [List.set_comm _ _ h.ne, List.set_set, List.set_set]
theorem pset_other {H : List Blk} {b off nb : Nat} {cb : List A} (vb eb : Nat) (ns : List Nd) {q : Nat} (h1 : q ≠ b) (h2 : q ≠ nb) : (pset H b off nb vb eb cb ns)[q]? = H[q]? := by
  simp only [pset]
  rw [List.getElem?_set_ne (Ne.symm h1), List.getElem?_set_ne (Ne.symm h2)]
theorem PIn.pset {H : List Blk} {b off nb : Nat} {cb : List A} (h : PIn H b off nb cb) (vb eb : Nat) (ns : List Nd) : PIn (C.pset H b off nb vb eb cb ns) b off nb cb :=
  ⟨by simpa using h.blt, by simpa using h.nlt, h.ne, h.olt, by simpa using h.closed vb eb ns, by simpa using h.inc, h.rest⟩
theorem addF_len (ns : List Nd) (n : Nd) (h : ns.length ≤ 500) : (addF ns n).1.length ≤ 500 := by
  unfold addF
  split
  · exact h
  · split
    · exact h
    · split
      · exact h
      · simp; omega
/-- A method that turns a pool, called where a pool stands. -/
theorem pool_call {f : FuncId} {S : FuncId → Bool} {G : List Blk} {K : A → Dl → Prop} (hS : S f = true) (b off nb vb eb : Nat) (cb : List A) (ns ns' : List Nd) {zs : List A} {r : A} (h : PIn G b off nb cb) (hG : pset G b off nb vb eb cb ns = G)
    (hf : T f zs (pset G b off nb vb eb cb ns) r (pset G b off nb vb eb cb ns')) (hK : K r (.full [nb, b] (pset G b off nb vb eb cb ns'))) : @WCall' Go.Proofs.Try.prog S f zs G ⟨K⟩ := by
  rw [hG] at hf
  refine WCall_t' hS [nb, b] hf (by simp) (fun q hq _ => ?_) hK
  simp at hq
  exact pset_other vb eb ns' hq.2 hq.1
/-- What a link's word comes to. -/
def sealF (ns : List Nd) (key seq t : Int) : List Nd × Int :=
  let p := addF ns ⟨1, IntKind.i64.wrap (20 + seq), 0⟩
  let q := addF p.1 ⟨2, p.2, t⟩
  addF q.1 ⟨3, q.2, key⟩
theorem sealF_len (ns : List Nd) (key seq t : Int) (h : ns.length ≤ 500) : (sealF ns key seq t).1.length ≤ 500 := addF_len _ _ (addF_len _ _ (addF_len _ _ h))
end Go.Proofs.Ytcfgiffgahdlbaa.C
