/- What copying a pool and adding to it answer, in the reference and in the program. Conditions: those that each theorem names. -/
import Derived.Test.YtcfgiffgahdlbaaXC1b
set_option linter.unusedVariables false
set_option linter.unusedSimpArgs false
namespace Go.Proofs.Ytcfgiffgahdlbaa.C
open Go.Sym Go.Proofs.Ytcfgiffgahdlbaa.I
abbrev pblk (ns : List Nd) : Blk := ⟨ns.length, decide (ns.length = 0), 3, enc ns, none⟩
abbrev pref (b : Nat) (ns : List Nd) : A := .ref b ns.length 0 ns.length
@[simp] theorem enc_take (ns : List Nd) : (enc ns).take (ns.length * 3) = enc ns := List.take_of_length_le (by simp)
@[simp] theorem enc_nil : enc [] = [] := rfl
theorem enc_snoc (ns : List Nd) (n : Nd) : enc (ns ++ [n]) = enc ns ++ [i6 n.k, i6 n.a, i6 n.b] := by simp [enc, encN]
mutual
theorem inA_mono {n m : Nat} (h : n ≤ m) : ∀ (x : A), inA n x = true → inA m x = true
  | .bool _, _ => rfl
  | .int _ _, _ => rfl
  | .str _, _ => rfl
  | .nil, _ => rfl
  | .nilp, _ => rfl
  | .ub, _ => rfl
  | .stamp _ _ _ _, g => by simp [inA] at g ⊢; omega
  | .ref b _ _ _, g => by simp [inA] at g ⊢; omega
  | .ptr b _ _, g => by simp [inA] at g ⊢; omega
  | .mref b _, g => by simp [inA] at g ⊢; omega
  | .sl _ cs, g => by simp only [inA] at g ⊢; first | exact g | exact inAs_mono h cs g
  | .pt cs, g => by simp only [inA] at g ⊢; first | exact g | exact inAs_mono h cs g
  | .fn _ cs, g => by simp only [inA] at g ⊢; exact inAs_mono h cs g
  | .agg cs, g => by simp only [inA] at g ⊢; exact inAs_mono h cs g
  | .tup cs, g => by simp only [inA] at g ⊢; exact inAs_mono h cs g
theorem inAs_mono {n m : Nat} (h : n ≤ m) : ∀ (xs : List A), inAs n xs = true → inAs m xs = true
  | [], _ => rfl
  | x :: xs, g => by
    simp only [inAs, Bool.and_eq_true] at g ⊢
    exact ⟨inA_mono h x g.1, inAs_mono h xs g.2⟩
end
theorem Closed1_mono {n m : Nat} (h : n ≤ m) : ∀ (H : List Blk), Closed1 n H = true → Closed1 m H = true
  | [], _ => rfl
  | k :: H, g => by
    simp only [Closed1_cons, Bool.and_eq_true] at g ⊢
    exact ⟨inAs_mono h _ g.1, Closed1_mono h H g.2⟩
theorem Closed1_app {n : Nat} {T : List Blk} (g : Closed1 n T = true) : ∀ (H : List Blk), Closed1 n H = true → Closed1 n (H ++ T) = true
  | [], _ => g
  | k :: H, h => by
    simp only [List.cons_append, Closed1_cons, Bool.and_eq_true] at h ⊢
    exact ⟨h.1, Closed1_app g H h.2⟩
theorem Closed1_more {H T : List Blk} (h : Closed1 H.length H = true) (g : Closed1 (H.length + T.length) T = true) : Closed1 (H ++ T).length (H ++ T) = true := by
  rw [List.length_append]
  exact Closed1_app g _ (Closed1_mono (by omega) _ h)
theorem Closed1_box {H : List Blk} {k : Blk} (h : Closed1 H.length H = true) (g : inAs (H.length + 1) k.cs = true) : Closed1 (H ++ [k]).length (H ++ [k]) = true := by
  rw [List.length_append]
  exact Closed1_app (by simpa using g) _ (Closed1_mono (by simp) _ h)
theorem spec_l1Copy_c (ns : List Nd) (hl : ns.length ≤ 4294967296) : T 98 [aP ns] [] (.agg [pref 0 ns]) ([pblk ns]) := by
  refine semT' (S := S0) hm spec_l1Copy_ok (Nat.le_of_ble_eq_true rfl) ?_
  unfold spec_l1Copy; dsimp only
  have h1 : ((ns.length : Int)) * 24 ≤ 17592186044416 := by omega
  have h2 : (ns.length : Int) ≤ 4294967296 := by omega
  by_cases h0 : ns = []
  · subst h0
    simp
    first | (refine LeV.tell [none] ?_ ?_ ?_ <;> (simp; done)) | (refine LeV.tell [some 0] ?_ ?_ ?_ <;> (simp; done)) | (refine LeV.tell [some 1] ?_ ?_ ?_ <;> (simp; done)) | (refine LeV.tell [some 2] ?_ ?_ ?_ <;> (simp; done)) | (refine LeV.tell [some 3] ?_ ?_ ?_ <;> (simp; done)) | (refine LeV.tell [some 4] ?_ ?_ ?_ <;> (simp; done)) | (refine LeV.tell [some 5] ?_ ?_ ?_ <;> (simp; done)) | (refine LeV.tell [some 6] ?_ ?_ ?_ <;> (simp; done)) | (refine LeV.tell [some 7] ?_ ?_ ?_ <;> (simp; done)) | (refine LeV.tell [some 8] ?_ ?_ ?_ <;> (simp; done)) | (refine LeV.tell [some 9] ?_ ?_ ?_ <;> (simp; done)) | (refine LeV.tell [some 10] ?_ ?_ ?_ <;> (simp; done)) | (refine LeV.tell [some 11] ?_ ?_ ?_ <;> (simp; done)) | (refine LeV.tell [some 12] ?_ ?_ ?_ <;> (simp; done)) | (refine LeV.tell [some 13] ?_ ?_ ?_ <;> (simp; done)) | (refine LeV.tell [some 14] ?_ ?_ ?_ <;> (simp; done)) | (refine LeV.tell [some 15] ?_ ?_ ?_ <;> (simp; done))
  · simp [h0]
    refine ck_intro' (by omega) ?_; simp [h0]
    first | (refine LeV.tell [none] ?_ ?_ ?_ <;> (simp [h0]; done)) | (refine LeV.tell [some 0] ?_ ?_ ?_ <;> (simp [h0]; done)) | (refine LeV.tell [some 1] ?_ ?_ ?_ <;> (simp [h0]; done)) | (refine LeV.tell [some 2] ?_ ?_ ?_ <;> (simp [h0]; done)) | (refine LeV.tell [some 3] ?_ ?_ ?_ <;> (simp [h0]; done)) | (refine LeV.tell [some 4] ?_ ?_ ?_ <;> (simp [h0]; done)) | (refine LeV.tell [some 5] ?_ ?_ ?_ <;> (simp [h0]; done)) | (refine LeV.tell [some 6] ?_ ?_ ?_ <;> (simp [h0]; done)) | (refine LeV.tell [some 7] ?_ ?_ ?_ <;> (simp [h0]; done)) | (refine LeV.tell [some 8] ?_ ?_ ?_ <;> (simp [h0]; done)) | (refine LeV.tell [some 9] ?_ ?_ ?_ <;> (simp [h0]; done)) | (refine LeV.tell [some 10] ?_ ?_ ?_ <;> (simp [h0]; done)) | (refine LeV.tell [some 11] ?_ ?_ ?_ <;> (simp [h0]; done)) | (refine LeV.tell [some 12] ?_ ?_ ?_ <;> (simp [h0]; done)) | (refine LeV.tell [some 13] ?_ ?_ ?_ <;> (simp [h0]; done)) | (refine LeV.tell [some 14] ?_ ?_ ?_ <;> (simp [h0]; done)) | (refine LeV.tell [some 15] ?_ ?_ ?_ <;> (simp [h0]; done))
theorem spec_l1Copy_k {ns : List Nd} (hl : ns.length ≤ 4294967296) {S : FuncId → Bool} {H : List Blk} {K : A → Dl → Prop} {zs : List A} (hS : S 98 = false) (hv : viewL (viewA 8 H) zs = some [aP ns]) (ho : noOwns zs = true ∨ nosl (.agg [pref 0 ns]) = true ∧ noslBlks ([pblk ns]) = true) (hK : K (shiftA H.length (.agg [pref 0 ns])) (.news (([pblk ns]).map (shiftB H.length)))) : @WCall' Go.Proofs.Try.prog S 98 zs H ⟨K⟩ :=
  WCall_ro' hS hv (spec_l1Copy_c ns hl) rfl ho hK
theorem slices_Index_Node_c (ns : List Nd) (n : Nd) (hl : ns.length < 9223372036854775807) : T 112 [.sl ns.length (enc ns), aN n] [] (i6 (findF ns n 0)) ([]) := by
  refine semT' (S := S0) hm slices_Index_Node_ok (Nat.le_of_ble_eq_true rfl) ?_
  unfold slices_Index_Node; dsimp only
  simp
  refine WLoop_fam (fun j : Nat => [(0, A.sl ns.length (enc ns)), (3, A.ptr 0 0 0), (7, i6 ns.length), (8, i6 j)]) (fun _ => [⟨0, false, 1, [i6 n.k, i6 n.a, i6 n.b], none⟩]) (fun j => ns.length - j)
    (fun j => j ≤ ns.length ∧ findF ns n 0 = findF (ns.drop j) n j) ?_ 0 ⟨Nat.zero_le _, rfl⟩
  intro j ⟨hj, hf⟩ ih
  simp
  refine br_intro' (fun h => ?_) (fun h => ?_) <;> (have h0 := h) <;> (try simp at h) <;> try simp [h0, h]
  · obtain ⟨r, hr⟩ := enc_at h
    have h3 : 3 ≤ ns.length * 3 - j * 3 := by omega
    have hd : ns.drop j = ns[j] :: ns.drop (j + 1) := List.drop_eq_getElem_cons h
    have hw : IntKind.i64.wrap ((j : Int) + 1) = j + 1 := wrap64 (by omega) (by omega)
    have h' := h
    simp [h3, hr, h']
    first | (refine ck_intro' (by kernel_rfl) ?_; try simp) | skip
    refine br_intro' (fun h => ?_) (fun h => ?_) <;> (have h0 := h) <;> (try simp at h) <;> try simp [h0, h, hr]
    · exact LeV.ro rfl rfl (by rw [hf, hd, findF, if_pos (by rw [Nd_eq]; simp [h])]; rfl)
    · rw [hw]
      refine ih (j + 1) ⟨h', ?_⟩ (by omega)
      rw [hf, hd, findF, if_neg (by rw [Nd_eq]; rintro ⟨a, b, c⟩; exact h a.symm b.symm c.symm)]
      rfl
  · exact LeV.ro rfl rfl (by simp [hf, findF, List.drop_of_length_le h])
theorem slices_Index_Node_call {ns : List Nd} {n : Nd} (hl : ns.length < 9223372036854775807) {S : FuncId → Bool} {H : List Blk} {K : A → Dl → Prop} (hS : S 112 = false) (hK : K (i6 (findF ns n 0)) (.news [])) : @WCall' Go.Proofs.Try.prog S 112 [.sl ns.length (enc ns), aN n] H ⟨K⟩ :=
  WCall_pure hS (slices_Index_Node_c ns n hl) (by simp) (by simp) (by simp) hK
theorem slices_Index_Node_k {ns : List Nd} {n : Nd} (hl : ns.length < 9223372036854775807) {S : FuncId → Bool} {H : List Blk} {K : A → Dl → Prop} {zs : List A} (hS : S 112 = false) (hv : viewL (viewA 8 H) zs = some [.sl ns.length (enc ns), aN n]) (ho : noOwns zs = true ∨ nosl (i6 (findF ns n 0)) = true) (hK : K (i6 (findF ns n 0)) (.news [])) : @WCall' Go.Proofs.Try.prog S 112 zs H ⟨K⟩ :=
  WCall_pure hS (slices_Index_Node_c ns n hl) hv ho (by simp) hK
theorem impl_Pool_find_c (ns : List Nd) (r : List A) (n : Nd) (hl : ns.length < 9223372036854775807) : T 110 [.pt (.sl ns.length (enc ns) :: r), aN n] [] (i6 (findF ns n 0)) ([]) := by
  refine semT' (S := S0) hm impl_Pool_find_ok (Nat.le_of_ble_eq_true rfl) ?_
  unfold impl_Pool_find; dsimp only
  simp
  refine slices_Index_Node_k (ns := ns) (n := n) hl rfl (by simp) (by simp [noslBlks]) ?_; simp [shiftB]
  first | (refine ck_intro' (by kernel_rfl) ?_; try simp) | skip
  exact LeV.ro rfl rfl rfl
theorem impl_Pool_find_k {ns : List Nd} {r : List A} {n : Nd} (hl : ns.length < 9223372036854775807) {S : FuncId → Bool} {H : List Blk} {K : A → Dl → Prop} {zs : List A} (hS : S 110 = false) (hv : viewL (viewA 8 H) zs = some [.pt (.sl ns.length (enc ns) :: r), aN n]) (ho : noOwns zs = true ∨ nosl (i6 (findF ns n 0)) = true) (hK : K (i6 (findF ns n 0)) (.news [])) : @WCall' Go.Proofs.Try.prog S 110 zs H ⟨K⟩ :=
  WCall_pure hS (impl_Pool_find_c ns r n hl) hv ho (by simp) hK
/-- A node as it stands: a shared one with the lesser part first. -/
def normN (n : Nd) : Nd := if n.k = 8 then ⟨8, if n.b < n.a then n.b else n.a, if n.a < n.b then n.b else n.a⟩ else n
/-- What adding a node to a right pool comes to. -/
def addF (ns : List Nd) (n : Nd) : List Nd × Int :=
  if rightF (normN n) ns.length = false then (ns, -1)
  else if 0 ≤ findF ns (normN n) 0 then (ns, findF ns (normN n) 0)
  else if 500 ≤ ns.length then (ns, -1)
  else (ns ++ [normN n], ns.length)
/-- A heap in which a pool stands: its row nb, and what names it at place off of row b. -/
def pset (H : List Blk) (b off nb vb eb : Nat) (cb : List A) (ns : List Nd) : List Blk := (H.set nb (pblk ns)).set b ⟨vb, false, eb, cb.set off (pref nb ns), none⟩
structure PIn (H : List Blk) (b off nb : Nat) (cb : List A) : Prop where
  blt : b < H.length
  nlt : nb < H.length
  ne : b ≠ nb
  olt : off < cb.length
  cl : Closed1 H.length H = true
  inc : inAs H.length cb = true
  rest : ∃ r, ∀ G, viewL (viewA 7 G) (cb.drop (off + 1)) = some r
@[simp] theorem pset_len (H : List Blk) (b off nb vb eb : Nat) (cb : List A) (ns : List Nd) : (pset H b off nb vb eb cb ns).length = H.length := by simp [pset]
section
variable {H : List Blk} {b off nb : Nat} {cb : List A} (h : PIn H b off nb cb) (vb eb : Nat) (ns : List Nd)
include h
theorem PIn.at_b : (pset H b off nb vb eb cb ns)[b]? = some ⟨vb, false, eb, cb.set off (pref nb ns), none⟩ := by simp [pset, h.blt]
theorem PIn.at_nb : (pset H b off nb vb eb cb ns)[nb]? = some (pblk ns) := by simp [pset, h.ne, h.nlt]
theorem PIn.closed : Closed1 H.length (pset H b off nb vb eb cb ns) = true := by
  refine Closed1_set ?_ _ _ (Closed1_set (by simp) _ _ h.cl)
  exact inAs_set (by simpa using h.nlt) _ _ h.inc
theorem PIn.set (ns' : List Nd) : ((pset H b off nb vb eb cb ns).set nb (pblk ns')).set b ⟨vb, false, eb, (cb.set off (pref nb ns)).set off (pref nb ns'), none⟩ = pset H b off nb vb eb cb ns' := by
  simp only [pset, List.set_set]
  rw [List.set_comm _ _ h.ne, List.set_set, List.set_set]
end
end Go.Proofs.Ytcfgiffgahdlbaa.C
