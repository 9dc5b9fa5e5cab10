/- The recipe of a proof, in the program. Conditions: those that each theorem names. -/
import Derived.Test.YtijileoflejgpaaDoorXE8L4
set_option linter.unusedVariables false
set_option linter.unusedSimpArgs false
set_option maxRecDepth 4000
namespace Go.Proofs.YtijileoflejgpaaDoor.C
open Go.Sym Go.Proofs.YtijileoflejgpaaDoor.I
/-- The texts that are not too long, and which are too long. -/
def keepT (x : ByteArray) : ByteArray := if 2000 < x.size then ⟨#[]⟩ else x
def longT (x : ByteArray) : Bool := decide (2000 < x.size)
def imT (S : List ByteArray) (n : Nat) : List ByteArray := S.map keepT ++ List.replicate (n - S.length) ⟨#[]⟩
def imL (S : List ByteArray) (n : Nat) : List Bool := S.map longT ++ List.replicate (n - S.length) false
theorem imT_len {S : List ByteArray} {n : Nat} (h : S.length ≤ n) : (imT S n).length = n := by simp [imT]; omega
theorem imL_len {S : List ByteArray} {n : Nat} (h : S.length ≤ n) : (imL S n).length = n := by simp [imL]; omega
theorem imT_set {S : List ByteArray} {n : Nat} (h : S.length < n) (x : ByteArray) : (imT S n).set S.length (keepT x) = imT (S ++ [x]) n := by
  have e : n - S.length = (n - (S.length + 1)) + 1 := by omega
  simp only [imT, List.map_append, List.length_append, List.length_singleton, List.map_cons, List.map_nil]
  rw [List.set_append_right _ _ (by simp), e, List.replicate_succ]
  simp
theorem imL_set {S : List ByteArray} {n : Nat} (h : S.length < n) (x : ByteArray) : (imL S n).set S.length (longT x) = imL (S ++ [x]) n := by
  have e : n - S.length = (n - (S.length + 1)) + 1 := by omega
  simp only [imL, List.map_append, List.length_append, List.length_singleton, List.map_cons, List.map_nil]
  rw [List.set_append_right _ _ (by simp), e, List.replicate_succ]
  simp
theorem imT_same {S : List ByteArray} {n : Nat} (h : S.length < n) {x : ByteArray} (hx : 2000 < x.size) : imT (S ++ [x]) n = imT S n := by
  rw [← imT_set h]
  have e : keepT x = ⟨#[]⟩ := if_pos hx
  apply List.ext_getElem?
  intro i
  by_cases hi : i = S.length
  · subst hi
    rw [List.getElem?_set_self (by rw [imT_len (by omega)]; exact h), e]
    simp only [imT]
    rw [List.getElem?_append_right (by simp), List.getElem?_replicate, if_pos (by simp; omega)]
  · rw [List.getElem?_set_ne (Ne.symm hi)]
theorem imT_at {S : List ByteArray} {n a : Nat} (h : a < S.length) : txAt (imT S n) a = keepT (txAt S a) := by
  simp [txAt, imT, List.getElem?_append_left (show a < (S.map keepT).length by simpa using h), h]
theorem imL_at {S : List ByteArray} {n a : Nat} (h : a < S.length) : (imL S n)[a]? = some (longT (txAt S a)) := by
  simp [txAt, imL, List.getElem?_append_left (show a < (S.map longT).length by simpa using h), h]
theorem imT_size {S : List ByteArray} {n : Nat} : ∀ x ∈ imT S n, x.size ≤ 2000 := by
  intro x hx
  simp only [imT, List.mem_append, List.mem_map] at hx
  rcases hx with ⟨y, _, rfl⟩ | hx
  · unfold keepT
    split
    · exact Nat.zero_le _
    · omega
  · rw [List.eq_of_mem_replicate hx]; exact Nat.zero_le _
theorem keepT_cut (x : ByteArray) : keepT (cutB x) = if 2000 < x.size then ⟨#[]⟩ else x := by
  unfold keepT
  by_cases h : 2000 < x.size
  · rw [if_pos ((cutB_big x).2 h), if_pos h]
  · rw [if_neg (fun g => h ((cutB_big x).1 g)), if_neg h]
    exact if_neg h
theorem longT_cut (x : ByteArray) : longT (cutB x) = decide (2000 < x.size) := by
  unfold longT
  exact decide_eq_decide.2 (cutB_big x)
theorem impl_RecipeOf_c (ns : List Nd) (ks : List Int) (ss : List Sp) (hl : ns.length < 9223372036854775807) (hk : ks.length < 9223372036854775807) (hls : ss.length < 9223372036854775807) : T 10 [aP ns, aI ks, aSs ss] [] (.tup [.str (recipeF ns ks ss).1, .bool (recipeF ns ks ss).2]) ([]) := by
  refine semT' (S := S0) hm impl_RecipeOf_ok (Nat.le_of_ble_eq_true rfl) ?_
  unfold impl_RecipeOf; dsimp only
  have hwl := wrap_len (n := ss.length) (by omega)
  simp [hwl]
  refine br_intro' (fun u => ?_) (fun u => ?_) <;> (have u0 := u) <;> simp only [decide_eq_true_eq, decide_eq_false_iff_not] at u <;> simp [u0]
  · have : ss = [] := List.eq_nil_of_length_eq_zero (by omega)
    repeat (refine ck_intro' (by first | omega | (simp; omega) | kernel_rfl) ?_; try simp)
    exact LeV.ro rfl rfl (by simp [recipeF, this])
  have hne : ss ≠ [] := fun e => u (by rw [e]; decide)
  have hpos : 0 < ss.length := List.length_pos_iff.2 hne
  refine ck_intro' (by omega) ?_
  have hlast := (encS_gets (ns := ss) (j := ss.length - 1) (by omega)).2.1
  simp [hlast]
  refine impl_ProofCheck_k (ns := ns) (ks := ks) (ss := ss) (t := ss[ss.length - 1].t) hl hk hls rfl (by simp) (by simp [noslBlks]) ?_; simp [shiftB]
  have hck : checkF ns ks ss ss[ss.length - 1].t = proofF ns ks ss := by
    simp only [checkF, spAt_lt (show ss.length - 1 < ss.length by omega)]
    simp [hne]
  rw [hck]
  repeat (refine ck_intro' (by first | omega | (simp; omega) | kernel_rfl) ?_; try simp)
  refine br_intro' (fun g => ?_) (fun g => ?_) <;> (have g0 := g) <;> simp [g]
  rotate_left
  · exact LeV.ro rfl rfl (by simp [recipeF, g])
  have h5 : ss.length ≤ 500 := by simp [proofF] at g; omega
  refine ck_intro' (by omega) ?_; simp
  refine ck_intro' (by omega) ?_; simp
  have e0 : List.replicate ss.length (A.str ⟨#[]⟩) = strs (imT (txGo ns ks ss 0) ss.length) := by simp [imT, txGo, strs]
  have e1 : List.replicate ss.length (A.bool false) = bls (imL (txGo ns ks ss 0) ss.length) := by simp [imL, txGo, bls]
  rw [e0, e1]
  refine WLoop_fam (fun j : Nat => [(1, aI ks), (3, A.ptr 0 0 0), (8, i6 ((ss.length : Int) - 1)), (9, A.ref 1 0 0 ss.length), (10, A.ref 2 0 0 ss.length), (38, aSs ss), (39, i6 ss.length), (40, i6 j)])
    (fun j => [⟨0, false, 1, [.sl ns.length (enc ns)], none⟩, ⟨0, false, 1, strs (imT (txGo ns ks ss j) ss.length), none⟩, ⟨0, false, 1, bls (imL (txGo ns ks ss j) ss.length), none⟩]) (fun j => ss.length - j) (fun j => j ≤ ss.length) ?_ 0 (Nat.zero_le _)
  intro j hj ih
  have htl := txGo_len ns ks ss j
  simp
  refine br_intro' (fun v => ?_) (fun v => ?_) <;> (have v0 := v) <;> simp only [decide_eq_true_eq, decide_eq_false_iff_not] at v <;> simp [v0]
  · have hlt : j < ss.length := by omega
    have hw := wrap_succ (n := j) (by omega)
    obtain ⟨r, hr⟩ := encS_at hlt
    have h4 : 4 ≤ ss.length * 4 - j * 4 := by omega
    have hsp := spAt_lt hlt
    have hTl := imT_len (S := txGo ns ks ss j) (n := ss.length) (by omega)
    have hLl := imL_len (S := txGo ns ks ss j) (n := ss.length) (by omega)
    have hfS := proof_fit g hlt (xs := txGo ns ks ss j) (by omega) (fun x hx => by have := txGo_size ns ks ss j x hx; omega)
    have hfI := proof_fit g hlt (xs := imT (txGo ns ks ss j) ss.length) (by omega) (fun x hx => by have := imT_size x hx; omega)
    have hp : poolF ns = true := by simp [proofF] at g; exact kpF_pool g.1.1
    simp [hlt, hr, h4]
    repeat (refine ck_intro' (by first | omega | (simp; omega) | kernel_rfl) ?_; try simp)
    refine WCall_pure rfl (impl_Pool_needs_c ns [] ss[j] hl hp hfS.t (by simp) (by simp)) (by simp) (by simp) (by simp) ?_; simp
    have la : ∀ (a : Nat), a < j → (bls (imL (txGo ns ks ss j) ss.length))[a]? = some (.bool (longT (txAt (txGo ns ks ss j) a))) := fun a ha => by
      rw [bls, List.getElem?_map, imL_at (by omega)]; rfl
    have lg : ∀ (a : Nat), a < j → ∀ (h : a < (imL (txGo ns ks ss j) ss.length).length), (imL (txGo ns ks ss j) ss.length)[a] = longT (txAt (txGo ns ks ss j) a) := fun a ha h => by
      have := imL_at (S := txGo ns ks ss j) (n := ss.length) (a := a) (by omega)
      rw [List.getElem?_eq_getElem h] at this
      exact Option.some.inj this
    have gs : ((bls (imL (txGo ns ks ss j) ss.length)).set j (A.bool false))[j]? = some (.bool false) := List.getElem?_set_self (by simp [hLl]; omega)
    obtain ⟨x, ex⟩ : ∃ x, recF ns ks ss[j] (txAt (txGo ns ks ss j) ss[j].a) (txAt (txGo ns ks ss j) ss[j].b) = x := ⟨_, rfl⟩
    have eS : txGo ns ks ss (j + 1) = txGo ns ks ss j ++ [cutB x] := by simp only [txGo, hsp, ex]
    have eL : ∀ v, decide (2000 < x.size) = v → (bls (imL (txGo ns ks ss j) ss.length)).set j (.bool v) = bls (imL (txGo ns ks ss (j + 1)) ss.length) := fun v h => by
      rw [bls_set, eS, ← h, ← longT_cut x]
      have := imL_set (S := txGo ns ks ss j) (n := ss.length) (by omega) (cutB x)
      rw [htl] at this
      rw [this]
    have eTk : 2000 < x.size → imT (txGo ns ks ss (j + 1)) ss.length = imT (txGo ns ks ss j) ss.length := fun h => by
      rw [eS]
      exact imT_same (by omega) ((cutB_big x).2 h)
    have eTs : ¬ 2000 < x.size → (strs (imT (txGo ns ks ss j) ss.length)).set j (.str x) = strs (imT (txGo ns ks ss (j + 1)) ss.length) := fun h => by
      have := imT_set (S := txGo ns ks ss j) (n := ss.length) (by omega) (cutB x)
      rw [htl, keepT_cut, if_neg h] at this
      rw [strs_set, this, eS]
    have hx : (0 < needsF ns ss[j] → longT (txAt (txGo ns ks ss j) ss[j].a) = false) → (1 < needsF ns ss[j] → longT (txAt (txGo ns ks ss j) ss[j].b) = false) → recF ns ks ss[j] (txAt (imT (txGo ns ks ss j) ss.length) ss[j].a) (txAt (imT (txGo ns ks ss j) ss.length) ss[j].b) = x := fun h1 h2 => by
      rw [← ex]
      refine rec_congr ks hfS.n hfS.m (fun g1 => ?_) (fun g2 => ?_)
      · obtain ⟨a, ea, ha⟩ := hfS.a g1
        have := h1 g1
        rw [ea] at this ⊢
        rw [imT_at ha]
        simp only [longT, decide_eq_false_iff_not] at this
        exact if_neg this
      · obtain ⟨a, ea, ha⟩ := hfS.b g2
        have := h2 g2
        rw [ea] at this ⊢
        rw [imT_at ha]
        simp only [longT, decide_eq_false_iff_not] at this
        exact if_neg this
    refine br_intro' (fun n1 => ?_) (fun n1 => ?_) <;> (have n10 := n1) <;> simp only [decide_eq_true_eq, decide_eq_false_iff_not] at n1 <;> simp [n10]
    · obtain ⟨a, ea, ha⟩ := hfS.a n1
      have ha' : a < j := by omega
      have haL : a < ss.length := by omega
      simp [ea, haL, hLl, lg a ha']
      refine br_intro' (fun la1 => ?_) (fun la1 => ?_) <;> simp [la1, hLl, hlt]
      · have hbig : 2000 < x.size := by
          rw [← ex]
          exact rec_bigA ks _ n1 (by simpa [longT, ea] using la1)
        have ea0 := ea
        refine ck_intro' (by omega) ?_; simp [hLl, hlt]
        repeat (refine ck_intro' (by first | omega | (simp; omega) | kernel_rfl) ?_; try simp)
        rw [hw, eL true (by simpa using hbig), ← eTk hbig]
        refine WLoop_drop [⟨0, false, 1, [.sl ns.length (enc ns)], none⟩, ⟨0, false, 1, strs (imT (txGo ns ks ss (j + 1)) ss.length), none⟩, ⟨0, false, 1, bls (imL (txGo ns ks ss (j + 1)) ss.length), none⟩] [⟨0, false, 1, [i6 ss[j].r, i6 ss[j].t, i6 ss[j].a, i6 ss[j].b], none⟩] (by simp [ea0]) (by simp) (by simp) (by simp) ?_
        exact ih (j + 1) (by omega) (by omega)
      · refine br_intro' (fun n2 => ?_) (fun n2 => ?_) <;> (have n20 := n2) <;> simp only [decide_eq_true_eq, decide_eq_false_iff_not] at n2 <;> simp [n20]
        · obtain ⟨b, eb, hb⟩ := hfS.b n2
          have hb' : b < j := by omega
          have hbL : b < ss.length := by omega
          rcases Bool.eq_false_or_eq_true (longT (txAt (txGo ns ks ss j) (b : Int))) with lb1 | lb1 <;> simp [eb, hbL, hLl, lg b hb', hlt, lb1]
          · have hbig : 2000 < x.size := by
              rw [← ex]
              exact rec_bigB ks _ n2 (by simpa [longT, eb] using lb1)
            have ea0 := And.intro ea eb
            refine ck_intro' (by omega) ?_; simp [hLl, hlt]
            repeat (refine ck_intro' (by first | omega | (simp; omega) | kernel_rfl) ?_; try simp)
            rw [hw, eL true (by simpa using hbig), ← eTk hbig]
            refine WLoop_drop [⟨0, false, 1, [.sl ns.length (enc ns)], none⟩, ⟨0, false, 1, strs (imT (txGo ns ks ss (j + 1)) ss.length), none⟩, ⟨0, false, 1, bls (imL (txGo ns ks ss (j + 1)) ss.length), none⟩] [⟨0, false, 1, [i6 ss[j].r, i6 ss[j].t, i6 ss[j].a, i6 ss[j].b], none⟩] (by simp [ea0]) (by simp) (by simp) (by simp) ?_
            exact ih (j + 1) (by omega) (by omega)
          · have hx' := hx (fun _ => by rw [ea]; exact la1) (fun _ => by rw [eb]; exact lb1)
            have ea0 := And.intro ea eb
            refine ck_intro' (by omega) ?_; simp [hLl, hlt]
            repeat (refine ck_intro' (by first | omega | (simp; omega) | kernel_rfl) ?_; try simp)
            try simp [gs]
            have hr0 := impl_Pool_recipe_c ns ks ss[j] (imT (txGo ns ks ss j) ss.length) hl hk (by omega) hp hfI
            rw [hx'] at hr0
            have tk : (strs (imT (txGo ns ks ss j) ss.length)).take ss.length = strs (imT (txGo ns ks ss j) ss.length) := List.take_of_length_le (by simp [hTl])
            refine WCall_pure rfl hr0 (by simp [hTl, tk, ea0]) (by simp) (by simp) ?_; simp [hLl, hlt]
            refine ck_intro' (by omega) ?_; simp [hLl, hlt]
            repeat (refine ck_intro' (by first | omega | (simp; omega) | kernel_rfl) ?_; try simp)
            refine br_intro' (fun d => ?_) (fun d => ?_) <;> (have d0 := d) <;> simp only [decide_eq_true_eq, decide_eq_false_iff_not] at d <;> simp [d0]
            · rw [hw, eL true (by simp; omega), ← eTk (by omega)]
              refine WLoop_drop [⟨0, false, 1, [.sl ns.length (enc ns)], none⟩, ⟨0, false, 1, strs (imT (txGo ns ks ss (j + 1)) ss.length), none⟩, ⟨0, false, 1, bls (imL (txGo ns ks ss (j + 1)) ss.length), none⟩] [⟨0, false, 1, [i6 ss[j].r, i6 ss[j].t, i6 ss[j].a, i6 ss[j].b], none⟩] (by simp [ea0]) (by simp) (by simp) (by simp) ?_
              exact ih (j + 1) (by omega) (by omega)
            · refine ck_intro' (by omega) ?_; simp [hTl, hlt]
              repeat (refine ck_intro' (by first | omega | (simp; omega) | kernel_rfl) ?_; try simp)
              rw [hw, eL false (by simp; omega), eTs (by omega)]
              refine WLoop_drop [⟨0, false, 1, [.sl ns.length (enc ns)], none⟩, ⟨0, false, 1, strs (imT (txGo ns ks ss (j + 1)) ss.length), none⟩, ⟨0, false, 1, bls (imL (txGo ns ks ss (j + 1)) ss.length), none⟩] [⟨0, false, 1, [i6 ss[j].r, i6 ss[j].t, i6 ss[j].a, i6 ss[j].b], none⟩] (by simp [ea0]) (by simp) (by simp) (by simp) ?_
              exact ih (j + 1) (by omega) (by omega)
        · have hx' := hx (fun _ => by rw [ea]; exact la1) (fun g => absurd g n2)
          have ea0 := ea
          refine ck_intro' (by omega) ?_; simp [hLl, hlt]
          repeat (refine ck_intro' (by first | omega | (simp; omega) | kernel_rfl) ?_; try simp)
          try simp [gs]
          have hr0 := impl_Pool_recipe_c ns ks ss[j] (imT (txGo ns ks ss j) ss.length) hl hk (by omega) hp hfI
          rw [hx'] at hr0
          have tk : (strs (imT (txGo ns ks ss j) ss.length)).take ss.length = strs (imT (txGo ns ks ss j) ss.length) := List.take_of_length_le (by simp [hTl])
          refine WCall_pure rfl hr0 (by simp [hTl, tk, ea0]) (by simp) (by simp) ?_; simp [hLl, hlt]
          refine ck_intro' (by omega) ?_; simp [hLl, hlt]
          repeat (refine ck_intro' (by first | omega | (simp; omega) | kernel_rfl) ?_; try simp)
          refine br_intro' (fun d => ?_) (fun d => ?_) <;> (have d0 := d) <;> simp only [decide_eq_true_eq, decide_eq_false_iff_not] at d <;> simp [d0]
          · rw [hw, eL true (by simp; omega), ← eTk (by omega)]
            refine WLoop_drop [⟨0, false, 1, [.sl ns.length (enc ns)], none⟩, ⟨0, false, 1, strs (imT (txGo ns ks ss (j + 1)) ss.length), none⟩, ⟨0, false, 1, bls (imL (txGo ns ks ss (j + 1)) ss.length), none⟩] [⟨0, false, 1, [i6 ss[j].r, i6 ss[j].t, i6 ss[j].a, i6 ss[j].b], none⟩] (by simp [ea0]) (by simp) (by simp) (by simp) ?_
            exact ih (j + 1) (by omega) (by omega)
          · refine ck_intro' (by omega) ?_; simp [hTl, hlt]
            repeat (refine ck_intro' (by first | omega | (simp; omega) | kernel_rfl) ?_; try simp)
            rw [hw, eL false (by simp; omega), eTs (by omega)]
            refine WLoop_drop [⟨0, false, 1, [.sl ns.length (enc ns)], none⟩, ⟨0, false, 1, strs (imT (txGo ns ks ss (j + 1)) ss.length), none⟩, ⟨0, false, 1, bls (imL (txGo ns ks ss (j + 1)) ss.length), none⟩] [⟨0, false, 1, [i6 ss[j].r, i6 ss[j].t, i6 ss[j].a, i6 ss[j].b], none⟩] (by simp [ea0]) (by simp) (by simp) (by simp) ?_
            exact ih (j + 1) (by omega) (by omega)
    · have n20 : decide (1 < needsF ns ss[j]) = false := by simp; omega
      simp [n20, hLl, hlt]
      have hx' := hx (fun g => absurd g n1) (fun g => absurd g (by omega))
      have ea0 : (0:Nat) = 0 := rfl
      refine ck_intro' (by omega) ?_; simp [hLl, hlt]
      repeat (refine ck_intro' (by first | omega | (simp; omega) | kernel_rfl) ?_; try simp)
      try simp [gs]
      have hr0 := impl_Pool_recipe_c ns ks ss[j] (imT (txGo ns ks ss j) ss.length) hl hk (by omega) hp hfI
      rw [hx'] at hr0
      have tk : (strs (imT (txGo ns ks ss j) ss.length)).take ss.length = strs (imT (txGo ns ks ss j) ss.length) := List.take_of_length_le (by simp [hTl])
      refine WCall_pure rfl hr0 (by simp [hTl, tk, ea0]) (by simp) (by simp) ?_; simp [hLl, hlt]
      refine ck_intro' (by omega) ?_; simp [hLl, hlt]
      repeat (refine ck_intro' (by first | omega | (simp; omega) | kernel_rfl) ?_; try simp)
      refine br_intro' (fun d => ?_) (fun d => ?_) <;> (have d0 := d) <;> simp only [decide_eq_true_eq, decide_eq_false_iff_not] at d <;> simp [d0]
      · rw [hw, eL true (by simp; omega), ← eTk (by omega)]
        refine WLoop_drop [⟨0, false, 1, [.sl ns.length (enc ns)], none⟩, ⟨0, false, 1, strs (imT (txGo ns ks ss (j + 1)) ss.length), none⟩, ⟨0, false, 1, bls (imL (txGo ns ks ss (j + 1)) ss.length), none⟩] [⟨0, false, 1, [i6 ss[j].r, i6 ss[j].t, i6 ss[j].a, i6 ss[j].b], none⟩] (by simp [ea0]) (by simp) (by simp) (by simp) ?_
        exact ih (j + 1) (by omega) (by omega)
      · refine ck_intro' (by omega) ?_; simp [hTl, hlt]
        repeat (refine ck_intro' (by first | omega | (simp; omega) | kernel_rfl) ?_; try simp)
        rw [hw, eL false (by simp; omega), eTs (by omega)]
        refine WLoop_drop [⟨0, false, 1, [.sl ns.length (enc ns)], none⟩, ⟨0, false, 1, strs (imT (txGo ns ks ss (j + 1)) ss.length), none⟩, ⟨0, false, 1, bls (imL (txGo ns ks ss (j + 1)) ss.length), none⟩] [⟨0, false, 1, [i6 ss[j].r, i6 ss[j].t, i6 ss[j].a, i6 ss[j].b], none⟩] (by simp [ea0]) (by simp) (by simp) (by simp) ?_
        exact ih (j + 1) (by omega) (by omega)
  · have hjj : j = ss.length := by omega
    subst hjj
    have hTl := imT_len (S := txGo ns ks ss ss.length) (n := ss.length) (by omega)
    have hLl := imL_len (S := txGo ns ks ss ss.length) (n := ss.length) (by omega)
    have hcast : (ss.length : Int) - 1 = ((ss.length - 1 : Nat) : Int) := by omega
    have hlt : ss.length - 1 < ss.length := by omega
    have et : (strs (imT (txGo ns ks ss ss.length) ss.length))[ss.length - 1]? = some (.str (keepT (txAt (txGo ns ks ss ss.length) ((ss.length - 1 : Nat) : Int)))) := by
      have h1 := imT_at (S := txGo ns ks ss ss.length) (n := ss.length) (a := ss.length - 1) (by omega)
      have h2 : ss.length - 1 < (imT (txGo ns ks ss ss.length) ss.length).length := by omega
      rw [strs_at h2, ← h1]
      simp [txAt, h2]
    have el : (bls (imL (txGo ns ks ss ss.length) ss.length))[ss.length - 1]? = some (.bool (longT (txAt (txGo ns ks ss ss.length) ((ss.length - 1 : Nat) : Int)))) := by
      rw [bls, List.getElem?_map, imL_at (by omega)]; rfl
    rw [hcast]
    simp [hlt, hTl, hLl, et, el]
    refine ck_intro' (by omega) ?_; simp [hlt, hTl, hLl, et, el]
    repeat (refine ck_intro' (by first | omega | (simp; omega) | kernel_rfl) ?_; try simp [hlt, hTl, hLl, et, el])
    have h1 : (imT (txGo ns ks ss ss.length) ss.length)[ss.length - 1]'(by omega) = keepT (txAt (txGo ns ks ss ss.length) ((ss.length - 1 : Nat) : Int)) := by
      have h2 := imT_at (S := txGo ns ks ss ss.length) (n := ss.length) (a := ss.length - 1) (by omega)
      have h3 : ss.length - 1 < (imT (txGo ns ks ss ss.length) ss.length).length := by omega
      rw [← h2]
      simp [txAt, h3]
    have h2 : (imL (txGo ns ks ss ss.length) ss.length)[ss.length - 1]'(by omega) = longT (txAt (txGo ns ks ss ss.length) ((ss.length - 1 : Nat) : Int)) := by
      have h2 := imL_at (S := txGo ns ks ss ss.length) (n := ss.length) (a := ss.length - 1) (by omega)
      rw [List.getElem?_eq_getElem (by omega)] at h2
      exact Option.some.inj h2
    rw [h1, h2]
    exact LeV.ro rfl rfl (by
      simp only [recipeF]
      rw [if_pos ⟨hne, g⟩]
      generalize txAt (txGo ns ks ss ss.length) ((ss.length - 1 : Nat) : Int) = y
      by_cases hy : 2000 < y.size
      · simp [keepT, longT, hy]
      · simp [keepT, longT, hy])
theorem impl_RecipeOf_call {ns : List Nd} {ks : List Int} {ss : List Sp} (hl : ns.length < 9223372036854775807) (hk : ks.length < 9223372036854775807) (hls : ss.length < 9223372036854775807) {S : FuncId → Bool} {H : List Blk} {K : A → Dl → Prop} (hS : S 10 = false) (hK : K (.tup [.str (recipeF ns ks ss).1, .bool (recipeF ns ks ss).2]) (.news [])) : @WCall' Go.Proofs.Tryd.prog S 10 [aP ns, aI ks, aSs ss] H ⟨K⟩ :=
  WCall_pure hS (impl_RecipeOf_c ns ks ss hl hk hls) (by simp) (by simp) (by simp) hK
theorem impl_RecipeOf_k {ns : List Nd} {ks : List Int} {ss : List Sp} (hl : ns.length < 9223372036854775807) (hk : ks.length < 9223372036854775807) (hls : ss.length < 9223372036854775807) {S : FuncId → Bool} {H : List Blk} {K : A → Dl → Prop} {zs : List A} (hS : S 10 = false) (hv : viewL (viewA 8 H) zs = some [aP ns, aI ks, aSs ss]) (ho : noOwns zs = true ∨ nosl (.tup [.str (recipeF ns ks ss).1, .bool (recipeF ns ks ss).2]) = true) (hK : K (.tup [.str (recipeF ns ks ss).1, .bool (recipeF ns ks ss).2]) (.news [])) : @WCall' Go.Proofs.Tryd.prog S 10 zs H ⟨K⟩ :=
  WCall_pure hS (impl_RecipeOf_c ns ks ss hl hk hls) hv ho (by simp) hK
end Go.Proofs.YtijileoflejgpaaDoor.C

set_option linter.unusedVariables false
set_option linter.unusedSimpArgs false
set_option maxRecDepth 4000
namespace Go.Proofs.YtijileoflejgpaaDoor.C
open Go.Sym Go.Proofs.YtijileoflejgpaaDoor.I
theorem laws_FnExactRecipeOf_c (ns : List Nd) (ks : List Int) (ss : List Sp) (ha : ns.length < 9223372036854775808) (hb : ks.length < 9223372036854775808) (hc : ss.length < 9223372036854775808) : T 3 [aP ns, aI ks, aSs ss] [] (.bool true) ([]) := by
  refine semT' (S := S0) hm laws_FnExactRecipeOf_ok (Nat.le_of_ble_eq_true rfl) ?_
  unfold laws_FnExactRecipeOf; dsimp only
  simp
  refine br_intro' (fun g0 => ?_) (fun g0 => ?_) <;> simp at g0 <;> simp [g0]
  · exact LeV.ro rfl rfl rfl
  refine laws_szPool_call (ns := ns) (x := 1048576) ha (by omega) (by omega) rfl ?_; simp
  refine br_intro' (fun g => ?_) (fun g => ?_) <;> simp only [decide_eq_true_eq, decide_eq_false_iff_not, szF_neg] at g <;> simp [szF_neg, g]
  · exact LeV.ro rfl rfl rfl
  rw [szF_pos g]
  refine laws_szStepS_call (ns := ss) (x := 1048576 - ns.length) hc (by omega) (by omega) rfl ?_; simp
  refine br_intro' (fun g1 => ?_) (fun g1 => ?_) <;> simp only [decide_eq_true_eq, decide_eq_false_iff_not, szF_neg] at g1 <;> simp [szF_neg, g1]
  · exact LeV.ro rfl rfl rfl
  have hl : ns.length ≤ 4294967296 := by omega
  have hk : ks.length ≤ 4294967296 := by omega
  have hs : ss.length ≤ 4294967296 := by omega
  refine laws_toPool_k (ns := ns) hl rfl (by simp) (by simp [noslBlks]) ?_; simp [shiftB]
  refine laws_toIntS_k (xs := ks) hk rfl (by simp) (by simp [noslBlks]) ?_; simp [shiftB]
  refine laws_toStepS_k (ns := ss) hs rfl (by simp) (by simp [noslBlks]) ?_; simp [shiftB]
  refine spec_RecipeOf_k (ns := ns) (ks := ks) (ss := ss) (by omega) (by omega) (by omega) rfl (by simp) (by simp [noslBlks]) ?_; simp [shiftB]
  refine laws_toPool_k (ns := ns) hl rfl (by simp) (by simp [noslBlks]) ?_; simp [shiftB]
  refine laws_toIntS_k (xs := ks) hk rfl (by simp) (by simp [noslBlks]) ?_; simp [shiftB]
  refine laws_toStepS_k (ns := ss) hs rfl (by simp) (by simp [noslBlks]) ?_; simp [shiftB]
  refine impl_RecipeOf_k (ns := ns) (ks := ks) (ss := ss) (by omega) (by omega) (by omega) rfl (by simp) (by simp [noslBlks]) ?_; simp [shiftB]
  refine laws_toPool_k (ns := ns) hl rfl (by simp) (by simp [noslBlks]) ?_; simp [shiftB]
  refine laws_eqPool_k (ns := ns) (ms := ns) (by omega) (by omega) rfl (by simp) (by simp [noslBlks]) ?_; simp [shiftB]
  first | (refine ck_intro' (by kernel_rfl) ?_; try simp) | skip
  refine laws_toIntS_k (xs := ks) hk rfl (by simp) (by simp [noslBlks]) ?_; simp [shiftB]
  refine laws_eqIntS_k (ns := ks) (ms := ks) (by omega) (by omega) rfl (by simp) (by simp [noslBlks]) ?_; simp [shiftB]
  first | (refine ck_intro' (by kernel_rfl) ?_; try simp) | skip
  refine laws_toStepS_k (ns := ss) hs rfl (by simp) (by simp [noslBlks]) ?_; simp [shiftB]
  refine laws_eqStepS_k (ns := ss) (ms := ss) (by omega) (by omega) rfl (by simp) (by simp [noslBlks]) ?_; simp [shiftB]
  first | (refine ck_intro' (by kernel_rfl) ?_; try simp) | skip
  exact LeV.ro rfl rfl rfl
end Go.Proofs.YtijileoflejgpaaDoor.C
