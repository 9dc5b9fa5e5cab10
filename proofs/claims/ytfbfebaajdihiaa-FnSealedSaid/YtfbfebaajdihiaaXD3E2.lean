/- What drawing any pool answers. Conditions: those that each theorem names. -/
import Derived.Test.YtfbfebaajdihiaaXC1D2
import Derived.Test.YtfbfebaajdihiaaXSymW
import Derived.Test.YtfbfebaajdihiaaXSymX
set_option linter.unusedVariables false
set_option linter.unusedSimpArgs false
set_option maxRecDepth 4000
namespace Go.Proofs.Ytfbfebaajdihiaa.C
open Go.Sym Go.Proofs.Ytfbfebaajdihiaa.I
theorem findF_in {n : Nd} : ∀ {ns : List Nd} {i : Int}, 0 ≤ i → 0 ≤ findF ns n i → n ∈ ns
  | [], i, _, h => by simp [findF] at h
  | x :: xs, i, hi, h => by
    simp only [findF] at h
    split at h
    · rename_i e; subst e; simp
    · exact List.mem_cons_of_mem _ (findF_in (by omega) h)
theorem no_digest {ns : List Nd} (hp : poolF ns = true) : findF ns ⟨5, (ns.length : Int) - 1, 0⟩ 0 < 0 := by
  rcases Int.lt_or_le (findF ns ⟨5, (ns.length : Int) - 1, 0⟩ 0) 0 with h | h
  · exact h
  · have hm := findF_in (Int.le_refl 0) h
    obtain ⟨j, hj, e⟩ := List.getElem_of_mem hm
    have := (okFrom_all hp hj).1
    rw [e] at this
    simp [rightF, partsF, inF] at this
    omega
/-- A pool with one more name and one more digest, where there's room. -/
def moreF (ns : List Nd) : List Nd := (addF (addF ns ⟨1, (ns.length : Int).tmod 200, 0⟩).1 ⟨5, ((addF ns ⟨1, (ns.length : Int).tmod 200, 0⟩).1.length : Int) - 1, 0⟩).1
theorem addF_cases (ns : List Nd) (n : Nd) : (addF ns n).1 = ns ∨ (addF ns n).1.length = ns.length + 1 := by
  unfold addF
  split
  · exact .inl rfl
  · split
    · exact .inl rfl
    · split
      · exact .inl rfl
      · exact .inr (by simp)
theorem moreF_gt {ns : List Nd} (hp : poolF ns = true) (hl : ns.length < 500) : ns.length < (moreF ns).length := by
  have hge := addF_ge (addF ns ⟨1, (ns.length : Int).tmod 200, 0⟩).1 ⟨5, ((addF ns ⟨1, (ns.length : Int).tmod 200, 0⟩).1.length : Int) - 1, 0⟩
  rcases addF_cases ns ⟨1, (ns.length : Int).tmod 200, 0⟩ with h | h
  · have hne : 0 < ns.length := by
      rcases Nat.eq_zero_or_pos ns.length with e | e
      · have : ns = [] := List.eq_nil_of_length_eq_zero e
        subst this
        simp [addF, normN, rightF, partsF, inF, findF] at h
      · exact e
    unfold moreF
    rw [h]
    have hr : rightF ⟨5, (ns.length : Int) - 1, 0⟩ ns.length = true := by simp [rightF, partsF, inF]; omega
    have hf := no_digest hp
    have hnm : normN ⟨5, (ns.length : Int) - 1, 0⟩ = ⟨5, (ns.length : Int) - 1, 0⟩ := by simp [normN]
    simp only [addF, hnm, hr]
    rw [if_neg (by simp), if_neg (by omega), if_neg (by omega)]
    simp
  · unfold moreF
    omega
def fillF : Nat → List Nd → List Nd
  | 0, ns => ns
  | n + 1, ns => if ns.length < 500 then fillF n (moreF ns) else ns
theorem fillF_one (n : Nat) {ns : List Nd} (h : ns.length < 500) : fillF (n + 1) ns = fillF n (moreF ns) := if_pos h
theorem fillF_full : ∀ (n : Nat) {ns : List Nd}, ¬ ns.length < 500 → fillF n ns = ns
  | 0, _, _ => rfl
  | n + 1, _, h => if_neg h
def anyMid (bs : List Int) (p : List Nd) (t : Int × Cu) : List Nd × Cu :=
  if t.1 = 0 then (p ++ [(nodeF bs t.2 3).1], (nodeF bs t.2 3).2)
  else if t.1 = 1 then (p ++ [⟨(belowF bs t.2 10).1, (belowF bs (belowF bs t.2 10).2 30).1 - 1, (belowF bs (belowF bs (belowF bs t.2 10).2 30).2 30).1 - 1⟩], (belowF bs (belowF bs (belowF bs t.2 10).2 30).2 30).2)
  else (p, t.2)
def anyEnd (bs : List Int) (q : List Nd × Cu) : List Nd × Cu := if (onceF bs q.2 80).1 then (fillF 500 [], (onceF bs q.2 80).2) else (q.1, (onceF bs q.2 80).2)
def anyF (bs : List Int) (s : Cu) : List Nd × Cu := anyEnd bs (anyMid bs (poolD bs s 24).1 (belowF bs (poolD bs s 24).2 25))
theorem spec_l1DrawAny_m (H : List Blk) (cb : Nat) (bs : List Int) (s : Cu) (hc : cb < H.length) (hb : bs.length < 9223372036854775807) (hcl : Closed1 H.length H = true) : T 79 [.ptr cb 0 0] (cur H cb bs s) (aP (anyF bs s).1) (cur H cb bs (anyF bs s).2) := by
  refine semT' (S := (fun f => [133, 101, 103, 105, 106, 102, 100].contains f)) hm spec_l1DrawAny_ok (Nat.le_of_ble_eq_true rfl) ?_
  unfold spec_l1DrawAny; dsimp only
  simp
  refine cur_call' rfl cb bs s (poolD bs s 24).2 hc (spec_l1DrawPool_m _ cb bs s 24 (cur_lt _ _ hc) hb (Closed1_more (by simpa using cur_closed bs s hcl) (by simp)) (by omega) (by omega)) ?_; simp
  have hp := poolD_ok bs s 24
  have hl := poolF_len hp
  refine cur_call' rfl cb bs (poolD bs s 24).2 (belowF bs (poolD bs s 24).2 25).2 hc (spec_l1Below_m _ cb bs _ 25 (cur_lt _ _ hc) hb) ?_; simp
  have ea : anyF bs s = anyEnd bs (anyMid bs (poolD bs s 24).1 (belowF bs (poolD bs s 24).2 25)) := rfl
  rw [ea]
  generalize (poolD bs s 24).1 = ns at hp hl ⊢
  generalize belowF bs (poolD bs s 24).2 25 = t
  refine br_intro' (fun g => ?_) (fun g => ?_) <;> simp at g <;> simp [g]
  · rw [show anyMid bs ns t = (ns ++ [(nodeF bs t.2 3).1], (nodeF bs t.2 3).2) from if_pos g]
    refine spec_l1Copy_k (ns := ns) (by omega) rfl (by simp) (by simp [noslBlks]) ?_; simp [shiftB]
    refine cur_call' rfl cb bs t.2 (nodeF bs t.2 3).2 hc (spec_l1DrawNode_m _ cb bs _ 3 (cur_lt _ _ hc) hb (Closed1_more (by simpa using cur_closed bs t.2 hcl) (by simp)) ⟨by omega, by omega⟩) ?_; simp
    refine ck_intro' (by omega) ?_; simp
    refine cur_call' rfl cb bs (nodeF bs t.2 3).2 (onceF bs (nodeF bs t.2 3).2 80).2 hc (spec_l1Once_m _ cb bs _ 80 (cur_lt _ _ hc) hb) ?_; simp
    have eo : anyEnd bs (ns ++ [(nodeF bs t.2 3).1], (nodeF bs t.2 3).2) = if (onceF bs (nodeF bs t.2 3).2 80).1 then (fillF 500 [], (onceF bs (nodeF bs t.2 3).2 80).2) else (ns ++ [(nodeF bs t.2 3).1], (onceF bs (nodeF bs t.2 3).2 80).2) := rfl
    rw [eo]
    generalize onceF bs (nodeF bs t.2 3).2 80 = o
    refine br_intro' (fun f => ?_) (fun f => ?_) <;> simp [f]
    · refine WLoop_drop (cur H cb bs o.2 ++ [⟨0, false, 1, [A.nil], none⟩, ⟨0, false, 1, [A.nil], none⟩]) _ (by rw [List.append_assoc]; rfl) (by simp) (Closed1_more (by simpa using cur_closed bs o.2 hcl) (by simp)) (by simp) ?_
      generalize hfx : fillF 500 [] = fx
      refine WLoop_fam (fun p : List Nd × Bool => [(2, A.ptr H.length 0 0), (3, A.ptr (H.length + 1) 0 0)])
        (fun p => cur H cb bs o.2 ++ [⟨0, false, 1, [A.nil], none⟩, ⟨0, false, 1, [if p.2 then A.nil else .sl p.1.length (enc p.1)], none⟩]) (fun p => 500 - p.1.length)
        (fun p => (p.2 = true → p.1 = []) ∧ poolF p.1 = true ∧ ∃ k, 500 - p.1.length ≤ k ∧ fx = fillF k p.1) ?_ ([], true) ⟨fun _ => rfl, poolF_nil, 500, by simp, hfx.symm⟩
      rintro ⟨qs, b⟩ ⟨hbn, hq, k, hk, hf⟩ ih
      simp only at hbn hq hk hf
      have hql := poolF_len hq
      have hq1 := addF_pool ⟨1, (qs.length : Int).tmod 200, 0⟩ hq
      have hql1 := poolF_len hq1
      have nxt : qs.length < 500 → ∃ k', 500 - (moreF qs).length ≤ k' ∧ fx = fillF k' (moreF qs) := fun h => by
        obtain ⟨k', rfl⟩ : ∃ k', k = k' + 1 := ⟨k - 1, by omega⟩
        have := moreF_gt hq h
        exact ⟨k', by omega, hf.trans (fillF_one k' h)⟩
      cases b
      · simp
        refine br_intro' (fun h => ?_) (fun h => ?_) <;> (have h0 := h) <;> (try simp at h) <;> try simp [h0, h]
        · have h' : qs.length < 500 := by omega
          have wl : IntKind.i64.wrap (((addF qs ⟨1, (qs.length : Int).tmod 200, 0⟩).1.length : Int) - 1) = ((addF qs ⟨1, (qs.length : Int).tmod 200, 0⟩).1.length : Int) - 1 := wrap64 (by omega) (by omega)
          refine spec_l1Add_k (ns := qs) (n := ⟨1, (qs.length : Int).tmod 200, 0⟩) hq rfl (by simp) (by simp) ?_; simp
          rw [wl]
          refine spec_l1Add_k (ns := (addF qs ⟨1, (qs.length : Int).tmod 200, 0⟩).1) (n := ⟨5, ((addF qs ⟨1, (qs.length : Int).tmod 200, 0⟩).1.length : Int) - 1, 0⟩) hq1 rfl (by simp) (by simp) ?_; simp
          exact ih (moreF qs, false) ⟨by simp, addF_pool _ hq1, nxt h'⟩ (Nat.sub_lt_sub_left h' (moreF_gt hq h'))
        · rw [hf, fillF_full k (by omega)]
          simp [f]
          exact LeV.drop (by simp) (by simpa using cur_closed _ _ hcl) (by simp)
      · obtain rfl := hbn rfl
        simp
        refine spec_l1Add_k (ns := []) (n := ⟨1, 0, 0⟩) hq rfl (by simp) (by simp) ?_; simp
        have hz1 := addF_pool ⟨1, 0, 0⟩ poolF_nil
        have hz2 := poolF_len hz1
        have em : moreF [] = (addF (addF [] ⟨1, 0, 0⟩).1 ⟨5, ((addF [] ⟨1, 0, 0⟩).1.length : Int) - 1, 0⟩).1 := by simp [moreF]
        have hg := moreF_gt hq (by simp)
        have hn := nxt (by simp)
        have wl : IntKind.i64.wrap (((addF [] ⟨1, 0, 0⟩).1.length : Int) - 1) = ((addF [] ⟨1, 0, 0⟩).1.length : Int) - 1 := wrap64 (by omega) (by omega)
        rw [wl]
        refine spec_l1Add_k (ns := (addF [] ⟨1, 0, 0⟩).1) (n := ⟨5, ((addF [] ⟨1, 0, 0⟩).1.length : Int) - 1, 0⟩) hz1 rfl (by simp) (by simp) ?_; simp
        rw [← em]
        have hm : poolF (moreF []) = true := by rw [em]; exact addF_pool _ hz1
        exact ih (moreF [], false) ⟨by simp, hm, hn⟩ (Nat.sub_lt_sub_left (by simp) hg)
    · have := LeV.frzA (B := H.length) (H1 := cur H cb bs o.2) (T := [⟨0, false, 1, [.ref (H.length + 2) (ns.length + 1) 0 (ns.length + 1)], none⟩, ⟨0, false, 1, [.ref (H.length + 2) (ns.length + 1) 0 (ns.length + 1)], none⟩, ⟨ns.length + 1, false, 3, enc (ns ++ [(nodeF bs t.2 3).1]), none⟩, ⟨0, false, 3, encN (nodeF bs t.2 3).1, none⟩]) (b := H.length + 2) (m := ns.length + 1) (k := ⟨ns.length + 1, false, 3, enc (ns ++ [(nodeF bs t.2 3).1]), none⟩) (by simp) (by simpa using cur_closed _ _ hcl) (by simp) (by simp) (by simp) (by simp)
      rw [show (enc (ns ++ [(nodeF bs t.2 3).1])).take ((ns.length + 1) * 3) = enc (ns ++ [(nodeF bs t.2 3).1]) from List.take_of_length_le (by simp)] at this
      simpa [aP, enc_snoc, encN] using this
  refine br_intro' (fun g1 => ?_) (fun g1 => ?_) <;> simp at g1 <;> simp [g1]
  · rw [show anyMid bs ns t = _ from (if_neg g).trans (if_pos g1)]
    refine spec_l1Copy_k (ns := ns) (by omega) rfl (by simp) (by simp [noslBlks]) ?_; simp [shiftB]
    refine cur_call' rfl cb bs t.2 (belowF bs t.2 10).2 hc (spec_l1Below_m _ cb bs _ 10 (cur_lt _ _ hc) hb) ?_; simp
    generalize belowF bs t.2 10 = a
    refine cur_call' rfl cb bs a.2 (belowF bs a.2 30).2 hc (spec_l1Below_m _ cb bs _ 30 (cur_lt _ _ hc) hb) ?_; simp
    have hx := belowF_in bs a.2 30
    have hx' := hx.2.1 (by omega)
    generalize belowF bs a.2 30 = d at hx hx' ⊢
    refine cur_call' rfl cb bs d.2 (belowF bs d.2 30).2 hc (spec_l1Below_m _ cb bs _ 30 (cur_lt _ _ hc) hb) ?_; simp
    have hy := belowF_in bs d.2 30
    have hy' := hy.2.1 (by omega)
    generalize belowF bs d.2 30 = e at hy hy' ⊢
    have w1 : IntKind.i64.wrap (d.1 - 1) = d.1 - 1 := wrap64 (by omega) (by omega)
    have w2 : IntKind.i64.wrap (e.1 - 1) = e.1 - 1 := wrap64 (by omega) (by omega)
    refine ck_intro' (by omega) ?_; simp [w1, w2]
    refine cur_call' rfl cb bs e.2 (onceF bs e.2 80).2 hc (spec_l1Once_m _ cb bs _ 80 (cur_lt _ _ hc) hb) ?_; simp
    have eo : anyEnd bs (ns ++ [(Nd.mk a.1 (d.1 - 1) (e.1 - 1))], e.2) = if (onceF bs e.2 80).1 then (fillF 500 [], (onceF bs e.2 80).2) else (ns ++ [(Nd.mk a.1 (d.1 - 1) (e.1 - 1))], (onceF bs e.2 80).2) := rfl
    rw [eo]
    generalize onceF bs e.2 80 = o
    refine br_intro' (fun f => ?_) (fun f => ?_) <;> simp [f]
    · refine WLoop_drop (cur H cb bs o.2 ++ [⟨0, false, 1, [A.nil], none⟩, ⟨0, false, 1, [A.nil], none⟩]) _ (by rw [List.append_assoc]; rfl) (by simp) (Closed1_more (by simpa using cur_closed bs o.2 hcl) (by simp)) (by simp) ?_
      generalize hfx : fillF 500 [] = fx
      refine WLoop_fam (fun p : List Nd × Bool => [(2, A.ptr H.length 0 0), (3, A.ptr (H.length + 1) 0 0)])
        (fun p => cur H cb bs o.2 ++ [⟨0, false, 1, [A.nil], none⟩, ⟨0, false, 1, [if p.2 then A.nil else .sl p.1.length (enc p.1)], none⟩]) (fun p => 500 - p.1.length)
        (fun p => (p.2 = true → p.1 = []) ∧ poolF p.1 = true ∧ ∃ k, 500 - p.1.length ≤ k ∧ fx = fillF k p.1) ?_ ([], true) ⟨fun _ => rfl, poolF_nil, 500, by simp, hfx.symm⟩
      rintro ⟨qs, b⟩ ⟨hbn, hq, k, hk, hf⟩ ih
      simp only at hbn hq hk hf
      have hql := poolF_len hq
      have hq1 := addF_pool ⟨1, (qs.length : Int).tmod 200, 0⟩ hq
      have hql1 := poolF_len hq1
      have nxt : qs.length < 500 → ∃ k', 500 - (moreF qs).length ≤ k' ∧ fx = fillF k' (moreF qs) := fun h => by
        obtain ⟨k', rfl⟩ : ∃ k', k = k' + 1 := ⟨k - 1, by omega⟩
        have := moreF_gt hq h
        exact ⟨k', by omega, hf.trans (fillF_one k' h)⟩
      cases b
      · simp
        refine br_intro' (fun h => ?_) (fun h => ?_) <;> (have h0 := h) <;> (try simp at h) <;> try simp [h0, h]
        · have h' : qs.length < 500 := by omega
          have wl : IntKind.i64.wrap (((addF qs ⟨1, (qs.length : Int).tmod 200, 0⟩).1.length : Int) - 1) = ((addF qs ⟨1, (qs.length : Int).tmod 200, 0⟩).1.length : Int) - 1 := wrap64 (by omega) (by omega)
          refine spec_l1Add_k (ns := qs) (n := ⟨1, (qs.length : Int).tmod 200, 0⟩) hq rfl (by simp) (by simp) ?_; simp
          rw [wl]
          refine spec_l1Add_k (ns := (addF qs ⟨1, (qs.length : Int).tmod 200, 0⟩).1) (n := ⟨5, ((addF qs ⟨1, (qs.length : Int).tmod 200, 0⟩).1.length : Int) - 1, 0⟩) hq1 rfl (by simp) (by simp) ?_; simp
          exact ih (moreF qs, false) ⟨by simp, addF_pool _ hq1, nxt h'⟩ (Nat.sub_lt_sub_left h' (moreF_gt hq h'))
        · rw [hf, fillF_full k (by omega)]
          simp [f]
          exact LeV.drop (by simp) (by simpa using cur_closed _ _ hcl) (by simp)
      · obtain rfl := hbn rfl
        simp
        refine spec_l1Add_k (ns := []) (n := ⟨1, 0, 0⟩) hq rfl (by simp) (by simp) ?_; simp
        have hz1 := addF_pool ⟨1, 0, 0⟩ poolF_nil
        have hz2 := poolF_len hz1
        have em : moreF [] = (addF (addF [] ⟨1, 0, 0⟩).1 ⟨5, ((addF [] ⟨1, 0, 0⟩).1.length : Int) - 1, 0⟩).1 := by simp [moreF]
        have hg := moreF_gt hq (by simp)
        have hn := nxt (by simp)
        have wl : IntKind.i64.wrap (((addF [] ⟨1, 0, 0⟩).1.length : Int) - 1) = ((addF [] ⟨1, 0, 0⟩).1.length : Int) - 1 := wrap64 (by omega) (by omega)
        rw [wl]
        refine spec_l1Add_k (ns := (addF [] ⟨1, 0, 0⟩).1) (n := ⟨5, ((addF [] ⟨1, 0, 0⟩).1.length : Int) - 1, 0⟩) hz1 rfl (by simp) (by simp) ?_; simp
        rw [← em]
        have hm : poolF (moreF []) = true := by rw [em]; exact addF_pool _ hz1
        exact ih (moreF [], false) ⟨by simp, hm, hn⟩ (Nat.sub_lt_sub_left (by simp) hg)
    · have := LeV.frzA (B := H.length) (H1 := cur H cb bs o.2) (T := [⟨0, false, 1, [.ref (H.length + 2) (ns.length + 1) 0 (ns.length + 1)], none⟩, ⟨0, false, 1, [.ref (H.length + 2) (ns.length + 1) 0 (ns.length + 1)], none⟩, ⟨ns.length + 1, false, 3, enc (ns ++ [(Nd.mk a.1 (d.1 - 1) (e.1 - 1))]), none⟩, ⟨0, false, 3, encN (Nd.mk a.1 (d.1 - 1) (e.1 - 1)), none⟩]) (b := H.length + 2) (m := ns.length + 1) (k := ⟨ns.length + 1, false, 3, enc (ns ++ [(Nd.mk a.1 (d.1 - 1) (e.1 - 1))]), none⟩) (by simp) (by simpa using cur_closed _ _ hcl) (by simp) (by simp) (by simp) (by simp)
      rw [show (enc (ns ++ [(Nd.mk a.1 (d.1 - 1) (e.1 - 1))])).take ((ns.length + 1) * 3) = enc (ns ++ [(Nd.mk a.1 (d.1 - 1) (e.1 - 1))]) from List.take_of_length_le (by simp)] at this
      simpa [aP, enc_snoc, encN] using this
  · rw [show anyMid bs ns t = (ns, t.2) from (if_neg g).trans (if_neg g1)]
    refine cur_call' rfl cb bs t.2 (onceF bs t.2 80).2 hc (spec_l1Once_m _ cb bs _ 80 (cur_lt _ _ hc) hb) ?_; simp
    have eo : anyEnd bs (ns, t.2) = if (onceF bs t.2 80).1 then (fillF 500 [], (onceF bs t.2 80).2) else (ns, (onceF bs t.2 80).2) := rfl
    rw [eo]
    generalize onceF bs t.2 80 = o
    refine br_intro' (fun f => ?_) (fun f => ?_) <;> simp [f]
    · generalize hfx : fillF 500 [] = fx
      refine WLoop_fam (fun p : List Nd × Bool => [(2, A.ptr H.length 0 0), (3, A.ptr (H.length + 1) 0 0)])
        (fun p => cur H cb bs o.2 ++ [⟨0, false, 1, [A.nil], none⟩, ⟨0, false, 1, [if p.2 then A.nil else .sl p.1.length (enc p.1)], none⟩]) (fun p => 500 - p.1.length)
        (fun p => (p.2 = true → p.1 = []) ∧ poolF p.1 = true ∧ ∃ k, 500 - p.1.length ≤ k ∧ fx = fillF k p.1) ?_ ([], true) ⟨fun _ => rfl, poolF_nil, 500, by simp, hfx.symm⟩
      rintro ⟨qs, b⟩ ⟨hbn, hq, k, hk, hf⟩ ih
      simp only at hbn hq hk hf
      have hql := poolF_len hq
      have hq1 := addF_pool ⟨1, (qs.length : Int).tmod 200, 0⟩ hq
      have hql1 := poolF_len hq1
      have nxt : qs.length < 500 → ∃ k', 500 - (moreF qs).length ≤ k' ∧ fx = fillF k' (moreF qs) := fun h => by
        obtain ⟨k', rfl⟩ : ∃ k', k = k' + 1 := ⟨k - 1, by omega⟩
        have := moreF_gt hq h
        exact ⟨k', by omega, hf.trans (fillF_one k' h)⟩
      cases b
      · simp
        refine br_intro' (fun h => ?_) (fun h => ?_) <;> (have h0 := h) <;> (try simp at h) <;> try simp [h0, h]
        · have h' : qs.length < 500 := by omega
          have wl : IntKind.i64.wrap (((addF qs ⟨1, (qs.length : Int).tmod 200, 0⟩).1.length : Int) - 1) = ((addF qs ⟨1, (qs.length : Int).tmod 200, 0⟩).1.length : Int) - 1 := wrap64 (by omega) (by omega)
          refine spec_l1Add_k (ns := qs) (n := ⟨1, (qs.length : Int).tmod 200, 0⟩) hq rfl (by simp) (by simp) ?_; simp
          rw [wl]
          refine spec_l1Add_k (ns := (addF qs ⟨1, (qs.length : Int).tmod 200, 0⟩).1) (n := ⟨5, ((addF qs ⟨1, (qs.length : Int).tmod 200, 0⟩).1.length : Int) - 1, 0⟩) hq1 rfl (by simp) (by simp) ?_; simp
          exact ih (moreF qs, false) ⟨by simp, addF_pool _ hq1, nxt h'⟩ (Nat.sub_lt_sub_left h' (moreF_gt hq h'))
        · rw [hf, fillF_full k (by omega)]
          simp [f]
          exact LeV.drop (by simp) (by simpa using cur_closed _ _ hcl) (by simp)
      · obtain rfl := hbn rfl
        simp
        refine spec_l1Add_k (ns := []) (n := ⟨1, 0, 0⟩) hq rfl (by simp) (by simp) ?_; simp
        have hz1 := addF_pool ⟨1, 0, 0⟩ poolF_nil
        have hz2 := poolF_len hz1
        have em : moreF [] = (addF (addF [] ⟨1, 0, 0⟩).1 ⟨5, ((addF [] ⟨1, 0, 0⟩).1.length : Int) - 1, 0⟩).1 := by simp [moreF]
        have hg := moreF_gt hq (by simp)
        have hn := nxt (by simp)
        have wl : IntKind.i64.wrap (((addF [] ⟨1, 0, 0⟩).1.length : Int) - 1) = ((addF [] ⟨1, 0, 0⟩).1.length : Int) - 1 := wrap64 (by omega) (by omega)
        rw [wl]
        refine spec_l1Add_k (ns := (addF [] ⟨1, 0, 0⟩).1) (n := ⟨5, ((addF [] ⟨1, 0, 0⟩).1.length : Int) - 1, 0⟩) hz1 rfl (by simp) (by simp) ?_; simp
        rw [← em]
        have hm : poolF (moreF []) = true := by rw [em]; exact addF_pool _ hz1
        exact ih (moreF [], false) ⟨by simp, hm, hn⟩ (Nat.sub_lt_sub_left (by simp) hg)
    · exact LeV.drop (by simp) (by simpa using cur_closed _ _ hcl) (by simp)
theorem anyF_len (bs : List Int) (s : Cu) : (anyF bs s).1.length ≤ 501 := by
  have hfill : ∀ (n : Nat) (ns : List Nd), poolF ns = true → (fillF n ns).length ≤ 500 := by
    intro n
    induction n with
    | zero => intro ns h; exact poolF_len h
    | succ n ih =>
      intro ns h
      simp only [fillF]
      split
      · exact ih _ (addF_pool _ (addF_pool _ h))
      · exact poolF_len h
  have hp := poolF_len (poolD_ok bs s 24)
  unfold anyF anyEnd
  split
  · have := hfill 500 [] poolF_nil
    simp only
    omega
  · unfold anyMid
    split
    · simp; omega
    · split
      · simp; omega
      · simp only; omega
end Go.Proofs.Ytfbfebaajdihiaa.C

set_option linter.unusedVariables false
set_option linter.unusedSimpArgs false
set_option maxRecDepth 40000
namespace Go.Proofs.Ytfbfebaajdihiaa.C
open Go.Sym Go.Proofs.Ytfbfebaajdihiaa.I
def hashS (h x : Int) : Int := IntKind.i64.wrap ((IntKind.i64.wrap (IntKind.i64.wrap (IntKind.i64.wrap (h * 131) + IntKind.i64.wrap x) + 7) % 2 ^ IntKind.i64.bits).toNat &&& 1073741823 % 2 ^ IntKind.i64.bits : Nat)
def hashGo (bs : List Int) : Nat → Nat → Int → Int
  | 0, _, h => h
  | n + 1, j, h => if j < bs.length ∧ j < 4000 then hashGo bs n (j + 1) (hashS h (bs.getD j 0)) else h
def newH (bs : List Int) : Int := hashGo bs (bs.length + 1) 0 (IntKind.i64.wrap (12241 + (bs.length : Int)))
abbrev curB (bs : List Int) (s : Cu) : Blk := ⟨0, false, 1, [aB bs, i6 s.i, i6 s.h], none⟩
theorem spec_l1New_c (bs : List Int) (hb : bs.length < 9223372036854775807) : T 78 [aB bs] [] (.ptr 0 0 0) ([curB bs ⟨0, newH bs⟩]) := by
  refine semT' (S := S0) hm spec_l1New_ok (Nat.le_of_ble_eq_true rfl) ?_
  unfold spec_l1New; dsimp only
  simp
  refine WLoop_fam (fun p : Nat × Int => [(0, aB bs), (3, i6 p.2), (4, i6 p.1)]) (fun _ => []) (fun p => bs.length - p.1)
    (fun p => p.1 ≤ bs.length ∧ newH bs = hashGo bs (bs.length + 1 - p.1) p.1 p.2) ?_ (0, IntKind.i64.wrap (12241 + (bs.length : Int))) ⟨Nat.zero_le _, rfl⟩
  rintro ⟨j, h'⟩ ⟨hj, hf⟩ ih
  simp only at hj hf
  obtain ⟨k, hk⟩ : ∃ k, bs.length + 1 - j = k + 1 := ⟨bs.length - j, by omega⟩
  rw [hk] at hf
  simp
  refine br_intro' (fun h => ?_) (fun h => ?_) <;> (have h0 := h) <;> (try simp at h) <;> try simp [h0, h]
  · have h9 := h
    have hw : IntKind.i64.wrap ((j : Int) + 1) = j + 1 := wrap64 (by omega) (by omega)
    refine br_intro' (fun g => ?_) (fun g => ?_) <;> simp at g <;> simp [g]
    · simp [h9]
      rw [hw]
      refine ih (j + 1, hashS h' bs[j]) ⟨h9, ?_⟩ (by simp; omega)
      have hk2 : bs.length + 1 - (j + 1) = k := by omega
      simp only [hk2]
      rw [hf, hashGo, if_pos ⟨h9, by omega⟩]
      simp [h9]
    · have e : newH bs = h' := by rw [hf, hashGo, if_neg (by omega)]
      rw [e]
      exact LeV.refl _ _ _
  · have e : newH bs = h' := by rw [hf, hashGo, if_neg (by omega)]
    rw [e]
    exact LeV.refl _ _ _
theorem spec_l1New_k {bs : List Int} (hb : bs.length < 9223372036854775807) {S : FuncId → Bool} {H : List Blk} {K : A → Dl → Prop} {zs : List A} (hS : S 78 = false) (hv : viewL (viewA 8 H) zs = some [aB bs]) (ho : noOwns zs = true ∨ nosl (.ptr 0 0 0) = true ∧ noslBlks ([curB bs ⟨0, newH bs⟩]) = true) (hK : K (shiftA H.length (.ptr 0 0 0)) (.news (([curB bs ⟨0, newH bs⟩]).map (shiftB H.length)))) : @WCall' Go.Proofs.Try.prog S 78 zs H ⟨K⟩ :=
  WCall_ro' hS hv (spec_l1New_c bs hb) rfl ho hK
/-- What is drawn for a link: a pool, a link and a term. -/
def seqF (bs : List Int) (s : Cu) (x : Int) : Int × Cu := if (onceF bs s 12).1 then pickF bs (onceF bs s 12).2 [-1, 19, 20, 21] else (x, (onceF bs s 12).2)
structure Dr where
  pool : List Nd
  link : Lk
  term : Int
def drF5 (bs : List Int) (p : List Nd) (l : Lk) (t : Int) (s : Cu) : Dr :=
  if (onceF bs s 12).1 = true ∧ poolF p = true then ⟨(addF p ⟨1, 8, 0⟩).1, l, (addF p ⟨1, 8, 0⟩).2⟩ else ⟨p, l, t⟩
def drF4 (bs : List Int) (p : List Nd) (l : Lk) (t : Int × Cu) : Dr := drF5 bs p l t.1 t.2
def drF3b (bs : List Int) (p : List Nd) (k : Int) (o : Bool) (q : Int) (e : Int × Cu) : Dr := drF4 bs p ⟨k, e.1, q, o⟩ (termF bs e.2 p.length)
def drF3 (bs : List Int) (p : List Nd) (k e : Int) (o : Bool) (q : Int × Cu) : Dr := drF3b bs p k o q.1 (seqF bs q.2 e)
def drF2c (bs : List Int) (p : List Nd) (k e q : Int) (o : Bool × Cu) : Dr := drF3 bs p k e o.1 (seqF bs o.2 q)
def drF2b (bs : List Int) (p : List Nd) (k e : Int) (q : Int × Cu) : Dr := drF2c bs p k e q.1 (onceF bs q.2 9)
def drF2a (bs : List Int) (p : List Nd) (k : Int) (e : Int × Cu) : Dr := drF2b bs p k e.1 (belowF bs e.2 4)
def drF2 (bs : List Int) (p : List Nd) (k : Int × Cu) : Dr := drF2a bs p k.1 (belowF bs k.2 3)
def drF1 (bs : List Int) (a : List Nd × Cu) : Dr := drF2 bs a.1 (termF bs a.2 a.1.length)
def drF (bs : List Int) : Dr := drF1 bs (anyF bs ⟨0, newH bs⟩)
theorem cur_callR {f : FuncId} {S : FuncId → Bool} {G : List Blk} {K : A → Dl → Prop} (hS : S f = true) (cb : Nat) (bs : List Int) (s s' : Cu) {zs : List A} {r : A} (hG : G[cb]? = some (curB bs s))
    (hf : T f zs (cur G cb bs s) r (cur G cb bs s')) (hK : K r (.full [cb] (cur G cb bs s'))) : @WCall' Go.Proofs.Try.prog S f zs G ⟨K⟩ := cur_call hS cb bs s s' (by
      apply List.ext_getElem?
      intro i
      by_cases e : cb = i
      · subst e
        rw [hG]
        simp only [cur]
        rw [List.getElem?_set_self (List.getElem?_eq_some_iff.1 hG).1]
      · simp only [cur]
        rw [List.getElem?_set_ne e]) hf hK
theorem drF5_len (bs : List Int) (p : List Nd) (l : Lk) (t : Int) (s : Cu) (h : p.length ≤ 501) : (drF5 bs p l t s).pool.length ≤ 501 := by
  unfold drF5
  split
  · rename_i g
    have := poolF_len (addF_pool ⟨1, 8, 0⟩ g.2)
    simp only
    omega
  · exact h
theorem drF_len (bs : List Int) : (drF bs).pool.length ≤ 501 := drF5_len _ _ _ _ _ (anyF_len _ _)
theorem fit_u {cs : List A} (h : Fit (.i .u8) cs) : ∃ n : Int, cs = [.int .u8 n] ∧ True := by
  obtain ⟨n, rfl, hn⟩ := h
  exact ⟨n, rfl, trivial⟩
theorem arg_by {x : A} (h : FitA (.sl (.i .u8)) x) : ∃ bs : List Int, x = aB bs ∧ bs.length < 9223372036854775808 := by
  obtain ⟨xs, e, h1, _⟩ := fit_sl (f := fun n => [A.int .u8 n]) (fun r hr => fit_u hr) (show Fit (.sl (.i .u8)) [x] from h)
  refine ⟨xs, ?_, h1⟩
  simp only [List.cons.injEq, and_true] at e
  rw [e]
  simp only [aB, bytes]
  rw [List.map_eq_flatMap]
end Go.Proofs.Ytfbfebaajdihiaa.C

set_option linter.unusedVariables false
set_option linter.unusedSimpArgs false
namespace Go.Proofs.Ytfbfebaajdihiaa.C
open Go.Sym Go.Proofs.Ytfbfebaajdihiaa.I
def nodeAt (ns : List Nd) (t : Int) : Nd := ns.getD t.toNat ⟨0, 0, 0⟩
theorem nodeAt_nat {ns : List Nd} {j : Nat} (h : j < ns.length) : nodeAt ns j = ns[j] := by simp [nodeAt, h]
/-- The parts of a node of a right pool stand before it. -/
theorem parts_in {ns : List Nd} (hp : poolF ns = true) {j : Nat} (h : j < ns.length) (hk : partsF ns[j].k = 2) : (∃ a : Nat, ns[j].a = a ∧ a < j) ∧ ∃ b : Nat, ns[j].b = b ∧ b < j := by
  have := (okFrom_all hp h).1
  simp [rightF, hk, inF] at this
  exact ⟨⟨ns[j].a.toNat, by omega, by omega⟩, ns[j].b.toNat, by omega, by omega⟩
theorem part_in {ns : List Nd} (hp : poolF ns = true) {j : Nat} (h : j < ns.length) (hk : partsF ns[j].k = 1) : ∃ a : Nat, ns[j].a = a ∧ a < j := by
  have := (okFrom_all hp h).1
  simp [rightF, hk, inF] at this
  exact ⟨ns[j].a.toNat, by omega, by omega⟩
theorem parts_kind {ns : List Nd} (hp : poolF ns = true) {j : Nat} (h : j < ns.length) : partsF ns[j].k = 0 ∨ partsF ns[j].k = 1 ∨ partsF ns[j].k = 2 := by
  have := (okFrom_all hp h).1
  unfold rightF at this
  split at this
  · exact .inl ‹_›
  · split at this
    · exact .inr (.inl ‹_›)
    · split at this
      · exact .inr (.inr ‹_›)
      · cases this
theorem hasF_of {m j : Nat} (h : j < m) : hasF m j = true := by simp [hasF, inF]; omega
theorem hasN {m : Nat} {t : Int} (h : hasF m t = true) : ∃ j : Nat, t = j ∧ j < m := by
  simp [hasF, inF] at h
  exact ⟨t.toNat, by omega, by omega⟩
abbrev jblk (xs : List Int) : Blk := ⟨xs.length, decide (xs.length = 0), 1, ints xs, none⟩
abbrev jref (b : Nat) (xs : List Int) : A := .ref b xs.length 0 xs.length
@[simp] theorem ints_take' (xs : List Int) : (ints xs).take xs.length = ints xs := List.take_of_length_le (by simp)
@[simp] theorem ints_tells' (H H' : List Blk) (g : List (Option Nat)) (xs : List Int) : Tells H H' g (ints xs) (ints xs) := Tells_scals _ (ints_scals xs)
@[simp] theorem ints_one (xs : List Int) : (ints xs).all A.one = true := one_scals _ (ints_scals xs)
@[simp] theorem ints_inAs (m : Nat) (xs : List Int) : inAs m (ints xs) = true := inAs_scals _ (ints_scals xs)
@[simp] theorem ints_nil : ints [] = [] := rfl
theorem ints_snoc (xs : List Int) (x : Int) : ints (xs ++ [x]) = ints xs ++ [i6 x] := by simp [ints]
/-- The parts of a node. -/
def partsL (n : Nd) : List Int := if partsF n.k = 1 then [n.a] else if partsF n.k = 2 then [n.a, n.b] else []
theorem impl_Pool_parts_c (ns : List Nd) (r : List A) (t : Int) (hl : ns.length < 9223372036854775807) (ht : hasF ns.length t = true) : T 110 [.pt (.sl ns.length (enc ns) :: r), i6 t] [] (jref 0 (partsL (nodeAt ns t))) ([jblk (partsL (nodeAt ns t))]) := by
  refine semT' (S := S0) hm impl_Pool_parts_ok (Nat.le_of_ble_eq_true rfl) ?_
  unfold impl_Pool_parts; dsimp only
  obtain ⟨j, rfl, hj⟩ := hasN ht
  obtain ⟨q, hr⟩ := enc_at hj
  have h3 : 3 ≤ ns.length * 3 - j * 3 := by omega
  rw [nodeAt_nat hj]
  simp [h3, hr, hj]
  refine impl_count_call rfl ?_; simp
  refine br_intro' (fun h => ?_) (fun h => ?_) <;> simp at h <;> simp [h]
  · rw [show partsL ns[j] = [ns[j].a] from if_pos h]
    first | (refine LeV.tell [none] ?_ ?_ ?_ <;> (simp [ints]; done)) | (refine LeV.tell [some 0] ?_ ?_ ?_ <;> (simp [ints]; done)) | (refine LeV.tell [some 1] ?_ ?_ ?_ <;> (simp [ints]; done)) | (refine LeV.tell [some 2] ?_ ?_ ?_ <;> (simp [ints]; done)) | (refine LeV.tell [some 3] ?_ ?_ ?_ <;> (simp [ints]; done)) | (refine LeV.tell [some 4] ?_ ?_ ?_ <;> (simp [ints]; done)) | (refine LeV.tell [some 5] ?_ ?_ ?_ <;> (simp [ints]; done)) | (refine LeV.tell [some 6] ?_ ?_ ?_ <;> (simp [ints]; done)) | (refine LeV.tell [some 7] ?_ ?_ ?_ <;> (simp [ints]; done)) | (refine LeV.tell [some 8] ?_ ?_ ?_ <;> (simp [ints]; done)) | (refine LeV.tell [some 9] ?_ ?_ ?_ <;> (simp [ints]; done)) | (refine LeV.tell [some 10] ?_ ?_ ?_ <;> (simp [ints]; done)) | (refine LeV.tell [some 11] ?_ ?_ ?_ <;> (simp [ints]; done)) | (refine LeV.tell [some 12] ?_ ?_ ?_ <;> (simp [ints]; done)) | (refine LeV.tell [some 13] ?_ ?_ ?_ <;> (simp [ints]; done)) | (refine LeV.tell [some 14] ?_ ?_ ?_ <;> (simp [ints]; done)) | (refine LeV.tell [some 15] ?_ ?_ ?_ <;> (simp [ints]; done))
  refine br_intro' (fun h1 => ?_) (fun h1 => ?_) <;> simp at h1 <;> simp [h1]
  · rw [show partsL ns[j] = [ns[j].a, ns[j].b] by simp [partsL, h, h1]]
    first | (refine LeV.tell [none] ?_ ?_ ?_ <;> (simp [ints]; done)) | (refine LeV.tell [some 0] ?_ ?_ ?_ <;> (simp [ints]; done)) | (refine LeV.tell [some 1] ?_ ?_ ?_ <;> (simp [ints]; done)) | (refine LeV.tell [some 2] ?_ ?_ ?_ <;> (simp [ints]; done)) | (refine LeV.tell [some 3] ?_ ?_ ?_ <;> (simp [ints]; done)) | (refine LeV.tell [some 4] ?_ ?_ ?_ <;> (simp [ints]; done)) | (refine LeV.tell [some 5] ?_ ?_ ?_ <;> (simp [ints]; done)) | (refine LeV.tell [some 6] ?_ ?_ ?_ <;> (simp [ints]; done)) | (refine LeV.tell [some 7] ?_ ?_ ?_ <;> (simp [ints]; done)) | (refine LeV.tell [some 8] ?_ ?_ ?_ <;> (simp [ints]; done)) | (refine LeV.tell [some 9] ?_ ?_ ?_ <;> (simp [ints]; done)) | (refine LeV.tell [some 10] ?_ ?_ ?_ <;> (simp [ints]; done)) | (refine LeV.tell [some 11] ?_ ?_ ?_ <;> (simp [ints]; done)) | (refine LeV.tell [some 12] ?_ ?_ ?_ <;> (simp [ints]; done)) | (refine LeV.tell [some 13] ?_ ?_ ?_ <;> (simp [ints]; done)) | (refine LeV.tell [some 14] ?_ ?_ ?_ <;> (simp [ints]; done)) | (refine LeV.tell [some 15] ?_ ?_ ?_ <;> (simp [ints]; done))
  · rw [show partsL ns[j] = [] by simp [partsL, h, h1]]
    first | (refine LeV.tell [none] ?_ ?_ ?_ <;> (simp [ints]; done)) | (refine LeV.tell [some 0] ?_ ?_ ?_ <;> (simp [ints]; done)) | (refine LeV.tell [some 1] ?_ ?_ ?_ <;> (simp [ints]; done)) | (refine LeV.tell [some 2] ?_ ?_ ?_ <;> (simp [ints]; done)) | (refine LeV.tell [some 3] ?_ ?_ ?_ <;> (simp [ints]; done)) | (refine LeV.tell [some 4] ?_ ?_ ?_ <;> (simp [ints]; done)) | (refine LeV.tell [some 5] ?_ ?_ ?_ <;> (simp [ints]; done)) | (refine LeV.tell [some 6] ?_ ?_ ?_ <;> (simp [ints]; done)) | (refine LeV.tell [some 7] ?_ ?_ ?_ <;> (simp [ints]; done)) | (refine LeV.tell [some 8] ?_ ?_ ?_ <;> (simp [ints]; done)) | (refine LeV.tell [some 9] ?_ ?_ ?_ <;> (simp [ints]; done)) | (refine LeV.tell [some 10] ?_ ?_ ?_ <;> (simp [ints]; done)) | (refine LeV.tell [some 11] ?_ ?_ ?_ <;> (simp [ints]; done)) | (refine LeV.tell [some 12] ?_ ?_ ?_ <;> (simp [ints]; done)) | (refine LeV.tell [some 13] ?_ ?_ ?_ <;> (simp [ints]; done)) | (refine LeV.tell [some 14] ?_ ?_ ?_ <;> (simp [ints]; done)) | (refine LeV.tell [some 15] ?_ ?_ ?_ <;> (simp [ints]; done))
theorem impl_Pool_parts_k {ns : List Nd} {r : List A} {t : Int} (hl : ns.length < 9223372036854775807) (ht : hasF ns.length t = true) {S : FuncId → Bool} {H : List Blk} {K : A → Dl → Prop} {zs : List A} (hS : S 110 = false) (hv : viewL (viewA 8 H) zs = some [.pt (.sl ns.length (enc ns) :: r), i6 t]) (ho : noOwns zs = true ∨ nosl (jref 0 (partsL (nodeAt ns t))) = true ∧ noslBlks ([jblk (partsL (nodeAt ns t))]) = true) (hK : K (shiftA H.length (jref 0 (partsL (nodeAt ns t)))) (.news (([jblk (partsL (nodeAt ns t))]).map (shiftB H.length)))) : @WCall' Go.Proofs.Try.prog S 110 zs H ⟨K⟩ :=
  WCall_ro' hS hv (impl_Pool_parts_c ns r t hl ht) rfl ho hK
/-- Looking for a number. -/
def idxF : List Int → Int → Int → Int
  | [], _, _ => -1
  | x :: xs, t, i => if x = t then i else idxF xs t (i + 1)
theorem idxF_neg (t : Int) : ∀ (xs : List Int) (i : Int), 0 ≤ i → (0 ≤ idxF xs t i ↔ t ∈ xs)
  | [], i, _ => by simp [idxF]
  | x :: xs, i, hi => by
    unfold idxF
    by_cases e : x = t
    · rw [if_pos e]; simp [e, hi]
    · rw [if_neg e, idxF_neg t xs (i + 1) (by omega)]
      simp only [List.mem_cons]
      exact ⟨.inr, fun h => h.resolve_left fun q => e q.symm⟩
def hasK (ks : List Int) (t : Int) : Bool := decide (t ∈ ks)
theorem slices_Index_int_c (ks : List Int) (t : Int) (hl : ks.length < 9223372036854775807) : T 85 [aI ks, i6 t] [] (i6 (idxF ks t 0)) ([]) := by
  refine semT' (S := S0) hm slices_Index_int_ok (Nat.le_of_ble_eq_true rfl) ?_
  unfold slices_Index_int; dsimp only
  simp
  refine WLoop_fam (fun j : Nat => [(0, aI ks), (1, i6 t), (7, i6 ks.length), (8, i6 j)]) (fun _ => []) (fun j => ks.length - j)
    (fun j => j ≤ ks.length ∧ idxF ks t 0 = idxF (ks.drop j) t j) ?_ 0 ⟨Nat.zero_le _, rfl⟩
  intro j ⟨hj, hf⟩ ih
  simp
  refine br_intro' (fun h => ?_) (fun h => ?_) <;> (have h0 := h) <;> (try simp at h) <;> try simp [h0, h]
  · have hd : ks.drop j = ks[j] :: ks.drop (j + 1) := List.drop_eq_getElem_cons h
    have hw : IntKind.i64.wrap ((j : Int) + 1) = j + 1 := wrap64 (by omega) (by omega)
    have h' := h
    try simp [h']
    refine br_intro' (fun g => ?_) (fun g => ?_) <;> (try simp at g) <;> (try simp [g])
    · have e : ks[j] = t := by first | exact g | exact g.symm
      have hi : idxF ks t 0 = j := by rw [hf, hd, idxF, if_pos e]
      exact LeV.ro rfl rfl (by subst e; rw [hi]; rfl)
    · have e : ¬ ks[j] = t := fun q => by first | exact g q | exact g q.symm
      rw [hw]
      refine ih (j + 1) ⟨h', ?_⟩ (by omega)
      rw [hf, hd, idxF, if_neg e]
      rfl
  · have hi : idxF ks t 0 = -1 := by rw [hf, List.drop_of_length_le h]; rfl
    exact LeV.ro rfl rfl (by rw [hi]; rfl)
theorem slices_Index_int_call {ks : List Int} {t : Int} (hl : ks.length < 9223372036854775807) {S : FuncId → Bool} {H : List Blk} {K : A → Dl → Prop} (hS : S 85 = false) (hK : K (i6 (idxF ks t 0)) (.news [])) : @WCall' Go.Proofs.Try.prog S 85 [aI ks, i6 t] H ⟨K⟩ :=
  WCall_pure hS (slices_Index_int_c ks t hl) (by simp) (by simp) (by simp) hK
theorem slices_Index_int_k {ks : List Int} {t : Int} (hl : ks.length < 9223372036854775807) {S : FuncId → Bool} {H : List Blk} {K : A → Dl → Prop} {zs : List A} (hS : S 85 = false) (hv : viewL (viewA 8 H) zs = some [aI ks, i6 t]) (ho : noOwns zs = true ∨ nosl (i6 (idxF ks t 0)) = true) (hK : K (i6 (idxF ks t 0)) (.news [])) : @WCall' Go.Proofs.Try.prog S 85 zs H ⟨K⟩ :=
  WCall_pure hS (slices_Index_int_c ks t hl) hv ho (by simp) hK
theorem slices_Contains_int_c (ks : List Int) (t : Int) (hl : ks.length < 9223372036854775807) : T 57 [aI ks, i6 t] [] (.bool (hasK ks t)) ([]) := by
  refine semT' (S := S0) hm slices_Contains_int_ok (Nat.le_of_ble_eq_true rfl) ?_
  unfold slices_Contains_int; dsimp only
  simp
  refine slices_Index_int_call (ks := ks) (t := t) hl rfl ?_; simp
  have := idxF_neg t ks 0 (Int.le_refl 0)
  exact LeV.ro rfl rfl (by simp [hasK, this])
theorem slices_Contains_int_call {ks : List Int} {t : Int} (hl : ks.length < 9223372036854775807) {S : FuncId → Bool} {H : List Blk} {K : A → Dl → Prop} (hS : S 57 = false) (hK : K (.bool (hasK ks t)) (.news [])) : @WCall' Go.Proofs.Try.prog S 57 [aI ks, i6 t] H ⟨K⟩ :=
  WCall_pure hS (slices_Contains_int_c ks t hl) (by simp) (by simp) (by simp) hK
theorem slices_Contains_int_k {ks : List Int} {t : Int} (hl : ks.length < 9223372036854775807) {S : FuncId → Bool} {H : List Blk} {K : A → Dl → Prop} {zs : List A} (hS : S 57 = false) (hv : viewL (viewA 8 H) zs = some [aI ks, i6 t]) (ho : noOwns zs = true ∨ nosl (.bool (hasK ks t)) = true) (hK : K (.bool (hasK ks t)) (.news [])) : @WCall' Go.Proofs.Try.prog S 57 zs H ⟨K⟩ :=
  WCall_pure hS (slices_Contains_int_c ks t hl) hv ho (by simp) hK
theorem spec_KnowHas_c (ks : List Int) (t : Int) (hl : ks.length < 9223372036854775807) : T 95 [aI ks, i6 t] [] (.bool (hasK ks t)) ([]) := by
  refine semT' (S := S0) hm spec_KnowHas_ok (Nat.le_of_ble_eq_true rfl) ?_
  unfold spec_KnowHas; dsimp only
  have hk := idxF_neg t ks 0 (Int.le_refl 0)
  simp
  refine WLoop_fam (fun j : Nat => [(0, aI ks), (1, i6 t), (5, i6 j)]) (fun _ => []) (fun j => ks.length - j)
    (fun j => j ≤ ks.length ∧ idxF ks t 0 = idxF (ks.drop j) t j) ?_ 0 ⟨Nat.zero_le _, rfl⟩
  intro j ⟨hj, hf⟩ ih
  simp
  refine br_intro' (fun h => ?_) (fun h => ?_) <;> (have h0 := h) <;> (try simp at h) <;> try simp [h0, h]
  · have hd : ks.drop j = ks[j] :: ks.drop (j + 1) := List.drop_eq_getElem_cons h
    have hw : IntKind.i64.wrap ((j : Int) + 1) = j + 1 := wrap64 (by omega) (by omega)
    have h' := h
    try simp [h']
    refine br_intro' (fun g => ?_) (fun g => ?_) <;> (try simp at g) <;> (try simp [g])
    · have e : ks[j] = t := by first | exact g | exact g.symm
      have hi : idxF ks t 0 = j := by rw [hf, hd, idxF, if_pos e]
      exact LeV.ro rfl rfl (by subst e; simp [hasK])
    · have e : ¬ ks[j] = t := fun q => by first | exact g q | exact g q.symm
      rw [hw]
      refine ih (j + 1) ⟨h', ?_⟩ (by omega)
      rw [hf, hd, idxF, if_neg e]
      rfl
  · have hi : idxF ks t 0 = -1 := by rw [hf, List.drop_of_length_le h]; rfl
    exact LeV.ro rfl rfl (by rw [hi] at hk; simp [hasK]; exact fun q => by have := hk.2 q; omega)
theorem spec_KnowHas_call {ks : List Int} {t : Int} (hl : ks.length < 9223372036854775807) {S : FuncId → Bool} {H : List Blk} {K : A → Dl → Prop} (hS : S 95 = false) (hK : K (.bool (hasK ks t)) (.news [])) : @WCall' Go.Proofs.Try.prog S 95 [aI ks, i6 t] H ⟨K⟩ :=
  WCall_pure hS (spec_KnowHas_c ks t hl) (by simp) (by simp) (by simp) hK
theorem spec_KnowHas_k {ks : List Int} {t : Int} (hl : ks.length < 9223372036854775807) {S : FuncId → Bool} {H : List Blk} {K : A → Dl → Prop} {zs : List A} (hS : S 95 = false) (hv : viewL (viewA 8 H) zs = some [aI ks, i6 t]) (ho : noOwns zs = true ∨ nosl (.bool (hasK ks t)) = true) (hK : K (.bool (hasK ks t)) (.news [])) : @WCall' Go.Proofs.Try.prog S 95 zs H ⟨K⟩ :=
  WCall_pure hS (spec_KnowHas_c ks t hl) hv ho (by simp) hK
def pubF (x : Int) : Bool := inF x 0 49
theorem spec_IsPublic_c (x : Int)  : T 119 [i6 x] [] (.bool (pubF x)) ([]) := by
  refine semT' (S := S0) hm spec_IsPublic_ok (Nat.le_of_ble_eq_true rfl) ?_
  unfold spec_IsPublic; dsimp only
  simp
  refine spec_l1In_call rfl ?_; simp
  exact LeV.ro rfl rfl (by simp [pubF])
theorem spec_IsPublic_call {x : Int}  {S : FuncId → Bool} {H : List Blk} {K : A → Dl → Prop} (hS : S 119 = false) (hK : K (.bool (pubF x)) (.news [])) : @WCall' Go.Proofs.Try.prog S 119 [i6 x] H ⟨K⟩ :=
  WCall_pure hS (spec_IsPublic_c x) (by simp) (by simp) (by simp) hK
theorem spec_IsPublic_k {x : Int}  {S : FuncId → Bool} {H : List Blk} {K : A → Dl → Prop} {zs : List A} (hS : S 119 = false) (hv : viewL (viewA 8 H) zs = some [i6 x]) (ho : noOwns zs = true ∨ nosl (.bool (pubF x)) = true) (hK : K (.bool (pubF x)) (.news [])) : @WCall' Go.Proofs.Try.prog S 119 zs H ⟨K⟩ :=
  WCall_pure hS (spec_IsPublic_c x) hv ho (by simp) hK
theorem impl_IsPublic_c (x : Int)  : T 121 [i6 x] [] (.bool (pubF x)) ([]) := by
  refine semT' (S := S0) hm impl_IsPublic_ok (Nat.le_of_ble_eq_true rfl) ?_
  unfold impl_IsPublic; dsimp only
  simp
  refine impl_inRange_call rfl ?_; simp
  exact LeV.ro rfl rfl (by simp [pubF])
theorem impl_IsPublic_call {x : Int}  {S : FuncId → Bool} {H : List Blk} {K : A → Dl → Prop} (hS : S 121 = false) (hK : K (.bool (pubF x)) (.news [])) : @WCall' Go.Proofs.Try.prog S 121 [i6 x] H ⟨K⟩ :=
  WCall_pure hS (impl_IsPublic_c x) (by simp) (by simp) (by simp) hK
theorem impl_IsPublic_k {x : Int}  {S : FuncId → Bool} {H : List Blk} {K : A → Dl → Prop} {zs : List A} (hS : S 121 = false) (hv : viewL (viewA 8 H) zs = some [i6 x]) (ho : noOwns zs = true ∨ nosl (.bool (pubF x)) = true) (hK : K (.bool (pubF x)) (.news [])) : @WCall' Go.Proofs.Try.prog S 121 zs H ⟨K⟩ :=
  WCall_pure hS (impl_IsPublic_c x) hv ho (by simp) hK
theorem kpF_pool {ns : List Nd} {ks : List Int} (h : kpF ns ks = true) : poolF ns = true := by simp [kpF] at h; exact h.1
end Go.Proofs.Ytfbfebaajdihiaa.C

set_option linter.unusedVariables false
set_option linter.unusedSimpArgs false
set_option maxRecDepth 4000
namespace Go.Proofs.Ytfbfebaajdihiaa.C
open Go.Sym Go.Proofs.Ytfbfebaajdihiaa.I
/-- Rows of bools. -/
def bls (kb : List Bool) : List A := kb.map A.bool
@[simp] theorem bls_len (xs : List Bool) : (bls xs).length = xs.length := List.length_map ..
@[simp] theorem bls_scals (xs : List Bool) : scals (bls xs) = true := scals_map _ (fun _ => rfl) xs
@[simp] theorem bls_view (n : Nat) (H : List Blk) (xs : List Bool) : viewL (viewA (n + 1) H) (bls xs) = some (bls xs) := viewL_scals _ (bls_scals xs)
@[simp] theorem bls_noOwns (xs : List Bool) : noOwns (bls xs) = true := noOwns_scals _ (bls_scals xs)
@[simp] theorem bls_nosls (xs : List Bool) : nosls (bls xs) = true := nosls_scals _ (bls_scals xs)
@[simp] theorem bls_shift (n : Nat) (xs : List Bool) : shiftAs n (bls xs) = bls xs := shiftAs_scals _ (bls_scals xs)
@[simp] theorem bls_inAs (m : Nat) (xs : List Bool) : inAs m (bls xs) = true := inAs_scals _ (bls_scals xs)
@[simp] theorem bls_tells (H H' : List Blk) (g : List (Option Nat)) (xs : List Bool) : Tells H H' g (bls xs) (bls xs) := Tells_scals _ (bls_scals xs)
@[simp] theorem bls_one (xs : List Bool) : (bls xs).all A.one = true := one_scals _ (bls_scals xs)
@[simp] theorem bls_take (xs : List Bool) : (bls xs).take xs.length = bls xs := List.take_of_length_le (by simp)
@[simp] theorem bls_nil : bls [] = [] := rfl
@[simp] theorem bls_get (xs : List Bool) (j : Nat) (h : j < (bls xs).length) : (bls xs)[j] = .bool (xs[j]'(by simpa using h)) := by simp [bls]
theorem bls_at {xs : List Bool} {j : Nat} (h : j < xs.length) : (bls xs)[j]? = some (.bool xs[j]) := by simp [bls, h]
theorem bls_set (xs : List Bool) (j : Nat) (b : Bool) : (bls xs).set j (.bool b) = bls (xs.set j b) := by simp [bls, List.map_set]
theorem bls_rep (n : Nat) : bls (List.replicate n false) = List.replicate n (.bool false) := by simp [bls]
theorem bls_snoc (xs : List Bool) (x : Bool) : bls (xs ++ [x]) = bls xs ++ [.bool x] := by simp [bls]
theorem ints_set' (xs : List Int) (j : Nat) (n : Int) : (ints xs).set j (i6 n) = ints (xs.set j n) := by simp [ints, List.map_set]
theorem ints_rep' (n : Nat) : ints (List.replicate n 0) = List.replicate n (i6 0) := by simp [ints]
abbrev aBl (xs : List Bool) : A := .sl xs.length (bls xs)
abbrev bblk (xs : List Bool) : Blk := ⟨xs.length, decide (xs.length = 0), 1, bls xs, none⟩
abbrev bref (b : Nat) (xs : List Bool) : A := .ref b xs.length 0 xs.length
def bv (mk : List Bool) (t : Int) : Bool := mk.getD t.toNat false
theorem bv_nat {mk : List Bool} {j : Nat} (h : j < mk.length) : bv mk j = mk[j] := by simp [bv, h]
/-- A number at its place among others. -/
def putGo (t : Int) : List Int → Bool → List Int
  | [], put => if put then [] else [t]
  | x :: xs, put => if put = false ∧ t < x then t :: x :: putGo t xs true else x :: putGo t xs put
def putF (ks : List Int) (t : Int) : List Int := putGo t ks (hasK ks t)
theorem putGo_len (t : Int) : ∀ (ks : List Int) (put : Bool), ks.length ≤ (putGo t ks put).length ∧ (putGo t ks put).length ≤ ks.length + 1 ∧ (put = true → (putGo t ks put).length = ks.length)
  | [], put => by cases put <;> simp [putGo]
  | x :: xs, put => by
    unfold putGo
    split
    · rename_i h
      have := (putGo_len t xs true).2.2 rfl
      simp [this, h.1]
    · have := putGo_len t xs put
      refine ⟨by simp; omega, by simp; omega, fun h => by simp [this.2.2 h]⟩
theorem spec_l6Put_c (ks : List Int) (t : Int) (hk : ks.length ≤ 4294960000) : T 69 [aI ks, i6 t] [] (jref 0 (putF ks t)) ([jblk (putF ks t)]) := by
  refine semT' (S := S0) hm spec_l6Put_ok (Nat.le_of_ble_eq_true rfl) ?_
  unfold spec_l6Put; dsimp only
  simp
  refine spec_KnowHas_call (ks := ks) (t := t) (by omega) rfl ?_; simp
  refine WLoop_virt 1 [(0, aI ks), (1, i6 t), (5, A.ref 0 0 0 0), (6, A.bool (hasK ks t)), (7, i6 0)] ?_ ?_
  · intro s y hy
    simp [Sym.get] at hy ⊢
    (repeat' split at hy) <;> simp_all
  refine WLoop_fam (fun p : Nat × List Int × Bool => [(0, aI ks), (1, i6 t), (5, jref 0 p.2.1), (6, A.bool p.2.2), (7, i6 p.1)]) (fun p => [jblk p.2.1]) (fun p => ks.length - p.1)
    (fun p => p.1 ≤ ks.length ∧ p.2.1.length ≤ p.1 + 1 ∧ (p.2.2 = false → p.2.1.length ≤ p.1) ∧ putF ks t = p.2.1 ++ putGo t (ks.drop p.1) p.2.2) ?_ (0, [], hasK ks t) ⟨Nat.zero_le _, by simp, by simp, by simp [putF]⟩
  rintro ⟨j, out, put⟩ ⟨hj, hol, hol2, hpf⟩ ih
  simp only at hj hol hol2 hpf
  simp
  refine br_intro' (fun u => ?_) (fun u => ?_) <;> (have u0 := u) <;> simp at u <;> simp [u0, u]
  · have hd : ks.drop j = ks[j] :: ks.drop (j + 1) := List.drop_eq_getElem_cons u
    have hw := wrap_succ (n := j) (by omega)
    cases put with
    | true =>
      simp [u]
      repeat (refine ck_intro' (by first | omega | (simp; omega) | kernel_rfl) ?_; try simp [u])
      rw [hw]
      rw [show A.ref 0 (out.length + 1) 0 (out.length + 1) = jref 0 (out ++ [ks[j]]) by simp]
      refine WLoop_drop [jblk (out ++ [ks[j]])] [_] (by simp [ints_snoc]; exact rfl) (by simp) (by simp) (by simp) ?_
      exact ih (j + 1, out ++ [ks[j]], true) ⟨u, by simp; omega, by simp, by rw [hpf, hd]; simp [putGo]⟩ (by simp; omega)
    | false =>
      simp [u]
      refine br_intro' (fun g => ?_) (fun g => ?_) <;> (have g0 := g) <;> simp only [decide_eq_true_eq, decide_eq_false_iff_not] at g <;> simp [g0, g]
      · have := hol2 rfl
        repeat (refine ck_intro' (by first | omega | (simp; omega) | kernel_rfl) ?_; try simp [u])
        rw [hw]
        rw [show A.ref 0 (out.length + 1 + 1) 0 (out.length + 1 + 1) = jref 0 (out ++ [t, ks[j]]) by simp]
        refine WLoop_drop [jblk (out ++ [t, ks[j]])] [_, _] (by simp [ints]; exact ⟨rfl, rfl⟩) (by simp) (by simp) (by simp) ?_
        exact ih (j + 1, out ++ [t, ks[j]], true) ⟨u, by simp; omega, by simp, by rw [hpf, hd]; simp [putGo, g]⟩ (by simp; omega)
      · have := hol2 rfl
        repeat (refine ck_intro' (by first | omega | (simp; omega) | kernel_rfl) ?_; try simp [u])
        rw [hw]
        rw [show A.ref 0 (out.length + 1) 0 (out.length + 1) = jref 0 (out ++ [ks[j]]) by simp]
        refine WLoop_drop [jblk (out ++ [ks[j]])] [_] (by simp [ints_snoc]; exact rfl) (by simp) (by simp) (by simp) ?_
        exact ih (j + 1, out ++ [ks[j]], false) ⟨u, by simp; omega, by simp; omega, by rw [hpf, hd]; simp [putGo, g]⟩ (by simp; omega)
  · have hd : ks.drop j = [] := List.drop_of_length_le (by omega)
    rw [hd] at hpf
    cases put with
    | true =>
      simp
      rw [show putF ks t = out by rw [hpf]; simp [putGo]]
      first | (refine LeV.tell [none] ?_ ?_ ?_ <;> (simp; done)) | (refine LeV.tell [some 0] ?_ ?_ ?_ <;> (simp; done)) | (refine LeV.tell [some 1] ?_ ?_ ?_ <;> (simp; done)) | (refine LeV.tell [some 2] ?_ ?_ ?_ <;> (simp; done)) | (refine LeV.tell [some 3] ?_ ?_ ?_ <;> (simp; done)) | (refine LeV.tell [some 4] ?_ ?_ ?_ <;> (simp; done)) | (refine LeV.tell [some 5] ?_ ?_ ?_ <;> (simp; done)) | (refine LeV.tell [some 6] ?_ ?_ ?_ <;> (simp; done)) | (refine LeV.tell [some 7] ?_ ?_ ?_ <;> (simp; done)) | (refine LeV.tell [some 8] ?_ ?_ ?_ <;> (simp; done)) | (refine LeV.tell [some 9] ?_ ?_ ?_ <;> (simp; done)) | (refine LeV.tell [some 10] ?_ ?_ ?_ <;> (simp; done)) | (refine LeV.tell [some 11] ?_ ?_ ?_ <;> (simp; done)) | (refine LeV.tell [some 12] ?_ ?_ ?_ <;> (simp; done)) | (refine LeV.tell [some 13] ?_ ?_ ?_ <;> (simp; done)) | (refine LeV.tell [some 14] ?_ ?_ ?_ <;> (simp; done)) | (refine LeV.tell [some 15] ?_ ?_ ?_ <;> (simp; done))
    | false =>
      simp
      repeat (refine ck_intro' (by first | omega | (simp; omega) | kernel_rfl) ?_; try simp [u])
      rw [show putF ks t = out ++ [t] by rw [hpf]; simp [putGo]]
      exact LeV.tell [some 0] (by simp) (by simp [ints_snoc]; exact Tells_scals _ (by simp [scals_app, scals, scal])) (by simp)
theorem spec_l6Put_k {ks : List Int} {t : Int} (hk : ks.length ≤ 4294960000) {S : FuncId → Bool} {H : List Blk} {K : A → Dl → Prop} {zs : List A} (hS : S 69 = false) (hv : viewL (viewA 8 H) zs = some [aI ks, i6 t]) (ho : noOwns zs = true ∨ nosl (jref 0 (putF ks t)) = true ∧ noslBlks ([jblk (putF ks t)]) = true) (hK : K (shiftA H.length (jref 0 (putF ks t))) (.news (([jblk (putF ks t)]).map (shiftB H.length)))) : @WCall' Go.Proofs.Try.prog S 69 zs H ⟨K⟩ :=
  WCall_ro' hS hv (spec_l6Put_c ks t hk) rfl ho hK
theorem putF_len (ks : List Int) (t : Int) : ks.length ≤ (putF ks t).length ∧ (putF ks t).length ≤ ks.length + 1 := ⟨(putGo_len t ks _).1, (putGo_len t ks _).2.1⟩
theorem partsF_0' {k : Int} (h : partsF k = 0) : k = 1 := by
  unfold partsF at h
  split at h
  · assumption
  · split at h
    · omega
    · split at h <;> omega
/-- Whether the power of a term is one that can be made. -/
def powF (ns : List Nd) (mk : List Bool) (ks : List Int) (x : Int) : Bool := decide (0 ≤ findF ns ⟨7, x, 0⟩ 0) && (bv mk x || hasK ks (findF ns ⟨7, x, 0⟩ 0))
theorem spec_l7Power_c (ns : List Nd) (mk : List Bool) (ks : List Int) (x : Int) (hl : ns.length < 9223372036854775807) (hk : ks.length < 9223372036854775807) (hx : hasF mk.length x = true) : T 120 [aP ns, aBl mk, aI ks, i6 x] [] (.bool (powF ns mk ks x)) ([]) := by
  refine semT' (S := S0) hm spec_l7Power_ok (Nat.le_of_ble_eq_true rfl) ?_
  unfold spec_l7Power; dsimp only
  obtain ⟨j, rfl, hj⟩ := hasN hx
  simp
  refine spec_l1Find_call (ns := ns) (n := ⟨7, j, 0⟩) hl rfl ?_; simp
  have eb := bv_nat hj
  refine br_intro' (fun g => ?_) (fun g => ?_) <;> (have g0 := g) <;> simp only [decide_eq_true_eq, decide_eq_false_iff_not] at g <;> simp [g0, g]
  · simp [hj]
    refine br_intro' (fun f => ?_) (fun f => ?_) <;> simp [f]
    · exact LeV.ro rfl rfl (by simp [powF, g, eb, f])
    · refine spec_KnowHas_call (ks := ks) (t := findF ns ⟨7, j, 0⟩ 0) hk rfl ?_; simp
      exact LeV.ro rfl rfl (by simp [powF, g, eb, f])
  · exact LeV.ro rfl rfl (by simp [powF, g])
theorem spec_l7Power_call {ns : List Nd} {mk : List Bool} {ks : List Int} {x : Int} (hl : ns.length < 9223372036854775807) (hk : ks.length < 9223372036854775807) (hx : hasF mk.length x = true) {S : FuncId → Bool} {H : List Blk} {K : A → Dl → Prop} (hS : S 120 = false) (hK : K (.bool (powF ns mk ks x)) (.news [])) : @WCall' Go.Proofs.Try.prog S 120 [aP ns, aBl mk, aI ks, i6 x] H ⟨K⟩ :=
  WCall_pure hS (spec_l7Power_c ns mk ks x hl hk hx) (by simp) (by simp) (by simp) hK
theorem spec_l7Power_k {ns : List Nd} {mk : List Bool} {ks : List Int} {x : Int} (hl : ns.length < 9223372036854775807) (hk : ks.length < 9223372036854775807) (hx : hasF mk.length x = true) {S : FuncId → Bool} {H : List Blk} {K : A → Dl → Prop} {zs : List A} (hS : S 120 = false) (hv : viewL (viewA 8 H) zs = some [aP ns, aBl mk, aI ks, i6 x]) (ho : noOwns zs = true ∨ nosl (.bool (powF ns mk ks x)) = true) (hK : K (.bool (powF ns mk ks x)) (.news [])) : @WCall' Go.Proofs.Try.prog S 120 zs H ⟨K⟩ :=
  WCall_pure hS (spec_l7Power_c ns mk ks x hl hk hx) hv ho (by simp) hK
/-- Whether a term is public, or can be made of its parts. -/
def madeB (ns : List Nd) (mk : List Bool) (t : Int) (ks : List Int) : Bool :=
  if (nodeAt ns t).k = 1 then pubF (nodeAt ns t).a
  else if partsF (nodeAt ns t).k = 1 then bv mk (nodeAt ns t).a
  else if bv mk (nodeAt ns t).a = true ∧ bv mk (nodeAt ns t).b = true then true
  else if (nodeAt ns t).k = 8 then (bv mk (nodeAt ns t).a && powF ns mk ks (nodeAt ns t).b) || (bv mk (nodeAt ns t).b && powF ns mk ks (nodeAt ns t).a)
  else false
theorem spec_l7Made_c (ns : List Nd) (mk : List Bool) (t : Int) (ks : List Int) (hl : ns.length < 9223372036854775807) (hk : ks.length < 9223372036854775807) (hp : poolF ns = true) (ht : hasF ns.length t = true) (hml : t ≤ mk.length) : T 96 [aP ns, aBl mk, i6 t, aI ks] [] (.bool (madeB ns mk t ks)) ([]) := by
  refine semT' (S := S0) hm spec_l7Made_ok (Nat.le_of_ble_eq_true rfl) ?_
  unfold spec_l7Made; dsimp only
  obtain ⟨j, rfl, hj⟩ := hasN ht
  obtain ⟨q, hq⟩ := enc_at hj
  have h3 : 3 ≤ ns.length * 3 - j * 3 := by omega
  have en := nodeAt_nat hj
  have hjm : j ≤ mk.length := by omega
  simp [h3, hq, hj]
  rcases parts_kind hp hj with hpk | hpk | hpk
  · have hk1 := partsF_0' hpk
    simp [hk1]
    refine spec_IsPublic_call rfl ?_; simp
    exact LeV.ro rfl rfl (by simp [madeB, en, hk1])
  · have hk1 : ns[j].k ≠ 1 := by intro e; rw [e] at hpk; simp [partsF] at hpk
    obtain ⟨a, ea, hal⟩ := part_in hp hj hpk
    have ham : a < mk.length := by omega
    have eb := bv_nat ham
    simp [hk1]
    refine spec_l1Parts_call rfl ?_; simp [hpk, ea, ham]
    exact LeV.ro rfl rfl (by simp [madeB, en, hk1, hpk, ea, eb])
  · have hk1 : ns[j].k ≠ 1 := by intro e; rw [e] at hpk; simp [partsF] at hpk
    obtain ⟨⟨a, ea, hal⟩, b, eb, hbl⟩ := parts_in hp hj hpk
    have ham : a < mk.length := by omega
    have hbm : b < mk.length := by omega
    have ba := bv_nat ham
    have bb := bv_nat hbm
    have hE : madeB ns mk j ks = if mk[a] = true ∧ mk[b] = true then true else if ns[j].k = 8 then (mk[a] && powF ns mk ks b) || (mk[b] && powF ns mk ks a) else false := by
      simp only [madeB, en]
      rw [if_neg hk1, if_neg (by omega), ea, eb, ba, bb]
    simp [hk1]
    refine spec_l1Parts_call rfl ?_; simp [hpk, ea, eb, ham, hbm]
    rcases hA : mk[a] with _ | _
    · rcases hB : mk[b] with _ | _
      · simp
        refine br_intro' (fun h => ?_) (fun h => ?_) <;> (have k0 := h) <;> simp only [decide_eq_true_eq, decide_eq_false_iff_not] at h <;> simp [k0, h, hA, hB, ham, hbm, ea, eb]
        all_goals exact LeV.ro rfl rfl (by rw [hE]; simp [hA, hB, h])
      · simp
        refine br_intro' (fun h => ?_) (fun h => ?_) <;> (have k0 := h) <;> simp only [decide_eq_true_eq, decide_eq_false_iff_not] at h <;> simp [k0, h, hA, hB, ham, hbm, ea, eb]
        · refine spec_l7Power_k (ns := ns) (mk := mk) (ks := ks) (x := a) hl hk (hasF_of ham) rfl (by simp) (by simp) ?_; simp
          exact LeV.ro rfl rfl (by rw [hE]; simp [hA, hB, h])
        · exact LeV.ro rfl rfl (by rw [hE]; simp [hA, hB, h])
    · simp
      refine ck_intro' hbm ?_; simp [hbm]
      rcases hB : mk[b] with _ | _
      · try simp [hB]
        refine br_intro' (fun h => ?_) (fun h => ?_) <;> (have k0 := h) <;> simp only [decide_eq_true_eq, decide_eq_false_iff_not] at h <;> simp [k0, h, hA, hB, ham, hbm, ea, eb]
        · refine spec_l7Power_k (ns := ns) (mk := mk) (ks := ks) (x := b) hl hk (hasF_of hbm) rfl (by simp) (by simp) ?_; simp
          refine br_intro' (fun f => ?_) (fun f => ?_) <;> simp [f, hA, hB, ham, hbm, ea, eb]
          all_goals exact LeV.ro rfl rfl (by rw [hE]; simp [hA, hB, h, f])
        · exact LeV.ro rfl rfl (by rw [hE]; simp [hA, hB, h])
      · try simp [hB]
        exact LeV.ro rfl rfl (by rw [hE]; simp [hA, hB])
theorem spec_l7Made_call {ns : List Nd} {mk : List Bool} {t : Int} {ks : List Int} (hl : ns.length < 9223372036854775807) (hk : ks.length < 9223372036854775807) (hp : poolF ns = true) (ht : hasF ns.length t = true) (hml : t ≤ mk.length) {S : FuncId → Bool} {H : List Blk} {K : A → Dl → Prop} (hS : S 96 = false) (hK : K (.bool (madeB ns mk t ks)) (.news [])) : @WCall' Go.Proofs.Try.prog S 96 [aP ns, aBl mk, i6 t, aI ks] H ⟨K⟩ :=
  WCall_pure hS (spec_l7Made_c ns mk t ks hl hk hp ht hml) (by simp) (by simp) (by simp) hK
theorem spec_l7Made_k {ns : List Nd} {mk : List Bool} {t : Int} {ks : List Int} (hl : ns.length < 9223372036854775807) (hk : ks.length < 9223372036854775807) (hp : poolF ns = true) (ht : hasF ns.length t = true) (hml : t ≤ mk.length) {S : FuncId → Bool} {H : List Blk} {K : A → Dl → Prop} {zs : List A} (hS : S 96 = false) (hv : viewL (viewA 8 H) zs = some [aP ns, aBl mk, i6 t, aI ks]) (ho : noOwns zs = true ∨ nosl (.bool (madeB ns mk t ks)) = true) (hK : K (.bool (madeB ns mk t ks)) (.news [])) : @WCall' Go.Proofs.Try.prog S 96 zs H ⟨K⟩ :=
  WCall_pure hS (spec_l7Made_c ns mk t ks hl hk hp ht hml) hv ho (by simp) hK
end Go.Proofs.Ytfbfebaajdihiaa.C

set_option linter.unusedVariables false
set_option linter.unusedSimpArgs false
set_option maxRecDepth 4000
namespace Go.Proofs.Ytfbfebaajdihiaa.C
open Go.Sym Go.Proofs.Ytfbfebaajdihiaa.I
@[simp] theorem ints_pks (n : Nat) (g : List Nat) (xs : List Int) : Pks n g (ints xs) (ints xs) := Pks_self _ (inAs_scals _ (ints_scals xs))
@[simp] theorem enc_pks (n : Nat) (g : List Nat) (xs : List Nd) : Pks n g (enc xs) (enc xs) := Pks_self _ (inAs_scals _ (enc_scals xs))
@[simp] theorem bls_pks (n : Nat) (g : List Nat) (xs : List Bool) : Pks n g (bls xs) (bls xs) := Pks_self _ (inAs_scals _ (bls_scals xs))
/-- A call that moves the cursor and makes rows, over rows of its caller's own. -/
theorem cur_callN {f : FuncId} {S : FuncId → Bool} {H T : List Blk} {K : A → Dl → Prop} (hS : S f = true) (cb : Nat) (bs : List Int) (s s' : Cu) (N : List Blk) {zs : List A} {r : A} (hc : cb < H.length)
    (hf : SemT Go.Proofs.Try.prog f zs (cur (cur H cb bs s ++ T) cb bs s) r (cur (cur H cb bs s ++ T) cb bs s' ++ N)) (hK : K r (.full [cb] (cur H cb bs s' ++ T ++ N))) : @WCall' Go.Proofs.Try.prog S f zs (cur H cb bs s ++ T) ⟨K⟩ := by
  rw [cur_mid hc, cur_mid hc] at hf
  refine WCall_t' hS [cb] hf (by simp) (fun q hq hl => ?_) hK
  simp at hq
  rw [List.getElem?_append_left (by simpa using hl)]
  rcases Nat.lt_or_ge q (cur H cb bs s).length with h | h
  · rw [List.getElem?_append_left (by simpa using h), List.getElem?_append_left h]
    simp only [cur]
    rw [List.getElem?_set_ne (Ne.symm hq), List.getElem?_set_ne (Ne.symm hq)]
  · rw [List.getElem?_append_right (by simpa using h), List.getElem?_append_right h]
    simp
/-- What is known that is drawn. -/
def knowGo (bs : List Int) (m : Nat) : Nat → List Int → Cu → List Int × Cu
  | 0, out, s => (out, s)
  | n + 1, out, s => if 0 < m then knowGo bs m n (putF out (drawF bs s m).1) (drawF bs s m).2 else (out, s)
def knowD (bs : List Int) (m : Nat) (s : Cu) : List Int × Cu := knowGo bs m (belowF bs s 8).1.toNat [] (belowF bs s 8).2
theorem spec_l6DrawKnow_m (H : List Blk) (cb : Nat) (bs : List Int) (s : Cu) (ns : List Nd) (hc : cb < H.length) (hb : bs.length < 9223372036854775807) (hcl : Closed1 H.length H = true) (hl : ns.length < 9223372036854775807) : T 104 [.ptr cb 0 0, aP ns] (cur H cb bs s) (jref H.length (knowD bs ns.length s).1) (cur H cb bs (knowD bs ns.length s).2 ++ [jblk (knowD bs ns.length s).1]) := by
  refine semT' (S := (fun f => [133, 101, 103, 106].contains f)) hm spec_l6DrawKnow_ok (Nat.le_of_ble_eq_true rfl) ?_
  unfold spec_l6DrawKnow; dsimp only
  simp
  have hi := belowF_in bs s 8
  have hi2 := hi.2.1 (by omega)
  refine cur_call' rfl cb bs s (belowF bs s 8).2 hc (spec_l1Below_m _ cb bs s 8 (cur_lt _ _ hc) hb) ?_; simp
  have e : knowD bs ns.length s = knowGo bs ns.length (belowF bs s 8).1.toNat [] (belowF bs s 8).2 := rfl
  rw [e]
  generalize belowF bs s 8 = t at hi hi2 ⊢
  obtain ⟨n, hn⟩ : ∃ n : Nat, t.1 = n := ⟨t.1.toNat, by omega⟩
  rw [hn]
  refine WLoop_virt 1 [(0, A.ptr cb 0 0), (3, A.ptr H.length 0 0), (5, A.ref (H.length + 1) 0 0 0), (6, i6 n), (7, i6 0)] ?_ ?_
  · intro s y hy
    simp [Sym.get] at hy ⊢
    (repeat' split at hy) <;> simp_all
  refine WLoop_fam (fun p : Nat × List Int × Cu => [(0, A.ptr cb 0 0), (3, A.ptr H.length 0 0), (5, jref (H.length + 1) p.2.1), (6, i6 n), (7, i6 p.1)])
    (fun p => cur H cb bs p.2.2 ++ [⟨0, false, 1, [A.sl ns.length (enc ns)], none⟩] ++ [jblk p.2.1]) (fun p => n - p.1)
    (fun p => p.1 ≤ n ∧ p.2.1.length ≤ p.1 ∧ knowGo bs ns.length n [] t.2 = knowGo bs ns.length (n - p.1) p.2.1 p.2.2) ?_ (0, [], t.2) ⟨Nat.zero_le _, by simp, rfl⟩
  rintro ⟨j, out, s1⟩ ⟨hj, hol, hgo⟩ ih
  simp only at hj hol hgo
  have hn8 : n < 8 := by omega
  have hne : cb ≠ H.length := by omega
  have hne1 : cb ≠ H.length + 1 := by omega
  have hfin : ¬ (j < n ∧ 0 < ns.length) → knowGo bs ns.length n [] t.2 = (out, s1) := fun h => by
    rw [hgo]
    rcases Nat.lt_or_ge j n with g | g
    · rw [show n - j = (n - (j + 1)) + 1 by omega, knowGo, if_neg (by omega)]
    · rw [show n - j = 0 by omega]; rfl
  have hcl1 : ∀ s2, Closed1 (cur H cb bs s2 ++ ([⟨0, false, 1, [A.sl ns.length (enc ns)], none⟩] : List Blk)).length (cur H cb bs s2 ++ ([⟨0, false, 1, [A.sl ns.length (enc ns)], none⟩] : List Blk)) = true := fun s2 => Closed1_more (by simpa using cur_closed bs s2 hcl) (by simp)
  have hend : LeV H.length (jref (H.length + 1) out) (cur H cb bs s1 ++ [⟨0, false, 1, [A.sl ns.length (enc ns)], none⟩] ++ [jblk out]) (jref H.length out) (cur H cb bs s1 ++ [jblk out]) := by
    rw [List.append_assoc]
    exact LeV.pick [H.length + 1] (by simp) (by simpa using cur_closed bs s1 hcl) (by simp) (by simp) (by simp)
  simp
  refine br_intro' (fun u => ?_) (fun u => ?_) <;> (have u0 := u) <;> simp at u <;> simp [u0, u]
  · refine br_intro' (fun v => ?_) (fun v => ?_) <;> (have v0 := v) <;> simp only [decide_eq_true_eq, decide_eq_false_iff_not] at v <;> simp [v0, v]
    · have hw := wrap_succ (n := j) (by omega)
      have hdr := drawF_in bs s1 ns.length
      have hcl2 : Closed1 (cur H cb bs s1 ++ ([⟨0, false, 1, [A.sl ns.length (enc ns)], none⟩, jblk out] : List Blk)).length (cur H cb bs s1 ++ ([⟨0, false, 1, [A.sl ns.length (enc ns)], none⟩, jblk out] : List Blk)) = true := Closed1_more (by simpa using cur_closed bs s1 hcl) (by simp)
      refine cur_call' rfl cb bs s1 (drawF bs s1 ns.length).2 hc (spec_l1Draw_m _ cb bs s1 ns.length (cur_lt _ _ hc) hb ⟨by omega, by omega⟩) ?_; simp
      refine spec_l6Put_k (ks := out) (t := (drawF bs s1 ns.length).1) (by omega) rfl (by simp) (by simp [noslBlks]) ?_; simp [shiftB]
      have hpl := putF_len out (drawF bs s1 ns.length).1
      have hgn : knowGo bs ns.length (n - j) out s1 = knowGo bs ns.length (n - (j + 1)) (putF out (drawF bs s1 ns.length).1) (drawF bs s1 ns.length).2 := by
        rw [show n - j = (n - (j + 1)) + 1 by omega, knowGo, if_pos v]
      generalize drawF bs s1 ns.length = d at hdr hpl hgn ⊢
      rw [hw]
      refine WLoop_pick [H.length + 2] [(0, A.ptr cb 0 0), (3, A.ptr H.length 0 0), (5, jref (H.length + 1) (putF out d.1)), (6, i6 n), (7, i6 ((j + 1 : Nat) : Int))] (cur H cb bs d.2 ++ [⟨0, false, 1, [A.sl ns.length (enc ns)], none⟩]) [jblk out, jblk (putF out d.1)] [jblk (putF out d.1)] (by simp) (by simp) (hcl1 _) (by simp) (by simp) (by simp; omega) ?_
      exact ih (j + 1, putF out d.1, d.2) ⟨by omega, by simp; omega, by rw [hgo, hgn]⟩ (by simp; omega)
    · rw [hfin (by omega)]
      simpa using hend
  · rw [hfin (by omega)]
    simpa using hend
theorem knowGo_len (bs : List Int) (m : Nat) : ∀ (n : Nat) (out : List Int) (s : Cu), (knowGo bs m n out s).1.length ≤ out.length + n
  | 0, out, s => Nat.le_refl _
  | n + 1, out, s => by
    unfold knowGo
    split
    · have h1 := knowGo_len bs m n (putF out (drawF bs s m).1) (drawF bs s m).2
      have h2 := putF_len out (drawF bs s m).1
      omega
    · simp only; omega
theorem knowD_len (bs : List Int) (m : Nat) (s : Cu) : (knowD bs m s).1.length ≤ 8 := by
  have h := knowGo_len bs m (belowF bs s 8).1.toNat [] (belowF bs s 8).2
  have hi := belowF_in bs s 8
  have := hi.2.1 (by omega)
  unfold knowD
  simp only [List.length_nil] at h
  omega
def anyKGo (bs : List Int) : Nat → Nat → List Int → Cu → List Int × Cu
  | 0, _, out, s => (out, s)
  | n + 1, i, out, s => if (i : Int) < 200 + (belowF bs s 2).1 then anyKGo bs n (i + 1) (putF out i) (belowF bs s 2).2 else (out, (belowF bs s 2).2)
def anyK1 (bs : List Int) (m : Nat) (out : List Int) (b : Int × Cu) : List Int × Cu :=
  if b.1 = 0 then (out ++ [(m : Int)], b.2) else if b.1 = 1 then (out ++ out, b.2) else if b.1 = 2 then anyKGo bs 202 0 out b.2 else (out, b.2)
/-- What is known that is drawn, now and then not rightly. -/
def anyK (bs : List Int) (m : Nat) (s : Cu) : List Int × Cu := anyK1 bs m (knowD bs m s).1 (belowF bs (knowD bs m s).2 30)
theorem frzI {B : Nat} {H1 T : List Blk} {b : Nat} {xs : List Int} {v : Nat} {ro : Bool} (hlen : B ≤ H1.length) (hcl : Closed1 H1.length H1 = true) (hb : H1.length ≤ b) (hk : (H1 ++ T)[b]? = some ⟨v, ro, 1, ints xs, none⟩) : LeV B (.ref b v 0 xs.length) (H1 ++ T) (aI xs) H1 := by
  have := LeV.frz (B := B) hlen hcl (m := xs.length) hb hk (by simp) (by simp)
  simpa using this
theorem spec_l6DrawAny_m (H : List Blk) (cb : Nat) (bs : List Int) (s : Cu) (ns : List Nd) (hc : cb < H.length) (hb : bs.length < 9223372036854775807) (hcl : Closed1 H.length H = true) (hl : ns.length < 9223372036854775807) : T 80 [.ptr cb 0 0, aP ns] (cur H cb bs s) (aI (anyK bs ns.length s).1) (cur H cb bs (anyK bs ns.length s).2) := by
  refine semT' (S := (fun f => [133, 101, 103, 106, 104].contains f)) hm spec_l6DrawAny_ok (Nat.le_of_ble_eq_true rfl) ?_
  unfold spec_l6DrawAny; dsimp only
  simp
  refine cur_callN rfl cb bs s (knowD bs ns.length s).2 [jblk (knowD bs ns.length s).1] hc (spec_l6DrawKnow_m _ cb bs s ns (cur_lt _ _ hc) hb (Closed1_more (by simpa using cur_closed bs s hcl) (by simp)) hl) ?_; simp
  have hkl := knowD_len bs ns.length s
  have e : anyK bs ns.length s = anyK1 bs ns.length (knowD bs ns.length s).1 (belowF bs (knowD bs ns.length s).2 30) := rfl
  rw [e]
  generalize knowD bs ns.length s = k at hkl ⊢
  refine cur_call' rfl cb bs k.2 (belowF bs k.2 30).2 hc (spec_l1Below_m _ cb bs k.2 30 (cur_lt _ _ hc) hb) ?_; simp
  generalize belowF bs k.2 30 = b
  generalize k.1 = out at hkl ⊢
  have hne : cb ≠ H.length := by omega
  have hne1 : cb ≠ H.length + 1 := by omega
  refine br_intro' (fun g => ?_) (fun g => ?_) <;> (have g0 := g) <;> simp only [decide_eq_true_eq, decide_eq_false_iff_not] at g <;> simp [g0, g]
  · rw [show anyK1 bs ns.length out b = (out ++ [(ns.length : Int)], b.2) from if_pos g]
    repeat (refine ck_intro' (by first | omega | (simp; omega) | kernel_rfl) ?_; try simp [g])
    have := frzI (B := H.length) (H1 := cur H cb bs b.2) (T := [⟨0, false, 1, [A.sl ns.length (enc ns)], none⟩, ⟨out.length + 1, false, 1, ints (out ++ [(ns.length : Int)]), none⟩, ⟨0, false, 1, [i6 ns.length], none⟩]) (b := H.length + 1) (xs := out ++ [(ns.length : Int)]) (v := out.length + 1) (ro := false) (by simp) (by simpa using cur_closed bs b.2 hcl) (by simp) (by simp)
    simpa [ints_snoc] using this
  refine br_intro' (fun g1 => ?_) (fun g1 => ?_) <;> (have g10 := g1) <;> simp only [decide_eq_true_eq, decide_eq_false_iff_not] at g1 <;> simp [g10, g1]
  · rw [show anyK1 bs ns.length out b = (out ++ out, b.2) by simp [anyK1, g1]]
    repeat (refine ck_intro' (by first | omega | (simp; omega) | kernel_rfl) ?_; try simp [g1])
    have := frzI (B := H.length) (H1 := cur H cb bs b.2) (T := [⟨0, false, 1, [A.sl ns.length (enc ns)], none⟩, ⟨out.length + 1, decide (out = []), 1, ints (out ++ out), none⟩]) (b := H.length + 1) (xs := out ++ out) (v := out.length + 1) (ro := decide (out = [])) (by simp) (by simpa using cur_closed bs b.2 hcl) (by simp) (by simp)
    simpa [ints] using this
  refine br_intro' (fun g2 => ?_) (fun g2 => ?_) <;> (have g20 := g2) <;> simp only [decide_eq_true_eq, decide_eq_false_iff_not] at g2 <;> simp [g20, g2]
  · rw [show anyK1 bs ns.length out b = anyKGo bs 202 0 out b.2 by simp [anyK1, g2]]
    refine WLoop_fam (fun p : Nat × List Int × Cu => [(0, A.ptr cb 0 0), (5, jref (H.length + 1) p.2.1), (6, i6 p.1)])
      (fun p => cur H cb bs p.2.2 ++ [⟨0, false, 1, [A.sl ns.length (enc ns)], none⟩, jblk p.2.1]) (fun p => 202 - p.1)
      (fun p => p.1 ≤ 201 ∧ p.2.1.length ≤ 8 + p.1 ∧ anyKGo bs 202 0 out b.2 = anyKGo bs (202 - p.1) p.1 p.2.1 p.2.2) ?_ (0, out, b.2) ⟨by simp, by simpa using hkl, rfl⟩
    rintro ⟨i, o1, s1⟩ ⟨hi, hol, hgo⟩ ih
    simp only at hi hol hgo
    simp
    have hbi := belowF_in bs s1 2
    have hbi2 := hbi.2.1 (by omega)
    have hgn : anyKGo bs (202 - i) i o1 s1 = if (i : Int) < 200 + (belowF bs s1 2).1 then anyKGo bs (202 - (i + 1)) (i + 1) (putF o1 i) (belowF bs s1 2).2 else (o1, (belowF bs s1 2).2) := by
      rw [show 202 - i = (202 - (i + 1)) + 1 by omega]; rfl
    refine cur_call' rfl cb bs s1 (belowF bs s1 2).2 hc (spec_l1Below_m _ cb bs s1 2 (cur_lt _ _ hc) hb) ?_; simp
    generalize belowF bs s1 2 = d at hbi hbi2 hgn ⊢
    have hw2 : IntKind.i64.wrap (200 + d.1) = 200 + d.1 := wrap64 (by omega) (by omega)
    have hw := wrap_succ (n := i) (by omega)
    rw [hw2]
    refine br_intro' (fun u => ?_) (fun u => ?_) <;> (have u0 := u) <;> simp only [decide_eq_true_eq, decide_eq_false_iff_not] at u <;> simp [u0, u]
    · refine spec_l6Put_k (ks := o1) (t := i) (by omega) rfl (by simp) (by simp [noslBlks]) ?_; simp [shiftB]
      have hpl := putF_len o1 i
      rw [hw]
      refine WLoop_pick [H.length, H.length + 2] [(0, A.ptr cb 0 0), (5, jref (H.length + 1) (putF o1 i)), (6, i6 ((i + 1 : Nat) : Int))] (cur H cb bs d.2) [⟨0, false, 1, [A.sl ns.length (enc ns)], none⟩, jblk o1, jblk (putF o1 i)] [⟨0, false, 1, [A.sl ns.length (enc ns)], none⟩, jblk (putF o1 i)] (by simp) (by simp) (by simpa using cur_closed bs d.2 hcl) (by simp) (by simp [inAs_scals _ (enc_scals ns)]) (by simp; omega) ?_
      exact ih (i + 1, putF o1 i, d.2) ⟨by omega, by simp; omega, by rw [hgo, hgn, if_pos u]⟩ (by simp; omega)
    · rw [show anyKGo bs 202 0 out b.2 = (o1, d.2) by rw [hgo, hgn, if_neg u]]
      have := frzI (B := H.length) (H1 := cur H cb bs d.2) (T := [⟨0, false, 1, [A.sl ns.length (enc ns)], none⟩, jblk o1]) (b := H.length + 1) (xs := o1) (v := o1.length) (ro := decide (o1.length = 0)) (by simp) (by simpa using cur_closed bs d.2 hcl) (by simp) (by simp)
      simpa using this
  · rw [show anyK1 bs ns.length out b = (out, b.2) by simp [anyK1, g, g1, g2]]
    have := frzI (B := H.length) (H1 := cur H cb bs b.2) (T := [⟨0, false, 1, [A.sl ns.length (enc ns)], none⟩, jblk out]) (b := H.length + 1) (xs := out) (v := out.length) (ro := decide (out.length = 0)) (by simp) (by simpa using cur_closed bs b.2 hcl) (by simp) (by simp)
    simpa using this
end Go.Proofs.Ytfbfebaajdihiaa.C

set_option linter.unusedVariables false
set_option linter.unusedSimpArgs false
set_option maxRecDepth 40000
namespace Go.Proofs.Ytfbfebaajdihiaa.C
open Go.Sym Go.Proofs.Ytfbfebaajdihiaa.I
/-- A pool, what is known, and a term. -/
def d6c (bs : List Int) (p : List Nd) (k : List Int × Cu) : List Nd × List Int × Int := (p, k.1, (termF bs k.2 p.length).1)
def d6b (bs : List Int) (a : List Nd × Cu) : List Nd × List Int × Int := d6c bs a.1 (anyK bs a.1.length a.2)
def d6 (bs : List Int) : List Nd × List Int × Int := d6b bs (anyF bs ⟨0, newH bs⟩)
theorem spec_l6Draw_c (bs : List Int) (hb : bs.length < 9223372036854775807) : T 54 [aB bs] [] (.tup [aP (d6 bs).1, aI (d6 bs).2.1, i6 (d6 bs).2.2]) ([]) := by
  refine semT' (S := (fun f => [133, 101, 103, 105, 106, 102, 100, 79, 81, 104, 80].contains f)) hm spec_l6Draw_ok (Nat.le_of_ble_eq_true rfl) ?_
  unfold spec_l6Draw; dsimp only
  simp
  refine spec_l1New_k (bs := bs) hb rfl (by simp) (by simp [noslBlks]) ?_; simp [shiftB]
  refine cur_callR rfl 1 bs ⟨0, newH bs⟩ _ rfl (spec_l1DrawAny_m _ 1 bs _ (by simp) hb (by simp)) ?_; simp [cur]
  rw [show d6 bs = d6b bs (anyF bs ⟨0, newH bs⟩) from rfl]
  have hal := anyF_len bs ⟨0, newH bs⟩
  generalize anyF bs ⟨0, newH bs⟩ = a at hal ⊢
  refine cur_callR rfl 1 bs _ _ rfl (spec_l6DrawAny_m _ 1 bs _ a.1 (by simp) hb (by simp [inAs_scals _ (enc_scals a.1)]) (by omega)) ?_; simp [cur]
  rw [show d6b bs a = d6c bs a.1 (anyK bs a.1.length a.2) from rfl]
  generalize anyK bs a.1.length a.2 = k
  refine cur_callR rfl 1 bs _ _ rfl (spec_l1DrawTerm_m _ 1 bs _ a.1 (by simp) hb (by simp [inAs_scals _ (enc_scals a.1)]) (by omega)) ?_; simp [cur]
  rw [show d6c bs a.1 k = (a.1, k.1, (termF bs k.2 a.1.length).1) from rfl]
  generalize termF bs k.2 a.1.length = t
  first | (refine ck_intro' (by kernel_rfl) ?_; try simp) | skip
  exact LeV.ro rfl rfl (by simp)
theorem spec_l6Draw_call {bs : List Int} (hb : bs.length < 9223372036854775807) {S : FuncId → Bool} {H : List Blk} {K : A → Dl → Prop} (hS : S 54 = false) (hK : K (.tup [aP (d6 bs).1, aI (d6 bs).2.1, i6 (d6 bs).2.2]) (.news [])) : @WCall' Go.Proofs.Try.prog S 54 [aB bs] H ⟨K⟩ :=
  WCall_pure hS (spec_l6Draw_c bs hb) (by simp) (by simp) (by simp) hK
theorem spec_l6Draw_k {bs : List Int} (hb : bs.length < 9223372036854775807) {S : FuncId → Bool} {H : List Blk} {K : A → Dl → Prop} {zs : List A} (hS : S 54 = false) (hv : viewL (viewA 8 H) zs = some [aB bs]) (ho : noOwns zs = true ∨ nosl (.tup [aP (d6 bs).1, aI (d6 bs).2.1, i6 (d6 bs).2.2]) = true) (hK : K (.tup [aP (d6 bs).1, aI (d6 bs).2.1, i6 (d6 bs).2.2]) (.news [])) : @WCall' Go.Proofs.Try.prog S 54 zs H ⟨K⟩ :=
  WCall_pure hS (spec_l6Draw_c bs hb) hv ho (by simp) hK
theorem anyKGo_len (bs : List Int) : ∀ (n i : Nat) (out : List Int) (s : Cu), (anyKGo bs n i out s).1.length ≤ out.length + n
  | 0, i, out, s => Nat.le_refl _
  | n + 1, i, out, s => by
    unfold anyKGo
    split
    · have h1 := anyKGo_len bs n (i + 1) (putF out i) (belowF bs s 2).2
      have h2 := putF_len out i
      omega
    · simp only; omega
theorem anyK_len (bs : List Int) (m : Nat) (s : Cu) : (anyK bs m s).1.length ≤ 300 := by
  have h := knowD_len bs m s
  unfold anyK anyK1
  split
  · simp; omega
  · split
    · simp; omega
    · split
      · have := anyKGo_len bs 202 0 (knowD bs m s).1 (belowF bs (knowD bs m s).2 30).2
        omega
      · simp only; omega
theorem d6_len (bs : List Int) : (d6 bs).1.length ≤ 501 ∧ (d6 bs).2.1.length ≤ 300 := ⟨anyF_len _ _, anyK_len _ _ _⟩
theorem spec_DrawOpenOnce_c (bs : List Int) (hb : bs.length < 9223372036854775807) : T 27 [aB bs] [] (.tup [aP (d6 bs).1, aI (d6 bs).2.1]) ([]) := by
  refine semT' (S := S0) hm spec_DrawOpenOnce_ok (Nat.le_of_ble_eq_true rfl) ?_
  unfold spec_DrawOpenOnce; dsimp only
  simp
  refine spec_l6Draw_k (bs := bs) hb rfl (by simp) (by simp [noslBlks]) ?_; simp [shiftB]
  first | (refine ck_intro' (by kernel_rfl) ?_; try simp) | skip
  exact LeV.ro rfl rfl (by simp)
theorem spec_DrawOpenOnce_call {bs : List Int} (hb : bs.length < 9223372036854775807) {S : FuncId → Bool} {H : List Blk} {K : A → Dl → Prop} (hS : S 27 = false) (hK : K (.tup [aP (d6 bs).1, aI (d6 bs).2.1]) (.news [])) : @WCall' Go.Proofs.Try.prog S 27 [aB bs] H ⟨K⟩ :=
  WCall_pure hS (spec_DrawOpenOnce_c bs hb) (by simp) (by simp) (by simp) hK
theorem spec_DrawOpenOnce_k {bs : List Int} (hb : bs.length < 9223372036854775807) {S : FuncId → Bool} {H : List Blk} {K : A → Dl → Prop} {zs : List A} (hS : S 27 = false) (hv : viewL (viewA 8 H) zs = some [aB bs]) (ho : noOwns zs = true ∨ nosl (.tup [aP (d6 bs).1, aI (d6 bs).2.1]) = true) (hK : K (.tup [aP (d6 bs).1, aI (d6 bs).2.1]) (.news [])) : @WCall' Go.Proofs.Try.prog S 27 zs H ⟨K⟩ :=
  WCall_pure hS (spec_DrawOpenOnce_c bs hb) hv ho (by simp) hK
theorem spec_DrawOpenAll_c (bs : List Int) (hb : bs.length < 9223372036854775807) : T 31 [aB bs] [] (.tup [aP (d6 bs).1, aI (d6 bs).2.1]) ([]) := by
  refine semT' (S := S0) hm spec_DrawOpenAll_ok (Nat.le_of_ble_eq_true rfl) ?_
  unfold spec_DrawOpenAll; dsimp only
  simp
  refine spec_l6Draw_k (bs := bs) hb rfl (by simp) (by simp [noslBlks]) ?_; simp [shiftB]
  first | (refine ck_intro' (by kernel_rfl) ?_; try simp) | skip
  exact LeV.ro rfl rfl (by simp)
theorem spec_DrawOpenAll_call {bs : List Int} (hb : bs.length < 9223372036854775807) {S : FuncId → Bool} {H : List Blk} {K : A → Dl → Prop} (hS : S 31 = false) (hK : K (.tup [aP (d6 bs).1, aI (d6 bs).2.1]) (.news [])) : @WCall' Go.Proofs.Try.prog S 31 [aB bs] H ⟨K⟩ :=
  WCall_pure hS (spec_DrawOpenAll_c bs hb) (by simp) (by simp) (by simp) hK
theorem spec_DrawOpenAll_k {bs : List Int} (hb : bs.length < 9223372036854775807) {S : FuncId → Bool} {H : List Blk} {K : A → Dl → Prop} {zs : List A} (hS : S 31 = false) (hv : viewL (viewA 8 H) zs = some [aB bs]) (ho : noOwns zs = true ∨ nosl (.tup [aP (d6 bs).1, aI (d6 bs).2.1]) = true) (hK : K (.tup [aP (d6 bs).1, aI (d6 bs).2.1]) (.news [])) : @WCall' Go.Proofs.Try.prog S 31 zs H ⟨K⟩ :=
  WCall_pure hS (spec_DrawOpenAll_c bs hb) hv ho (by simp) hK
theorem spec_DrawDerivesList_c (bs : List Int) (hb : bs.length < 9223372036854775807) : T 33 [aB bs] [] (.tup [aP (d6 bs).1, aI (d6 bs).2.1]) ([]) := by
  refine semT' (S := S0) hm spec_DrawDerivesList_ok (Nat.le_of_ble_eq_true rfl) ?_
  unfold spec_DrawDerivesList; dsimp only
  simp
  refine spec_l6Draw_k (bs := bs) hb rfl (by simp) (by simp [noslBlks]) ?_; simp [shiftB]
  first | (refine ck_intro' (by kernel_rfl) ?_; try simp) | skip
  exact LeV.ro rfl rfl (by simp)
theorem spec_DrawDerivesList_call {bs : List Int} (hb : bs.length < 9223372036854775807) {S : FuncId → Bool} {H : List Blk} {K : A → Dl → Prop} (hS : S 33 = false) (hK : K (.tup [aP (d6 bs).1, aI (d6 bs).2.1]) (.news [])) : @WCall' Go.Proofs.Try.prog S 33 [aB bs] H ⟨K⟩ :=
  WCall_pure hS (spec_DrawDerivesList_c bs hb) (by simp) (by simp) (by simp) hK
theorem spec_DrawDerivesList_k {bs : List Int} (hb : bs.length < 9223372036854775807) {S : FuncId → Bool} {H : List Blk} {K : A → Dl → Prop} {zs : List A} (hS : S 33 = false) (hv : viewL (viewA 8 H) zs = some [aB bs]) (ho : noOwns zs = true ∨ nosl (.tup [aP (d6 bs).1, aI (d6 bs).2.1]) = true) (hK : K (.tup [aP (d6 bs).1, aI (d6 bs).2.1]) (.news [])) : @WCall' Go.Proofs.Try.prog S 33 zs H ⟨K⟩ :=
  WCall_pure hS (spec_DrawDerivesList_c bs hb) hv ho (by simp) hK
theorem spec_DrawDerives_c (bs : List Int) (hb : bs.length < 9223372036854775807) : T 37 [aB bs] [] (.tup [aP (d6 bs).1, aI (d6 bs).2.1, i6 (d6 bs).2.2]) ([]) := by
  refine semT' (S := S0) hm spec_DrawDerives_ok (Nat.le_of_ble_eq_true rfl) ?_
  unfold spec_DrawDerives; dsimp only
  simp
  refine spec_l6Draw_k (bs := bs) hb rfl (by simp) (by simp [noslBlks]) ?_; simp [shiftB]
  first | (refine ck_intro' (by kernel_rfl) ?_; try simp) | skip
  exact LeV.ro rfl rfl (by simp)
theorem spec_DrawDerives_call {bs : List Int} (hb : bs.length < 9223372036854775807) {S : FuncId → Bool} {H : List Blk} {K : A → Dl → Prop} (hS : S 37 = false) (hK : K (.tup [aP (d6 bs).1, aI (d6 bs).2.1, i6 (d6 bs).2.2]) (.news [])) : @WCall' Go.Proofs.Try.prog S 37 [aB bs] H ⟨K⟩ :=
  WCall_pure hS (spec_DrawDerives_c bs hb) (by simp) (by simp) (by simp) hK
theorem spec_DrawDerives_k {bs : List Int} (hb : bs.length < 9223372036854775807) {S : FuncId → Bool} {H : List Blk} {K : A → Dl → Prop} {zs : List A} (hS : S 37 = false) (hv : viewL (viewA 8 H) zs = some [aB bs]) (ho : noOwns zs = true ∨ nosl (.tup [aP (d6 bs).1, aI (d6 bs).2.1, i6 (d6 bs).2.2]) = true) (hK : K (.tup [aP (d6 bs).1, aI (d6 bs).2.1, i6 (d6 bs).2.2]) (.news [])) : @WCall' Go.Proofs.Try.prog S 37 zs H ⟨K⟩ :=
  WCall_pure hS (spec_DrawDerives_c bs hb) hv ho (by simp) hK
end Go.Proofs.Ytfbfebaajdihiaa.C

set_option linter.unusedVariables false
set_option linter.unusedSimpArgs false
namespace Go.Proofs.Ytfbfebaajdihiaa.C
open Go.Sym Go.Proofs.Ytfbfebaajdihiaa.I
def In64 (n : Int) : Prop := -9223372036854775808 ≤ n ∧ n < 9223372036854775808
abbrev shI : Sh := .i .i64
abbrev shN : Sh := .st (.p shI (.p shI (.p shI .u)))
abbrev shP : Sh := .st (.p (.sl shN) .u)
abbrev shL : Sh := .st (.p shI (.p shI (.p shI (.p .b .u))))
abbrev shIs : Sh := .sl shI
abbrev shS : Sh := .st (.p shP (.p shIs (.p shL (.p shL (.p shIs (.p shIs .u))))))
theorem fit_i {cs : List A} (h : Fit shI cs) : ∃ n, cs = [i6 n] ∧ In64 n := by
  obtain ⟨n, rfl, hn⟩ := h
  exact ⟨n, rfl, fit_i64 hn⟩
theorem fit_n {cs : List A} (h : Fit shN cs) : ∃ n : Nd, cs = encN n ∧ In64 n.k ∧ In64 n.a ∧ In64 n.b := by
  obtain ⟨x, y, rfl, hx, z, t, rfl, hz, u, w, rfl, hu, rfl⟩ := h
  obtain ⟨a, rfl, ha⟩ := fit_i hx
  obtain ⟨b, rfl, hb⟩ := fit_i hz
  obtain ⟨c, rfl, hc⟩ := fit_i hu
  exact ⟨⟨a, b, c⟩, rfl, ha, hb, hc⟩
theorem fit_p {cs : List A} (h : Fit shP cs) : ∃ ns : List Nd, cs = [.sl ns.length (enc ns)] ∧ ns.length < 9223372036854775808 := by
  obtain ⟨x, y, rfl, hx, rfl⟩ := h
  obtain ⟨ns, rfl, h1, _⟩ := fit_sl (f := encN) (fun r hr => fit_n hr) hx
  exact ⟨ns, by simp [enc], h1⟩
theorem fit_is {cs : List A} (h : Fit shIs cs) : ∃ xs : List Int, cs = [aI xs] ∧ xs.length < 9223372036854775808 := by
  obtain ⟨xs, rfl, h1, _⟩ := fit_sl (f := fun n => [i6 n]) (fun r hr => fit_i hr) h
  exact ⟨xs, by simp only [aI, ints]; rw [List.map_eq_flatMap], h1⟩
structure Lk.fit (l : Lk) : Prop where
  k : In64 l.key
  e : In64 l.epoch
  s : In64 l.seq
theorem fit_l {cs : List A} (h : Fit shL cs) : ∃ l : Lk, cs = [i6 l.key, i6 l.epoch, i6 l.seq, .bool l.over] ∧ l.fit := by
  obtain ⟨x, y, rfl, hx, z, t, rfl, hz, u, w, rfl, hu, b, w, rfl, ⟨o, rfl⟩, rfl⟩ := h
  obtain ⟨a, rfl, ha⟩ := fit_i hx
  obtain ⟨b, rfl, hb⟩ := fit_i hz
  obtain ⟨c, rfl, hc⟩ := fit_i hu
  exact ⟨⟨a, b, c, o⟩, rfl, ha, hb, hc⟩
structure St.fitA (s : St) : Prop where
  p : s.pool.length < 9223372036854775808
  k : s.know.length < 9223372036854775808
  t : s.sent.length < 9223372036854775808
  g : s.got.length < 9223372036854775808
  o : s.out.fit
  i : s.inn.fit
theorem fit_s {cs : List A} (h : Fit shS cs) : ∃ s : St, cs = cS s ∧ s.fitA := by
  obtain ⟨x, y, rfl, hx, z, t, rfl, hz, u, w, rfl, hu, b, w, rfl, hb, e, f, rfl, he, g, i, rfl, hg, rfl⟩ := h
  obtain ⟨ns, rfl, h1⟩ := fit_p hx
  obtain ⟨ks, rfl, h2⟩ := fit_is hz
  obtain ⟨l, rfl, h3⟩ := fit_l hu
  obtain ⟨m, rfl, h4⟩ := fit_l hb
  obtain ⟨ts, rfl, h5⟩ := fit_is he
  obtain ⟨gs, rfl, h6⟩ := fit_is hg
  exact ⟨⟨ns, ks, l, m, ts, gs⟩, rfl, h1, h2, h5, h6, h3, h4⟩
theorem arg_p {x : A} (h : FitA shP x) : ∃ ns : List Nd, x = aP ns ∧ ns.length < 9223372036854775808 := by
  obtain ⟨cs, rfl, h⟩ := h
  obtain ⟨ns, rfl, g⟩ := fit_p h
  exact ⟨ns, rfl, g⟩
theorem arg_l {x : A} (h : FitA shL x) : ∃ l : Lk, x = aL l ∧ l.fit := by
  obtain ⟨cs, rfl, h⟩ := h
  obtain ⟨ns, rfl, g⟩ := fit_l h
  exact ⟨ns, rfl, g⟩
theorem arg_s {x : A} (h : FitA shS x) : ∃ s : St, x = aS s ∧ s.fitA := by
  obtain ⟨cs, rfl, h⟩ := h
  obtain ⟨ns, rfl, g⟩ := fit_s h
  exact ⟨ns, rfl, g⟩
theorem arg_is {x : A} (h : FitA shIs x) : ∃ xs : List Int, x = aI xs ∧ xs.length < 9223372036854775808 := by
  obtain ⟨xs, e, h⟩ := fit_is (show Fit shIs [x] from h)
  exact ⟨xs, by simpa using e, h⟩
theorem arg_i {x : A} (h : FitA shI x) : ∃ n : Int, x = i6 n ∧ In64 n := by
  obtain ⟨n, e, h⟩ := fit_i (show Fit shI [x] from h)
  exact ⟨n, by simpa using e, h⟩
end Go.Proofs.Ytfbfebaajdihiaa.C

set_option linter.unusedVariables false
set_option linter.unusedSimpArgs false
namespace Go.Proofs.Ytfbfebaajdihiaa.C
open Go.Sym Go.Proofs.Ytfbfebaajdihiaa.I
abbrev qblk (ns : List Nd) : Blk := ⟨ns.length, false, 3, enc ns, none⟩
abbrev iblk (xs : List Int) : Blk := ⟨xs.length, false, 1, ints xs, none⟩
abbrev iref (b : Nat) (xs : List Int) : A := .ref b xs.length 0 xs.length
def szF (x : Int) (n : Nat) : Int := if x - n < 0 then -1 else x - n
theorem laws_szNodeS_c (ns : List Nd) (x : Int) (hl : ns.length < 9223372036854775808) (h0 : 0 ≤ x) (h1 : x < 9223372036854775808) : T 45 [.sl ns.length (enc ns), i6 x] [] (i6 (szF x ns.length)) ([]) := by
  refine semT' (S := S0) hm laws_szNodeS_ok (Nat.le_of_ble_eq_true rfl) ?_
  unfold laws_szNodeS; dsimp only
  have hw : IntKind.i64.wrap (x - ns.length) = x - ns.length := wrap64 (by omega) (by omega)
  simp [hw]
  refine br_intro' (fun h => ?_) (fun h => ?_) <;> (have h0 := h) <;> (try simp at h) <;> try simp [h0, h]
  · exact LeV.ro rfl rfl (by simp [szF, h])
  · exact LeV.ro rfl rfl (by simp [szF]; omega)
theorem laws_szNodeS_call {ns : List Nd} {x : Int} (hl : ns.length < 9223372036854775808) (h0 : 0 ≤ x) (h1 : x < 9223372036854775808) {S : FuncId → Bool} {H : List Blk} {K : A → Dl → Prop} (hS : S 45 = false) (hK : K (i6 (szF x ns.length)) (.news [])) : @WCall' Go.Proofs.Try.prog S 45 [.sl ns.length (enc ns), i6 x] H ⟨K⟩ :=
  WCall_pure hS (laws_szNodeS_c ns x hl h0 h1) (by simp) (by simp) (by simp) hK
theorem laws_szNodeS_k {ns : List Nd} {x : Int} (hl : ns.length < 9223372036854775808) (h0 : 0 ≤ x) (h1 : x < 9223372036854775808) {S : FuncId → Bool} {H : List Blk} {K : A → Dl → Prop} {zs : List A} (hS : S 45 = false) (hv : viewL (viewA 8 H) zs = some [.sl ns.length (enc ns), i6 x]) (ho : noOwns zs = true ∨ nosl (i6 (szF x ns.length)) = true) (hK : K (i6 (szF x ns.length)) (.news [])) : @WCall' Go.Proofs.Try.prog S 45 zs H ⟨K⟩ :=
  WCall_pure hS (laws_szNodeS_c ns x hl h0 h1) hv ho (by simp) hK
theorem laws_szPool_c (ns : List Nd) (x : Int) (hl : ns.length < 9223372036854775808) (h0 : 0 ≤ x) (h1 : x < 9223372036854775808) : T 12 [aP ns, i6 x] [] (i6 (szF x ns.length)) ([]) := by
  refine semT' (S := S0) hm laws_szPool_ok (Nat.le_of_ble_eq_true rfl) ?_
  unfold laws_szPool; dsimp only
  simp
  refine laws_szNodeS_call (ns := ns) (x := x) hl h0 h1 rfl ?_; simp
  refine br_intro' (fun h => ?_) (fun h => ?_) <;> (have h0 := h) <;> (try simp at h) <;> try simp [h0, h]
  · exact LeV.ro rfl rfl (by simp [szF] at h ⊢; omega)
  · exact LeV.ro rfl rfl (by simp)
theorem laws_szPool_call {ns : List Nd} {x : Int} (hl : ns.length < 9223372036854775808) (h0 : 0 ≤ x) (h1 : x < 9223372036854775808) {S : FuncId → Bool} {H : List Blk} {K : A → Dl → Prop} (hS : S 12 = false) (hK : K (i6 (szF x ns.length)) (.news [])) : @WCall' Go.Proofs.Try.prog S 12 [aP ns, i6 x] H ⟨K⟩ :=
  WCall_pure hS (laws_szPool_c ns x hl h0 h1) (by simp) (by simp) (by simp) hK
theorem laws_szPool_k {ns : List Nd} {x : Int} (hl : ns.length < 9223372036854775808) (h0 : 0 ≤ x) (h1 : x < 9223372036854775808) {S : FuncId → Bool} {H : List Blk} {K : A → Dl → Prop} {zs : List A} (hS : S 12 = false) (hv : viewL (viewA 8 H) zs = some [aP ns, i6 x]) (ho : noOwns zs = true ∨ nosl (i6 (szF x ns.length)) = true) (hK : K (i6 (szF x ns.length)) (.news [])) : @WCall' Go.Proofs.Try.prog S 12 zs H ⟨K⟩ :=
  WCall_pure hS (laws_szPool_c ns x hl h0 h1) hv ho (by simp) hK
theorem laws_toNode_c (n : Nd)  : T 70 [aN n] [] (aN n) ([]) := by
  refine semT' (S := S0) hm laws_toNode_ok (Nat.le_of_ble_eq_true rfl) ?_
  unfold laws_toNode; dsimp only
  simp
  exact LeV.ro rfl rfl (by simp)
theorem laws_toNode_call {n : Nd}  {S : FuncId → Bool} {H : List Blk} {K : A → Dl → Prop} (hS : S 70 = false) (hK : K (aN n) (.news [])) : @WCall' Go.Proofs.Try.prog S 70 [aN n] H ⟨K⟩ :=
  WCall_pure hS (laws_toNode_c n) (by simp) (by simp) (by simp) hK
theorem laws_toNode_k {n : Nd}  {S : FuncId → Bool} {H : List Blk} {K : A → Dl → Prop} {zs : List A} (hS : S 70 = false) (hv : viewL (viewA 8 H) zs = some [aN n]) (ho : noOwns zs = true ∨ nosl (aN n) = true) (hK : K (aN n) (.news [])) : @WCall' Go.Proofs.Try.prog S 70 zs H ⟨K⟩ :=
  WCall_pure hS (laws_toNode_c n) hv ho (by simp) hK
theorem laws_eqNode_c (n m : Nd)  : T 75 [aN n, aN m] [] (.bool (decide (n = m))) ([]) := by
  refine semT' (S := S0) hm laws_eqNode_ok (Nat.le_of_ble_eq_true rfl) ?_
  unfold laws_eqNode; dsimp only
  simp
  repeat (any_goals (first | (refine br_intro' (fun h => ?_) (fun h => ?_) <;> (have h0 := h) <;> (try simp at h) <;> try simp [h0, h])))
  all_goals exact LeV.ro rfl rfl (by simp [Nd_eq, *])
theorem laws_eqNode_call {n m : Nd}  {S : FuncId → Bool} {H : List Blk} {K : A → Dl → Prop} (hS : S 75 = false) (hK : K (.bool (decide (n = m))) (.news [])) : @WCall' Go.Proofs.Try.prog S 75 [aN n, aN m] H ⟨K⟩ :=
  WCall_pure hS (laws_eqNode_c n m) (by simp) (by simp) (by simp) hK
theorem laws_eqNode_k {n m : Nd}  {S : FuncId → Bool} {H : List Blk} {K : A → Dl → Prop} {zs : List A} (hS : S 75 = false) (hv : viewL (viewA 8 H) zs = some [aN n, aN m]) (ho : noOwns zs = true ∨ nosl (.bool (decide (n = m))) = true) (hK : K (.bool (decide (n = m))) (.news [])) : @WCall' Go.Proofs.Try.prog S 75 zs H ⟨K⟩ :=
  WCall_pure hS (laws_eqNode_c n m) hv ho (by simp) hK
theorem Lk_eq {x y : Lk} : x = y ↔ x.key = y.key ∧ x.epoch = y.epoch ∧ x.seq = y.seq ∧ x.over = y.over := by cases x; cases y; simp
def zN (j : Nat) : List Nd := List.replicate j ⟨0, 0, 0⟩
/-- A copy that is made up to a place. -/
def upN (ns : List Nd) (j : Nat) : List Nd := ns.take j ++ zN (ns.length - j)
theorem upN_len (ns : List Nd) (j : Nat) (h : j ≤ ns.length) : (upN ns j).length = ns.length := by simp [upN, zN]; omega
theorem upN_zero (ns : List Nd) : upN ns 0 = zN ns.length := by simp [upN]
theorem upN_end (ns : List Nd) : upN ns ns.length = ns := by simp [upN, zN]
theorem enc_zN (j : Nat) : enc (zN j) = (List.replicate j [i6 0, i6 0, i6 0]).flatten := by
  induction j with
  | zero => rfl
  | succ j ih => simp only [zN, List.replicate_succ, enc, List.flatMap_cons, List.flatten_cons] at ih ⊢; rw [ih]; rfl
theorem upN_set (ns : List Nd) (j : Nat) (h : j < ns.length) : (upN ns j).set j ns[j] = upN ns (j + 1) := by
  have hl : (ns.take j).length = j := by simp; omega
  have e : ns.length - j = (ns.length - (j + 1)) + 1 := by omega
  simp only [upN, zN]
  rw [List.set_append_right _ _ (by omega), hl, Nat.sub_self, e, List.replicate_succ, List.set_cons_zero, List.take_succ_eq_append_getElem h, List.append_assoc]
  rfl
theorem set3 {x y z : A} : ∀ (cs : List A) (a b c : A) (r : List A), (((a :: b :: c :: r).set 0 x).set 1 y).set 2 z = x :: y :: z :: r := fun _ _ _ _ _ => rfl
theorem enc_set : ∀ (xs : List Nd) (j : Nat) (n : Nd), (((enc xs).set (j * 3) (i6 n.k)).set (j * 3 + 1) (i6 n.a)).set (j * 3 + 2) (i6 n.b) = enc (xs.set j n)
  | [], j, n => by simp
  | x :: xs, 0, n => rfl
  | x :: xs, j + 1, n => by
    have := enc_set xs j n
    have e : (j + 1) * 3 = j * 3 + 1 + 1 + 1 := by omega
    show ((([i6 x.k, i6 x.a, i6 x.b] ++ enc xs).set ((j + 1) * 3) _).set ((j + 1) * 3 + 1) _).set ((j + 1) * 3 + 2) _ = [i6 x.k, i6 x.a, i6 x.b] ++ enc (xs.set j n)
    rw [e, ← this]
    rfl
theorem laws_toNodeS_c (ns : List Nd) (hl : ns.length ≤ 4294967296) : T 47 [.sl ns.length (enc ns)] [] (pref 0 ns) ([qblk ns]) := by
  refine semT' (S := S0) hm laws_toNodeS_ok (Nat.le_of_ble_eq_true rfl) ?_
  unfold laws_toNodeS; dsimp only
  have h1 : ((ns.length : Int)) * 24 ≤ 17592186044416 := by omega
  have h2 : (ns.length : Int) ≤ 4294967296 := by omega
  simp
  refine ck_intro' (by omega) ?_; simp
  rw [← enc_zN, ← upN_zero]
  refine WLoop_fam (fun j : Nat => [(0, A.sl ns.length (enc ns)), (3, A.ref 0 0 0 ns.length), (4, i6 j)]) (fun j => [⟨0, false, 3, enc (upN ns j), none⟩]) (fun j => ns.length - j)
    (fun j => j ≤ ns.length) ?_ 0 (Nat.zero_le _)
  intro j hj ih
  simp [upN_len ns j hj]
  refine br_intro' (fun h => ?_) (fun h => ?_) <;> (have h0 := h) <;> (try simp at h) <;> try simp [h0, h]
  · obtain ⟨r, hr⟩ := enc_at h
    have h3 : 3 ≤ ns.length * 3 - j * 3 := by omega
    have hw : IntKind.i64.wrap ((j : Int) + 1) = j + 1 := wrap64 (by omega) (by omega)
    have h' := h
    simp [h3, hr, h']
    refine laws_toNode_call (n := ns[j]) rfl ?_; simp [upN_len ns j hj, h']
    refine ck_intro' (by omega) ?_; simp
    rw [hw, enc_set, upN_set ns j h']
    exact ih (j + 1) h' (by omega)
  · have h0 : j = ns.length := by omega
    subst h0
    rw [upN_end]
    first | (refine LeV.tell [none] ?_ ?_ ?_ <;> (simp; done)) | (refine LeV.tell [some 0] ?_ ?_ ?_ <;> (simp; done)) | (refine LeV.tell [some 1] ?_ ?_ ?_ <;> (simp; done)) | (refine LeV.tell [some 2] ?_ ?_ ?_ <;> (simp; done)) | (refine LeV.tell [some 3] ?_ ?_ ?_ <;> (simp; done)) | (refine LeV.tell [some 4] ?_ ?_ ?_ <;> (simp; done)) | (refine LeV.tell [some 5] ?_ ?_ ?_ <;> (simp; done)) | (refine LeV.tell [some 6] ?_ ?_ ?_ <;> (simp; done)) | (refine LeV.tell [some 7] ?_ ?_ ?_ <;> (simp; done)) | (refine LeV.tell [some 8] ?_ ?_ ?_ <;> (simp; done)) | (refine LeV.tell [some 9] ?_ ?_ ?_ <;> (simp; done)) | (refine LeV.tell [some 10] ?_ ?_ ?_ <;> (simp; done)) | (refine LeV.tell [some 11] ?_ ?_ ?_ <;> (simp; done)) | (refine LeV.tell [some 12] ?_ ?_ ?_ <;> (simp; done)) | (refine LeV.tell [some 13] ?_ ?_ ?_ <;> (simp; done)) | (refine LeV.tell [some 14] ?_ ?_ ?_ <;> (simp; done)) | (refine LeV.tell [some 15] ?_ ?_ ?_ <;> (simp; done))
theorem laws_toNodeS_k {ns : List Nd} (hl : ns.length ≤ 4294967296) {S : FuncId → Bool} {H : List Blk} {K : A → Dl → Prop} {zs : List A} (hS : S 47 = false) (hv : viewL (viewA 8 H) zs = some [.sl ns.length (enc ns)]) (ho : noOwns zs = true ∨ nosl (pref 0 ns) = true ∧ noslBlks ([qblk ns]) = true) (hK : K (shiftA H.length (pref 0 ns)) (.news (([qblk ns]).map (shiftB H.length)))) : @WCall' Go.Proofs.Try.prog S 47 zs H ⟨K⟩ :=
  WCall_ro' hS hv (laws_toNodeS_c ns hl) rfl ho hK
theorem laws_toPool_c (ns : List Nd) (hl : ns.length ≤ 4294967296) : T 14 [aP ns] [] (.agg [pref 0 ns]) ([qblk ns]) := by
  refine semT' (S := S0) hm laws_toPool_ok (Nat.le_of_ble_eq_true rfl) ?_
  unfold laws_toPool; dsimp only
  simp
  refine laws_toNodeS_k (ns := ns) hl rfl (by simp) (by simp [noslBlks]) ?_; simp [shiftB]
  first | (refine LeV.tell [none] ?_ ?_ ?_ <;> (simp; done)) | (refine LeV.tell [some 0] ?_ ?_ ?_ <;> (simp; done)) | (refine LeV.tell [some 1] ?_ ?_ ?_ <;> (simp; done)) | (refine LeV.tell [some 2] ?_ ?_ ?_ <;> (simp; done)) | (refine LeV.tell [some 3] ?_ ?_ ?_ <;> (simp; done)) | (refine LeV.tell [some 4] ?_ ?_ ?_ <;> (simp; done)) | (refine LeV.tell [some 5] ?_ ?_ ?_ <;> (simp; done)) | (refine LeV.tell [some 6] ?_ ?_ ?_ <;> (simp; done)) | (refine LeV.tell [some 7] ?_ ?_ ?_ <;> (simp; done)) | (refine LeV.tell [some 8] ?_ ?_ ?_ <;> (simp; done)) | (refine LeV.tell [some 9] ?_ ?_ ?_ <;> (simp; done)) | (refine LeV.tell [some 10] ?_ ?_ ?_ <;> (simp; done)) | (refine LeV.tell [some 11] ?_ ?_ ?_ <;> (simp; done)) | (refine LeV.tell [some 12] ?_ ?_ ?_ <;> (simp; done)) | (refine LeV.tell [some 13] ?_ ?_ ?_ <;> (simp; done)) | (refine LeV.tell [some 14] ?_ ?_ ?_ <;> (simp; done)) | (refine LeV.tell [some 15] ?_ ?_ ?_ <;> (simp; done))
theorem laws_toPool_k {ns : List Nd} (hl : ns.length ≤ 4294967296) {S : FuncId → Bool} {H : List Blk} {K : A → Dl → Prop} {zs : List A} (hS : S 14 = false) (hv : viewL (viewA 8 H) zs = some [aP ns]) (ho : noOwns zs = true ∨ nosl (.agg [pref 0 ns]) = true ∧ noslBlks ([qblk ns]) = true) (hK : K (shiftA H.length (.agg [pref 0 ns])) (.news (([qblk ns]).map (shiftB H.length)))) : @WCall' Go.Proofs.Try.prog S 14 zs H ⟨K⟩ :=
  WCall_ro' hS hv (laws_toPool_c ns hl) rfl ho hK
/-- A copy of numbers that is made up to a place. -/
def upI (xs : List Int) (j : Nat) : List Int := xs.take j ++ List.replicate (xs.length - j) 0
theorem upI_len (xs : List Int) (j : Nat) (h : j ≤ xs.length) : (upI xs j).length = xs.length := by simp [upI]; omega
theorem upI_zero (xs : List Int) : upI xs 0 = List.replicate xs.length 0 := by simp [upI]
theorem upI_end (xs : List Int) : upI xs xs.length = xs := by simp [upI]
theorem upI_set (ns : List Int) (j : Nat) (h : j < ns.length) : (upI ns j).set j ns[j] = upI ns (j + 1) := by
  have hl : (ns.take j).length = j := by simp; omega
  have e : ns.length - j = (ns.length - (j + 1)) + 1 := by omega
  simp only [upI]
  rw [List.set_append_right _ _ (by omega), hl, Nat.sub_self, e, List.replicate_succ, List.set_cons_zero, List.take_succ_eq_append_getElem h, List.append_assoc]
  rfl
theorem ints_set (xs : List Int) (j : Nat) (n : Int) : (ints xs).set j (i6 n) = ints (xs.set j n) := by simp [ints, List.map_set]
@[simp] theorem ints_tells (H H' : List Blk) (g : List (Option Nat)) (xs : List Int) : Tells H H' g (ints xs) (ints xs) := Tells_scals _ (ints_scals xs)
@[simp] theorem ints_take (xs : List Int) : (ints xs).take xs.length = ints xs := List.take_of_length_le (by simp)
theorem ints_rep (n : Nat) : ints (List.replicate n 0) = List.replicate n (i6 0) := by simp [ints]
theorem laws_toIntS_c (xs : List Int) (hl : xs.length ≤ 4294967296) : T 15 [aI xs] [] (iref 0 xs) ([iblk xs]) := by
  refine semT' (S := S0) hm laws_toIntS_ok (Nat.le_of_ble_eq_true rfl) ?_
  unfold laws_toIntS; dsimp only
  have h1 : ((xs.length : Int)) * 8 ≤ 17592186044416 := by omega
  have h2 : (xs.length : Int) ≤ 4294967296 := by omega
  simp
  refine ck_intro' (by omega) ?_; simp
  rw [← ints_rep, ← upI_zero]
  refine WLoop_fam (fun j : Nat => [(0, aI xs), (3, A.ref 0 0 0 xs.length), (4, i6 j)]) (fun j => [⟨0, false, 1, ints (upI xs j), none⟩]) (fun j => xs.length - j)
    (fun j => j ≤ xs.length) ?_ 0 (Nat.zero_le _)
  intro j hj ih
  simp [upI_len xs j hj]
  refine br_intro' (fun h => ?_) (fun h => ?_) <;> (have h0 := h) <;> (try simp at h) <;> try simp [h0, h]
  · have hw : IntKind.i64.wrap ((j : Int) + 1) = j + 1 := wrap64 (by omega) (by omega)
    have h' := h
    simp [h', upI_len xs j hj]
    refine ck_intro' (by omega) ?_; simp
    rw [hw, ints_set, upI_set xs j h']
    exact ih (j + 1) h' (by omega)
  · have h0 : j = xs.length := by omega
    subst h0
    rw [upI_end]
    first | (refine LeV.tell [none] ?_ ?_ ?_ <;> (simp; done)) | (refine LeV.tell [some 0] ?_ ?_ ?_ <;> (simp; done)) | (refine LeV.tell [some 1] ?_ ?_ ?_ <;> (simp; done)) | (refine LeV.tell [some 2] ?_ ?_ ?_ <;> (simp; done)) | (refine LeV.tell [some 3] ?_ ?_ ?_ <;> (simp; done)) | (refine LeV.tell [some 4] ?_ ?_ ?_ <;> (simp; done)) | (refine LeV.tell [some 5] ?_ ?_ ?_ <;> (simp; done)) | (refine LeV.tell [some 6] ?_ ?_ ?_ <;> (simp; done)) | (refine LeV.tell [some 7] ?_ ?_ ?_ <;> (simp; done)) | (refine LeV.tell [some 8] ?_ ?_ ?_ <;> (simp; done)) | (refine LeV.tell [some 9] ?_ ?_ ?_ <;> (simp; done)) | (refine LeV.tell [some 10] ?_ ?_ ?_ <;> (simp; done)) | (refine LeV.tell [some 11] ?_ ?_ ?_ <;> (simp; done)) | (refine LeV.tell [some 12] ?_ ?_ ?_ <;> (simp; done)) | (refine LeV.tell [some 13] ?_ ?_ ?_ <;> (simp; done)) | (refine LeV.tell [some 14] ?_ ?_ ?_ <;> (simp; done)) | (refine LeV.tell [some 15] ?_ ?_ ?_ <;> (simp; done))
theorem laws_toIntS_k {xs : List Int} (hl : xs.length ≤ 4294967296) {S : FuncId → Bool} {H : List Blk} {K : A → Dl → Prop} {zs : List A} (hS : S 15 = false) (hv : viewL (viewA 8 H) zs = some [aI xs]) (ho : noOwns zs = true ∨ nosl (iref 0 xs) = true ∧ noslBlks ([iblk xs]) = true) (hK : K (shiftA H.length (iref 0 xs)) (.news (([iblk xs]).map (shiftB H.length)))) : @WCall' Go.Proofs.Try.prog S 15 zs H ⟨K⟩ :=
  WCall_ro' hS hv (laws_toIntS_c xs hl) rfl ho hK
theorem laws_eqNodeS_c (ns ms : List Nd) (hl : ns.length < 9223372036854775807) (hl2 : ms.length < 9223372036854775807) : T 49 [.sl ns.length (enc ns), .sl ms.length (enc ms)] [] (.bool (decide (ns = ms))) ([]) := by
  refine semT' (S := S0) hm laws_eqNodeS_ok (Nat.le_of_ble_eq_true rfl) ?_
  unfold laws_eqNodeS; dsimp only
  simp
  refine br_intro' (fun h => ?_) (fun h => ?_) <;> (try simp at h) <;> (try simp [h])
  · refine WLoop_fam (fun j : Nat => [(0, A.sl ns.length (enc ns)), (1, A.sl ms.length (enc ms)), (5, i6 j)]) (fun _ => []) (fun j => ns.length - j)
      (fun j => j ≤ ns.length ∧ ns.take j = ms.take j) ?_ 0 ⟨Nat.zero_le _, by simp⟩
    intro j ⟨hj, hf⟩ ih
    simp
    have hq : ns.length = ms.length := by omega
    refine br_intro' (fun h => ?_) (fun h => ?_) <;> (have h0 := h) <;> (try simp at h) <;> try simp [h0, h]
    · obtain ⟨r, hr⟩ := enc_at h
      have hm : j < ms.length := by omega
      obtain ⟨r2, hr2⟩ := enc_at hm
      have h3 : 3 ≤ ms.length * 3 - j * 3 := by omega
      have h4 : 3 ≤ ns.length * 3 - j * 3 := by omega
      have hw : IntKind.i64.wrap ((j : Int) + 1) = j + 1 := wrap64 (by omega) (by omega)
      have h' := h
      simp [h3, h4, hr, h', hr2, hm]
      refine laws_eqNode_call (n := ns[j]) (m := ms[j]) rfl ?_; simp
      first | (refine ck_intro' (by kernel_rfl) ?_; try simp) | skip
      refine br_intro' (fun g => ?_) (fun g => ?_) <;> simp at g <;> simp [g]
      · rw [hw]
        exact ih (j + 1) ⟨h', by rw [List.take_succ_eq_append_getElem h', List.take_succ_eq_append_getElem hm, hf, g]⟩ (by omega)
      · exact LeV.ro rfl rfl (by simp; intro e; subst e; exact g rfl)
    · have h0 : j = ns.length := by omega
      exact LeV.ro rfl rfl (by rw [h0, List.take_length, hq, List.take_length] at hf; simp [hf])
  · exact LeV.ro rfl rfl (by simp; intro e; rw [e] at h; exact h rfl)
theorem laws_eqNodeS_call {ns ms : List Nd} (hl : ns.length < 9223372036854775807) (hl2 : ms.length < 9223372036854775807) {S : FuncId → Bool} {H : List Blk} {K : A → Dl → Prop} (hS : S 49 = false) (hK : K (.bool (decide (ns = ms))) (.news [])) : @WCall' Go.Proofs.Try.prog S 49 [.sl ns.length (enc ns), .sl ms.length (enc ms)] H ⟨K⟩ :=
  WCall_pure hS (laws_eqNodeS_c ns ms hl hl2) (by simp) (by simp) (by simp) hK
theorem laws_eqNodeS_k {ns ms : List Nd} (hl : ns.length < 9223372036854775807) (hl2 : ms.length < 9223372036854775807) {S : FuncId → Bool} {H : List Blk} {K : A → Dl → Prop} {zs : List A} (hS : S 49 = false) (hv : viewL (viewA 8 H) zs = some [.sl ns.length (enc ns), .sl ms.length (enc ms)]) (ho : noOwns zs = true ∨ nosl (.bool (decide (ns = ms))) = true) (hK : K (.bool (decide (ns = ms))) (.news [])) : @WCall' Go.Proofs.Try.prog S 49 zs H ⟨K⟩ :=
  WCall_pure hS (laws_eqNodeS_c ns ms hl hl2) hv ho (by simp) hK
theorem laws_eqPool_c (ns ms : List Nd) (hl : ns.length < 9223372036854775807) (hl2 : ms.length < 9223372036854775807) : T 18 [aP ns, aP ms] [] (.bool (decide (ns = ms))) ([]) := by
  refine semT' (S := S0) hm laws_eqPool_ok (Nat.le_of_ble_eq_true rfl) ?_
  unfold laws_eqPool; dsimp only
  simp
  refine laws_eqNodeS_call (ns := ns) (ms := ms) hl hl2 rfl ?_; simp
  refine br_intro' (fun g => ?_) (fun g => ?_) <;> simp at g <;> simp [g]
  · exact LeV.ro rfl rfl (by simp)
  · exact LeV.ro rfl rfl (by simp [g])
theorem laws_eqPool_call {ns ms : List Nd} (hl : ns.length < 9223372036854775807) (hl2 : ms.length < 9223372036854775807) {S : FuncId → Bool} {H : List Blk} {K : A → Dl → Prop} (hS : S 18 = false) (hK : K (.bool (decide (ns = ms))) (.news [])) : @WCall' Go.Proofs.Try.prog S 18 [aP ns, aP ms] H ⟨K⟩ :=
  WCall_pure hS (laws_eqPool_c ns ms hl hl2) (by simp) (by simp) (by simp) hK
theorem laws_eqPool_k {ns ms : List Nd} (hl : ns.length < 9223372036854775807) (hl2 : ms.length < 9223372036854775807) {S : FuncId → Bool} {H : List Blk} {K : A → Dl → Prop} {zs : List A} (hS : S 18 = false) (hv : viewL (viewA 8 H) zs = some [aP ns, aP ms]) (ho : noOwns zs = true ∨ nosl (.bool (decide (ns = ms))) = true) (hK : K (.bool (decide (ns = ms))) (.news [])) : @WCall' Go.Proofs.Try.prog S 18 zs H ⟨K⟩ :=
  WCall_pure hS (laws_eqPool_c ns ms hl hl2) hv ho (by simp) hK
theorem laws_eqIntS_c (ns ms : List Int) (hl : ns.length < 9223372036854775807) (hl2 : ms.length < 9223372036854775807) : T 17 [aI ns, aI ms] [] (.bool (decide (ns = ms))) ([]) := by
  refine semT' (S := S0) hm laws_eqIntS_ok (Nat.le_of_ble_eq_true rfl) ?_
  unfold laws_eqIntS; dsimp only
  simp
  refine br_intro' (fun h => ?_) (fun h => ?_) <;> (try simp at h) <;> (try simp [h])
  · refine WLoop_fam (fun j : Nat => [(0, aI ns), (1, aI ms), (5, i6 j)]) (fun _ => []) (fun j => ns.length - j)
      (fun j => j ≤ ns.length ∧ ns.take j = ms.take j) ?_ 0 ⟨Nat.zero_le _, by simp⟩
    intro j ⟨hj, hf⟩ ih
    simp
    have hq : ns.length = ms.length := by omega
    refine br_intro' (fun h => ?_) (fun h => ?_) <;> (have h0 := h) <;> (try simp at h) <;> try simp [h0, h]
    · have hm : j < ms.length := by omega
      have hw : IntKind.i64.wrap ((j : Int) + 1) = j + 1 := wrap64 (by omega) (by omega)
      have h' := h
      simp [h', hm]
      first | (refine ck_intro' (by kernel_rfl) ?_; try simp) | skip
      refine br_intro' (fun g => ?_) (fun g => ?_) <;> simp at g <;> simp [g]
      · rw [hw]
        exact ih (j + 1) ⟨h', by rw [List.take_succ_eq_append_getElem h', List.take_succ_eq_append_getElem hm, hf, g]⟩ (by omega)
      · exact LeV.ro rfl rfl (by simp; intro e; subst e; exact g rfl)
    · have h0 : j = ns.length := by omega
      exact LeV.ro rfl rfl (by rw [h0, List.take_length, hq, List.take_length] at hf; simp [hf])
  · exact LeV.ro rfl rfl (by simp; intro e; rw [e] at h; exact h rfl)
theorem laws_eqIntS_call {ns ms : List Int} (hl : ns.length < 9223372036854775807) (hl2 : ms.length < 9223372036854775807) {S : FuncId → Bool} {H : List Blk} {K : A → Dl → Prop} (hS : S 17 = false) (hK : K (.bool (decide (ns = ms))) (.news [])) : @WCall' Go.Proofs.Try.prog S 17 [aI ns, aI ms] H ⟨K⟩ :=
  WCall_pure hS (laws_eqIntS_c ns ms hl hl2) (by simp) (by simp) (by simp) hK
theorem laws_eqIntS_k {ns ms : List Int} (hl : ns.length < 9223372036854775807) (hl2 : ms.length < 9223372036854775807) {S : FuncId → Bool} {H : List Blk} {K : A → Dl → Prop} {zs : List A} (hS : S 17 = false) (hv : viewL (viewA 8 H) zs = some [aI ns, aI ms]) (ho : noOwns zs = true ∨ nosl (.bool (decide (ns = ms))) = true) (hK : K (.bool (decide (ns = ms))) (.news [])) : @WCall' Go.Proofs.Try.prog S 17 zs H ⟨K⟩ :=
  WCall_pure hS (laws_eqIntS_c ns ms hl hl2) hv ho (by simp) hK
theorem szF_neg {x : Int} {n : Nat} : szF x n < 0 ↔ x < n := by unfold szF; split <;> omega
theorem szF_pos {x : Int} {n : Nat} (h : ¬ x < n) : szF x n = x - n := by unfold szF; rw [if_neg (by omega)]
/-- The size of a stream. -/
def szStr (s : St) (x : Int) : Int := if x < s.pool.length + s.know.length + s.sent.length + s.got.length then -1 else x - (s.pool.length + s.know.length + s.sent.length + s.got.length)
theorem St_eq {x y : St} : x = y ↔ x.pool = y.pool ∧ x.know = y.know ∧ x.out = y.out ∧ x.inn = y.inn ∧ x.sent = y.sent ∧ x.got = y.got := by cases x; cases y; simp
end Go.Proofs.Ytfbfebaajdihiaa.C

set_option linter.unusedVariables false
set_option linter.unusedSimpArgs false
set_option maxRecDepth 4000
namespace Go.Proofs.Ytfbfebaajdihiaa.C
open Go.Sym Go.Proofs.Ytfbfebaajdihiaa.I
theorem laws_big_c (bs : List Int)  : T 26 [aB bs] [] (.bool (decide (1048576 < bs.length))) ([]) := by
  refine semT' (S := S0) hm laws_big_ok (Nat.le_of_ble_eq_true rfl) ?_
  unfold laws_big; dsimp only
  simp
  exact LeV.ro rfl rfl (by simp; omega)
theorem laws_big_call {bs : List Int}  {S : FuncId → Bool} {H : List Blk} {K : A → Dl → Prop} (hS : S 26 = false) (hK : K (.bool (decide (1048576 < bs.length))) (.news [])) : @WCall' Go.Proofs.Try.prog S 26 [aB bs] H ⟨K⟩ :=
  WCall_pure hS (laws_big_c bs) (by simp) (by simp) (by simp) hK
theorem laws_big_k {bs : List Int}  {S : FuncId → Bool} {H : List Blk} {K : A → Dl → Prop} {zs : List A} (hS : S 26 = false) (hv : viewL (viewA 8 H) zs = some [aB bs]) (ho : noOwns zs = true ∨ nosl (.bool (decide (1048576 < bs.length))) = true) (hK : K (.bool (decide (1048576 < bs.length))) (.news [])) : @WCall' Go.Proofs.Try.prog S 26 zs H ⟨K⟩ :=
  WCall_pure hS (laws_big_c bs) hv ho (by simp) hK
theorem laws_within_c (ks : List Int) (t : Int) (hl : ks.length < 9223372036854775807) : T 35 [aI ks, i6 t] [] (.bool (decide (t ∈ ks))) ([]) := by
  refine semT' (S := S0) hm laws_within_ok (Nat.le_of_ble_eq_true rfl) ?_
  unfold laws_within; dsimp only
  simp
  refine WLoop_fam (fun j : Nat => [(0, aI ks), (1, i6 t), (5, i6 j)]) (fun _ => []) (fun j => ks.length - j)
    (fun j => j ≤ ks.length ∧ t ∉ ks.take j) ?_ 0 ⟨Nat.zero_le _, by simp⟩
  intro j ⟨hj, hf⟩ ih
  simp
  refine br_intro' (fun u => ?_) (fun u => ?_) <;> (have u0 := u) <;> simp only [decide_eq_true_eq, decide_eq_false_iff_not] at u <;> simp [u0, u]
  · have hw := wrap_succ (n := j) (by omega)
    repeat (refine ck_intro' (by first | omega | (simp; omega) | kernel_rfl) ?_; try simp [u])
    refine br_intro' (fun g => ?_) (fun g => ?_) <;> (have g0 := g) <;> simp only [decide_eq_true_eq, decide_eq_false_iff_not] at g <;> simp [g0]
    · exact LeV.ro rfl rfl (by simp; rw [← g]; exact List.getElem_mem u)
    · rw [hw]
      refine ih (j + 1) ⟨u, fun h => ?_⟩ (by omega)
      rw [List.take_succ_eq_append_getElem u] at h
      rcases List.mem_append.1 h with h | h
      · exact hf h
      · have e : t = ks[j] := by simpa using h
        exact g e.symm
  · have h0 : ks.take j = ks := List.take_of_length_le (by omega)
    exact LeV.ro rfl rfl (by simp; rw [← h0]; exact hf)
theorem laws_within_call {ks : List Int} {t : Int} (hl : ks.length < 9223372036854775807) {S : FuncId → Bool} {H : List Blk} {K : A → Dl → Prop} (hS : S 35 = false) (hK : K (.bool (decide (t ∈ ks))) (.news [])) : @WCall' Go.Proofs.Try.prog S 35 [aI ks, i6 t] H ⟨K⟩ :=
  WCall_pure hS (laws_within_c ks t hl) (by simp) (by simp) (by simp) hK
theorem laws_within_k {ks : List Int} {t : Int} (hl : ks.length < 9223372036854775807) {S : FuncId → Bool} {H : List Blk} {K : A → Dl → Prop} {zs : List A} (hS : S 35 = false) (hv : viewL (viewA 8 H) zs = some [aI ks, i6 t]) (ho : noOwns zs = true ∨ nosl (.bool (decide (t ∈ ks))) = true) (hK : K (.bool (decide (t ∈ ks))) (.news [])) : @WCall' Go.Proofs.Try.prog S 35 zs H ⟨K⟩ :=
  WCall_pure hS (laws_within_c ks t hl) hv ho (by simp) hK
theorem impl_KnowHas_c (ks : List Int) (t : Int) (hl : ks.length < 9223372036854775807) : T 30 [aI ks, i6 t] [] (.bool (hasK ks t)) ([]) := by
  refine semT' (S := S0) hm impl_KnowHas_ok (Nat.le_of_ble_eq_true rfl) ?_
  unfold impl_KnowHas; dsimp only
  simp
  refine slices_Contains_int_k (ks := ks) (t := t) hl rfl (by simp) (by simp) ?_; simp
  exact LeV.ro rfl rfl (by simp)
theorem impl_KnowHas_call {ks : List Int} {t : Int} (hl : ks.length < 9223372036854775807) {S : FuncId → Bool} {H : List Blk} {K : A → Dl → Prop} (hS : S 30 = false) (hK : K (.bool (hasK ks t)) (.news [])) : @WCall' Go.Proofs.Try.prog S 30 [aI ks, i6 t] H ⟨K⟩ :=
  WCall_pure hS (impl_KnowHas_c ks t hl) (by simp) (by simp) (by simp) hK
theorem impl_KnowHas_k {ks : List Int} {t : Int} (hl : ks.length < 9223372036854775807) {S : FuncId → Bool} {H : List Blk} {K : A → Dl → Prop} {zs : List A} (hS : S 30 = false) (hv : viewL (viewA 8 H) zs = some [aI ks, i6 t]) (ho : noOwns zs = true ∨ nosl (.bool (hasK ks t)) = true) (hK : K (.bool (hasK ks t)) (.news [])) : @WCall' Go.Proofs.Try.prog S 30 zs H ⟨K⟩ :=
  WCall_pure hS (impl_KnowHas_c ks t hl) hv ho (by simp) hK
end Go.Proofs.Ytfbfebaajdihiaa.C

set_option linter.unusedVariables false
set_option linter.unusedSimpArgs false
set_option maxRecDepth 4000
namespace Go.Proofs.Ytfbfebaajdihiaa.C
open Go.Sym Go.Proofs.Ytfbfebaajdihiaa.I
structure Sp where
  r : Int
  t : Int
  a : Int
  b : Int
deriving DecidableEq
theorem Sp_eq {x y : Sp} : x = y ↔ x.r = y.r ∧ x.t = y.t ∧ x.a = y.a ∧ x.b = y.b := by cases x; cases y; simp
def encT (s : Sp) : List A := [i6 s.r, i6 s.t, i6 s.a, i6 s.b]
def encS (ss : List Sp) : List A := ss.flatMap encT
theorem encT_len (n : Sp) : (encT n).length = 4 := rfl
@[simp] theorem encS_len (ns : List Sp) : (encS ns).length = ns.length * 4 := flat_len encT_len ns
@[simp] theorem encS_scals (ns : List Sp) : scals (encS ns) = true := scals_flat _ (fun _ => rfl) ns
theorem encS_at {ns : List Sp} {j : Nat} (h : j < ns.length) : ∃ r, (encS ns).drop (j * 4) = i6 ns[j].r :: i6 ns[j].t :: i6 ns[j].a :: i6 ns[j].b :: r := flat_at encT_len (List.getElem?_eq_getElem h)
@[simp] theorem encS_view (n : Nat) (H : List Blk) (ns : List Sp) : viewL (viewA (n + 1) H) (encS ns) = some (encS ns) := viewL_scals _ (encS_scals ns)
@[simp] theorem encS_noOwns (ns : List Sp) : noOwns (encS ns) = true := noOwns_scals _ (encS_scals ns)
@[simp] theorem encS_nosls (ns : List Sp) : nosls (encS ns) = true := nosls_scals _ (encS_scals ns)
@[simp] theorem encS_shift (n : Nat) (ns : List Sp) : shiftAs n (encS ns) = encS ns := shiftAs_scals _ (encS_scals ns)
@[simp] theorem encS_inAs (m : Nat) (ns : List Sp) : inAs m (encS ns) = true := inAs_scals _ (encS_scals ns)
@[simp] theorem encS_tells (H H' : List Blk) (g : List (Option Nat)) (ns : List Sp) : Tells H H' g (encS ns) (encS ns) := Tells_scals _ (encS_scals ns)
@[simp] theorem encS_one (ns : List Sp) : (encS ns).all A.one = true := one_scals _ (encS_scals ns)
@[simp] theorem encS_take (ns : List Sp) : (encS ns).take (ns.length * 4) = encS ns := List.take_of_length_le (by simp)
@[simp] theorem encS_nil : encS [] = [] := rfl
theorem encS_snoc (ns : List Sp) (n : Sp) : encS (ns ++ [n]) = encS ns ++ [i6 n.r, i6 n.t, i6 n.a, i6 n.b] := by simp [encS, encT]
theorem encS_takes (ns : List Sp) (j : Nat) : (encS ns).take (j * 4) = encS (ns.take j) := flat_take encT_len ns j
theorem encS_drops (ns : List Sp) (j : Nat) : (encS ns).drop (j * 4) = encS (ns.drop j) := flat_drop encT_len ns j
abbrev aSt (n : Sp) : A := .agg [i6 n.r, i6 n.t, i6 n.a, i6 n.b]
abbrev aSs (ss : List Sp) : A := .sl ss.length (encS ss)
/-- How many steps a step needs. -/
def needsF (ns : List Nd) (s : Sp) : Int :=
  if s.r = 1 ∨ s.r = 2 then 0 else if s.r = 3 then partsF (nodeAt ns s.t).k else if s.r = 4 ∨ s.r = 7 then 2 else if s.r = 5 ∨ s.r = 6 ∨ s.r = 8 then 1 else -1
theorem partsL_len {ns : List Nd} (hp : poolF ns = true) {t : Int} (ht : hasF ns.length t = true) : ((partsL (nodeAt ns t)).length : Int) = partsF (nodeAt ns t).k := by
  obtain ⟨j, rfl, hj⟩ := hasN ht
  rw [nodeAt_nat hj]
  rcases parts_kind hp hj with h | h | h <;> simp [partsL, h]
def stepNeedsF (ns : List Nd) (s : Sp) : Int := if poolF ns = true ∧ hasF ns.length s.t = true then needsF ns s else -1
/-- The term of a step ahead of place m; -1: there's none. -/
def termAt (ss : List Sp) (m : Nat) (k : Int) : Int := if inF k 0 ((m : Int) - 1) then (ss.getD k.toNat ⟨0, 0, 0, 0⟩).t else -1
end Go.Proofs.Ytfbfebaajdihiaa.C

set_option linter.unusedVariables false
set_option linter.unusedSimpArgs false
set_option maxRecDepth 4000
namespace Go.Proofs.Ytfbfebaajdihiaa.C
open Go.Sym Go.Proofs.Ytfbfebaajdihiaa.I
theorem needsF_in {ns : List Nd} (hp : poolF ns = true) {s : Sp} (ht : hasF ns.length s.t = true) : needsF ns s = -1 ∨ needsF ns s = 0 ∨ needsF ns s = 1 ∨ needsF ns s = 2 := by
  obtain ⟨j, ej, hj⟩ := hasN ht
  have := parts_kind hp hj
  rw [← nodeAt_nat hj, ← ej] at this
  unfold needsF
  split
  · simp
  · split
    · rcases this with h | h | h <;> simp [h]
    · split
      · simp
      · split <;> simp
/-- Whether a rule holds, by the terms of the steps that are named. -/
def ruleF (ns : List Nd) (ks : List Int) (s : Sp) (a b : Int) : Bool :=
  if s.r = 1 then hasK ks s.t
  else if s.r = 2 then decide ((nodeAt ns s.t).k = 1) && pubF (nodeAt ns s.t).a
  else if s.r = 3 then decide ((nodeAt ns s.t).k ≠ 1) && decide (a = (nodeAt ns s.t).a) && (decide (needsF ns s < 2) || decide (b = (nodeAt ns s.t).b))
  else if s.r = 4 then decide ((nodeAt ns s.t).k = 8) && decide ((nodeAt ns b).k = 7) && (decide (a = (nodeAt ns s.t).a) && decide ((nodeAt ns b).a = (nodeAt ns s.t).b) || decide (a = (nodeAt ns s.t).b) && decide ((nodeAt ns b).a = (nodeAt ns s.t).a))
  else if s.r = 5 then decide ((nodeAt ns a).k = 2) && decide ((nodeAt ns a).a = s.t)
  else if s.r = 6 then decide ((nodeAt ns a).k = 2) && decide ((nodeAt ns a).b = s.t)
  else if s.r = 7 then decide ((nodeAt ns a).k = 3) && decide ((nodeAt ns a).a = s.t) && decide ((nodeAt ns a).b = b)
  else decide ((nodeAt ns a).k = 4) && decide ((nodeAt ns a).a = s.t)
def lackF (n a b sa sb : Int) : Bool := decide (n < 0 ∨ (0 < n ∧ a < 0) ∨ (1 < n ∧ b < 0) ∨ (n < 1 ∧ sa ≠ 0) ∨ (n < 2 ∧ sb ≠ 0))
def holdsF (ns : List Nd) (ks : List Int) (s : Sp) (a b : Int) : Bool := !lackF (needsF ns s) a b s.a s.b && ruleF ns ks s a b
theorem needs_0 {ns : List Nd} {s : Sp} (h : needsF ns s = 0) : s.r = 1 ∨ s.r = 2 ∨ s.r = 3 := by
  unfold needsF at h
  split at h
  · omega
  · split at h
    · omega
    · split at h
      · omega
      · split at h <;> omega
theorem needs_1 {ns : List Nd} {s : Sp} (h : needsF ns s = 1) : s.r = 3 ∨ s.r = 5 ∨ s.r = 6 ∨ s.r = 8 := by
  unfold needsF at h
  split at h
  · omega
  · split at h
    · omega
    · split at h
      · omega
      · split at h <;> omega
theorem needs_2 {ns : List Nd} {s : Sp} (h : needsF ns s = 2) : s.r = 3 ∨ s.r = 4 ∨ s.r = 7 := by
  unfold needsF at h
  split at h
  · omega
  · split at h
    · omega
    · split at h
      · omega
      · split at h <;> omega
end Go.Proofs.Ytfbfebaajdihiaa.C
