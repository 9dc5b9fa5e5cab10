/- What drawing any pool answers. Conditions: those that each theorem names. -/
import Derived.Test.YtnbodfakblbmbaaXD2
set_option linter.unusedVariables false
set_option linter.unusedSimpArgs false
set_option maxRecDepth 4000
namespace Go.Proofs.Ytnbodfakblbmbaa.C
open Go.Sym Go.Proofs.Ytnbodfakblbmbaa.I
theorem findF_in {n : Nd} : ∀ {ns : List Nd} {i : Int}, 0 ≤ i → 0 ≤ findF ns n i → n ∈ ns
  | [], i, _, h => by simp [findF] at h
  | x :: xs, i, hi, h => by
    simp only [findF] at h
    split at h
    · rename_i e; subst e; simp
    · exact List.mem_cons_of_mem _ (findF_in (by omega) h)
theorem no_digest {ns : List Nd} (hp : poolF ns = true) : findF ns ⟨5, (ns.length : Int) - 1, 0⟩ 0 < 0 := by
  rcases Int.lt_or_le (findF ns ⟨5, (ns.length : Int) - 1, 0⟩ 0) 0 with h | h
  · exact h
  · have hm := findF_in (Int.le_refl 0) h
    obtain ⟨j, hj, e⟩ := List.getElem_of_mem hm
    have := (okFrom_all hp hj).1
    rw [e] at this
    simp [rightF, partsF, inF] at this
    omega
/-- A pool with one more name and one more digest, where there's room. -/
def moreF (ns : List Nd) : List Nd := (addF (addF ns ⟨1, (ns.length : Int).tmod 200, 0⟩).1 ⟨5, ((addF ns ⟨1, (ns.length : Int).tmod 200, 0⟩).1.length : Int) - 1, 0⟩).1
theorem addF_cases (ns : List Nd) (n : Nd) : (addF ns n).1 = ns ∨ (addF ns n).1.length = ns.length + 1 := by
  unfold addF
  split
  · exact .inl rfl
  · split
    · exact .inl rfl
    · split
      · exact .inl rfl
      · exact .inr (by simp)
theorem moreF_gt {ns : List Nd} (hp : poolF ns = true) (hl : ns.length < 500) : ns.length < (moreF ns).length := by
  have hge := addF_ge (addF ns ⟨1, (ns.length : Int).tmod 200, 0⟩).1 ⟨5, ((addF ns ⟨1, (ns.length : Int).tmod 200, 0⟩).1.length : Int) - 1, 0⟩
  rcases addF_cases ns ⟨1, (ns.length : Int).tmod 200, 0⟩ with h | h
  · have hne : 0 < ns.length := by
      rcases Nat.eq_zero_or_pos ns.length with e | e
      · have : ns = [] := List.eq_nil_of_length_eq_zero e
        subst this
        simp [addF, normN, rightF, partsF, inF, findF] at h
      · exact e
    unfold moreF
    rw [h]
    have hr : rightF ⟨5, (ns.length : Int) - 1, 0⟩ ns.length = true := by simp [rightF, partsF, inF]; omega
    have hf := no_digest hp
    have hnm : normN ⟨5, (ns.length : Int) - 1, 0⟩ = ⟨5, (ns.length : Int) - 1, 0⟩ := by simp [normN]
    simp only [addF, hnm, hr]
    rw [if_neg (by simp), if_neg (by omega), if_neg (by omega)]
    simp
  · unfold moreF
    omega
def fillF : Nat → List Nd → List Nd
  | 0, ns => ns
  | n + 1, ns => if ns.length < 500 then fillF n (moreF ns) else ns
theorem fillF_one (n : Nat) {ns : List Nd} (h : ns.length < 500) : fillF (n + 1) ns = fillF n (moreF ns) := if_pos h
theorem fillF_full : ∀ (n : Nat) {ns : List Nd}, ¬ ns.length < 500 → fillF n ns = ns
  | 0, _, _ => rfl
  | n + 1, _, h => if_neg h
def anyMid (bs : List Int) (p : List Nd) (t : Int × Cu) : List Nd × Cu :=
  if t.1 = 0 then (p ++ [(nodeF bs t.2 3).1], (nodeF bs t.2 3).2)
  else if t.1 = 1 then (p ++ [⟨(belowF bs t.2 10).1, (belowF bs (belowF bs t.2 10).2 30).1 - 1, (belowF bs (belowF bs (belowF bs t.2 10).2 30).2 30).1 - 1⟩], (belowF bs (belowF bs (belowF bs t.2 10).2 30).2 30).2)
  else (p, t.2)
def anyEnd (bs : List Int) (q : List Nd × Cu) : List Nd × Cu := if (onceF bs q.2 80).1 then (fillF 500 [], (onceF bs q.2 80).2) else (q.1, (onceF bs q.2 80).2)
def anyF (bs : List Int) (s : Cu) : List Nd × Cu := anyEnd bs (anyMid bs (poolD bs s 24).1 (belowF bs (poolD bs s 24).2 25))
theorem spec_l1DrawAny_m (H : List Blk) (cb : Nat) (bs : List Int) (s : Cu) (hc : cb < H.length) (hb : bs.length < 9223372036854775807) (hcl : Closed1 H.length H = true) : T 118 [.ptr cb 0 0] (cur H cb bs s) (aP (anyF bs s).1) (cur H cb bs (anyF bs s).2) := by
  refine semT' (S := (fun f => [123, 94, 91, 120, 134, 133, 132].contains f)) hm spec_l1DrawAny_ok (Nat.le_of_ble_eq_true rfl) ?_
  unfold spec_l1DrawAny; dsimp only
  simp
  refine cur_call' rfl cb bs s (poolD bs s 24).2 hc (spec_l1DrawPool_m _ cb bs s 24 (cur_lt _ _ hc) hb (Closed1_more (by simpa using cur_closed bs s hcl) (by simp)) (by omega) (by omega)) ?_; simp
  have hp := poolD_ok bs s 24
  have hl := poolF_len hp
  refine cur_call' rfl cb bs (poolD bs s 24).2 (belowF bs (poolD bs s 24).2 25).2 hc (spec_l1Below_m _ cb bs _ 25 (cur_lt _ _ hc) hb) ?_; simp
  have ea : anyF bs s = anyEnd bs (anyMid bs (poolD bs s 24).1 (belowF bs (poolD bs s 24).2 25)) := rfl
  rw [ea]
  generalize (poolD bs s 24).1 = ns at hp hl ⊢
  generalize belowF bs (poolD bs s 24).2 25 = t
  refine br_intro' (fun g => ?_) (fun g => ?_) <;> simp at g <;> simp [g]
  · rw [show anyMid bs ns t = (ns ++ [(nodeF bs t.2 3).1], (nodeF bs t.2 3).2) from if_pos g]
    refine spec_l1Copy_k (ns := ns) (by omega) rfl (by simp) (by simp [noslBlks]) ?_; simp [shiftB]
    refine cur_call' rfl cb bs t.2 (nodeF bs t.2 3).2 hc (spec_l1DrawNode_m _ cb bs _ 3 (cur_lt _ _ hc) hb (Closed1_more (by simpa using cur_closed bs t.2 hcl) (by simp)) ⟨by omega, by omega⟩) ?_; simp
    refine ck_intro' (by omega) ?_; simp
    refine cur_call' rfl cb bs (nodeF bs t.2 3).2 (onceF bs (nodeF bs t.2 3).2 80).2 hc (spec_l1Once_m _ cb bs _ 80 (cur_lt _ _ hc) hb) ?_; simp
    have eo : anyEnd bs (ns ++ [(nodeF bs t.2 3).1], (nodeF bs t.2 3).2) = if (onceF bs (nodeF bs t.2 3).2 80).1 then (fillF 500 [], (onceF bs (nodeF bs t.2 3).2 80).2) else (ns ++ [(nodeF bs t.2 3).1], (onceF bs (nodeF bs t.2 3).2 80).2) := rfl
    rw [eo]
    generalize onceF bs (nodeF bs t.2 3).2 80 = o
    refine br_intro' (fun f => ?_) (fun f => ?_) <;> simp [f]
    · refine WLoop_drop (cur H cb bs o.2 ++ [⟨0, false, 1, [A.nil], none⟩, ⟨0, false, 1, [A.nil], none⟩]) _ (by rw [List.append_assoc]; rfl) (by simp) (Closed1_more (by simpa using cur_closed bs o.2 hcl) (by simp)) (by simp) ?_
      generalize hfx : fillF 500 [] = fx
      refine WLoop_fam (fun p : List Nd × Bool => [(2, A.ptr H.length 0 0), (3, A.ptr (H.length + 1) 0 0)])
        (fun p => cur H cb bs o.2 ++ [⟨0, false, 1, [A.nil], none⟩, ⟨0, false, 1, [if p.2 then A.nil else .sl p.1.length (enc p.1)], none⟩]) (fun p => 500 - p.1.length)
        (fun p => (p.2 = true → p.1 = []) ∧ poolF p.1 = true ∧ ∃ k, 500 - p.1.length ≤ k ∧ fx = fillF k p.1) ?_ ([], true) ⟨fun _ => rfl, poolF_nil, 500, by simp, hfx.symm⟩
      rintro ⟨qs, b⟩ ⟨hbn, hq, k, hk, hf⟩ ih
      simp only at hbn hq hk hf
      have hql := poolF_len hq
      have hq1 := addF_pool ⟨1, (qs.length : Int).tmod 200, 0⟩ hq
      have hql1 := poolF_len hq1
      have nxt : qs.length < 500 → ∃ k', 500 - (moreF qs).length ≤ k' ∧ fx = fillF k' (moreF qs) := fun h => by
        obtain ⟨k', rfl⟩ : ∃ k', k = k' + 1 := ⟨k - 1, by omega⟩
        have := moreF_gt hq h
        exact ⟨k', by omega, hf.trans (fillF_one k' h)⟩
      cases b
      · simp
        refine br_intro' (fun h => ?_) (fun h => ?_) <;> (have h0 := h) <;> (try simp at h) <;> try simp [h0, h]
        · have h' : qs.length < 500 := by omega
          have wl : IntKind.i64.wrap (((addF qs ⟨1, (qs.length : Int).tmod 200, 0⟩).1.length : Int) - 1) = ((addF qs ⟨1, (qs.length : Int).tmod 200, 0⟩).1.length : Int) - 1 := wrap64 (by omega) (by omega)
          refine spec_l1Add_k (ns := qs) (n := ⟨1, (qs.length : Int).tmod 200, 0⟩) hq rfl (by simp) (by simp) ?_; simp
          rw [wl]
          refine spec_l1Add_k (ns := (addF qs ⟨1, (qs.length : Int).tmod 200, 0⟩).1) (n := ⟨5, ((addF qs ⟨1, (qs.length : Int).tmod 200, 0⟩).1.length : Int) - 1, 0⟩) hq1 rfl (by simp) (by simp) ?_; simp
          exact ih (moreF qs, false) ⟨by simp, addF_pool _ hq1, nxt h'⟩ (Nat.sub_lt_sub_left h' (moreF_gt hq h'))
        · rw [hf, fillF_full k (by omega)]
          simp [f]
          exact LeV.drop (by simp) (by simpa using cur_closed _ _ hcl) (by simp)
      · obtain rfl := hbn rfl
        simp
        refine spec_l1Add_k (ns := []) (n := ⟨1, 0, 0⟩) hq rfl (by simp) (by simp) ?_; simp
        have hz1 := addF_pool ⟨1, 0, 0⟩ poolF_nil
        have hz2 := poolF_len hz1
        have em : moreF [] = (addF (addF [] ⟨1, 0, 0⟩).1 ⟨5, ((addF [] ⟨1, 0, 0⟩).1.length : Int) - 1, 0⟩).1 := by simp [moreF]
        have hg := moreF_gt hq (by simp)
        have hn := nxt (by simp)
        have wl : IntKind.i64.wrap (((addF [] ⟨1, 0, 0⟩).1.length : Int) - 1) = ((addF [] ⟨1, 0, 0⟩).1.length : Int) - 1 := wrap64 (by omega) (by omega)
        rw [wl]
        refine spec_l1Add_k (ns := (addF [] ⟨1, 0, 0⟩).1) (n := ⟨5, ((addF [] ⟨1, 0, 0⟩).1.length : Int) - 1, 0⟩) hz1 rfl (by simp) (by simp) ?_; simp
        rw [← em]
        have hm : poolF (moreF []) = true := by rw [em]; exact addF_pool _ hz1
        exact ih (moreF [], false) ⟨by simp, hm, hn⟩ (Nat.sub_lt_sub_left (by simp) hg)
    · have := LeV.frzA (B := H.length) (H1 := cur H cb bs o.2) (T := [⟨0, false, 1, [.ref (H.length + 2) (ns.length + 1) 0 (ns.length + 1)], none⟩, ⟨0, false, 1, [.ref (H.length + 2) (ns.length + 1) 0 (ns.length + 1)], none⟩, ⟨ns.length + 1, false, 3, enc (ns ++ [(nodeF bs t.2 3).1]), none⟩, ⟨0, false, 3, encN (nodeF bs t.2 3).1, none⟩]) (b := H.length + 2) (m := ns.length + 1) (k := ⟨ns.length + 1, false, 3, enc (ns ++ [(nodeF bs t.2 3).1]), none⟩) (by simp) (by simpa using cur_closed _ _ hcl) (by simp) (by simp) (by simp) (by simp)
      rw [show (enc (ns ++ [(nodeF bs t.2 3).1])).take ((ns.length + 1) * 3) = enc (ns ++ [(nodeF bs t.2 3).1]) from List.take_of_length_le (by simp)] at this
      simpa [aP, enc_snoc, encN] using this
  refine br_intro' (fun g1 => ?_) (fun g1 => ?_) <;> simp at g1 <;> simp [g1]
  · rw [show anyMid bs ns t = _ from (if_neg g).trans (if_pos g1)]
    refine spec_l1Copy_k (ns := ns) (by omega) rfl (by simp) (by simp [noslBlks]) ?_; simp [shiftB]
    refine cur_call' rfl cb bs t.2 (belowF bs t.2 10).2 hc (spec_l1Below_m _ cb bs _ 10 (cur_lt _ _ hc) hb) ?_; simp
    generalize belowF bs t.2 10 = a
    refine cur_call' rfl cb bs a.2 (belowF bs a.2 30).2 hc (spec_l1Below_m _ cb bs _ 30 (cur_lt _ _ hc) hb) ?_; simp
    have hx := belowF_in bs a.2 30
    have hx' := hx.2.1 (by omega)
    generalize belowF bs a.2 30 = d at hx hx' ⊢
    refine cur_call' rfl cb bs d.2 (belowF bs d.2 30).2 hc (spec_l1Below_m _ cb bs _ 30 (cur_lt _ _ hc) hb) ?_; simp
    have hy := belowF_in bs d.2 30
    have hy' := hy.2.1 (by omega)
    generalize belowF bs d.2 30 = e at hy hy' ⊢
    have w1 : IntKind.i64.wrap (d.1 - 1) = d.1 - 1 := wrap64 (by omega) (by omega)
    have w2 : IntKind.i64.wrap (e.1 - 1) = e.1 - 1 := wrap64 (by omega) (by omega)
    refine ck_intro' (by omega) ?_; simp [w1, w2]
    refine cur_call' rfl cb bs e.2 (onceF bs e.2 80).2 hc (spec_l1Once_m _ cb bs _ 80 (cur_lt _ _ hc) hb) ?_; simp
    have eo : anyEnd bs (ns ++ [(Nd.mk a.1 (d.1 - 1) (e.1 - 1))], e.2) = if (onceF bs e.2 80).1 then (fillF 500 [], (onceF bs e.2 80).2) else (ns ++ [(Nd.mk a.1 (d.1 - 1) (e.1 - 1))], (onceF bs e.2 80).2) := rfl
    rw [eo]
    generalize onceF bs e.2 80 = o
    refine br_intro' (fun f => ?_) (fun f => ?_) <;> simp [f]
    · refine WLoop_drop (cur H cb bs o.2 ++ [⟨0, false, 1, [A.nil], none⟩, ⟨0, false, 1, [A.nil], none⟩]) _ (by rw [List.append_assoc]; rfl) (by simp) (Closed1_more (by simpa using cur_closed bs o.2 hcl) (by simp)) (by simp) ?_
      generalize hfx : fillF 500 [] = fx
      refine WLoop_fam (fun p : List Nd × Bool => [(2, A.ptr H.length 0 0), (3, A.ptr (H.length + 1) 0 0)])
        (fun p => cur H cb bs o.2 ++ [⟨0, false, 1, [A.nil], none⟩, ⟨0, false, 1, [if p.2 then A.nil else .sl p.1.length (enc p.1)], none⟩]) (fun p => 500 - p.1.length)
        (fun p => (p.2 = true → p.1 = []) ∧ poolF p.1 = true ∧ ∃ k, 500 - p.1.length ≤ k ∧ fx = fillF k p.1) ?_ ([], true) ⟨fun _ => rfl, poolF_nil, 500, by simp, hfx.symm⟩
      rintro ⟨qs, b⟩ ⟨hbn, hq, k, hk, hf⟩ ih
      simp only at hbn hq hk hf
      have hql := poolF_len hq
      have hq1 := addF_pool ⟨1, (qs.length : Int).tmod 200, 0⟩ hq
      have hql1 := poolF_len hq1
      have nxt : qs.length < 500 → ∃ k', 500 - (moreF qs).length ≤ k' ∧ fx = fillF k' (moreF qs) := fun h => by
        obtain ⟨k', rfl⟩ : ∃ k', k = k' + 1 := ⟨k - 1, by omega⟩
        have := moreF_gt hq h
        exact ⟨k', by omega, hf.trans (fillF_one k' h)⟩
      cases b
      · simp
        refine br_intro' (fun h => ?_) (fun h => ?_) <;> (have h0 := h) <;> (try simp at h) <;> try simp [h0, h]
        · have h' : qs.length < 500 := by omega
          have wl : IntKind.i64.wrap (((addF qs ⟨1, (qs.length : Int).tmod 200, 0⟩).1.length : Int) - 1) = ((addF qs ⟨1, (qs.length : Int).tmod 200, 0⟩).1.length : Int) - 1 := wrap64 (by omega) (by omega)
          refine spec_l1Add_k (ns := qs) (n := ⟨1, (qs.length : Int).tmod 200, 0⟩) hq rfl (by simp) (by simp) ?_; simp
          rw [wl]
          refine spec_l1Add_k (ns := (addF qs ⟨1, (qs.length : Int).tmod 200, 0⟩).1) (n := ⟨5, ((addF qs ⟨1, (qs.length : Int).tmod 200, 0⟩).1.length : Int) - 1, 0⟩) hq1 rfl (by simp) (by simp) ?_; simp
          exact ih (moreF qs, false) ⟨by simp, addF_pool _ hq1, nxt h'⟩ (Nat.sub_lt_sub_left h' (moreF_gt hq h'))
        · rw [hf, fillF_full k (by omega)]
          simp [f]
          exact LeV.drop (by simp) (by simpa using cur_closed _ _ hcl) (by simp)
      · obtain rfl := hbn rfl
        simp
        refine spec_l1Add_k (ns := []) (n := ⟨1, 0, 0⟩) hq rfl (by simp) (by simp) ?_; simp
        have hz1 := addF_pool ⟨1, 0, 0⟩ poolF_nil
        have hz2 := poolF_len hz1
        have em : moreF [] = (addF (addF [] ⟨1, 0, 0⟩).1 ⟨5, ((addF [] ⟨1, 0, 0⟩).1.length : Int) - 1, 0⟩).1 := by simp [moreF]
        have hg := moreF_gt hq (by simp)
        have hn := nxt (by simp)
        have wl : IntKind.i64.wrap (((addF [] ⟨1, 0, 0⟩).1.length : Int) - 1) = ((addF [] ⟨1, 0, 0⟩).1.length : Int) - 1 := wrap64 (by omega) (by omega)
        rw [wl]
        refine spec_l1Add_k (ns := (addF [] ⟨1, 0, 0⟩).1) (n := ⟨5, ((addF [] ⟨1, 0, 0⟩).1.length : Int) - 1, 0⟩) hz1 rfl (by simp) (by simp) ?_; simp
        rw [← em]
        have hm : poolF (moreF []) = true := by rw [em]; exact addF_pool _ hz1
        exact ih (moreF [], false) ⟨by simp, hm, hn⟩ (Nat.sub_lt_sub_left (by simp) hg)
    · have := LeV.frzA (B := H.length) (H1 := cur H cb bs o.2) (T := [⟨0, false, 1, [.ref (H.length + 2) (ns.length + 1) 0 (ns.length + 1)], none⟩, ⟨0, false, 1, [.ref (H.length + 2) (ns.length + 1) 0 (ns.length + 1)], none⟩, ⟨ns.length + 1, false, 3, enc (ns ++ [(Nd.mk a.1 (d.1 - 1) (e.1 - 1))]), none⟩, ⟨0, false, 3, encN (Nd.mk a.1 (d.1 - 1) (e.1 - 1)), none⟩]) (b := H.length + 2) (m := ns.length + 1) (k := ⟨ns.length + 1, false, 3, enc (ns ++ [(Nd.mk a.1 (d.1 - 1) (e.1 - 1))]), none⟩) (by simp) (by simpa using cur_closed _ _ hcl) (by simp) (by simp) (by simp) (by simp)
      rw [show (enc (ns ++ [(Nd.mk a.1 (d.1 - 1) (e.1 - 1))])).take ((ns.length + 1) * 3) = enc (ns ++ [(Nd.mk a.1 (d.1 - 1) (e.1 - 1))]) from List.take_of_length_le (by simp)] at this
      simpa [aP, enc_snoc, encN] using this
  · rw [show anyMid bs ns t = (ns, t.2) from (if_neg g).trans (if_neg g1)]
    refine cur_call' rfl cb bs t.2 (onceF bs t.2 80).2 hc (spec_l1Once_m _ cb bs _ 80 (cur_lt _ _ hc) hb) ?_; simp
    have eo : anyEnd bs (ns, t.2) = if (onceF bs t.2 80).1 then (fillF 500 [], (onceF bs t.2 80).2) else (ns, (onceF bs t.2 80).2) := rfl
    rw [eo]
    generalize onceF bs t.2 80 = o
    refine br_intro' (fun f => ?_) (fun f => ?_) <;> simp [f]
    · generalize hfx : fillF 500 [] = fx
      refine WLoop_fam (fun p : List Nd × Bool => [(2, A.ptr H.length 0 0), (3, A.ptr (H.length + 1) 0 0)])
        (fun p => cur H cb bs o.2 ++ [⟨0, false, 1, [A.nil], none⟩, ⟨0, false, 1, [if p.2 then A.nil else .sl p.1.length (enc p.1)], none⟩]) (fun p => 500 - p.1.length)
        (fun p => (p.2 = true → p.1 = []) ∧ poolF p.1 = true ∧ ∃ k, 500 - p.1.length ≤ k ∧ fx = fillF k p.1) ?_ ([], true) ⟨fun _ => rfl, poolF_nil, 500, by simp, hfx.symm⟩
      rintro ⟨qs, b⟩ ⟨hbn, hq, k, hk, hf⟩ ih
      simp only at hbn hq hk hf
      have hql := poolF_len hq
      have hq1 := addF_pool ⟨1, (qs.length : Int).tmod 200, 0⟩ hq
      have hql1 := poolF_len hq1
      have nxt : qs.length < 500 → ∃ k', 500 - (moreF qs).length ≤ k' ∧ fx = fillF k' (moreF qs) := fun h => by
        obtain ⟨k', rfl⟩ : ∃ k', k = k' + 1 := ⟨k - 1, by omega⟩
        have := moreF_gt hq h
        exact ⟨k', by omega, hf.trans (fillF_one k' h)⟩
      cases b
      · simp
        refine br_intro' (fun h => ?_) (fun h => ?_) <;> (have h0 := h) <;> (try simp at h) <;> try simp [h0, h]
        · have h' : qs.length < 500 := by omega
          have wl : IntKind.i64.wrap (((addF qs ⟨1, (qs.length : Int).tmod 200, 0⟩).1.length : Int) - 1) = ((addF qs ⟨1, (qs.length : Int).tmod 200, 0⟩).1.length : Int) - 1 := wrap64 (by omega) (by omega)
          refine spec_l1Add_k (ns := qs) (n := ⟨1, (qs.length : Int).tmod 200, 0⟩) hq rfl (by simp) (by simp) ?_; simp
          rw [wl]
          refine spec_l1Add_k (ns := (addF qs ⟨1, (qs.length : Int).tmod 200, 0⟩).1) (n := ⟨5, ((addF qs ⟨1, (qs.length : Int).tmod 200, 0⟩).1.length : Int) - 1, 0⟩) hq1 rfl (by simp) (by simp) ?_; simp
          exact ih (moreF qs, false) ⟨by simp, addF_pool _ hq1, nxt h'⟩ (Nat.sub_lt_sub_left h' (moreF_gt hq h'))
        · rw [hf, fillF_full k (by omega)]
          simp [f]
          exact LeV.drop (by simp) (by simpa using cur_closed _ _ hcl) (by simp)
      · obtain rfl := hbn rfl
        simp
        refine spec_l1Add_k (ns := []) (n := ⟨1, 0, 0⟩) hq rfl (by simp) (by simp) ?_; simp
        have hz1 := addF_pool ⟨1, 0, 0⟩ poolF_nil
        have hz2 := poolF_len hz1
        have em : moreF [] = (addF (addF [] ⟨1, 0, 0⟩).1 ⟨5, ((addF [] ⟨1, 0, 0⟩).1.length : Int) - 1, 0⟩).1 := by simp [moreF]
        have hg := moreF_gt hq (by simp)
        have hn := nxt (by simp)
        have wl : IntKind.i64.wrap (((addF [] ⟨1, 0, 0⟩).1.length : Int) - 1) = ((addF [] ⟨1, 0, 0⟩).1.length : Int) - 1 := wrap64 (by omega) (by omega)
        rw [wl]
        refine spec_l1Add_k (ns := (addF [] ⟨1, 0, 0⟩).1) (n := ⟨5, ((addF [] ⟨1, 0, 0⟩).1.length : Int) - 1, 0⟩) hz1 rfl (by simp) (by simp) ?_; simp
        rw [← em]
        have hm : poolF (moreF []) = true := by rw [em]; exact addF_pool _ hz1
        exact ih (moreF [], false) ⟨by simp, hm, hn⟩ (Nat.sub_lt_sub_left (by simp) hg)
    · exact LeV.drop (by simp) (by simpa using cur_closed _ _ hcl) (by simp)
theorem anyF_len (bs : List Int) (s : Cu) : (anyF bs s).1.length ≤ 501 := by
  have hfill : ∀ (n : Nat) (ns : List Nd), poolF ns = true → (fillF n ns).length ≤ 500 := by
    intro n
    induction n with
    | zero => intro ns h; exact poolF_len h
    | succ n ih =>
      intro ns h
      simp only [fillF]
      split
      · exact ih _ (addF_pool _ (addF_pool _ h))
      · exact poolF_len h
  have hp := poolF_len (poolD_ok bs s 24)
  unfold anyF anyEnd
  split
  · have := hfill 500 [] poolF_nil
    simp only
    omega
  · unfold anyMid
    split
    · simp; omega
    · split
      · simp; omega
      · simp only; omega
end Go.Proofs.Ytnbodfakblbmbaa.C
