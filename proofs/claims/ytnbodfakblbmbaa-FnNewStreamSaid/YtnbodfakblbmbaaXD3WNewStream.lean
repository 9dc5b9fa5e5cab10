/- What drawing any pool answers. Conditions: those that each theorem names. -/
import Derived.Test.YtnbodfakblbmbaaXC7D2
import Derived.Test.YtnbodfakblbmbaaXSymW
import Derived.Test.YtnbodfakblbmbaaXSymX
import Derived.Test.YtnbodfakblbmbaaXC1C6
set_option linter.unusedVariables false
set_option linter.unusedSimpArgs false
set_option maxRecDepth 4000
namespace Go.Proofs.Ytnbodfakblbmbaa.C
open Go.Sym Go.Proofs.Ytnbodfakblbmbaa.I
theorem findF_in {n : Nd} : ∀ {ns : List Nd} {i : Int}, 0 ≤ i → 0 ≤ findF ns n i → n ∈ ns
  | [], i, _, h => by simp [findF] at h
  | x :: xs, i, hi, h => by
    simp only [findF] at h
    split at h
    · rename_i e; subst e; simp
    · exact List.mem_cons_of_mem _ (findF_in (by omega) h)
theorem no_digest {ns : List Nd} (hp : poolF ns = true) : findF ns ⟨5, (ns.length : Int) - 1, 0⟩ 0 < 0 := by
  rcases Int.lt_or_le (findF ns ⟨5, (ns.length : Int) - 1, 0⟩ 0) 0 with h | h
  · exact h
  · have hm := findF_in (Int.le_refl 0) h
    obtain ⟨j, hj, e⟩ := List.getElem_of_mem hm
    have := (okFrom_all hp hj).1
    rw [e] at this
    simp [rightF, partsF, inF] at this
    omega
/-- A pool with one more name and one more digest, where there's room. -/
def moreF (ns : List Nd) : List Nd := (addF (addF ns ⟨1, (ns.length : Int).tmod 200, 0⟩).1 ⟨5, ((addF ns ⟨1, (ns.length : Int).tmod 200, 0⟩).1.length : Int) - 1, 0⟩).1
theorem addF_cases (ns : List Nd) (n : Nd) : (addF ns n).1 = ns ∨ (addF ns n).1.length = ns.length + 1 := by
  unfold addF
  split
  · exact .inl rfl
  · split
    · exact .inl rfl
    · split
      · exact .inl rfl
      · exact .inr (by simp)
theorem moreF_gt {ns : List Nd} (hp : poolF ns = true) (hl : ns.length < 500) : ns.length < (moreF ns).length := by
  have hge := addF_ge (addF ns ⟨1, (ns.length : Int).tmod 200, 0⟩).1 ⟨5, ((addF ns ⟨1, (ns.length : Int).tmod 200, 0⟩).1.length : Int) - 1, 0⟩
  rcases addF_cases ns ⟨1, (ns.length : Int).tmod 200, 0⟩ with h | h
  · have hne : 0 < ns.length := by
      rcases Nat.eq_zero_or_pos ns.length with e | e
      · have : ns = [] := List.eq_nil_of_length_eq_zero e
        subst this
        simp [addF, normN, rightF, partsF, inF, findF] at h
      · exact e
    unfold moreF
    rw [h]
    have hr : rightF ⟨5, (ns.length : Int) - 1, 0⟩ ns.length = true := by simp [rightF, partsF, inF]; omega
    have hf := no_digest hp
    have hnm : normN ⟨5, (ns.length : Int) - 1, 0⟩ = ⟨5, (ns.length : Int) - 1, 0⟩ := by simp [normN]
    simp only [addF, hnm, hr]
    rw [if_neg (by simp), if_neg (by omega), if_neg (by omega)]
    simp
  · unfold moreF
    omega
def fillF : Nat → List Nd → List Nd
  | 0, ns => ns
  | n + 1, ns => if ns.length < 500 then fillF n (moreF ns) else ns
theorem fillF_one (n : Nat) {ns : List Nd} (h : ns.length < 500) : fillF (n + 1) ns = fillF n (moreF ns) := if_pos h
theorem fillF_full : ∀ (n : Nat) {ns : List Nd}, ¬ ns.length < 500 → fillF n ns = ns
  | 0, _, _ => rfl
  | n + 1, _, h => if_neg h
def anyMid (bs : List Int) (p : List Nd) (t : Int × Cu) : List Nd × Cu :=
  if t.1 = 0 then (p ++ [(nodeF bs t.2 3).1], (nodeF bs t.2 3).2)
  else if t.1 = 1 then (p ++ [⟨(belowF bs t.2 10).1, (belowF bs (belowF bs t.2 10).2 30).1 - 1, (belowF bs (belowF bs (belowF bs t.2 10).2 30).2 30).1 - 1⟩], (belowF bs (belowF bs (belowF bs t.2 10).2 30).2 30).2)
  else (p, t.2)
def anyEnd (bs : List Int) (q : List Nd × Cu) : List Nd × Cu := if (onceF bs q.2 80).1 then (fillF 500 [], (onceF bs q.2 80).2) else (q.1, (onceF bs q.2 80).2)
def anyF (bs : List Int) (s : Cu) : List Nd × Cu := anyEnd bs (anyMid bs (poolD bs s 24).1 (belowF bs (poolD bs s 24).2 25))
theorem spec_l1DrawAny_m (H : List Blk) (cb : Nat) (bs : List Int) (s : Cu) (hc : cb < H.length) (hb : bs.length < 9223372036854775807) (hcl : Closed1 H.length H = true) : T 118 [.ptr cb 0 0] (cur H cb bs s) (aP (anyF bs s).1) (cur H cb bs (anyF bs s).2) := by
  refine semT' (S := (fun f => [123, 94, 91, 120, 134, 133, 132].contains f)) hm spec_l1DrawAny_ok (Nat.le_of_ble_eq_true rfl) ?_
  unfold spec_l1DrawAny; dsimp only
  simp
  refine cur_call' rfl cb bs s (poolD bs s 24).2 hc (spec_l1DrawPool_m _ cb bs s 24 (cur_lt _ _ hc) hb (Closed1_more (by simpa using cur_closed bs s hcl) (by simp)) (by omega) (by omega)) ?_; simp
  have hp := poolD_ok bs s 24
  have hl := poolF_len hp
  refine cur_call' rfl cb bs (poolD bs s 24).2 (belowF bs (poolD bs s 24).2 25).2 hc (spec_l1Below_m _ cb bs _ 25 (cur_lt _ _ hc) hb) ?_; simp
  have ea : anyF bs s = anyEnd bs (anyMid bs (poolD bs s 24).1 (belowF bs (poolD bs s 24).2 25)) := rfl
  rw [ea]
  generalize (poolD bs s 24).1 = ns at hp hl ⊢
  generalize belowF bs (poolD bs s 24).2 25 = t
  refine br_intro' (fun g => ?_) (fun g => ?_) <;> simp at g <;> simp [g]
  · rw [show anyMid bs ns t = (ns ++ [(nodeF bs t.2 3).1], (nodeF bs t.2 3).2) from if_pos g]
    refine spec_l1Copy_k (ns := ns) (by omega) rfl (by simp) (by simp [noslBlks]) ?_; simp [shiftB]
    refine cur_call' rfl cb bs t.2 (nodeF bs t.2 3).2 hc (spec_l1DrawNode_m _ cb bs _ 3 (cur_lt _ _ hc) hb (Closed1_more (by simpa using cur_closed bs t.2 hcl) (by simp)) ⟨by omega, by omega⟩) ?_; simp
    refine ck_intro' (by omega) ?_; simp
    refine cur_call' rfl cb bs (nodeF bs t.2 3).2 (onceF bs (nodeF bs t.2 3).2 80).2 hc (spec_l1Once_m _ cb bs _ 80 (cur_lt _ _ hc) hb) ?_; simp
    have eo : anyEnd bs (ns ++ [(nodeF bs t.2 3).1], (nodeF bs t.2 3).2) = if (onceF bs (nodeF bs t.2 3).2 80).1 then (fillF 500 [], (onceF bs (nodeF bs t.2 3).2 80).2) else (ns ++ [(nodeF bs t.2 3).1], (onceF bs (nodeF bs t.2 3).2 80).2) := rfl
    rw [eo]
    generalize onceF bs (nodeF bs t.2 3).2 80 = o
    refine br_intro' (fun f => ?_) (fun f => ?_) <;> simp [f]
    · refine WLoop_drop (cur H cb bs o.2 ++ [⟨0, false, 1, [A.nil], none⟩, ⟨0, false, 1, [A.nil], none⟩]) _ (by rw [List.append_assoc]; rfl) (by simp) (Closed1_more (by simpa using cur_closed bs o.2 hcl) (by simp)) (by simp) ?_
      generalize hfx : fillF 500 [] = fx
      refine WLoop_fam (fun p : List Nd × Bool => [(2, A.ptr H.length 0 0), (3, A.ptr (H.length + 1) 0 0)])
        (fun p => cur H cb bs o.2 ++ [⟨0, false, 1, [A.nil], none⟩, ⟨0, false, 1, [if p.2 then A.nil else .sl p.1.length (enc p.1)], none⟩]) (fun p => 500 - p.1.length)
        (fun p => (p.2 = true → p.1 = []) ∧ poolF p.1 = true ∧ ∃ k, 500 - p.1.length ≤ k ∧ fx = fillF k p.1) ?_ ([], true) ⟨fun _ => rfl, poolF_nil, 500, by simp, hfx.symm⟩
      rintro ⟨qs, b⟩ ⟨hbn, hq, k, hk, hf⟩ ih
      simp only at hbn hq hk hf
      have hql := poolF_len hq
      have hq1 := addF_pool ⟨1, (qs.length : Int).tmod 200, 0⟩ hq
      have hql1 := poolF_len hq1
      have nxt : qs.length < 500 → ∃ k', 500 - (moreF qs).length ≤ k' ∧ fx = fillF k' (moreF qs) := fun h => by
        obtain ⟨k', rfl⟩ : ∃ k', k = k' + 1 := ⟨k - 1, by omega⟩
        have := moreF_gt hq h
        exact ⟨k', by omega, hf.trans (fillF_one k' h)⟩
      cases b
      · simp
        refine br_intro' (fun h => ?_) (fun h => ?_) <;> (have h0 := h) <;> (try simp at h) <;> try simp [h0, h]
        · have h' : qs.length < 500 := by omega
          have wl : IntKind.i64.wrap (((addF qs ⟨1, (qs.length : Int).tmod 200, 0⟩).1.length : Int) - 1) = ((addF qs ⟨1, (qs.length : Int).tmod 200, 0⟩).1.length : Int) - 1 := wrap64 (by omega) (by omega)
          refine spec_l1Add_k (ns := qs) (n := ⟨1, (qs.length : Int).tmod 200, 0⟩) hq rfl (by simp) (by simp) ?_; simp
          rw [wl]
          refine spec_l1Add_k (ns := (addF qs ⟨1, (qs.length : Int).tmod 200, 0⟩).1) (n := ⟨5, ((addF qs ⟨1, (qs.length : Int).tmod 200, 0⟩).1.length : Int) - 1, 0⟩) hq1 rfl (by simp) (by simp) ?_; simp
          exact ih (moreF qs, false) ⟨by simp, addF_pool _ hq1, nxt h'⟩ (Nat.sub_lt_sub_left h' (moreF_gt hq h'))
        · rw [hf, fillF_full k (by omega)]
          simp [f]
          exact LeV.drop (by simp) (by simpa using cur_closed _ _ hcl) (by simp)
      · obtain rfl := hbn rfl
        simp
        refine spec_l1Add_k (ns := []) (n := ⟨1, 0, 0⟩) hq rfl (by simp) (by simp) ?_; simp
        have hz1 := addF_pool ⟨1, 0, 0⟩ poolF_nil
        have hz2 := poolF_len hz1
        have em : moreF [] = (addF (addF [] ⟨1, 0, 0⟩).1 ⟨5, ((addF [] ⟨1, 0, 0⟩).1.length : Int) - 1, 0⟩).1 := by simp [moreF]
        have hg := moreF_gt hq (by simp)
        have hn := nxt (by simp)
        have wl : IntKind.i64.wrap (((addF [] ⟨1, 0, 0⟩).1.length : Int) - 1) = ((addF [] ⟨1, 0, 0⟩).1.length : Int) - 1 := wrap64 (by omega) (by omega)
        rw [wl]
        refine spec_l1Add_k (ns := (addF [] ⟨1, 0, 0⟩).1) (n := ⟨5, ((addF [] ⟨1, 0, 0⟩).1.length : Int) - 1, 0⟩) hz1 rfl (by simp) (by simp) ?_; simp
        rw [← em]
        have hm : poolF (moreF []) = true := by rw [em]; exact addF_pool _ hz1
        exact ih (moreF [], false) ⟨by simp, hm, hn⟩ (Nat.sub_lt_sub_left (by simp) hg)
    · have := LeV.frzA (B := H.length) (H1 := cur H cb bs o.2) (T := [⟨0, false, 1, [.ref (H.length + 2) (ns.length + 1) 0 (ns.length + 1)], none⟩, ⟨0, false, 1, [.ref (H.length + 2) (ns.length + 1) 0 (ns.length + 1)], none⟩, ⟨ns.length + 1, false, 3, enc (ns ++ [(nodeF bs t.2 3).1]), none⟩, ⟨0, false, 3, encN (nodeF bs t.2 3).1, none⟩]) (b := H.length + 2) (m := ns.length + 1) (k := ⟨ns.length + 1, false, 3, enc (ns ++ [(nodeF bs t.2 3).1]), none⟩) (by simp) (by simpa using cur_closed _ _ hcl) (by simp) (by simp) (by simp) (by simp)
      rw [show (enc (ns ++ [(nodeF bs t.2 3).1])).take ((ns.length + 1) * 3) = enc (ns ++ [(nodeF bs t.2 3).1]) from List.take_of_length_le (by simp)] at this
      simpa [aP, enc_snoc, encN] using this
  refine br_intro' (fun g1 => ?_) (fun g1 => ?_) <;> simp at g1 <;> simp [g1]
  · rw [show anyMid bs ns t = _ from (if_neg g).trans (if_pos g1)]
    refine spec_l1Copy_k (ns := ns) (by omega) rfl (by simp) (by simp [noslBlks]) ?_; simp [shiftB]
    refine cur_call' rfl cb bs t.2 (belowF bs t.2 10).2 hc (spec_l1Below_m _ cb bs _ 10 (cur_lt _ _ hc) hb) ?_; simp
    generalize belowF bs t.2 10 = a
    refine cur_call' rfl cb bs a.2 (belowF bs a.2 30).2 hc (spec_l1Below_m _ cb bs _ 30 (cur_lt _ _ hc) hb) ?_; simp
    have hx := belowF_in bs a.2 30
    have hx' := hx.2.1 (by omega)
    generalize belowF bs a.2 30 = d at hx hx' ⊢
    refine cur_call' rfl cb bs d.2 (belowF bs d.2 30).2 hc (spec_l1Below_m _ cb bs _ 30 (cur_lt _ _ hc) hb) ?_; simp
    have hy := belowF_in bs d.2 30
    have hy' := hy.2.1 (by omega)
    generalize belowF bs d.2 30 = e at hy hy' ⊢
    have w1 : IntKind.i64.wrap (d.1 - 1) = d.1 - 1 := wrap64 (by omega) (by omega)
    have w2 : IntKind.i64.wrap (e.1 - 1) = e.1 - 1 := wrap64 (by omega) (by omega)
    refine ck_intro' (by omega) ?_; simp [w1, w2]
    refine cur_call' rfl cb bs e.2 (onceF bs e.2 80).2 hc (spec_l1Once_m _ cb bs _ 80 (cur_lt _ _ hc) hb) ?_; simp
    have eo : anyEnd bs (ns ++ [(Nd.mk a.1 (d.1 - 1) (e.1 - 1))], e.2) = if (onceF bs e.2 80).1 then (fillF 500 [], (onceF bs e.2 80).2) else (ns ++ [(Nd.mk a.1 (d.1 - 1) (e.1 - 1))], (onceF bs e.2 80).2) := rfl
    rw [eo]
    generalize onceF bs e.2 80 = o
    refine br_intro' (fun f => ?_) (fun f => ?_) <;> simp [f]
    · refine WLoop_drop (cur H cb bs o.2 ++ [⟨0, false, 1, [A.nil], none⟩, ⟨0, false, 1, [A.nil], none⟩]) _ (by rw [List.append_assoc]; rfl) (by simp) (Closed1_more (by simpa using cur_closed bs o.2 hcl) (by simp)) (by simp) ?_
      generalize hfx : fillF 500 [] = fx
      refine WLoop_fam (fun p : List Nd × Bool => [(2, A.ptr H.length 0 0), (3, A.ptr (H.length + 1) 0 0)])
        (fun p => cur H cb bs o.2 ++ [⟨0, false, 1, [A.nil], none⟩, ⟨0, false, 1, [if p.2 then A.nil else .sl p.1.length (enc p.1)], none⟩]) (fun p => 500 - p.1.length)
        (fun p => (p.2 = true → p.1 = []) ∧ poolF p.1 = true ∧ ∃ k, 500 - p.1.length ≤ k ∧ fx = fillF k p.1) ?_ ([], true) ⟨fun _ => rfl, poolF_nil, 500, by simp, hfx.symm⟩
      rintro ⟨qs, b⟩ ⟨hbn, hq, k, hk, hf⟩ ih
      simp only at hbn hq hk hf
      have hql := poolF_len hq
      have hq1 := addF_pool ⟨1, (qs.length : Int).tmod 200, 0⟩ hq
      have hql1 := poolF_len hq1
      have nxt : qs.length < 500 → ∃ k', 500 - (moreF qs).length ≤ k' ∧ fx = fillF k' (moreF qs) := fun h => by
        obtain ⟨k', rfl⟩ : ∃ k', k = k' + 1 := ⟨k - 1, by omega⟩
        have := moreF_gt hq h
        exact ⟨k', by omega, hf.trans (fillF_one k' h)⟩
      cases b
      · simp
        refine br_intro' (fun h => ?_) (fun h => ?_) <;> (have h0 := h) <;> (try simp at h) <;> try simp [h0, h]
        · have h' : qs.length < 500 := by omega
          have wl : IntKind.i64.wrap (((addF qs ⟨1, (qs.length : Int).tmod 200, 0⟩).1.length : Int) - 1) = ((addF qs ⟨1, (qs.length : Int).tmod 200, 0⟩).1.length : Int) - 1 := wrap64 (by omega) (by omega)
          refine spec_l1Add_k (ns := qs) (n := ⟨1, (qs.length : Int).tmod 200, 0⟩) hq rfl (by simp) (by simp) ?_; simp
          rw [wl]
          refine spec_l1Add_k (ns := (addF qs ⟨1, (qs.length : Int).tmod 200, 0⟩).1) (n := ⟨5, ((addF qs ⟨1, (qs.length : Int).tmod 200, 0⟩).1.length : Int) - 1, 0⟩) hq1 rfl (by simp) (by simp) ?_; simp
          exact ih (moreF qs, false) ⟨by simp, addF_pool _ hq1, nxt h'⟩ (Nat.sub_lt_sub_left h' (moreF_gt hq h'))
        · rw [hf, fillF_full k (by omega)]
          simp [f]
          exact LeV.drop (by simp) (by simpa using cur_closed _ _ hcl) (by simp)
      · obtain rfl := hbn rfl
        simp
        refine spec_l1Add_k (ns := []) (n := ⟨1, 0, 0⟩) hq rfl (by simp) (by simp) ?_; simp
        have hz1 := addF_pool ⟨1, 0, 0⟩ poolF_nil
        have hz2 := poolF_len hz1
        have em : moreF [] = (addF (addF [] ⟨1, 0, 0⟩).1 ⟨5, ((addF [] ⟨1, 0, 0⟩).1.length : Int) - 1, 0⟩).1 := by simp [moreF]
        have hg := moreF_gt hq (by simp)
        have hn := nxt (by simp)
        have wl : IntKind.i64.wrap (((addF [] ⟨1, 0, 0⟩).1.length : Int) - 1) = ((addF [] ⟨1, 0, 0⟩).1.length : Int) - 1 := wrap64 (by omega) (by omega)
        rw [wl]
        refine spec_l1Add_k (ns := (addF [] ⟨1, 0, 0⟩).1) (n := ⟨5, ((addF [] ⟨1, 0, 0⟩).1.length : Int) - 1, 0⟩) hz1 rfl (by simp) (by simp) ?_; simp
        rw [← em]
        have hm : poolF (moreF []) = true := by rw [em]; exact addF_pool _ hz1
        exact ih (moreF [], false) ⟨by simp, hm, hn⟩ (Nat.sub_lt_sub_left (by simp) hg)
    · have := LeV.frzA (B := H.length) (H1 := cur H cb bs o.2) (T := [⟨0, false, 1, [.ref (H.length + 2) (ns.length + 1) 0 (ns.length + 1)], none⟩, ⟨0, false, 1, [.ref (H.length + 2) (ns.length + 1) 0 (ns.length + 1)], none⟩, ⟨ns.length + 1, false, 3, enc (ns ++ [(Nd.mk a.1 (d.1 - 1) (e.1 - 1))]), none⟩, ⟨0, false, 3, encN (Nd.mk a.1 (d.1 - 1) (e.1 - 1)), none⟩]) (b := H.length + 2) (m := ns.length + 1) (k := ⟨ns.length + 1, false, 3, enc (ns ++ [(Nd.mk a.1 (d.1 - 1) (e.1 - 1))]), none⟩) (by simp) (by simpa using cur_closed _ _ hcl) (by simp) (by simp) (by simp) (by simp)
      rw [show (enc (ns ++ [(Nd.mk a.1 (d.1 - 1) (e.1 - 1))])).take ((ns.length + 1) * 3) = enc (ns ++ [(Nd.mk a.1 (d.1 - 1) (e.1 - 1))]) from List.take_of_length_le (by simp)] at this
      simpa [aP, enc_snoc, encN] using this
  · rw [show anyMid bs ns t = (ns, t.2) from (if_neg g).trans (if_neg g1)]
    refine cur_call' rfl cb bs t.2 (onceF bs t.2 80).2 hc (spec_l1Once_m _ cb bs _ 80 (cur_lt _ _ hc) hb) ?_; simp
    have eo : anyEnd bs (ns, t.2) = if (onceF bs t.2 80).1 then (fillF 500 [], (onceF bs t.2 80).2) else (ns, (onceF bs t.2 80).2) := rfl
    rw [eo]
    generalize onceF bs t.2 80 = o
    refine br_intro' (fun f => ?_) (fun f => ?_) <;> simp [f]
    · generalize hfx : fillF 500 [] = fx
      refine WLoop_fam (fun p : List Nd × Bool => [(2, A.ptr H.length 0 0), (3, A.ptr (H.length + 1) 0 0)])
        (fun p => cur H cb bs o.2 ++ [⟨0, false, 1, [A.nil], none⟩, ⟨0, false, 1, [if p.2 then A.nil else .sl p.1.length (enc p.1)], none⟩]) (fun p => 500 - p.1.length)
        (fun p => (p.2 = true → p.1 = []) ∧ poolF p.1 = true ∧ ∃ k, 500 - p.1.length ≤ k ∧ fx = fillF k p.1) ?_ ([], true) ⟨fun _ => rfl, poolF_nil, 500, by simp, hfx.symm⟩
      rintro ⟨qs, b⟩ ⟨hbn, hq, k, hk, hf⟩ ih
      simp only at hbn hq hk hf
      have hql := poolF_len hq
      have hq1 := addF_pool ⟨1, (qs.length : Int).tmod 200, 0⟩ hq
      have hql1 := poolF_len hq1
      have nxt : qs.length < 500 → ∃ k', 500 - (moreF qs).length ≤ k' ∧ fx = fillF k' (moreF qs) := fun h => by
        obtain ⟨k', rfl⟩ : ∃ k', k = k' + 1 := ⟨k - 1, by omega⟩
        have := moreF_gt hq h
        exact ⟨k', by omega, hf.trans (fillF_one k' h)⟩
      cases b
      · simp
        refine br_intro' (fun h => ?_) (fun h => ?_) <;> (have h0 := h) <;> (try simp at h) <;> try simp [h0, h]
        · have h' : qs.length < 500 := by omega
          have wl : IntKind.i64.wrap (((addF qs ⟨1, (qs.length : Int).tmod 200, 0⟩).1.length : Int) - 1) = ((addF qs ⟨1, (qs.length : Int).tmod 200, 0⟩).1.length : Int) - 1 := wrap64 (by omega) (by omega)
          refine spec_l1Add_k (ns := qs) (n := ⟨1, (qs.length : Int).tmod 200, 0⟩) hq rfl (by simp) (by simp) ?_; simp
          rw [wl]
          refine spec_l1Add_k (ns := (addF qs ⟨1, (qs.length : Int).tmod 200, 0⟩).1) (n := ⟨5, ((addF qs ⟨1, (qs.length : Int).tmod 200, 0⟩).1.length : Int) - 1, 0⟩) hq1 rfl (by simp) (by simp) ?_; simp
          exact ih (moreF qs, false) ⟨by simp, addF_pool _ hq1, nxt h'⟩ (Nat.sub_lt_sub_left h' (moreF_gt hq h'))
        · rw [hf, fillF_full k (by omega)]
          simp [f]
          exact LeV.drop (by simp) (by simpa using cur_closed _ _ hcl) (by simp)
      · obtain rfl := hbn rfl
        simp
        refine spec_l1Add_k (ns := []) (n := ⟨1, 0, 0⟩) hq rfl (by simp) (by simp) ?_; simp
        have hz1 := addF_pool ⟨1, 0, 0⟩ poolF_nil
        have hz2 := poolF_len hz1
        have em : moreF [] = (addF (addF [] ⟨1, 0, 0⟩).1 ⟨5, ((addF [] ⟨1, 0, 0⟩).1.length : Int) - 1, 0⟩).1 := by simp [moreF]
        have hg := moreF_gt hq (by simp)
        have hn := nxt (by simp)
        have wl : IntKind.i64.wrap (((addF [] ⟨1, 0, 0⟩).1.length : Int) - 1) = ((addF [] ⟨1, 0, 0⟩).1.length : Int) - 1 := wrap64 (by omega) (by omega)
        rw [wl]
        refine spec_l1Add_k (ns := (addF [] ⟨1, 0, 0⟩).1) (n := ⟨5, ((addF [] ⟨1, 0, 0⟩).1.length : Int) - 1, 0⟩) hz1 rfl (by simp) (by simp) ?_; simp
        rw [← em]
        have hm : poolF (moreF []) = true := by rw [em]; exact addF_pool _ hz1
        exact ih (moreF [], false) ⟨by simp, hm, hn⟩ (Nat.sub_lt_sub_left (by simp) hg)
    · exact LeV.drop (by simp) (by simpa using cur_closed _ _ hcl) (by simp)
theorem anyF_len (bs : List Int) (s : Cu) : (anyF bs s).1.length ≤ 501 := by
  have hfill : ∀ (n : Nat) (ns : List Nd), poolF ns = true → (fillF n ns).length ≤ 500 := by
    intro n
    induction n with
    | zero => intro ns h; exact poolF_len h
    | succ n ih =>
      intro ns h
      simp only [fillF]
      split
      · exact ih _ (addF_pool _ (addF_pool _ h))
      · exact poolF_len h
  have hp := poolF_len (poolD_ok bs s 24)
  unfold anyF anyEnd
  split
  · have := hfill 500 [] poolF_nil
    simp only
    omega
  · unfold anyMid
    split
    · simp; omega
    · split
      · simp; omega
      · simp only; omega
end Go.Proofs.Ytnbodfakblbmbaa.C

set_option linter.unusedVariables false
set_option linter.unusedSimpArgs false
set_option maxRecDepth 40000
namespace Go.Proofs.Ytnbodfakblbmbaa.C
open Go.Sym Go.Proofs.Ytnbodfakblbmbaa.I
def hashS (h x : Int) : Int := IntKind.i64.wrap ((IntKind.i64.wrap (IntKind.i64.wrap (IntKind.i64.wrap (h * 131) + IntKind.i64.wrap x) + 7) % 2 ^ IntKind.i64.bits).toNat &&& 1073741823 % 2 ^ IntKind.i64.bits : Nat)
def hashGo (bs : List Int) : Nat → Nat → Int → Int
  | 0, _, h => h
  | n + 1, j, h => if j < bs.length ∧ j < 4000 then hashGo bs n (j + 1) (hashS h (bs.getD j 0)) else h
def newH (bs : List Int) : Int := hashGo bs (bs.length + 1) 0 (IntKind.i64.wrap (12241 + (bs.length : Int)))
abbrev curB (bs : List Int) (s : Cu) : Blk := ⟨0, false, 1, [aB bs, i6 s.i, i6 s.h], none⟩
theorem spec_l1New_c (bs : List Int) (hb : bs.length < 9223372036854775807) : T 90 [aB bs] [] (.ptr 0 0 0) ([curB bs ⟨0, newH bs⟩]) := by
  refine semT' (S := S0) hm spec_l1New_ok (Nat.le_of_ble_eq_true rfl) ?_
  unfold spec_l1New; dsimp only
  simp
  refine WLoop_fam (fun p : Nat × Int => [(0, aB bs), (3, i6 p.2), (4, i6 p.1)]) (fun _ => []) (fun p => bs.length - p.1)
    (fun p => p.1 ≤ bs.length ∧ newH bs = hashGo bs (bs.length + 1 - p.1) p.1 p.2) ?_ (0, IntKind.i64.wrap (12241 + (bs.length : Int))) ⟨Nat.zero_le _, rfl⟩
  rintro ⟨j, h'⟩ ⟨hj, hf⟩ ih
  simp only at hj hf
  obtain ⟨k, hk⟩ : ∃ k, bs.length + 1 - j = k + 1 := ⟨bs.length - j, by omega⟩
  rw [hk] at hf
  simp
  refine br_intro' (fun h => ?_) (fun h => ?_) <;> (have h0 := h) <;> (try simp at h) <;> try simp [h0, h]
  · have h9 := h
    have hw : IntKind.i64.wrap ((j : Int) + 1) = j + 1 := wrap64 (by omega) (by omega)
    refine br_intro' (fun g => ?_) (fun g => ?_) <;> simp at g <;> simp [g]
    · simp [h9]
      rw [hw]
      refine ih (j + 1, hashS h' bs[j]) ⟨h9, ?_⟩ (by simp; omega)
      have hk2 : bs.length + 1 - (j + 1) = k := by omega
      simp only [hk2]
      rw [hf, hashGo, if_pos ⟨h9, by omega⟩]
      simp [h9]
    · have e : newH bs = h' := by rw [hf, hashGo, if_neg (by omega)]
      rw [e]
      exact LeV.refl _ _ _
  · have e : newH bs = h' := by rw [hf, hashGo, if_neg (by omega)]
    rw [e]
    exact LeV.refl _ _ _
theorem spec_l1New_k {bs : List Int} (hb : bs.length < 9223372036854775807) {S : FuncId → Bool} {H : List Blk} {K : A → Dl → Prop} {zs : List A} (hS : S 90 = false) (hv : viewL (viewA 8 H) zs = some [aB bs]) (ho : noOwns zs = true ∨ nosl (.ptr 0 0 0) = true ∧ noslBlks ([curB bs ⟨0, newH bs⟩]) = true) (hK : K (shiftA H.length (.ptr 0 0 0)) (.news (([curB bs ⟨0, newH bs⟩]).map (shiftB H.length)))) : @WCall' Go.Proofs.Try.prog S 90 zs H ⟨K⟩ :=
  WCall_ro' hS hv (spec_l1New_c bs hb) rfl ho hK
/-- What is drawn for a link: a pool, a link and a term. -/
def seqF (bs : List Int) (s : Cu) (x : Int) : Int × Cu := if (onceF bs s 12).1 then pickF bs (onceF bs s 12).2 [-1, 19, 20, 21] else (x, (onceF bs s 12).2)
structure Dr where
  pool : List Nd
  link : Lk
  term : Int
def drF5 (bs : List Int) (p : List Nd) (l : Lk) (t : Int) (s : Cu) : Dr :=
  if (onceF bs s 12).1 = true ∧ poolF p = true then ⟨(addF p ⟨1, 8, 0⟩).1, l, (addF p ⟨1, 8, 0⟩).2⟩ else ⟨p, l, t⟩
def drF4 (bs : List Int) (p : List Nd) (l : Lk) (t : Int × Cu) : Dr := drF5 bs p l t.1 t.2
def drF3b (bs : List Int) (p : List Nd) (k : Int) (o : Bool) (q : Int) (e : Int × Cu) : Dr := drF4 bs p ⟨k, e.1, q, o⟩ (termF bs e.2 p.length)
def drF3 (bs : List Int) (p : List Nd) (k e : Int) (o : Bool) (q : Int × Cu) : Dr := drF3b bs p k o q.1 (seqF bs q.2 e)
def drF2c (bs : List Int) (p : List Nd) (k e q : Int) (o : Bool × Cu) : Dr := drF3 bs p k e o.1 (seqF bs o.2 q)
def drF2b (bs : List Int) (p : List Nd) (k e : Int) (q : Int × Cu) : Dr := drF2c bs p k e q.1 (onceF bs q.2 9)
def drF2a (bs : List Int) (p : List Nd) (k : Int) (e : Int × Cu) : Dr := drF2b bs p k e.1 (belowF bs e.2 4)
def drF2 (bs : List Int) (p : List Nd) (k : Int × Cu) : Dr := drF2a bs p k.1 (belowF bs k.2 3)
def drF1 (bs : List Int) (a : List Nd × Cu) : Dr := drF2 bs a.1 (termF bs a.2 a.1.length)
def drF (bs : List Int) : Dr := drF1 bs (anyF bs ⟨0, newH bs⟩)
theorem cur_callR {f : FuncId} {S : FuncId → Bool} {G : List Blk} {K : A → Dl → Prop} (hS : S f = true) (cb : Nat) (bs : List Int) (s s' : Cu) {zs : List A} {r : A} (hG : G[cb]? = some (curB bs s))
    (hf : T f zs (cur G cb bs s) r (cur G cb bs s')) (hK : K r (.full [cb] (cur G cb bs s'))) : @WCall' Go.Proofs.Try.prog S f zs G ⟨K⟩ := cur_call hS cb bs s s' (by
      apply List.ext_getElem?
      intro i
      by_cases e : cb = i
      · subst e
        rw [hG]
        simp only [cur]
        rw [List.getElem?_set_self (List.getElem?_eq_some_iff.1 hG).1]
      · simp only [cur]
        rw [List.getElem?_set_ne e]) hf hK
theorem spec_l18Draw_c (bs : List Int) (hb : bs.length < 9223372036854775807) : T 82 [aB bs] [] (.tup [aP (drF bs).pool, aL (drF bs).link, i6 (drF bs).term]) ([]) := by
  refine semT' (S := (fun f => [123, 94, 91, 120, 134, 133, 132, 118, 119].contains f)) hm spec_l18Draw_ok (Nat.le_of_ble_eq_true rfl) ?_
  unfold spec_l18Draw; dsimp only
  simp
  refine spec_l1New_k (bs := bs) hb rfl (by simp) (by simp [noslBlks]) ?_; simp [shiftB]
  refine cur_callR rfl 2 bs ⟨0, newH bs⟩ _ rfl (spec_l1DrawAny_m _ 2 bs _ (by simp) hb (by simp)) ?_; simp [cur]
  rw [show drF bs = drF1 bs (anyF bs ⟨0, newH bs⟩) from rfl]
  have hal := anyF_len bs ⟨0, newH bs⟩
  generalize anyF bs ⟨0, newH bs⟩ = a at hal ⊢
  refine cur_callR rfl 2 bs _ _ rfl (spec_l1DrawTerm_m _ 2 bs _ a.1 (by simp) hb (by simp) (by omega)) ?_; simp [cur]
  rw [show drF1 bs a = drF2 bs a.1 (termF bs a.2 a.1.length) from rfl]
  generalize termF bs a.2 a.1.length = k
  refine cur_callR rfl 2 bs _ _ rfl (spec_l1Below_m _ 2 bs _ 3 (by simp) hb) ?_; simp [cur]
  rw [show drF2 bs a.1 k = drF2a bs a.1 k.1 (belowF bs k.2 3) from rfl]
  generalize belowF bs k.2 3 = e
  refine cur_callR rfl 2 bs _ _ rfl (spec_l1Below_m _ 2 bs _ 4 (by simp) hb) ?_; simp [cur]
  rw [show drF2a bs a.1 k.1 e = drF2b bs a.1 k.1 e.1 (belowF bs e.2 4) from rfl]
  generalize belowF bs e.2 4 = q
  refine cur_callR rfl 2 bs _ _ rfl (spec_l1Once_m _ 2 bs _ 9 (by simp) hb) ?_; simp [cur]
  rw [show drF2b bs a.1 k.1 e.1 q = drF2c bs a.1 k.1 e.1 q.1 (onceF bs q.2 9) from rfl]
  generalize onceF bs q.2 9 = o
  rw [show drF2c bs a.1 k.1 e.1 q.1 o = drF3 bs a.1 k.1 e.1 o.1 (seqF bs o.2 q.1) from rfl]
  rw [show ∀ x, drF3 bs a.1 k.1 e.1 o.1 x = drF3b bs a.1 k.1 o.1 x.1 (seqF bs x.2 e.1) from fun _ => rfl]
  refine cur_callR rfl 2 bs _ _ rfl (spec_l1Once_m _ 2 bs _ 12 (by simp) hb) ?_; simp [cur]
  refine br_intro' (fun g => ?_) (fun g => ?_) <;> simp [g]
  · refine cur_callR rfl 2 bs _ _ rfl (spec_l1PickInt_m _ 2 bs _ 5 0 [-1, 19, 20, 21] (by simp) hb (by simp) (by simp) (by simp [ints]) (by simp)) ?_; simp [cur]
    rw [show seqF bs o.2 q.1 = pickF bs (onceF bs o.2 12).2 [-1, 19, 20, 21] from if_pos g]
    generalize pickF bs (onceF bs o.2 12).2 [-1, 19, 20, 21] = u
    refine cur_callR rfl 2 bs _ _ rfl (spec_l1Once_m _ 2 bs _ 12 (by simp) hb) ?_; simp [cur]
    refine br_intro' (fun g1 => ?_) (fun g1 => ?_) <;> simp [g1]
    · refine cur_callR rfl 2 bs _ _ rfl (spec_l1PickInt_m _ 2 bs _ 6 0 [-1, 19, 20, 21] (by simp) hb (by simp) (by simp) (by simp [ints]) (by simp)) ?_; simp [cur]
      rw [show seqF bs u.2 e.1 = pickF bs (onceF bs u.2 12).2 [-1, 19, 20, 21] from if_pos g1]
      generalize pickF bs (onceF bs u.2 12).2 [-1, 19, 20, 21] = v
      rw [show ∀ q e, drF3b bs a.1 k.1 o.1 q e = drF4 bs a.1 ⟨k.1, e.1, q, o.1⟩ (termF bs e.2 a.1.length) from fun _ _ => rfl]
      refine cur_callR rfl 2 bs _ _ rfl (spec_l1DrawTerm_m _ 2 bs _ a.1 (by simp) hb (by simp) (by omega)) ?_; simp [cur]
      generalize termF bs _ a.1.length = t
      rw [show ∀ l, drF4 bs a.1 l t = drF5 bs a.1 l t.1 t.2 from fun _ => rfl]
      refine cur_callR rfl 2 bs _ _ rfl (spec_l1Once_m _ 2 bs _ 12 (by simp) hb) ?_; simp [cur]
      have e5 : ∀ l, drF5 bs a.1 l t.1 t.2 = if (onceF bs t.2 12).1 = true ∧ poolF a.1 = true then ⟨(addF a.1 ⟨1, 8, 0⟩).1, l, (addF a.1 ⟨1, 8, 0⟩).2⟩ else ⟨a.1, l, t.1⟩ := fun _ => rfl
      rw [e5]
      generalize onceF bs t.2 12 = w
      refine br_intro' (fun f => ?_) (fun f => ?_) <;> simp [f]
      · refine spec_PoolOk_k (ns := a.1) rfl (by simp) (by simp [noslBlks]) ?_; simp [shiftB]
        refine br_intro' (fun f1 => ?_) (fun f1 => ?_) <;> simp [f1]
        · refine spec_l2Name_k (ns := a.1) (x := 8) f1 rfl (by simp) (by simp) ?_; simp
          first | (refine ck_intro' (by kernel_rfl) ?_; try simp) | skip
          exact LeV.ro rfl rfl (by simp [f, f1])
        · first | (refine ck_intro' (by kernel_rfl) ?_; try simp) | skip
          exact LeV.ro rfl rfl (by simp [f, f1])
      · first | (refine ck_intro' (by kernel_rfl) ?_; try simp) | skip
        exact LeV.ro rfl rfl (by simp [f])
    · rw [show seqF bs u.2 e.1 = (e.1, (onceF bs u.2 12).2) from if_neg (by simp [g1])]
      generalize onceF bs u.2 12 = v at g1 ⊢
      rw [show ∀ q e, drF3b bs a.1 k.1 o.1 q e = drF4 bs a.1 ⟨k.1, e.1, q, o.1⟩ (termF bs e.2 a.1.length) from fun _ _ => rfl]
      refine cur_callR rfl 2 bs _ _ rfl (spec_l1DrawTerm_m _ 2 bs _ a.1 (by simp) hb (by simp) (by omega)) ?_; simp [cur]
      generalize termF bs _ a.1.length = t
      rw [show ∀ l, drF4 bs a.1 l t = drF5 bs a.1 l t.1 t.2 from fun _ => rfl]
      refine cur_callR rfl 2 bs _ _ rfl (spec_l1Once_m _ 2 bs _ 12 (by simp) hb) ?_; simp [cur]
      have e5 : ∀ l, drF5 bs a.1 l t.1 t.2 = if (onceF bs t.2 12).1 = true ∧ poolF a.1 = true then ⟨(addF a.1 ⟨1, 8, 0⟩).1, l, (addF a.1 ⟨1, 8, 0⟩).2⟩ else ⟨a.1, l, t.1⟩ := fun _ => rfl
      rw [e5]
      generalize onceF bs t.2 12 = w
      refine br_intro' (fun f => ?_) (fun f => ?_) <;> simp [f]
      · refine spec_PoolOk_k (ns := a.1) rfl (by simp) (by simp [noslBlks]) ?_; simp [shiftB]
        refine br_intro' (fun f1 => ?_) (fun f1 => ?_) <;> simp [f1]
        · refine spec_l2Name_k (ns := a.1) (x := 8) f1 rfl (by simp) (by simp) ?_; simp
          first | (refine ck_intro' (by kernel_rfl) ?_; try simp) | skip
          exact LeV.ro rfl rfl (by simp [f, f1])
        · first | (refine ck_intro' (by kernel_rfl) ?_; try simp) | skip
          exact LeV.ro rfl rfl (by simp [f, f1])
      · first | (refine ck_intro' (by kernel_rfl) ?_; try simp) | skip
        exact LeV.ro rfl rfl (by simp [f])
  · rw [show seqF bs o.2 q.1 = (q.1, (onceF bs o.2 12).2) from if_neg (by simp [g])]
    generalize onceF bs o.2 12 = u at g ⊢
    refine cur_callR rfl 2 bs _ _ rfl (spec_l1Once_m _ 2 bs _ 12 (by simp) hb) ?_; simp [cur]
    refine br_intro' (fun g1 => ?_) (fun g1 => ?_) <;> simp [g1]
    · refine cur_callR rfl 2 bs _ _ rfl (spec_l1PickInt_m _ 2 bs _ 5 0 [-1, 19, 20, 21] (by simp) hb (by simp) (by simp) (by simp [ints]) (by simp)) ?_; simp [cur]
      rw [show seqF bs u.2 e.1 = pickF bs (onceF bs u.2 12).2 [-1, 19, 20, 21] from if_pos g1]
      generalize pickF bs (onceF bs u.2 12).2 [-1, 19, 20, 21] = v
      rw [show ∀ q e, drF3b bs a.1 k.1 o.1 q e = drF4 bs a.1 ⟨k.1, e.1, q, o.1⟩ (termF bs e.2 a.1.length) from fun _ _ => rfl]
      refine cur_callR rfl 2 bs _ _ rfl (spec_l1DrawTerm_m _ 2 bs _ a.1 (by simp) hb (by simp) (by omega)) ?_; simp [cur]
      generalize termF bs _ a.1.length = t
      rw [show ∀ l, drF4 bs a.1 l t = drF5 bs a.1 l t.1 t.2 from fun _ => rfl]
      refine cur_callR rfl 2 bs _ _ rfl (spec_l1Once_m _ 2 bs _ 12 (by simp) hb) ?_; simp [cur]
      have e5 : ∀ l, drF5 bs a.1 l t.1 t.2 = if (onceF bs t.2 12).1 = true ∧ poolF a.1 = true then ⟨(addF a.1 ⟨1, 8, 0⟩).1, l, (addF a.1 ⟨1, 8, 0⟩).2⟩ else ⟨a.1, l, t.1⟩ := fun _ => rfl
      rw [e5]
      generalize onceF bs t.2 12 = w
      refine br_intro' (fun f => ?_) (fun f => ?_) <;> simp [f]
      · refine spec_PoolOk_k (ns := a.1) rfl (by simp) (by simp [noslBlks]) ?_; simp [shiftB]
        refine br_intro' (fun f1 => ?_) (fun f1 => ?_) <;> simp [f1]
        · refine spec_l2Name_k (ns := a.1) (x := 8) f1 rfl (by simp) (by simp) ?_; simp
          first | (refine ck_intro' (by kernel_rfl) ?_; try simp) | skip
          exact LeV.ro rfl rfl (by simp [f, f1])
        · first | (refine ck_intro' (by kernel_rfl) ?_; try simp) | skip
          exact LeV.ro rfl rfl (by simp [f, f1])
      · first | (refine ck_intro' (by kernel_rfl) ?_; try simp) | skip
        exact LeV.ro rfl rfl (by simp [f])
    · rw [show seqF bs u.2 e.1 = (e.1, (onceF bs u.2 12).2) from if_neg (by simp [g1])]
      generalize onceF bs u.2 12 = v at g1 ⊢
      rw [show ∀ q e, drF3b bs a.1 k.1 o.1 q e = drF4 bs a.1 ⟨k.1, e.1, q, o.1⟩ (termF bs e.2 a.1.length) from fun _ _ => rfl]
      refine cur_callR rfl 2 bs _ _ rfl (spec_l1DrawTerm_m _ 2 bs _ a.1 (by simp) hb (by simp) (by omega)) ?_; simp [cur]
      generalize termF bs _ a.1.length = t
      rw [show ∀ l, drF4 bs a.1 l t = drF5 bs a.1 l t.1 t.2 from fun _ => rfl]
      refine cur_callR rfl 2 bs _ _ rfl (spec_l1Once_m _ 2 bs _ 12 (by simp) hb) ?_; simp [cur]
      have e5 : ∀ l, drF5 bs a.1 l t.1 t.2 = if (onceF bs t.2 12).1 = true ∧ poolF a.1 = true then ⟨(addF a.1 ⟨1, 8, 0⟩).1, l, (addF a.1 ⟨1, 8, 0⟩).2⟩ else ⟨a.1, l, t.1⟩ := fun _ => rfl
      rw [e5]
      generalize onceF bs t.2 12 = w
      refine br_intro' (fun f => ?_) (fun f => ?_) <;> simp [f]
      · refine spec_PoolOk_k (ns := a.1) rfl (by simp) (by simp [noslBlks]) ?_; simp [shiftB]
        refine br_intro' (fun f1 => ?_) (fun f1 => ?_) <;> simp [f1]
        · refine spec_l2Name_k (ns := a.1) (x := 8) f1 rfl (by simp) (by simp) ?_; simp
          first | (refine ck_intro' (by kernel_rfl) ?_; try simp) | skip
          exact LeV.ro rfl rfl (by simp [f, f1])
        · first | (refine ck_intro' (by kernel_rfl) ?_; try simp) | skip
          exact LeV.ro rfl rfl (by simp [f, f1])
      · first | (refine ck_intro' (by kernel_rfl) ?_; try simp) | skip
        exact LeV.ro rfl rfl (by simp [f])
theorem spec_l18Draw_call {bs : List Int} (hb : bs.length < 9223372036854775807) {S : FuncId → Bool} {H : List Blk} {K : A → Dl → Prop} (hS : S 82 = false) (hK : K (.tup [aP (drF bs).pool, aL (drF bs).link, i6 (drF bs).term]) (.news [])) : @WCall' Go.Proofs.Try.prog S 82 [aB bs] H ⟨K⟩ :=
  WCall_pure hS (spec_l18Draw_c bs hb) (by simp) (by simp) (by simp) hK
theorem spec_l18Draw_k {bs : List Int} (hb : bs.length < 9223372036854775807) {S : FuncId → Bool} {H : List Blk} {K : A → Dl → Prop} {zs : List A} (hS : S 82 = false) (hv : viewL (viewA 8 H) zs = some [aB bs]) (ho : noOwns zs = true ∨ nosl (.tup [aP (drF bs).pool, aL (drF bs).link, i6 (drF bs).term]) = true) (hK : K (.tup [aP (drF bs).pool, aL (drF bs).link, i6 (drF bs).term]) (.news [])) : @WCall' Go.Proofs.Try.prog S 82 zs H ⟨K⟩ :=
  WCall_pure hS (spec_l18Draw_c bs hb) hv ho (by simp) hK
theorem drF5_len (bs : List Int) (p : List Nd) (l : Lk) (t : Int) (s : Cu) (h : p.length ≤ 501) : (drF5 bs p l t s).pool.length ≤ 501 := by
  unfold drF5
  split
  · rename_i g
    have := poolF_len (addF_pool ⟨1, 8, 0⟩ g.2)
    simp only
    omega
  · exact h
theorem drF_len (bs : List Int) : (drF bs).pool.length ≤ 501 := drF5_len _ _ _ _ _ (anyF_len _ _)
theorem spec_DrawLinkSend_c (bs : List Int) (hb : bs.length < 9223372036854775807) : T 34 [aB bs] [] (.tup [aP (drF bs).pool, aL (drF bs).link, i6 (drF bs).term]) ([]) := by
  refine semT' (S := S0) hm spec_DrawLinkSend_ok (Nat.le_of_ble_eq_true rfl) ?_
  unfold spec_DrawLinkSend; dsimp only
  simp
  refine spec_l18Draw_k (bs := bs) hb rfl (by simp) (by simp [noslBlks]) ?_; simp [shiftB]
  first | (refine ck_intro' (by kernel_rfl) ?_; try simp) | skip
  exact LeV.ro rfl rfl (by simp)
theorem spec_DrawLinkSend_call {bs : List Int} (hb : bs.length < 9223372036854775807) {S : FuncId → Bool} {H : List Blk} {K : A → Dl → Prop} (hS : S 34 = false) (hK : K (.tup [aP (drF bs).pool, aL (drF bs).link, i6 (drF bs).term]) (.news [])) : @WCall' Go.Proofs.Try.prog S 34 [aB bs] H ⟨K⟩ :=
  WCall_pure hS (spec_DrawLinkSend_c bs hb) (by simp) (by simp) (by simp) hK
theorem spec_DrawLinkSend_k {bs : List Int} (hb : bs.length < 9223372036854775807) {S : FuncId → Bool} {H : List Blk} {K : A → Dl → Prop} {zs : List A} (hS : S 34 = false) (hv : viewL (viewA 8 H) zs = some [aB bs]) (ho : noOwns zs = true ∨ nosl (.tup [aP (drF bs).pool, aL (drF bs).link, i6 (drF bs).term]) = true) (hK : K (.tup [aP (drF bs).pool, aL (drF bs).link, i6 (drF bs).term]) (.news [])) : @WCall' Go.Proofs.Try.prog S 34 zs H ⟨K⟩ :=
  WCall_pure hS (spec_DrawLinkSend_c bs hb) hv ho (by simp) hK
theorem spec_DrawLinkTurn_c (bs : List Int) (hb : bs.length < 9223372036854775807) : T 45 [aB bs] [] (.tup [aP (drF bs).pool, aL (drF bs).link]) ([]) := by
  refine semT' (S := S0) hm spec_DrawLinkTurn_ok (Nat.le_of_ble_eq_true rfl) ?_
  unfold spec_DrawLinkTurn; dsimp only
  simp
  refine spec_l18Draw_k (bs := bs) hb rfl (by simp) (by simp [noslBlks]) ?_; simp [shiftB]
  first | (refine ck_intro' (by kernel_rfl) ?_; try simp) | skip
  exact LeV.ro rfl rfl (by simp)
theorem spec_DrawLinkTurn_call {bs : List Int} (hb : bs.length < 9223372036854775807) {S : FuncId → Bool} {H : List Blk} {K : A → Dl → Prop} (hS : S 45 = false) (hK : K (.tup [aP (drF bs).pool, aL (drF bs).link]) (.news [])) : @WCall' Go.Proofs.Try.prog S 45 [aB bs] H ⟨K⟩ :=
  WCall_pure hS (spec_DrawLinkTurn_c bs hb) (by simp) (by simp) (by simp) hK
theorem spec_DrawLinkTurn_k {bs : List Int} (hb : bs.length < 9223372036854775807) {S : FuncId → Bool} {H : List Blk} {K : A → Dl → Prop} {zs : List A} (hS : S 45 = false) (hv : viewL (viewA 8 H) zs = some [aB bs]) (ho : noOwns zs = true ∨ nosl (.tup [aP (drF bs).pool, aL (drF bs).link]) = true) (hK : K (.tup [aP (drF bs).pool, aL (drF bs).link]) (.news [])) : @WCall' Go.Proofs.Try.prog S 45 zs H ⟨K⟩ :=
  WCall_pure hS (spec_DrawLinkTurn_c bs hb) hv ho (by simp) hK
theorem spec_DrawLinkEnd_c (bs : List Int) (hb : bs.length < 9223372036854775807) : T 51 [aB bs] [] (.tup [aP (drF bs).pool, aL (drF bs).link]) ([]) := by
  refine semT' (S := S0) hm spec_DrawLinkEnd_ok (Nat.le_of_ble_eq_true rfl) ?_
  unfold spec_DrawLinkEnd; dsimp only
  simp
  refine spec_l18Draw_k (bs := bs) hb rfl (by simp) (by simp [noslBlks]) ?_; simp [shiftB]
  first | (refine ck_intro' (by kernel_rfl) ?_; try simp) | skip
  exact LeV.ro rfl rfl (by simp)
theorem spec_DrawLinkEnd_call {bs : List Int} (hb : bs.length < 9223372036854775807) {S : FuncId → Bool} {H : List Blk} {K : A → Dl → Prop} (hS : S 51 = false) (hK : K (.tup [aP (drF bs).pool, aL (drF bs).link]) (.news [])) : @WCall' Go.Proofs.Try.prog S 51 [aB bs] H ⟨K⟩ :=
  WCall_pure hS (spec_DrawLinkEnd_c bs hb) (by simp) (by simp) (by simp) hK
theorem spec_DrawLinkEnd_k {bs : List Int} (hb : bs.length < 9223372036854775807) {S : FuncId → Bool} {H : List Blk} {K : A → Dl → Prop} {zs : List A} (hS : S 51 = false) (hv : viewL (viewA 8 H) zs = some [aB bs]) (ho : noOwns zs = true ∨ nosl (.tup [aP (drF bs).pool, aL (drF bs).link]) = true) (hK : K (.tup [aP (drF bs).pool, aL (drF bs).link]) (.news [])) : @WCall' Go.Proofs.Try.prog S 51 zs H ⟨K⟩ :=
  WCall_pure hS (spec_DrawLinkEnd_c bs hb) hv ho (by simp) hK
theorem fit_u {cs : List A} (h : Fit (.i .u8) cs) : ∃ n : Int, cs = [.int .u8 n] ∧ True := by
  obtain ⟨n, rfl, hn⟩ := h
  exact ⟨n, rfl, trivial⟩
theorem arg_by {x : A} (h : FitA (.sl (.i .u8)) x) : ∃ bs : List Int, x = aB bs ∧ bs.length < 9223372036854775808 := by
  obtain ⟨xs, e, h1, _⟩ := fit_sl (f := fun n => [A.int .u8 n]) (fun r hr => fit_u hr) (show Fit (.sl (.i .u8)) [x] from h)
  refine ⟨xs, ?_, h1⟩
  simp only [List.cons.injEq, and_true] at e
  rw [e]
  simp only [aB, bytes]
  rw [List.map_eq_flatMap]
end Go.Proofs.Ytnbodfakblbmbaa.C

set_option linter.unusedVariables false
set_option linter.unusedSimpArgs false
set_option maxRecDepth 4000
namespace Go.Proofs.Ytnbodfakblbmbaa.C
open Go.Sym Go.Proofs.Ytnbodfakblbmbaa.I
/-- Rows of bools. -/
def bls (kb : List Bool) : List A := kb.map A.bool
@[simp] theorem bls_len (xs : List Bool) : (bls xs).length = xs.length := List.length_map ..
@[simp] theorem bls_scals (xs : List Bool) : scals (bls xs) = true := scals_map _ (fun _ => rfl) xs
@[simp] theorem bls_view (n : Nat) (H : List Blk) (xs : List Bool) : viewL (viewA (n + 1) H) (bls xs) = some (bls xs) := viewL_scals _ (bls_scals xs)
@[simp] theorem bls_noOwns (xs : List Bool) : noOwns (bls xs) = true := noOwns_scals _ (bls_scals xs)
@[simp] theorem bls_nosls (xs : List Bool) : nosls (bls xs) = true := nosls_scals _ (bls_scals xs)
@[simp] theorem bls_shift (n : Nat) (xs : List Bool) : shiftAs n (bls xs) = bls xs := shiftAs_scals _ (bls_scals xs)
@[simp] theorem bls_inAs (m : Nat) (xs : List Bool) : inAs m (bls xs) = true := inAs_scals _ (bls_scals xs)
@[simp] theorem bls_tells (H H' : List Blk) (g : List (Option Nat)) (xs : List Bool) : Tells H H' g (bls xs) (bls xs) := Tells_scals _ (bls_scals xs)
@[simp] theorem bls_one (xs : List Bool) : (bls xs).all A.one = true := one_scals _ (bls_scals xs)
@[simp] theorem bls_take (xs : List Bool) : (bls xs).take xs.length = bls xs := List.take_of_length_le (by simp)
@[simp] theorem bls_nil : bls [] = [] := rfl
@[simp] theorem bls_get (xs : List Bool) (j : Nat) (h : j < (bls xs).length) : (bls xs)[j] = .bool (xs[j]'(by simpa using h)) := by simp [bls]
theorem bls_at {xs : List Bool} {j : Nat} (h : j < xs.length) : (bls xs)[j]? = some (.bool xs[j]) := by simp [bls, h]
theorem bls_set (xs : List Bool) (j : Nat) (b : Bool) : (bls xs).set j (.bool b) = bls (xs.set j b) := by simp [bls, List.map_set]
theorem bls_rep (n : Nat) : bls (List.replicate n false) = List.replicate n (.bool false) := by simp [bls]
theorem bls_snoc (xs : List Bool) (x : Bool) : bls (xs ++ [x]) = bls xs ++ [.bool x] := by simp [bls]
theorem ints_set' (xs : List Int) (j : Nat) (n : Int) : (ints xs).set j (i6 n) = ints (xs.set j n) := by simp [ints, List.map_set]
theorem ints_rep' (n : Nat) : ints (List.replicate n 0) = List.replicate n (i6 0) := by simp [ints]
abbrev aBl (xs : List Bool) : A := .sl xs.length (bls xs)
abbrev bblk (xs : List Bool) : Blk := ⟨xs.length, decide (xs.length = 0), 1, bls xs, none⟩
abbrev bref (b : Nat) (xs : List Bool) : A := .ref b xs.length 0 xs.length
def bv (mk : List Bool) (t : Int) : Bool := mk.getD t.toNat false
theorem bv_nat {mk : List Bool} {j : Nat} (h : j < mk.length) : bv mk j = mk[j] := by simp [bv, h]
/-- A number at its place among others. -/
def putGo (t : Int) : List Int → Bool → List Int
  | [], put => if put then [] else [t]
  | x :: xs, put => if put = false ∧ t < x then t :: x :: putGo t xs true else x :: putGo t xs put
def putF (ks : List Int) (t : Int) : List Int := putGo t ks (hasK ks t)
theorem putGo_len (t : Int) : ∀ (ks : List Int) (put : Bool), ks.length ≤ (putGo t ks put).length ∧ (putGo t ks put).length ≤ ks.length + 1 ∧ (put = true → (putGo t ks put).length = ks.length)
  | [], put => by cases put <;> simp [putGo]
  | x :: xs, put => by
    unfold putGo
    split
    · rename_i h
      have := (putGo_len t xs true).2.2 rfl
      simp [this, h.1]
    · have := putGo_len t xs put
      refine ⟨by simp; omega, by simp; omega, fun h => by simp [this.2.2 h]⟩
theorem spec_l6Put_c (ks : List Int) (t : Int) (hk : ks.length ≤ 4294960000) : T 100 [aI ks, i6 t] [] (jref 0 (putF ks t)) ([jblk (putF ks t)]) := by
  refine semT' (S := S0) hm spec_l6Put_ok (Nat.le_of_ble_eq_true rfl) ?_
  unfold spec_l6Put; dsimp only
  simp
  refine spec_KnowHas_call (ks := ks) (t := t) (by omega) rfl ?_; simp
  refine WLoop_virt 1 [(0, aI ks), (1, i6 t), (5, A.ref 0 0 0 0), (6, A.bool (hasK ks t)), (7, i6 0)] ?_ ?_
  · intro s y hy
    simp [Sym.get] at hy ⊢
    (repeat' split at hy) <;> simp_all
  refine WLoop_fam (fun p : Nat × List Int × Bool => [(0, aI ks), (1, i6 t), (5, jref 0 p.2.1), (6, A.bool p.2.2), (7, i6 p.1)]) (fun p => [jblk p.2.1]) (fun p => ks.length - p.1)
    (fun p => p.1 ≤ ks.length ∧ p.2.1.length ≤ p.1 + 1 ∧ (p.2.2 = false → p.2.1.length ≤ p.1) ∧ putF ks t = p.2.1 ++ putGo t (ks.drop p.1) p.2.2) ?_ (0, [], hasK ks t) ⟨Nat.zero_le _, by simp, by simp, by simp [putF]⟩
  rintro ⟨j, out, put⟩ ⟨hj, hol, hol2, hpf⟩ ih
  simp only at hj hol hol2 hpf
  simp
  refine br_intro' (fun u => ?_) (fun u => ?_) <;> (have u0 := u) <;> simp at u <;> simp [u0, u]
  · have hd : ks.drop j = ks[j] :: ks.drop (j + 1) := List.drop_eq_getElem_cons u
    have hw := wrap_succ (n := j) (by omega)
    cases put with
    | true =>
      simp [u]
      repeat (refine ck_intro' (by first | omega | (simp; omega) | kernel_rfl) ?_; try simp [u])
      rw [hw]
      rw [show A.ref 0 (out.length + 1) 0 (out.length + 1) = jref 0 (out ++ [ks[j]]) by simp]
      refine WLoop_drop [jblk (out ++ [ks[j]])] [_] (by simp [ints_snoc]; exact rfl) (by simp) (by simp) (by simp) ?_
      exact ih (j + 1, out ++ [ks[j]], true) ⟨u, by simp; omega, by simp, by rw [hpf, hd]; simp [putGo]⟩ (by simp; omega)
    | false =>
      simp [u]
      refine br_intro' (fun g => ?_) (fun g => ?_) <;> (have g0 := g) <;> simp only [decide_eq_true_eq, decide_eq_false_iff_not] at g <;> simp [g0, g]
      · have := hol2 rfl
        repeat (refine ck_intro' (by first | omega | (simp; omega) | kernel_rfl) ?_; try simp [u])
        rw [hw]
        rw [show A.ref 0 (out.length + 1 + 1) 0 (out.length + 1 + 1) = jref 0 (out ++ [t, ks[j]]) by simp]
        refine WLoop_drop [jblk (out ++ [t, ks[j]])] [_, _] (by simp [ints]; exact ⟨rfl, rfl⟩) (by simp) (by simp) (by simp) ?_
        exact ih (j + 1, out ++ [t, ks[j]], true) ⟨u, by simp; omega, by simp, by rw [hpf, hd]; simp [putGo, g]⟩ (by simp; omega)
      · have := hol2 rfl
        repeat (refine ck_intro' (by first | omega | (simp; omega) | kernel_rfl) ?_; try simp [u])
        rw [hw]
        rw [show A.ref 0 (out.length + 1) 0 (out.length + 1) = jref 0 (out ++ [ks[j]]) by simp]
        refine WLoop_drop [jblk (out ++ [ks[j]])] [_] (by simp [ints_snoc]; exact rfl) (by simp) (by simp) (by simp) ?_
        exact ih (j + 1, out ++ [ks[j]], false) ⟨u, by simp; omega, by simp; omega, by rw [hpf, hd]; simp [putGo, g]⟩ (by simp; omega)
  · have hd : ks.drop j = [] := List.drop_of_length_le (by omega)
    rw [hd] at hpf
    cases put with
    | true =>
      simp
      rw [show putF ks t = out by rw [hpf]; simp [putGo]]
      first | (refine LeV.tell [none] ?_ ?_ ?_ <;> (simp; done)) | (refine LeV.tell [some 0] ?_ ?_ ?_ <;> (simp; done)) | (refine LeV.tell [some 1] ?_ ?_ ?_ <;> (simp; done)) | (refine LeV.tell [some 2] ?_ ?_ ?_ <;> (simp; done)) | (refine LeV.tell [some 3] ?_ ?_ ?_ <;> (simp; done)) | (refine LeV.tell [some 4] ?_ ?_ ?_ <;> (simp; done)) | (refine LeV.tell [some 5] ?_ ?_ ?_ <;> (simp; done)) | (refine LeV.tell [some 6] ?_ ?_ ?_ <;> (simp; done)) | (refine LeV.tell [some 7] ?_ ?_ ?_ <;> (simp; done)) | (refine LeV.tell [some 8] ?_ ?_ ?_ <;> (simp; done)) | (refine LeV.tell [some 9] ?_ ?_ ?_ <;> (simp; done)) | (refine LeV.tell [some 10] ?_ ?_ ?_ <;> (simp; done)) | (refine LeV.tell [some 11] ?_ ?_ ?_ <;> (simp; done)) | (refine LeV.tell [some 12] ?_ ?_ ?_ <;> (simp; done)) | (refine LeV.tell [some 13] ?_ ?_ ?_ <;> (simp; done)) | (refine LeV.tell [some 14] ?_ ?_ ?_ <;> (simp; done)) | (refine LeV.tell [some 15] ?_ ?_ ?_ <;> (simp; done))
    | false =>
      simp
      repeat (refine ck_intro' (by first | omega | (simp; omega) | kernel_rfl) ?_; try simp [u])
      rw [show putF ks t = out ++ [t] by rw [hpf]; simp [putGo]]
      exact LeV.tell [some 0] (by simp) (by simp [ints_snoc]; exact Tells_scals _ (by simp [scals_app, scals, scal])) (by simp)
theorem spec_l6Put_k {ks : List Int} {t : Int} (hk : ks.length ≤ 4294960000) {S : FuncId → Bool} {H : List Blk} {K : A → Dl → Prop} {zs : List A} (hS : S 100 = false) (hv : viewL (viewA 8 H) zs = some [aI ks, i6 t]) (ho : noOwns zs = true ∨ nosl (jref 0 (putF ks t)) = true ∧ noslBlks ([jblk (putF ks t)]) = true) (hK : K (shiftA H.length (jref 0 (putF ks t))) (.news (([jblk (putF ks t)]).map (shiftB H.length)))) : @WCall' Go.Proofs.Try.prog S 100 zs H ⟨K⟩ :=
  WCall_ro' hS hv (spec_l6Put_c ks t hk) rfl ho hK
theorem putF_len (ks : List Int) (t : Int) : ks.length ≤ (putF ks t).length ∧ (putF ks t).length ≤ ks.length + 1 := ⟨(putGo_len t ks _).1, (putGo_len t ks _).2.1⟩
theorem partsF_0' {k : Int} (h : partsF k = 0) : k = 1 := by
  unfold partsF at h
  split at h
  · assumption
  · split at h
    · omega
    · split at h <;> omega
/-- Whether the power of a term is one that can be made. -/
def powF (ns : List Nd) (mk : List Bool) (ks : List Int) (x : Int) : Bool := decide (0 ≤ findF ns ⟨7, x, 0⟩ 0) && (bv mk x || hasK ks (findF ns ⟨7, x, 0⟩ 0))
/-- Whether a term is public, or can be made of its parts. -/
def madeB (ns : List Nd) (mk : List Bool) (t : Int) (ks : List Int) : Bool :=
  if (nodeAt ns t).k = 1 then pubF (nodeAt ns t).a
  else if partsF (nodeAt ns t).k = 1 then bv mk (nodeAt ns t).a
  else if bv mk (nodeAt ns t).a = true ∧ bv mk (nodeAt ns t).b = true then true
  else if (nodeAt ns t).k = 8 then (bv mk (nodeAt ns t).a && powF ns mk ks (nodeAt ns t).b) || (bv mk (nodeAt ns t).b && powF ns mk ks (nodeAt ns t).a)
  else false
end Go.Proofs.Ytnbodfakblbmbaa.C

set_option linter.unusedVariables false
set_option linter.unusedSimpArgs false
set_option maxRecDepth 4000
namespace Go.Proofs.Ytnbodfakblbmbaa.C
open Go.Sym Go.Proofs.Ytnbodfakblbmbaa.I
@[simp] theorem ints_pks (n : Nat) (g : List Nat) (xs : List Int) : Pks n g (ints xs) (ints xs) := Pks_self _ (inAs_scals _ (ints_scals xs))
@[simp] theorem enc_pks (n : Nat) (g : List Nat) (xs : List Nd) : Pks n g (enc xs) (enc xs) := Pks_self _ (inAs_scals _ (enc_scals xs))
@[simp] theorem bls_pks (n : Nat) (g : List Nat) (xs : List Bool) : Pks n g (bls xs) (bls xs) := Pks_self _ (inAs_scals _ (bls_scals xs))
/-- A call that moves the cursor and makes rows, over rows of its caller's own. -/
theorem cur_callN {f : FuncId} {S : FuncId → Bool} {H T : List Blk} {K : A → Dl → Prop} (hS : S f = true) (cb : Nat) (bs : List Int) (s s' : Cu) (N : List Blk) {zs : List A} {r : A} (hc : cb < H.length)
    (hf : SemT Go.Proofs.Try.prog f zs (cur (cur H cb bs s ++ T) cb bs s) r (cur (cur H cb bs s ++ T) cb bs s' ++ N)) (hK : K r (.full [cb] (cur H cb bs s' ++ T ++ N))) : @WCall' Go.Proofs.Try.prog S f zs (cur H cb bs s ++ T) ⟨K⟩ := by
  rw [cur_mid hc, cur_mid hc] at hf
  refine WCall_t' hS [cb] hf (by simp) (fun q hq hl => ?_) hK
  simp at hq
  rw [List.getElem?_append_left (by simpa using hl)]
  rcases Nat.lt_or_ge q (cur H cb bs s).length with h | h
  · rw [List.getElem?_append_left (by simpa using h), List.getElem?_append_left h]
    simp only [cur]
    rw [List.getElem?_set_ne (Ne.symm hq), List.getElem?_set_ne (Ne.symm hq)]
  · rw [List.getElem?_append_right (by simpa using h), List.getElem?_append_right h]
    simp
/-- What is known that is drawn. -/
def knowGo (bs : List Int) (m : Nat) : Nat → List Int → Cu → List Int × Cu
  | 0, out, s => (out, s)
  | n + 1, out, s => if 0 < m then knowGo bs m n (putF out (drawF bs s m).1) (drawF bs s m).2 else (out, s)
def knowD (bs : List Int) (m : Nat) (s : Cu) : List Int × Cu := knowGo bs m (belowF bs s 8).1.toNat [] (belowF bs s 8).2
theorem spec_l6DrawKnow_m (H : List Blk) (cb : Nat) (bs : List Int) (s : Cu) (ns : List Nd) (hc : cb < H.length) (hb : bs.length < 9223372036854775807) (hcl : Closed1 H.length H = true) (hl : ns.length < 9223372036854775807) : T 135 [.ptr cb 0 0, aP ns] (cur H cb bs s) (jref H.length (knowD bs ns.length s).1) (cur H cb bs (knowD bs ns.length s).2 ++ [jblk (knowD bs ns.length s).1]) := by
  refine semT' (S := (fun f => [123, 94, 91, 134].contains f)) hm spec_l6DrawKnow_ok (Nat.le_of_ble_eq_true rfl) ?_
  unfold spec_l6DrawKnow; dsimp only
  simp
  have hi := belowF_in bs s 8
  have hi2 := hi.2.1 (by omega)
  refine cur_call' rfl cb bs s (belowF bs s 8).2 hc (spec_l1Below_m _ cb bs s 8 (cur_lt _ _ hc) hb) ?_; simp
  have e : knowD bs ns.length s = knowGo bs ns.length (belowF bs s 8).1.toNat [] (belowF bs s 8).2 := rfl
  rw [e]
  generalize belowF bs s 8 = t at hi hi2 ⊢
  obtain ⟨n, hn⟩ : ∃ n : Nat, t.1 = n := ⟨t.1.toNat, by omega⟩
  rw [hn]
  refine WLoop_virt 1 [(0, A.ptr cb 0 0), (3, A.ptr H.length 0 0), (5, A.ref (H.length + 1) 0 0 0), (6, i6 n), (7, i6 0)] ?_ ?_
  · intro s y hy
    simp [Sym.get] at hy ⊢
    (repeat' split at hy) <;> simp_all
  refine WLoop_fam (fun p : Nat × List Int × Cu => [(0, A.ptr cb 0 0), (3, A.ptr H.length 0 0), (5, jref (H.length + 1) p.2.1), (6, i6 n), (7, i6 p.1)])
    (fun p => cur H cb bs p.2.2 ++ [⟨0, false, 1, [A.sl ns.length (enc ns)], none⟩] ++ [jblk p.2.1]) (fun p => n - p.1)
    (fun p => p.1 ≤ n ∧ p.2.1.length ≤ p.1 ∧ knowGo bs ns.length n [] t.2 = knowGo bs ns.length (n - p.1) p.2.1 p.2.2) ?_ (0, [], t.2) ⟨Nat.zero_le _, by simp, rfl⟩
  rintro ⟨j, out, s1⟩ ⟨hj, hol, hgo⟩ ih
  simp only at hj hol hgo
  have hn8 : n < 8 := by omega
  have hne : cb ≠ H.length := by omega
  have hne1 : cb ≠ H.length + 1 := by omega
  have hfin : ¬ (j < n ∧ 0 < ns.length) → knowGo bs ns.length n [] t.2 = (out, s1) := fun h => by
    rw [hgo]
    rcases Nat.lt_or_ge j n with g | g
    · rw [show n - j = (n - (j + 1)) + 1 by omega, knowGo, if_neg (by omega)]
    · rw [show n - j = 0 by omega]; rfl
  have hcl1 : ∀ s2, Closed1 (cur H cb bs s2 ++ ([⟨0, false, 1, [A.sl ns.length (enc ns)], none⟩] : List Blk)).length (cur H cb bs s2 ++ ([⟨0, false, 1, [A.sl ns.length (enc ns)], none⟩] : List Blk)) = true := fun s2 => Closed1_more (by simpa using cur_closed bs s2 hcl) (by simp)
  have hend : LeV H.length (jref (H.length + 1) out) (cur H cb bs s1 ++ [⟨0, false, 1, [A.sl ns.length (enc ns)], none⟩] ++ [jblk out]) (jref H.length out) (cur H cb bs s1 ++ [jblk out]) := by
    rw [List.append_assoc]
    exact LeV.pick [H.length + 1] (by simp) (by simpa using cur_closed bs s1 hcl) (by simp) (by simp) (by simp)
  simp
  refine br_intro' (fun u => ?_) (fun u => ?_) <;> (have u0 := u) <;> simp at u <;> simp [u0, u]
  · refine br_intro' (fun v => ?_) (fun v => ?_) <;> (have v0 := v) <;> simp only [decide_eq_true_eq, decide_eq_false_iff_not] at v <;> simp [v0, v]
    · have hw := wrap_succ (n := j) (by omega)
      have hdr := drawF_in bs s1 ns.length
      have hcl2 : Closed1 (cur H cb bs s1 ++ ([⟨0, false, 1, [A.sl ns.length (enc ns)], none⟩, jblk out] : List Blk)).length (cur H cb bs s1 ++ ([⟨0, false, 1, [A.sl ns.length (enc ns)], none⟩, jblk out] : List Blk)) = true := Closed1_more (by simpa using cur_closed bs s1 hcl) (by simp)
      refine cur_call' rfl cb bs s1 (drawF bs s1 ns.length).2 hc (spec_l1Draw_m _ cb bs s1 ns.length (cur_lt _ _ hc) hb ⟨by omega, by omega⟩) ?_; simp
      refine spec_l6Put_k (ks := out) (t := (drawF bs s1 ns.length).1) (by omega) rfl (by simp) (by simp [noslBlks]) ?_; simp [shiftB]
      have hpl := putF_len out (drawF bs s1 ns.length).1
      have hgn : knowGo bs ns.length (n - j) out s1 = knowGo bs ns.length (n - (j + 1)) (putF out (drawF bs s1 ns.length).1) (drawF bs s1 ns.length).2 := by
        rw [show n - j = (n - (j + 1)) + 1 by omega, knowGo, if_pos v]
      generalize drawF bs s1 ns.length = d at hdr hpl hgn ⊢
      rw [hw]
      refine WLoop_pick [H.length + 2] [(0, A.ptr cb 0 0), (3, A.ptr H.length 0 0), (5, jref (H.length + 1) (putF out d.1)), (6, i6 n), (7, i6 ((j + 1 : Nat) : Int))] (cur H cb bs d.2 ++ [⟨0, false, 1, [A.sl ns.length (enc ns)], none⟩]) [jblk out, jblk (putF out d.1)] [jblk (putF out d.1)] (by simp) (by simp) (hcl1 _) (by simp) (by simp) (by simp; omega) ?_
      exact ih (j + 1, putF out d.1, d.2) ⟨by omega, by simp; omega, by rw [hgo, hgn]⟩ (by simp; omega)
    · rw [hfin (by omega)]
      simpa using hend
  · rw [hfin (by omega)]
    simpa using hend
theorem knowGo_len (bs : List Int) (m : Nat) : ∀ (n : Nat) (out : List Int) (s : Cu), (knowGo bs m n out s).1.length ≤ out.length + n
  | 0, out, s => Nat.le_refl _
  | n + 1, out, s => by
    unfold knowGo
    split
    · have h1 := knowGo_len bs m n (putF out (drawF bs s m).1) (drawF bs s m).2
      have h2 := putF_len out (drawF bs s m).1
      omega
    · simp only; omega
theorem knowD_len (bs : List Int) (m : Nat) (s : Cu) : (knowD bs m s).1.length ≤ 8 := by
  have h := knowGo_len bs m (belowF bs s 8).1.toNat [] (belowF bs s 8).2
  have hi := belowF_in bs s 8
  have := hi.2.1 (by omega)
  unfold knowD
  simp only [List.length_nil] at h
  omega
def anyKGo (bs : List Int) : Nat → Nat → List Int → Cu → List Int × Cu
  | 0, _, out, s => (out, s)
  | n + 1, i, out, s => if (i : Int) < 200 + (belowF bs s 2).1 then anyKGo bs n (i + 1) (putF out i) (belowF bs s 2).2 else (out, (belowF bs s 2).2)
def anyK1 (bs : List Int) (m : Nat) (out : List Int) (b : Int × Cu) : List Int × Cu :=
  if b.1 = 0 then (out ++ [(m : Int)], b.2) else if b.1 = 1 then (out ++ out, b.2) else if b.1 = 2 then anyKGo bs 202 0 out b.2 else (out, b.2)
/-- What is known that is drawn, now and then not rightly. -/
def anyK (bs : List Int) (m : Nat) (s : Cu) : List Int × Cu := anyK1 bs m (knowD bs m s).1 (belowF bs (knowD bs m s).2 30)
theorem frzI {B : Nat} {H1 T : List Blk} {b : Nat} {xs : List Int} {v : Nat} {ro : Bool} (hlen : B ≤ H1.length) (hcl : Closed1 H1.length H1 = true) (hb : H1.length ≤ b) (hk : (H1 ++ T)[b]? = some ⟨v, ro, 1, ints xs, none⟩) : LeV B (.ref b v 0 xs.length) (H1 ++ T) (aI xs) H1 := by
  have := LeV.frz (B := B) hlen hcl (m := xs.length) hb hk (by simp) (by simp)
  simpa using this
theorem spec_l6DrawAny_m (H : List Blk) (cb : Nat) (bs : List Int) (s : Cu) (ns : List Nd) (hc : cb < H.length) (hb : bs.length < 9223372036854775807) (hcl : Closed1 H.length H = true) (hl : ns.length < 9223372036854775807) : T 121 [.ptr cb 0 0, aP ns] (cur H cb bs s) (aI (anyK bs ns.length s).1) (cur H cb bs (anyK bs ns.length s).2) := by
  refine semT' (S := (fun f => [123, 94, 91, 134, 135].contains f)) hm spec_l6DrawAny_ok (Nat.le_of_ble_eq_true rfl) ?_
  unfold spec_l6DrawAny; dsimp only
  simp
  refine cur_callN rfl cb bs s (knowD bs ns.length s).2 [jblk (knowD bs ns.length s).1] hc (spec_l6DrawKnow_m _ cb bs s ns (cur_lt _ _ hc) hb (Closed1_more (by simpa using cur_closed bs s hcl) (by simp)) hl) ?_; simp
  have hkl := knowD_len bs ns.length s
  have e : anyK bs ns.length s = anyK1 bs ns.length (knowD bs ns.length s).1 (belowF bs (knowD bs ns.length s).2 30) := rfl
  rw [e]
  generalize knowD bs ns.length s = k at hkl ⊢
  refine cur_call' rfl cb bs k.2 (belowF bs k.2 30).2 hc (spec_l1Below_m _ cb bs k.2 30 (cur_lt _ _ hc) hb) ?_; simp
  generalize belowF bs k.2 30 = b
  generalize k.1 = out at hkl ⊢
  have hne : cb ≠ H.length := by omega
  have hne1 : cb ≠ H.length + 1 := by omega
  refine br_intro' (fun g => ?_) (fun g => ?_) <;> (have g0 := g) <;> simp only [decide_eq_true_eq, decide_eq_false_iff_not] at g <;> simp [g0, g]
  · rw [show anyK1 bs ns.length out b = (out ++ [(ns.length : Int)], b.2) from if_pos g]
    repeat (refine ck_intro' (by first | omega | (simp; omega) | kernel_rfl) ?_; try simp [g])
    have := frzI (B := H.length) (H1 := cur H cb bs b.2) (T := [⟨0, false, 1, [A.sl ns.length (enc ns)], none⟩, ⟨out.length + 1, false, 1, ints (out ++ [(ns.length : Int)]), none⟩, ⟨0, false, 1, [i6 ns.length], none⟩]) (b := H.length + 1) (xs := out ++ [(ns.length : Int)]) (v := out.length + 1) (ro := false) (by simp) (by simpa using cur_closed bs b.2 hcl) (by simp) (by simp)
    simpa [ints_snoc] using this
  refine br_intro' (fun g1 => ?_) (fun g1 => ?_) <;> (have g10 := g1) <;> simp only [decide_eq_true_eq, decide_eq_false_iff_not] at g1 <;> simp [g10, g1]
  · rw [show anyK1 bs ns.length out b = (out ++ out, b.2) by simp [anyK1, g1]]
    repeat (refine ck_intro' (by first | omega | (simp; omega) | kernel_rfl) ?_; try simp [g1])
    have := frzI (B := H.length) (H1 := cur H cb bs b.2) (T := [⟨0, false, 1, [A.sl ns.length (enc ns)], none⟩, ⟨out.length + 1, decide (out = []), 1, ints (out ++ out), none⟩]) (b := H.length + 1) (xs := out ++ out) (v := out.length + 1) (ro := decide (out = [])) (by simp) (by simpa using cur_closed bs b.2 hcl) (by simp) (by simp)
    simpa [ints] using this
  refine br_intro' (fun g2 => ?_) (fun g2 => ?_) <;> (have g20 := g2) <;> simp only [decide_eq_true_eq, decide_eq_false_iff_not] at g2 <;> simp [g20, g2]
  · rw [show anyK1 bs ns.length out b = anyKGo bs 202 0 out b.2 by simp [anyK1, g2]]
    refine WLoop_fam (fun p : Nat × List Int × Cu => [(0, A.ptr cb 0 0), (5, jref (H.length + 1) p.2.1), (6, i6 p.1)])
      (fun p => cur H cb bs p.2.2 ++ [⟨0, false, 1, [A.sl ns.length (enc ns)], none⟩, jblk p.2.1]) (fun p => 202 - p.1)
      (fun p => p.1 ≤ 201 ∧ p.2.1.length ≤ 8 + p.1 ∧ anyKGo bs 202 0 out b.2 = anyKGo bs (202 - p.1) p.1 p.2.1 p.2.2) ?_ (0, out, b.2) ⟨by simp, by simpa using hkl, rfl⟩
    rintro ⟨i, o1, s1⟩ ⟨hi, hol, hgo⟩ ih
    simp only at hi hol hgo
    simp
    have hbi := belowF_in bs s1 2
    have hbi2 := hbi.2.1 (by omega)
    have hgn : anyKGo bs (202 - i) i o1 s1 = if (i : Int) < 200 + (belowF bs s1 2).1 then anyKGo bs (202 - (i + 1)) (i + 1) (putF o1 i) (belowF bs s1 2).2 else (o1, (belowF bs s1 2).2) := by
      rw [show 202 - i = (202 - (i + 1)) + 1 by omega]; rfl
    refine cur_call' rfl cb bs s1 (belowF bs s1 2).2 hc (spec_l1Below_m _ cb bs s1 2 (cur_lt _ _ hc) hb) ?_; simp
    generalize belowF bs s1 2 = d at hbi hbi2 hgn ⊢
    have hw2 : IntKind.i64.wrap (200 + d.1) = 200 + d.1 := wrap64 (by omega) (by omega)
    have hw := wrap_succ (n := i) (by omega)
    rw [hw2]
    refine br_intro' (fun u => ?_) (fun u => ?_) <;> (have u0 := u) <;> simp only [decide_eq_true_eq, decide_eq_false_iff_not] at u <;> simp [u0, u]
    · refine spec_l6Put_k (ks := o1) (t := i) (by omega) rfl (by simp) (by simp [noslBlks]) ?_; simp [shiftB]
      have hpl := putF_len o1 i
      rw [hw]
      refine WLoop_pick [H.length, H.length + 2] [(0, A.ptr cb 0 0), (5, jref (H.length + 1) (putF o1 i)), (6, i6 ((i + 1 : Nat) : Int))] (cur H cb bs d.2) [⟨0, false, 1, [A.sl ns.length (enc ns)], none⟩, jblk o1, jblk (putF o1 i)] [⟨0, false, 1, [A.sl ns.length (enc ns)], none⟩, jblk (putF o1 i)] (by simp) (by simp) (by simpa using cur_closed bs d.2 hcl) (by simp) (by simp [inAs_scals _ (enc_scals ns)]) (by simp; omega) ?_
      exact ih (i + 1, putF o1 i, d.2) ⟨by omega, by simp; omega, by rw [hgo, hgn, if_pos u]⟩ (by simp; omega)
    · rw [show anyKGo bs 202 0 out b.2 = (o1, d.2) by rw [hgo, hgn, if_neg u]]
      have := frzI (B := H.length) (H1 := cur H cb bs d.2) (T := [⟨0, false, 1, [A.sl ns.length (enc ns)], none⟩, jblk o1]) (b := H.length + 1) (xs := o1) (v := o1.length) (ro := decide (o1.length = 0)) (by simp) (by simpa using cur_closed bs d.2 hcl) (by simp) (by simp)
      simpa using this
  · rw [show anyK1 bs ns.length out b = (out, b.2) by simp [anyK1, g, g1, g2]]
    have := frzI (B := H.length) (H1 := cur H cb bs b.2) (T := [⟨0, false, 1, [A.sl ns.length (enc ns)], none⟩, jblk out]) (b := H.length + 1) (xs := out) (v := out.length) (ro := decide (out.length = 0)) (by simp) (by simpa using cur_closed bs b.2 hcl) (by simp) (by simp)
    simpa using this
end Go.Proofs.Ytnbodfakblbmbaa.C

set_option linter.unusedVariables false
set_option linter.unusedSimpArgs false
set_option maxRecDepth 40000
namespace Go.Proofs.Ytnbodfakblbmbaa.C
open Go.Sym Go.Proofs.Ytnbodfakblbmbaa.I
/-- A pool, what is known, and a term. -/
def d6c (bs : List Int) (p : List Nd) (k : List Int × Cu) : List Nd × List Int × Int := (p, k.1, (termF bs k.2 p.length).1)
def d6b (bs : List Int) (a : List Nd × Cu) : List Nd × List Int × Int := d6c bs a.1 (anyK bs a.1.length a.2)
def d6 (bs : List Int) : List Nd × List Int × Int := d6b bs (anyF bs ⟨0, newH bs⟩)
theorem spec_l6Draw_c (bs : List Int) (hb : bs.length < 9223372036854775807) : T 87 [aB bs] [] (.tup [aP (d6 bs).1, aI (d6 bs).2.1, i6 (d6 bs).2.2]) ([]) := by
  refine semT' (S := (fun f => [123, 94, 91, 120, 134, 133, 132, 118, 119, 135, 121].contains f)) hm spec_l6Draw_ok (Nat.le_of_ble_eq_true rfl) ?_
  unfold spec_l6Draw; dsimp only
  simp
  refine spec_l1New_k (bs := bs) hb rfl (by simp) (by simp [noslBlks]) ?_; simp [shiftB]
  refine cur_callR rfl 1 bs ⟨0, newH bs⟩ _ rfl (spec_l1DrawAny_m _ 1 bs _ (by simp) hb (by simp)) ?_; simp [cur]
  rw [show d6 bs = d6b bs (anyF bs ⟨0, newH bs⟩) from rfl]
  have hal := anyF_len bs ⟨0, newH bs⟩
  generalize anyF bs ⟨0, newH bs⟩ = a at hal ⊢
  refine cur_callR rfl 1 bs _ _ rfl (spec_l6DrawAny_m _ 1 bs _ a.1 (by simp) hb (by simp [inAs_scals _ (enc_scals a.1)]) (by omega)) ?_; simp [cur]
  rw [show d6b bs a = d6c bs a.1 (anyK bs a.1.length a.2) from rfl]
  generalize anyK bs a.1.length a.2 = k
  refine cur_callR rfl 1 bs _ _ rfl (spec_l1DrawTerm_m _ 1 bs _ a.1 (by simp) hb (by simp [inAs_scals _ (enc_scals a.1)]) (by omega)) ?_; simp [cur]
  rw [show d6c bs a.1 k = (a.1, k.1, (termF bs k.2 a.1.length).1) from rfl]
  generalize termF bs k.2 a.1.length = t
  first | (refine ck_intro' (by kernel_rfl) ?_; try simp) | skip
  exact LeV.ro rfl rfl (by simp)
theorem spec_l6Draw_call {bs : List Int} (hb : bs.length < 9223372036854775807) {S : FuncId → Bool} {H : List Blk} {K : A → Dl → Prop} (hS : S 87 = false) (hK : K (.tup [aP (d6 bs).1, aI (d6 bs).2.1, i6 (d6 bs).2.2]) (.news [])) : @WCall' Go.Proofs.Try.prog S 87 [aB bs] H ⟨K⟩ :=
  WCall_pure hS (spec_l6Draw_c bs hb) (by simp) (by simp) (by simp) hK
theorem spec_l6Draw_k {bs : List Int} (hb : bs.length < 9223372036854775807) {S : FuncId → Bool} {H : List Blk} {K : A → Dl → Prop} {zs : List A} (hS : S 87 = false) (hv : viewL (viewA 8 H) zs = some [aB bs]) (ho : noOwns zs = true ∨ nosl (.tup [aP (d6 bs).1, aI (d6 bs).2.1, i6 (d6 bs).2.2]) = true) (hK : K (.tup [aP (d6 bs).1, aI (d6 bs).2.1, i6 (d6 bs).2.2]) (.news [])) : @WCall' Go.Proofs.Try.prog S 87 zs H ⟨K⟩ :=
  WCall_pure hS (spec_l6Draw_c bs hb) hv ho (by simp) hK
theorem anyKGo_len (bs : List Int) : ∀ (n i : Nat) (out : List Int) (s : Cu), (anyKGo bs n i out s).1.length ≤ out.length + n
  | 0, i, out, s => Nat.le_refl _
  | n + 1, i, out, s => by
    unfold anyKGo
    split
    · have h1 := anyKGo_len bs n (i + 1) (putF out i) (belowF bs s 2).2
      have h2 := putF_len out i
      omega
    · simp only; omega
theorem anyK_len (bs : List Int) (m : Nat) (s : Cu) : (anyK bs m s).1.length ≤ 300 := by
  have h := knowD_len bs m s
  unfold anyK anyK1
  split
  · simp; omega
  · split
    · simp; omega
    · split
      · have := anyKGo_len bs 202 0 (knowD bs m s).1 (belowF bs (knowD bs m s).2 30).2
        omega
      · simp only; omega
theorem d6_len (bs : List Int) : (d6 bs).1.length ≤ 501 ∧ (d6 bs).2.1.length ≤ 300 := ⟨anyF_len _ _, anyK_len _ _ _⟩
end Go.Proofs.Ytnbodfakblbmbaa.C

set_option linter.unusedVariables false
set_option linter.unusedSimpArgs false
namespace Go.Proofs.Ytnbodfakblbmbaa.C
open Go.Sym Go.Proofs.Ytnbodfakblbmbaa.I
theorem laws_sameInts_c (ns ms : List Int) (hl : ns.length < 9223372036854775807) (hl2 : ms.length < 9223372036854775807) : T 42 [aI ns, aI ms] [] (.bool (decide (ns = ms))) ([]) := by
  refine semT' (S := S0) hm laws_sameInts_ok (Nat.le_of_ble_eq_true rfl) ?_
  unfold laws_sameInts; dsimp only
  simp
  refine br_intro' (fun h => ?_) (fun h => ?_) <;> (try simp at h) <;> (try simp [h])
  · refine WLoop_fam (fun j : Nat => [(0, aI ns), (1, aI ms), (5, i6 j)]) (fun _ => []) (fun j => ns.length - j)
      (fun j => j ≤ ns.length ∧ ns.take j = ms.take j) ?_ 0 ⟨Nat.zero_le _, by simp⟩
    intro j ⟨hj, hf⟩ ih
    simp
    have hq : ns.length = ms.length := by omega
    refine br_intro' (fun h => ?_) (fun h => ?_) <;> (have h0 := h) <;> (try simp at h) <;> try simp [h0, h]
    · have hm : j < ms.length := by omega
      have hw : IntKind.i64.wrap ((j : Int) + 1) = j + 1 := wrap64 (by omega) (by omega)
      have h' := h
      simp [h', hm]
      first | (refine ck_intro' (by kernel_rfl) ?_; try simp) | skip
      refine br_intro' (fun g => ?_) (fun g => ?_) <;> simp at g <;> simp [g]
      · rw [hw]
        exact ih (j + 1) ⟨h', by rw [List.take_succ_eq_append_getElem h', List.take_succ_eq_append_getElem hm, hf, g]⟩ (by omega)
      · exact LeV.ro rfl rfl (by simp; intro e; subst e; exact g rfl)
    · have h0 : j = ns.length := by omega
      exact LeV.ro rfl rfl (by rw [h0, List.take_length, hq, List.take_length] at hf; simp [hf])
  · exact LeV.ro rfl rfl (by simp; intro e; rw [e] at h; exact h rfl)
theorem laws_sameInts_call {ns ms : List Int} (hl : ns.length < 9223372036854775807) (hl2 : ms.length < 9223372036854775807) {S : FuncId → Bool} {H : List Blk} {K : A → Dl → Prop} (hS : S 42 = false) (hK : K (.bool (decide (ns = ms))) (.news [])) : @WCall' Go.Proofs.Try.prog S 42 [aI ns, aI ms] H ⟨K⟩ :=
  WCall_pure hS (laws_sameInts_c ns ms hl hl2) (by simp) (by simp) (by simp) hK
theorem laws_sameInts_k {ns ms : List Int} (hl : ns.length < 9223372036854775807) (hl2 : ms.length < 9223372036854775807) {S : FuncId → Bool} {H : List Blk} {K : A → Dl → Prop} {zs : List A} (hS : S 42 = false) (hv : viewL (viewA 8 H) zs = some [aI ns, aI ms]) (ho : noOwns zs = true ∨ nosl (.bool (decide (ns = ms))) = true) (hK : K (.bool (decide (ns = ms))) (.news [])) : @WCall' Go.Proofs.Try.prog S 42 zs H ⟨K⟩ :=
  WCall_pure hS (laws_sameInts_c ns ms hl hl2) hv ho (by simp) hK
end Go.Proofs.Ytnbodfakblbmbaa.C

set_option linter.unusedVariables false
set_option linter.unusedSimpArgs false
namespace Go.Proofs.Ytnbodfakblbmbaa.C
open Go.Sym Go.Proofs.Ytnbodfakblbmbaa.I
def In64 (n : Int) : Prop := -9223372036854775808 ≤ n ∧ n < 9223372036854775808
abbrev shI : Sh := .i .i64
abbrev shN : Sh := .st (.p shI (.p shI (.p shI .u)))
abbrev shP : Sh := .st (.p (.sl shN) .u)
abbrev shL : Sh := .st (.p shI (.p shI (.p shI (.p .b .u))))
abbrev shIs : Sh := .sl shI
abbrev shS : Sh := .st (.p shP (.p shIs (.p shL (.p shL (.p shIs (.p shIs .u))))))
theorem fit_i {cs : List A} (h : Fit shI cs) : ∃ n, cs = [i6 n] ∧ In64 n := by
  obtain ⟨n, rfl, hn⟩ := h
  exact ⟨n, rfl, fit_i64 hn⟩
theorem fit_n {cs : List A} (h : Fit shN cs) : ∃ n : Nd, cs = encN n ∧ In64 n.k ∧ In64 n.a ∧ In64 n.b := by
  obtain ⟨x, y, rfl, hx, z, t, rfl, hz, u, w, rfl, hu, rfl⟩ := h
  obtain ⟨a, rfl, ha⟩ := fit_i hx
  obtain ⟨b, rfl, hb⟩ := fit_i hz
  obtain ⟨c, rfl, hc⟩ := fit_i hu
  exact ⟨⟨a, b, c⟩, rfl, ha, hb, hc⟩
theorem fit_p {cs : List A} (h : Fit shP cs) : ∃ ns : List Nd, cs = [.sl ns.length (enc ns)] ∧ ns.length < 9223372036854775808 := by
  obtain ⟨x, y, rfl, hx, rfl⟩ := h
  obtain ⟨ns, rfl, h1, _⟩ := fit_sl (f := encN) (fun r hr => fit_n hr) hx
  exact ⟨ns, by simp [enc], h1⟩
theorem fit_is {cs : List A} (h : Fit shIs cs) : ∃ xs : List Int, cs = [aI xs] ∧ xs.length < 9223372036854775808 := by
  obtain ⟨xs, rfl, h1, _⟩ := fit_sl (f := fun n => [i6 n]) (fun r hr => fit_i hr) h
  exact ⟨xs, by simp only [aI, ints]; rw [List.map_eq_flatMap], h1⟩
structure Lk.fit (l : Lk) : Prop where
  k : In64 l.key
  e : In64 l.epoch
  s : In64 l.seq
theorem fit_l {cs : List A} (h : Fit shL cs) : ∃ l : Lk, cs = [i6 l.key, i6 l.epoch, i6 l.seq, .bool l.over] ∧ l.fit := by
  obtain ⟨x, y, rfl, hx, z, t, rfl, hz, u, w, rfl, hu, b, w, rfl, ⟨o, rfl⟩, rfl⟩ := h
  obtain ⟨a, rfl, ha⟩ := fit_i hx
  obtain ⟨b, rfl, hb⟩ := fit_i hz
  obtain ⟨c, rfl, hc⟩ := fit_i hu
  exact ⟨⟨a, b, c, o⟩, rfl, ha, hb, hc⟩
structure St.fitA (s : St) : Prop where
  p : s.pool.length < 9223372036854775808
  k : s.know.length < 9223372036854775808
  t : s.sent.length < 9223372036854775808
  g : s.got.length < 9223372036854775808
  o : s.out.fit
  i : s.inn.fit
theorem fit_s {cs : List A} (h : Fit shS cs) : ∃ s : St, cs = cS s ∧ s.fitA := by
  obtain ⟨x, y, rfl, hx, z, t, rfl, hz, u, w, rfl, hu, b, w, rfl, hb, e, f, rfl, he, g, i, rfl, hg, rfl⟩ := h
  obtain ⟨ns, rfl, h1⟩ := fit_p hx
  obtain ⟨ks, rfl, h2⟩ := fit_is hz
  obtain ⟨l, rfl, h3⟩ := fit_l hu
  obtain ⟨m, rfl, h4⟩ := fit_l hb
  obtain ⟨ts, rfl, h5⟩ := fit_is he
  obtain ⟨gs, rfl, h6⟩ := fit_is hg
  exact ⟨⟨ns, ks, l, m, ts, gs⟩, rfl, h1, h2, h5, h6, h3, h4⟩
theorem arg_p {x : A} (h : FitA shP x) : ∃ ns : List Nd, x = aP ns ∧ ns.length < 9223372036854775808 := by
  obtain ⟨cs, rfl, h⟩ := h
  obtain ⟨ns, rfl, g⟩ := fit_p h
  exact ⟨ns, rfl, g⟩
theorem arg_l {x : A} (h : FitA shL x) : ∃ l : Lk, x = aL l ∧ l.fit := by
  obtain ⟨cs, rfl, h⟩ := h
  obtain ⟨ns, rfl, g⟩ := fit_l h
  exact ⟨ns, rfl, g⟩
theorem arg_s {x : A} (h : FitA shS x) : ∃ s : St, x = aS s ∧ s.fitA := by
  obtain ⟨cs, rfl, h⟩ := h
  obtain ⟨ns, rfl, g⟩ := fit_s h
  exact ⟨ns, rfl, g⟩
theorem arg_is {x : A} (h : FitA shIs x) : ∃ xs : List Int, x = aI xs ∧ xs.length < 9223372036854775808 := by
  obtain ⟨xs, e, h⟩ := fit_is (show Fit shIs [x] from h)
  exact ⟨xs, by simpa using e, h⟩
theorem arg_i {x : A} (h : FitA shI x) : ∃ n : Int, x = i6 n ∧ In64 n := by
  obtain ⟨n, e, h⟩ := fit_i (show Fit shI [x] from h)
  exact ⟨n, by simpa using e, h⟩
end Go.Proofs.Ytnbodfakblbmbaa.C

set_option linter.unusedVariables false
set_option linter.unusedSimpArgs false
namespace Go.Proofs.Ytnbodfakblbmbaa.C
open Go.Sym Go.Proofs.Ytnbodfakblbmbaa.I
abbrev qblk (ns : List Nd) : Blk := ⟨ns.length, false, 3, enc ns, none⟩
abbrev iblk (xs : List Int) : Blk := ⟨xs.length, false, 1, ints xs, none⟩
abbrev iref (b : Nat) (xs : List Int) : A := .ref b xs.length 0 xs.length
def szF (x : Int) (n : Nat) : Int := if x - n < 0 then -1 else x - n
theorem laws_szNodeS_c (ns : List Nd) (x : Int) (hl : ns.length < 9223372036854775808) (h0 : 0 ≤ x) (h1 : x < 9223372036854775808) : T 57 [.sl ns.length (enc ns), i6 x] [] (i6 (szF x ns.length)) ([]) := by
  refine semT' (S := S0) hm laws_szNodeS_ok (Nat.le_of_ble_eq_true rfl) ?_
  unfold laws_szNodeS; dsimp only
  have hw : IntKind.i64.wrap (x - ns.length) = x - ns.length := wrap64 (by omega) (by omega)
  simp [hw]
  refine br_intro' (fun h => ?_) (fun h => ?_) <;> (have h0 := h) <;> (try simp at h) <;> try simp [h0, h]
  · exact LeV.ro rfl rfl (by simp [szF, h])
  · exact LeV.ro rfl rfl (by simp [szF]; omega)
theorem laws_szNodeS_call {ns : List Nd} {x : Int} (hl : ns.length < 9223372036854775808) (h0 : 0 ≤ x) (h1 : x < 9223372036854775808) {S : FuncId → Bool} {H : List Blk} {K : A → Dl → Prop} (hS : S 57 = false) (hK : K (i6 (szF x ns.length)) (.news [])) : @WCall' Go.Proofs.Try.prog S 57 [.sl ns.length (enc ns), i6 x] H ⟨K⟩ :=
  WCall_pure hS (laws_szNodeS_c ns x hl h0 h1) (by simp) (by simp) (by simp) hK
theorem laws_szNodeS_k {ns : List Nd} {x : Int} (hl : ns.length < 9223372036854775808) (h0 : 0 ≤ x) (h1 : x < 9223372036854775808) {S : FuncId → Bool} {H : List Blk} {K : A → Dl → Prop} {zs : List A} (hS : S 57 = false) (hv : viewL (viewA 8 H) zs = some [.sl ns.length (enc ns), i6 x]) (ho : noOwns zs = true ∨ nosl (i6 (szF x ns.length)) = true) (hK : K (i6 (szF x ns.length)) (.news [])) : @WCall' Go.Proofs.Try.prog S 57 zs H ⟨K⟩ :=
  WCall_pure hS (laws_szNodeS_c ns x hl h0 h1) hv ho (by simp) hK
theorem laws_szPool_c (ns : List Nd) (x : Int) (hl : ns.length < 9223372036854775808) (h0 : 0 ≤ x) (h1 : x < 9223372036854775808) : T 15 [aP ns, i6 x] [] (i6 (szF x ns.length)) ([]) := by
  refine semT' (S := S0) hm laws_szPool_ok (Nat.le_of_ble_eq_true rfl) ?_
  unfold laws_szPool; dsimp only
  simp
  refine laws_szNodeS_call (ns := ns) (x := x) hl h0 h1 rfl ?_; simp
  refine br_intro' (fun h => ?_) (fun h => ?_) <;> (have h0 := h) <;> (try simp at h) <;> try simp [h0, h]
  · exact LeV.ro rfl rfl (by simp [szF] at h ⊢; omega)
  · exact LeV.ro rfl rfl (by simp)
theorem laws_szPool_call {ns : List Nd} {x : Int} (hl : ns.length < 9223372036854775808) (h0 : 0 ≤ x) (h1 : x < 9223372036854775808) {S : FuncId → Bool} {H : List Blk} {K : A → Dl → Prop} (hS : S 15 = false) (hK : K (i6 (szF x ns.length)) (.news [])) : @WCall' Go.Proofs.Try.prog S 15 [aP ns, i6 x] H ⟨K⟩ :=
  WCall_pure hS (laws_szPool_c ns x hl h0 h1) (by simp) (by simp) (by simp) hK
theorem laws_szPool_k {ns : List Nd} {x : Int} (hl : ns.length < 9223372036854775808) (h0 : 0 ≤ x) (h1 : x < 9223372036854775808) {S : FuncId → Bool} {H : List Blk} {K : A → Dl → Prop} {zs : List A} (hS : S 15 = false) (hv : viewL (viewA 8 H) zs = some [aP ns, i6 x]) (ho : noOwns zs = true ∨ nosl (i6 (szF x ns.length)) = true) (hK : K (i6 (szF x ns.length)) (.news [])) : @WCall' Go.Proofs.Try.prog S 15 zs H ⟨K⟩ :=
  WCall_pure hS (laws_szPool_c ns x hl h0 h1) hv ho (by simp) hK
theorem laws_szIntS_c (xs : List Int) (x : Int) (hl : xs.length < 9223372036854775808) (h0 : 0 ≤ x) (h1 : x < 9223372036854775808) : T 65 [aI xs, i6 x] [] (i6 (szF x xs.length)) ([]) := by
  refine semT' (S := S0) hm laws_szIntS_ok (Nat.le_of_ble_eq_true rfl) ?_
  unfold laws_szIntS; dsimp only
  have hw : IntKind.i64.wrap (x - xs.length) = x - xs.length := wrap64 (by omega) (by omega)
  simp [hw]
  refine br_intro' (fun h => ?_) (fun h => ?_) <;> (have h0 := h) <;> (try simp at h) <;> try simp [h0, h]
  · exact LeV.ro rfl rfl (by simp [szF, h])
  · exact LeV.ro rfl rfl (by simp [szF]; omega)
theorem laws_szIntS_call {xs : List Int} {x : Int} (hl : xs.length < 9223372036854775808) (h0 : 0 ≤ x) (h1 : x < 9223372036854775808) {S : FuncId → Bool} {H : List Blk} {K : A → Dl → Prop} (hS : S 65 = false) (hK : K (i6 (szF x xs.length)) (.news [])) : @WCall' Go.Proofs.Try.prog S 65 [aI xs, i6 x] H ⟨K⟩ :=
  WCall_pure hS (laws_szIntS_c xs x hl h0 h1) (by simp) (by simp) (by simp) hK
theorem laws_szIntS_k {xs : List Int} {x : Int} (hl : xs.length < 9223372036854775808) (h0 : 0 ≤ x) (h1 : x < 9223372036854775808) {S : FuncId → Bool} {H : List Blk} {K : A → Dl → Prop} {zs : List A} (hS : S 65 = false) (hv : viewL (viewA 8 H) zs = some [aI xs, i6 x]) (ho : noOwns zs = true ∨ nosl (i6 (szF x xs.length)) = true) (hK : K (i6 (szF x xs.length)) (.news [])) : @WCall' Go.Proofs.Try.prog S 65 zs H ⟨K⟩ :=
  WCall_pure hS (laws_szIntS_c xs x hl h0 h1) hv ho (by simp) hK
theorem laws_toNode_c (n : Nd)  : T 109 [aN n] [] (aN n) ([]) := by
  refine semT' (S := S0) hm laws_toNode_ok (Nat.le_of_ble_eq_true rfl) ?_
  unfold laws_toNode; dsimp only
  simp
  exact LeV.ro rfl rfl (by simp)
theorem laws_toNode_call {n : Nd}  {S : FuncId → Bool} {H : List Blk} {K : A → Dl → Prop} (hS : S 109 = false) (hK : K (aN n) (.news [])) : @WCall' Go.Proofs.Try.prog S 109 [aN n] H ⟨K⟩ :=
  WCall_pure hS (laws_toNode_c n) (by simp) (by simp) (by simp) hK
theorem laws_toNode_k {n : Nd}  {S : FuncId → Bool} {H : List Blk} {K : A → Dl → Prop} {zs : List A} (hS : S 109 = false) (hv : viewL (viewA 8 H) zs = some [aN n]) (ho : noOwns zs = true ∨ nosl (aN n) = true) (hK : K (aN n) (.news [])) : @WCall' Go.Proofs.Try.prog S 109 zs H ⟨K⟩ :=
  WCall_pure hS (laws_toNode_c n) hv ho (by simp) hK
theorem laws_toLink_c (l : Lk)  : T 18 [aL l] [] (aL l) ([]) := by
  refine semT' (S := S0) hm laws_toLink_ok (Nat.le_of_ble_eq_true rfl) ?_
  unfold laws_toLink; dsimp only
  simp
  exact LeV.ro rfl rfl (by simp)
theorem laws_toLink_call {l : Lk}  {S : FuncId → Bool} {H : List Blk} {K : A → Dl → Prop} (hS : S 18 = false) (hK : K (aL l) (.news [])) : @WCall' Go.Proofs.Try.prog S 18 [aL l] H ⟨K⟩ :=
  WCall_pure hS (laws_toLink_c l) (by simp) (by simp) (by simp) hK
theorem laws_toLink_k {l : Lk}  {S : FuncId → Bool} {H : List Blk} {K : A → Dl → Prop} {zs : List A} (hS : S 18 = false) (hv : viewL (viewA 8 H) zs = some [aL l]) (ho : noOwns zs = true ∨ nosl (aL l) = true) (hK : K (aL l) (.news [])) : @WCall' Go.Proofs.Try.prog S 18 zs H ⟨K⟩ :=
  WCall_pure hS (laws_toLink_c l) hv ho (by simp) hK
theorem laws_eqNode_c (n m : Nd)  : T 110 [aN n, aN m] [] (.bool (decide (n = m))) ([]) := by
  refine semT' (S := S0) hm laws_eqNode_ok (Nat.le_of_ble_eq_true rfl) ?_
  unfold laws_eqNode; dsimp only
  simp
  repeat (any_goals (first | (refine br_intro' (fun h => ?_) (fun h => ?_) <;> (have h0 := h) <;> (try simp at h) <;> try simp [h0, h])))
  all_goals exact LeV.ro rfl rfl (by simp [Nd_eq, *])
theorem laws_eqNode_call {n m : Nd}  {S : FuncId → Bool} {H : List Blk} {K : A → Dl → Prop} (hS : S 110 = false) (hK : K (.bool (decide (n = m))) (.news [])) : @WCall' Go.Proofs.Try.prog S 110 [aN n, aN m] H ⟨K⟩ :=
  WCall_pure hS (laws_eqNode_c n m) (by simp) (by simp) (by simp) hK
theorem laws_eqNode_k {n m : Nd}  {S : FuncId → Bool} {H : List Blk} {K : A → Dl → Prop} {zs : List A} (hS : S 110 = false) (hv : viewL (viewA 8 H) zs = some [aN n, aN m]) (ho : noOwns zs = true ∨ nosl (.bool (decide (n = m))) = true) (hK : K (.bool (decide (n = m))) (.news [])) : @WCall' Go.Proofs.Try.prog S 110 zs H ⟨K⟩ :=
  WCall_pure hS (laws_eqNode_c n m) hv ho (by simp) hK
theorem Lk_eq {x y : Lk} : x = y ↔ x.key = y.key ∧ x.epoch = y.epoch ∧ x.seq = y.seq ∧ x.over = y.over := by cases x; cases y; simp
theorem laws_eqLink_c (n m : Lk)  : T 20 [aL n, aL m] [] (.bool (decide (n = m))) ([]) := by
  refine semT' (S := S0) hm laws_eqLink_ok (Nat.le_of_ble_eq_true rfl) ?_
  unfold laws_eqLink; dsimp only
  simp
  repeat (any_goals (first | (refine br_intro' (fun h => ?_) (fun h => ?_) <;> (have h0 := h) <;> (try simp at h) <;> try simp [h0, h])))
  all_goals exact LeV.ro rfl rfl (by simp [Lk_eq, *])
theorem laws_eqLink_call {n m : Lk}  {S : FuncId → Bool} {H : List Blk} {K : A → Dl → Prop} (hS : S 20 = false) (hK : K (.bool (decide (n = m))) (.news [])) : @WCall' Go.Proofs.Try.prog S 20 [aL n, aL m] H ⟨K⟩ :=
  WCall_pure hS (laws_eqLink_c n m) (by simp) (by simp) (by simp) hK
theorem laws_eqLink_k {n m : Lk}  {S : FuncId → Bool} {H : List Blk} {K : A → Dl → Prop} {zs : List A} (hS : S 20 = false) (hv : viewL (viewA 8 H) zs = some [aL n, aL m]) (ho : noOwns zs = true ∨ nosl (.bool (decide (n = m))) = true) (hK : K (.bool (decide (n = m))) (.news [])) : @WCall' Go.Proofs.Try.prog S 20 zs H ⟨K⟩ :=
  WCall_pure hS (laws_eqLink_c n m) hv ho (by simp) hK
def zN (j : Nat) : List Nd := List.replicate j ⟨0, 0, 0⟩
/-- A copy that is made up to a place. -/
def upN (ns : List Nd) (j : Nat) : List Nd := ns.take j ++ zN (ns.length - j)
theorem upN_len (ns : List Nd) (j : Nat) (h : j ≤ ns.length) : (upN ns j).length = ns.length := by simp [upN, zN]; omega
theorem upN_zero (ns : List Nd) : upN ns 0 = zN ns.length := by simp [upN]
theorem upN_end (ns : List Nd) : upN ns ns.length = ns := by simp [upN, zN]
theorem enc_zN (j : Nat) : enc (zN j) = (List.replicate j [i6 0, i6 0, i6 0]).flatten := by
  induction j with
  | zero => rfl
  | succ j ih => simp only [zN, List.replicate_succ, enc, List.flatMap_cons, List.flatten_cons] at ih ⊢; rw [ih]; rfl
theorem upN_set (ns : List Nd) (j : Nat) (h : j < ns.length) : (upN ns j).set j ns[j] = upN ns (j + 1) := by
  have hl : (ns.take j).length = j := by simp; omega
  have e : ns.length - j = (ns.length - (j + 1)) + 1 := by omega
  simp only [upN, zN]
  rw [List.set_append_right _ _ (by omega), hl, Nat.sub_self, e, List.replicate_succ, List.set_cons_zero, List.take_succ_eq_append_getElem h, List.append_assoc]
  rfl
theorem set3 {x y z : A} : ∀ (cs : List A) (a b c : A) (r : List A), (((a :: b :: c :: r).set 0 x).set 1 y).set 2 z = x :: y :: z :: r := fun _ _ _ _ _ => rfl
theorem enc_set : ∀ (xs : List Nd) (j : Nat) (n : Nd), (((enc xs).set (j * 3) (i6 n.k)).set (j * 3 + 1) (i6 n.a)).set (j * 3 + 2) (i6 n.b) = enc (xs.set j n)
  | [], j, n => by simp
  | x :: xs, 0, n => rfl
  | x :: xs, j + 1, n => by
    have := enc_set xs j n
    have e : (j + 1) * 3 = j * 3 + 1 + 1 + 1 := by omega
    show ((([i6 x.k, i6 x.a, i6 x.b] ++ enc xs).set ((j + 1) * 3) _).set ((j + 1) * 3 + 1) _).set ((j + 1) * 3 + 2) _ = [i6 x.k, i6 x.a, i6 x.b] ++ enc (xs.set j n)
    rw [e, ← this]
    rfl
theorem laws_toNodeS_c (ns : List Nd) (hl : ns.length ≤ 4294967296) : T 61 [.sl ns.length (enc ns)] [] (pref 0 ns) ([qblk ns]) := by
  refine semT' (S := S0) hm laws_toNodeS_ok (Nat.le_of_ble_eq_true rfl) ?_
  unfold laws_toNodeS; dsimp only
  have h1 : ((ns.length : Int)) * 24 ≤ 17592186044416 := by omega
  have h2 : (ns.length : Int) ≤ 4294967296 := by omega
  simp
  refine ck_intro' (by omega) ?_; simp
  rw [← enc_zN, ← upN_zero]
  refine WLoop_fam (fun j : Nat => [(0, A.sl ns.length (enc ns)), (3, A.ref 0 0 0 ns.length), (4, i6 j)]) (fun j => [⟨0, false, 3, enc (upN ns j), none⟩]) (fun j => ns.length - j)
    (fun j => j ≤ ns.length) ?_ 0 (Nat.zero_le _)
  intro j hj ih
  simp [upN_len ns j hj]
  refine br_intro' (fun h => ?_) (fun h => ?_) <;> (have h0 := h) <;> (try simp at h) <;> try simp [h0, h]
  · obtain ⟨r, hr⟩ := enc_at h
    have h3 : 3 ≤ ns.length * 3 - j * 3 := by omega
    have hw : IntKind.i64.wrap ((j : Int) + 1) = j + 1 := wrap64 (by omega) (by omega)
    have h' := h
    simp [h3, hr, h']
    refine laws_toNode_call (n := ns[j]) rfl ?_; simp [upN_len ns j hj, h']
    refine ck_intro' (by omega) ?_; simp
    rw [hw, enc_set, upN_set ns j h']
    exact ih (j + 1) h' (by omega)
  · have h0 : j = ns.length := by omega
    subst h0
    rw [upN_end]
    first | (refine LeV.tell [none] ?_ ?_ ?_ <;> (simp; done)) | (refine LeV.tell [some 0] ?_ ?_ ?_ <;> (simp; done)) | (refine LeV.tell [some 1] ?_ ?_ ?_ <;> (simp; done)) | (refine LeV.tell [some 2] ?_ ?_ ?_ <;> (simp; done)) | (refine LeV.tell [some 3] ?_ ?_ ?_ <;> (simp; done)) | (refine LeV.tell [some 4] ?_ ?_ ?_ <;> (simp; done)) | (refine LeV.tell [some 5] ?_ ?_ ?_ <;> (simp; done)) | (refine LeV.tell [some 6] ?_ ?_ ?_ <;> (simp; done)) | (refine LeV.tell [some 7] ?_ ?_ ?_ <;> (simp; done)) | (refine LeV.tell [some 8] ?_ ?_ ?_ <;> (simp; done)) | (refine LeV.tell [some 9] ?_ ?_ ?_ <;> (simp; done)) | (refine LeV.tell [some 10] ?_ ?_ ?_ <;> (simp; done)) | (refine LeV.tell [some 11] ?_ ?_ ?_ <;> (simp; done)) | (refine LeV.tell [some 12] ?_ ?_ ?_ <;> (simp; done)) | (refine LeV.tell [some 13] ?_ ?_ ?_ <;> (simp; done)) | (refine LeV.tell [some 14] ?_ ?_ ?_ <;> (simp; done)) | (refine LeV.tell [some 15] ?_ ?_ ?_ <;> (simp; done))
theorem laws_toNodeS_k {ns : List Nd} (hl : ns.length ≤ 4294967296) {S : FuncId → Bool} {H : List Blk} {K : A → Dl → Prop} {zs : List A} (hS : S 61 = false) (hv : viewL (viewA 8 H) zs = some [.sl ns.length (enc ns)]) (ho : noOwns zs = true ∨ nosl (pref 0 ns) = true ∧ noslBlks ([qblk ns]) = true) (hK : K (shiftA H.length (pref 0 ns)) (.news (([qblk ns]).map (shiftB H.length)))) : @WCall' Go.Proofs.Try.prog S 61 zs H ⟨K⟩ :=
  WCall_ro' hS hv (laws_toNodeS_c ns hl) rfl ho hK
theorem laws_toPool_c (ns : List Nd) (hl : ns.length ≤ 4294967296) : T 17 [aP ns] [] (.agg [pref 0 ns]) ([qblk ns]) := by
  refine semT' (S := S0) hm laws_toPool_ok (Nat.le_of_ble_eq_true rfl) ?_
  unfold laws_toPool; dsimp only
  simp
  refine laws_toNodeS_k (ns := ns) hl rfl (by simp) (by simp [noslBlks]) ?_; simp [shiftB]
  first | (refine LeV.tell [none] ?_ ?_ ?_ <;> (simp; done)) | (refine LeV.tell [some 0] ?_ ?_ ?_ <;> (simp; done)) | (refine LeV.tell [some 1] ?_ ?_ ?_ <;> (simp; done)) | (refine LeV.tell [some 2] ?_ ?_ ?_ <;> (simp; done)) | (refine LeV.tell [some 3] ?_ ?_ ?_ <;> (simp; done)) | (refine LeV.tell [some 4] ?_ ?_ ?_ <;> (simp; done)) | (refine LeV.tell [some 5] ?_ ?_ ?_ <;> (simp; done)) | (refine LeV.tell [some 6] ?_ ?_ ?_ <;> (simp; done)) | (refine LeV.tell [some 7] ?_ ?_ ?_ <;> (simp; done)) | (refine LeV.tell [some 8] ?_ ?_ ?_ <;> (simp; done)) | (refine LeV.tell [some 9] ?_ ?_ ?_ <;> (simp; done)) | (refine LeV.tell [some 10] ?_ ?_ ?_ <;> (simp; done)) | (refine LeV.tell [some 11] ?_ ?_ ?_ <;> (simp; done)) | (refine LeV.tell [some 12] ?_ ?_ ?_ <;> (simp; done)) | (refine LeV.tell [some 13] ?_ ?_ ?_ <;> (simp; done)) | (refine LeV.tell [some 14] ?_ ?_ ?_ <;> (simp; done)) | (refine LeV.tell [some 15] ?_ ?_ ?_ <;> (simp; done))
theorem laws_toPool_k {ns : List Nd} (hl : ns.length ≤ 4294967296) {S : FuncId → Bool} {H : List Blk} {K : A → Dl → Prop} {zs : List A} (hS : S 17 = false) (hv : viewL (viewA 8 H) zs = some [aP ns]) (ho : noOwns zs = true ∨ nosl (.agg [pref 0 ns]) = true ∧ noslBlks ([qblk ns]) = true) (hK : K (shiftA H.length (.agg [pref 0 ns])) (.news (([qblk ns]).map (shiftB H.length)))) : @WCall' Go.Proofs.Try.prog S 17 zs H ⟨K⟩ :=
  WCall_ro' hS hv (laws_toPool_c ns hl) rfl ho hK
/-- A copy of numbers that is made up to a place. -/
def upI (xs : List Int) (j : Nat) : List Int := xs.take j ++ List.replicate (xs.length - j) 0
theorem upI_len (xs : List Int) (j : Nat) (h : j ≤ xs.length) : (upI xs j).length = xs.length := by simp [upI]; omega
theorem upI_zero (xs : List Int) : upI xs 0 = List.replicate xs.length 0 := by simp [upI]
theorem upI_end (xs : List Int) : upI xs xs.length = xs := by simp [upI]
theorem upI_set (ns : List Int) (j : Nat) (h : j < ns.length) : (upI ns j).set j ns[j] = upI ns (j + 1) := by
  have hl : (ns.take j).length = j := by simp; omega
  have e : ns.length - j = (ns.length - (j + 1)) + 1 := by omega
  simp only [upI]
  rw [List.set_append_right _ _ (by omega), hl, Nat.sub_self, e, List.replicate_succ, List.set_cons_zero, List.take_succ_eq_append_getElem h, List.append_assoc]
  rfl
theorem ints_set (xs : List Int) (j : Nat) (n : Int) : (ints xs).set j (i6 n) = ints (xs.set j n) := by simp [ints, List.map_set]
@[simp] theorem ints_tells (H H' : List Blk) (g : List (Option Nat)) (xs : List Int) : Tells H H' g (ints xs) (ints xs) := Tells_scals _ (ints_scals xs)
@[simp] theorem ints_take (xs : List Int) : (ints xs).take xs.length = ints xs := List.take_of_length_le (by simp)
theorem ints_rep (n : Nat) : ints (List.replicate n 0) = List.replicate n (i6 0) := by simp [ints]
theorem laws_toIntS_c (xs : List Int) (hl : xs.length ≤ 4294967296) : T 46 [aI xs] [] (iref 0 xs) ([iblk xs]) := by
  refine semT' (S := S0) hm laws_toIntS_ok (Nat.le_of_ble_eq_true rfl) ?_
  unfold laws_toIntS; dsimp only
  have h1 : ((xs.length : Int)) * 8 ≤ 17592186044416 := by omega
  have h2 : (xs.length : Int) ≤ 4294967296 := by omega
  simp
  refine ck_intro' (by omega) ?_; simp
  rw [← ints_rep, ← upI_zero]
  refine WLoop_fam (fun j : Nat => [(0, aI xs), (3, A.ref 0 0 0 xs.length), (4, i6 j)]) (fun j => [⟨0, false, 1, ints (upI xs j), none⟩]) (fun j => xs.length - j)
    (fun j => j ≤ xs.length) ?_ 0 (Nat.zero_le _)
  intro j hj ih
  simp [upI_len xs j hj]
  refine br_intro' (fun h => ?_) (fun h => ?_) <;> (have h0 := h) <;> (try simp at h) <;> try simp [h0, h]
  · have hw : IntKind.i64.wrap ((j : Int) + 1) = j + 1 := wrap64 (by omega) (by omega)
    have h' := h
    simp [h', upI_len xs j hj]
    refine ck_intro' (by omega) ?_; simp
    rw [hw, ints_set, upI_set xs j h']
    exact ih (j + 1) h' (by omega)
  · have h0 : j = xs.length := by omega
    subst h0
    rw [upI_end]
    first | (refine LeV.tell [none] ?_ ?_ ?_ <;> (simp; done)) | (refine LeV.tell [some 0] ?_ ?_ ?_ <;> (simp; done)) | (refine LeV.tell [some 1] ?_ ?_ ?_ <;> (simp; done)) | (refine LeV.tell [some 2] ?_ ?_ ?_ <;> (simp; done)) | (refine LeV.tell [some 3] ?_ ?_ ?_ <;> (simp; done)) | (refine LeV.tell [some 4] ?_ ?_ ?_ <;> (simp; done)) | (refine LeV.tell [some 5] ?_ ?_ ?_ <;> (simp; done)) | (refine LeV.tell [some 6] ?_ ?_ ?_ <;> (simp; done)) | (refine LeV.tell [some 7] ?_ ?_ ?_ <;> (simp; done)) | (refine LeV.tell [some 8] ?_ ?_ ?_ <;> (simp; done)) | (refine LeV.tell [some 9] ?_ ?_ ?_ <;> (simp; done)) | (refine LeV.tell [some 10] ?_ ?_ ?_ <;> (simp; done)) | (refine LeV.tell [some 11] ?_ ?_ ?_ <;> (simp; done)) | (refine LeV.tell [some 12] ?_ ?_ ?_ <;> (simp; done)) | (refine LeV.tell [some 13] ?_ ?_ ?_ <;> (simp; done)) | (refine LeV.tell [some 14] ?_ ?_ ?_ <;> (simp; done)) | (refine LeV.tell [some 15] ?_ ?_ ?_ <;> (simp; done))
theorem laws_toIntS_k {xs : List Int} (hl : xs.length ≤ 4294967296) {S : FuncId → Bool} {H : List Blk} {K : A → Dl → Prop} {zs : List A} (hS : S 46 = false) (hv : viewL (viewA 8 H) zs = some [aI xs]) (ho : noOwns zs = true ∨ nosl (iref 0 xs) = true ∧ noslBlks ([iblk xs]) = true) (hK : K (shiftA H.length (iref 0 xs)) (.news (([iblk xs]).map (shiftB H.length)))) : @WCall' Go.Proofs.Try.prog S 46 zs H ⟨K⟩ :=
  WCall_ro' hS hv (laws_toIntS_c xs hl) rfl ho hK
theorem laws_eqNodeS_c (ns ms : List Nd) (hl : ns.length < 9223372036854775807) (hl2 : ms.length < 9223372036854775807) : T 64 [.sl ns.length (enc ns), .sl ms.length (enc ms)] [] (.bool (decide (ns = ms))) ([]) := by
  refine semT' (S := S0) hm laws_eqNodeS_ok (Nat.le_of_ble_eq_true rfl) ?_
  unfold laws_eqNodeS; dsimp only
  simp
  refine br_intro' (fun h => ?_) (fun h => ?_) <;> (try simp at h) <;> (try simp [h])
  · refine WLoop_fam (fun j : Nat => [(0, A.sl ns.length (enc ns)), (1, A.sl ms.length (enc ms)), (5, i6 j)]) (fun _ => []) (fun j => ns.length - j)
      (fun j => j ≤ ns.length ∧ ns.take j = ms.take j) ?_ 0 ⟨Nat.zero_le _, by simp⟩
    intro j ⟨hj, hf⟩ ih
    simp
    have hq : ns.length = ms.length := by omega
    refine br_intro' (fun h => ?_) (fun h => ?_) <;> (have h0 := h) <;> (try simp at h) <;> try simp [h0, h]
    · obtain ⟨r, hr⟩ := enc_at h
      have hm : j < ms.length := by omega
      obtain ⟨r2, hr2⟩ := enc_at hm
      have h3 : 3 ≤ ms.length * 3 - j * 3 := by omega
      have h4 : 3 ≤ ns.length * 3 - j * 3 := by omega
      have hw : IntKind.i64.wrap ((j : Int) + 1) = j + 1 := wrap64 (by omega) (by omega)
      have h' := h
      simp [h3, h4, hr, h', hr2, hm]
      refine laws_eqNode_call (n := ns[j]) (m := ms[j]) rfl ?_; simp
      first | (refine ck_intro' (by kernel_rfl) ?_; try simp) | skip
      refine br_intro' (fun g => ?_) (fun g => ?_) <;> simp at g <;> simp [g]
      · rw [hw]
        exact ih (j + 1) ⟨h', by rw [List.take_succ_eq_append_getElem h', List.take_succ_eq_append_getElem hm, hf, g]⟩ (by omega)
      · exact LeV.ro rfl rfl (by simp; intro e; subst e; exact g rfl)
    · have h0 : j = ns.length := by omega
      exact LeV.ro rfl rfl (by rw [h0, List.take_length, hq, List.take_length] at hf; simp [hf])
  · exact LeV.ro rfl rfl (by simp; intro e; rw [e] at h; exact h rfl)
theorem laws_eqNodeS_call {ns ms : List Nd} (hl : ns.length < 9223372036854775807) (hl2 : ms.length < 9223372036854775807) {S : FuncId → Bool} {H : List Blk} {K : A → Dl → Prop} (hS : S 64 = false) (hK : K (.bool (decide (ns = ms))) (.news [])) : @WCall' Go.Proofs.Try.prog S 64 [.sl ns.length (enc ns), .sl ms.length (enc ms)] H ⟨K⟩ :=
  WCall_pure hS (laws_eqNodeS_c ns ms hl hl2) (by simp) (by simp) (by simp) hK
theorem laws_eqNodeS_k {ns ms : List Nd} (hl : ns.length < 9223372036854775807) (hl2 : ms.length < 9223372036854775807) {S : FuncId → Bool} {H : List Blk} {K : A → Dl → Prop} {zs : List A} (hS : S 64 = false) (hv : viewL (viewA 8 H) zs = some [.sl ns.length (enc ns), .sl ms.length (enc ms)]) (ho : noOwns zs = true ∨ nosl (.bool (decide (ns = ms))) = true) (hK : K (.bool (decide (ns = ms))) (.news [])) : @WCall' Go.Proofs.Try.prog S 64 zs H ⟨K⟩ :=
  WCall_pure hS (laws_eqNodeS_c ns ms hl hl2) hv ho (by simp) hK
theorem laws_eqPool_c (ns ms : List Nd) (hl : ns.length < 9223372036854775807) (hl2 : ms.length < 9223372036854775807) : T 21 [aP ns, aP ms] [] (.bool (decide (ns = ms))) ([]) := by
  refine semT' (S := S0) hm laws_eqPool_ok (Nat.le_of_ble_eq_true rfl) ?_
  unfold laws_eqPool; dsimp only
  simp
  refine laws_eqNodeS_call (ns := ns) (ms := ms) hl hl2 rfl ?_; simp
  refine br_intro' (fun g => ?_) (fun g => ?_) <;> simp at g <;> simp [g]
  · exact LeV.ro rfl rfl (by simp)
  · exact LeV.ro rfl rfl (by simp [g])
theorem laws_eqPool_call {ns ms : List Nd} (hl : ns.length < 9223372036854775807) (hl2 : ms.length < 9223372036854775807) {S : FuncId → Bool} {H : List Blk} {K : A → Dl → Prop} (hS : S 21 = false) (hK : K (.bool (decide (ns = ms))) (.news [])) : @WCall' Go.Proofs.Try.prog S 21 [aP ns, aP ms] H ⟨K⟩ :=
  WCall_pure hS (laws_eqPool_c ns ms hl hl2) (by simp) (by simp) (by simp) hK
theorem laws_eqPool_k {ns ms : List Nd} (hl : ns.length < 9223372036854775807) (hl2 : ms.length < 9223372036854775807) {S : FuncId → Bool} {H : List Blk} {K : A → Dl → Prop} {zs : List A} (hS : S 21 = false) (hv : viewL (viewA 8 H) zs = some [aP ns, aP ms]) (ho : noOwns zs = true ∨ nosl (.bool (decide (ns = ms))) = true) (hK : K (.bool (decide (ns = ms))) (.news [])) : @WCall' Go.Proofs.Try.prog S 21 zs H ⟨K⟩ :=
  WCall_pure hS (laws_eqPool_c ns ms hl hl2) hv ho (by simp) hK
theorem laws_eqIntS_c (ns ms : List Int) (hl : ns.length < 9223372036854775807) (hl2 : ms.length < 9223372036854775807) : T 47 [aI ns, aI ms] [] (.bool (decide (ns = ms))) ([]) := by
  refine semT' (S := S0) hm laws_eqIntS_ok (Nat.le_of_ble_eq_true rfl) ?_
  unfold laws_eqIntS; dsimp only
  simp
  refine br_intro' (fun h => ?_) (fun h => ?_) <;> (try simp at h) <;> (try simp [h])
  · refine WLoop_fam (fun j : Nat => [(0, aI ns), (1, aI ms), (5, i6 j)]) (fun _ => []) (fun j => ns.length - j)
      (fun j => j ≤ ns.length ∧ ns.take j = ms.take j) ?_ 0 ⟨Nat.zero_le _, by simp⟩
    intro j ⟨hj, hf⟩ ih
    simp
    have hq : ns.length = ms.length := by omega
    refine br_intro' (fun h => ?_) (fun h => ?_) <;> (have h0 := h) <;> (try simp at h) <;> try simp [h0, h]
    · have hm : j < ms.length := by omega
      have hw : IntKind.i64.wrap ((j : Int) + 1) = j + 1 := wrap64 (by omega) (by omega)
      have h' := h
      simp [h', hm]
      first | (refine ck_intro' (by kernel_rfl) ?_; try simp) | skip
      refine br_intro' (fun g => ?_) (fun g => ?_) <;> simp at g <;> simp [g]
      · rw [hw]
        exact ih (j + 1) ⟨h', by rw [List.take_succ_eq_append_getElem h', List.take_succ_eq_append_getElem hm, hf, g]⟩ (by omega)
      · exact LeV.ro rfl rfl (by simp; intro e; subst e; exact g rfl)
    · have h0 : j = ns.length := by omega
      exact LeV.ro rfl rfl (by rw [h0, List.take_length, hq, List.take_length] at hf; simp [hf])
  · exact LeV.ro rfl rfl (by simp; intro e; rw [e] at h; exact h rfl)
theorem laws_eqIntS_call {ns ms : List Int} (hl : ns.length < 9223372036854775807) (hl2 : ms.length < 9223372036854775807) {S : FuncId → Bool} {H : List Blk} {K : A → Dl → Prop} (hS : S 47 = false) (hK : K (.bool (decide (ns = ms))) (.news [])) : @WCall' Go.Proofs.Try.prog S 47 [aI ns, aI ms] H ⟨K⟩ :=
  WCall_pure hS (laws_eqIntS_c ns ms hl hl2) (by simp) (by simp) (by simp) hK
theorem laws_eqIntS_k {ns ms : List Int} (hl : ns.length < 9223372036854775807) (hl2 : ms.length < 9223372036854775807) {S : FuncId → Bool} {H : List Blk} {K : A → Dl → Prop} {zs : List A} (hS : S 47 = false) (hv : viewL (viewA 8 H) zs = some [aI ns, aI ms]) (ho : noOwns zs = true ∨ nosl (.bool (decide (ns = ms))) = true) (hK : K (.bool (decide (ns = ms))) (.news [])) : @WCall' Go.Proofs.Try.prog S 47 zs H ⟨K⟩ :=
  WCall_pure hS (laws_eqIntS_c ns ms hl hl2) hv ho (by simp) hK
theorem laws_toStream_c (s : St) (hp : s.pool.length ≤ 4294967296) (hk : s.know.length ≤ 4294967296) (ht : s.sent.length ≤ 4294967296) (hg : s.got.length ≤ 4294967296) : T 24 [aS s] [] (.agg [pref 0 s.pool, iref 1 s.know, i6 s.out.key, i6 s.out.epoch, i6 s.out.seq, .bool s.out.over, i6 s.inn.key, i6 s.inn.epoch, i6 s.inn.seq, .bool s.inn.over, iref 2 s.sent, iref 3 s.got]) ([qblk s.pool, iblk s.know, iblk s.sent, iblk s.got]) := by
  refine semT' (S := S0) hm laws_toStream_ok (Nat.le_of_ble_eq_true rfl) ?_
  unfold laws_toStream; dsimp only
  simp
  refine laws_toPool_k (ns := s.pool) hp rfl (by simp) (by simp [noslBlks]) ?_; simp [shiftB]
  refine laws_toIntS_k (xs := s.know) hk rfl (by simp) (by simp [noslBlks]) ?_; simp [shiftB]
  refine laws_toLink_call (l := s.out) rfl ?_; simp
  refine laws_toLink_call (l := s.inn) rfl ?_; simp
  refine laws_toIntS_k (xs := s.sent) ht rfl (by simp) (by simp [noslBlks]) ?_; simp [shiftB]
  refine laws_toIntS_k (xs := s.got) hg rfl (by simp) (by simp [noslBlks]) ?_; simp [shiftB]
  exact LeV.tell [some 3, some 4, some 5, some 6] (by simp) (by simp) (by simp)
theorem laws_toStream_k {s : St} (hp : s.pool.length ≤ 4294967296) (hk : s.know.length ≤ 4294967296) (ht : s.sent.length ≤ 4294967296) (hg : s.got.length ≤ 4294967296) {S : FuncId → Bool} {H : List Blk} {K : A → Dl → Prop} {zs : List A} (hS : S 24 = false) (hv : viewL (viewA 8 H) zs = some [aS s]) (ho : noOwns zs = true ∨ nosl (.agg [pref 0 s.pool, iref 1 s.know, i6 s.out.key, i6 s.out.epoch, i6 s.out.seq, .bool s.out.over, i6 s.inn.key, i6 s.inn.epoch, i6 s.inn.seq, .bool s.inn.over, iref 2 s.sent, iref 3 s.got]) = true ∧ noslBlks ([qblk s.pool, iblk s.know, iblk s.sent, iblk s.got]) = true) (hK : K (shiftA H.length (.agg [pref 0 s.pool, iref 1 s.know, i6 s.out.key, i6 s.out.epoch, i6 s.out.seq, .bool s.out.over, i6 s.inn.key, i6 s.inn.epoch, i6 s.inn.seq, .bool s.inn.over, iref 2 s.sent, iref 3 s.got])) (.news (([qblk s.pool, iblk s.know, iblk s.sent, iblk s.got]).map (shiftB H.length)))) : @WCall' Go.Proofs.Try.prog S 24 zs H ⟨K⟩ :=
  WCall_ro' hS hv (laws_toStream_c s hp hk ht hg) rfl ho hK
theorem szF_neg {x : Int} {n : Nat} : szF x n < 0 ↔ x < n := by unfold szF; split <;> omega
theorem szF_pos {x : Int} {n : Nat} (h : ¬ x < n) : szF x n = x - n := by unfold szF; rw [if_neg (by omega)]
/-- The size of a stream. -/
def szStr (s : St) (x : Int) : Int := if x < s.pool.length + s.know.length + s.sent.length + s.got.length then -1 else x - (s.pool.length + s.know.length + s.sent.length + s.got.length)
theorem laws_szStream_c (s : St) (x : Int) (hs : s.fitA) (h0 : 0 ≤ x) (h1 : x < 9223372036854775808) : T 22 [aS s, i6 x] [] (i6 (szStr s x)) ([]) := by
  refine semT' (S := S0) hm laws_szStream_ok (Nat.le_of_ble_eq_true rfl) ?_
  unfold laws_szStream; dsimp only
  have h2 := hs.p
  have h3 := hs.k
  have h4 := hs.t
  have h5 := hs.g
  simp
  refine laws_szPool_call (ns := s.pool) (x := x) (by omega) h0 h1 rfl ?_; simp
  refine br_intro' (fun g => ?_) (fun g => ?_) <;> simp only [decide_eq_true_eq, decide_eq_false_iff_not, szF_neg] at g <;> simp [szF_neg, g]
  · exact LeV.ro rfl rfl (by simp [szStr]; omega)
  rw [szF_pos g]
  refine laws_szIntS_call (xs := s.know) (x := x - s.pool.length) (by omega) (by omega) (by omega) rfl ?_; simp
  refine br_intro' (fun g1 => ?_) (fun g1 => ?_) <;> simp only [decide_eq_true_eq, decide_eq_false_iff_not, szF_neg] at g1 <;> simp [szF_neg, g1]
  · exact LeV.ro rfl rfl (by simp [szStr]; omega)
  rw [szF_pos g1]
  refine laws_szIntS_call (xs := s.sent) (x := x - s.pool.length - s.know.length) (by omega) (by omega) (by omega) rfl ?_; simp
  refine br_intro' (fun g2 => ?_) (fun g2 => ?_) <;> simp only [decide_eq_true_eq, decide_eq_false_iff_not, szF_neg] at g2 <;> simp [szF_neg, g2]
  · exact LeV.ro rfl rfl (by simp [szStr]; omega)
  rw [szF_pos g2]
  refine laws_szIntS_call (xs := s.got) (x := x - s.pool.length - s.know.length - s.sent.length) (by omega) (by omega) (by omega) rfl ?_; simp
  refine br_intro' (fun g3 => ?_) (fun g3 => ?_) <;> simp only [decide_eq_true_eq, decide_eq_false_iff_not, szF_neg] at g3 <;> simp [szF_neg, g3]
  · exact LeV.ro rfl rfl (by simp [szStr]; omega)
  · exact LeV.ro rfl rfl (by rw [szF_pos g3]; simp [szStr]; rw [if_neg (by omega)]; omega)
theorem laws_szStream_call {s : St} {x : Int} (hs : s.fitA) (h0 : 0 ≤ x) (h1 : x < 9223372036854775808) {S : FuncId → Bool} {H : List Blk} {K : A → Dl → Prop} (hS : S 22 = false) (hK : K (i6 (szStr s x)) (.news [])) : @WCall' Go.Proofs.Try.prog S 22 [aS s, i6 x] H ⟨K⟩ :=
  WCall_pure hS (laws_szStream_c s x hs h0 h1) (by simp) (by simp) (by simp) hK
theorem laws_szStream_k {s : St} {x : Int} (hs : s.fitA) (h0 : 0 ≤ x) (h1 : x < 9223372036854775808) {S : FuncId → Bool} {H : List Blk} {K : A → Dl → Prop} {zs : List A} (hS : S 22 = false) (hv : viewL (viewA 8 H) zs = some [aS s, i6 x]) (ho : noOwns zs = true ∨ nosl (i6 (szStr s x)) = true) (hK : K (i6 (szStr s x)) (.news [])) : @WCall' Go.Proofs.Try.prog S 22 zs H ⟨K⟩ :=
  WCall_pure hS (laws_szStream_c s x hs h0 h1) hv ho (by simp) hK
theorem St_eq {x y : St} : x = y ↔ x.pool = y.pool ∧ x.know = y.know ∧ x.out = y.out ∧ x.inn = y.inn ∧ x.sent = y.sent ∧ x.got = y.got := by cases x; cases y; simp
theorem laws_eqStream_c (s t : St) (hs : s.fit) (ht : t.fit) : T 26 [aS s, aS t] [] (.bool (decide (s.pool = t.pool) && decide (s.know = t.know) && decide (s.out = t.out) && decide (s.inn = t.inn) && decide (s.sent = t.sent) && decide (s.got = t.got))) ([]) := by
  refine semT' (S := S0) hm laws_eqStream_ok (Nat.le_of_ble_eq_true rfl) ?_
  unfold laws_eqStream; dsimp only
  simp
  refine laws_eqPool_call (ns := s.pool) (ms := t.pool) hs.p ht.p rfl ?_; simp
  refine br_intro' (fun g => ?_) (fun g => ?_) <;> (try simp at g) <;> simp [g]
  · refine laws_eqIntS_call (ns := s.know) (ms := t.know) hs.k ht.k rfl ?_; simp
    refine br_intro' (fun g1 => ?_) (fun g1 => ?_) <;> (try simp at g1) <;> simp [g1]
    · refine laws_eqLink_call (n := s.out) (m := t.out) rfl ?_; simp
      refine br_intro' (fun g2 => ?_) (fun g2 => ?_) <;> (try simp at g2) <;> simp [g2]
      · refine laws_eqLink_call (n := s.inn) (m := t.inn) rfl ?_; simp
        refine br_intro' (fun g3 => ?_) (fun g3 => ?_) <;> (try simp at g3) <;> simp [g3]
        · refine laws_eqIntS_call (ns := s.sent) (ms := t.sent) hs.t ht.t rfl ?_; simp
          refine br_intro' (fun g4 => ?_) (fun g4 => ?_) <;> (try simp at g4) <;> simp [g4]
          · refine laws_eqIntS_call (ns := s.got) (ms := t.got) hs.g ht.g rfl ?_; simp
            refine br_intro' (fun g5 => ?_) (fun g5 => ?_) <;> (try simp at g5) <;> simp [g5]
            all_goals exact LeV.ro rfl rfl (by simp [*])
          · exact LeV.ro rfl rfl (by simp [*])
        · exact LeV.ro rfl rfl (by simp [*])
      · exact LeV.ro rfl rfl (by simp [*])
    · exact LeV.ro rfl rfl (by simp [*])
  · exact LeV.ro rfl rfl (by simp [*])
theorem laws_eqStream_call {s t : St} (hs : s.fit) (ht : t.fit) {S : FuncId → Bool} {H : List Blk} {K : A → Dl → Prop} (hS : S 26 = false) (hK : K (.bool (decide (s.pool = t.pool) && decide (s.know = t.know) && decide (s.out = t.out) && decide (s.inn = t.inn) && decide (s.sent = t.sent) && decide (s.got = t.got))) (.news [])) : @WCall' Go.Proofs.Try.prog S 26 [aS s, aS t] H ⟨K⟩ :=
  WCall_pure hS (laws_eqStream_c s t hs ht) (by simp) (by simp) (by simp) hK
theorem laws_eqStream_k {s t : St} (hs : s.fit) (ht : t.fit) {S : FuncId → Bool} {H : List Blk} {K : A → Dl → Prop} {zs : List A} (hS : S 26 = false) (hv : viewL (viewA 8 H) zs = some [aS s, aS t]) (ho : noOwns zs = true ∨ nosl (.bool (decide (s.pool = t.pool) && decide (s.know = t.know) && decide (s.out = t.out) && decide (s.inn = t.inn) && decide (s.sent = t.sent) && decide (s.got = t.got))) = true) (hK : K (.bool (decide (s.pool = t.pool) && decide (s.know = t.know) && decide (s.out = t.out) && decide (s.inn = t.inn) && decide (s.sent = t.sent) && decide (s.got = t.got))) (.news [])) : @WCall' Go.Proofs.Try.prog S 26 zs H ⟨K⟩ :=
  WCall_pure hS (laws_eqStream_c s t hs ht) hv ho (by simp) hK
end Go.Proofs.Ytnbodfakblbmbaa.C

set_option linter.unusedVariables false
set_option linter.unusedSimpArgs false
set_option maxRecDepth 4000
namespace Go.Proofs.Ytnbodfakblbmbaa.C
open Go.Sym Go.Proofs.Ytnbodfakblbmbaa.I
theorem laws_big_c (bs : List Int)  : T 33 [aB bs] [] (.bool (decide (1048576 < bs.length))) ([]) := by
  refine semT' (S := S0) hm laws_big_ok (Nat.le_of_ble_eq_true rfl) ?_
  unfold laws_big; dsimp only
  simp
  exact LeV.ro rfl rfl (by simp; omega)
theorem laws_big_call {bs : List Int}  {S : FuncId → Bool} {H : List Blk} {K : A → Dl → Prop} (hS : S 33 = false) (hK : K (.bool (decide (1048576 < bs.length))) (.news [])) : @WCall' Go.Proofs.Try.prog S 33 [aB bs] H ⟨K⟩ :=
  WCall_pure hS (laws_big_c bs) (by simp) (by simp) (by simp) hK
theorem laws_big_k {bs : List Int}  {S : FuncId → Bool} {H : List Blk} {K : A → Dl → Prop} {zs : List A} (hS : S 33 = false) (hv : viewL (viewA 8 H) zs = some [aB bs]) (ho : noOwns zs = true ∨ nosl (.bool (decide (1048576 < bs.length))) = true) (hK : K (.bool (decide (1048576 < bs.length))) (.news [])) : @WCall' Go.Proofs.Try.prog S 33 zs H ⟨K⟩ :=
  WCall_pure hS (laws_big_c bs) hv ho (by simp) hK
def linkNewF (ns : List Nd) (key : Int) : Lk × Bool := if lkF ns ⟨key, 0, 0, false⟩ = true then (⟨key, 0, 0, false⟩, true) else (⟨0, 0, 0, false⟩, false)
theorem impl_LinkNew_c (ns : List Nd) (key : Int) (hl : ns.length < 9223372036854775807) : T 41 [aP ns, i6 key] [] (.tup [aL (linkNewF ns key).1, .bool (linkNewF ns key).2]) ([]) := by
  refine semT' (S := S0) hm impl_LinkNew_ok (Nat.le_of_ble_eq_true rfl) ?_
  unfold impl_LinkNew; dsimp only
  simp
  refine impl_LinkOk_k (ns := ns) (l := ⟨key, 0, 0, false⟩) hl rfl (by simp) (by simp) ?_; simp
  refine br_intro' (fun g => ?_) (fun g => ?_) <;> simp [g]
  · exact LeV.ro rfl rfl (by simp [linkNewF, g])
  · exact LeV.ro rfl rfl (by simp [linkNewF, g])
theorem impl_LinkNew_call {ns : List Nd} {key : Int} (hl : ns.length < 9223372036854775807) {S : FuncId → Bool} {H : List Blk} {K : A → Dl → Prop} (hS : S 41 = false) (hK : K (.tup [aL (linkNewF ns key).1, .bool (linkNewF ns key).2]) (.news [])) : @WCall' Go.Proofs.Try.prog S 41 [aP ns, i6 key] H ⟨K⟩ :=
  WCall_pure hS (impl_LinkNew_c ns key hl) (by simp) (by simp) (by simp) hK
theorem impl_LinkNew_k {ns : List Nd} {key : Int} (hl : ns.length < 9223372036854775807) {S : FuncId → Bool} {H : List Blk} {K : A → Dl → Prop} {zs : List A} (hS : S 41 = false) (hv : viewL (viewA 8 H) zs = some [aP ns, i6 key]) (ho : noOwns zs = true ∨ nosl (.tup [aL (linkNewF ns key).1, .bool (linkNewF ns key).2]) = true) (hK : K (.tup [aL (linkNewF ns key).1, .bool (linkNewF ns key).2]) (.news [])) : @WCall' Go.Proofs.Try.prog S 41 zs H ⟨K⟩ :=
  WCall_pure hS (impl_LinkNew_c ns key hl) hv ho (by simp) hK
theorem spec_DrawStreamNew_c (bs : List Int) (hb : bs.length < 9223372036854775807) : T 38 [aB bs] [] (.tup [aP (d6 bs).1, aI (d6 bs).2.1, i6 (d6 bs).2.2]) ([]) := by
  refine semT' (S := S0) hm spec_DrawStreamNew_ok (Nat.le_of_ble_eq_true rfl) ?_
  unfold spec_DrawStreamNew; dsimp only
  simp
  refine spec_l6Draw_k (bs := bs) hb rfl (by simp) (by simp [noslBlks]) ?_; simp [shiftB]
  first | (refine ck_intro' (by kernel_rfl) ?_; try simp) | skip
  exact LeV.ro rfl rfl (by simp)
theorem spec_DrawStreamNew_call {bs : List Int} (hb : bs.length < 9223372036854775807) {S : FuncId → Bool} {H : List Blk} {K : A → Dl → Prop} (hS : S 38 = false) (hK : K (.tup [aP (d6 bs).1, aI (d6 bs).2.1, i6 (d6 bs).2.2]) (.news [])) : @WCall' Go.Proofs.Try.prog S 38 [aB bs] H ⟨K⟩ :=
  WCall_pure hS (spec_DrawStreamNew_c bs hb) (by simp) (by simp) (by simp) hK
theorem spec_DrawStreamNew_k {bs : List Int} (hb : bs.length < 9223372036854775807) {S : FuncId → Bool} {H : List Blk} {K : A → Dl → Prop} {zs : List A} (hS : S 38 = false) (hv : viewL (viewA 8 H) zs = some [aB bs]) (ho : noOwns zs = true ∨ nosl (.tup [aP (d6 bs).1, aI (d6 bs).2.1, i6 (d6 bs).2.2]) = true) (hK : K (.tup [aP (d6 bs).1, aI (d6 bs).2.1, i6 (d6 bs).2.2]) (.news [])) : @WCall' Go.Proofs.Try.prog S 38 zs H ⟨K⟩ :=
  WCall_pure hS (spec_DrawStreamNew_c bs hb) hv ho (by simp) hK
theorem laws_FnNewStream_c (bs : List Int) (ha : bs.length < 9223372036854775808) : T 9 [aB bs] [] (.bool true) ([]) := by
  refine semT' (S := S0) hm laws_FnNewStream_ok (Nat.le_of_ble_eq_true rfl) ?_
  unfold laws_FnNewStream; dsimp only
  simp
  refine laws_big_k (bs := bs) rfl (by simp) (by simp) ?_; simp
  refine br_intro' (fun g => ?_) (fun g => ?_) <;> simp only [decide_eq_true_eq, decide_eq_false_iff_not] at g <;> simp [g]
  · exact LeV.ro rfl rfl rfl
  have hb : bs.length < 9223372036854775807 := by omega
  have hl := d6_len bs
  refine spec_DrawStreamNew_k (bs := bs) hb rfl (by simp) (by simp [noslBlks]) ?_; simp [shiftB]
  generalize d6 bs = d at hl ⊢
  obtain ⟨ns, ks, key⟩ := d
  simp only at hl
  have h1 : ns.length ≤ 4294967296 := by omega
  have h2 : ks.length ≤ 4294967296 := by omega
  simp
  refine impl_StreamNew_k (ns := ns) (ks := ks) (key := key) h1 h2 rfl (by simp) (by simp [noslBlks]) ?_; simp [shiftB]
  refine spec_StreamNew_k (ns := ns) (ks := ks) (key := key) h1 h2 rfl (by simp) (by simp [noslBlks]) ?_; simp [shiftB]
  by_cases e : streamF (newS ns ks key) = true
  · rw [show streamNewF ns ks key = (newS ns ks key, true) by simp [streamNewF, e]]
    have hk : lkF ns ⟨key, 0, 0, false⟩ = true := by
      simp [streamF, kpF, newS, lkF] at e ⊢
      simp [e]
    have hs : (newS ns ks key).fit := ⟨by simp [newS]; omega, by simp [newS]; omega, by simp [newS], by simp [newS]⟩
    simp [newS]
    refine impl_LinkNew_k (ns := ns) (key := key) (by omega) rfl (by simp) (by simp [noslBlks]) ?_; simp [shiftB]
    rw [show linkNewF ns key = (⟨key, 0, 0, false⟩, true) by simp [linkNewF, hk]]
    simp
    refine br_intro' (fun g1 => ?_) (fun g1 => ?_) <;> (have g10 := g1) <;> simp only [decide_eq_true_eq, decide_eq_false_iff_not] at g1
    · simp [g10]
      refine laws_sameInts_k (ns := ks) (ms := ks) (by omega) (by omega) rfl (by simp) (by simp) ?_; simp
      refine impl_StreamOk_k (s := newS ns ks key) hs rfl (by simp [newS]) (by simp) ?_; simp
      exact LeV.ro rfl rfl (by simp [e])
    · exact absurd (wrap64 (by omega) (by omega)) g1
  · rw [show streamNewF ns ks key = (noS, false) by simp [streamNewF, e]]
    simp [noS]
    first | (refine ck_intro' (by kernel_rfl) ?_; try simp) | skip
    exact LeV.ro rfl rfl rfl
theorem laws_FnNewStream_call {bs : List Int} (ha : bs.length < 9223372036854775808) {S : FuncId → Bool} {H : List Blk} {K : A → Dl → Prop} (hS : S 9 = false) (hK : K (.bool true) (.news [])) : @WCall' Go.Proofs.Try.prog S 9 [aB bs] H ⟨K⟩ :=
  WCall_pure hS (laws_FnNewStream_c bs ha) (by simp) (by simp) (by simp) hK
theorem laws_FnNewStream_k {bs : List Int} (ha : bs.length < 9223372036854775808) {S : FuncId → Bool} {H : List Blk} {K : A → Dl → Prop} {zs : List A} (hS : S 9 = false) (hv : viewL (viewA 8 H) zs = some [aB bs]) (ho : noOwns zs = true ∨ nosl (.bool true) = true) (hK : K (.bool true) (.news [])) : @WCall' Go.Proofs.Try.prog S 9 zs H ⟨K⟩ :=
  WCall_pure hS (laws_FnNewStream_c bs ha) hv ho (by simp) hK
end Go.Proofs.Ytnbodfakblbmbaa.C
