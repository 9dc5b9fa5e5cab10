/- What drawing terms, nodes and pools answers. Conditions: those that each theorem names. -/
import Derived.Test.YtnbodfakblbmbaaXD1
set_option linter.unusedVariables false
set_option linter.unusedSimpArgs false
namespace Go.Proofs.Ytnbodfakblbmbaa.C
open Go.Sym Go.Proofs.Ytnbodfakblbmbaa.I
theorem cur_closed {H : List Blk} {cb : Nat} (bs : List Int) (s : Cu) {n : Nat} (h : Closed1 n H = true) : Closed1 n (cur H cb bs s) = true := Closed1_set (by simp [inAs, inA, inAs_scals _ (bytes_scals bs)]) _ _ h
theorem cur_lt {H T : List Blk} {cb : Nat} (bs : List Int) (s : Cu) (hc : cb < H.length) : cb < (cur H cb bs s ++ T).length := by simp; omega
theorem cur_mid {H T : List Blk} {cb : Nat} {bs : List Int} {s s' : Cu} (hc : cb < H.length) : cur (cur H cb bs s ++ T) cb bs s' = cur H cb bs s' ++ T := by rw [cur_app (by simpa using hc), cur_cur]
/-- A call that moves the cursor, over rows of its caller's own. -/
theorem cur_call' {f : FuncId} {S : FuncId → Bool} {H T : List Blk} {K : A → Dl → Prop} (hS : S f = true) (cb : Nat) (bs : List Int) (s s' : Cu) {zs : List A} {r : A} (hc : cb < H.length)
    (hf : SemT Go.Proofs.Try.prog f zs (cur (cur H cb bs s ++ T) cb bs s) r (cur (cur H cb bs s ++ T) cb bs s')) (hK : K r (.full [cb] (cur H cb bs s' ++ T))) : @WCall' Go.Proofs.Try.prog S f zs (cur H cb bs s ++ T) ⟨K⟩ :=
  cur_call hS cb bs s s' (cur_mid hc) hf (by rw [cur_mid hc]; exact hK)
theorem LeV.trans {B : Nat} {r r' r'' : A} {H H' H'' : List Blk} (h : LeV B r H r' H') (g : LeV B r' H' r'' H'') : LeV B r H r'' H'' := by
  intro c0 c hB hr hH hs
  obtain ⟨c1, w1, h1, r1, s1, v1⟩ := h c0 c hB hr hH hs
  obtain ⟨c2, w2, h2, r2, s2, v2⟩ := g c0 c1 hB r1 h1 s1
  exact ⟨c2, w2.trans w1, h2, r2, s2, fun v hv => v2 v (v1 v hv)⟩
theorem LeV.nilsl (B : Nat) (H : List Blk) : LeV B (.agg [.nil]) H (.agg [.sl 0 []]) H := by
  intro c0 c hB hr hH hs
  refine ⟨c, rfl, hH, hr, hs, fun v hv => ?_⟩
  simp only [VR, VRs] at hv ⊢
  obtain ⟨vs, rfl, u, us, e, ⟨a, rfl⟩, rfl⟩ := hv
  exact ⟨_, rfl, _, _, e, ⟨a, 0, rfl, Nat.le_refl _, .inl trivial⟩, rfl⟩
/-- A slice over a row at the end, told as one that is only read, its row left out. -/
theorem VR_frz {c : Cx} {H1 T : List Blk} (hr : RelH c) (hH : c.H = fun b => (H1 ++ T)[b]?) {b m : Nat} {k : Blk} (hb : H1.length ≤ b) (hk : (H1 ++ T)[b]? = some k) (hsc : scals k.cs = true) (hm : m * k.esz ≤ k.cs.length) {v : Value} (h : VR c (.ref b k.v 0 m) v) :
    VR (c.cut H1.length) (.sl m (k.cs.take (m * k.esz))) v := by
  simp only [VR] at h ⊢
  obtain ⟨k', a, cap, g1, g2, rfl, gn, g4⟩ := h
  rw [hH] at g1
  simp only [hk, Option.some.injEq] at g1
  subst g1
  have hck : c.H b = some k := by rw [hH]; exact hk
  refine ⟨a, cap, rfl, gn, ?_⟩
  rcases g4 rfl with g4 | ⟨g0, rfl, g5⟩
  · left; omega
  · right
    obtain ⟨vs, i1, i2⟩ := rowVals hr hck
    refine ⟨c.at b 0, vs.take (m * k.esz), rfl, rfl, hr.lt b k hck g0, ?_, ?_, VRs.cut _ _ (inAs_scals _ (scals_take _ _ hsc)) (i2.take _)⟩
    · rintro (hx | ⟨d, kd, h1, h2, h3⟩)
      · exact hr.nx b k hck g0 hx
      · simp only [Cx.cut] at h1 h3
        split at h1
        · exact hr.uni d b kd k h1 hck h2 g0 (by omega) h3
        · cases h1
    · intro j u hj
      have := (i1.take (m * k.esz)) j u hj
      show c.w.cell? _ = some u
      simpa [Cx.at] using this
theorem LeV.frz {B : Nat} {H1 T : List Blk} (hlen : B ≤ H1.length) (hcl : Closed1 H1.length H1 = true) {b m : Nat} {k : Blk} (hb : H1.length ≤ b) (hk : (H1 ++ T)[b]? = some k) (hsc : scals k.cs = true) (hm : m * k.esz ≤ k.cs.length) :
    LeV B (.ref b k.v 0 m) (H1 ++ T) (.sl m (k.cs.take (m * k.esz))) H1 := by
  intro c0 c hB hr hH hs
  obtain ⟨h1, h2, h3⟩ := T_cut hB hr hH hs hlen hcl
  exact ⟨c.cut H1.length, rfl, h1, h2, h3, fun v hv => VR_frz hr hH hb hk hsc hm hv⟩
theorem LeV.frzA {B : Nat} {H1 T : List Blk} (hlen : B ≤ H1.length) (hcl : Closed1 H1.length H1 = true) {b m : Nat} {k : Blk} (hb : H1.length ≤ b) (hk : (H1 ++ T)[b]? = some k) (hsc : scals k.cs = true) (hm : m * k.esz ≤ k.cs.length) :
    LeV B (.agg [.ref b k.v 0 m]) (H1 ++ T) (.agg [.sl m (k.cs.take (m * k.esz))]) H1 := by
  intro c0 c hB hr hH hs
  obtain ⟨h1, h2, h3⟩ := T_cut hB hr hH hs hlen hcl
  refine ⟨c.cut H1.length, rfl, h1, h2, h3, fun v hv => ?_⟩
  rw [VR] at hv ⊢
  obtain ⟨vs, e1, hv⟩ := hv
  refine ⟨vs, e1, ?_⟩
  rw [VRs] at hv ⊢
  obtain ⟨u, us, e2, g1, g2⟩ := hv
  exact ⟨u, us, e2, VR_frz hr hH hb hk hsc hm g1, by simpa [VRs] using g2⟩
def names13 : List Int := [0, 1, 5, 6, 50, 51, 62, 90, 91, 100, 101, 102, 199]
def termF (bs : List Int) (s : Cu) (m : Nat) : Int × Cu :=
  if (onceF bs s 25).1 then pickF bs (onceF bs s 25).2 [-1, m] else drawF bs (onceF bs s 25).2 (max m 1)
theorem spec_l1DrawTerm_m (H : List Blk) (cb : Nat) (bs : List Int) (s : Cu) (ns : List Nd) (hc : cb < H.length) (hb : bs.length < 9223372036854775807) (hcl : Closed1 H.length H = true) (hl : ns.length < 9223372036854775807) : T 119 [.ptr cb 0 0, aP ns] (cur H cb bs s) (i6 (termF bs s ns.length).1) (cur H cb bs (termF bs s ns.length).2) := by
  refine semT' (S := (fun f => [123, 94, 91, 120, 134].contains f)) hm spec_l1DrawTerm_ok (Nat.le_of_ble_eq_true rfl) ?_
  unfold spec_l1DrawTerm; dsimp only
  simp
  refine cur_call' rfl cb bs s (onceF bs s 25).2 hc (spec_l1Once_m _ cb bs s 25 (cur_lt _ _ hc) hb) ?_; simp
  refine br_intro' (fun g => ?_) (fun g => ?_) <;> simp [g]
  · rw [show termF bs s ns.length = pickF bs (onceF bs s 25).2 [-1, ns.length] from if_pos g]
    refine cur_call' rfl cb bs (onceF bs s 25).2 (pickF bs (onceF bs s 25).2 [-1, ns.length]).2 hc (spec_l1PickInt_m _ cb bs _ (H.length + 1) 0 [-1, ns.length] (cur_lt _ _ hc) hb (by simp) (by simp) (by simp [ints]) (by omega)) ?_; simp
    exact LeV.drop (by simp) (by simpa using cur_closed _ _ hcl) (by simp)
  · rw [show termF bs s ns.length = drawF bs (onceF bs s 25).2 (max ns.length 1) from if_neg (by simp [g])]
    refine spec_l1Max_call (a := ns.length) (b := 1) rfl ?_; simp
    refine cur_call' rfl cb bs (onceF bs s 25).2 (drawF bs (onceF bs s 25).2 (max ns.length 1)).2 hc (spec_l1Draw_m _ cb bs _ (max ns.length 1) (cur_lt _ _ hc) hb ⟨by omega, by omega⟩) ?_; simp
    exact LeV.drop (by simp) (by simpa using cur_closed _ _ hcl) (by simp)
def nodeF (bs : List Int) (s : Cu) (many : Int) : Nd × Cu :=
  if many = 0 then (⟨1, (pickF bs s names13).1, 0⟩, (pickF bs s names13).2)
  else if (onceF bs s 4).1 then (⟨1, (pickF bs (onceF bs s 4).2 names13).1, 0⟩, (pickF bs (onceF bs s 4).2 names13).2)
  else
    if partsF (2 + (drawF bs (onceF bs s 4).2 7).1) = 2 then
      (⟨2 + (drawF bs (onceF bs s 4).2 7).1, (drawF bs (drawF bs (onceF bs s 4).2 7).2 many).1, (drawF bs (drawF bs (drawF bs (onceF bs s 4).2 7).2 many).2 many).1⟩, (drawF bs (drawF bs (drawF bs (onceF bs s 4).2 7).2 many).2 many).2)
    else (⟨2 + (drawF bs (onceF bs s 4).2 7).1, (drawF bs (drawF bs (onceF bs s 4).2 7).2 many).1, 0⟩, (drawF bs (drawF bs (onceF bs s 4).2 7).2 many).2)
theorem spec_l1DrawNode_m (H : List Blk) (cb : Nat) (bs : List Int) (s : Cu) (many : Int) (hc : cb < H.length) (hb : bs.length < 9223372036854775807) (hcl : Closed1 H.length H = true) (hn : In64' many) : T 133 [.ptr cb 0 0, i6 many] (cur H cb bs s) (aN (nodeF bs s many).1) (cur H cb bs (nodeF bs s many).2) := by
  refine semT' (S := (fun f => [123, 94, 91, 120, 134].contains f)) hm spec_l1DrawNode_ok (Nat.le_of_ble_eq_true rfl) ?_
  unfold spec_l1DrawNode; dsimp only
  by_cases h0 : many = 0
  · subst h0
    simp
    rw [show nodeF bs s 0 = (⟨1, (pickF bs s names13).1, 0⟩, (pickF bs s names13).2) from if_pos rfl]
    refine cur_call' rfl cb bs s (pickF bs s names13).2 hc (spec_l1PickInt_m _ cb bs _ (H.length + 1) 0 names13 (cur_lt _ _ hc) hb (by simp [names13]) (by simp [names13]) (by simp [ints, names13]) (by omega)) ?_; simp
    exact LeV.drop (by simp) (by simpa using cur_closed _ _ hcl) (by simp)
  simp [h0]
  refine cur_call' rfl cb bs s (onceF bs s 4).2 hc (spec_l1Once_m _ cb bs s 4 (cur_lt _ _ hc) hb) ?_; simp
  have en : nodeF bs s many = if (onceF bs s 4).1 then (⟨1, (pickF bs (onceF bs s 4).2 names13).1, 0⟩, (pickF bs (onceF bs s 4).2 names13).2)
    else
      if partsF (2 + (drawF bs (onceF bs s 4).2 7).1) = 2 then
        (⟨2 + (drawF bs (onceF bs s 4).2 7).1, (drawF bs (drawF bs (onceF bs s 4).2 7).2 many).1, (drawF bs (drawF bs (drawF bs (onceF bs s 4).2 7).2 many).2 many).1⟩, (drawF bs (drawF bs (drawF bs (onceF bs s 4).2 7).2 many).2 many).2)
      else (⟨2 + (drawF bs (onceF bs s 4).2 7).1, (drawF bs (drawF bs (onceF bs s 4).2 7).2 many).1, 0⟩, (drawF bs (drawF bs (onceF bs s 4).2 7).2 many).2) := if_neg h0
  rw [en]
  generalize onceF bs s 4 = o
  refine br_intro' (fun g => ?_) (fun g => ?_) <;> simp [g]
  · refine cur_call' rfl cb bs o.2 (pickF bs o.2 names13).2 hc (spec_l1PickInt_m _ cb bs _ (H.length + 1) 0 names13 (cur_lt _ _ hc) hb (by simp [names13]) (by simp [names13]) (by simp [ints, names13]) (by omega)) ?_; simp
    simp [g]
    exact LeV.drop (by simp) (by simpa using cur_closed _ _ hcl) (by simp)
  refine cur_call' rfl cb bs o.2 (drawF bs o.2 7).2 hc (spec_l1Draw_m _ cb bs _ 7 (cur_lt _ _ hc) hb ⟨by omega, by omega⟩) ?_; simp
  have d7 := drawF_in bs o.2 7
  have d7' := d7.2.1 (by omega)
  generalize drawF bs o.2 7 = k at d7 d7' ⊢
  have wk : IntKind.i64.wrap (2 + k.1) = 2 + k.1 := wrap64 (by omega) (by omega)
  refine cur_call' rfl cb bs k.2 (drawF bs k.2 many).2 hc (spec_l1Draw_m _ cb bs _ many (cur_lt _ _ hc) hb hn) ?_; simp
  generalize drawF bs k.2 many = a
  rw [wk]
  refine spec_l1Parts_call rfl ?_; simp
  refine br_intro' (fun f => ?_) (fun f => ?_) <;> simp at f <;> simp [f]
  · refine cur_call' rfl cb bs a.2 (drawF bs a.2 many).2 hc (spec_l1Draw_m _ cb bs _ many (cur_lt _ _ hc) hb hn) ?_; simp
    simp [g, f]
    exact LeV.drop (by simp) (by simpa using cur_closed _ _ hcl) (by simp)
  · simp [g, f]
    exact LeV.drop (by simp) (by simpa using cur_closed _ _ hcl) (by simp)
/-- A pool that is drawn: so many nodes added in turn. -/
def poolGo (bs : List Int) : Nat → List Nd → Cu → List Nd × Cu
  | 0, ns, s => (ns, s)
  | n + 1, ns, s => poolGo bs n (addF ns (nodeF bs s ns.length).1).1 (nodeF bs s ns.length).2
def poolD (bs : List Int) (s : Cu) (most : Int) : List Nd × Cu := poolGo bs (belowF bs s (most + 1)).1.toNat [] (belowF bs s (most + 1)).2
theorem poolGo_ok (bs : List Int) : ∀ (n : Nat) (ns : List Nd) (s : Cu), poolF ns = true → poolF (poolGo bs n ns s).1 = true
  | 0, ns, s, h => h
  | n + 1, ns, s, h => poolGo_ok bs n _ _ (addF_pool _ h)
theorem poolF_nil : poolF [] = true := by simp [poolF, okFrom]
theorem poolD_ok (bs : List Int) (s : Cu) (most : Int) : poolF (poolD bs s most).1 = true := poolGo_ok bs _ _ _ poolF_nil
theorem spec_l1DrawPool_m (H : List Blk) (cb : Nat) (bs : List Int) (s : Cu) (most : Int) (hc : cb < H.length) (hb : bs.length < 9223372036854775807) (hcl : Closed1 H.length H = true) (h0 : 0 ≤ most) (h1 : most < 1000) : T 132 [.ptr cb 0 0, i6 most] (cur H cb bs s) (aP (poolD bs s most).1) (cur H cb bs (poolD bs s most).2) := by
  refine semT' (S := (fun f => [123, 94, 91, 120, 134, 133].contains f)) hm spec_l1DrawPool_ok (Nat.le_of_ble_eq_true rfl) ?_
  unfold spec_l1DrawPool; dsimp only
  have hw : IntKind.i64.wrap (most + 1) = most + 1 := wrap64 (by omega) (by omega)
  simp
  rw [hw]
  have hi := belowF_in bs s (most + 1)
  have hi2 := hi.2.1 (by omega)
  refine cur_call' rfl cb bs s (belowF bs s (most + 1)).2 hc (spec_l1Below_m _ cb bs s (most + 1) (cur_lt _ _ hc) hb) ?_; simp
  have e : poolD bs s most = poolGo bs (belowF bs s (most + 1)).1.toNat [] (belowF bs s (most + 1)).2 := rfl
  rw [e]
  generalize belowF bs s (most + 1) = t at hi hi2 ⊢
  obtain ⟨n, hn⟩ : ∃ n : Nat, t.1 = n := ⟨t.1.toNat, by omega⟩
  rw [hn]
  refine WLoop_fam (fun p : Nat × List Nd × Cu × Bool => [(0, A.ptr cb 0 0), (4, A.ptr H.length 0 0), (5, A.ptr (H.length + 1) 0 0), (6, i6 n), (7, i6 p.1)])
    (fun p => cur H cb bs p.2.2.1 ++ [⟨0, false, 1, [A.nil], none⟩, ⟨0, false, 1, [if p.2.2.2 then A.nil else .sl p.2.1.length (enc p.2.1)], none⟩]) (fun p => n - p.1)
    (fun p => p.1 ≤ n ∧ (p.2.2.2 = true → p.2.1 = []) ∧ poolF p.2.1 = true ∧ poolGo bs n [] t.2 = poolGo bs (n - p.1) p.2.1 p.2.2.1) ?_ (0, [], t.2, true) ⟨Nat.zero_le _, fun _ => rfl, poolF_nil, rfl⟩
  rintro ⟨j, ns, s1, b⟩ ⟨hj, hbn, hp, hgo⟩ ih
  simp only at hj hbn hp hgo
  have hl := poolF_len hp
  have hne : cb ≠ H.length + 1 := by omega
  have hne' : cb ≠ H.length := by omega
  have hcl2 : ∀ x : A, inA (H.length + 2) x = true → Closed1 (cur H cb bs s1 ++ ([⟨0, false, 1, [A.nil], none⟩, ⟨0, false, 1, [x], none⟩] : List Blk)).length (cur H cb bs s1 ++ ([⟨0, false, 1, [A.nil], none⟩, ⟨0, false, 1, [x], none⟩] : List Blk)) = true := fun x hx =>
    Closed1_more (by simpa using cur_closed bs s1 hcl) (by simpa using hx)
  have fin : ¬ (j : Int) < n → poolGo bs n [] t.2 = (ns, s1) := fun h => by
    have : n - j = 0 := by omega
    rw [hgo, this]; rfl
  have nxt : j < n → poolGo bs n [] t.2 = poolGo bs (n - (j + 1)) (addF ns (nodeF bs s1 ns.length).1).1 (nodeF bs s1 ns.length).2 := fun h => by
    have : n - j = (n - (j + 1)) + 1 := by omega
    rw [hgo, this]; rfl
  cases b
  · simp
    refine br_intro' (fun h => ?_) (fun h => ?_) <;> (have h0 := h) <;> (try simp at h) <;> try simp [h0, h]
    · have h' := h
      have hwj : IntKind.i64.wrap ((j : Int) + 1) = j + 1 := wrap64 (by omega) (by omega)
      refine cur_call' rfl cb bs s1 (nodeF bs s1 ns.length).2 hc (spec_l1DrawNode_m _ cb bs s1 ns.length (cur_lt _ _ hc) hb (hcl2 _ (by simp)) ⟨by omega, by omega⟩) ?_
      simp
      refine spec_l1Add_k (ns := ns) (n := (nodeF bs s1 ns.length).1) hp rfl (by simp) (by simp) ?_; simp
      refine ck_intro' (regOk_ren (fun n => if n = cb then 0 else 1) (by simp [hne, hne', hne.symm, hne'.symm]; kernel_rfl)) ?_; simp
      rw [hwj]
      exact ih (j + 1, (addF ns (nodeF bs s1 ns.length).1).1, (nodeF bs s1 ns.length).2, false) ⟨h', by simp, addF_pool _ hp, nxt h'⟩ (by simp; omega)
    · rw [fin (by omega)]
      exact LeV.drop (by simp) (by simpa using cur_closed _ _ hcl) (by simp)
  · obtain rfl := hbn rfl
    simp
    refine br_intro' (fun h => ?_) (fun h => ?_) <;> (have h0 := h) <;> (try simp at h) <;> try simp [h0, h]
    · have h' := h
      have hwj : IntKind.i64.wrap ((j : Int) + 1) = j + 1 := wrap64 (by omega) (by omega)
      refine cur_call' rfl cb bs s1 (nodeF bs s1 0).2 hc (spec_l1DrawNode_m _ cb bs s1 0 (cur_lt _ _ hc) hb (hcl2 _ (by simp)) ⟨by omega, by omega⟩) ?_
      simp
      refine spec_l1Add_k (ns := []) (n := (nodeF bs s1 0).1) hp rfl (by simp) (by simp) ?_; simp
      refine ck_intro' (regOk_ren (fun n => if n = cb then 0 else 1) (by simp [hne, hne', hne.symm, hne'.symm]; kernel_rfl)) ?_; simp
      rw [hwj]
      exact ih (j + 1, (addF [] (nodeF bs s1 0).1).1, (nodeF bs s1 0).2, false) ⟨h', by simp, addF_pool _ hp, nxt h'⟩ (by simp; omega)
    · rw [fin (by omega)]
      exact LeV.trans (LeV.nilsl _ _) (LeV.drop (by simp) (by simpa using cur_closed _ _ hcl) (by simp))
end Go.Proofs.Ytnbodfakblbmbaa.C
