/- What a comparison of an error with nil does, and what strings and rows of bytes are turned to each other. Conditions: those that each theorem names. -/
import Derived.Test.YtpohfpnlepmebaaXSymV
import Derived.Laws.BytesString
import Derived.Lib.ConvBytes
import Derived.Laws.AppendOwn
set_option linter.unusedVariables false
set_option linter.unusedSimpArgs false
namespace Go.Sym
open Go.RowKit
def isIf (d : Option TypeDesc) : Bool := match d with | some (.interface _) => true | _ => false
def isNilC : Operand → Bool | .const .nilIface => true | _ => false
def byEl (P : Program) (t : TypeId) : Option TypeId := match P.underlying t with
  | some (.slice e) => (match P.underlying e with | some (.int .u8) => some e | _ => none)
  | _ => none
def isSt (d : Option TypeDesc) : Bool := match d with | some .string => true | _ => false
def s2bIs (P : Program) (s t : TypeId) : Bool := isSt (P.underlying s) && (byEl P t).isSome
def b2sIs (P : Program) (s t : TypeId) : Bool := (byEl P s).isSome && isSt (P.underlying t)
theorem isSt.out {d : Option TypeDesc} (h : isSt d = true) : d = some .string := by
  unfold isSt at h
  split at h
  · rfl
  · cases h
theorem byEl.out {P : Program} {t : TypeId} (h : (byEl P t).isSome = true) : ∃ e, P.underlying t = some (.slice e) ∧ P.underlying e = some (.int .u8) := by
  unfold byEl at h
  split at h
  · rename_i e he
    split at h
    · rename_i h2; exact ⟨e, he, h2⟩
    · cases h
  · cases h
theorem eqIn_if {P : Program} (d : Nat) {t : TypeId} (ht : isIf (P.underlying t) = true) {b : Bool} {v : Value} (hv : if b then ∃ t u, v = .iface t u else v = .nilIface) (w : World) : (Op.equalIn (d + 1) t v .nilIface).run P w = .ok (!b) w := by
  unfold isIf at ht
  split at ht
  · rename_i ms hm
    cases b
    · simp at hv; subst hv; simp [Op.equalIn, run_underlying hm]
    · simp at hv; obtain ⟨t', u, rfl⟩ := hv; simp [Op.equalIn, run_underlying hm]
  · cases ht
theorem run_eqGuard_nil {P : Program} (op : BinOp) (t : TypeId) (x : Operand) {b : Bool} {v : Value} (hv : if b then ∃ t u, v = .iface t u else v = .nilIface) (w : World) : (eqGuard op t x (.const .nilIface) v .nilIface).run P w = .ok () w := by
  cases b
  · simp at hv; subst hv
    unfold eqGuard
    cases op <;> simp
  · simp at hv; obtain ⟨t', u, rfl⟩ := hv
    unfold eqGuard
    cases op <;> simp
/-- A row that is let go: its block is marked, and is ours no more. -/
theorem T_frz {c : Cx} (hr : RelH c) {b : Nat} {k : Blk} (hb : c.H b = some k) (hro : k.ro = false) (hmp : k.mp = none)
    {w' : World} (hsame : ∀ q, q ≠ (c.io b).1 → w'.heap[q]? = c.w.heap[q]?) (hsz : w'.heap.size = c.w.heap.size) (ho : w'.os = c.w.os) (ht : w'.tape = c.w.tape) (hu : w'.output = c.w.output)
    {cs : Array Value} {ty : TypeId} {fr : Nat × Nat} (h0 : c.w.heap[(c.io b).1]? = some (.cells cs ty (0, 0))) (h1 : w'.heap[(c.io b).1]? = some (.cells cs ty fr)) :
    RelH (c.aset b ⟨k.v + 1, true, k.esz, [], none⟩ w') ∧ Step c (c.aset b ⟨k.v + 1, true, k.esz, [], none⟩ w') ∧ ∀ ad, w'.cell? ad = c.w.cell? ad := by
  have hcell : ∀ ad : Addr, w'.cell? ad = c.w.cell? ad := fun ad => by
    by_cases e : ad.block = (c.io b).1
    · simp only [World.cell?, e, h0, h1]
    · exact World.cell?_of_block (w := c.w) (hsame _ e)
  have hown : c.Own (c.io b).1 := ⟨b, k, hb, hro, rfl⟩
  have hnew : ∀ d kd, (c.aset b ⟨k.v + 1, true, k.esz, [], none⟩ w').H d = some kd → kd.ro = false → d ≠ b ∧ c.H d = some kd := by
    intro d kd hd h
    by_cases e : d = b
    · subst e
      simp only [Cx.aset, upd_same, Option.some.injEq] at hd
      subst hd
      cases h
    · simp only [Cx.aset, upd_other _ _ e] at hd
      exact ⟨e, hd⟩
  have hS : Step c (c.aset b ⟨k.v + 1, true, k.esz, [], none⟩ w') := by
    refine ⟨ho, ht, hu, by show _ ≤ w'.heap.size; omega, fun q _ hno => hsame q (fun e => hno (e ▸ hown)), ?_, ?_, rfl, fun ad h => by show (w'.cell? ad).isSome = true; rw [hcell]; exact h, ?_⟩
    · rintro q ⟨d, blk, g1, g2, g3⟩
      obtain ⟨_, g4⟩ := hnew d blk g1 g2
      exact .inl ⟨d, blk, g4, g2, g3⟩
    · intro d k0 g0
      by_cases e : d = b
      · subst e
        rw [hb] at g0
        injection g0 with g0
        subst g0
        refine ⟨⟨k.v + 1, true, k.esz, [], none⟩, by simp [Cx.aset, upd_same], Nat.le_succ _, fun e => ?_⟩
        have e : k.v + 1 = k.v := e
        omega
      · exact ⟨k0, by simp [Cx.aset, upd_other _ _ e, g0], Nat.le_refl _, fun _ => ⟨rfl, rfl, rfl⟩⟩
    · intro a es cl ha
      show ∃ es' cl', w'.heap[a]? = _ ∧ _
      by_cases e : a = (c.io b).1
      · subst e
        rw [h0] at ha
        cases ha
      · exact ⟨es, cl, by rw [hsame a e, ha], fun x hx => ⟨x, hx, rfl, rfl⟩⟩
  have hfar : ∀ d kd, c.H d = some kd → kd.ro = false → d ≠ b → w'.heap[(c.io d).1]? = c.w.heap[(c.io d).1]? := fun d kd hd h e => hsame _ (hr.uni b d k kd hb hd hro h (Ne.symm e)).symm
  refine ⟨⟨?_, ?_, ?_, ?_, ?_, ?_, ?_, ?_⟩, hS, hcell⟩
  · intro d kd hd j x hj
    by_cases e : d = b
    · subst e
      simp only [Cx.aset, upd_same, Option.some.injEq] at hd
      subst hd
      simp at hj
    · simp only [Cx.aset, upd_other _ _ e] at hd
      obtain ⟨v, g1, g2⟩ := hr.cell d kd hd j x hj
      exact ⟨v, (hcell _).trans g1, VR.step hS x v g2⟩
  · intro d kd hd hrd
    by_cases e : d = b
    · subst e
      simp only [Cx.aset, upd_same, Option.some.injEq] at hd
      subst hd
      rfl
    · simp only [Cx.aset, upd_other _ _ e] at hd
      exact hr.vz d kd hd hrd
  · intro d kd hd hrd
    obtain ⟨e, hd⟩ := hnew d kd hd hrd
    show (c.io d).1 < w'.heap.size
    have := hr.lt d kd hd hrd
    omega
  · intro d kd hd hrd hm
    obtain ⟨e, hd⟩ := hnew d kd hd hrd
    show ∃ cs ty, w'.heap[(c.io d).1]? = _
    rw [hfar d kd hd hrd e]
    exact hr.fz d kd hd hrd hm
  · intro d kd st l hd hm
    by_cases e : d = b
    · subst e
      simp only [Cx.aset, upd_same, Option.some.injEq] at hd
      subst hd
      cases hm
    · simp only [Cx.aset, upd_other _ _ e] at hd
      obtain ⟨m1, m2, m3⟩ := hr.mz d kd st l hd hm
      refine ⟨m1, m2, ?_⟩
      show ∃ L clock, w'.heap[(c.io d).1]? = _ ∧ _
      rw [hfar d kd hd m1 e]
      exact m3
  · intro d d' kd kd' hd hd' hrd hrd' hne
    obtain ⟨e, hd⟩ := hnew d kd hd hrd
    obtain ⟨e', hd'⟩ := hnew d' kd' hd' hrd'
    exact hr.uni d d' kd kd' hd hd' hrd hrd' hne
  · intro d kd hd hrd
    obtain ⟨e, hd⟩ := hnew d kd hd hrd
    exact hr.nx d kd hd hrd
  · intro q hq
    show q < w'.heap.size
    rw [hsz]
    exact hr.xlt q hq
theorem b8s_vals {c : Cx} : ∀ {xs : List A} {vs : List Value} {bs : List UInt8}, VRs c xs vs → b8s xs = some bs → ∃ ns : List Int, vs = ns.map (Value.int .u8) ∧ bs = ns.map fun n => UInt8.ofNat n.toNat
  | [], vs, bs, h, hb => by
    simp only [VRs] at h
    simp [b8s] at hb
    subst h hb
    exact ⟨[], rfl, rfl⟩
  | x :: xs, vs, bs, h, hb => by
    simp only [VRs] at h
    obtain ⟨v, vs', rfl, h1, h2⟩ := h
    unfold b8s at hb
    split at hb
    · rename_i e; cases e
    · rename_i n xs' e
      cases e
      split at hb
      · rename_i bs' hb'
        cases hb
        obtain ⟨ns, e1, e2⟩ := b8s_vals h2 hb'
        simp only [VR] at h1
        exact ⟨n :: ns, by rw [h1, e1]; rfl, by rw [e2]; rfl⟩
      · cases hb
    · cases hb
theorem fold_push : ∀ (ns : List Int) (s : ByteArray), ns.foldl (fun r n => r.push (UInt8.ofNat n.toNat)) s = ⟨s.data ++ (ns.map fun n => UInt8.ofNat n.toNat).toArray⟩
  | [], s => by simp
  | n :: ns, s => by
    rw [List.foldl_cons, fold_push ns]
    simp [ByteArray.push]
theorem run_str {P : Program} {c : Cx} {n cap : Nat} {cs : List A} {vs : List Value} {ad : Addr} (hs : ad.spot = none) (hrd : reads c.w ad vs) (hv : VRs c cs vs) {bs : List UInt8} (hb : b8s (cs.take n) = some bs) (hl : bs.length = n) :
    (Conv.bytesToString (.slice (some ad) n cap)).run P c.w = .ok (.string ⟨bs.toArray⟩) c.w := by
  obtain ⟨ns, e1, e2⟩ := b8s_vals (hv.take n) hb
  have hlen : ns.length = n := by rw [e2] at hl; simpa using hl
  have := run_loadCells_list (P := P) c.w ad (vs.take n) (fun j v hj => by rw [addr_add hs]; exact (hrd.take n) j v hj)
  rw [e1, List.length_map, hlen] at this
  rw [run_bytesToString c.w ad n cap ns this, fold_push, e2]
  simp
theorem run_str0 {P : Program} (w : World) (a : Option Addr) (cap : Nat) : (Conv.bytesToString (.slice a 0 cap)).run P w = .ok (.string ByteArray.empty) w := by
  cases a with
  | none => simp [Conv.bytesToString]
  | some ad =>
    have := run_loadCells_list (P := P) w ad [] (fun j v hj => by simp at hj)
    rw [run_bytesToString w ad 0 cap [] (by simpa using this)]
    rfl
section
variable {P : Program} {c : Cx} {e : Env} {a : Act} {H : List Blk} (hr : RelH c) (he : EnvRel c e a) (hsub : Sub c H)
include hr he
theorem does_ise {neg : Bool} {op : BinOp} {t : TypeId} {x y : Operand} {x' : Opd} (hop : op = if neg then .neq else .eql) (ht : isIf (P.underlying t) = true) (hx : okO x' x = true) (hy : isNilC y = true) {r : A} {d : Dl}
    (h : stepK (.ise neg x') e H (fun z b => z = r ∧ b = d)) :
    Does P c H.length (do pure (.value (← (do eqGuard op t x y (a.eval x) (a.eval y); binOp op t (a.eval x) (a.eval y))))) r d := by
  have hyc : y = .const .nilIface := by
    unfold isNilC at hy
    split at hy
    · rfl
    · cases hy
  subst hyc
  have hyv : a.eval (.const .nilIface) = .nilIface := rfl
  simp only [stepK] at h
  split at h
  · rename_i b hz
    obtain ⟨rfl, rfl⟩ := h
    have hv := evO he hx hz
    simp only [VR] at hv
    have hq : (Op.equalIn (9999 + 1) t (a.eval x) .nilIface).run P c.w = .ok (!b) c.w := eqIn_if 9999 ht hv c.w
    refine Does.plain hr (v := .bool (if neg then b else !b)) ?_ rfl
    have hrun : (binOp op t (a.eval x) .nilIface).run P c.w = .ok (.bool (if neg then b else !b)) c.w := by
      have hcase : a.eval x = .nilIface ∨ ∃ t u, a.eval x = .iface t u := by
        cases b
        · exact .inl (by simpa using hv)
        · exact .inr (by simpa using hv)
      cases neg
      · simp only [Bool.false_eq_true, if_false] at hop; subst hop
        rcases hcase with e0 | ⟨t', u, e0⟩ <;> rw [e0] at hq ⊢
        · show (do let r ← Op.equalIn (9999 + 1) t _ .nilIface; pure (Value.bool r) : Sem Value).run P c.w = _
          rw [Sem.run_bind, hq]; rfl
        · show (do let r ← Op.equalIn (9999 + 1) t _ .nilIface; pure (Value.bool r) : Sem Value).run P c.w = _
          rw [Sem.run_bind, hq]; rfl
      · simp only [if_true] at hop; subst hop
        rcases hcase with e0 | ⟨t', u, e0⟩ <;> rw [e0] at hq ⊢
        · show (do let r ← Op.equalIn (9999 + 1) t _ .nilIface; pure (Value.bool (!r)) : Sem Value).run P c.w = _
          rw [Sem.run_bind, hq]; cases b <;> rfl
        · show (do let r ← Op.equalIn (9999 + 1) t _ .nilIface; pure (Value.bool (!r)) : Sem Value).run P c.w = _
          rw [Sem.run_bind, hq]; cases b <;> rfl
    rw [hyv, Sem.run_bind, Sem.run_bind, run_eqGuard_nil op t x hv, Result.andThen_ok, hrun]
    rfl
  · exact h.elim
theorem does_s2b {s t : TypeId} (ht : s2bIs P s t = true) {x : Operand} {y : Opd} (hx : okO y x = true) {r : A} {d : Dl} (h : stepK (.s2b y) e H (fun z b => z = r ∧ b = d)) :
    Does P c H.length (do pure (.value (← convert s t (a.eval x)))) r d := by
  simp only [s2bIs, Bool.and_eq_true] at ht
  have hs := isSt.out ht.1
  obtain ⟨el, hd, hel⟩ := byEl.out ht.2
  simp only [stepK] at h
  split at h
  · rename_i str hz
    obtain ⟨hsz, rfl, rfl⟩ := h
    have hv := evO he hx hz
    simp only [VR] at hv
    have hrun := Lib.run_convert_string_bytes (P := P) c.w s t el str hs hd hel
    have hheap : (Lib.bytesWorld c.w el str).heap = c.w.heap.push (.cells (Lib.bytesCells c.w el str) el ((Lib.bytesCells c.w el str).size, (Lib.bytesCells c.w el str).size + 1)) := by
      apply Array.ext_getElem?
      intro i
      rcases Nat.lt_trichotomy i c.w.heap.size with h | h | h
      · rw [Lib.bytesWorld_at_old _ _ _ _ h, Array.getElem?_push, if_neg (by omega)]
      · subst h; rw [Lib.bytesWorld_at_new]; simp
      · rw [Array.getElem?_eq_none (by rw [Lib.bytesWorld_size]; omega), Array.getElem?_eq_none (by simp; omega)]
    obtain ⟨h1, h2⟩ := T_push hr (w' := Lib.bytesWorld c.w el str) hheap rfl rfl rfl
    refine ⟨_, _, .inl (by rw [hv, Sem.run_bind, hrun]; rfl), ?_, h1, h2, rfl⟩
    have hge := grownCap_ge c.w str.size 0 el
    refine ⟨_, _, rfl, hge, ?_⟩
    right
    refine ⟨⟨c.w.heap.size, 0, none⟩, str.data.toList.map fun b => Value.int .u8 b.toNat, rfl, rfl, ?_, ?_, ?_, ?_⟩
    · show c.w.heap.size < (Lib.bytesWorld c.w el str).heap.size
      rw [Lib.bytesWorld_size]; omega
    · rintro (hX | ⟨b, blk, g1, g2, g3⟩)
      · have := hr.xlt _ hX
        simp at this
      · have := hr.lt b blk g1 g2
        have g3 : (c.io b).1 = c.w.heap.size := g3
        omega
    · intro j v hj
      have hjl : j < str.size := by
        have := (List.getElem?_eq_some_iff.1 hj).1
        simpa using this
      have hjl' : j < str.data.toList.length := by simpa using hjl
      show (Lib.bytesWorld c.w el str).cell? ⟨c.w.heap.size, 0 + j, none⟩ = some v
      rw [Nat.zero_add, Lib.bytesWorld_cell _ _ _ _ hjl]
      rw [List.getElem?_map, List.getElem?_eq_getElem hjl'] at hj
      simp only [Option.map_some, Option.some.injEq] at hj
      rw [← hj, List.getD_eq_getElem?_getD, List.getElem?_eq_getElem hjl']
      rfl
    · refine VRs.mk (by simp) fun j x v hx hv => ?_
      rw [List.getElem?_map] at hx hv
      cases hq : str.data.toList[j]? with
      | none => rw [hq] at hx; simp at hx
      | some q =>
        rw [hq] at hx hv
        simp at hx hv
        subst hx hv
        simp [b8, VR]
  · exact h.elim
include hsub in
theorem does_frz {t : TypeId} (ht : (byEl P t).isSome = true) {x : Operand} {y : Opd} (hx : okO y x = true) {r : A} {d : Dl} (h : stepK (.frz y) e H (fun z b => z = r ∧ b = d)) :
    Does P c H.length (do pure (.value (← convert t t (a.eval x)))) r d := by
  obtain ⟨el, hd, hel⟩ := byEl.out ht
  simp only [stepK] at h
  split at h
  · rename_i b ver off n hz
    split at h
    · rename_i k hk
      obtain ⟨h1, h2, ⟨rfl, hn⟩, rfl, rfl⟩ := h
      have hmp := (Blk.own_iff h2).2
      replace h2 := (Blk.own_iff h2).1
      have hv := evO he hx hz
      simp only [VR] at hv
      obtain ⟨k', ao, cap, g1, g2, g4, g5, g3⟩ := hv
      have hck : c.H b = some k := by rcases hsub b k hk with h' | h' <;> simp_all
      rw [hck] at g1
      injection g1 with g1
      subst g1
      rcases g3 h1.symm with g3 | ⟨_, rfl, _⟩
      · omega
      obtain ⟨arr, ty, hblk⟩ := hr.fz b k hck h2 hmp
      obtain ⟨vs, i1, i2⟩ := rowVals hr hck
      have hsh : c.w.shape? (c.io b).1 = some (ty, arr.size) := by
        unfold World.shape?
        rw [hblk]
      have hrun : (convert t t (.slice (some (c.at b 0)) n cap)).run P c.w = .ok (.slice (some (c.at b 0)) n cap) (c.w.freeze ⟨(c.io b).1, arr.size, none⟩ 1) := by
        simp [convert, run_underlying hd, run_underlying hel, markStringish, hsh, Cx.at]
      have hother : ∀ q, q ≠ (c.io b).1 → (c.w.freeze ⟨(c.io b).1, arr.size, none⟩ 1).heap[q]? = c.w.heap[q]? := fun q hq => by
        unfold World.freeze
        rw [if_neg (by decide)]
        simp only [Array.getElem?_modify]
        rw [if_neg (Ne.symm hq)]
      have hthis : (c.w.freeze ⟨(c.io b).1, arr.size, none⟩ 1).heap[(c.io b).1]? = some (.cells arr ty (arr.size, arr.size + 1)) := by
        unfold World.freeze
        rw [if_neg (by decide)]
        simp only [Array.getElem?_modify, if_true, hblk]
        rfl
      have hsz : (c.w.freeze ⟨(c.io b).1, arr.size, none⟩ 1).heap.size = c.w.heap.size := by
        unfold World.freeze
        rw [if_neg (by decide)]
        simp
      obtain ⟨j1, j2, j3⟩ := T_frz hr hck h2 hmp (w' := c.w.freeze ⟨(c.io b).1, arr.size, none⟩ 1) hother hsz rfl rfl rfl hblk hthis
      refine ⟨_, c.aset b ⟨k.v + 1, true, k.esz, [], none⟩ _, .inl (by rw [g4, Sem.run_bind, hrun]; rfl), ?_, j1, j2, ?_⟩
      · refine ⟨_, _, rfl, g5.1, .inr ⟨c.at b 0, vs, rfl, rfl, ?_, ?_, fun j v hj => ?_, VRs.step j2 _ _ i2⟩⟩
        · show (c.io b).1 < (c.w.freeze _ _).heap.size
          rw [hsz]; exact hr.lt b k hck h2
        · rintro (hX | ⟨q, blk, f1, f2, f3⟩)
          · exact hr.nx b k hck h2 hX
          · by_cases e : q = b
            · subst e
              simp only [Cx.aset, upd_same, Option.some.injEq] at f1
              subst f1
              cases f2
            · simp only [Cx.aset, upd_other _ _ e] at f1
              exact hr.uni q b blk k f1 hck f2 h2 e f3
        · show (c.w.freeze _ _).cell? _ = _
          rw [j3]
          exact i1 j v hj
      · rw [← h1]; rfl
    · exact h.elim
  · exact h.elim
theorem does_b2s (hsub : Sub c H) {s t : TypeId} (ht : b2sIs P s t = true) {x : Operand} {y : Opd} (hx : okO y x = true) {r : A} {d : Dl} (h : stepK (.b2s y) e H (fun z b => z = r ∧ b = d)) :
    Does P c H.length (do pure (.value (← convert s t (a.eval x)))) r d := by
  simp only [b2sIs, Bool.and_eq_true] at ht
  have hd := isSt.out ht.2
  obtain ⟨el, hs, hel⟩ := byEl.out ht.1
  have conv : ∀ (a : Option Addr) (l cap : Nat), (convert s t (.slice a l cap)).run P c.w = (Conv.bytesToString (.slice a l cap)).run P c.w := fun a l cap => run_convert_bytes_string c.w s t el a l cap hs hel hd
  have key : ∀ {n cap : Nat} {cs : List A} {ao : Option Addr}, a.eval x = .slice ao n cap → (n = 0 ∨ ∃ ad vs, ao = some ad ∧ ad.spot = none ∧ reads c.w ad vs ∧ VRs c cs vs) → strK n cs (fun z b => z = r ∧ b = d) → Does P c H.length (do pure (.value (← convert s t (a.eval x)))) r d := by
    intro n cap cs ao hv hrow h
    unfold strK at h
    split at h
    · rename_i bs hb
      obtain ⟨hl, rfl, rfl⟩ := h
      refine Does.plain hr (v := .string ⟨bs.toArray⟩) ?_ rfl
      rw [hv, Sem.run_bind, conv]
      rcases hrow with rfl | ⟨ad, vs, rfl, g1, g2, g3⟩
      · have : bs = [] := List.eq_nil_of_length_eq_zero hl
        subst this
        rw [run_str0]
        rfl
      · rw [run_str g1 g2 g3 hb hl]
        rfl
    · exact h.elim
  simp only [stepK] at h
  split at h
  · rename_i n cs hz
    have hv := evO he hx hz
    simp only [VR] at hv
    obtain ⟨ao, cap, g1, gn, g2⟩ := hv
    exact key g1 (g2.imp id fun ⟨ad, vs, q1, q2, q3, q4, q5, q6⟩ => ⟨ad, vs, q1, q2, q5, q6⟩) h
  · rename_i hz
    have hv := evO he hx hz
    simp only [VR] at hv
    obtain ⟨ao, g1⟩ := hv
    obtain ⟨rfl, rfl⟩ := h
    refine Does.plain hr (v := .string ByteArray.empty) ?_ rfl
    rw [g1, Sem.run_bind, conv, run_str0]
    rfl
  · rename_i b v off n hz
    have hv := evO he hx hz
    simp only [VR] at hv
    obtain ⟨k', ao, cap, g1, g2, g3, hn, g4⟩ := hv
    split at h
    · rename_i k hk
      have hck : c.H b = some k := by rcases hsub b k hk with h' | h' <;> simp_all
      rw [hck] at g1
      cases g1
      obtain ⟨vs, i1, i2⟩ := rowVals hr hck
      refine key g3 ?_ h.2
      rcases g4 h.1.symm with g4 | ⟨_, rfl, g5⟩
      · left; omega
      · right
        refine ⟨c.at b off, vs.drop off, rfl, rfl, ?_, i2.drop off⟩
        simpa [Cx.at] using i1.drop off
    · exact h.elim
  · exact h.elim
end
end Go.Sym
