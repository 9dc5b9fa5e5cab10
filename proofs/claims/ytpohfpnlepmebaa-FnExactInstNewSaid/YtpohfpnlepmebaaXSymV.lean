/- What the operations of a map of counts do. Conditions: those that each theorem names. -/
import Derived.Test.YtpohfpnlepmebaaXSymI
import Derived.MapKept
import Derived.ChangeMaps5
import Derived.Carry
set_option linter.unusedVariables false
set_option linter.unusedSimpArgs false
namespace Go.Sym
open Go.RowKit
open Go.ChangeMaps (setBlock heap_setBlock_same heap_setBlock_other)

def isI64 (d : Option TypeDesc) : Bool := match d with | some (.int k) => decide (k = .i64) | _ => false
def keyIs (P : Program) (st : Bool) (kt : TypeId) : Bool := if st then eqsIs P kt [1, 1, 1] && (P.fieldsOf kt).toList.all (fun f => isI64 (P.underlying f.type)) else isI64 (P.underlying kt)
def mapIs (P : Program) (st : Bool) (t : TypeId) : Bool :=
  match P.underlying t with
  | some (.map kt et) => keyIs P st kt && (match P.info? et with
    | some i => (match i.zero with | some (.int .i64 n) => decide (n = 0) | _ => false)
    | none => false)
  | _ => false

theorem keyOf_ok {c : Cx} {st : Bool} {x : A} {ks : List Int} (h : keyOf st x = some ks) {v : Value} (hv : VR c x v) : v = keyV st ks ∧ ks.length = klen st := by
  unfold keyOf at h
  split at h
  · cases h; simp only [VR] at hv; exact ⟨hv, rfl⟩
  · cases h
    simp only [VR, VRs] at hv
    obtain ⟨vs, rfl, _, _, e1, rfl, _, _, e2, rfl, _, _, e3, rfl, rfl⟩ := hv
    refine ⟨?_, rfl⟩
    subst e2; subst e3
    simp only [keyV, if_true, List.map_cons, List.map_nil]
    congr 1
    exact Array.toList_inj.1 e1
  · cases h

abbrev LE := List (List Int × Int × Nat)
structure KeyOk (P : Program) (st : Bool) (kt : TypeId) : Prop where
  find : ∀ (w : World) (n : List Int) (l : LE), n.length = klen st → (∀ p ∈ l, p.1.length = klen st) →
    (Instr.findKey kt (keyV st n) (l.map (entV st))).run P w = .ok ((lfind l n 0).map fun p => (p.1, .int .i64 p.2)) w
  check : ∀ (w : World) (em : Bool) (n : List Int), n.length = klen st → (Instr.checkKey em 10000 kt (keyV st n)).run P w = .ok () w
  stays : ∀ (w : World) (n : List Int), n.length = klen st → (Instr.keyThatStays (keyV st n) (keyV st n)).run P w = .ok (keyV st n) w

theorem len3 {n : List Int} (h : n.length = klen true) : ∃ a b c, n = [a, b, c] := by
  match n, h with
  | [a, b, c], _ => exact ⟨a, b, c, rfl⟩
theorem len1 {n : List Int} (h : n.length = klen false) : ∃ a, n = [a] := by
  match n, h with
  | [a], _ => exact ⟨a, rfl⟩

theorem findNow_int {k : IntKind} (hk : k = .i64) (n : List Int) (hn : n.length = klen false) : ∀ (l : LE) (i : Nat), (∀ p ∈ l, p.1.length = klen false) →
    Instr.findNow (.int k) (keyV false n) (l.map (entV false)) i = some ((lfind l n i).map fun p => (p.1, .int .i64 p.2))
  | [], i, _ => rfl
  | x :: r, i, h => by
    obtain ⟨a, rfl⟩ := len1 hn
    obtain ⟨b, hb⟩ := len1 (h x (by simp))
    obtain ⟨q, cnt, s⟩ := x
    simp only at hb
    subst hb
    simp only [List.map_cons, entV, lfind, keyV, Bool.false_eq_true, if_false, List.headD_cons]
    unfold Instr.findNow
    simp only [Instr.sameNow, if_true]
    by_cases e : a = b
    · subst e; simp
    · have : (a == b) = false := by simpa using e
      have e' : ¬ [a] = [b] := by simpa using e
      simp only [this, e', if_false]
      have := findNow_int hk [a] hn r (i + 1) (fun p hp => h p (by simp [hp]))
      simpa [keyV] using this

theorem findAsking_key {P : Program} {st : Bool} {kt : TypeId} (heq : ∀ (w : World) (a b : List Int), a.length = klen st → b.length = klen st → (Op.equal kt (keyV st a) (keyV st b)).run P w = .ok (decide (a = b)) w) (w : World) (n : List Int) (hn : n.length = klen st) :
    ∀ (l : LE) (i : Nat), (∀ p ∈ l, p.1.length = klen st) → (Instr.findAsking kt (keyV st n) (l.map (entV st)) i).run P w = .ok ((lfind l n i).map fun p => (p.1, .int .i64 p.2)) w
  | [], i, _ => by simp [Instr.findAsking, lfind]
  | x :: r, i, h => by
    rw [List.map_cons, Instr.findAsking]
    simp only [entV, Sem.run_bind, heq w n x.1 hn (h x (by simp)), Result.andThen_ok, lfind]
    by_cases e : n = x.1
    · simp [e]
    · simp only [e, decide_false, Bool.false_eq_true, if_false]
      exact findAsking_key heq w n hn r (i + 1) (fun p hp => h p (by simp [hp]))

theorem keyOk {P : Program} {st : Bool} {kt : TypeId} (h : keyIs P st kt = true) : KeyOk P st kt := by
  cases st with
  | false =>
    simp only [keyIs, Bool.false_eq_true, if_false, isI64] at h
    split at h
    · rename_i k hu
      have hk : k = .i64 := by simpa using h
      refine ⟨fun w n l hn hl => ?_, fun w em n hn => ?_, fun w n hn => ?_⟩
      · unfold Instr.findKey
        simp only [Sem.run_bind, run_underlying hu, Result.andThen_ok, findNow_int hk n hn l 0 hl]
        simp
      · obtain ⟨a, rfl⟩ := len1 hn
        unfold Instr.checkKey
        simp [run_underlying hu, keyV]
      · obtain ⟨a, rfl⟩ := len1 hn
        unfold Instr.keyThatStays Instr.sameBits
        simp [keyV]
    · cases h
  | true =>
    simp only [keyIs, if_true, Bool.and_eq_true] at h
    obtain ⟨ht, hall⟩ := h
    have ht0 := ht
    unfold eqsIs at ht
    split at ht
    · rename_i fs hu
      simp at ht
      obtain ⟨⟨hp, hst⟩, hg⟩ := ht
      have hu' : P.underlying kt = some (.struct (P.fieldsOf kt)) := by simp [Program.fieldsOf, hu]
      have hfs : P.fieldsOf kt = fs := by simp [Program.fieldsOf, hu]
      have heq : ∀ (w : World) (a b : List Int), a.length = klen true → b.length = klen true → (Op.equal kt (keyV true a) (keyV true b)).run P w = .ok (decide (a = b)) w := by
        intro w a b ha hb
        obtain ⟨a1, a2, a3, rfl⟩ := len3 ha
        obtain ⟨b1, b2, b3, rfl⟩ := len3 hb
        let c : Cx := ⟨fun _ => none, fun _ => (0, 0), w, fun _ => False⟩
        have hq := run_eqF (P := P) (c := c) 9998 w [1, 1, 1] fs.toList [.int .i64 a1, .int .i64 a2, .int .i64 a3] [.int .i64 b1, .int .i64 b2, .int .i64 b3] #[.int .i64 a1, .int .i64 a2, .int .i64 a3] #[.int .i64 b1, .int .i64 b2, .int .i64 b3] 0 hp
          (by simp [VRs, VR]) (by simp [VRs, VR]) (decide ([a1, a2, a3] = [b1, b2, b3])) (by
            simp only [eqAs, eqA, if_true]
            congr 1
            rw [Bool.eq_iff_iff]
            simp)
        have hq' := run_equalIn_struct (P := P) w 9999 kt #[.int .i64 a1, .int .i64 a2, .int .i64 a3] #[.int .i64 b1, .int .i64 b2, .int .i64 b3] hu' hst
        rw [hfs, hq] at hq'
        simp only [keyV, if_true, Op.equal, Op.maxDepth]
        exact hq'
      refine ⟨fun w n l hn hl => ?_, fun w em n hn => ?_, fun w n hn => ?_⟩
      · unfold Instr.findKey
        simp only [Sem.run_bind, run_underlying hu, Result.andThen_ok]
        cases l with
        | nil => simp [Instr.findNow, lfind]
        | cons x r =>
          have h : Instr.findNow (.struct fs) (keyV true n) ((x :: r).map (entV true)) 0 = none := by
            simp [entV, Instr.findNow, Instr.sameNow, keyV]
          rw [h]
          exact findAsking_key heq w n hn (x :: r) 0 hl
      · obtain ⟨a1, a2, a3, rfl⟩ := len3 hn
        have hfl : ∃ f0 f1 f2 : Field, fs = #[f0, f1, f2] ∧ f0.offset = 0 ∧ f1.offset = 1 ∧ f2.offset = 2 := by
          rcases hfl : fs.toList with _ | ⟨f0, _ | ⟨f1, _ | ⟨f2, _ | ⟨f3, r⟩⟩⟩⟩ <;> rw [hfl] at hp <;> simp [plainF] at hp
          refine ⟨f0, f1, f2, by apply Array.ext'; simpa using hfl, hp.1.1.2, hp.2.1.1.2, hp.2.2.1.2⟩
        obtain ⟨f0, f1, f2, rfl, o0, o1, o2⟩ := hfl
        rw [hfs] at hall
        simp only [List.all_cons, List.all_nil, Bool.and_true, Bool.and_eq_true] at hall
        have hu64 : ∀ t, isI64 (P.underlying t) = true → P.underlying t = some (.int .i64) := by
          intro t h
          unfold isI64 at h
          split at h
          · rename_i k hk; simp at h; subst h; exact hk
          · cases h
        have u0 := hu64 _ hall.1
        have u1 := hu64 _ hall.2.1
        have u2 := hu64 _ hall.2.2
        have hpi : ∀ t (a : Int), P.underlying t = some (.int .i64) → (Instr.checkKey em 9999 t (.int .i64 a)).run P w = .ok () w := fun t a ht => MapKept.run_checkKey ht (by simp [MapKept.IsKey]) em 9998
        have hpart : ∀ t (j : Nat) (ar : Array Value) (z : Value), P.underlying t = some (.int .i64) → ar[j]? = some z → (part t ar j).run P w = .ok z w := by
          intro t j ar z ht hz
          simp [part, run_isAgg' ht, isAggD, hz]
        unfold Instr.checkKey
        simp only [Sem.run_bind, run_underlying hu, Result.andThen_ok, keyV, if_true, List.map_cons, List.map_nil]
        have p0 := hpart f0.type 0 #[.int .i64 a1, .int .i64 a2, .int .i64 a3] _ u0 rfl
        have p1 := hpart f1.type 1 #[.int .i64 a1, .int .i64 a2, .int .i64 a3] _ u1 rfl
        have p2 := hpart f2.type 2 #[.int .i64 a1, .int .i64 a2, .int .i64 a3] _ u2 rfl
        simp only [← Array.forIn_toList, List.forIn_cons, List.forIn_nil, o0, o1, o2]
        by_cases n0 : f0.name = "_" <;> by_cases n1 : f1.name = "_" <;> by_cases n2 : f2.name = "_" <;> simp [n0, n1, n2, p0, p1, p2, hpi _ _ u0, hpi _ _ u1, hpi _ _ u2]
      · obtain ⟨a1, a2, a3, rfl⟩ := len3 hn
        unfold Instr.keyThatStays
        simp [keyV, Instr.sameBits]
    · simp at ht

theorem lfind_some : ∀ (l : LE) (ks : List Int) (i : Nat) (p : Nat × Int), lfind l ks i = some p → ∃ j s, p.1 = i + j ∧ l[j]? = some (ks, p.2, s)
  | [], ks, i, p, h => by cases h
  | x :: r, ks, i, p, h => by
    unfold lfind at h
    split at h
    · rename_i e; cases h; exact ⟨0, x.2.2, rfl, by simp [e]⟩
    · obtain ⟨j, s, h1, h2⟩ := lfind_some r ks (i + 1) p h
      exact ⟨j + 1, s, by omega, by simpa using h2⟩
theorem lfind_none : ∀ (l : LE) (ks : List Int) (i : Nat), lfind l ks i = none ↔ ks ∉ l.map (·.1)
  | [], ks, i => by simp [lfind]
  | x :: r, ks, i => by
    unfold lfind
    by_cases e : ks = x.1
    · simp [e]
    · simp only [e, if_false, lfind_none r ks (i + 1), List.map_cons, List.mem_cons, false_or]
theorem lfind_app {r : LE} {ks : List Int} : ∀ {l : LE} {i : Nat}, lfind (l ++ r) ks i = match lfind l ks i with | some p => some p | none => lfind r ks (i + l.length)
  | [], i => rfl
  | x :: l, i => by
    simp only [List.cons_append, lfind]
    by_cases e : ks = x.1
    · simp [e]
    · simp only [e, if_false]
      rw [lfind_app, List.length_cons, show i + (l.length + 1) = i + 1 + l.length by omega]
/-- An entry with a count of its own, in a row of entries whose keys stand once. -/
theorem lcnt_mem {L : LE} {ks : List Int} {c : Int} {s : Nat} (hk : (L.map (·.1)).Nodup) (h : (ks, c, s) ∈ L) : lcnt L ks = c := by
  have : ∀ (L : LE) (i : Nat), (L.map (·.1)).Nodup → (ks, c, s) ∈ L → ∃ j, lfind L ks i = some (j, c) := by
    intro L
    induction L with
    | nil => intro i _ h; cases h
    | cons x r ih =>
      intro i hk h
      unfold lfind
      by_cases e : ks = x.1
      · rw [if_pos e]
        rcases List.mem_cons.1 h with h | h
        · exact ⟨i, by rw [← h]⟩
        · simp only [List.map_cons, List.nodup_cons] at hk
          exact absurd (List.mem_map.2 ⟨_, h, e⟩) hk.1
      · rw [if_neg e]
        rcases List.mem_cons.1 h with h | h
        · rw [← h] at e; exact absurd rfl e
        · simp only [List.map_cons, List.nodup_cons] at hk
          exact ih (i + 1) hk.2 h
  obtain ⟨j, hj⟩ := this L 0 hk h
  simp [lcnt, hj]
theorem lcnt_not {L : LE} {ks : List Int} (h : ks ∉ L.map (·.1)) : lcnt L ks = 0 := by simp [lcnt, (lfind_none L ks 0).2 h]
theorem modify_at {α : Type} (f : α → α) (r : List α) (x : α) : ∀ l : List α, (l ++ x :: r).modify l.length f = l ++ f x :: r
  | [] => rfl
  | b :: l => by simp [List.modify_succ_cons, modify_at f r x l]
theorem modify_map {α β : Type} (g : α → β) (f : β → β) (r : List β) (x : β) (l : List α) : (l.map g ++ x :: r).modify l.length f = l.map g ++ f x :: r := by
  have := modify_at f r x (l.map g)
  rwa [List.length_map] at this
theorem modify_split (f : List Int × Int × Nat → List Int × Int × Nat) {L : LE} {j : Nat} {x : List Int × Int × Nat} (h : L[j]? = some x) : ∃ l r, L = l ++ x :: r ∧ l.length = j ∧ L.modify j f = l ++ f x :: r := by
  have hj : j < L.length := (List.getElem?_eq_some_iff.1 h).1
  have he : L[j] = x := (List.getElem?_eq_some_iff.1 h).2
  refine ⟨L.take j, L.drop (j + 1), by rw [← he, List.getElem_cons_drop, List.take_append_drop], by simp; omega, ?_⟩
  rw [List.modify_eq_take_cons_drop hj, he]
/-- A count laid at an entry. -/
theorem MInv.lay {st : Bool} {L : LE} {clock : Nat} {l : List (List Int × Int)} (h : MInv st L clock l) {j : Nat} {ks : List Int} {c : Int} {s : Nat} (hj : L[j]? = some (ks, c, s)) (n : Int) :
    MInv st (L.modify j fun p => (p.1, n, p.2.2)) clock ((ks, n) :: l) := by
  obtain ⟨a, r, e1, e2, e3⟩ := modify_split (fun p => (p.1, n, p.2.2)) hj
  have k1 : (L.modify j fun p => (p.1, n, p.2.2)).map (·.1) = L.map (·.1) := by rw [e3, e1]; simp
  have k2 : (L.modify j fun p => (p.1, n, p.2.2)).map (·.2.2) = L.map (·.2.2) := by rw [e3, e1]; simp
  refine ⟨?_, by rw [k1]; exact h.keys, by rw [k2]; exact h.births, ?_, ?_⟩
  · intro p hp
    have := List.mem_map (f := fun p : List Int × Int × Nat => p.1).2 ⟨p, hp, rfl⟩
    rw [k1] at this
    obtain ⟨q, h1, h2⟩ := List.mem_map.1 this
    rw [← h2]; exact h.len q h1
  · intro p hp
    have := List.mem_map (f := fun p : List Int × Int × Nat => p.2.2).2 ⟨p, hp, rfl⟩
    rw [k2] at this
    obtain ⟨q, h1, h2⟩ := List.mem_map.1 this
    rw [← h2]; exact h.lt q h1
  · intro qs hq
    unfold mcnt
    by_cases e : qs = ks
    · rw [if_pos e, e]
      refine lcnt_mem (s := s) (by rw [k1]; exact h.keys) ?_
      rw [e3]; simp
    · rw [if_neg e, ← h.cnt qs hq]
      by_cases hm : qs ∈ L.map (·.1)
      · obtain ⟨p, hp, hpq⟩ := List.mem_map.1 hm
        obtain ⟨q, pc, ps⟩ := p
        simp only at hpq
        subst hpq
        rw [lcnt_mem h.keys hp]
        refine lcnt_mem (s := ps) (by rw [k1]; exact h.keys) ?_
        rw [e3]
        rw [e1] at hp
        simp only [List.mem_append, List.mem_cons] at hp ⊢
        rcases hp with hp | hp | hp
        · exact .inl hp
        · cases hp; exact absurd rfl e
        · exact .inr (.inr hp)
      · rw [lcnt_not hm, lcnt_not (by rw [k1]; exact hm)]
/-- A new entry. -/
theorem MInv.push {st : Bool} {L : LE} {clock : Nat} {l : List (List Int × Int)} (h : MInv st L clock l) {ks : List Int} (hl : ks.length = klen st) (hk : ks ∉ L.map (·.1)) (n : Int) (l' : List (List Int × Int))
    (hl' : ∀ qs, mcnt l' qs = if qs = ks then n else mcnt l qs) : MInv st (L ++ [(ks, n, clock)]) (clock + 1) l' := by
  refine ⟨?_, ?_, ?_, ?_, ?_⟩
  · intro p hp
    rcases List.mem_append.1 hp with hp | hp
    · exact h.len p hp
    · simp at hp; subst hp; exact hl
  · rw [List.map_append, List.nodup_append]
    exact ⟨h.keys, by simp, fun a ha b hb => by simp at hb; subst hb; exact fun e => hk (e ▸ ha)⟩
  · rw [List.map_append, List.nodup_append]
    refine ⟨h.births, by simp, fun a ha b hb => ?_⟩
    simp at hb; subst hb
    obtain ⟨p, hp, rfl⟩ := List.mem_map.1 ha
    have := h.lt p hp
    omega
  · intro p hp
    rcases List.mem_append.1 hp with hp | hp
    · have := h.lt p hp; omega
    · simp at hp; subst hp; simp
  · intro qs hq
    rw [hl', lcnt, lfind_app]
    by_cases e : qs = ks
    · rw [if_pos e, e, (lfind_none L ks 0).2 hk]
      simp [lfind]
    · rw [if_neg e, ← h.cnt qs hq, lcnt]
      cases lfind L qs 0 with
      | some p => rfl
      | none => simp [lfind, e]

section
variable {P : Program} {st : Bool} {mt kt et : TypeId} (K : KeyOk P st kt) (hm : P.underlying mt = some (.map kt et)) (hz : ∀ w : World, (zeroValue et).run P w = .ok (.int .i64 0) w)
include K hm hz

theorem run_mlk {w : World} {b : Nat} {L : LE} {clock : Nat} {l : List (List Int × Int)} (hb : w.heap[b]? = some (.map (entsV st L) clock)) (hi : MInv st L clock l) {n : List Int} (hn : n.length = klen st) :
    (Instr.lookup mt (.map (some b)) (keyV st n) false).run P w = .ok (.int .i64 (mcnt l n)) w := by
  have h1 := K.find w n L hn hi.len
  rw [← hi.cnt n hn]
  unfold lcnt
  cases hc : lfind L n 0 with
  | none => rw [hc] at h1; simp [Instr.lookup, run_underlying hm, MapKept.run_getObj_map hb, K.check _ _ _ hn, entsV, h1, hz, Result.andThen]
  | some p => rw [hc] at h1; simp [Instr.lookup, run_underlying hm, MapKept.run_getObj_map hb, K.check _ _ _ hn, entsV, h1, hz, Result.andThen]

/-- A key's entry: what its count is stays; its number tells it. -/
theorem run_men {w : World} {b : Nat} {L : LE} {clock : Nat} {l : List (List Int × Int)} (hb : w.heap[b]? = some (.map (entsV st L) clock)) (hi : MInv st L clock l) {n : List Int} (hn : n.length = klen st) :
    ∃ (L' : LE) (clock' : Nat) (s : Nat), (Instr.mapEntry mt (.map (some b)) (keyV st n)).run P w = .ok (.tuple #[.int .i64 (mcnt l n), .int .i64 s]) (setBlock w b (.map (entsV st L') clock')) ∧ MInv st L' clock' l ∧
      (∃ e ∈ (entsV st L').toList, (e.born : Int) = s ∧ e.key = keyV st n) ∧ ∀ e ∈ (entsV st L).toList, ∃ e' ∈ (entsV st L').toList, e'.key = e.key ∧ e'.born = e.born := by
  have h1 := K.find w n L hn hi.len
  have hcn := hi.cnt n hn
  cases hc : lfind L n 0 with
  | none =>
    rw [hc] at h1
    have hk := (lfind_none L n 0).1 hc
    have h0 : mcnt l n = 0 := by rw [← hcn, lcnt_not hk]
    refine ⟨L ++ [(n, 0, clock)], clock + 1, clock, ?_, hi.push hn hk 0 l (fun qs => ?_), ⟨entV st (n, 0, clock), by simp [entsV], rfl, rfl⟩, fun e he => ⟨e, by simp [entsV] at he ⊢; exact .inl he, rfl, rfl⟩⟩
    · rw [h0]
      have e : entsV st (L ++ [(n, 0, clock)]) = (entsV st L).push ⟨keyV st n, .int .i64 0, clock⟩ := by simp [entsV, entV]
      simp only [entsV] at e
      simp only [entsV]
      rw [e]
      simp [Instr.mapEntry, run_underlying hm, MapKept.run_getObj_map hb, K.check _ _ _ hn, entsV, h1, hz, MapKept.run_setObj_map _ hb, Result.andThen, setBlock, goInt]
    · by_cases e : qs = n
      · rw [if_pos e, e, h0]
      · rw [if_neg e]
  | some p =>
    rw [hc] at h1
    obtain ⟨j, s, e1, e2⟩ := lfind_some L n 0 p hc
    obtain ⟨pj, pc⟩ := p
    simp only [Nat.zero_add] at e1 e2
    subst e1
    have hc' : mcnt l n = pc := by rw [← hcn, lcnt, hc]
    have h2 : (L.map (entV st))[pj]? = some (entV st (n, pc, s)) := by rw [List.getElem?_map, e2]; rfl
    have h3 : (L.map (entV st)).modify pj (fun e => { e with key := keyV st n }) = L.map (entV st) := by
      apply List.ext_getElem?
      intro i
      rw [List.getElem?_modify]
      by_cases hi : pj = i
      · subst hi; rw [h2]; simp [entV]
      · simp [hi]
    refine ⟨L, clock, s, ?_, hi, ⟨entV st (n, pc, s), by simp only [entsV]; exact List.mem_of_getElem? (by simpa using h2), rfl, rfl⟩, fun e he => ⟨e, he, rfl, rfl⟩⟩
    rw [hc']
    simp [Instr.mapEntry, run_underlying hm, MapKept.run_getObj_map hb, K.check _ _ _ hn, entsV, h1, MapKept.run_setObj_map _ hb, Result.andThen, setBlock, goInt, h3, K.stays _ _ hn, h2, entV, e2]

omit hz in
theorem run_mup {w : World} {b : Nat} {L : LE} {clock : Nat} {l : List (List Int × Int)} (hb : w.heap[b]? = some (.map (entsV st L) clock)) (hi : MInv st L clock l) {n : List Int} (hn : n.length = klen st) (v : Int) :
    ∃ (L' : LE) (clock' : Nat), (Instr.mapUpdate mt (.map (some b)) (keyV st n) (.int .i64 v)).run P w = .ok () (setBlock w b (.map (entsV st L') clock')) ∧ MInv st L' clock' ((n, v) :: l) ∧
      ∀ e ∈ (entsV st L).toList, ∃ e' ∈ (entsV st L').toList, e'.key = e.key ∧ e'.born = e.born := by
  have h1 := K.find w n L hn hi.len
  cases hc : lfind L n 0 with
  | none =>
    rw [hc] at h1
    have hk := (lfind_none L n 0).1 hc
    refine ⟨L ++ [(n, v, clock)], clock + 1, ?_, hi.push hn hk v _ (fun qs => rfl), fun e he => ⟨e, by simp [entsV] at he ⊢; exact .inl he, rfl, rfl⟩⟩
    have e : entsV st (L ++ [(n, v, clock)]) = (entsV st L).push ⟨keyV st n, .int .i64 v, clock⟩ := by simp [entsV, entV]
    simp only [entsV] at e
    simp only [entsV]
    rw [e]
    simp [Instr.mapUpdate, run_underlying hm, MapKept.run_getObj_map hb, K.check _ _ _ hn, entsV, h1, MapKept.run_setObj_map _ hb, Result.andThen, setBlock]
  | some p =>
    rw [hc] at h1
    obtain ⟨j, s, e1, e2⟩ := lfind_some L n 0 p hc
    obtain ⟨pj, pc⟩ := p
    simp only [Nat.zero_add] at e1 e2
    subst e1
    have h2 : (L.map (entV st))[pj]? = some (entV st (n, pc, s)) := by rw [List.getElem?_map, e2]; rfl
    obtain ⟨a, r, x1, x2, x3⟩ := modify_split (fun p => (p.1, v, p.2.2)) e2
    have h3 : (L.map (entV st)).modify pj (fun e => { e with key := keyV st n, val := .int .i64 v }) = (L.modify pj fun p => (p.1, v, p.2.2)).map (entV st) := by
      rw [x3, x1, ← x2]
      simp [entV, modify_map]
    refine ⟨L.modify pj fun p => (p.1, v, p.2.2), clock, ?_, hi.lay e2 v, fun e he => ?_⟩
    · simp [Instr.mapUpdate, run_underlying hm, MapKept.run_getObj_map hb, K.check _ _ _ hn, entsV, h1, MapKept.run_setObj_map _ hb, Result.andThen, setBlock, h3, K.stays _ _ hn, h2, entV, e2]
    · simp only [entsV] at he ⊢
      rw [x3]
      rw [x1] at he
      simp only [List.map_append, List.map_cons, List.mem_append, List.mem_cons] at he ⊢
      rcases he with he | he | he
      · exact ⟨e, .inl he, rfl, rfl⟩
      · exact ⟨_, .inr (.inl rfl), by rw [he]; rfl, by rw [he]; rfl⟩
      · exact ⟨e, .inr (.inr he), rfl, rfl⟩
end

theorem keyV_inj {st : Bool} {a b : List Int} (ha : a.length = klen st) (hb : b.length = klen st) (h : keyV st a = keyV st b) : a = b := by
  cases st with
  | false =>
    obtain ⟨x, rfl⟩ := len1 ha
    obtain ⟨y, rfl⟩ := len1 hb
    simpa [keyV] using h
  | true =>
    obtain ⟨x, y, z, rfl⟩ := len3 ha
    obtain ⟨x', y', z', rfl⟩ := len3 hb
    simpa [keyV] using h

theorem run_mst {P : Program} {st : Bool} {mt : TypeId} {w : World} {b : Nat} {L : LE} {clock : Nat} {l : List (List Int × Int)} (hb : w.heap[b]? = some (.map (entsV st L) clock)) (hi : MInv st L clock l) {s : Int} {n : List Int} (hn : n.length = klen st)
    (hs : ∃ e ∈ (entsV st L).toList, (e.born : Int) = s ∧ e.key = keyV st n) (v : Int) :
    ∃ L' : LE, (Instr.entryStore mt (.map (some b)) (.int .i64 s) (.int .i64 v)).run P w = .ok () (setBlock w b (.map (entsV st L') clock)) ∧ MInv st L' clock ((n, v) :: l) ∧
      ∀ e ∈ (entsV st L).toList, ∃ e' ∈ (entsV st L').toList, e'.key = e.key ∧ e'.born = e.born := by
  obtain ⟨e, he, rfl, hk⟩ := hs
  simp only [entsV, List.mem_map] at he
  obtain ⟨p, hp, rfl⟩ := he
  obtain ⟨q, c, s⟩ := p
  obtain rfl : q = n := keyV_inj (hi.len _ hp) hn hk
  obtain ⟨j, hj⟩ := List.mem_iff_getElem?.1 hp
  obtain ⟨a, r, x1, x2, x3⟩ := modify_split (fun p => (p.1, v, p.2.2)) hj
  have hbirth : ∀ p ∈ a, p.2.2 ≠ s := by
    intro p hp e
    have := hi.births
    rw [x1, List.map_append, List.nodup_append] at this
    exact this.2.2 p.2.2 (List.mem_map.2 ⟨p, hp, rfl⟩) s (by simp) e
  have h1 : (entsV st L).findIdx? (fun e => ((e.born : Nat) : Int) == ((s : Nat) : Int)) = some j := by
    have : ∀ (xs : Array MapEntry) (p : MapEntry → Bool), xs.findIdx? p = xs.toList.findIdx? p := by intro xs p; cases xs; simp
    rw [this]
    simp only [entsV, x1, List.map_append, List.map_cons]
    rw [List.findIdx?_append]
    have h2 : (a.map (entV st)).findIdx? (fun e => ((e.born : Nat) : Int) == ((s : Nat) : Int)) = none := by
      rw [List.findIdx?_eq_none_iff]
      intro e he
      obtain ⟨x, hx, rfl⟩ := List.mem_map.1 he
      have := hbirth x hx
      simp only [entV, beq_eq_false_iff_ne, ne_eq, Int.natCast_inj]
      exact this
    rw [h2]
    simp [List.findIdx?_cons, entV, x2]
  have h3 : (entsV st L).modify j (fun e => { e with val := .int .i64 v }) = entsV st (L.modify j fun p => (p.1, v, p.2.2)) := by
    apply Array.ext'
    rw [Array.toList_modify]
    simp only [entsV]
    rw [x3, x1, ← x2]
    simp [entV, modify_map]
  refine ⟨L.modify j fun p => (p.1, v, p.2.2), ?_, hi.lay hj v, fun e he => ?_⟩
  · simp [Instr.entryStore, MapKept.run_getObj_map hb, asInt, asIntOf, entV, h1, h3, MapKept.run_setObj_map _ hb, Result.andThen, setBlock]
  · simp only [entsV] at he ⊢
    rw [x3]
    rw [x1] at he
    simp only [List.map_append, List.map_cons, List.mem_append, List.mem_cons] at he ⊢
    rcases he with he | he | he
    · exact ⟨e, .inl he, rfl, rfl⟩
    · exact ⟨_, .inr (.inl rfl), by rw [he]; rfl, by rw [he]; rfl⟩
    · exact ⟨e, .inr (.inr he), rfl, rfl⟩

theorem mapIs.out {P : Program} {st : Bool} {t : TypeId} (h : mapIs P st t = true) : ∃ kt et, P.underlying t = some (.map kt et) ∧ KeyOk P st kt ∧ ∀ w : World, (zeroValue et).run P w = .ok (.int .i64 0) w := by
  unfold mapIs at h
  split at h
  · rename_i kt et hu
    simp only [Bool.and_eq_true] at h
    obtain ⟨h1, h2⟩ := h
    refine ⟨kt, et, hu, keyOk h1, fun w => ?_⟩
    split at h2
    · rename_i i hi
      split at h2
      · rename_i n hz
        simp at h2
        subst h2
        simp [zeroValue, typeInfo, hi, hz]
      · cases h2
    · cases h2
  · cases h

theorem mpOf_some {st : Bool} {m : Option (Bool × List (List Int × Int))} {l : List (List Int × Int)} (h : mpOf st m = some l) : m = some (st, l) := by
  unfold mpOf at h
  split at h
  · split at h
    · rename_i e; cases h; rw [e]
    · cases h
  · cases h

section
variable {P : Program} {c : Cx} {e : Env} {a : Act} {H : List Blk} (hr : RelH c) (he : EnvRel c e a) (hsub : Sub c H)
include hr

theorem does_mkm {t : TypeId} {st : Bool} {r : A} {d : Dl} (hn : ∀ k, d = .new k → c.H H.length = none) (h : stepK (.mkm st) e H (fun u b => u = r ∧ b = d)) :
    Does P c H.length (do pure (.value (← Instr.makeMap t none))) r d := by
  simp only [stepK] at h
  obtain ⟨rfl, rfl⟩ := h
  obtain ⟨h1, h2⟩ := T_newo hr (n := H.length) (k := ⟨0, false, 1, [], some (st, [])⟩) (fun k0 h0 => by rw [hn _ rfl] at h0; cases h0) (w' := c.w.alloc (.map #[] 0)) (obj := .map #[] 0) rfl rfl rfl rfl
    (fun j x hj => by simp at hj) (fun _ => rfl) (fun h => by cases h) (fun st' l h => by cases h; exact ⟨rfl, rfl, [], 0, rfl, by simp, by simp, by simp, by simp, fun ks _ => rfl⟩)
  refine ⟨.map (some c.w.heap.size), _, .inl ?_, ?_, h1, h2, rfl⟩
  · simp [run_makeMap]
    rfl
  · simp only [VR]
    exact ⟨_, c.w.heap.size, by simp [Cx.anew, upd_same]; rfl, Nat.le_refl _, rfl, fun _ => by simp [Cx.anew, upd_same]⟩

include he hsub
theorem does_mlk {t : TypeId} {st : Bool} {x y : Operand} {x' y' : Opd} (ht : mapIs P st t = true) (hx : okO x' x = true) (hy : okO y' y = true) {r : A} {d : Dl} (h : stepK (.mlk st x' y') e H (fun u b => u = r ∧ b = d)) :
    Does P c H.length (do pure (.value (← Instr.lookup t (a.eval x) (a.eval y) false))) r d := by
  obtain ⟨kt, et, hu, K, hz⟩ := mapIs.out ht
  simp only [stepK] at h
  split at h
  · rename_i b v z hb hk
    split at h
    · rename_i q ks hq hks
      split at h
      · rename_i l hl
        obtain ⟨h1, rfl, rfl⟩ := h
        replace hl := mpOf_some hl
        have vx := evO he hx hb
        have vy := evO he hy hk
        simp only [VR] at vx
        obtain ⟨k', p, g1, g2, g3, g4⟩ := vx
        have hck : c.H b = some q := by rcases hsub b q hq with h' | h' <;> simp_all
        rw [hck] at g1
        cases g1
        obtain ⟨m1, m2, L, clock, m3, m4⟩ := hr.mz b q st l hck hl
        obtain ⟨e1, e2⟩ := keyOf_ok hks vy
        rw [← g4 h1.symm] at m3
        refine Does.plain hr (v := .int .i64 (mcnt l ks)) ?_ rfl
        rw [g3, e1]
        simp [run_mlk K hu hz m3 m4 e2]
      · exact h.elim
    · exact h.elim
  · exact h.elim

theorem does_men {t : TypeId} {st : Bool} {x y : Operand} {x' y' : Opd} (ht : mapIs P st t = true) (hx : okO x' x = true) (hy : okO y' y = true) {r : A} {d : Dl} (h : stepK (.men st x' y') e H (fun u b => u = r ∧ b = d)) :
    Does P c H.length (do pure (.value (← Instr.mapEntry t (a.eval x) (a.eval y)))) r d := by
  obtain ⟨kt, et, hu, K, hz⟩ := mapIs.out ht
  simp only [stepK] at h
  split at h
  · rename_i b v z hb hk
    split at h
    · rename_i q ks hq hks
      split at h
      · rename_i l hl
        obtain ⟨h1, rfl, rfl⟩ := h
        replace hl := mpOf_some hl
        have vx := evO he hx hb
        have vy := evO he hy hk
        simp only [VR] at vx
        obtain ⟨k', p, g1, g2, g3, g4⟩ := vx
        have hck : c.H b = some q := by rcases hsub b q hq with h' | h' <;> simp_all
        rw [hck] at g1
        cases g1
        obtain ⟨m1, m2, L, clock, m3, m4⟩ := hr.mz b q st l hck hl
        obtain ⟨e1, e2⟩ := keyOf_ok hks vy
        have hp := g4 h1.symm
        subst hp
        obtain ⟨L', clock', s, r1, r2, r3, r4⟩ := run_men (w := c.w) K hu hz m3 m4 e2
        obtain ⟨j1, j2⟩ := T_seto hr hck m1 (k' := q) m1 (Nat.le_refl _) rfl (w' := setBlock c.w (c.io b).1 (.map (entsV st L') clock'))
          (fun i hi => heap_setBlock_other m3 _ hi) (by simp [setBlock]) rfl rfl rfl m3 (heap_setBlock_same m3 _)
          ⟨fun _ _ _ e => (by cases e), fun e => (by rw [hl] at e; cases e), fun st' l' e => (by rw [hl] at e; cases e; exact ⟨m2, L', clock', rfl, r2⟩), fun es cl e => (by cases e; exact ⟨_, _, rfl, r4⟩)⟩ (fun j x hj => by simp [m2] at hj)
        have hHq : (c.aset b q (setBlock c.w (c.io b).1 (.map (entsV st L') clock'))).H = c.H := by
          funext d
          by_cases e : d = b
          · subst e; simp [Cx.aset, upd_same, hck]
          · simp [Cx.aset, upd_other _ _ e]
        refine ⟨.tuple #[.int .i64 (mcnt l ks), .int .i64 s], c.aset b q _, .inl ?_, ⟨_, rfl, ?_⟩, j1, j2, hHq⟩
        · rw [g3, e1]
          simp [r1]
          rfl
        · simp only [VRs, VR]
          refine ⟨_, _, rfl, rfl, _, _, rfl, ⟨q, s, by simp [Cx.aset, upd_same], by rw [h1]; exact Nat.le_refl _, rfl, fun _ => ?_⟩, rfl⟩
          obtain ⟨e, he, q1, q2⟩ := r3
          exact ⟨_, _, heap_setBlock_same m3 _, e, he, q1, q2⟩
      · exact h.elim
    · exact h.elim
  · exact h.elim

theorem does_mst {t : TypeId} {st : Bool} {x y z : Operand} {x' y' z' : Opd} (hx : okO x' x = true) (hy : okO y' y = true) (hz : okO z' z = true) {r : A} {d : Dl} (h : stepK (.mst st x' y' z') e H (fun u b => u = r ∧ b = d)) :
    Does P c H.length (do Instr.entryStore t (a.eval x) (a.eval y) (a.eval z); pure .skip) r d := by
  simp only [stepK] at h
  split at h
  · rename_i b v b' v' st' ks n hb hs hn
    split at h
    · rename_i q hq
      split at h
      · rename_i l hl
        obtain ⟨⟨h1, rfl, rfl, rfl, h2⟩, rfl, rfl⟩ := h
        replace hl := mpOf_some hl
        have vx := evO he hx hb
        have vy := evO he hy hs
        have vz := evO he hz hn
        simp only [VR] at vx vy vz
        obtain ⟨k', p, g1, g2, g3, g4⟩ := vx
        obtain ⟨k2, s, y1, y2, y3, y4⟩ := vy
        have hck : c.H b' = some q := by rcases hsub b' q hq with h' | h' <;> simp_all
        rw [hck] at g1 y1
        cases g1
        cases y1
        obtain ⟨m1, m2, L, clock, m3, m4⟩ := hr.mz b' q st' l hck hl
        have hp := g4 h1.symm
        subst hp
        obtain ⟨es, cl, w1, w2⟩ := y4 h1.symm
        rw [m3] at w1
        cases w1
        obtain ⟨L', r1, r2, r3⟩ := run_mst (P := P) (mt := t) m3 m4 h2 w2 n
        obtain ⟨j1, j2⟩ := T_seto hr hck m1 (k' := { q with mp := some (st', (ks, n) :: l) }) m1 (Nat.le_refl _) rfl (w' := setBlock c.w (c.io b').1 (.map (entsV st' L') clock))
          (fun i hi => heap_setBlock_other m3 _ hi) (by simp [setBlock]) rfl rfl rfl m3 (heap_setBlock_same m3 _)
          ⟨fun _ _ _ e => (by cases e), fun e => (by cases e), fun st'' l' e => (by cases e; exact ⟨m2, L', clock, rfl, r2⟩), fun es cl e => (by cases e; exact ⟨_, _, rfl, r3⟩)⟩ (fun j x hj => by simp [m2] at hj)
        refine ⟨undef, c.aset b' _ _, .inr ⟨?_, rfl⟩, ⟨#[], rfl, by simp [VRs]⟩, j1, j2, rfl⟩
        rw [g3, y3, vz]
        simp [r1]
        rfl
      · exact h.elim
    · exact h.elim
  · exact h.elim

theorem does_mup {t : TypeId} {st : Bool} {x y z : Operand} {x' y' z' : Opd} (ht : mapIs P st t = true) (hx : okO x' x = true) (hy : okO y' y = true) (hz' : okO z' z = true) {r : A} {d : Dl} (h : stepK (.mup st x' y' z') e H (fun u b => u = r ∧ b = d)) :
    Does P c H.length (do Instr.mapUpdate t (a.eval x) (a.eval y) (a.eval z); pure .skip) r d := by
  obtain ⟨kt, et, hu, K, hz⟩ := mapIs.out ht
  simp only [stepK] at h
  split at h
  · rename_i b v zz n hb hk hn
    split at h
    · rename_i q ks hq hks
      split at h
      · rename_i l hl
        obtain ⟨h1, rfl, rfl⟩ := h
        replace hl := mpOf_some hl
        have vx := evO he hx hb
        have vy := evO he hy hk
        have vz := evO he hz' hn
        simp only [VR] at vx vz
        obtain ⟨k', p, g1, g2, g3, g4⟩ := vx
        have hck : c.H b = some q := by rcases hsub b q hq with h' | h' <;> simp_all
        rw [hck] at g1
        cases g1
        obtain ⟨m1, m2, L, clock, m3, m4⟩ := hr.mz b q st l hck hl
        obtain ⟨e1, e2⟩ := keyOf_ok hks vy
        have hp := g4 h1.symm
        subst hp
        obtain ⟨L', clock', r1, r2, r3⟩ := run_mup (w := c.w) K hu m3 m4 e2 n
        obtain ⟨j1, j2⟩ := T_seto hr hck m1 (k' := { q with mp := some (st, (ks, n) :: l) }) m1 (Nat.le_refl _) rfl (w' := setBlock c.w (c.io b).1 (.map (entsV st L') clock'))
          (fun i hi => heap_setBlock_other m3 _ hi) (by simp [setBlock]) rfl rfl rfl m3 (heap_setBlock_same m3 _)
          ⟨fun _ _ _ e => (by cases e), fun e => (by cases e), fun st'' l' e => (by cases e; exact ⟨m2, L', clock', rfl, r2⟩), fun es cl e => (by cases e; exact ⟨_, _, rfl, r3⟩)⟩ (fun j x hj => by simp [m2] at hj)
        refine ⟨undef, c.aset b _ _, .inr ⟨?_, rfl⟩, ⟨#[], rfl, by simp [VRs]⟩, j1, j2, rfl⟩
        rw [g3, e1, vz]
        simp [r1]
        rfl
      · exact h.elim
    · exact h.elim
  · exact h.elim
end
end Go.Sym
