/- What the law FnExactLinkTake stands upon: words about memory, the Go functions that it reaches as plain Lean functions with the proofs that each call answers as its function says, and the plain laws. Laid by a program of this repository (pack.py). Conditions: those that each theorem names. -/
import Derived.ChangeMaps5
import Derived.MapKept
import Derived.WalkKit
section
namespace Go.Proofs.Ytnbodfakblbmbaa.Hm
open Go.ChangeMaps (setBlock heap_setBlock_same heap_setBlock_other)
section
variable {P : Program} {α : Type}
theorem findIdx_arr (xs : Array MapEntry) (p : MapEntry → Bool) : xs.findIdx? p = xs.toList.findIdx? p := by
  cases xs
  simp
theorem modify_at (f : α → α) (r : List α) (x : α) : ∀ l : List α, (l ++ x :: r).modify l.length f = l ++ f x :: r
  | [] => rfl
  | b :: l => by simp [List.modify_succ_cons, modify_at f r x l]
def ent (enc : α → Value) (p : α × Int × Nat) : MapEntry := ⟨enc p.1, .int .i64 p.2.1, p.2.2⟩
def ents (enc : α → Value) (l : List (α × Int × Nat)) : Array MapEntry := (l.map (ent enc)).toArray
variable [DecidableEq α]
def findP (n : α) : List (α × Int × Nat) → Nat → Option (Nat × Value)
  | [], _ => none
  | x :: r, i => if n = x.1 then some (i, .int .i64 x.2.1) else findP n r (i + 1)
structure KeyOk (P : Program) (kt : TypeId) (enc : α → Value) : Prop where
  find : ∀ (w : World) (n : α) (l : List (α × Int × Nat)), (Instr.findKey kt (enc n) (l.map (ent enc))).run P w = .ok (findP n l 0) w
  check : ∀ (w : World) (em : Bool) (n : α), (Instr.checkKey em 10000 kt (enc n)).run P w = .ok () w
  stays : ∀ (w : World) (n : α), (Instr.keyThatStays (enc n) (enc n)).run P w = .ok (enc n) w
theorem run_findAsking {kt : TypeId} {enc : α → Value} (heq : ∀ (w : World) (a b : α), (Op.equal kt (enc a) (enc b)).run P w = .ok (decide (a = b)) w) (w : World) (n : α) :
    ∀ (l : List (α × Int × Nat)) (i : Nat), (Instr.findAsking kt (enc n) (l.map (ent enc)) i).run P w = .ok (findP n l i) w
  | [], i => by simp [Instr.findAsking, findP]
  | x :: r, i => by
    rw [List.map_cons, Instr.findAsking]
    simp only [ent, Sem.run_bind, heq, Result.andThen_ok, findP]
    by_cases h : n = x.1
    · simp [h]
    · simp only [h, decide_false, Bool.false_eq_true, if_false]
      exact run_findAsking heq w n r (i + 1)
theorem KeyOk.asking {kt : TypeId} {enc : α → Value} {d : TypeDesc} (hu : P.underlying kt = some d) (hd : ∀ a b, Instr.sameNow d (enc a) (enc b) = none)
    (heq : ∀ (w : World) (a b : α), (Op.equal kt (enc a) (enc b)).run P w = .ok (decide (a = b)) w)
    (check : ∀ (w : World) (em : Bool) (n : α), (Instr.checkKey em 10000 kt (enc n)).run P w = .ok () w)
    (stays : ∀ (w : World) (n : α), (Instr.keyThatStays (enc n) (enc n)).run P w = .ok (enc n) w) : KeyOk P kt enc := by
  refine ⟨fun w n l => ?_, check, stays⟩
  unfold Instr.findKey
  simp only [Sem.run_bind, run_underlying hu, Result.andThen_ok]
  cases l with
  | nil => simp [Instr.findNow, findP]
  | cons x r =>
    have h : Instr.findNow d (enc n) ((x :: r).map (ent enc)) 0 = none := by
      simp [Instr.findNow, ent, hd]
    rw [h]
    exact run_findAsking heq w n (x :: r) 0
theorem run_findNow_int {k : IntKind} (n : Int) : ∀ (l : List (Int × Int × Nat)) (i : Nat), Instr.findNow (.int k) (.int k n) (l.map (ent (Value.int k))) i = some (findP n l i)
  | [], i => rfl
  | x :: r, i => by
    rw [List.map_cons]
    unfold Instr.findNow findP
    simp only [ent, Instr.sameNow, if_true]
    by_cases h : n = x.1
    · simp [h]
    · have : (n == x.1) = false := by simpa using h
      simp only [this, h, if_false]
      exact run_findNow_int n r (i + 1)
theorem KeyOk.int {kt : TypeId} {k : IntKind} (hu : P.underlying kt = some (.int k)) : KeyOk P kt (Value.int k) := by
  refine ⟨fun w n l => ?_, fun w em n => ?_, fun w n => ?_⟩
  · unfold Instr.findKey
    simp only [Sem.run_bind, run_underlying hu, Result.andThen_ok, run_findNow_int]
    simp
  · unfold Instr.checkKey
    simp [run_underlying hu]
  · unfold Instr.keyThatStays Instr.sameBits
    simp
end
section
variable {α : Type}
def ones (l : List α) : List (α × Int × Nat) := l.zipIdx.map fun p => (p.1, 1, p.2)
theorem ones_snoc (l : List α) (n : α) : ones (l ++ [n]) = ones l ++ [(n, 1, l.length)] := by simp [ones, List.zipIdx_append]
theorem ones_length (l : List α) : (ones l).length = l.length := by simp [ones]
theorem ones_born {l : List α} {x : α × Int × Nat} (h : x ∈ ones l) : x.2.2 < l.length := by
  simp only [ones, List.mem_map] at h
  obtain ⟨p, hp, rfl⟩ := h
  exact (List.mem_zipIdx' hp).1
end
section
variable {P : Program} {α : Type} [DecidableEq α]
theorem findP_not {n : α} {l : List α} (h : n ∉ l) (k i : Nat) : findP n (l.zipIdx k |>.map fun p => (p.1, (1 : Int), p.2)) i = none := by
  induction l generalizing k i with
  | nil => rfl
  | cons x r ih =>
    simp only [List.mem_cons, not_or] at h
    simp only [List.zipIdx_cons, List.map_cons, findP, h.1, if_false]
    exact ih h.2 _ _
theorem findP_mem {n : α} {l : List α} (h : n ∈ l) (k i : Nat) : ∃ j, j < l.length ∧ l[j]? = some n ∧ findP n (l.zipIdx k |>.map fun p => (p.1, (1 : Int), p.2)) i = some (i + j, .int .i64 1) := by
  induction l generalizing k i with
  | nil => cases h
  | cons x r ih =>
    simp only [List.zipIdx_cons, List.map_cons, findP]
    by_cases hx : n = x
    · exact ⟨0, by simp, by simp [hx], by simp [hx]⟩
    · obtain ⟨j, h1, h2, h3⟩ := ih (by simpa [hx] using h) (k + 1) (i + 1)
      exact ⟨j + 1, by simp; omega, by simpa using h2, by rw [if_neg hx, h3]; congr 2; omega⟩
theorem findP_ones_not {n : α} {l : List α} (h : n ∉ l) : findP n (ones l) 0 = none := findP_not h 0 0
theorem findP_ones_mem {n : α} {l : List α} (h : n ∈ l) : ∃ j, j < l.length ∧ l[j]? = some n ∧ findP n (ones l) 0 = some (j, .int .i64 1) := by
  obtain ⟨j, h1, h2, h3⟩ := findP_mem h 0 0
  exact ⟨j, h1, h2, by rw [Nat.zero_add] at h3; exact h3⟩
theorem findP_append {n : α} {r : List (α × Int × Nat)} : ∀ {l : List (α × Int × Nat)} {i : Nat}, findP n l i = none → findP n (l ++ r) i = findP n r (i + l.length)
  | [], i, _ => rfl
  | x :: l, i, h => by
    unfold findP at h
    by_cases hx : n = x.1
    · rw [if_pos hx] at h; cases h
    · rw [if_neg hx] at h
      rw [List.cons_append, findP, if_neg hx, findP_append h, List.length_cons]
      congr 1
      omega
section
variable {kt et mt : TypeId} {enc : α → Value} (K : KeyOk P kt enc) (hm : P.underlying mt = some (.map kt et)) (hz : ∀ w : World, (zeroValue et).run P w = .ok (.int .i64 0) w)
include K hm hz
theorem run_lookup {w : World} {b : Nat} {l : List (α × Int × Nat)} {clock : Nat} {c : Int} (hb : w.heap[b]? = some (.map (ents enc l) clock)) (n : α)
    (hc : (findP n l 0 = none ∧ c = 0) ∨ ∃ j, findP n l 0 = some (j, .int .i64 c)) : (Instr.lookup mt (.map (some b)) (enc n) false).run P w = .ok (.int .i64 c) w := by
  have h1 := K.find w n l
  rcases hc with ⟨hc, rfl⟩ | ⟨j, hc⟩
  · simp [Instr.lookup, run_underlying hm, MapKept.run_getObj_map hb, K.check, ents, h1, hc, hz, Result.andThen]
  · simp [Instr.lookup, run_underlying hm, MapKept.run_getObj_map hb, K.check, ents, h1, hc, Result.andThen]
theorem run_entry_not {w : World} {b : Nat} {l : List (α × Int × Nat)} {clock : Nat} (hb : w.heap[b]? = some (.map (ents enc l) clock)) (n : α) (hc : findP n l 0 = none) :
    (Instr.mapEntry mt (.map (some b)) (enc n)).run P w = .ok (.tuple #[.int .i64 0, .int .i64 clock]) (setBlock w b (.map (ents enc (l ++ [(n, 0, clock)])) (clock + 1))) := by
  have h1 := K.find w n l
  simp [Instr.mapEntry, run_underlying hm, MapKept.run_getObj_map hb, K.check, ents, h1, hc, hz, MapKept.run_setObj_map _ hb, Result.andThen, setBlock, ent, goInt]
omit hz in
theorem run_entry_mem {w : World} {b : Nat} {l : List (α × Int × Nat)} {clock : Nat} {j : Nat} {c : Int} {s : Nat} (hb : w.heap[b]? = some (.map (ents enc l) clock)) (n : α) (hc : findP n l 0 = some (j, .int .i64 c)) (hj : l[j]? = some (n, c, s)) :
    (Instr.mapEntry mt (.map (some b)) (enc n)).run P w = .ok (.tuple #[.int .i64 c, .int .i64 s]) (setBlock w b (.map (ents enc l) clock)) := by
  have h1 := K.find w n l
  have h2 : (l.map (ent enc))[j]? = some (ent enc (n, c, s)) := by rw [List.getElem?_map, hj]; rfl
  have h3 : (l.map (ent enc)).modify j (fun e => { e with key := enc n }) = l.map (ent enc) := by
    apply List.ext_getElem?
    intro i
    rw [List.getElem?_modify]
    by_cases hi : j = i
    · subst hi
      rw [h2]
      simp [ent]
    · simp [hi]
  simp [Instr.mapEntry, run_underlying hm, MapKept.run_getObj_map hb, K.check, ents, h1, hc, MapKept.run_setObj_map _ hb, Result.andThen, setBlock, goInt, h3, K.stays, ent, hj]
end
section
variable {mt : TypeId} {enc : α → Value}
omit [DecidableEq α] in
theorem run_store {w : World} {b : Nat} {l r : List (α × Int × Nat)} {n : α} {c : Int} {s : Nat} {clock : Nat} (hb : w.heap[b]? = some (.map (ents enc (l ++ (n, c, s) :: r)) clock)) (hs : ∀ x ∈ l, x.2.2 ≠ s) (v : Int) :
    (Instr.entryStore mt (.map (some b)) (.int .i64 s) (.int .i64 v)).run P w = .ok () (setBlock w b (.map (ents enc (l ++ (n, v, s) :: r)) clock)) := by
  have h1 : (ents enc (l ++ (n, c, s) :: r)).findIdx? (fun e => ((e.born : Nat) : Int) == ((s : Nat) : Int)) = some l.length := by
    rw [findIdx_arr]
    simp only [ents, List.map_append, List.map_cons]
    rw [List.findIdx?_append]
    have h2 : (l.map (ent enc)).findIdx? (fun e => ((e.born : Nat) : Int) == ((s : Nat) : Int)) = none := by
      rw [List.findIdx?_eq_none_iff]
      intro e he
      obtain ⟨x, hx, rfl⟩ := List.mem_map.1 he
      have := hs x hx
      simp only [ent, beq_eq_false_iff_ne, ne_eq, Int.natCast_inj]
      exact this
    rw [h2]
    simp [List.findIdx?_cons, ent]
  have h3 : (ents enc (l ++ (n, c, s) :: r)).modify l.length (fun e => { e with val := .int .i64 v }) = ents enc (l ++ (n, v, s) :: r) := by
    apply Array.ext'
    rw [Array.toList_modify]
    simp only [ents, List.map_append, List.map_cons]
    have := modify_at (fun e : MapEntry => { e with val := .int .i64 v }) (r.map (ent enc)) (ent enc (n, c, s)) (l.map (ent enc))
    rw [List.length_map] at this
    rw [this]
    rfl
  simp [Instr.entryStore, MapKept.run_getObj_map hb, asInt, asIntOf, h1, h3, MapKept.run_setObj_map _ hb, Result.andThen, setBlock]
end
end
end Go.Proofs.Ytnbodfakblbmbaa.Hm
end
