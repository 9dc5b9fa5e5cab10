/- Words about memory by values: a value of Go is told by a tree of its own (A), rows that a call may write by their numbers in a list (Blk); VR, RelH: how a tree stands to the world; Step: what a piece of a run may have turned. Conditions: those that each theorem names. -/
import Derived.Below
import Derived.OrdersHeld
import Derived.Laws.Cells
import Derived.Laws.Tables
import Derived.Laws.Rows
import Derived.Laws.IdiomCopy
import Derived.Laws.Entries
namespace Go.Sym
open Go.RowKit

inductive A where
  | bool (b : Bool)
  | int (k : IntKind) (n : Int)
  | str (s : ByteArray)
  | sl (n : Nat) (cs : List A)
  | nil
  | ref (b v off n : Nat)
  | ptr (b v off : Nat)
  | pt (cs : List A)
  | nilp
  | nilf
  | mref (b v : Nat)
  | ub
  | err (e : Bool)
  | stamp (b v : Nat) (st : Bool) (ks : List Int)
  | fn (f : FuncId) (caps : List A)
  | agg (cs : List A)
  | tup (vs : List A)

instance : Inhabited A := ⟨.tup []⟩

structure Blk where
  v : Nat
  ro : Bool
  esz : Nat
  cs : List A
  mp : Option (Bool × List (List Int × Int))

/-- A row that may be written, cell by cell. -/
def Blk.own (k : Blk) : Bool := !k.ro && k.mp.isNone
/-- A map's key, by its numbers: a struct of three, or one number. -/
def keyV (st : Bool) (ks : List Int) : Value := if st then .agg (ks.map (Value.int .i64)).toArray else .int .i64 (ks.headD 0)
def klen (st : Bool) : Nat := if st then 3 else 1
def entV (st : Bool) (p : List Int × Int × Nat) : MapEntry := ⟨keyV st p.1, .int .i64 p.2.1, p.2.2⟩
/-- A map's entries: keys, counts, births. -/
def entsV (st : Bool) (L : List (List Int × Int × Nat)) : Array MapEntry := (L.map (entV st)).toArray
def lfind : List (List Int × Int × Nat) → List Int → Nat → Option (Nat × Int)
  | [], _, _ => none
  | p :: l, ks, i => if ks = p.1 then some (i, p.2.1) else lfind l ks (i + 1)
def lcnt (L : List (List Int × Int × Nat)) (ks : List Int) : Int := match lfind L ks 0 with | some p => p.2 | none => 0
/-- What a map counts of a key: the last that was laid. -/
def mcnt : List (List Int × Int) → List Int → Int
  | [], _ => 0
  | p :: l, ks => if ks = p.1 then p.2 else mcnt l ks
/-- What a map's entries are, of what it counts. -/
structure MInv (st : Bool) (L : List (List Int × Int × Nat)) (clock : Nat) (l : List (List Int × Int)) : Prop where
  len : ∀ p ∈ L, p.1.length = klen st
  keys : (L.map (·.1)).Nodup
  births : (L.map (·.2.2)).Nodup
  lt : ∀ p ∈ L, p.2.2 < clock
  cnt : ∀ ks, ks.length = klen st → lcnt L ks = mcnt l ks
/-- What a map holds stays in it, under the same number. -/
def MPers (w w' : World) : Prop := ∀ (a : Nat) (es : Array MapEntry) (cl : Nat), w.heap[a]? = some (.map es cl) → ∃ es' cl', w'.heap[a]? = some (.map es' cl') ∧ ∀ e ∈ es.toList, ∃ e' ∈ es'.toList, e'.key = e.key ∧ e'.born = e.born
theorem MPers.refl (w : World) : MPers w w := fun _ es cl h => ⟨es, cl, h, fun e he => ⟨e, he, rfl, rfl⟩⟩
theorem MPers.trans {a b c : World} (h : MPers a b) (g : MPers b c) : MPers a c := fun q es cl hq => by
  obtain ⟨es1, cl1, h1, h2⟩ := h q es cl hq
  obtain ⟨es2, cl2, g1, g2⟩ := g q es1 cl1 h1
  refine ⟨es2, cl2, g1, fun e he => ?_⟩
  obtain ⟨e1, i1, i2, i3⟩ := h2 e he
  obtain ⟨e2, j1, j2, j3⟩ := g2 e1 i1
  exact ⟨e2, j1, j2.trans i2, j3.trans i3⟩
theorem MPers.of_blk {w w' : World} (h : ∀ a, a < w.heap.size → w'.heap[a]? = w.heap[a]?) : MPers w w' := fun a es cl ha => by
  have hl : a < w.heap.size := by
    rcases Nat.lt_or_ge a w.heap.size with h' | h'
    · exact h'
    · rw [Array.getElem?_eq_none h'] at ha; cases ha
  exact ⟨es, cl, by rw [h a hl, ha], fun e he => ⟨e, he, rfl, rfl⟩⟩

structure Cx where
  H : Nat → Option Blk
  io : Nat → Nat × Nat
  w : World
  X : Nat → Prop

def Cx.Own (c : Cx) (k : Nat) : Prop := ∃ b blk, c.H b = some blk ∧ blk.ro = false ∧ (c.io b).1 = k
def Cx.Z (c : Cx) (k : Nat) : Prop := c.X k ∨ c.Own k
def Cx.at (c : Cx) (b off : Nat) : Addr := ⟨(c.io b).1, (c.io b).2 + off, none⟩

/-- What lies at an address, cell by cell. -/
def reads (w : World) (ad : Addr) (vs : List Value) : Prop := ∀ j x, vs[j]? = some x → w.cell? ⟨ad.block, ad.off + j, none⟩ = some x

mutual
def VR (c : Cx) : A → Value → Prop
  | .bool b, v => v = .bool b
  | .int k n, v => v = .int k n
  | .str s, v => v = .string s
  | .nil, v => ∃ a, v = .slice a 0 0
  | .nilp, v => v = .pointer none
  | .nilf, v => v = .nilFunc
  | .sl n cs, v => ∃ a cap, v = .slice a n cap ∧ n ≤ cap ∧ (n = 0 ∨ ∃ ad vs, a = some ad ∧ ad.spot = none ∧ ad.block < c.w.heap.size ∧ ¬ c.Z ad.block ∧ reads c.w ad vs ∧ VRs c cs vs)
  | .pt cs, v => ∃ ad vs, v = .pointer (some ad) ∧ ad.spot = none ∧ ad.block < c.w.heap.size ∧ ¬ c.Z ad.block ∧ reads c.w ad vs ∧ VRs c cs vs
  | .ref b ver off n, v => ∃ k a cap, c.H b = some k ∧ ver ≤ k.v ∧ v = .slice a n cap ∧ (n ≤ cap ∧ cap ≤ 9223372036854775807) ∧ (ver = k.v →
      (cap = 0 ∨ k.ro = false ∧ a = some (c.at b off) ∧ ∀ j, j < cap * k.esz → (c.w.cell? (c.at b (off + j))).isSome = true))
  | .ptr b ver off, v => ∃ k p, c.H b = some k ∧ ver ≤ k.v ∧ v = .pointer (some p) ∧ (ver = k.v → p = c.at b off)
  | .ub, v => ∃ b, v = .bool b
  | .err e, v => if e then ∃ t u, v = .iface t u else v = .nilIface
  | .mref b ver, v => ∃ k p, c.H b = some k ∧ ver ≤ k.v ∧ v = .map (some p) ∧ (ver = k.v → p = (c.io b).1)
  | .stamp b ver st ks, v => ∃ k s, c.H b = some k ∧ ver ≤ k.v ∧ v = .int .i64 s ∧ (ver = k.v → ∃ es cl, c.w.heap[(c.io b).1]? = some (.map es cl) ∧ ∃ e ∈ es.toList, (e.born : Int) = s ∧ e.key = keyV st ks)
  | .fn f cs, v => ∃ vs : Array Value, v = .func (.func f) #[] vs ∧ VRs c cs vs.toList
  | .agg cs, v => ∃ vs : Array Value, v = .agg vs ∧ VRs c cs vs.toList
  | .tup cs, v => ∃ vs : Array Value, v = .tuple vs ∧ VRs c cs vs.toList
def VRs (c : Cx) : List A → List Value → Prop
  | [], vs => vs = []
  | x :: xs, vs => ∃ v vs', vs = v :: vs' ∧ VR c x v ∧ VRs c xs vs'
end

structure RelH (c : Cx) : Prop where
  cell : ∀ b k, c.H b = some k → ∀ j x, k.cs[j]? = some x → ∃ v, c.w.cell? (c.at b j) = some v ∧ VR c x v
  vz : ∀ b k, c.H b = some k → k.ro = true → k.cs = []
  lt : ∀ b k, c.H b = some k → k.ro = false → (c.io b).1 < c.w.heap.size
  fz : ∀ b k, c.H b = some k → k.ro = false → k.mp = none → ∃ cs ty, c.w.heap[(c.io b).1]? = some (.cells cs ty (0, 0))
  mz : ∀ b k st l, c.H b = some k → k.mp = some (st, l) → k.ro = false ∧ k.cs = [] ∧ ∃ L clock, c.w.heap[(c.io b).1]? = some (.map (entsV st L) clock) ∧ MInv st L clock l
  uni : ∀ b b' k k', c.H b = some k → c.H b' = some k' → k.ro = false → k'.ro = false → b ≠ b' → (c.io b).1 ≠ (c.io b').1
  nx : ∀ b k, c.H b = some k → k.ro = false → ¬ c.X (c.io b).1
  xlt : ∀ k, c.X k → k < c.w.heap.size

structure Step (c c' : Cx) : Prop where
  os : c'.w.os = c.w.os
  tape : c'.w.tape = c.w.tape
  output : c'.w.output = c.w.output
  size : c.w.heap.size ≤ c'.w.heap.size
  blk : ∀ k, k < c.w.heap.size → ¬ c.Own k → c'.w.heap[k]? = c.w.heap[k]?
  own : ∀ k, c'.Own k → c.Own k ∨ c.w.heap.size ≤ k
  ids : ∀ b k, c.H b = some k → ∃ k', c'.H b = some k' ∧ k.v ≤ k'.v ∧ (k'.v = k.v → c'.io b = c.io b ∧ k'.esz = k.esz ∧ k'.ro = k.ro)
  x : c'.X = c.X
  cells : ∀ ad, (c.w.cell? ad).isSome = true → (c'.w.cell? ad).isSome = true
  maps : MPers c.w c'.w

theorem Step.refl (c : Cx) : Step c c :=
  ⟨rfl, rfl, rfl, Nat.le_refl _, fun _ _ _ => rfl, fun _ h => .inl h, fun _ k h => ⟨k, h, Nat.le_refl _, fun _ => ⟨rfl, rfl, rfl⟩⟩, rfl, fun _ h => h, MPers.refl _⟩

theorem Step.trans {a b c : Cx} (h : Step a b) (g : Step b c) : Step a c where
  os := g.os.trans h.os
  tape := g.tape.trans h.tape
  output := g.output.trans h.output
  size := Nat.le_trans h.size g.size
  blk := fun k hk ho => by
    rw [g.blk k (Nat.lt_of_lt_of_le hk h.size) (fun h' => by rcases h.own k h' with h' | h'; exact ho h'; omega), h.blk k hk ho]
  own := fun k hk => by
    rcases g.own k hk with h' | h'
    · exact h.own k h'
    · exact .inr (Nat.le_trans h.size h')
  ids := fun _ k hk => by
    obtain ⟨k', h1, h2, h3⟩ := h.ids _ k hk
    obtain ⟨k'', g1, g2, g3⟩ := g.ids _ k' h1
    refine ⟨k'', g1, Nat.le_trans h2 g2, fun e => ?_⟩
    have e1 : k'.v = k.v := by omega
    have e2 : k''.v = k'.v := by omega
    exact ⟨(g3 e2).1.trans (h3 e1).1, (g3 e2).2.1.trans (h3 e1).2.1, (g3 e2).2.2.trans (h3 e1).2.2⟩
  x := g.x.trans h.x
  cells := fun ad hh => g.cells ad (h.cells ad hh)
  maps := h.maps.trans g.maps

theorem Step.z {c c' : Cx} (h : Step c c') {k : Nat} (hk : k < c.w.heap.size) (hz : ¬ c.Z k) : ¬ c'.Z k := by
  rintro (hx | ho)
  · exact hz (.inl (by rw [← h.x]; exact hx))
  · rcases h.own k ho with h' | h'
    · exact hz (.inr h')
    · omega

theorem Step.reads {c c' : Cx} (h : Step c c') {ad : Addr} {vs : List Value} (hk : ad.block < c.w.heap.size) (hz : ¬ c.Z ad.block) (hr : reads c.w ad vs) : reads c'.w ad vs := by
  intro j x hj
  rw [← hr j x hj]
  exact World.cell?_of_block (w := c.w) (h.blk ad.block hk (fun ho => hz (.inr ho)))

theorem Cx.at_eq {c c' : Cx} {b : Nat} (h : c'.io b = c.io b) (off : Nat) : c'.at b off = c.at b off := by simp [Cx.at, h]

mutual
theorem VR.step {c c' : Cx} (h : Step c c') : ∀ (x : A) (v : Value), VR c x v → VR c' x v
  | .bool _, _, hv => hv
  | .int _ _, _, hv => hv
  | .str _, _, hv => hv
  | .nil, _, hv => hv
  | .nilp, _, hv => hv
  | .nilf, _, hv => hv
  | .ub, _, hv => hv
  | .err _, _, hv => hv
  | .sl n cs, v, hv => by
    simp only [VR] at hv ⊢
    obtain ⟨a, cap, rfl, hn, hv⟩ := hv
    refine ⟨a, cap, rfl, hn, hv.imp id fun ⟨ad, vs, h1, h2, h3, h4, h5, h6⟩ => ⟨ad, vs, h1, h2, Nat.lt_of_lt_of_le h3 h.size, h.z h3 h4, h.reads h3 h4 h5, VRs.step h cs vs h6⟩⟩
  | .pt cs, v, hv => by
    simp only [VR] at hv ⊢
    obtain ⟨ad, vs, h1, h2, h3, h4, h5, h6⟩ := hv
    exact ⟨ad, vs, h1, h2, Nat.lt_of_lt_of_le h3 h.size, h.z h3 h4, h.reads h3 h4 h5, VRs.step h cs vs h6⟩
  | .ref b ver off n, v, hv => by
    simp only [VR] at hv ⊢
    obtain ⟨k, a, cap, h1, h2, rfl, hn, h3⟩ := hv
    obtain ⟨k', g1, g2, g3⟩ := h.ids b k h1
    refine ⟨k', a, cap, g1, Nat.le_trans h2 g2, rfl, hn, fun e => ?_⟩
    have e1 : k'.v = k.v := by omega
    obtain ⟨i1, i2, i3⟩ := g3 e1
    refine (h3 (by omega)).imp id fun ⟨j0, j1, j3⟩ => ⟨by rw [i3, j0], by rw [j1, Cx.at_eq i1], fun j hj => ?_⟩
    rw [Cx.at_eq i1]
    exact h.cells _ (j3 j (by rw [← i2]; exact hj))
  | .ptr b ver off, v, hv => by
    simp only [VR] at hv ⊢
    obtain ⟨k, p, h1, h2, rfl, h3⟩ := hv
    obtain ⟨k', g1, g2, g3⟩ := h.ids b k h1
    refine ⟨k', p, g1, Nat.le_trans h2 g2, rfl, fun e => ?_⟩
    rw [h3 (by omega), Cx.at_eq (g3 (by omega)).1]
  | .mref b ver, v, hv => by
    simp only [VR] at hv ⊢
    obtain ⟨k, p, h1, h2, rfl, h3⟩ := hv
    obtain ⟨k', g1, g2, g3⟩ := h.ids b k h1
    refine ⟨k', p, g1, Nat.le_trans h2 g2, rfl, fun e => ?_⟩
    rw [h3 (by omega), (g3 (by omega)).1]
  | .stamp b ver st ks, v, hv => by
    simp only [VR] at hv ⊢
    obtain ⟨k, s, h1, h2, rfl, h3⟩ := hv
    obtain ⟨k', g1, g2, g3⟩ := h.ids b k h1
    refine ⟨k', s, g1, Nat.le_trans h2 g2, rfl, fun e => ?_⟩
    obtain ⟨es, cl, i1, x, i2, i3, i4⟩ := h3 (by omega)
    obtain ⟨es', cl', j1, j2⟩ := h.maps _ es cl i1
    obtain ⟨x', m1, m2, m3⟩ := j2 x i2
    exact ⟨es', cl', by rw [(g3 (by omega)).1]; exact j1, x', m1, by rw [m3]; exact i3, by rw [m2]; exact i4⟩
  | .fn f cs, v, hv => by
    simp only [VR] at hv ⊢
    obtain ⟨vs, h1, h2⟩ := hv
    exact ⟨vs, h1, VRs.step h cs _ h2⟩
  | .agg cs, v, hv => by
    simp only [VR] at hv ⊢
    obtain ⟨vs, h1, h2⟩ := hv
    exact ⟨vs, h1, VRs.step h cs _ h2⟩
  | .tup cs, v, hv => by
    simp only [VR] at hv ⊢
    obtain ⟨vs, h1, h2⟩ := hv
    exact ⟨vs, h1, VRs.step h cs _ h2⟩
theorem VRs.step {c c' : Cx} (h : Step c c') : ∀ (xs : List A) (vs : List Value), VRs c xs vs → VRs c' xs vs
  | [], _, hv => hv
  | x :: xs, vs, hv => by
    simp only [VRs] at hv ⊢
    obtain ⟨v, vs', h1, h2, h3⟩ := hv
    exact ⟨v, vs', h1, VR.step h x v h2, VRs.step h xs vs' h3⟩
end

theorem Blk.own_iff {k : Blk} (h : k.own = true) : k.ro = false ∧ k.mp = none := by
  simpa [Blk.own] using h
@[simp] theorem Blk.own_mk (v e : Nat) (cs : List A) : Blk.own ⟨v, false, e, cs, none⟩ = true := rfl

theorem VRs.length {c : Cx} : ∀ {xs : List A} {vs : List Value}, VRs c xs vs → vs.length = xs.length
  | [], vs, h => by simp only [VRs] at h; simp [h]
  | x :: xs, vs, h => by
    simp only [VRs] at h
    obtain ⟨v, vs', rfl, _, h3⟩ := h
    simp [VRs.length h3]

theorem VRs.get {c : Cx} : ∀ {xs : List A} {vs : List Value}, VRs c xs vs → ∀ {j : Nat} {x : A}, xs[j]? = some x → ∃ v, vs[j]? = some v ∧ VR c x v
  | [], vs, h, j, x, hj => by simp at hj
  | y :: xs, vs, h, j, x, hj => by
    simp only [VRs] at h
    obtain ⟨v, vs', rfl, h2, h3⟩ := h
    cases j with
    | zero => simp at hj; subst hj; exact ⟨v, by simp, h2⟩
    | succ j => simp at hj; obtain ⟨u, hu, hr⟩ := VRs.get h3 hj; exact ⟨u, by simpa using hu, hr⟩

theorem VRs.mk {c : Cx} : ∀ {xs : List A} {vs : List Value}, vs.length = xs.length → (∀ (j : Nat) (x : A) (v : Value), xs[j]? = some x → vs[j]? = some v → VR c x v) → VRs c xs vs
  | [], vs, h, _ => by simp only [VRs]; exact List.length_eq_zero_iff.1 h
  | x :: xs, [], h, _ => by simp at h
  | x :: xs, v :: vs, h, g => by
    simp only [VRs]
    exact ⟨v, vs, rfl, g 0 x v rfl rfl, VRs.mk (by simpa using h) fun j y u hj hu => g (j + 1) y u (by simpa using hj) (by simpa using hu)⟩

theorem VRs.app {c : Cx} {xs ys : List A} {vs us : List Value} (h : VRs c xs vs) (g : VRs c ys us) : VRs c (xs ++ ys) (vs ++ us) := by
  induction xs generalizing vs with
  | nil => simp only [VRs] at h; subst h; simpa using g
  | cons x xs ih =>
    simp only [VRs] at h
    obtain ⟨v, vs', rfl, h2, h3⟩ := h
    simp only [List.cons_append, VRs]
    exact ⟨v, vs' ++ us, rfl, h2, ih h3⟩

theorem VRs.drop {c : Cx} : ∀ {xs : List A} {vs : List Value} (n : Nat), VRs c xs vs → VRs c (xs.drop n) (vs.drop n)
  | xs, vs, 0, h => by simpa using h
  | [], vs, n + 1, h => by simp only [VRs] at h; subst h; simp [VRs]
  | x :: xs, vs, n + 1, h => by
    simp only [VRs] at h
    obtain ⟨v, vs', rfl, h2, h3⟩ := h
    simpa using VRs.drop n h3

theorem VRs.take {c : Cx} : ∀ {xs : List A} {vs : List Value} (n : Nat), VRs c xs vs → VRs c (xs.take n) (vs.take n)
  | xs, vs, 0, h => by simp [VRs]
  | [], vs, n + 1, h => by simp only [VRs] at h; subst h; simp [VRs]
  | x :: xs, vs, n + 1, h => by
    simp only [VRs] at h
    obtain ⟨v, vs', rfl, h2, h3⟩ := h
    simp only [List.take_succ_cons, VRs]
    exact ⟨v, vs'.take n, rfl, h2, VRs.take n h3⟩

theorem reads.drop {w : World} {ad : Addr} {vs : List Value} (h : reads w ad vs) (n : Nat) : reads w { ad with off := ad.off + n, spot := none } (vs.drop n) := by
  intro j x hj
  rw [List.getElem?_drop] at hj
  have := h (n + j) x hj
  simpa [Nat.add_assoc] using this

theorem reads.take {w : World} {ad : Addr} {vs : List Value} (h : reads w ad vs) (n : Nat) : reads w ad (vs.take n) := by
  intro j x hj
  rw [List.getElem?_take] at hj
  split at hj
  · exact h j x hj
  · simp at hj
end Go.Sym
