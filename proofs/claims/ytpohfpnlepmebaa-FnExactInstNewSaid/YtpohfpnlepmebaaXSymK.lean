/- Calls: what a call of a function may be said to do (SemT), a call that only reads what it is handed, a call that goes on over the caller's own rows. Conditions: those that each theorem names. -/
import Derived.Test.YtpohfpnlepmebaaXSymJ
import Derived.Lib.ItoaNum
set_option linter.unusedVariables false
set_option linter.unusedSimpArgs false
namespace Go.Sym
open Go.RowKit

mutual
/-- Nothing in it is a row that may be written. -/
def noOwn : A → Bool
  | .ref _ _ _ _ => false
  | .ptr _ _ _ => false
  | .mref _ _ => false
  | .stamp _ _ _ _ => false
  | .sl _ cs => noOwns cs
  | .pt cs => noOwns cs
  | .fn _ cs => noOwns cs
  | .agg cs => noOwns cs
  | .tup cs => noOwns cs
  | _ => true
def noOwns : List A → Bool
  | [] => true
  | x :: xs => noOwn x && noOwns xs
end

mutual
/-- Nothing in it is a row that is only read. -/
def nosl : A → Bool
  | .sl _ _ => false
  | .pt _ => false
  | .fn _ cs => nosls cs
  | .agg cs => nosls cs
  | .tup cs => nosls cs
  | _ => true
def nosls : List A → Bool
  | [] => true
  | x :: xs => nosl x && nosls xs
end

mutual
def shiftA (n : Nat) : A → A
  | .ref b v o m => .ref (b + n) v o m
  | .ptr b v o => .ptr (b + n) v o
  | .mref b v => .mref (b + n) v
  | .stamp b v st ks => .stamp (b + n) v st ks
  | .sl m cs => .sl m (shiftAs n cs)
  | .pt cs => .pt (shiftAs n cs)
  | .fn f cs => .fn f (shiftAs n cs)
  | .agg cs => .agg (shiftAs n cs)
  | .tup cs => .tup (shiftAs n cs)
  | x => x
def shiftAs (n : Nat) : List A → List A
  | [] => []
  | x :: xs => shiftA n x :: shiftAs n xs
end

def shiftB (n : Nat) (k : Blk) : Blk := { k with cs := shiftAs n k.cs }

def viewL (f : A → Option A) : List A → Option (List A)
  | [] => some []
  | x :: xs => match f x, viewL f xs with
    | some y, some ys => some (y :: ys)
    | _, _ => none

/-- A value as one that is only read. -/
def viewA : Nat → List Blk → A → Option A
  | 0, _, _ => none
  | n + 1, H, .ref b v off m => match H[b]? with
    | some k => if k.v = v ∧ off + m * k.esz ≤ k.cs.length then (viewL (viewA n H) ((k.cs.drop off).take (m * k.esz))).map (A.sl m ·) else none
    | none => none
  | n + 1, H, .ptr b v off => match H[b]? with
    | some k => if k.v = v ∧ k.ro = false then (viewL (viewA n H) (k.cs.drop off)).map A.pt else none
    | none => none
  | n + 1, H, .sl m cs => (viewL (viewA n H) cs).map (A.sl m ·)
  | n + 1, H, .pt cs => (viewL (viewA n H) cs).map A.pt
  | n + 1, H, .fn f cs => (viewL (viewA n H) cs).map (A.fn f ·)
  | n + 1, H, .agg cs => (viewL (viewA n H) cs).map A.agg
  | n + 1, H, .tup cs => (viewL (viewA n H) cs).map A.tup
  | _ + 1, _, .nil => some (.sl 0 [])
  | _ + 1, _, .mref _ _ => none
  | _ + 1, _, .stamp _ _ _ _ => none
  | _ + 1, _, x => some x

/-- What some variables of Go's own packages hold, in a program that has them. -/
def gvars : List (String × (Array Value → Prop)) :=
  [("internal/strconv.uint64pow10", fun cs => cs = (Lib.pow10Tab.map fun z => Value.int .u64 z).toArray), ("strconv.ErrSyntax", fun cs => ∃ t u, cs = #[.iface t u]), ("strconv.ErrRange", fun cs => ∃ t u, cs = #[.iface t u])]
def Gd (P : Program) (c : Cx) : Prop := ∀ p ∈ gvars, ∀ g, P.globalNamed p.1 = some g → ¬ c.Own g ∧ ∃ cs, c.w.var? P p.1 = some cs ∧ p.2 cs
theorem Gd.step {P : Program} {c c' : Cx} (h : Gd P c) (s : Step c c') : Gd P c' := by
  intro p hp g hg
  obtain ⟨h1, cs, h2, h3⟩ := h p hp g hg
  have hlt : g < c.w.heap.size := by
    rcases Nat.lt_or_ge g c.w.heap.size with h' | h'
    · exact h'
    · unfold World.var? at h2
      rw [hg] at h2
      simp only [Option.bind_some] at h2
      rw [Array.getElem?_eq_none h'] at h2
      cases h2
  refine ⟨fun ho => ?_, cs, ?_, h3⟩
  · rcases s.own g ho with h' | h'
    · exact h1 h'
    · omega
  · rw [← h2]
    unfold World.var?
    rw [hg]
    simp only [Option.bind_some]
    rw [s.blk g hlt h1]

def SemT (P : Program) (f : FuncId) (xs : List A) (H : List Blk) (r : A) (H' : List Blk) : Prop :=
  ∀ (c : Cx) (vs : Array Value), Gd P c → RelH c → c.H = (fun b => H[b]?) → VRs c xs vs.toList →
    Calls P f vs c.w fun e w' => ∃ v c', e = .returned v ∧ c'.w = w' ∧ c'.H = (fun b => H'[b]?) ∧ RelH c' ∧ VR c' r v ∧ Step c c'

def ownBlks (_ : List Blk) : Bool := true
def noslBlks (Hr : List Blk) : Bool := Hr.all fun k => nosls k.cs

def callR (P : Program) (S : FuncId → Bool) (f : FuncId) (xs : List A) (H : List Blk) (r : A) (d : Dl) : Prop :=
  if S f then ∃ T H', SemT P f xs H r H' ∧ H.length ≤ H'.length ∧ (∀ b, b ∉ T → b < H.length → H'[b]? = H[b]?) ∧ d = .full T H'
  else ∃ ys r0 Hr, viewL (viewA 8 H) xs = some ys ∧ SemT P f ys [] r0 Hr ∧ ownBlks Hr = true ∧ (noOwns xs = true ∨ nosl r0 = true ∧ noslBlks Hr = true) ∧
    r = shiftA H.length r0 ∧ d = .news (Hr.map (shiftB H.length))

def Cx.bare (c : Cx) (X : Nat → Prop) : Cx := ⟨fun _ => none, fun _ => (0, 0), c.w, X⟩

theorem Gd.bare {P : Program} {c : Cx} (h : Gd P c) (X : Nat → Prop) : Gd P (c.bare X) := fun p hp g hg =>
  ⟨fun ⟨b, blk, h, _⟩ => (by cases h), (h p hp g hg).2⟩
theorem Cx.bare_z (c : Cx) (X : Nat → Prop) (k : Nat) : (c.bare X).Z k ↔ X k := by
  constructor
  · rintro (h | ⟨b, blk, h, _⟩)
    · exact h
    · cases h
  · exact .inl

mutual
theorem VR.bare {c : Cx} : ∀ (x : A) (v : Value), noOwn x = true → VR c x v → VR (c.bare c.Z) x v
  | .bool _, _, _, h => h
  | .int _ _, _, _, h => h
  | .str _, _, _, h => h
  | .nil, _, _, h => h
  | .nilp, _, _, h => h
  | .nilf, _, _, h => h
  | .ub, _, _, h => h
  | .err _, _, _, h => h
  | .sl n cs, v, ho, h => by
    simp only [VR] at h ⊢
    obtain ⟨a, cap, rfl, hn, h⟩ := h
    exact ⟨a, cap, rfl, hn, h.imp id fun ⟨ad, vs, h1, h2, h3, h4, h5, h6⟩ => ⟨ad, vs, h1, h2, h3, by rw [Cx.bare_z]; exact h4, h5, VRs.bare cs vs (by simpa [noOwn] using ho) h6⟩⟩
  | .pt cs, v, ho, h => by
    simp only [VR] at h ⊢
    obtain ⟨ad, vs, h1, h2, h3, h4, h5, h6⟩ := h
    exact ⟨ad, vs, h1, h2, h3, by rw [Cx.bare_z]; exact h4, h5, VRs.bare cs vs (by simpa [noOwn] using ho) h6⟩
  | .ref _ _ _ _, _, ho, _ => by simp [noOwn] at ho
  | .ptr _ _ _, _, ho, _ => by simp [noOwn] at ho
  | .mref _ _, _, ho, _ => by simp [noOwn] at ho
  | .stamp _ _ _ _, _, ho, _ => by simp [noOwn] at ho
  | .fn f cs, v, ho, h => by
    simp only [VR] at h ⊢
    obtain ⟨vs, h1, h2⟩ := h
    exact ⟨vs, h1, VRs.bare cs _ (by simpa [noOwn] using ho) h2⟩
  | .agg cs, v, ho, h => by
    simp only [VR] at h ⊢
    obtain ⟨vs, h1, h2⟩ := h
    exact ⟨vs, h1, VRs.bare cs _ (by simpa [noOwn] using ho) h2⟩
  | .tup cs, v, ho, h => by
    simp only [VR] at h ⊢
    obtain ⟨vs, h1, h2⟩ := h
    exact ⟨vs, h1, VRs.bare cs _ (by simpa [noOwn] using ho) h2⟩
theorem VRs.bare {c : Cx} : ∀ (xs : List A) (vs : List Value), noOwns xs = true → VRs c xs vs → VRs (c.bare c.Z) xs vs
  | [], _, _, h => h
  | x :: xs, vs, ho, h => by
    simp only [VRs] at h ⊢
    simp [noOwns] at ho
    obtain ⟨v, vs', h1, h2, h3⟩ := h
    exact ⟨v, vs', h1, VR.bare x v ho.1 h2, VRs.bare xs vs' ho.2 h3⟩
end

theorem VRs.viewL {c c0 : Cx} {f : A → Option A} (hf : ∀ x y v, f x = some y → VR c x v → VR c0 y v) : ∀ {xs ys : List A} {vs : List Value}, viewL f xs = some ys → VRs c xs vs → VRs c0 ys vs
  | [], ys, vs, h, hv => by simp [Sym.viewL] at h; subst h; exact hv
  | x :: xs, ys, vs, h, hv => by
    simp only [Sym.viewL] at h
    split at h
    · rename_i y ys' h1 h2
      cases h
      simp only [VRs] at hv
      obtain ⟨v, vs', g1, g2, g3⟩ := hv
      exact ⟨v, vs', g1, hf _ _ _ h1 g2, VRs.viewL hf h2 g3⟩
    · cases h

theorem VR.view {c : Cx} (hr : RelH c) {H : List Blk} (hsub : Sub c H) (X : Nat → Prop) (hX : ∀ k, X k → c.X k) : ∀ (n : Nat) (x y : A) (v : Value), viewA n H x = some y → VR c x v → VR (c.bare X) y v := by
  intro n
  induction n with
  | zero => intro x y v h; simp [viewA] at h
  | succ n ih =>
    intro x y v h hv
    have hz : ∀ k, ¬ c.Z k → ¬ (c.bare X).Z k := fun k hk => by rw [Cx.bare_z]; exact fun hx => hk (.inl (hX k hx))
    cases x with
    | bool b => simp [viewA] at h; subst h; exact hv
    | int k m => simp [viewA] at h; subst h; exact hv
    | str s => simp [viewA] at h; subst h; exact hv
    | nilp => simp [viewA] at h; subst h; exact hv
    | nilf => simp [viewA] at h; subst h; exact hv
    | ub => simp [viewA] at h; subst h; exact hv
    | err b => simp [viewA] at h; subst h; exact hv
    | mref b v => simp [viewA] at h
    | stamp b v st ks => simp [viewA] at h
    | nil =>
      simp [viewA] at h; subst h
      simp only [VR] at hv ⊢
      obtain ⟨a, rfl⟩ := hv
      exact ⟨a, 0, rfl, Nat.le_refl _, by simp⟩
    | ref b ver off m =>
      simp only [viewA] at h
      split at h
      · rename_i k hk
        split at h
        · rename_i hc
          cases hl : viewL (viewA n H) ((k.cs.drop off).take (m * k.esz)) with
          | none => simp [hl] at h
          | some ys =>
            simp [hl] at h
            subst h
            simp only [VR] at hv ⊢
            obtain ⟨k', a, cap, g1, g2, rfl, gn, g4⟩ := hv
            have hck : c.H b = some k := by rcases hsub b k hk with h' | h' <;> simp_all
            rw [hck] at g1
            cases g1
            refine ⟨a, cap, rfl, gn.1, ?_⟩
            rcases g4 hc.1.symm with g4 | ⟨g0, rfl, g5⟩
            · left; omega
            · right
              obtain ⟨vs, i1, i2⟩ := rowVals hr hck
              refine ⟨c.at b off, (vs.drop off).take (m * k.esz), rfl, rfl, hr.lt b k hck g0, ?_, ?_, VRs.viewL ih hl ((i2.drop off).take _)⟩
              · rw [Cx.bare_z]; exact fun hx => hr.nx b k hck g0 (hX _ hx)
              · intro j u hj
                have := ((i1.drop off).take (m * k.esz)) j u hj
                show c.w.cell? _ = some u
                simpa [Cx.at] using this
        · cases h
      · cases h
    | ptr b ver off =>
      simp only [viewA] at h
      split at h
      · rename_i k hk
        split at h
        · rename_i hc
          cases hl : viewL (viewA n H) (k.cs.drop off) with
          | none => simp [hl] at h
          | some ys =>
            simp [hl] at h
            subst h
            simp only [VR] at hv ⊢
            obtain ⟨k', p, g1, g2, rfl, g4⟩ := hv
            have hck : c.H b = some k := by rcases hsub b k hk with h' | h' <;> simp_all
            rw [hck] at g1
            cases g1
            have := g4 hc.1.symm
            subst this
            obtain ⟨vs, i1, i2⟩ := rowVals hr hck
            refine ⟨c.at b off, vs.drop off, rfl, rfl, hr.lt b k hck hc.2, ?_, ?_, VRs.viewL ih hl (i2.drop off)⟩
            · rw [Cx.bare_z]; exact fun hx => hr.nx b k hck hc.2 (hX _ hx)
            · intro j u hj
              have := (i1.drop off) j u hj
              show c.w.cell? _ = some u
              simpa [Cx.at] using this
        · cases h
      · cases h
    | sl m cs =>
      simp only [viewA] at h
      cases hl : viewL (viewA n H) cs with
      | none => simp [hl] at h
      | some ys =>
        simp [hl] at h
        subst h
        simp only [VR] at hv ⊢
        obtain ⟨a, cap, rfl, hn, hv⟩ := hv
        exact ⟨a, cap, rfl, hn, hv.imp id fun ⟨ad, vs, h1, h2, h3, h4, h5, h6⟩ => ⟨ad, vs, h1, h2, h3, hz _ h4, h5, VRs.viewL ih hl h6⟩⟩
    | pt cs =>
      simp only [viewA] at h
      cases hl : viewL (viewA n H) cs with
      | none => simp [hl] at h
      | some ys =>
        simp [hl] at h
        subst h
        simp only [VR] at hv ⊢
        obtain ⟨ad, vs, h1, h2, h3, h4, h5, h6⟩ := hv
        exact ⟨ad, vs, h1, h2, h3, hz _ h4, h5, VRs.viewL ih hl h6⟩
    | fn f cs =>
      simp only [viewA] at h
      cases hl : viewL (viewA n H) cs with
      | none => simp [hl] at h
      | some ys =>
        simp [hl] at h
        subst h
        simp only [VR] at hv ⊢
        obtain ⟨vs, h1, h2⟩ := hv
        exact ⟨vs, h1, VRs.viewL ih hl h2⟩
    | agg cs =>
      simp only [viewA] at h
      cases hl : viewL (viewA n H) cs with
      | none => simp [hl] at h
      | some ys =>
        simp [hl] at h
        subst h
        simp only [VR] at hv ⊢
        obtain ⟨vs, h1, h2⟩ := hv
        exact ⟨vs, h1, VRs.viewL ih hl h2⟩
    | tup cs =>
      simp only [viewA] at h
      cases hl : viewL (viewA n H) cs with
      | none => simp [hl] at h
      | some ys =>
        simp [hl] at h
        subst h
        simp only [VR] at hv ⊢
        obtain ⟨vs, h1, h2⟩ := hv
        exact ⟨vs, h1, VRs.viewL ih hl h2⟩

mutual
theorem VR.shift {c0 c' : Cx} (n : Nat) (hw : c'.w = c0.w) (hH : ∀ b k, c0.H b = some k → c'.H (b + n) = some (shiftB n k) ∧ c'.io (b + n) = c0.io b) (q : Bool) (hz : q = true → ∀ k, ¬ c0.Z k → ¬ c'.Z k) : ∀ (x : A) (v : Value), (q = true ∨ nosl x = true) → VR c0 x v → VR c' (shiftA n x) v
  | .bool _, _, _, h => h
  | .int _ _, _, _, h => h
  | .str _, _, _, h => h
  | .nil, _, _, h => h
  | .nilp, _, _, h => h
  | .nilf, _, _, h => h
  | .ub, _, _, h => h
  | .err _, _, _, h => h
  | .sl m cs, v, ho, h => by
    rcases ho with ho | ho
    · simp only [shiftA, VR] at h ⊢
      obtain ⟨a, cap, rfl, hn, h⟩ := h
      exact ⟨a, cap, rfl, hn, h.imp id fun ⟨ad, vs, h1, h2, h3, h4, h5, h6⟩ => ⟨ad, vs, h1, h2, by rw [hw]; exact h3, hz ho _ h4, by rw [hw]; exact h5, VRs.shift n hw hH q hz cs vs (.inl ho) h6⟩⟩
    · simp [nosl] at ho
  | .pt cs, v, ho, h => by
    rcases ho with ho | ho
    · simp only [shiftA, VR] at h ⊢
      obtain ⟨ad, vs, h1, h2, h3, h4, h5, h6⟩ := h
      exact ⟨ad, vs, h1, h2, by rw [hw]; exact h3, hz ho _ h4, by rw [hw]; exact h5, VRs.shift n hw hH q hz cs vs (.inl ho) h6⟩
    · simp [nosl] at ho
  | .ref b ver off m, v, _, h => by
    simp only [shiftA, VR] at h ⊢
    obtain ⟨k, a, cap, g1, g2, rfl, gn, g4⟩ := h
    obtain ⟨h1, h2⟩ := hH b k g1
    refine ⟨_, a, cap, h1, g2, rfl, gn, fun hk => ?_⟩
    have hat : ∀ o, c'.at (b + n) o = c0.at b o := fun o => by simp [Cx.at, h2]
    simp only [hat, hw]
    exact g4 hk
  | .ptr b ver off, v, _, h => by
    simp only [shiftA, VR] at h ⊢
    obtain ⟨k, p, g1, g2, rfl, g4⟩ := h
    obtain ⟨h1, h2⟩ := hH b k g1
    refine ⟨_, p, h1, g2, rfl, fun hk => ?_⟩
    rw [g4 hk]
    simp [Cx.at, h2]
  | .mref b ver, v, _, h => by
    simp only [shiftA, VR] at h ⊢
    obtain ⟨k, p, g1, g2, rfl, g4⟩ := h
    obtain ⟨h1, h2⟩ := hH b k g1
    exact ⟨_, p, h1, g2, rfl, fun hk => by rw [g4 hk, h2]⟩
  | .stamp b ver st ks, v, _, h => by
    simp only [shiftA, VR] at h ⊢
    obtain ⟨k, s, g1, g2, rfl, g4⟩ := h
    obtain ⟨h1, h2⟩ := hH b k g1
    exact ⟨_, s, h1, g2, rfl, fun hk => by rw [h2, hw]; exact g4 hk⟩
  | .fn f cs, v, ho, h => by
    simp only [shiftA, VR] at h ⊢
    obtain ⟨vs, h1, h2⟩ := h
    exact ⟨vs, h1, VRs.shift n hw hH q hz cs _ (ho.imp id fun h => by simpa [nosl] using h) h2⟩
  | .agg cs, v, ho, h => by
    simp only [shiftA, VR] at h ⊢
    obtain ⟨vs, h1, h2⟩ := h
    exact ⟨vs, h1, VRs.shift n hw hH q hz cs _ (ho.imp id fun h => by simpa [nosl] using h) h2⟩
  | .tup cs, v, ho, h => by
    simp only [shiftA, VR] at h ⊢
    obtain ⟨vs, h1, h2⟩ := h
    exact ⟨vs, h1, VRs.shift n hw hH q hz cs _ (ho.imp id fun h => by simpa [nosl] using h) h2⟩
theorem VRs.shift {c0 c' : Cx} (n : Nat) (hw : c'.w = c0.w) (hH : ∀ b k, c0.H b = some k → c'.H (b + n) = some (shiftB n k) ∧ c'.io (b + n) = c0.io b) (q : Bool) (hz : q = true → ∀ k, ¬ c0.Z k → ¬ c'.Z k) : ∀ (xs : List A) (vs : List Value), (q = true ∨ nosls xs = true) → VRs c0 xs vs → VRs c' (shiftAs n xs) vs
  | [], _, _, h => h
  | x :: xs, vs, ho, h => by
    simp only [shiftAs, VRs] at h ⊢
    obtain ⟨v, vs', h1, h2, h3⟩ := h
    exact ⟨v, vs', h1, VR.shift n hw hH q hz x v (ho.imp id fun h => by simp [nosls] at h; exact h.1) h2, VRs.shift n hw hH q hz xs vs' (ho.imp id fun h => by simp [nosls] at h; exact h.2) h3⟩
end

theorem shiftAs_get (n : Nat) : ∀ (xs : List A) (j : Nat), (shiftAs n xs)[j]? = xs[j]?.map (shiftA n)
  | [], j => by simp [shiftAs]
  | x :: xs, 0 => by simp [shiftAs]
  | x :: xs, j + 1 => by simpa [shiftAs] using shiftAs_get n xs j

def Cx.join (c c0 : Cx) (n : Nat) (Hr : List Blk) : Cx :=
  ⟨fun b => if n ≤ b ∧ b < n + Hr.length then (Hr.map (shiftB n))[b - n]? else c.H b, fun b => if n ≤ b ∧ b < n + Hr.length then c0.io (b - n) else c.io b, c0.w, c.X⟩

theorem join_rel {c c0 c1 : Cx} (hr : RelH c) {X : Nat → Prop} (h0 : c0 = c.bare X) (h01 : Step c0 c1) (hr1 : RelH c1) {Hr : List Blk} (hH : c1.H = fun b => Hr[b]?) (hown : ownBlks Hr = true) {n : Nat} (hn : ∀ b, n ≤ b → b < n + Hr.length → c.H b = none)
    (q : Bool) (hq : q = true → X = c.Z) (hq' : q = true ∨ noslBlks Hr = true) :
    RelH (c.join c1 n Hr) ∧ Step c (c.join c1 n Hr) ∧ ∀ x v, (q = true ∨ nosl x = true) → VR c1 x v → VR (c.join c1 n Hr) (shiftA n x) v := by
  have hbare : ∀ k, ¬ c0.Own k := by subst h0; rintro k ⟨b, blk, h, _⟩; cases h
  have hw0 : c0.w = c.w := by subst h0; rfl
  have hblk : ∀ k, k < c.w.heap.size → c1.w.heap[k]? = c.w.heap[k]? := fun k hk => by
    have := h01.blk k (by rw [hw0]; exact hk) (hbare k)
    rwa [hw0] at this
  have hold : ∀ b k, c.H b = some k → (c.join c1 n Hr).H b = some k ∧ (c.join c1 n Hr).io b = c.io b := by
    intro b k hb
    have hno : ¬ (n ≤ b ∧ b < n + Hr.length) := fun h => by rw [hn b h.1 h.2] at hb; cases hb
    simp [Cx.join, hno, hb]
  have hnew : ∀ b k, c1.H b = some k → (c.join c1 n Hr).H (b + n) = some (shiftB n k) ∧ (c.join c1 n Hr).io (b + n) = c1.io b := by
    intro b k hb
    rw [hH] at hb
    have hlt : b < Hr.length := by
      rcases Nat.lt_or_ge b Hr.length with h | h
      · exact h
      · simp only [List.getElem?_eq_none h] at hb; cases hb
    have hc : n ≤ b + n ∧ b + n < n + Hr.length := ⟨by omega, by omega⟩
    simp only [Cx.join, hc, if_true, Nat.add_sub_cancel, List.getElem?_map]
    simp [hb]
  have hrev : ∀ b k, (c.join c1 n Hr).H b = some k → (c.H b = some k ∧ (c.join c1 n Hr).io b = c.io b) ∨ ∃ b0 k0, b = b0 + n ∧ c1.H b0 = some k0 ∧ k = shiftB n k0 ∧ (c.join c1 n Hr).io b = c1.io b0 := by
    intro b k hb
    by_cases hc : n ≤ b ∧ b < n + Hr.length
    · right
      simp only [Cx.join, hc, and_self, if_true, List.getElem?_map] at hb
      cases hk : Hr[b - n]? with
      | none => simp [hk] at hb
      | some k0 =>
        simp [hk] at hb
        exact ⟨b - n, k0, by omega, by rw [hH]; exact hk, hb.symm, by simp [Cx.join, hc]⟩
    · left
      simp only [Cx.join, hc, if_false] at hb
      exact ⟨hb, by simp only [Cx.join, hc, if_false]⟩
  have hge : ∀ b k, c1.H b = some k → k.ro = false → c.w.heap.size ≤ (c1.io b).1 := by
    intro b k hb hro
    rcases h01.own _ ⟨b, k, hb, hro, rfl⟩ with h | h
    · exact absurd h (hbare _)
    · rwa [hw0] at h
  have hownJ : ∀ k, (c.join c1 n Hr).Own k → c.Own k ∨ c1.Own k := by
    rintro k ⟨b, blk, h1, h2, h3⟩
    rcases hrev b blk h1 with ⟨g1, g2⟩ | ⟨b0, k0, rfl, g1, rfl, g2⟩
    · exact .inl ⟨b, blk, g1, h2, by rw [← g2]; exact h3⟩
    · exact .inr ⟨b0, k0, g1, h2, by rw [← g2]; exact h3⟩
  have hS : Step c (c.join c1 n Hr) := by
    refine ⟨h01.os.trans (by rw [hw0]), h01.tape.trans (by rw [hw0]), h01.output.trans (by rw [hw0]), by have := h01.size; rw [hw0] at this; exact this, fun k hk _ => hblk k hk, ?_, ?_, rfl, ?_, by have := h01.maps; rw [hw0] at this; exact this⟩
    · intro k hk
      rcases hownJ k hk with h | ⟨b, k0, h1, h2, h3⟩
      · exact .inl h
      · right; rw [← h3]; exact hge b k0 h1 h2
    · intro b k hb
      obtain ⟨h1, h2⟩ := hold b k hb
      exact ⟨k, h1, Nat.le_refl _, fun _ => ⟨h2, rfl, rfl⟩⟩
    · intro ad h
      have := h01.cells ad (by rw [hw0]; exact h)
      exact this
  have hzz : q = true → ∀ k, ¬ c1.Z k → ¬ (c.join c1 n Hr).Z k := by
    intro hqt k hk
    have hx : c1.X = c.Z := by rw [h01.x, h0]; exact hq hqt
    rintro (h | h)
    · exact hk (.inl (by rw [hx]; exact .inl h))
    · rcases hownJ k h with h | h
      · exact hk (.inl (by rw [hx]; exact .inr h))
      · exact hk (.inr h)
  have hsh : ∀ x v, (q = true ∨ nosl x = true) → VR c1 x v → VR (c.join c1 n Hr) (shiftA n x) v := fun x v ho h => VR.shift (c0 := c1) (c' := c.join c1 n Hr) n rfl hnew q hzz x v ho h
  refine ⟨⟨?_, ?_, ?_, ?_, ?_, ?_, ?_, ?_⟩, hS, hsh⟩
  · intro b k hb j x hj
    rcases hrev b k hb with ⟨g1, g2⟩ | ⟨b0, k0, rfl, g1, rfl, g2⟩
    · obtain ⟨v, h1, h2⟩ := hr.cell b k g1 j x hj
      refine ⟨v, ?_, VR.step hS x v h2⟩
      have hat : (c.join c1 n Hr).at b j = c.at b j := by simp [Cx.at, g2]
      rw [hat]
      show c1.w.cell? _ = _
      have hrd : k.ro = false := by
        cases h : k.ro with
        | false => rfl
        | true => rw [hr.vz b k g1 h] at hj; simp at hj
      rw [World.cell?_of_block (w := c.w) (hblk _ (hr.lt b k g1 hrd)), h1]
    · simp only [shiftB, shiftAs_get] at hj
      cases hx : k0.cs[j]? with
      | none => simp [hx] at hj
      | some x0 =>
        simp [hx] at hj
        subst hj
        obtain ⟨v, h1, h2⟩ := hr1.cell b0 k0 g1 j x0 hx
        refine ⟨v, ?_, hsh x0 v ?_ h2⟩
        · have hat : (c.join c1 n Hr).at (b0 + n) j = c1.at b0 j := by simp [Cx.at, g2]
          rw [hat]; exact h1
        · rcases hq' with h | h
          · exact .inl h
          · right
            rw [hH] at g1
            have hk0 := List.all_eq_true.1 h k0 (List.mem_of_getElem? g1)
            have hall : ∀ (l : List A), nosls l = true → ∀ y ∈ l, nosl y = true := by
              intro l
              induction l with
              | nil => intro _ y hy; cases hy
              | cons a l ih =>
                intro hl y hy
                simp [nosls] at hl
                cases hy with
                | head => exact hl.1
                | tail _ h => exact ih hl.2 y h
            exact hall _ hk0 _ (List.mem_of_getElem? hx)
  · intro b k hb hro
    rcases hrev b k hb with ⟨g1, g2⟩ | ⟨b0, k0, rfl, g1, rfl, g2⟩
    · exact hr.vz b k g1 hro
    · have := hr1.vz b0 k0 g1 hro
      simp [shiftB, this, shiftAs]
  · intro b k hb hro
    show _ < c1.w.heap.size
    rcases hrev b k hb with ⟨g1, g2⟩ | ⟨b0, k0, rfl, g1, rfl, g2⟩
    · rw [g2]
      have h1 := hr.lt b k g1 hro
      have h2 := h01.size
      rw [hw0] at h2
      omega
    · rw [g2]; exact hr1.lt b0 k0 g1 hro
  · intro b k hb hro hmp
    show ∃ cs ty, c1.w.heap[_]? = _
    rcases hrev b k hb with ⟨g1, g2⟩ | ⟨b0, k0, rfl, g1, rfl, g2⟩
    · rw [g2, hblk _ (hr.lt b k g1 hro)]; exact hr.fz b k g1 hro hmp
    · rw [g2]; exact hr1.fz b0 k0 g1 hro hmp
  · intro b k st l hb hmp
    show _ ∧ _ ∧ ∃ L clock, c1.w.heap[((c.join c1 n Hr).io b).1]? = _ ∧ _
    rcases hrev b k hb with ⟨g1, g2⟩ | ⟨b0, k0, rfl, g1, rfl, g2⟩
    · rw [g2, hblk _ (hr.lt b k g1 (hr.mz b k st l g1 hmp).1)]; exact hr.mz b k st l g1 hmp
    · rw [g2]
      obtain ⟨i1, i2, i3⟩ := hr1.mz b0 k0 st l g1 hmp
      exact ⟨i1, by simp [shiftB, i2, shiftAs], i3⟩
  · intro b b' k k' hb hb' hro hro' hne
    rcases hrev b k hb with ⟨g1, g2⟩ | ⟨b0, k0, rfl, g1, rfl, g2⟩ <;> rcases hrev b' k' hb' with ⟨g1', g2'⟩ | ⟨b0', k0', rfl, g1', rfl, g2'⟩
    · rw [g2, g2']; exact hr.uni b b' k k' g1 g1' hro hro' hne
    · rw [g2, g2']
      have h1 := hr.lt b k g1 hro
      have h2 := hge b0' k0' g1' hro'
      omega
    · rw [g2, g2']
      have h1 := hr.lt b' k' g1' hro'
      have h2 := hge b0 k0 g1 hro
      omega
    · rw [g2, g2']; exact hr1.uni b0 b0' k0 k0' g1 g1' hro hro' (fun h => hne (by rw [h]))
  · intro b k hb hro
    show ¬ c.X _
    rcases hrev b k hb with ⟨g1, g2⟩ | ⟨b0, k0, rfl, g1, rfl, g2⟩
    · rw [g2]; exact hr.nx b k g1 hro
    · rw [g2]
      intro hx
      have h1 := hr.xlt _ hx
      have h2 := hge b0 k0 g1 hro
      omega
  · intro k hk
    have h1 := hr.xlt k hk
    have h2 := h01.size
    rw [hw0] at h2
    show _ < c1.w.heap.size
    omega
end Go.Sym
