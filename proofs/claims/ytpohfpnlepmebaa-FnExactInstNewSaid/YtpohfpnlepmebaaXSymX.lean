/- Rows at the end, some of them kept and numbered anew, those of a caller as they are. Conditions: those that each theorem names. -/
import Derived.Test.YtpohfpnlepmebaaXSymW
set_option linter.unusedVariables false
set_option linter.unusedSimpArgs false
namespace Go.Sym
open Go.RowKit
/-- Of the rows from n on those that g names are kept. -/
def Cx.pick (c : Cx) (n : Nat) (g : List Nat) : Cx := ⟨fun b => if b < n then c.H b else match g[b - n]? with | some a => c.H a | none => none, fun b => if b < n then c.io b else match g[b - n]? with | some a => c.io a | none => (0, 0), c.w, c.X⟩
theorem pick_in {c : Cx} {n : Nat} {g : List Nat} {b : Nat} {k : Blk} (h : (c.pick n g).H b = some k) : ∃ a, c.H a = some k ∧ (c.pick n g).io b = c.io a ∧ (b < n ∧ a = b ∨ n ≤ b ∧ g[b - n]? = some a) := by
  simp only [Cx.pick] at h ⊢
  split at h
  · rename_i hb
    exact ⟨b, h, by rw [if_pos hb], .inl ⟨hb, rfl⟩⟩
  · rename_i hb
    split at h
    · rename_i a ha
      exact ⟨a, h, by rw [if_neg hb], .inr ⟨by omega, ha⟩⟩
    · cases h
theorem pick_own (c : Cx) (n : Nat) (g : List Nat) (q : Nat) : (c.pick n g).Own q → c.Own q := by
  rintro ⟨b, blk, h1, h2, h3⟩
  obtain ⟨a, e1, e2, _⟩ := pick_in h1
  exact ⟨a, blk, e1, h2, by rw [← e2]; exact h3⟩
theorem pick_z (c : Cx) (n : Nat) (g : List Nat) (q : Nat) : (c.pick n g).Z q → c.Z q := fun h => h.imp id (pick_own c n g q)
theorem pick_lt {c : Cx} {n : Nat} {g : List Nat} {b : Nat} (h : b < n) : (c.pick n g).H b = c.H b ∧ (c.pick n g).io b = c.io b := by simp [Cx.pick, h]
mutual
theorem VR.pick {c : Cx} {n : Nat} {g : List Nat} : ∀ (x : A) (v : Value), inA n x = true → VR c x v → VR (c.pick n g) x v
  | .bool _, _, _, h => h
  | .int _ _, _, _, h => h
  | .str _, _, _, h => h
  | .nil, _, _, h => h
  | .nilp, _, _, h => h
  | .nilf, _, _, h => h
  | .ub, _, _, h => h
  | .err _, _, _, h => h
  | .sl m cs, v, ho, h => by
    simp only [VR] at h ⊢
    obtain ⟨a, cap, rfl, hn, h⟩ := h
    exact ⟨a, cap, rfl, hn, h.imp id fun ⟨ad, vs, h1, h2, h3, h4, h5, h6⟩ => ⟨ad, vs, h1, h2, h3, fun hz => h4 (pick_z c n g _ hz), h5, VRs.pick cs vs (by simpa [inA] using ho) h6⟩⟩
  | .pt cs, v, ho, h => by
    simp only [VR] at h ⊢
    obtain ⟨ad, vs, h1, h2, h3, h4, h5, h6⟩ := h
    exact ⟨ad, vs, h1, h2, h3, fun hz => h4 (pick_z c n g _ hz), h5, VRs.pick cs vs (by simpa [inA] using ho) h6⟩
  | .ref b ver off m, v, ho, h => by
    simp only [VR] at h ⊢
    obtain ⟨k, a, cap, g1, g2⟩ := h
    have hb : b < n := by simpa [inA] using ho
    obtain ⟨e1, e2⟩ := pick_lt (c := c) (g := g) hb
    refine ⟨k, a, cap, by rw [e1]; exact g1, ?_⟩
    simpa [Cx.at, e2, show (c.pick n g).w = c.w from rfl] using g2
  | .ptr b ver off, v, ho, h => by
    simp only [VR] at h ⊢
    obtain ⟨k, p, g1, g2⟩ := h
    have hb : b < n := by simpa [inA] using ho
    obtain ⟨e1, e2⟩ := pick_lt (c := c) (g := g) hb
    refine ⟨k, p, by rw [e1]; exact g1, ?_⟩
    simpa [Cx.at, e2] using g2
  | .mref b ver, v, ho, h => by
    simp only [VR] at h ⊢
    obtain ⟨k, p, g1, g2⟩ := h
    have hb : b < n := by simpa [inA] using ho
    obtain ⟨e1, e2⟩ := pick_lt (c := c) (g := g) hb
    refine ⟨k, p, by rw [e1]; exact g1, ?_⟩
    simpa [e2] using g2
  | .stamp b ver st ks, v, ho, h => by
    simp only [VR] at h ⊢
    obtain ⟨k, s, g1, g2⟩ := h
    have hb : b < n := by simpa [inA] using ho
    obtain ⟨e1, e2⟩ := pick_lt (c := c) (g := g) hb
    refine ⟨k, s, by rw [e1]; exact g1, ?_⟩
    simpa [e2, show (c.pick n g).w = c.w from rfl] using g2
  | .fn f cs, v, ho, h => by
    simp only [VR] at h ⊢
    obtain ⟨vs, h1, h2⟩ := h
    exact ⟨vs, h1, VRs.pick cs _ (by simpa [inA] using ho) h2⟩
  | .agg cs, v, ho, h => by
    simp only [VR] at h ⊢
    obtain ⟨vs, h1, h2⟩ := h
    exact ⟨vs, h1, VRs.pick cs _ (by simpa [inA] using ho) h2⟩
  | .tup cs, v, ho, h => by
    simp only [VR] at h ⊢
    obtain ⟨vs, h1, h2⟩ := h
    exact ⟨vs, h1, VRs.pick cs _ (by simpa [inA] using ho) h2⟩
theorem VRs.pick {c : Cx} {n : Nat} {g : List Nat} : ∀ (xs : List A) (vs : List Value), inAs n xs = true → VRs c xs vs → VRs (c.pick n g) xs vs
  | [], _, _, h => h
  | x :: xs, vs, ho, h => by
    simp only [VRs] at h ⊢
    simp [inAs] at ho
    obtain ⟨v, vs', h1, h2, h3⟩ := h
    exact ⟨v, vs', h1, VR.pick x v ho.1 h2, VRs.pick xs vs' ho.2 h3⟩
end
mutual
/-- A value, those of its rows that are kept numbered anew. -/
def Pk (n : Nat) (g : List Nat) : A → A → Prop
  | .agg xs, .agg ys => Pks n g xs ys
  | .tup xs, .tup ys => Pks n g xs ys
  | .ref b v o m, .ref b' v' o' m' => v = v' ∧ o = o' ∧ m = m' ∧ (b' < n ∧ b = b' ∨ n ≤ b' ∧ g[b' - n]? = some b)
  | .ptr b v o, .ptr b' v' o' => v = v' ∧ o = o' ∧ (b' < n ∧ b = b' ∨ n ≤ b' ∧ g[b' - n]? = some b)
  | x, y => x = y ∧ inA n x = true
def Pks (n : Nat) (g : List Nat) : List A → List A → Prop
  | [], [] => True
  | x :: xs, y :: ys => Pk n g x y ∧ Pks n g xs ys
  | _, _ => False
end
theorem VR.pickR {c : Cx} {n : Nat} {g : List Nat} {b b' ver off m : Nat} {v : Value} (hb : b' < n ∧ b = b' ∨ n ≤ b' ∧ g[b' - n]? = some b) (h : VR c (.ref b ver off m) v) : VR (c.pick n g) (.ref b' ver off m) v := by
  rcases hb with ⟨h1, rfl⟩ | ⟨h1, h2⟩
  · exact VR.pick _ _ (by simpa [inA] using h1) h
  · simp only [VR] at h ⊢
    obtain ⟨k, a, cap, g1, g2⟩ := h
    have e1 : (c.pick n g).H b' = c.H b := by simp [Cx.pick, Nat.not_lt.2 h1, h2]
    have e2 : (c.pick n g).io b' = c.io b := by simp [Cx.pick, Nat.not_lt.2 h1, h2]
    refine ⟨k, a, cap, by rw [e1]; exact g1, ?_⟩
    simpa [Cx.at, e2, show (c.pick n g).w = c.w from rfl] using g2
theorem VR.pickP {c : Cx} {n : Nat} {g : List Nat} {b b' ver off : Nat} {v : Value} (hb : b' < n ∧ b = b' ∨ n ≤ b' ∧ g[b' - n]? = some b) (h : VR c (.ptr b ver off) v) : VR (c.pick n g) (.ptr b' ver off) v := by
  rcases hb with ⟨h1, rfl⟩ | ⟨h1, h2⟩
  · exact VR.pick _ _ (by simpa [inA] using h1) h
  · simp only [VR] at h ⊢
    obtain ⟨k, p, g1, g2⟩ := h
    have e1 : (c.pick n g).H b' = c.H b := by simp [Cx.pick, Nat.not_lt.2 h1, h2]
    have e2 : (c.pick n g).io b' = c.io b := by simp [Cx.pick, Nat.not_lt.2 h1, h2]
    refine ⟨k, p, by rw [e1]; exact g1, ?_⟩
    simpa [Cx.at, e2] using g2
mutual
theorem VR.pk {c : Cx} {n : Nat} {g : List Nat} : ∀ (x y : A) (v : Value), Pk n g x y → VR c x v → VR (c.pick n g) y v
  | x, y, v, h, hv => by
    cases x with
    | agg xs =>
      cases y <;> simp only [Pk] at h
      case agg ys =>
        simp only [VR] at hv ⊢
        obtain ⟨vs, h1, h2⟩ := hv
        exact ⟨vs, h1, VRs.pk xs _ _ h h2⟩
      all_goals exact absurd h.1 (by simp)
    | tup xs =>
      cases y <;> simp only [Pk] at h
      case tup ys =>
        simp only [VR] at hv ⊢
        obtain ⟨vs, h1, h2⟩ := hv
        exact ⟨vs, h1, VRs.pk xs _ _ h h2⟩
      all_goals exact absurd h.1 (by simp)
    | ref b ver o m =>
      cases y <;> simp only [Pk] at h
      case ref b' v' o' m' =>
        obtain ⟨rfl, rfl, rfl, hb⟩ := h
        exact VR.pickR hb hv
      all_goals exact absurd h.1 (by simp)
    | ptr b ver o =>
      cases y <;> simp only [Pk] at h
      case ptr b' v' o' =>
        obtain ⟨rfl, rfl, hb⟩ := h
        exact VR.pickP hb hv
      all_goals exact absurd h.1 (by simp)
    | bool a => simp only [Pk] at h; obtain ⟨rfl, h2⟩ := h; exact VR.pick _ _ h2 hv
    | int k a => simp only [Pk] at h; obtain ⟨rfl, h2⟩ := h; exact VR.pick _ _ h2 hv
    | str a => simp only [Pk] at h; obtain ⟨rfl, h2⟩ := h; exact VR.pick _ _ h2 hv
    | nil => simp only [Pk] at h; obtain ⟨rfl, h2⟩ := h; exact VR.pick _ _ h2 hv
    | nilp => simp only [Pk] at h; obtain ⟨rfl, h2⟩ := h; exact VR.pick _ _ h2 hv
    | nilf => simp only [Pk] at h; obtain ⟨rfl, h2⟩ := h; exact VR.pick _ _ h2 hv
    | ub => simp only [Pk] at h; obtain ⟨rfl, h2⟩ := h; exact VR.pick _ _ h2 hv
    | err b => simp only [Pk] at h; obtain ⟨rfl, h2⟩ := h; exact VR.pick _ _ h2 hv
    | sl m cs => simp only [Pk] at h; obtain ⟨rfl, h2⟩ := h; exact VR.pick _ _ h2 hv
    | pt cs => simp only [Pk] at h; obtain ⟨rfl, h2⟩ := h; exact VR.pick _ _ h2 hv
    | mref b a => simp only [Pk] at h; obtain ⟨rfl, h2⟩ := h; exact VR.pick _ _ h2 hv
    | stamp b a s ks => simp only [Pk] at h; obtain ⟨rfl, h2⟩ := h; exact VR.pick _ _ h2 hv
    | fn f cs => simp only [Pk] at h; obtain ⟨rfl, h2⟩ := h; exact VR.pick _ _ h2 hv
theorem VRs.pk {c : Cx} {n : Nat} {g : List Nat} : ∀ (xs ys : List A) (vs : List Value), Pks n g xs ys → VRs c xs vs → VRs (c.pick n g) ys vs
  | [], [], vs, h, hv => hv
  | [], _ :: _, vs, h, hv => by simp [Pks] at h
  | _ :: _, [], vs, h, hv => by simp [Pks] at h
  | x :: xs, y :: ys', vs, h, hv => by
    simp only [Pks] at h
    obtain ⟨h1, h2⟩ := h
    simp only [VRs] at hv ⊢
    obtain ⟨v, vs', e, g1, g2⟩ := hv
    exact ⟨v, vs', e, VR.pk x y v h1 g1, VRs.pk xs ys' vs' h2 g2⟩
end
/-- The rows that are kept: each is one of those at the end. -/
def PkB (n : Nat) (g : List Nat) (H : List Blk) : List Nat → List Blk → Prop
  | [], [] => True
  | a :: as, k' :: ks => n ≤ a ∧ (match H[a]? with | some k => k'.v = k.v ∧ k'.ro = k.ro ∧ k'.esz = k.esz ∧ k'.mp = k.mp ∧ Pks n g k.cs k'.cs | none => False) ∧ PkB n g H as ks
  | _, _ => False
theorem PkB.get {n : Nat} {g : List Nat} {H : List Blk} : ∀ {as : List Nat} {ks : List Blk}, PkB n g H as ks → as.length = ks.length ∧ ∀ (i : Nat) (k' : Blk), ks[i]? = some k' → ∃ a k, as[i]? = some a ∧ n ≤ a ∧ H[a]? = some k ∧ k'.v = k.v ∧ k'.ro = k.ro ∧ k'.esz = k.esz ∧ k'.mp = k.mp ∧ Pks n g k.cs k'.cs
  | [], [], _ => ⟨rfl, fun i k' h => by simp at h⟩
  | [], _ :: _, h => by simp [PkB] at h
  | _ :: _, [], h => by simp [PkB] at h
  | a :: as, k0 :: ks, h => by
    simp only [PkB] at h
    obtain ⟨h1, h2, h3⟩ := h
    split at h2
    · rename_i k hk
      obtain ⟨i1, i2⟩ := PkB.get h3
      refine ⟨by simp [i1], fun i k' hi => ?_⟩
      cases i with
      | zero => simp at hi; subst hi; exact ⟨a, k, rfl, h1, hk, h2⟩
      | succ i => exact i2 i k' (by simpa using hi)
    · exact h2.elim
theorem Pks_len {n : Nat} {g : List Nat} : ∀ {xs ys : List A}, Pks n g xs ys → xs.length = ys.length
  | [], [], _ => rfl
  | [], _ :: _, h => by simp [Pks] at h
  | _ :: _, [], h => by simp [Pks] at h
  | x :: xs, y :: ys, h => by simp only [Pks] at h; simp [Pks_len h.2]
mutual
theorem Pk_self {n : Nat} {g : List Nat} : ∀ x : A, inA n x = true → Pk n g x x
  | .bool _, h => by simp only [Pk]; exact ⟨trivial, h⟩
  | .int _ _, h => by simp only [Pk]; exact ⟨trivial, h⟩
  | .str _, h => by simp only [Pk]; exact ⟨trivial, h⟩
  | .nil, h => by simp only [Pk]; exact ⟨trivial, h⟩
  | .nilp, h => by simp only [Pk]; exact ⟨trivial, h⟩
  | .nilf, h => by simp only [Pk]; exact ⟨trivial, h⟩
  | .ub, h => by simp only [Pk]; exact ⟨trivial, h⟩
  | .err _, h => by simp only [Pk]; exact ⟨trivial, h⟩
  | .sl _ _, h => by simp only [Pk]; exact ⟨trivial, h⟩
  | .pt _, h => by simp only [Pk]; exact ⟨trivial, h⟩
  | .mref _ _, h => by simp only [Pk]; exact ⟨trivial, h⟩
  | .stamp _ _ _ _, h => by simp only [Pk]; exact ⟨trivial, h⟩
  | .fn _ _, h => by simp only [Pk]; exact ⟨trivial, h⟩
  | .ref b v o m, h => by simp only [Pk, true_and]; exact .inl ⟨by simpa [inA] using h, trivial⟩
  | .ptr b v o, h => by simp only [Pk, true_and]; exact .inl ⟨by simpa [inA] using h, trivial⟩
  | .agg cs, h => by simp only [Pk]; exact Pks_self cs (by simpa [inA] using h)
  | .tup cs, h => by simp only [Pk]; exact Pks_self cs (by simpa [inA] using h)
theorem Pks_self {n : Nat} {g : List Nat} : ∀ xs : List A, inAs n xs = true → Pks n g xs xs
  | [], _ => by simp only [Pks]
  | x :: xs, h => by simp only [inAs, Bool.and_eq_true] at h; simp only [Pks]; exact ⟨Pk_self x h.1, Pks_self xs h.2⟩
end
theorem Pks_get {n : Nat} {g : List Nat} : ∀ {xs ys : List A}, Pks n g xs ys → ∀ {j : Nat} {y : A}, ys[j]? = some y → ∃ x, xs[j]? = some x ∧ Pk n g x y
  | [], [], _, j, y, h => by simp at h
  | [], _ :: _, h, _, _, _ => by simp [Pks] at h
  | _ :: _, [], h, _, _, _ => by simp [Pks] at h
  | x :: xs, y0 :: ys, h, 0, y, hj => by simp only [Pks] at h; simp at hj; subst hj; exact ⟨x, rfl, h.1⟩
  | x :: xs, y0 :: ys, h, j + 1, y, hj => by
    simp only [Pks] at h
    obtain ⟨z, h1, h2⟩ := Pks_get h.2 (by simpa using hj)
    exact ⟨z, by simpa using h1, h2⟩
theorem T_pick {c0 c : Cx} {B : Nat} {H1 T T' : List Blk} (g : List Nat) (hB : ∀ b, B ≤ b → c0.H b = none) (hr : RelH c) (hH : c.H = fun b => (H1 ++ T)[b]?) (hs : Step c0 c) (hlen : B ≤ H1.length) (hcl : Closed1 H1.length H1 = true) (hg : g.Nodup)
    (hT : PkB H1.length g (H1 ++ T) g T') : ∃ c' : Cx, c'.w = c.w ∧ c'.H = (fun b => (H1 ++ T')[b]?) ∧ RelH c' ∧ Step c0 c' ∧ ∀ x y v, Pk H1.length g x y → VR c x v → VR c' y v := by
  obtain ⟨hgl, hget⟩ := PkB.get hT
  have hin : ∀ b k', (H1 ++ T')[b]? = some k' → ∃ a k, c.H a = some k ∧ (c.pick H1.length g).io b = c.io a ∧ (c.pick H1.length g).H b = some k ∧ k'.v = k.v ∧ k'.ro = k.ro ∧ k'.esz = k.esz ∧ k'.mp = k.mp ∧ Pks H1.length g k.cs k'.cs ∧ (b < H1.length ∧ a = b ∨ H1.length ≤ b ∧ g[b - H1.length]? = some a ∧ H1.length ≤ a) := by
    intro b k' h
    rcases Nat.lt_or_ge b H1.length with hb | hb
    · rw [List.getElem?_append_left hb] at h
      have hk : c.H b = some k' := by rw [hH]; simp only [List.getElem?_append_left hb]; exact h
      have hc : inAs H1.length k'.cs = true := List.all_eq_true.1 hcl k' (List.mem_of_getElem? h)
      exact ⟨b, k', hk, (pick_lt hb).2, by rw [(pick_lt hb).1]; exact hk, rfl, rfl, rfl, rfl, Pks_self _ hc, .inl ⟨hb, rfl⟩⟩
    · rw [List.getElem?_append_right hb] at h
      obtain ⟨a, k, e1, e2, e3, e4, e5, e6, e7, e8⟩ := hget _ _ h
      have hk : c.H a = some k := by rw [hH]; exact e3
      exact ⟨a, k, hk, by simp [Cx.pick, Nat.not_lt.2 hb, e1], by simp [Cx.pick, Nat.not_lt.2 hb, e1, hk], e4, e5, e6, e7, e8, .inr ⟨hb, e1, e2⟩⟩
  have hout : ∀ b k, (c.pick H1.length g).H b = some k → ∃ k', (H1 ++ T')[b]? = some k' ∧ k'.v = k.v ∧ k'.ro = k.ro ∧ k'.esz = k.esz := by
    intro b k h
    have : ∃ k', (H1 ++ T')[b]? = some k' := by
      rcases Nat.lt_or_ge b H1.length with hb | hb
      · exact ⟨H1[b], by rw [List.getElem?_append_left hb]; exact List.getElem?_eq_getElem hb⟩
      · simp only [Cx.pick, if_neg (Nat.not_lt.2 hb)] at h
        split at h
        · rename_i a ha
          have : b - H1.length < T'.length := by rw [← hgl]; exact (List.getElem?_eq_some_iff.1 ha).1
          exact ⟨T'[b - H1.length], by rw [List.getElem?_append_right hb]; exact List.getElem?_eq_getElem this⟩
        · cases h
    obtain ⟨k', h'⟩ := this
    obtain ⟨a, k1, _, _, e3, e4, e5, e6, _⟩ := hin b k' h'
    rw [h] at e3
    cases e3
    exact ⟨k', h', e4, e5, e6⟩
  let c' : Cx := ⟨fun b => (H1 ++ T')[b]?, (c.pick H1.length g).io, c.w, c.X⟩
  have hown : ∀ q, c'.Own q → c.Own q := by
    rintro q ⟨b, blk, h1, h2, h3⟩
    obtain ⟨a, k, e1, e2, _, _, e5, _⟩ := hin b blk h1
    exact ⟨a, k, e1, by rw [← e5]; exact h2, by rw [← e2]; exact h3⟩
  have hP : Step (c.pick H1.length g) c' := by
    refine ⟨rfl, rfl, rfl, Nat.le_refl _, fun _ _ _ => rfl, ?_, ?_, rfl, fun _ h => h, MPers.refl _⟩
    · rintro q ⟨b, blk, h1, h2, h3⟩
      obtain ⟨a, k, e1, e2, e3, _, e5, _⟩ := hin b blk h1
      exact .inl ⟨b, k, e3, by rw [← e5]; exact h2, h3⟩
    · intro b k h
      obtain ⟨k', h1, h2, h3, h4⟩ := hout b k h
      exact ⟨k', h1, by omega, fun _ => ⟨rfl, h4, h3⟩⟩
  have hVR : ∀ x y v, Pk H1.length g x y → VR c x v → VR c' y v := fun x y v h hv => VR.step hP y v (VR.pk x y v h hv)
  refine ⟨c', rfl, rfl, ⟨?_, ?_, ?_, ?_, ?_, ?_, ?_, hr.xlt⟩, ⟨hs.os, hs.tape, hs.output, hs.size, hs.blk, fun q hq => hs.own q (hown q hq), ?_, hs.x, hs.cells, hs.maps⟩, hVR⟩
  · intro b k' hb j y hj
    obtain ⟨a, k, e1, e2, _, _, _, _, _, e8, _⟩ := hin b k' hb
    obtain ⟨x, g1, g2⟩ := Pks_get e8 hj
    obtain ⟨v, h1, h2⟩ := hr.cell a k e1 j x g1
    refine ⟨v, ?_, hVR x y v g2 h2⟩
    have : c'.at b j = c.at a j := by simp only [Cx.at]; rw [show c'.io b = c.io a from e2]
    rw [this]
    exact h1
  · intro b k' hb hro
    obtain ⟨a, k, e1, _, _, _, e5, _, _, e8, _⟩ := hin b k' hb
    have := hr.vz a k e1 (by rw [← e5]; exact hro)
    have hl := Pks_len e8
    rw [this] at hl
    exact List.length_eq_zero_iff.1 hl.symm
  · intro b k' hb hro
    obtain ⟨a, k, e1, e2, _, _, e5, _⟩ := hin b k' hb
    have := hr.lt a k e1 (by rw [← e5]; exact hro)
    rw [show c'.io b = c.io a from e2]
    exact this
  · intro b k' hb hro hmp
    obtain ⟨a, k, e1, e2, _, _, e5, _, e7, _⟩ := hin b k' hb
    have := hr.fz a k e1 (by rw [← e5]; exact hro) (by rw [← e7]; exact hmp)
    rw [show c'.io b = c.io a from e2]
    exact this
  · intro b k' st l hb hmp
    obtain ⟨a, k, e1, e2, _, _, e5, _, e7, e8, _⟩ := hin b k' hb
    obtain ⟨m1, m2, m3⟩ := hr.mz a k st l e1 (by rw [← e7]; exact hmp)
    have hl := Pks_len e8
    rw [m2] at hl
    refine ⟨by rw [e5, m1], List.length_eq_zero_iff.1 hl.symm, ?_⟩
    rw [show c'.io b = c.io a from e2]
    exact m3
  · intro b b' k k' hb hb' hro hro' hne
    obtain ⟨a, k1, e1, e2, _, _, e5, _, _, _, e9⟩ := hin b k hb
    obtain ⟨a', k1', e1', e2', _, _, e5', _, _, _, e9'⟩ := hin b' k' hb'
    rw [show c'.io b = c.io a from e2, show c'.io b' = c.io a' from e2']
    refine hr.uni a a' k1 k1' e1 e1' (by rw [← e5]; exact hro) (by rw [← e5']; exact hro') ?_
    intro e
    subst e
    rcases e9 with ⟨q1, q2⟩ | ⟨q1, q2, q3⟩ <;> rcases e9' with ⟨p1, p2⟩ | ⟨p1, p2, p3⟩
    · omega
    · omega
    · omega
    · obtain ⟨i1, j1⟩ := List.getElem?_eq_some_iff.1 q2
      obtain ⟨i2, j2⟩ := List.getElem?_eq_some_iff.1 p2
      have := (List.getElem_inj hg).1 (j1.trans j2.symm)
      omega
  · intro b k' hb hro
    obtain ⟨a, k, e1, e2, _, _, e5, _⟩ := hin b k' hb
    have := hr.nx a k e1 (by rw [← e5]; exact hro)
    rw [show c'.io b = c.io a from e2]
    exact this
  · intro b k hb
    have hlt : b < H1.length := by
      rcases Nat.lt_or_ge b B with h | h
      · omega
      · rw [hB b h] at hb; cases hb
    obtain ⟨k', h1, h2, h3⟩ := hs.ids b k hb
    refine ⟨k', ?_, h2, fun e => ⟨(pick_lt hlt).2.trans (h3 e).1, (h3 e).2⟩⟩
    show (H1 ++ T')[b]? = some k'
    rw [hH] at h1
    simp only [List.getElem?_append_left hlt] at h1 ⊢
    exact h1
/-- An environment's places, told in another's words. -/
def pkO (n : Nat) (g : List Nat) (o : Option A) (y : A) : Prop := match o with | some x => Pk n g x y | none => False
@[simp] theorem pkO_s (n : Nat) (g : List Nat) (x y : A) : pkO n g (some x) y = Pk n g x y := rfl
def PkE (n : Nat) (g : List Nat) (e : Env) : Env → Prop
  | [] => True
  | (t, y) :: e' => pkO n g (get e t) y ∧ PkE n g e e'
@[simp] theorem PkE_nil (n : Nat) (g : List Nat) (e : Env) : PkE n g e [] = True := rfl
@[simp] theorem PkE_cons (n : Nat) (g : List Nat) (e e' : Env) (t : Nat) (y : A) : PkE n g e ((t, y) :: e') = (pkO n g (get e t) y ∧ PkE n g e e') := rfl
theorem PkE.get {n : Nat} {g : List Nat} {e : Env} : ∀ {e' : Env}, PkE n g e e' → ∀ {t : Nat} {y : A}, Sym.get e' t = some y → ∃ x, Sym.get e t = some x ∧ Pk n g x y
  | [], _, t, y, h => by simp [Sym.get] at h
  | (s, z) :: e', he, t, y, h => by
    simp only [PkE] at he
    simp only [Sym.get] at h
    split at h
    · rename_i e1
      cases h
      subst e1
      have h1 := he.1
      unfold pkO at h1
      split at h1
      · rename_i x hx; exact ⟨x, hx, h1⟩
      · exact h1.elim
    · exact PkE.get he.2 h
theorem LeV.pick {B : Nat} {r r' : A} {H1 T T' : List Blk} (g : List Nat) (hlen : B ≤ H1.length) (hcl : Closed1 H1.length H1 = true) (hg : g.Nodup) (hT : PkB H1.length g (H1 ++ T) g T') (hr' : Pk H1.length g r r') : LeV B r (H1 ++ T) r' (H1 ++ T') := by
  intro c0 c hB hr hH hs
  obtain ⟨c', h1, h2, h3, h4, h5⟩ := T_pick g hB hr hH hs hlen hcl hg hT
  exact ⟨c', h1, h2, h3, h4, fun v hv => h5 _ _ v hr' hv⟩
theorem Le.pick {B : Nat} {e e' : Env} {H1 T T' : List Blk} (g : List Nat) (hlen : B ≤ H1.length) (hcl : Closed1 H1.length H1 = true) (hg : g.Nodup) (hT : PkB H1.length g (H1 ++ T) g T') (he : PkE H1.length g e e') : Le B e (H1 ++ T) e' (H1 ++ T') := by
  intro c0 c hB hr hH hs
  obtain ⟨c', h1, h2, h3, h4, h5⟩ := T_pick g hB hr hH hs hlen hcl hg hT
  refine ⟨c', h1, h2, h3, h4, fun a ha t y hy => ?_⟩
  obtain ⟨x, e1, e2⟩ := PkE.get he hy
  exact h5 _ _ _ e2 (ha t x e1)
theorem WLoop_pick {P : Program} {S : FuncId → Bool} {B : Nat} {c : IC} {Q : Ex → Env → List Blk → Prop} {e : Env} {H : List Blk} (g : List Nat) (e' : Env) (H1 T T' : List Blk) (hH : H = H1 ++ T) (hlen : B ≤ H1.length) (hcl : Closed1 H1.length H1 = true) (hg : g.Nodup) (hT : PkB H1.length g (H1 ++ T) g T') (he : PkE H1.length g e e')
    (h : @WLoop' P S B c ⟨Q⟩ e' (H1 ++ T')) : @WLoop' P S B c ⟨Q⟩ e H := by
  subst hH
  exact WLoop_tell (Le.pick g hlen hcl hg hT he) h
attribute [simp] Pk Pks PkB
end Go.Sym
