/- From what a law's argument is read as to the trees that tell it; from a law's contract to what its row asks. Conditions: those that each theorem names. -/
import Derived.Test.YtpohfpnlepmebaaXSymS
import Derived.Deep.Slices
import Derived.ChangeArms
import Derived.ChangeSame
import Derived.OpenShut
import Derived.ShutString
import Derived.ProofKit
set_option linter.unusedVariables false
set_option linter.unusedSimpArgs false
namespace Go.Sym
open Go.RowKit Go.WideShapes Go.ChangeShapes Go.ChangeAt

/-- The form of a type: what its cells are. A struct's fields stand as pairs. -/
inductive Sh where
  | i (k : IntKind)
  | b
  | tx
  | sl (e : Sh)
  | st (f : Sh)
  | u
  | p (f g : Sh)

def Sh.sz : Sh → Nat
  | .i _ => 1
  | .b => 1
  | .tx => 1
  | .sl _ => 1
  | .st f => f.sz
  | .u => 0
  | .p f g => f.sz + g.sz

mutual
def okT (P : Program) : Sh → TypeId → Bool
  | .i k, t => (match P.underlying t with | some (.int k') => decide (k' = k) | _ => false)
  | .b, t => isBl (P.underlying t)
  | .tx, t => isStr (P.underlying t)
  | .sl e, t => (match P.underlying t with | some (.slice et) => P.cellsOf et == e.sz && decide (0 < e.sz) && okT P e et | _ => false)
  | .st f, t => (match P.underlying t with | some (.struct fs) => P.cellsOf t == f.sz && okF P f fs.toList 0 | _ => false)
  | _, _ => false
def okF (P : Program) : Sh → List Field → Nat → Bool
  | .u, [], _ => true
  | .p a g, f :: fs, off => f.offset == off && P.cellsOf f.type == a.sz && okT P a f.type && okF P g fs (off + a.sz)
  | _, _, _ => false
end

/-- What the cells of a form are. -/
def Fit : Sh → List A → Prop
  | .i k, cs => ∃ n, cs = [.int k n] ∧ (Lit.int k n).wf = true
  | .b, cs => ∃ x, cs = [.bool x]
  | .tx, cs => ∃ x, cs = [.str x] ∧ x.size ≤ maxLen
  | .sl e, cs => ∃ rows : List (List A), cs = [.sl rows.length rows.flatten] ∧ rows.length ≤ maxLen ∧ ∀ r ∈ rows, Fit e r
  | .st f, cs => Fit f cs
  | .u, cs => cs = []
  | .p a g, cs => ∃ x y, cs = x ++ y ∧ Fit a x ∧ Fit g y

theorem reads.app {w : World} {ad : Addr} {vs us : List Value} (h : reads w ad vs) (g : reads w ⟨ad.block, ad.off + vs.length, none⟩ us) : reads w ad (vs ++ us) := by
  intro j x hj
  rcases Nat.lt_or_ge j vs.length with hl | hl
  · rw [List.getElem?_append_left hl] at hj; exact h j x hj
  · rw [List.getElem?_append_right hl] at hj
    have := g _ _ hj
    rw [show ad.off + vs.length + (j - vs.length) = ad.off + j by omega] at this
    exact this

section
variable {H : Type} {enc : TypeId × Value → H} {P : Program} {W : World} {base : Nat} {sp : Nat → Bool} {held : Bool}

mutual
theorem open_sh {c : Cx} (hw : c.w = W) (hz : ∀ k, ¬ c.Z k) : ∀ (s : Sh) (t : TypeId) (fuel : Nat) (cs : List Value) (x : DataW H × List MemPlace), okT P s t = true → DataW.trod enc P W base sp held fuel t cs = some x →
    ∃ xs, Fit s xs ∧ VRs c xs cs
  | .i k, t, fuel, cs, x, ht, h => by
    simp only [okT] at ht
    split at ht
    · rename_i k' hk
      obtain rfl : k' = k := by simpa using ht
      obtain ⟨n, rfl, _, hn⟩ := DataW.trod_int hk h
      exact ⟨[.int _ n], ⟨n, rfl, hn⟩, by simp [VRs, VR]⟩
    · cases ht
  | .b, t, fuel, cs, x, ht, h => by
    simp only [okT, isBl] at ht
    split at ht
    · rename_i hk
      obtain ⟨n, rfl, _⟩ := DataW.trod_bool hk h
      exact ⟨[.bool n], ⟨n, rfl⟩, by simp [VRs, VR]⟩
    · cases ht
  | .tx, t, fuel, cs, x, ht, h => by
    simp only [okT, isStr] at ht
    split at ht
    · rename_i hk
      obtain ⟨n, rfl, _, hn⟩ := DataW.trod_string hk h
      exact ⟨[.str n], ⟨n, rfl, hn⟩, by simp [VRs, VR]⟩
    · cases ht
  | .sl e, t, fuel, cs, x, ht, h => by
    simp only [okT] at ht
    split at ht
    · rename_i et hk
      simp only [Bool.and_eq_true, beq_iff_eq, decide_eq_true_eq] at ht
      obtain ⟨⟨h1, h2⟩, h3⟩ := ht
      rcases Go.Deep.open_slice hk h with ⟨rfl, _⟩ | ⟨a, len, cap, m, n, D, Pl, rfl, _, hl, hm, hmm, _, hel⟩
      · exact ⟨[.sl 0 []], ⟨[], rfl, Nat.zero_le _, by simp⟩, by simp [VRs, VR]⟩
      · have hlm : len ≤ m := by rw [hmm]; split <;> omega
        have hsp : 0 < len → a.spot = none ∧ a.block < W.heap.size := by
          intro h0
          obtain ⟨cs', g1, g2⟩ := hel 0 (by omega)
          obtain ⟨_, hlen, hat⟩ := World.cells?_some g1
          have g := hat 0 (by omega)
          have e0 : (a.add (0 * P.cellsOf et)).add 0 = a := by simp [Addr.add]
          rw [e0] at g
          have hs : (W.cell? a).isSome = true := by rw [g, List.getElem?_eq_getElem (by omega)]; rfl
          refine ⟨?_, cell_lt hs⟩
          cases hq : a.spot with
          | none => rfl
          | some q =>
            simp only [World.cell?, hq, Option.isSome_some, if_true] at hs
            split at hs <;> simp at hs
        have key : ∀ q, q ≤ len → ∃ (rows : List (List A)) (vs : List Value), rows.length = q ∧ vs.length = q * e.sz ∧ (0 < len → reads W ⟨a.block, a.off, none⟩ vs) ∧ VRs c rows.flatten vs ∧ ∀ r ∈ rows, Fit e r := by
          intro q
          induction q with
          | zero => intro _; exact ⟨[], [], rfl, by simp, fun _ j x hj => by simp at hj, by simp [VRs], by simp⟩
          | succ q ih =>
            intro hq
            obtain ⟨rows, vs, r1, r2, r3, r4, r5⟩ := ih (by omega)
            obtain ⟨cs', g1, g2⟩ := hel q (by omega)
            obtain ⟨_, hlen, hat⟩ := World.cells?_some g1
            obtain ⟨ys, f1, f2⟩ := open_sh hw hz e et n cs' _ h3 g2
            refine ⟨rows ++ [ys], vs ++ cs', by simp [r1], by rw [List.length_append, r2, hlen, h1, Nat.succ_mul], fun h0 => reads.app (r3 h0) ?_, ?_, ?_⟩
            · intro j x hj
              have hj' : j < P.cellsOf et := by rw [← hlen]; exact (List.getElem?_eq_some_iff.1 hj).1
              have := hat j hj'
              rw [Go.Deep.add_add, addr_add (hsp h0).1] at this
              rw [← hj, ← this, r2, h1]
              simp [Nat.add_assoc]
            · rw [List.flatten_append]
              exact r4.app (by simpa using f2)
            · intro r hr
              rcases List.mem_append.1 hr with hr | hr
              · exact r5 r hr
              · simp at hr; subst hr; exact f1
        obtain ⟨rows, vs, r1, r2, r3, r4, r5⟩ := key len (Nat.le_refl _)
        refine ⟨[.sl rows.length rows.flatten], ⟨rows, rfl, by omega, r5⟩, ?_⟩
        simp only [VRs, VR]
        refine ⟨_, _, rfl, ⟨some a, cap, by rw [r1], by omega, ?_⟩, rfl⟩
        rcases Nat.eq_zero_or_pos rows.length with h0 | h0
        · exact .inl h0
        · have hp := hsp (by omega)
          refine .inr ⟨a, vs, rfl, hp.1, by rw [hw]; exact hp.2, hz _, ?_, r4⟩
          rw [hw]
          exact r3 (by omega)
    · cases ht
  | .st f, t, fuel, cs, x, ht, h => by
    simp only [okT] at ht
    split at ht
    · rename_i fs hk
      simp only [Bool.and_eq_true, beq_iff_eq] at ht
      obtain ⟨ys, n, _, _, hlen, hyl, hf⟩ := DataW.trod_struct hk h
      obtain ⟨xs, h1, h2⟩ := open_fs hw hz f fs.toList 0 n cs ht.2 (fun g hg => by
        obtain ⟨j, hj⟩ := List.mem_iff_getElem?.1 hg
        have hj' : fs[j]? = some g := by simpa using hj
        have := hf j g hj'
        have hjl : j < ys.length := by rw [hyl]; exact (Array.getElem?_eq_some_iff.1 hj').1
        exact ⟨ys[j], by rw [this]; exact List.getElem?_eq_getElem hjl⟩)
      refine ⟨xs, h1, ?_⟩
      rw [List.drop_zero, List.take_of_length_le (by omega)] at h2
      exact h2
    · cases ht
  | .u, t, fuel, cs, x, ht, h => by simp [okT] at ht
  | .p _ _, t, fuel, cs, x, ht, h => by simp [okT] at ht
theorem open_fs {c : Cx} (hw : c.w = W) (hz : ∀ k, ¬ c.Z k) : ∀ (s : Sh) (fs : List Field) (off fuel : Nat) (cs : List Value), okF P s fs off = true →
    (∀ f ∈ fs, ∃ y, DataW.trod enc P W base sp held fuel f.type ((cs.drop f.offset).take (P.cellsOf f.type)) = some y) → ∃ xs, Fit s xs ∧ VRs c xs ((cs.drop off).take s.sz)
  | .u, [], off, fuel, cs, _, _ => ⟨[], rfl, by simp [Sh.sz, VRs]⟩
  | .p a g, f :: fs, off, fuel, cs, ht, h => by
    simp only [okF, Bool.and_eq_true, beq_iff_eq] at ht
    obtain ⟨⟨⟨h1, h2⟩, h3⟩, h4⟩ := ht
    obtain ⟨y, hy⟩ := h f (by simp)
    rw [h1, h2] at hy
    obtain ⟨xs, f1, f2⟩ := open_sh hw hz a f.type fuel _ y h3 hy
    obtain ⟨zs, g1, g2⟩ := open_fs hw hz g fs (off + a.sz) fuel cs h4 (fun f' hf' => h f' (by simp [hf']))
    refine ⟨xs ++ zs, ⟨xs, zs, rfl, f1, g1⟩, ?_⟩
    show VRs c _ ((cs.drop off).take (a.sz + g.sz))
    rw [List.take_add, List.drop_drop]
    exact f2.app g2
  | .u, _ :: _, _, _, _, ht, _ => by simp [okF] at ht
  | .p _ _, [], _, _, _, ht, _ => by simp [okF] at ht
  | .i _, _, _, _, _, ht, _ => by simp [okF] at ht
  | .b, _, _, _, _, ht, _ => by simp [okF] at ht
  | .tx, _, _, _, _, ht, _ => by simp [okF] at ht
  | .sl _, _, _, _, _, ht, _ => by simp [okF] at ht
  | .st _, _, _, _, _, ht, _ => by simp [okF] at ht
end

/-- An argument: a struct stands as one value. -/
def FitA : Sh → A → Prop
  | .st f, x => ∃ cs, x = .agg cs ∧ Fit f cs
  | s, x => Fit s [x]

theorem arg_sh {c : Cx} (hw : c.w = W) (hz : ∀ k, ¬ c.Z k) {s : Sh} {t : TypeId} {r : Reach} {b0 : Nat} {v : Value} {d : DataW H} {ps : List MemPlace} (ht : okT P s t = true) (hv : Value.okWide P W r b0 t v)
    (h : DataW.Trod enc P W base sp held t v d ps) : ∃ x, FitA s x ∧ VR c x v := by
  obtain ⟨fuel, hf⟩ := h
  obtain ⟨xs, h1, h2⟩ := open_sh hw hz s t fuel _ _ ht hf
  have one : ∀ xs, Fit s xs → (∃ y, xs = [y]) → VRs c xs v.cells.toList → v.cells = #[v] → ∃ x, Fit s [x] ∧ VR c x v := by
    rintro _ f ⟨y, rfl⟩ g e
    rw [e] at g
    simp only [VRs] at g
    obtain ⟨u, us, e1, g1, _⟩ := g
    cases e1
    exact ⟨y, f, g1⟩
  cases s with
  | i k =>
    obtain ⟨n, rfl, hn⟩ := h1
    simp only [okT] at ht
    split at ht
    · rename_i k' hk
      obtain ⟨m, rfl⟩ := okWide_int hk hv
      exact one _ ⟨n, rfl, hn⟩ ⟨_, rfl⟩ h2 rfl
    · cases ht
  | b =>
    obtain ⟨n, rfl⟩ := h1
    simp only [okT, isBl] at ht
    split at ht
    · rename_i hk
      obtain ⟨m, rfl⟩ := okWide_bool hk hv
      exact one _ ⟨n, rfl⟩ ⟨_, rfl⟩ h2 rfl
    · cases ht
  | tx =>
    obtain ⟨n, rfl, hn⟩ := h1
    simp only [okT, isStr] at ht
    split at ht
    · rename_i hk
      obtain ⟨m, rfl⟩ := okWide_string hk hv
      exact one _ ⟨n, rfl, hn⟩ ⟨_, rfl⟩ h2 rfl
    · cases ht
  | sl e =>
    obtain ⟨rows, rfl, h3⟩ := h1
    simp only [okT] at ht
    split at ht
    · rename_i et hk
      obtain ⟨a, len, cap, rfl⟩ := okWide_slice hk hv
      exact one _ ⟨rows, rfl, h3⟩ ⟨_, rfl⟩ h2 rfl
    · cases ht
  | st f =>
    simp only [okT] at ht
    split at ht
    · rename_i fs hk
      obtain ⟨cs, rfl, _⟩ := okWide_struct hk hv
      refine ⟨.agg xs, ⟨xs, rfl, h1⟩, ?_⟩
      simp only [VR]
      exact ⟨cs, rfl, by simpa [Value.cells] using h2⟩
    · cases ht
  | u => simp [okT] at ht
  | p _ _ => simp [okT] at ht
end

/-- The context in which a law is called: nothing of it is its own. -/
def Cx.law (W : World) : Cx := ⟨fun _ => none, fun _ => (0, 0), W, fun _ => False⟩
theorem law_z (W : World) (k : Nat) : ¬ (Cx.law W).Z k := by
  rintro (h | ⟨b, blk, h, _⟩)
  · exact h
  · cases h
theorem law_rel (W : World) : RelH (Cx.law W) where
  cell := fun b k h => by cases h
  vz := fun b k h => by cases h
  lt := fun b k h => by cases h
  fz := fun b k h => by cases h
  mz := fun b k st l h => by cases h
  uni := fun b b' k k' h => by cases h
  nx := fun b k h => by cases h
  xlt := fun k h => h.elim

/-- A program without variables. -/
theorem gd_none {P : Program} (h : P.globals.size = 0) (W : World) : Gd P (Cx.law W) := by
  intro p _ g hg
  exfalso
  have hz : P.globals = #[] := by simpa using h
  revert hg
  unfold Program.globalNamed
  rw [hz]
  simp
theorem law_calls {P : Program} {f : FuncId} {xs : List A} (h : SemT P f xs [] (.bool true) []) {W : World} {vs : Array Value} (hgd : Gd P (Cx.law W)) (hv : VRs (Cx.law W) xs vs.toList) :
    Calls P f vs W fun e W' => e = .returned (.bool true) ∧ Below W.heap.size W W' := by
  refine (h (Cx.law W) vs hgd (law_rel W) (by funext b; simp [Cx.law]) hv).mono ?_
  rintro e w' ⟨v, c', rfl, rfl, _, _, hr, hs⟩
  simp only [VR] at hr
  subst hr
  refine ⟨rfl, ?_⟩
  have hb : ∀ k, k < W.heap.size → c'.w.heap[k]? = W.heap[k]? := fun k hk => hs.blk k hk (fun ho => law_z W k (.inr ho))
  exact ⟨hs.os, hs.tape, hs.output, hs.size, hb⟩

theorem fit_i64 {n : Int} (h : (Lit.int .i64 n).wf = true) : -9223372036854775808 ≤ n ∧ n < 9223372036854775808 := by
  simp [Lit.wf, IntKind.min, IntKind.max, IntKind.bits, IntKind.signed] at h
  omega
theorem fit_u8 {n : Int} (h : (Lit.int .u8 n).wf = true) : 0 ≤ n ∧ n < 256 := by
  simp [Lit.wf, IntKind.min, IntKind.max, IntKind.bits, IntKind.signed] at h
  omega
/-- Rows of a form that are rows of an encoding. -/
theorem fit_rows {α : Type} {e : Sh} {f : α → List A} {G : α → Prop} (hf : ∀ r, Fit e r → ∃ x, r = f x ∧ G x) : ∀ (rows : List (List A)), (∀ r ∈ rows, Fit e r) → ∃ xs : List α, rows.length = xs.length ∧ rows.flatten = xs.flatMap f ∧ ∀ x ∈ xs, G x
  | [], _ => ⟨[], rfl, rfl, by simp⟩
  | r :: rows, h => by
    obtain ⟨x, rfl, g⟩ := hf r (h r (by simp))
    obtain ⟨xs, h1, h2, h3⟩ := fit_rows hf rows (fun r hr => h r (by simp [hr]))
    refine ⟨x :: xs, by simp [h1], by simp [h2], ?_⟩
    intro y hy
    rcases List.mem_cons.1 hy with rfl | hy
    · exact g
    · exact h3 y hy
theorem fit_sl {α : Type} {e : Sh} {f : α → List A} {G : α → Prop} (hf : ∀ r, Fit e r → ∃ x, r = f x ∧ G x) {cs : List A} (h : Fit (.sl e) cs) : ∃ xs : List α, cs = [.sl xs.length (xs.flatMap f)] ∧ xs.length < 9223372036854775808 ∧ ∀ x ∈ xs, G x := by
  obtain ⟨rows, rfl, h1, h2⟩ := h
  obtain ⟨xs, g1, g2, g3⟩ := fit_rows hf rows h2
  exact ⟨xs, by rw [g1, g2], by unfold maxLen at h1; omega, g3⟩
end Go.Sym
