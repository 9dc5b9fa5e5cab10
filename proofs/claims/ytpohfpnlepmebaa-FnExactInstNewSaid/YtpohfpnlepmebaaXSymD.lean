/- Each operation of Go does what stepK says of it. Conditions: okOp, which is asked of the operation and the sizes beside it. -/
import Derived.Test.YtpohfpnlepmebaaXSymC
import Derived.Laws.MakeOwn
import Derived.Laws.StructEq
set_option linter.unusedVariables false
set_option linter.unusedSimpArgs false
namespace Go.Sym
open Go.RowKit

mutual
def okA : A → Value → Bool
  | .bool a, .bool b => a == b
  | .int k a, .int k' b => k == k' && a == b
  | .str s, .string t => decide (s = t)
  | .nil, .slice a n m => a.isNone && n == 0 && m == 0
  | .nilp, .pointer a => a.isNone
  | .nilf, .nilFunc => true
  | .fn f cs, .func g a b => cs.isEmpty && decide (g = .func f) && a.isEmpty && b.isEmpty
  | .agg xs, .agg vs => okAs xs vs.toList
  | .tup xs, .tuple vs => okAs xs vs.toList
  | _, _ => false
def okAs : List A → List Value → Bool
  | [], [] => true
  | x :: xs, v :: vs => okA x v && okAs xs vs
  | _, _ => false
end

def okO : Opd → Operand → Bool
  | .t a, .tmp b => a == b
  | .c x, .const v => okA x v
  | .c (.fn f []), .func g => f == g
  | _, _ => false

mutual
theorem VR.ok {c : Cx} : ∀ (x : A) (v : Value), okA x v = true → VR c x v
  | .bool a, v, h => by
    cases v <;> simp [okA] at h
    simp [VR, h]
  | .int k a, v, h => by
    cases v <;> simp [okA] at h
    simp [VR, h]
  | .str s, v, h => by
    cases v <;> simp [okA] at h
    simp [VR, h]
  | .nil, v, h => by
    cases v <;> simp [okA] at h
    obtain ⟨⟨h1, h2⟩, h3⟩ := h
    subst h1 h2 h3
    exact ⟨none, rfl⟩
  | .nilf, v, h => by
    cases v <;> simp [okA] at h
    simp [VR]
  | .nilp, v, h => by
    cases v <;> simp [okA] at h
    subst h
    simp [VR]
  | .fn f cs, v, h => by
    cases v <;> simp [okA] at h
    obtain ⟨⟨⟨h1, h2⟩, h3⟩, h4⟩ := h
    subst h1 h2 h3 h4
    exact ⟨#[], rfl, by simp [VRs]⟩
  | .agg xs, v, h => by
    cases v <;> simp [okA] at h
    rename_i vs
    exact ⟨vs, rfl, VRs.ok xs _ h⟩
  | .tup xs, v, h => by
    cases v <;> simp [okA] at h
    rename_i vs
    exact ⟨vs, rfl, VRs.ok xs _ h⟩
  | .sl _ _, v, h => by simp [okA] at h
  | .ref _ _ _ _, v, h => by simp [okA] at h
  | .ptr _ _ _, v, h => by simp [okA] at h
  | .pt _, v, h => by simp [okA] at h
  | .mref _ _, v, h => by simp [okA] at h
  | .ub, v, h => by simp [okA] at h
  | .err _, v, h => by simp [okA] at h
  | .stamp _ _ _ _, v, h => by simp [okA] at h
theorem VRs.ok {c : Cx} : ∀ (xs : List A) (vs : List Value), okAs xs vs = true → VRs c xs vs
  | [], vs, h => by cases vs <;> simp [okAs] at h; simp [VRs]
  | x :: xs, [], h => by simp [okAs] at h
  | x :: xs, v :: vs, h => by
    simp [okAs] at h
    exact ⟨v, vs, rfl, VR.ok x v h.1, VRs.ok xs vs h.2⟩
end

def EnvRel (c : Cx) (e : Env) (a : Act) : Prop := ∀ t x, get e t = some x → VR c x (a.tmps.getD t undef)

theorem evO {c : Cx} {e : Env} {a : Act} (he : EnvRel c e a) {x : Opd} {o : Operand} (h : okO x o = true) {y : A} (hy : ev e x = some y) : VR c y (a.eval o) := by
  cases x with
  | t n =>
    cases o <;> simp [okO] at h
    subst h
    exact he _ _ hy
  | c z =>
    simp [ev] at hy
    subst hy
    cases o with
    | const v => exact VR.ok z v (by simpa [okO] using h)
    | func g =>
      cases z with
      | fn f cs =>
        cases cs <;> simp [okO] at h
        subst h
        exact ⟨#[], rfl, by simp [VRs]⟩
      | _ => simp [okO] at h
    | tmp b => simp [okO] at h
    | global b => simp [okO] at h

def Dl.on (n : Nat) (H : Nat → Option Blk) : Dl → Nat → Option Blk
  | .no => H
  | .new k => upd H n (some k)
  | .set b k => upd H b (some k)
  | .news ks => fun b => if n ≤ b ∧ b < n + ks.length then ks[b - n]? else H b
  | .full _ H' => fun b => H'[b]?

def Does (P : Program) (c : Cx) (n : Nat) (s : Sem Next) (x : A) (d : Dl) : Prop :=
  ∃ v c', (s.run P c.w = .ok (.value v) c'.w ∨ s.run P c.w = .ok .skip c'.w ∧ v = undef) ∧ VR c' x v ∧ RelH c' ∧ Step c c' ∧ c'.H = d.on n c.H

theorem Does.plain {P : Program} {c : Cx} {n : Nat} {s : Sem Next} {x : A} {v : Value} (hr : RelH c) (h : s.run P c.w = .ok (.value v) c.w) (hv : VR c x v) : Does P c n s x .no :=
  ⟨v, c, .inl h, hv, hr, Step.refl c, rfl⟩

/-- The values that stand in a row. -/
theorem rowVals {c : Cx} (hr : RelH c) {b : Nat} {k : Blk} (hb : c.H b = some k) : ∃ vs, reads c.w (c.at b 0) vs ∧ VRs c k.cs vs := by
  have h : ∀ j, ∃ v, ∀ x, k.cs[j]? = some x → c.w.cell? (c.at b j) = some v ∧ VR c x v := by
    intro j
    cases hj : k.cs[j]? with
    | none => exact ⟨undef, fun x hx => by simp at hx⟩
    | some x =>
      obtain ⟨v, h1, h2⟩ := hr.cell b k hb j x hj
      exact ⟨v, fun y hy => by injection hy with hy; subst hy; exact ⟨h1, h2⟩⟩
  obtain ⟨f, hf⟩ := Classical.axiomOfChoice h
  refine ⟨(List.range k.cs.length).map f, fun j x hj => ?_, VRs.mk (by simp) fun j x v hx hv => ?_⟩
  · have hjl : j < k.cs.length := by
      rcases Nat.lt_or_ge j k.cs.length with h' | h'
      · exact h'
      · simp [List.getElem?_eq_none (by simpa using h' : ((List.range k.cs.length).map f).length ≤ j)] at hj
    have hx : k.cs[j]? = some k.cs[j] := List.getElem?_eq_getElem hjl
    have := (hf j _ hx).1
    simp [hjl] at hj
    subst hj
    simpa [Cx.at] using this
  · have hjl : j < k.cs.length := by
      rcases Nat.lt_or_ge j k.cs.length with h' | h'
      · exact h'
      · simp [List.getElem?_eq_none h'] at hx
    simp [hjl] at hv
    subst hv
    exact (hf j x hx).2

def isAggD : TypeDesc → Bool
  | .struct _ | .array _ _ => true
  | _ => false

def sizeIs (P : Program) (t : TypeId) (n : Nat) : Bool :=
  match P.info? t with
  | some i => i.size == n
  | none => false

def aggIs (P : Program) (t : TypeId) (ag : Option Nat) : Bool :=
  match P.underlying t with
  | some d => match ag with
    | some n => isAggD d && sizeIs P t n
    | none => !isAggD d
  | none => false

theorem sizeIs.run {P : Program} {t : TypeId} {n : Nat} (h : sizeIs P t n = true) (w : World) : (sizeOf t).run P w = .ok n w := by
  unfold sizeIs at h
  cases hi : P.info? t with
  | none => simp [hi] at h
  | some i => simp [hi] at h; simp [sizeOf, typeInfo, hi, h]

theorem run_isAgg' {P : Program} {t : TypeId} {d : TypeDesc} (h : P.underlying t = some d) (w : World) : (isAgg t).run P w = .ok (isAggD d) w := by
  unfold isAgg
  rw [Sem.run_bind, run_underlying h w]
  cases d <;> rfl

theorem addr_add {ad : Addr} (h : ad.spot = none) (j : Nat) : ad.add j = ⟨ad.block, ad.off + j, none⟩ := by
  cases ad
  unfold Addr.add
  split <;> simp_all

theorem run_ld {P : Program} {c : Cx} {t : TypeId} {ag : Option Nat} (hag : aggIs P t ag = true) {ad : Addr} (hs : ad.spot = none) {cs : List A} {vs : List Value}
    (hrd : reads c.w ad vs) (hv : VRs c cs vs) {x : A} (h : ldK ag cs (fun y => y = x)) : ∃ v, (loadVar t ad).run P c.w = .ok v c.w ∧ VR c x v := by
  unfold aggIs at hag
  cases hu : P.underlying t with
  | none => simp [hu] at hag
  | some d =>
    rw [hu] at hag
    cases ag with
    | none =>
      simp at hag
      obtain ⟨y, hy, rfl⟩ := h
      obtain ⟨v, h1, h2⟩ := hv.get hy
      refine ⟨v, ?_, h2⟩
      have := hrd 0 v h1
      have e : ad = ⟨ad.block, ad.off + 0, none⟩ := by cases ad; simp_all
      simp only [loadVar, Sem.run_bind, run_isAgg' hu, hag, Result.andThen_ok, Bool.false_eq_true, if_false]
      rw [e, run_load, this]
    | some n =>
      simp at hag
      obtain ⟨h1, rfl⟩ := h
      refine ⟨.agg (vs.take n).toArray, ?_, ⟨_, rfl, by simpa using hv.take n⟩⟩
      have hl : (vs.take n).length = n := by rw [List.length_take, hv.length]; omega
      have := run_loadCells_list (P := P) c.w ad (vs.take n) (fun j v hj => by rw [addr_add hs]; exact (hrd.take n) j v hj)
      rw [hl] at this
      simp only [loadVar, Sem.run_bind, run_isAgg' hu, hag.1, Result.andThen_ok, if_true, sizeIs.run hag.2, this]
      rfl

theorem run_part {P : Program} {c : Cx} {t : TypeId} {ag : Option Nat} (hag : aggIs P t ag = true) {cs : List A} {vs : Array Value} {off : Nat}
    (hv : VRs c cs vs.toList) {x : A} (h : ldK ag (cs.drop off) (fun y => y = x)) : ∃ v, (part t vs off).run P c.w = .ok v c.w ∧ VR c x v := by
  unfold aggIs at hag
  cases hu : P.underlying t with
  | none => simp [hu] at hag
  | some d =>
    rw [hu] at hag
    cases ag with
    | none =>
      simp at hag
      obtain ⟨y, hy, rfl⟩ := h
      obtain ⟨v, h1, h2⟩ := (hv.drop off).get hy
      refine ⟨v, ?_, h2⟩
      have h1' : vs[off]? = some v := by simpa [List.getElem?_drop] using h1
      simp only [part, Sem.run_bind, run_isAgg' hu, hag, Result.andThen_ok, Bool.false_eq_true, if_false, h1']
      rfl
    | some n =>
      simp at hag
      obtain ⟨h1, rfl⟩ := h
      refine ⟨.agg (vs.extract off (off + n)), ?_, ⟨_, rfl, ?_⟩⟩
      · simp only [part, Sem.run_bind, run_isAgg' hu, hag.1, Result.andThen_ok, if_true, sizeIs.run hag.2]
        rfl
      · have := (hv.drop off).take n
        rw [Array.toList_extract, List.extract_eq_take_drop, show off + n - off = n by omega]
        exact this

/-- How a list of blocks stands to those that are there: what is there is as the list says. -/
def Sub (c : Cx) (H : List Blk) : Prop := ∀ b k, H[b]? = some k → c.H b = none ∨ c.H b = some k

theorem does_ld {P : Program} {c : Cx} {e : Env} {a : Act} {H : List Blk} (hr : RelH c) (he : EnvRel c e a) (hsub : Sub c H) {t : TypeId} {x : Operand} {y : Opd} {ag : Option Nat}
    (hx : okO y x = true) (hag : aggIs P t ag = true) {r : A} {d : Dl} (h : stepK (.ld ag y) e H (fun z b => z = r ∧ b = d)) :
    Does P c H.length (do pure (.value (← Instr.loadAt t (a.eval x)))) r d := by
  simp only [stepK] at h
  split at h
  · rename_i b v off hy
    split at h
    · rename_i k hk
      obtain ⟨hkv, h⟩ := h
      have hv := evO he hx hy
      simp only [VR] at hv
      obtain ⟨k', p, g1, g2, g4, g3⟩ := hv
      have hck : c.H b = some k := by rcases hsub b k hk with h' | h' <;> simp_all
      rw [hck] at g1
      injection g1 with g1
      subst g1
      have hp : a.eval x = .pointer (some (c.at b off)) := by rw [g4, g3 hkv.symm]
      obtain ⟨vs, i1, i2⟩ := rowVals hr hck
      have hd : d = .no := by
        cases ag with
        | none => obtain ⟨_, _, _, h⟩ := h; exact h.symm
        | some n => exact h.2.2.symm
      subst hd
      have h' : ldK ag (k.cs.drop off) (fun z => z = r) := by
        cases ag with
        | none => obtain ⟨z, h1, h2, _⟩ := h; exact ⟨z, h1, h2⟩
        | some n => exact ⟨h.1, h.2.1⟩
      have hrd : reads c.w (c.at b off) (vs.drop off) := by simpa [Cx.at] using i1.drop off
      obtain ⟨u, j1, j2⟩ := run_ld (P := P) hag (ad := c.at b off) rfl hrd (i2.drop off) h'
      refine Does.plain hr ?_ j2
      simp [hp, Instr.loadAt, Instr.sureAddr, j1]
    · exact h.elim
  · rename_i cs hy
    have hv := evO he hx hy
    simp only [VR] at hv
    obtain ⟨ad, vs, h1, h2, h3, h4, h5, h6⟩ := hv
    have hd : d = .no := by
      cases ag with
      | none => obtain ⟨_, _, _, h⟩ := h; exact h.symm
      | some n => exact h.2.2.symm
    subst hd
    have h' : ldK ag cs (fun z => z = r) := by
      cases ag with
      | none => obtain ⟨z, h1, h2, _⟩ := h; exact ⟨z, h1, h2⟩
      | some n => exact ⟨h.1, h.2.1⟩
    obtain ⟨u, j1, j2⟩ := run_ld (P := P) hag h2 h5 h6 h'
    refine Does.plain hr ?_ j2
    simp [h1, Instr.loadAt, Instr.sureAddr, j1]
  · exact h.elim
end Go.Sym
