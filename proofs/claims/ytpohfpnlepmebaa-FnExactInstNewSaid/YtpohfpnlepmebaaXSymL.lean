/- A region of operations, in whatever order they are drawn, does what its operations do one behind the other. Conditions: the checks that each theorem names. -/
import Derived.Test.YtpohfpnlepmebaaXSymK
set_option linter.unusedVariables false
set_option linter.unusedSimpArgs false
namespace Go.Sym
open Go.RowKit

structure IOper where
  dst : Option Nat
  op : IOp
  g : Option (Nat × Bool)

def put (e : Env) : Option Nat → A → Env
  | none, _ => e
  | some d, x => (d, x) :: e

theorem get_put (e : Env) (d : Option Nat) (x : A) (t : Nat) : get (put e d x) t = if d = some t then some x else get e t := by
  cases d with
  | none => simp [put]
  | some d => simp [put, get]

def opdT : Opd → List Nat
  | .t n => [n]
  | .c _ => []
def opdO : Option Opd → List Nat
  | none => []
  | some x => opdT x

def opTmps : IOp → List Nat
  | .mv x => opdT x
  | .pick c a b => opdT c ++ (opdT a ++ opdT b)
  | .new _ => []
  | .box x => opdT x
  | .build _ ps => ps.flatMap fun p => opdT p.2.2
  | .bsl _ _ _ ps => ps.flatMap fun p => opdT p.2.2
  | .ld _ x => opdT x
  | .st _ a v => opdT a ++ opdT v
  | .nck x => opdT x
  | .bin _ x y => opdT x ++ opdT y
  | .eqb _ x y => opdT x ++ opdT y
  | .eqs _ _ x y => opdT x ++ opdT y
  | .not x => opdT x
  | .neg x => opdT x
  | .conv _ x => opdT x
  | .mk _ _ _ l c => opdT l ++ opdT c
  | .slc _ x lo hi mx => opdT x ++ (opdO lo ++ (opdO hi ++ opdO mx))
  | .sls x lo hi => opdT x ++ (opdO lo ++ opdO hi)
  | .fad _ x => opdT x
  | .fld _ _ x => opdT x
  | .iad _ x i => opdT x ++ opdT i
  | .iada _ _ x i => opdT x ++ opdT i
  | .idxs x i => opdT x ++ opdT i
  | .idxa _ _ _ x i => opdT x ++ opdT i
  | .len _ x => opdT x
  | .app _ _ x y => opdT x ++ opdT y
  | .ext x _ => opdT x
  | .mm _ x xs => opdT x ++ xs.flatMap opdT
  | .isn _ x => opdT x
  | .ise _ x => opdT x
  | .s2b x => opdT x
  | .b2s x => opdT x
  | .frz x => opdT x
  | .mkm _ => []
  | .mlk _ m k => opdT m ++ opdT k
  | .men _ m k => opdT m ++ opdT k
  | .mst _ m s x => opdT m ++ (opdT s ++ opdT x)
  | .mup _ m k x => opdT m ++ (opdT k ++ opdT x)
  | .mkf _ xs => xs.flatMap opdT
  | .call _ xs => xs.flatMap opdT
  | .cv g xs => opdT g ++ xs.flatMap opdT

def names (o : IOper) : List Nat := o.dst.toList ++ (opTmps o.op ++ (o.g.map (·.1)).toList)

section congr
variable {e e' : Env}

theorem ev_congr {x : Opd} (h : ∀ t ∈ opdT x, get e t = get e' t) : ev e x = ev e' x := by
  cases x with
  | t n => exact h n (by simp [opdT])
  | c x => rfl

theorem evs_congr : ∀ {xs : List Opd}, (∀ t ∈ xs.flatMap opdT, get e t = get e' t) → evs e xs = evs e' xs
  | [], _ => rfl
  | x :: xs, h => by
    simp only [List.flatMap_cons, List.mem_append] at h
    simp only [evs]
    rw [ev_congr fun t ht => h t (.inl ht), evs_congr fun t ht => h t (.inr ht)]

theorem evPs_congr : ∀ {ps : List (Nat × Nat × Opd)}, (∀ t ∈ ps.flatMap (fun p => opdT p.2.2), get e t = get e' t) → evPs e ps = evPs e' ps
  | [], _ => rfl
  | (o, s, x) :: ps, h => by
    simp only [List.flatMap_cons, List.mem_append] at h
    simp only [evPs]
    rw [ev_congr fun t ht => h t (.inl ht), evPs_congr fun t ht => h t (.inr ht)]

theorem bnd_congr {x : Option Opd} {d : Nat} (h : ∀ t ∈ opdO x, get e t = get e' t) : bnd e d x = bnd e' d x := by
  cases x with
  | none => rfl
  | some x => simp only [bnd]; rw [ev_congr h]

theorem stepK_congr {op : IOp} (h : ∀ t ∈ opTmps op, get e t = get e' t) (H : List Blk) (K : A → Dl → Prop) : stepK op e H K = stepK op e' H K := by
  have l : ∀ {a b : List Nat}, (∀ t ∈ a ++ b, get e t = get e' t) → ∀ t ∈ a, get e t = get e' t := fun h t ht => h t (List.mem_append_left _ ht)
  have r : ∀ {a b : List Nat}, (∀ t ∈ a ++ b, get e t = get e' t) → ∀ t ∈ b, get e t = get e' t := fun h t ht => h t (List.mem_append_right _ ht)
  cases op with
  | slc esz x lo hi mx =>
    simp only [opTmps] at h
    cases mx with
    | none => simp only [stepK, ev_congr (l h), bnd_congr (l (r h)), bnd_congr (l (r (r h)))]
    | some m => simp only [stepK, ev_congr (l h), bnd_congr (l (r h)), bnd_congr (l (r (r h))), bnd_congr (r (r (r h)))]
  | sls x lo hi =>
    simp only [opTmps] at h
    simp only [stepK, ev_congr (l h), bnd_congr (l (r h)), bnd_congr (r (r h))]
  | pick c a b =>
    simp only [opTmps] at h
    simp only [stepK, ev_congr (l h), ev_congr (l (r h)), ev_congr (r (r h))]
  | build zs ps => simp only [opTmps] at h; simp only [stepK, evPs_congr h]
  | bsl esz n zs ps => simp only [opTmps] at h; simp only [stepK, evPs_congr h]
  | mm mx x xs => simp only [opTmps] at h; simp only [stepK, ev_congr (l h), evs_congr (r h)]
  | call f xs => rfl
  | cv g xs => rfl
  | new zs => rfl
  | mkm st => rfl
  | mkf f xs => simp only [opTmps] at h; simp only [stepK, evs_congr h]
  | mup st m s x =>
    simp only [opTmps] at h
    simp only [stepK, ev_congr (l h), ev_congr (l (r h)), ev_congr (r (r h))]
  | mst st m s x =>
    simp only [opTmps] at h
    simp only [stepK, ev_congr (l h), ev_congr (l (r h)), ev_congr (r (r h))]
  | _ =>
    simp only [opTmps] at h
    first
      | simp only [stepK, ev_congr h]; done
      | simp only [stepK, ev_congr (l h), ev_congr (r h)]; done
end congr

def stepR (P : Program) (S : FuncId → Bool) (op : IOp) (e : Env) (H : List Blk) (v : A) (d : Dl) : Prop :=
  match op with
  | .call f xs => ∃ as, evs e xs = some as ∧ callR P S f as H v d
  | .cv g xs => ∃ f cs as, ev e g = some (.fn f cs) ∧ evs e xs = some as ∧ canEnter P f = true ∧ callR P S f (as ++ cs) H v d
  | op => stepK op e H (fun a b => a = v ∧ b = d)

theorem stepR_congr {P : Program} {S : FuncId → Bool} {e e' : Env} {op : IOp} (h : ∀ t ∈ opTmps op, get e t = get e' t) {H : List Blk} {v : A} {d : Dl} (hs : stepR P S op e H v d) : stepR P S op e' H v d := by
  cases op with
  | call f xs => simp only [stepR] at hs ⊢; rw [← evs_congr h]; exact hs
  | cv g xs =>
    simp only [opTmps, List.mem_append] at h
    simp only [stepR] at hs ⊢
    rw [← evs_congr (fun t ht => h t (.inr ht)), ← ev_congr (fun t ht => h t (.inl ht))]
    exact hs
  | _ => simp only [stepR] at hs ⊢; rw [← stepK_congr h]; exact hs

def gd (e : Env) : Option (Nat × Bool) → Option Bool
  | none => some true
  | some (t, want) => match get e t with
    | some (.bool b) => some (b == want)
    | some (.tup []) => some false
    | _ => none

theorem gd_congr {e e' : Env} {g : Option (Nat × Bool)} (h : ∀ t ∈ (g.map (·.1)).toList, get e t = get e' t) : gd e g = gd e' g := by
  cases g with
  | none => rfl
  | some p => simp only [gd]; rw [h p.1 (by simp)]

/-- 0: it looks at no row; 1: it reads rows or makes new ones; 2: it writes. -/
def clsOf (S : FuncId → Bool) (op : IOp) (e : Env) : Nat :=
  match op with
  | .ld _ x => match ev e x with | some (.pt _) => 0 | _ => 1
  | .new _ => 1
  | .box _ => 1
  | .bsl _ n _ _ => if n = 0 then 0 else 1
  | .mk _ _ _ _ _ => 1
  | .iad _ x _ => match ev e x with | some (.sl _ _) => 0 | _ => 1
  | .slc _ x _ _ mx => match ev e x with | some (.ref _ _ _ _) => 1 | _ => 0
  | .st _ _ _ => 2
  | .frz _ => 2
  | .app _ _ x _ => match ev e x with | some (.ref _ _ _ _) => 2 | _ => 1
  | .b2s x => match ev e x with | some (.ref _ _ _ _) => 1 | _ => 0
  | .mkm _ => 1
  | .mlk _ _ _ => 1
  | .men _ _ _ => 1
  | .mst _ _ _ _ => 2
  | .mup _ _ _ _ => 2
  | .call f _ => if S f then 2 else 1
  | .cv g _ => match ev e g with | some (.fn f _) => if S f then 2 else 1 | _ => 2
  | _ => 0

/-- Whose row alone an operation looks at. -/
def fpA : Option A → Option Nat
  | some (.ptr b _ _) => some b
  | some (.ref b _ _ _) => some b
  | some (.mref b _) => some b
  | _ => none
def fpP : Option A → Option Nat
  | some (.ptr b _ _) => some b
  | _ => none
def fpR : Option A → Option Nat
  | some (.ref b _ _ _) => some b
  | _ => none
def fpM : Option A → Option Nat
  | some (.mref b _) => some b
  | _ => none
def fpOf : IOp → Env → Option Nat
  | .ld _ x, e => fpP (ev e x)
  | .iad _ x _, e => fpR (ev e x)
  | .slc _ x _ _ none, e => fpR (ev e x)
  | .mlk _ m _, e => fpM (ev e m)
  | _, _ => none
/-- Which rows are written. -/
def twOf : Dl → List Nat
  | .set b _ => [b]
  | .full T _ => T
  | _ => []
structure Cl where
  n : Nat
  fp : Option Nat
  tw : List Nat
def cl0 : Cl := ⟨0, none, []⟩
def clD (S : FuncId → Bool) (op : IOp) (e : Env) (d : Dl) : Cl := ⟨clsOf S op e, fpOf op e, twOf d⟩
def cn (cs : List Cl) (i : Nat) : Cl := cs.getD i cl0

def runOps (P : Program) (S : FuncId → Bool) : List IOper → Env → List Blk → List Cl → Env → List Blk → Prop
  | [], e, H, cs, e', H' => cs = [] ∧ e' = e ∧ H' = H
  | o :: os, e, H, cs, e', H' => ∃ cs', match gd e o.g with
    | some true => ∃ v d, stepR P S o.op e H v d ∧ cs = clD S o.op e d :: cs' ∧ runOps P S os (put e o.dst v) (d.app H) cs' e' H'
    | some false => cs = cl0 :: cs' ∧ runOps P S os (put e o.dst undefA) H cs' e' H'
    | none => False

structure Seq (P : Program) (S : FuncId → Bool) (is : List IOper) (e : Env) (H : List Blk) (cs : List Cl) (e' : Env) (H' : List Blk) (E : Nat → Env) (G : Nat → List Blk) (V : Nat → A) (D : Nat → Dl) (X : Nat → Bool) : Prop where
  e0 : E 0 = e
  g0 : G 0 = H
  en : E is.length = e'
  gn : G is.length = H'
  cl : cs.length = is.length
  gd : ∀ i o, is[i]? = some o → gd (E i) o.g = some (X i)
  es : ∀ i o, is[i]? = some o → E (i + 1) = put (E i) o.dst (V i)
  gs : ∀ i, i < is.length → G (i + 1) = (D i).app (G i)
  yes : ∀ i o, is[i]? = some o → X i = true → stepR P S o.op (E i) (G i) (V i) (D i) ∧ cs[i]? = some (clD S o.op (E i) (D i))
  no : ∀ i, i < is.length → X i = false → V i = undefA ∧ D i = .no ∧ cs[i]? = some cl0

theorem run_seq {P : Program} {S : FuncId → Bool} : ∀ {is : List IOper} {e : Env} {H : List Blk} {cs : List Cl} {e' : Env} {H' : List Blk}, runOps P S is e H cs e' H' → ∃ E G V D X, Seq P S is e H cs e' H' E G V D X
  | [], e, H, cs, e', H', h => by
    obtain ⟨rfl, rfl, rfl⟩ := h
    exact ⟨fun _ => e', fun _ => H', fun _ => undefA, fun _ => .no, fun _ => true, rfl, rfl, rfl, rfl, rfl, fun i o h => by simp at h, fun i o h => by simp at h, fun i h => by simp at h, fun i o h => by simp at h, fun i h => by simp at h⟩
  | o :: os, e, H, cs, e', H', h => by
    simp only [runOps] at h
    obtain ⟨cs', h⟩ := h
    have mk : ∀ (x : Bool) (v : A) (d : Dl) (cl : Cl), gd e o.g = some x → (x = true → stepR P S o.op e H v d ∧ cl = clD S o.op e d) → (x = false → v = undefA ∧ d = .no ∧ cl = cl0) → cs = cl :: cs' → runOps P S os (put e o.dst v) (d.app H) cs' e' H' →
        ∃ E G V D X, Seq P S (o :: os) e H cs e' H' E G V D X := by
      intro x v d cl h1 h2 h3 h4 h5
      obtain ⟨E, G, V, D, X, q⟩ := run_seq h5
      subst h4
      refine ⟨fun i => match i with | 0 => e | i + 1 => E i, fun i => match i with | 0 => H | i + 1 => G i, fun i => match i with | 0 => v | i + 1 => V i, fun i => match i with | 0 => d | i + 1 => D i, fun i => match i with | 0 => x | i + 1 => X i,
        rfl, rfl, q.en, q.gn, by simp [q.cl], ?_, ?_, ?_, ?_, ?_⟩
      · intro i o' ho
        cases i with
        | zero => simp at ho; subst ho; exact h1
        | succ i => exact q.gd i o' (by simpa using ho)
      · intro i o' ho
        cases i with
        | zero => simp at ho; subst ho; exact q.e0
        | succ i => exact q.es i o' (by simpa using ho)
      · intro i hi
        cases i with
        | zero => exact q.g0
        | succ i => exact q.gs i (by simpa using hi)
      · intro i o' ho hx
        cases i with
        | zero => simp at ho; subst ho; obtain ⟨g1, g2⟩ := h2 hx; exact ⟨g1, by simp [g2]⟩
        | succ i => obtain ⟨g1, g2⟩ := q.yes i o' (by simpa using ho) hx; exact ⟨g1, by simpa using g2⟩
      · intro i hi hx
        cases i with
        | zero => obtain ⟨g1, g2, g3⟩ := h3 hx; exact ⟨g1, g2, by simp [g3]⟩
        | succ i => obtain ⟨g1, g2, g3⟩ := q.no i (by simpa using hi) hx; exact ⟨g1, g2, by simpa using g3⟩
    split at h
    · rename_i hg
      obtain ⟨v, d, h1, h2, h3⟩ := h
      exact mk true v d _ hg (fun _ => ⟨h1, rfl⟩) (fun h => by cases h) h2 h3
    · rename_i hg
      exact mk false undefA .no cl0 hg (fun h => by cases h) (fun _ => ⟨rfl, rfl, rfl⟩) h.1 h.2
    · exact h.elim

/-- What comes of an operation, in whatever is asked behind it. -/
def Goes (P : Program) (c : Cx) (a : Act) (o : Oper) (x : A) (H1 : Nat → Option Blk) : Prop :=
  ∀ (K : Act → World → Prop) (Q : Exit → Act → World → Prop), (∀ v c', VR c' x v → RelH c' → Step c c' → c'.H = H1 → K (a.put o.dst v) c'.w) → o.wp P a c.w K Q

theorem Does.goes {P : Program} {c : Cx} {a : Act} {o : Oper} {n : Nat} {x : A} {d : Dl} (h : Does P c n (execOp a.eval o) x d) : Goes P c a o x (d.on n c.H) := by
  intro K Q hK
  obtain ⟨v, c', h1, h2, h3, h4, h5⟩ := h
  unfold Oper.wp
  rcases h1 with h1 | ⟨h1, rfl⟩
  · rw [h1]; exact hK v c' h2 h3 h4 h5
  · rw [h1]; exact hK undef c' h2 h3 h4 h5

theorem run_call {P : Program} {o : Oper} {f : FuncId} {xs : List Opd} (hok : okOp P o.op (.call f xs) = true) :
    ∃ ys : Array Operand, okOs xs ys.toList = true ∧ ∀ (a : Act) (w : World), (execOp a.eval o).run P w = .ok (.enter f (ys.map a.eval)) w := by
  simp only [okOp] at hok
  split at hok
  · rename_i cl ho
    split at hok
    · rename_i g hg
      simp only [okCl, Bool.and_eq_true] at hok
      obtain ⟨⟨h1, h2⟩, h3⟩ := hok
      split at h1
      · rename_i g' 
        have : g' = f := by simpa using h1
        subst this
        split at h3
        · rename_i fn hfn
          simp only [Bool.and_eq_true, decide_eq_true_eq] at h3
          refine ⟨cl.args, h2, fun a w => ?_⟩
          have hb : fn.body.isNone = false := by cases hb : fn.body <;> simp_all
          have hn : (fn.name == "runtime.NumGoroutine") = false := by simpa using h3.2
          simp only [execOp, ho, resolve, hg, Act.eval, Deferred.ofValue, Sem.run_bind, Sem.run_pure, Result.andThen_ok, invoke, callFunc, run_program, hfn, hn, hb, Bool.false_eq_true, if_false, Array.empty_append, Array.append_empty]
        · cases h3
      · cases h1
    · cases hok
  · cases hok

theorem bare_rel {c : Cx} {X : Nat → Prop} (hX : ∀ k, X k → k < c.w.heap.size) : RelH (c.bare X) where
  cell := fun b k h => (by cases h)
  vz := fun b k h => (by cases h)
  lt := fun b k h => (by cases h)
  fz := fun b k h => (by cases h)
  mz := fun b k st l h => (by cases h)
  uni := fun b b' k k' h => (by cases h)
  nx := fun b k h => (by cases h)
  xlt := hX

theorem enter_goes {P : Program} {S : FuncId → Bool} {c : Cx} {e : Env} {a : Act} {H : List Blk} (hg : Gd P c) (hr : RelH c) (he : EnvRel c e a) (hsub : Sub c H) {o : Oper} {f : FuncId} {as : List A} {us : Array Value} (h2 : ∀ w : World, (execOp a.eval o).run P w = .ok (.enter f us) w) (hvs : VRs c as us.toList) {r : A} {d : Dl}
    (h : callR P S f as H r d) (hT : S f = true → c.H = fun b => H[b]?) (hn : ∀ b, H.length ≤ b → b < (d.app H).length → S f = false → c.H b = none) : Goes P c a o r (d.on H.length c.H) := by
  intro K Q hK
  unfold Oper.wp
  rw [h2]
  simp only [Oper.upon]
  unfold callR at h
  cases hS : S f with
  | true =>
    rw [hS] at h
    simp only [if_true] at h
    obtain ⟨T, H', g1, g2, g0, rfl⟩ := h
    refine (g1 c us hg hr (hT hS) hvs).mono ?_
    rintro e' w' ⟨v, c', rfl, rfl, h3, h4, h5, h6⟩
    exact hK v c' h5 h4 h6 h3
  | false =>
    rw [hS] at h
    simp only [Bool.false_eq_true, if_false] at h
    obtain ⟨zs, r0, Hr, g1, g2, g3, g4, rfl, rfl⟩ := h
    have hfresh : ∀ b, H.length ≤ b → b < H.length + Hr.length → c.H b = none := fun b hb hb' => hn b hb (by simpa [Dl.app] using hb') hS
    have hZ : ∀ k, c.Z k → k < c.w.heap.size := by
      rintro k (h | ⟨b, blk, h1, h2, h3⟩)
      · exact hr.xlt k h
      · rw [← h3]; exact hr.lt b blk h1 h2
    obtain ⟨q, X, hq, hq', hv, hX⟩ : ∃ (q : Bool) (X : Nat → Prop), (q = true → X = c.Z) ∧ (q = true ∨ nosl r0 = true ∧ noslBlks Hr = true) ∧ VRs (c.bare X) zs us.toList ∧ ∀ k, X k → k < c.w.heap.size := by
      rcases g4 with g4 | g4
      · refine ⟨true, c.Z, fun _ => rfl, .inl rfl, ?_, hZ⟩
        have hbare := VRs.bare as _ g4 hvs
        exact VRs.viewL (c := c.bare c.Z) (c0 := (c.bare c.Z).bare c.Z) (fun x y v => VR.view (bare_rel hZ) (H := H) (fun b k hk => .inl rfl) c.Z (fun k hk => hk) 8 x y v) g1 hbare
      · exact ⟨false, c.X, fun h => (by cases h), .inr g4, VRs.viewL (fun x y v => VR.view hr hsub c.X (fun k hk => hk) 8 x y v) g1 hvs, hr.xlt⟩
    refine (g2 (c.bare X) us (hg.bare X) (bare_rel hX) rfl hv).mono ?_
    rintro e' w' ⟨v, c1, rfl, rfl, h3, h4, h5, h6⟩
    obtain ⟨j1, j2, j3⟩ := join_rel hr (X := X) rfl h6 h4 h3 g3 (n := H.length) hfresh q hq (hq'.imp id (·.2))
    have hon : (c.join c1 H.length Hr).H = Dl.on H.length c.H (.news (Hr.map (shiftB H.length))) := by
      funext b
      simp [Cx.join, Dl.on]
    exact hK v (c.join c1 H.length Hr) (j3 r0 v (hq'.imp id (·.1)) h5) j1 j2 hon
theorem call_goes {P : Program} {S : FuncId → Bool} {c : Cx} {e : Env} {a : Act} {H : List Blk} (hg : Gd P c) (hr : RelH c) (he : EnvRel c e a) (hsub : Sub c H) {o : Oper} {f : FuncId} {xs : List Opd} (hok : okOp P o.op (.call f xs) = true) {as : List A} (hev : evs e xs = some as) {r : A} {d : Dl}
    (h : callR P S f as H r d) (hT : S f = true → c.H = fun b => H[b]?) (hn : ∀ b, H.length ≤ b → b < (d.app H).length → S f = false → c.H b = none) : Goes P c a o r (d.on H.length c.H) := by
  obtain ⟨ys, h1, h2⟩ := run_call hok
  have hvs := okOs.vals he h1 hev
  exact enter_goes hg hr he hsub (fun w => h2 a w) (by simpa using hvs) h hT hn

theorem run_cv {P : Program} {c : Cx} {e : Env} {a : Act} (he : EnvRel c e a) {o : Oper} {g : Opd} {xs : List Opd} (hok : okOp P o.op (.cv g xs) = true) {f : FuncId} {cs as : List A} (hg : ev e g = some (.fn f cs)) (hev : evs e xs = some as) (hf : canEnter P f = true) :
    ∃ us : Array Value, (∀ w : World, (execOp a.eval o).run P w = .ok (.enter f us) w) ∧ VRs c (as ++ cs) us.toList := by
  simp only [okOp] at hok
  split at hok
  · rename_i cl ho
    split at hok
    · rename_i g' hg'
      simp only [Bool.and_eq_true] at hok
      have v1 := evO he hok.1 hg
      have v2 := okOs.vals he hok.2 hev
      simp only [VR] at v1
      obtain ⟨caps, e1, e2⟩ := v1
      unfold canEnter at hf
      split at hf
      · rename_i fn hfn
        simp only [Bool.and_eq_true, decide_eq_true_eq] at hf
        have hb : fn.body.isNone = false := by cases hb : fn.body <;> simp_all
        have hn : (fn.name == "runtime.NumGoroutine") = false := by simpa using hf.2
        refine ⟨cl.args.map a.eval ++ caps, fun w => ?_, ?_⟩
        · simp only [execOp, ho, resolve, hg', e1, Deferred.ofValue, Sem.run_bind, Sem.run_pure, Result.andThen_ok, invoke, callFunc, run_program, hfn, hn, hb, Bool.false_eq_true, if_false, Array.empty_append]
        · simpa using VRs.app (by simpa using v2) e2
      · cases hf
    · cases hok
  · cases hok

theorem cv_goes {P : Program} {S : FuncId → Bool} {c : Cx} {e : Env} {a : Act} {H : List Blk} (hgd : Gd P c) (hr : RelH c) (he : EnvRel c e a) (hsub : Sub c H) {o : Oper} {g : Opd} {xs : List Opd} (hok : okOp P o.op (.cv g xs) = true) {f : FuncId} {cs as : List A} (hg : ev e g = some (.fn f cs)) (hev : evs e xs = some as) (hf : canEnter P f = true) {r : A} {d : Dl}
    (h : callR P S f (as ++ cs) H r d) (hT : S f = true → c.H = fun b => H[b]?) (hn : ∀ b, H.length ≤ b → b < (d.app H).length → S f = false → c.H b = none) : Goes P c a o r (d.on H.length c.H) := by
  obtain ⟨us, h1, h2⟩ := run_cv he hok hg hev hf
  exact enter_goes hgd hr he hsub h1 h2 h hT hn
end Go.Sym
