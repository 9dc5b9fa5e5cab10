/- Each operation of Go does what stepK says of it: all in one. Conditions: okOp. -/
import Derived.Test.YtpohfpnlepmebaaXSymGE
set_option linter.unusedVariables false
set_option linter.unusedSimpArgs false
namespace Go.Sym
open Go.RowKit

def okOs : List Opd → List Operand → Bool
  | [], [] => true
  | x :: xs, y :: ys => okO x y && okOs xs ys
  | _, _ => false

def bytesEl (P : Program) (t : TypeId) : Nat :=
  match P.underlying t with
  | some (.slice e) => match P.info? e with
    | some i => i.bytes
    | none => 0
  | _ => 0

def isSl (d : Option TypeDesc) : Bool := match d with | some (.slice _) => true | _ => false
def isStr (d : Option TypeDesc) : Bool := match d with | some .string => true | _ => false
def canEnter (P : Program) (f : FuncId) : Bool := match P.funcs[f]? with | some fn => fn.body.isSome && decide (fn.name ≠ "runtime.NumGoroutine") | none => false
def isBl (d : Option TypeDesc) : Bool := match d with | some .bool => true | _ => false

def okCl (ar : Array Operand) (f : Operand) (g : FuncId) (xs : List Opd) : Bool :=
  (match f with | .func f => f == g | _ => false) && okOs xs ar.toList

/-- Is an operation told rightly by another one? -/
def okOp (P : Program) (o : Op) (i : IOp) : Bool :=
  match i with
  | .mv y => match o with
    | .move x => okO y x
    | .assign x => okO y x
    | _ => false
  | .pick c a b => match o with
    | .pick c' a' b' => okO c c' && okO a a' && okO b b'
    | _ => false
  | .new zs => match o with
    | .alloc t => zeroIs P t zs
    | _ => false
  | .box y => match o with
    | .box _ x => okO y x
    | _ => false
  | .build zs ps => match o with
    | .build t parts => okBuild P t zs ps parts.toList
    | _ => false
  | .bsl esz n zs ps => match o with
    | .buildSlice t n' parts => n == n' && elemIs P t esz (bytesEl P t) zs && decide (n * esz ≤ 16777216 ∧ n ≤ 16777216) && okPs (fun i => some (i * esz, esz)) ps parts.toList
    | _ => false
  | .ld ag y => match o with
    | .load t x => okO y x && aggIs P t ag
    | _ => false
  | .st sz x y => match o with
    | .store t x' y' => okO x x' && okO y y' && sizeIs P t sz
    | _ => false
  | .nck y => match o with
    | .nilCheck x => okO y x
    | _ => false
  | .bin op x y => match o with
    | .binOp op' t x' y' _ => decide (op = op') && okO x x' && okO y y'
    | _ => false
  | .eqb neg x y => match o with
    | .binOp op' t x' y' _ => decide (op' = if neg then .neq else .eql) && isBl (P.underlying t) && okO x x' && okO y y'
    | _ => false
  | .eqs neg ts x y => match o with
    | .binOp op' t x' y' _ => decide (op' = if neg then .neq else .eql) && eqsIs P t ts && okO x x' && okO y y'
    | _ => false
  | .not y => match o with
    | .unOp .not _ x => okO y x
    | _ => false
  | .neg y => match o with
    | .unOp .neg _ x => okO y x
    | _ => false
  | .conv k y => match o with
    | .convert s t x => convIs P s t k && okO y x
    | _ => false
  | .mk esz bytes zs l c => match o with
    | .makeSlice t l' c' => elemIs P t esz bytes zs && okO l l' && okO c c'
    | _ => false
  | .slc esz x lo hi mx => match o with
    | .slice t x' lo' hi' mx' => iadIs P t esz && okO x x' && okOO lo lo' && okOO hi hi' && okOO mx mx' && (mx'.isNone || hi'.isSome)
    | _ => false
  | .sls x lo hi => match o with
    | .slice t x' lo' hi' mx' => isStr (P.underlying t) && okO x x' && okOO lo lo' && okOO hi hi' && mx'.isNone
    | _ => false
  | .fad off y => match o with
    | .fieldAddr s x f => fadIs P s f off && okO y x
    | _ => false
  | .fld off ag y => match o with
    | .field s x f => fieldIs P s f off ag && okO y x
    | _ => false
  | .iad esz x i => match o with
    | .indexAddr t x' i' => iadIs P t esz && okO x x' && okO i i'
    | _ => false
  | .iada len esz x i => match o with
    | .indexAddr t x' i' => iadaIs P t len esz && okO x x' && okO i i'
    | _ => false
  | .idxs x i => match o with
    | .index t x' i' => isStr (P.underlying t) && okO x x' && okO i i'
    | _ => false
  | .idxa len esz ag x i => match o with
    | .index t x' i' => idxaIs P t len esz ag && okO x x' && okO i i'
    | _ => false
  | .len st y => match o with
    | .call c => match c.callee with
      | .builtin .len => (match c.argTypes.toList, c.args.toList with | [t], [x] => lenIs P st t && okO y x | _, _ => false)
      | _ => false
    | _ => false
  | .app esz bytes x y => match o with
    | .call c => match c.callee with
      | .builtin .append => (match c.argTypes.toList, c.args.toList with | [t, tx], [x', y'] => elemZ P t esz bytes && (isSl (P.underlying tx) || isStr (P.underlying tx)) && okO x x' && okO y y' | _, _ => false)
      | _ => false
    | _ => false
  | .ext y i => match o with
    | .extract x j => i == j && okO y x
    | _ => false
  | .mm mx x xs => match o with
    | .call c => match c.callee with
      | .builtin .max => mx && okOs (x :: xs) c.args.toList
      | .builtin .min => !mx && okOs (x :: xs) c.args.toList
      | _ => false
    | _ => false
  | .isn neg x => match o with
    | .binOp op' t x' y' _ => decide (op' = if neg then .neq else .eql) && isSl (P.underlying t) && okO x x' && okO (.c .nil) y'
    | _ => false
  | .ise neg x => match o with
    | .binOp op' t x' y' _ => decide (op' = if neg then .neq else .eql) && isIf (P.underlying t) && okO x x' && isNilC y'
    | _ => false
  | .s2b x => match o with
    | .convert s t x' => s2bIs P s t && okO x x'
    | _ => false
  | .b2s x => match o with
    | .convert s t x' => b2sIs P s t && okO x x'
    | _ => false
  | .frz x => match o with
    | .convert s t x' => s == t && ((byEl P t).isSome && okO x x')
    | _ => false
  | .mkm st => match o with
    | .makeMap t r => r.isNone
    | _ => false
  | .mlk st m k => match o with
    | .lookup t m' k' ok => mapIs P st t && okO m m' && okO k k' && !ok
    | _ => false
  | .men st m k => match o with
    | .mapEntry t m' k' => mapIs P st t && okO m m' && okO k k'
    | _ => false
  | .mst st m s x => match o with
    | .entryStore t m' s' x' => okO m m' && okO s s' && okO x x'
    | _ => false
  | .mup st m k x => match o with
    | .mapUpdate t m' k' x' => mapIs P st t && okO m m' && okO k k' && okO x x'
    | _ => false
  | .mkf f xs => match o with
    | .makeFunc (.func g) first cap => g == f && first.isEmpty && okOs xs cap.toList
    | _ => false
  | .cv g xs => match o with
    | .call c => match c.callee with
      | .value g' => okO g g' && okOs xs c.args.toList
      | _ => false
    | _ => false
  | .call f xs => match o with
    | .call c => match c.callee with
      | .value g => okCl c.args g f xs && (match P.funcs[f]? with | some fn => fn.body.isSome && decide (fn.name ≠ "runtime.NumGoroutine") | none => false)
      | _ => false
    | _ => false

theorem okOs.all : ∀ {xs : List Opd} {ys : List Operand}, okOs xs ys = true → xs.length = ys.length ∧ ∀ (j : Nat) (u : Opd) (v : Operand), xs[j]? = some u → ys[j]? = some v → okO u v = true
  | [], ys, h => by cases ys <;> simp [okOs] at h; exact ⟨rfl, fun j u v hu => by simp at hu⟩
  | x :: xs, [], h => by simp [okOs] at h
  | x :: xs, y :: ys, h => by
    simp [okOs] at h
    obtain ⟨h1, h2⟩ := okOs.all h.2
    refine ⟨by simp [h1], fun j u v hu hv => ?_⟩
    cases j with
    | zero => simp at hu hv; subst hu hv; exact h.1
    | succ j => exact h2 j u v (by simpa using hu) (by simpa using hv)

theorem okOs.vals {c : Cx} {e : Env} {a : Act} (he : EnvRel c e a) : ∀ {xs : List Opd} {ys : List Operand}, okOs xs ys = true → ∀ {zs : List A}, evs e xs = some zs → VRs c zs (ys.map a.eval)
  | [], ys, h, zs, hz => by cases ys <;> simp [okOs] at h; simp [evs] at hz; subst hz; simp [VRs]
  | x :: xs, [], h, zs, hz => by simp [okOs] at h
  | x :: xs, y :: ys, h, zs, hz => by
    simp [okOs] at h
    simp only [evs] at hz
    split at hz
    · rename_i z zs' h1 h2
      cases hz
      exact ⟨_, _, rfl, evO he h.1 h1, okOs.vals he h.2 h2⟩
    · cases hz

theorem op_sound {P : Program} {c : Cx} {e : Env} {a : Act} {H : List Blk} (hr : RelH c) (he : EnvRel c e a) (hsub : Sub c H) {o : Oper} {i : IOp} (hok : okOp P o.op i = true) {r : A} {d : Dl} (hn : ∀ k, d = .new k → c.H H.length = none)
    (h : stepK i e H (fun z b => z = r ∧ b = d)) : Does P c H.length (execOp a.eval o) r d := by
  cases i with
  | mv y =>
    simp only [okOp] at hok
    split at hok
    · rename_i x ho; have := does_mv hr he hok h (P := P); simpa only [execOp, ho] using this
    · rename_i x ho; have := does_mv hr he hok h (P := P); simpa only [execOp, ho] using this
    · cases hok
  | pick cc aa bb =>
    simp only [okOp] at hok
    split at hok
    · rename_i x y z ho
      simp at hok
      have := does_pick hr he hok.1.1 hok.1.2 hok.2 h (P := P); simpa only [execOp, ho] using this
    · cases hok
  | new zs =>
    simp only [okOp] at hok
    split at hok
    · rename_i t ho; have := does_new hr hok hn h (P := P); simpa only [execOp, ho] using this
    · cases hok
  | box y =>
    simp only [okOp] at hok
    split at hok
    · rename_i t x ho; have := does_box hr he hok hn h (P := P) (t := t); simpa only [execOp, ho] using this
    · cases hok
  | build zs ps =>
    simp only [okOp] at hok
    split at hok
    · rename_i t parts ho; have := does_build hr he hok h (P := P); simpa only [execOp, ho] using this
    · cases hok
  | bsl esz n zs ps =>
    simp only [okOp] at hok
    split at hok
    · rename_i t n' parts ho
      simp at hok
      obtain ⟨⟨⟨rfl, h1⟩, h2⟩, h3⟩ := hok
      have := does_bsl hr he h1 h2 h3 hn h (P := P); simpa only [execOp, ho] using this
    · cases hok
  | ld ag y =>
    simp only [okOp] at hok
    split at hok
    · rename_i t x ho
      simp at hok
      have := does_ld hr he hsub hok.1 hok.2 h (P := P); simpa only [execOp, ho] using this
    · cases hok
  | st sz x y =>
    simp only [okOp] at hok
    split at hok
    · rename_i t x' y' ho
      simp at hok
      have := does_st hr he hsub hok.1.1 hok.1.2 hok.2 h (P := P); simpa only [execOp, ho] using this
    · cases hok
  | nck y =>
    simp only [okOp] at hok
    split at hok
    · rename_i x ho; exact does_nck hr he hok h o ho
    · cases hok
  | bin op x y =>
    simp only [okOp] at hok
    split at hok
    · rename_i op' t x' y' _ ho
      simp at hok
      obtain ⟨⟨rfl, h1⟩, h2⟩ := hok
      have := does_bin hr he h1 h2 h (P := P) (t := t); simpa only [execOp, ho] using this
    · cases hok
  | eqb neg x y =>
    simp only [okOp] at hok
    split at hok
    · rename_i op' t x' y' _ ho
      simp only [Bool.and_eq_true, decide_eq_true_eq] at hok
      obtain ⟨⟨⟨h0, h1⟩, h2⟩, h3⟩ := hok
      have hu : P.underlying t = some .bool := by unfold isBl at h1; split at h1 <;> first | assumption | cases h1
      have := does_eqb hr he h0 hu h2 h3 h (P := P); simpa only [execOp, ho] using this
    · cases hok
  | eqs neg ts x y =>
    simp only [okOp] at hok
    split at hok
    · rename_i op' t x' y' _ ho
      simp only [Bool.and_eq_true, decide_eq_true_eq] at hok
      obtain ⟨⟨⟨h0, h1⟩, h2⟩, h3⟩ := hok
      have := does_eqs hr he h0 h1 h2 h3 h (P := P); simpa only [execOp, ho] using this
    · cases hok
  | not y =>
    simp only [okOp] at hok
    split at hok
    · rename_i x ho; have := does_not hr he hok h (P := P); simpa only [execOp, ho] using this
    · cases hok
  | neg y =>
    simp only [okOp] at hok
    split at hok
    · rename_i x ho; have := does_neg hr he hok h (P := P); simpa only [execOp, ho] using this
    · cases hok
  | conv k y =>
    simp only [okOp] at hok
    split at hok
    · rename_i s t x ho
      simp at hok
      have := does_conv hr he hok.1 hok.2 h (P := P); simpa only [execOp, ho] using this
    · cases hok
  | mk esz bytes zs l cc =>
    simp only [okOp] at hok
    split at hok
    · rename_i t l' c' ho
      simp at hok
      have := does_mk hr he hok.1.1 hok.1.2 hok.2 hn h (P := P); simpa only [execOp, ho] using this
    · cases hok
  | slc esz x lo hi mx =>
    simp only [okOp] at hok
    split at hok
    · rename_i t x' lo' hi' mx' ho
      simp at hok
      obtain ⟨⟨⟨⟨⟨h1, h2⟩, h3⟩, h4⟩, h5⟩, h6⟩ := hok
      cases mx with
      | none =>
        cases mx' <;> simp [okOO] at h5
        have := does_slc hr he hsub h1 h2 h3 h4 h (P := P); simpa only [execOp, ho, Option.map_none] using this
      | some m =>
        cases mx' <;> simp [okOO] at h5
        have := does_slc3 hr he h1 h2 h3 h4 h5 (by cases hi' <;> simp at h6 ⊢) h (P := P); simpa only [execOp, ho, Option.map_some] using this
    · cases hok
  | sls x lo hi =>
    simp only [okOp] at hok
    split at hok
    · rename_i t x' lo' hi' mx' ho
      simp at hok
      obtain ⟨⟨⟨⟨h1, h2⟩, h3⟩, h4⟩, h5⟩ := hok
      subst h5
      have hu : P.underlying t = some .string := by unfold isStr at h1; split at h1 <;> first | assumption | cases h1
      have := does_sls hr he hu h2 h3 h4 h (P := P); simpa only [execOp, ho, Option.map_none] using this
    · cases hok
  | fad off y =>
    simp only [okOp] at hok
    split at hok
    · rename_i s x f ho
      simp at hok
      have := does_fad hr he hok.1 hok.2 h (P := P); simpa only [execOp, ho] using this
    · cases hok
  | fld off ag y =>
    simp only [okOp] at hok
    split at hok
    · rename_i s x f ho
      simp at hok
      have := does_fld hr he hok.1 hok.2 h (P := P); simpa only [execOp, ho] using this
    · cases hok
  | iad esz x i =>
    simp only [okOp] at hok
    split at hok
    · rename_i t x' i' ho
      simp at hok
      have := does_iad hr he hsub hok.1.1 hok.1.2 hok.2 h (P := P); simpa only [execOp, ho] using this
    · cases hok
  | iada len esz x i =>
    simp only [okOp] at hok
    split at hok
    · rename_i t x' i' ho
      simp at hok
      have := does_iada hr he hok.1.1 hok.1.2 hok.2 h (P := P); simpa only [execOp, ho] using this
    · cases hok
  | idxs x i =>
    simp only [okOp] at hok
    split at hok
    · rename_i t x' i' ho
      simp at hok
      have hu : P.underlying t = some .string := by have h1 := hok.1.1; unfold isStr at h1; split at h1 <;> first | assumption | cases h1
      have := does_idxs hr he hu hok.1.2 hok.2 h (P := P); simpa only [execOp, ho] using this
    · cases hok
  | idxa len esz ag x i =>
    simp only [okOp] at hok
    split at hok
    · rename_i t x' i' ho
      simp at hok
      have := does_idxa hr he hok.1.1 hok.1.2 hok.2 h (P := P); simpa only [execOp, ho] using this
    · cases hok
  | len st y =>
    simp only [okOp] at hok
    split at hok
    · rename_i cl ho
      split at hok
      · rename_i hcl
        split at hok
        · rename_i t x h1 h2
          simp at hok
          have e1 : cl.argTypes = #[t] := by apply Array.ext'; simpa using h1
          have e2 : cl.args = #[x] := by apply Array.ext'; simpa using h2
          have := does_len hr he hok.1 hok.2 h (P := P) (ty := o.type)
          simpa [execOp, ho, resolve, hcl, invoke, builtin, e1, e2] using this
        · cases hok
      · cases hok
    · cases hok
  | app esz bytes x y =>
    simp only [okOp] at hok
    split at hok
    · rename_i cl ho
      split at hok
      · rename_i hcl
        split at hok
        · rename_i t tx x' y' h1 h2
          simp at hok
          have e1 : cl.argTypes = #[t, tx] := by apply Array.ext'; simpa using h1
          have e2 : cl.args = #[x', y'] := by apply Array.ext'; simpa using h2
          have hu : (∃ el, P.underlying tx = some (.slice el)) ∨ P.underlying tx = some .string := by
            rcases hok.1.1.2 with h1 | h1
            · left; unfold isSl at h1; split at h1 <;> first | exact ⟨_, ‹_›⟩ | cases h1
            · right; unfold isStr at h1; split at h1 <;> first | assumption | cases h1
          have := does_app hr he hsub hok.1.1.1 hu hok.1.2 hok.2 hn h (P := P) (ty := o.type)
          simpa [execOp, ho, resolve, hcl, invoke, builtin, e1, e2] using this
        · cases hok
      · cases hok
    · cases hok
  | ext y i =>
    simp only [okOp] at hok
    split at hok
    · rename_i x j ho
      simp at hok
      obtain ⟨rfl, hok⟩ := hok
      have := does_ext hr he hok h (P := P); simpa only [execOp, ho] using this
    · cases hok
  | mm mx x xs =>
    simp only [okOp] at hok
    split at hok
    · rename_i cl ho
      have key : ∀ b, okOs (x :: xs) cl.args.toList = true → mx = b → Does P c H.length (do pure (.value (← if b then Builtin.max_ cl.argTypes o.type (cl.args.map a.eval) else Builtin.min_ cl.argTypes o.type (cl.args.map a.eval)))) r d := by
        intro b hb hmx
        subst hmx
        cases hl : cl.args.toList with
        | nil => rw [hl] at hb; simp [okOs] at hb
        | cons x' xs' =>
          rw [hl] at hb
          simp [okOs] at hb
          exact does_mm hr he hb.1 (okOs.all hb.2) h (cl.args.map a.eval) (by simp [hl])
      split at hok
      · rename_i hcl
        simp at hok
        have := key true hok.2 hok.1
        simpa [execOp, ho, resolve, hcl, invoke, builtin] using this
      · rename_i hcl
        simp at hok
        have := key false hok.2 hok.1
        simpa [execOp, ho, resolve, hcl, invoke, builtin] using this
      · cases hok
    · cases hok
  | ise neg x =>
    simp only [okOp] at hok
    split at hok
    · rename_i op' t x' y' _ ho
      simp only [Bool.and_eq_true, decide_eq_true_eq] at hok
      obtain ⟨⟨⟨h0, h1⟩, h2⟩, h3⟩ := hok
      have := does_ise hr he h0 h1 h2 h3 h (P := P); simpa only [execOp, ho] using this
    · cases hok
  | s2b x =>
    simp only [okOp] at hok
    split at hok
    · rename_i s t x' ho
      simp only [Bool.and_eq_true] at hok
      have := does_s2b hr he hok.1 hok.2 h (P := P); simpa only [execOp, ho] using this
    · cases hok
  | frz x =>
    simp only [okOp] at hok
    split at hok
    · rename_i s t x' ho
      simp only [Bool.and_eq_true, beq_iff_eq] at hok
      obtain ⟨rfl, h1, h2⟩ := hok
      have := does_frz hr he hsub h1 h2 h (P := P); simpa only [execOp, ho] using this
    · cases hok
  | b2s x =>
    simp only [okOp] at hok
    split at hok
    · rename_i s t x' ho
      simp only [Bool.and_eq_true] at hok
      have := does_b2s hr he hsub hok.1 hok.2 h (P := P); simpa only [execOp, ho] using this
    · cases hok
  | isn neg x =>
    simp only [okOp] at hok
    split at hok
    · rename_i op' t x' y' _ ho
      simp only [Bool.and_eq_true, decide_eq_true_eq] at hok
      obtain ⟨⟨⟨h0, h1⟩, h2⟩, h3⟩ := hok
      have hu : ∃ el, P.underlying t = some (.slice el) := by unfold isSl at h1; split at h1 <;> first | exact ⟨_, ‹_›⟩ | cases h1
      obtain ⟨el, hu⟩ := hu
      have := does_isn hr he h0 hu h2 h3 h (P := P); simpa only [execOp, ho] using this
    · cases hok
  | mkm st =>
    simp only [okOp] at hok
    split at hok
    · rename_i t rr ho
      cases rr <;> simp at hok
      have := does_mkm hr hn h (P := P) (t := t); simpa only [execOp, ho, Option.map_none] using this
    · cases hok
  | mlk st m k =>
    simp only [okOp] at hok
    split at hok
    · rename_i t m' k' ok ho
      simp at hok
      obtain ⟨⟨⟨h1, h2⟩, h3⟩, rfl⟩ := hok
      have := does_mlk hr he hsub h1 h2 h3 h (P := P); simpa only [execOp, ho] using this
    · cases hok
  | men st m k =>
    simp only [okOp] at hok
    split at hok
    · rename_i t m' k' ho
      simp at hok
      obtain ⟨⟨h1, h2⟩, h3⟩ := hok
      have := does_men hr he hsub h1 h2 h3 h (P := P); simpa only [execOp, ho] using this
    · cases hok
  | mst st m s x =>
    simp only [okOp] at hok
    split at hok
    · rename_i t m' s' x' ho
      simp at hok
      obtain ⟨⟨h1, h2⟩, h3⟩ := hok
      have := does_mst hr he hsub h1 h2 h3 h (P := P) (t := t); simpa only [execOp, ho] using this
    · cases hok
  | mup st m k x =>
    simp only [okOp] at hok
    split at hok
    · rename_i t m' k' x' ho
      simp at hok
      obtain ⟨⟨⟨h1, h2⟩, h3⟩, h4⟩ := hok
      have := does_mup hr he hsub h1 h2 h3 h4 h (P := P); simpa only [execOp, ho] using this
    · cases hok
  | mkf f xs =>
    simp only [okOp] at hok
    split at hok
    · rename_i g first cap ho
      simp at hok
      obtain ⟨⟨rfl, h1⟩, h2⟩ := hok
      subst h1
      simp only [stepK] at h
      split at h
      · rename_i as has
        obtain ⟨rfl, rfl⟩ := h
        refine Does.plain hr (v := .func (.func g) #[] (cap.map a.eval)) (by simp [execOp, ho, Instr.makeFunc]) ?_
        simp only [VR]
        exact ⟨_, rfl, by simpa using okOs.vals he h2 has⟩
      · exact h.elim
    · cases hok
  | call f xs => exact h.elim
  | cv g xs => exact h.elim
end Go.Sym
