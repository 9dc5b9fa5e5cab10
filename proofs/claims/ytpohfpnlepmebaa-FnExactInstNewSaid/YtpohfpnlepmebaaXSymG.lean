/- Each operation of Go does what stepK says of it (numbers, strings, parts, places). Conditions: those that each theorem names. -/
import Derived.Test.YtpohfpnlepmebaaXSymF
set_option linter.unusedVariables false
set_option linter.unusedSimpArgs false
namespace Go.Sym
open Go.RowKit

theorem ba_beq (a b : ByteArray) : (a == b) = decide (a = b) := by
  obtain ⟨x⟩ := a
  obtain ⟨y⟩ := b
  show (x == y) = _
  by_cases h : x = y <;> simp [h]

def tagIs (d : Option TypeDesc) (t : Nat) : Bool :=
  match d with
  | some .bool => t == 0
  | some (.int _) => t == 1
  | some .string => t == 2
  | _ => false

def plainF (P : Program) : Nat → List Nat → List Field → Bool
  | _, [], [] => true
  | i, t :: ts, f :: fs => decide (f.name ≠ "_") && f.offset == i && tagIs (P.underlying f.type) t && plainF P (i + 1) ts fs
  | _, _, _ => false

def eqsIs (P : Program) (t : TypeId) (ts : List Nat) : Bool :=
  match P.underlying t with
  | some (.struct fs) => plainF P 0 ts fs.toList && !P.stoodInHeld t && !P.eqGuardType P.depth t
  | _ => false

section
variable {P : Program} {c : Cx} {e : Env} {a : Act} {H : List Blk} (hr : RelH c) (he : EnvRel c e a) (hsub : Sub c H)
include hr he

theorem does_nck {x : Operand} {y : Opd} (hx : okO y x = true) {r : A} {d : Dl} (h : stepK (.nck y) e H (fun z b => z = r ∧ b = d)) :
    ∀ o : Oper, o.op = .nilCheck x → Does P c H.length (execOp a.eval o) r d := by
  intro o ho
  simp only [stepK] at h
  split at h
  · rename_i b v off hz
    obtain ⟨rfl, rfl⟩ := h
    have hv := evO he hx hz
    have hv' := hv
    simp only [VR] at hv
    obtain ⟨k, p, g1, g2, g3, g4⟩ := hv
    refine Does.plain hr ?_ hv'
    simp [execOp, ho, g3]
  · rename_i cs hz
    obtain ⟨rfl, rfl⟩ := h
    have hv := evO he hx hz
    have hv' := hv
    simp only [VR] at hv
    obtain ⟨ad, vs, h1, _⟩ := hv
    refine Does.plain hr ?_ hv'
    simp [execOp, ho, h1]
  · rename_i f cs hz
    obtain ⟨rfl, rfl⟩ := h
    have hv := evO he hx hz
    have hv' := hv
    simp only [VR] at hv
    obtain ⟨vs, h1, _⟩ := hv
    refine Does.plain hr ?_ hv'
    simp [execOp, ho, h1]
  · exact h.elim

omit hr he in
theorem run_eqGuard_plain (op : BinOp) (t : TypeId) (x y : Operand) (u v : Value) (h : (match u with | .nilIface => true | .agg _ => true | _ => false) = false) (w : World) : (eqGuard op t x y u v).run P w = .ok () w := by
  cases op <;> simp [eqGuard] <;> cases u <;> simp_all

omit hr he in
def valA : A → Value
  | .bool b => .bool b
  | .int k n => .int k n
  | .str s => .string s
  | _ => undef

omit he in
theorem Does.scalar {n : Nat} {s : Sem Next} {x : A} (h : s.run P c.w = .ok (.value (valA x)) c.w) (hx : VR c x (valA x)) : Does P c n s x .no := Does.plain hr h hx

omit hr he in
theorem run_bin {op : BinOp} (t : TypeId) {x y z : A} (h : binK op x y (fun r => r = z)) (w : World) :
    (∃ k n, x = .int k n ∨ ∃ s, x = .str s) ∧ (∃ k n, y = .int k n ∨ ∃ s, y = .str s) ∧ (binOp op t (valA x) (valA y)).run P w = .ok (valA z) w ∧ VR c z (valA z) := by
  unfold binK at h
  split at h <;> first
    | exact h.elim
    | skip
  all_goals
    try simp only [] at h
    refine ⟨by first | exact ⟨_, _, .inl rfl⟩ | exact ⟨.i64, 0, .inr ⟨_, rfl⟩⟩, by first | exact ⟨_, _, .inl rfl⟩ | exact ⟨.i64, 0, .inr ⟨_, rfl⟩⟩, ?_⟩
  case h_1 => obtain ⟨h1, rfl⟩ := h; exact ⟨by simp [binOp, valA, Op.shift, Int.not_lt.2 h1], rfl⟩
  case h_2 => obtain ⟨h1, rfl⟩ := h; exact ⟨by simp [binOp, valA, Op.shift, Int.not_lt.2 h1], rfl⟩
  case h_3 => obtain ⟨rfl, rfl⟩ := h; exact ⟨by simp [binOp, valA, Op.intArith], rfl⟩
  case h_4 => obtain ⟨rfl, rfl⟩ := h; exact ⟨by simp [binOp, valA, Op.intArith], rfl⟩
  case h_5 => obtain ⟨rfl, rfl⟩ := h; exact ⟨by simp [binOp, valA, Op.intArith], rfl⟩
  case h_6 => obtain ⟨rfl, h1, rfl⟩ := h; exact ⟨by simp [binOp, valA, Op.intDiv, h1], rfl⟩
  case h_7 => obtain ⟨rfl, h1, rfl⟩ := h; exact ⟨by simp [binOp, valA, Op.intDiv, h1], rfl⟩
  case h_8 => obtain ⟨rfl, rfl⟩ := h; exact ⟨by simp [binOp, valA, Op.intBits], rfl⟩
  case h_9 => obtain ⟨rfl, rfl⟩ := h; exact ⟨by simp [binOp, valA, Op.intBits], rfl⟩
  case h_10 => obtain ⟨rfl, rfl⟩ := h; exact ⟨by simp [binOp, valA, Op.intCmp]; rfl, rfl⟩
  case h_11 => obtain ⟨rfl, rfl⟩ := h; exact ⟨by simp [binOp, valA, Op.intCmp]; rfl, rfl⟩
  case h_12 => obtain ⟨rfl, rfl⟩ := h; exact ⟨by simp [binOp, valA, Op.intCmp], rfl⟩
  case h_13 => obtain ⟨rfl, rfl⟩ := h; exact ⟨by simp [binOp, valA, Op.intCmp], rfl⟩
  case h_14 => obtain ⟨rfl, rfl⟩ := h; exact ⟨by simp [binOp, valA, Op.intCmp], rfl⟩
  case h_15 => obtain ⟨rfl, rfl⟩ := h; exact ⟨by simp [binOp, valA, Op.intCmp], rfl⟩
  case h_16 a b => obtain ⟨h1, rfl⟩ := h; exact ⟨by
    have : ¬ (((a.size + b.size : Nat) : Int) > IntKind.i64.max) := by simp [IntKind.max, IntKind.signed, IntKind.bits]; omega
    simp only [binOp, valA, Op.stringOp, if_neg this]; rfl, rfl⟩
  case h_17 a b => subst h; exact ⟨by simp only [binOp, valA, Op.stringOp, ← beq_toListBytes, ba_beq]; rfl, rfl⟩
  case h_18 a b => subst h; exact ⟨by simp only [binOp, valA, Op.stringOp, ← beq_toListBytes, ba_beq]; simp, rfl⟩

theorem does_bin {op : BinOp} {t : TypeId} {x y : Operand} {x' y' : Opd} (hx : okO x' x = true) (hy : okO y' y = true) {r : A} {d : Dl} (h : stepK (.bin op x' y') e H (fun z b => z = r ∧ b = d)) :
    Does P c H.length (do pure (.value (← (do eqGuard op t x y (a.eval x) (a.eval y); binOp op t (a.eval x) (a.eval y))))) r d := by
  simp only [stepK] at h
  split at h
  · rename_i u v hu hv
    have vu := evO he hx hu
    have vv := evO he hy hv
    obtain ⟨z, h1, rfl, rfl⟩ := binK_one h
    obtain ⟨⟨k, n, g1⟩, ⟨k', n', g2⟩, g3, g4⟩ := run_bin (P := P) (c := c) t h1 c.w
    have e1 : a.eval x = valA u := by rcases g1 with rfl | ⟨s, rfl⟩ <;> simpa [VR, valA] using vu
    have e2 : a.eval y = valA v := by rcases g2 with rfl | ⟨s, rfl⟩ <;> simpa [VR, valA] using vv
    refine Does.scalar hr ?_ g4
    have e3 : (match valA u with | .nilIface => true | .agg _ => true | _ => false) = false := by rcases g1 with rfl | ⟨s, rfl⟩ <;> rfl
    rw [e1, e2, Sem.run_bind, Sem.run_bind, run_eqGuard_plain _ _ _ _ _ _ e3]
    simp [g3]
  · exact h.elim

theorem does_eqb {neg : Bool} {op : BinOp} {t : TypeId} {x y : Operand} {x' y' : Opd} (hop : op = if neg then .neq else .eql) (ht : P.underlying t = some .bool) (hx : okO x' x = true) (hy : okO y' y = true) {r : A} {d : Dl}
    (h : stepK (.eqb neg x' y') e H (fun z b => z = r ∧ b = d)) :
    Does P c H.length (do pure (.value (← (do eqGuard op t x y (a.eval x) (a.eval y); binOp op t (a.eval x) (a.eval y))))) r d := by
  simp only [stepK] at h
  split at h
  · rename_i u v hu hv
    have vu := evO he hx hu
    have vv := evO he hy hv
    simp only [VR] at vu vv
    obtain ⟨rfl, rfl⟩ := h
    refine Does.scalar hr ?_ rfl
    rw [vu, vv, Sem.run_bind, Sem.run_bind, run_eqGuard_plain _ _ _ _ _ _ rfl]
    have hq := run_equalIn_bool (P := P) c.w 9999 t u v ht
    cases neg
    · simp only [Bool.false_eq_true, if_false] at hop; subst hop
      simp [binOp, Op.equal, Op.maxDepth, hq, valA]
      cases u <;> cases v <;> rfl
    · simp only [if_true] at hop; subst hop
      simp [binOp, Op.equal, Op.maxDepth, hq, valA]
      cases u <;> cases v <;> rfl
  · exact h.elim

omit hr he in
theorem eqIn_nil (d : Nat) {t el : TypeId} (ht : P.underlying t = some (.slice el)) (ao : Option Addr) (n cap : Nat) (w : World) : (Op.equalIn (d + 1) t (.slice ao n cap) (.slice none 0 0)).run P w = .ok ao.isNone w := by
  cases ao <;> simp [Op.equalIn, run_underlying ht]

theorem does_isn {neg : Bool} {op : BinOp} {t el : TypeId} {x y : Operand} {x' : Opd} (hop : op = if neg then .neq else .eql) (ht : P.underlying t = some (.slice el)) (hx : okO x' x = true) (hy : okO (.c .nil) y = true) {r : A} {d : Dl}
    (h : stepK (.isn neg x') e H (fun z b => z = r ∧ b = d)) :
    Does P c H.length (do pure (.value (← (do eqGuard op t x y (a.eval x) (a.eval y); binOp op t (a.eval x) (a.eval y))))) r d := by
  have hyv : a.eval y = .slice none 0 0 := by
    cases y with
    | const v =>
      cases v <;> simp [okO, okA] at hy
      obtain ⟨⟨h1, h2⟩, h3⟩ := hy
      subst h1 h2 h3
      rfl
    | tmp b => simp [okO] at hy
    | func g => simp [okO] at hy
    | global b => simp [okO] at hy
  have hrun : ∀ (ao : Option Addr) (n cap : Nat), (do eqGuard op t x y (.slice ao n cap) (.slice none 0 0); binOp op t (.slice ao n cap) (.slice none 0 0) : Sem Value).run P c.w = .ok (.bool (if neg then !ao.isNone else ao.isNone)) c.w := by
    intro ao n cap
    have hq : (Op.equalIn (9999 + 1) t (.slice ao n cap) (.slice none 0 0)).run P c.w = .ok ao.isNone c.w := eqIn_nil 9999 ht ao n cap c.w
    rw [Sem.run_bind, run_eqGuard_plain op t x y _ _ rfl]
    cases neg
    · simp only [Bool.false_eq_true, if_false] at hop; subst hop
      show (do let r ← Op.equalIn (9999 + 1) t (.slice ao n cap) (.slice none 0 0); pure (Value.bool r) : Sem Value).run P c.w = _
      rw [Sem.run_bind, hq]; rfl
    · simp only [if_true] at hop; subst hop
      show (do let r ← Op.equalIn (9999 + 1) t (.slice ao n cap) (.slice none 0 0); pure (Value.bool (!r)) : Sem Value).run P c.w = _
      rw [Sem.run_bind, hq]; rfl
  simp only [stepK] at h
  split at h
  · rename_i n cs hz
    have hv := evO he hx hz
    simp only [VR] at hv
    obtain ⟨ao, cap, g1, gn, g2⟩ := hv
    split at h
    · obtain ⟨rfl, rfl⟩ := h
      exact Does.plain hr (v := .bool (if neg then !ao.isNone else ao.isNone)) (by rw [g1, hyv, Sem.run_bind, hrun]; rfl) ⟨_, rfl⟩
    · rename_i h0
      obtain ⟨rfl, rfl⟩ := h
      rcases g2 with g2 | ⟨ad, vs, rfl, _⟩
      · exact absurd g2 h0
      · refine Does.plain hr (v := .bool neg) (by rw [g1, hyv, Sem.run_bind, hrun]; cases neg <;> rfl) rfl
  · rename_i hz
    have hv := evO he hx hz
    simp only [VR] at hv
    obtain ⟨ao, g1⟩ := hv
    obtain ⟨rfl, rfl⟩ := h
    exact Does.plain hr (v := .bool (if neg then !ao.isNone else ao.isNone)) (by rw [g1, hyv, Sem.run_bind, hrun]; rfl) ⟨_, rfl⟩
  · exact h.elim

theorem does_not {x : Operand} {y : Opd} (hx : okO y x = true) {r : A} {d : Dl} (h : stepK (.not y) e H (fun z b => z = r ∧ b = d)) :
    Does P c H.length (do pure (.value (← Op.unary .not (a.eval x)))) r d := by
  simp only [stepK] at h
  split at h
  · rename_i b hz
    obtain ⟨rfl, rfl⟩ := h
    have hv := evO he hx hz
    simp only [VR] at hv
    exact Does.scalar hr (by simp [hv, Op.unary, valA]) rfl
  · exact h.elim

theorem does_neg {x : Operand} {y : Opd} (hx : okO y x = true) {r : A} {d : Dl} (h : stepK (.neg y) e H (fun z b => z = r ∧ b = d)) :
    Does P c H.length (do pure (.value (← Op.unary .neg (a.eval x)))) r d := by
  simp only [stepK] at h
  split at h
  · rename_i b hz
    obtain ⟨rfl, rfl⟩ := h
    have hv := evO he hx hz
    simp only [VR] at hv
    exact Does.scalar hr (by simp [hv, Op.unary, Op.intArith, valA]) rfl
  · exact h.elim

def convIs (P : Program) (s t : TypeId) (k : IntKind) : Bool :=
  (match P.underlying s with | some _ => true | none => false) && (match P.underlying t with | some (.int k') => k == k' | _ => false)

theorem does_conv {s t : TypeId} {k : IntKind} (ht : convIs P s t k = true) {x : Operand} {y : Opd} (hx : okO y x = true) {r : A} {d : Dl} (h : stepK (.conv k y) e H (fun z b => z = r ∧ b = d)) :
    Does P c H.length (do pure (.value (← convert s t (a.eval x)))) r d := by
  simp only [stepK] at h
  split at h
  · rename_i k' n hz
    obtain ⟨rfl, rfl⟩ := h
    have hv := evO he hx hz
    simp only [VR] at hv
    unfold convIs at ht
    cases hs : P.underlying s with
    | none => simp [hs] at ht
    | some ds =>
      cases hd : P.underlying t with
      | none => simp [hd] at ht
      | some dt =>
        cases dt <;> simp [hs, hd] at ht
        subst ht
        refine Does.scalar hr ?_ rfl
        simp only [convert, Sem.run_bind, run_underlying hs, run_underlying hd, Result.andThen_ok, hv]
        cases ds <;> simp [Conv.intToInt, valA]
  · exact h.elim

theorem does_ext {x : Operand} {y : Opd} {i : Nat} (hx : okO y x = true) {r : A} {d : Dl} (h : stepK (.ext y i) e H (fun z b => z = r ∧ b = d)) :
    Does P c H.length (do pure (.value (← Instr.extract (a.eval x) i))) r d := by
  simp only [stepK] at h
  split at h
  · rename_i vs hz
    obtain ⟨z, h1, rfl, rfl⟩ := h
    have hv := evO he hx hz
    simp only [VR] at hv
    obtain ⟨arr, h2, h3⟩ := hv
    obtain ⟨u, g1, g2⟩ := h3.get h1
    refine Does.plain hr ?_ g2
    have : arr[i]? = some u := by simpa using g1
    simp [h2, Instr.extract, this]
  · exact h.elim

def fieldIs (P : Program) (s : TypeId) (f off : Nat) (ag : Option Nat) : Bool :=
  match P.underlying s with
  | some (.struct fs) => match fs[f]? with
    | some fl => fl.offset == off && aggIs P fl.type ag
    | none => false
  | _ => false

theorem does_fld {s : TypeId} {f off : Nat} {ag : Option Nat} (hf : fieldIs P s f off ag = true) {x : Operand} {y : Opd} (hx : okO y x = true) {r : A} {d : Dl} (h : stepK (.fld off ag y) e H (fun z b => z = r ∧ b = d)) :
    Does P c H.length (do pure (.value (← Instr.field s (a.eval x) f))) r d := by
  simp only [stepK] at h
  split at h
  · rename_i cs hz
    have hd : d = .no := by
      cases ag with
      | none => obtain ⟨_, _, _, h⟩ := h; exact h.symm
      | some n => exact h.2.2.symm
    subst hd
    have h' : ldK ag (cs.drop off) (fun z => z = r) := by
      cases ag with
      | none => obtain ⟨z, h1, h2, _⟩ := h; exact ⟨z, h1, h2⟩
      | some n => exact ⟨h.1, h.2.1⟩
    have hv := evO he hx hz
    simp only [VR] at hv
    obtain ⟨arr, h2, h3⟩ := hv
    unfold fieldIs at hf
    split at hf
    · rename_i fs hu
      split at hf
      · rename_i fl hfl
        simp at hf
        obtain ⟨rfl, hag⟩ := hf
        obtain ⟨u, g1, g2⟩ := run_part (P := P) hag h3 h'
        refine Does.plain hr ?_ g2
        simp [h2, Instr.field, run_underlying hu, hfl, asAgg, g1]
      · simp at hf
    · simp at hf
  · exact h.elim

def fadIs (P : Program) (s : TypeId) (f off : Nat) : Bool :=
  match P.underlying s with
  | some (.struct fs) => match fs[f]? with
    | some fl => fl.offset == off && (match P.info? fl.type with | some i => i.size != 0 | none => false)
    | none => false
  | _ => false

omit hr he in
theorem VR.pt_drop {c : Cx} {cs : List A} {ad : Addr} {vs : List Value} (h2 : ad.spot = none) (h3 : ad.block < c.w.heap.size) (h4 : ¬ c.Z ad.block) (h5 : reads c.w ad vs) (h6 : VRs c cs vs) (n : Nat) :
    VR c (.pt (cs.drop n)) (.pointer (some ⟨ad.block, ad.off + n, none⟩)) :=
  ⟨_, vs.drop n, rfl, rfl, h3, h4, h5.drop n, h6.drop n⟩

omit hr he in
theorem VR.ptr_add {c : Cx} {b v o : Nat} {k : Blk} {p : Addr} (g1 : c.H b = some k) (g2 : v ≤ k.v) (g3 : v = k.v → p = c.at b o) (hs : p.spot = none ∨ v = k.v) (n : Nat) :
    VR c (.ptr b v (o + n)) (.pointer (some (p.add n))) := by
  refine ⟨k, _, g1, g2, rfl, fun hk => ?_⟩
  rw [g3 hk, addr_add rfl]
  simp [Cx.at, Nat.add_assoc]

theorem does_fad {s : TypeId} {f off : Nat} (hf : fadIs P s f off = true) {x : Operand} {y : Opd} (hx : okO y x = true) {r : A} {d : Dl} (h : stepK (.fad off y) e H (fun z b => z = r ∧ b = d)) :
    Does P c H.length (do pure (.value (← Instr.fieldAt s (a.eval x) f))) r d := by
  have hrun : ∀ p : Addr, (Instr.fieldAt s (.pointer (some p)) f).run P c.w = .ok (.pointer (some (p.add off))) c.w := by
    intro p
    unfold fadIs at hf
    split at hf
    · rename_i fs hu
      split at hf
      · rename_i fl hfl
        split at hf
        · rename_i i hi
          simp at hf
          obtain ⟨rfl, hne⟩ := hf
          simp [Instr.fieldAt, run_underlying hu, hfl, Instr.sureAddr, fieldPlace, sizeOf, typeInfo, hi, hne]
        · simp at hf
      · simp at hf
    · simp at hf
  simp only [stepK] at h
  split at h
  · rename_i b v o hz
    obtain ⟨rfl, rfl⟩ := h
    have hv := evO he hx hz
    simp only [VR] at hv
    obtain ⟨k, p, g1, g2, g3, g4⟩ := hv
    refine Does.plain hr (v := .pointer (some (p.add off))) ?_ ?_
    · simp [g3, hrun]
    · refine ⟨k, _, g1, g2, rfl, fun hk => ?_⟩
      rw [g4 hk, addr_add rfl]
      simp [Cx.at, Nat.add_assoc]
  · rename_i cs hz
    obtain ⟨rfl, rfl⟩ := h
    have hv := evO he hx hz
    simp only [VR] at hv
    obtain ⟨ad, vs, h1, h2, h3, h4, h5, h6⟩ := hv
    refine Does.plain hr ?_ (VR.pt_drop h2 h3 h4 h5 h6 off)
    simp [h1, hrun, addr_add h2]
  · exact h.elim

def iadIs (P : Program) (t : TypeId) (esz : Nat) : Bool :=
  match P.underlying t with
  | some (.slice e) => sizeIs P e esz
  | _ => false

include hsub in
theorem does_iad {t : TypeId} {esz : Nat} (hf : iadIs P t esz = true) {x i : Operand} {x' i' : Opd} (hx : okO x' x = true) (hi : okO i' i = true) {r : A} {d : Dl} (h : stepK (.iad esz x' i') e H (fun z b => z = r ∧ b = d)) :
    Does P c H.length (do pure (.value (← Instr.indexAt t (a.eval x) (a.eval i)))) r d := by
  unfold iadIs at hf
  split at hf
  · rename_i el hu
    have hrun : ∀ (p : Addr) (n cap : Nat) (kk : IntKind) (j : Int), 0 ≤ j → j < n → (Instr.indexAt t (.slice (some p) n cap) (.int kk j)).run P c.w = .ok (.pointer (some (p.add (j.toNat * esz)))) c.w := by
      intro p n cap kk j h0 h1
      simp [Instr.indexAt, run_underlying hu, asIntOf, h0, h1, sizeIs.run hf]
    simp only [stepK] at h
    split at h
    · rename_i n cs kk j hz hj
      obtain ⟨h0, h1, rfl, rfl⟩ := h
      have hv := evO he hx hz
      have hw := evO he hi hj
      simp only [VR] at hv hw
      obtain ⟨ao, cap, g1, gn, g2⟩ := hv
      rcases g2 with g2 | ⟨ad, vs, rfl, g3, g4, g5, g6, g7⟩
      · subst g2; omega
      · refine Does.plain hr ?_ (VR.pt_drop g3 g4 g5 g6 g7 (j.toNat * esz))
        simp [g1, hw, hrun _ _ _ _ _ h0 h1, addr_add g3]
    · rename_i b v off n kk j hz hj
      split at h
      · rename_i k hk
        obtain ⟨hkv, h0, h1, rfl, rfl⟩ := h
        have hv := evO he hx hz
        have hw := evO he hi hj
        simp only [VR] at hv hw
        obtain ⟨k', ao, cap, g1, g2, g3, gn, g4⟩ := hv
        have hck : c.H b = some k := by rcases hsub b k hk with h' | h' <;> simp_all
        rw [hck] at g1
        cases g1
        rcases g4 hkv.symm with g4 | ⟨_, rfl, g6⟩
        · omega
        · refine Does.plain hr (v := .pointer (some ((c.at b off).add (j.toNat * esz)))) ?_ ?_
          · simp [g3, hw, hrun _ _ _ _ _ h0 h1]
          · refine ⟨k, _, hck, g2, rfl, fun _ => ?_⟩
            rw [addr_add rfl]
            simp [Cx.at, Nat.add_assoc]
      · exact h.elim
    · exact h.elim
  · simp at hf

def iadaIs (P : Program) (t : TypeId) (len esz : Nat) : Bool :=
  match P.underlying t with
  | some (.array n e) => n == len && sizeIs P e esz
  | _ => false

theorem does_iada {t : TypeId} {len esz : Nat} (hf : iadaIs P t len esz = true) {x i : Operand} {x' i' : Opd} (hx : okO x' x = true) (hi : okO i' i = true) {r : A} {d : Dl} (h : stepK (.iada len esz x' i') e H (fun z b => z = r ∧ b = d)) :
    Does P c H.length (do pure (.value (← Instr.indexAt t (a.eval x) (a.eval i)))) r d := by
  unfold iadaIs at hf
  split at hf
  · rename_i n el hu
    simp at hf
    obtain ⟨rfl, hf⟩ := hf
    have hrun : ∀ (p : Addr) (kk : IntKind) (j : Int), 0 ≤ j → j < n → (Instr.indexAt t (.pointer (some p)) (.int kk j)).run P c.w = .ok (.pointer (some (p.add (j.toNat * esz)))) c.w := by
      intro p kk j h0 h1
      simp [Instr.indexAt, run_underlying hu, asIntOf, h0, h1, sizeIs.run hf, Instr.sureAddr]
    simp only [stepK] at h
    split at h
    · rename_i cs kk j hz hj
      obtain ⟨h0, h1, rfl, rfl⟩ := h
      have hv := evO he hx hz
      have hw := evO he hi hj
      simp only [VR] at hv hw
      obtain ⟨ad, vs, g1, g3, g4, g5, g6, g7⟩ := hv
      refine Does.plain hr ?_ (VR.pt_drop g3 g4 g5 g6 g7 (j.toNat * esz))
      simp [g1, hw, hrun _ _ _ h0 h1, addr_add g3]
    · rename_i b v off kk j hz hj
      obtain ⟨h0, h1, rfl, rfl⟩ := h
      have hv := evO he hx hz
      have hw := evO he hi hj
      simp only [VR] at hv hw
      obtain ⟨k, p, g1, g2, g3, g4⟩ := hv
      refine Does.plain hr (v := .pointer (some (p.add (j.toNat * esz)))) ?_ ?_
      · simp [g3, hw, hrun _ _ _ h0 h1]
      · refine ⟨k, _, g1, g2, rfl, fun hk => ?_⟩
        rw [g4 hk, addr_add rfl]
        simp [Cx.at, Nat.add_assoc]
    · exact h.elim
  · simp at hf

theorem does_idxs {t : TypeId} (hf : P.underlying t = some .string) {x i : Operand} {x' i' : Opd} (hx : okO x' x = true) (hi : okO i' i = true) {r : A} {d : Dl} (h : stepK (.idxs x' i') e H (fun z b => z = r ∧ b = d)) :
    Does P c H.length (do pure (.value (← Instr.index t (a.eval x) (a.eval i)))) r d := by
  simp only [stepK] at h
  split at h
  · rename_i s kk j hz hj
    obtain ⟨h0, b, h1, rfl, rfl⟩ := h
    have hv := evO he hx hz
    have hw := evO he hi hj
    simp only [VR] at hv hw
    refine Does.scalar hr ?_ rfl
    simp [hv, hw, Instr.index, run_underlying hf, asIntOf, h0, h1, valA]
  · exact h.elim

def idxaIs (P : Program) (t : TypeId) (len esz : Nat) (ag : Option Nat) : Bool :=
  match P.underlying t with
  | some (.array n e) => n == len && sizeIs P e esz && aggIs P e ag
  | _ => false

theorem does_idxa {t : TypeId} {len esz : Nat} {ag : Option Nat} (hf : idxaIs P t len esz ag = true) {x i : Operand} {x' i' : Opd} (hx : okO x' x = true) (hi : okO i' i = true) {r : A} {d : Dl} (h : stepK (.idxa len esz ag x' i') e H (fun z b => z = r ∧ b = d)) :
    Does P c H.length (do pure (.value (← Instr.index t (a.eval x) (a.eval i)))) r d := by
  unfold idxaIs at hf
  split at hf
  · rename_i n el hu
    simp at hf
    obtain ⟨⟨rfl, hf⟩, hag⟩ := hf
    simp only [stepK] at h
    split at h
    · rename_i cs kk j hz hj
      obtain ⟨h0, h1, h⟩ := h
      have hd : d = .no := by
        cases ag with
        | none => obtain ⟨_, _, _, h⟩ := h; exact h.symm
        | some n => exact h.2.2.symm
      subst hd
      have h' : ldK ag (cs.drop (j.toNat * esz)) (fun z => z = r) := by
        cases ag with
        | none => obtain ⟨z, h1, h2, _⟩ := h; exact ⟨z, h1, h2⟩
        | some n => exact ⟨h.1, h.2.1⟩
      have hv := evO he hx hz
      have hw := evO he hi hj
      simp only [VR] at hv hw
      obtain ⟨arr, h2, h3⟩ := hv
      obtain ⟨u, g1, g2⟩ := run_part (P := P) hag h3 h'
      refine Does.plain hr ?_ g2
      simp [h2, hw, Instr.index, run_underlying hu, asIntOf, h0, h1, sizeIs.run hf, g1]
    · exact h.elim
  · simp at hf

def lenIs (P : Program) (st : Bool) (t : TypeId) : Bool :=
  match P.underlying t with
  | some .string => st
  | some (.slice _) => !st
  | _ => false

theorem does_len {st : Bool} {t ty : TypeId} (hf : lenIs P st t = true) {x : Operand} {y : Opd} (hx : okO y x = true) {r : A} {d : Dl} (h : stepK (.len st y) e H (fun z b => z = r ∧ b = d)) :
    Does P c H.length (do pure (.value (← Builtin.len_ #[t] ty #[a.eval x]))) r d := by
  simp only [stepK] at h
  unfold lenIs at hf
  split at hf
  · rename_i hu
    subst hf
    split at h <;> first
      | exact h.elim
      | (rename_i h0 _; cases h0; done)
      | skip
    rename_i s _ hz
    obtain ⟨rfl, rfl⟩ := h
    have hv := evO he hx hz
    simp only [VR] at hv
    exact Does.scalar hr (by simp [Builtin.len_, run_underlying hu, hv, valA, goInt]) rfl
  · rename_i el hu
    simp at hf
    subst hf
    split at h <;> first
      | exact h.elim
      | skip
    all_goals rename_i hz
    all_goals obtain ⟨rfl, rfl⟩ := h
    all_goals have hv := evO he hx hz
    all_goals simp only [VR] at hv
    · obtain ⟨ao, cap, g1, _⟩ := hv
      exact Does.scalar hr (by simp [Builtin.len_, run_underlying hu, g1, valA, goInt]) rfl
    · obtain ⟨k, ao, cap, _, _, g1, _⟩ := hv
      exact Does.scalar hr (by simp [Builtin.len_, run_underlying hu, g1, valA, goInt]) rfl
    · obtain ⟨ao, g1⟩ := hv
      exact Does.scalar hr (by simp [Builtin.len_, run_underlying hu, g1, valA, goInt]) rfl
    · exact absurd ‹false = true› (by simp)
  · simp at hf
end
end Go.Sym
