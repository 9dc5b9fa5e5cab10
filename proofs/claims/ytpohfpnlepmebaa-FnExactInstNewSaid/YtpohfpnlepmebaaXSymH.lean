/- Each operation of Go does what stepK says of it (cuts, appends, minima, equality of structs). Conditions: those that each theorem names. -/
import Derived.Test.YtpohfpnlepmebaaXSymG
import Derived.Laws.Slices
set_option linter.unusedVariables false
set_option linter.unusedSimpArgs false
namespace Go.Sym
open Go.RowKit

def okOO : Option Opd → Option Operand → Bool
  | none, none => true
  | some x, some y => okO x y
  | _, _ => false

section
variable {P : Program} {c : Cx} {e : Env} {a : Act} {H : List Blk} (hr : RelH c) (he : EnvRel c e a) (hsub : Sub c H)
include he

theorem bndV {x : Option Opd} {y : Option Operand} (hx : okOO x y = true) {d : Nat} {n : Int} (h : bnd e d x = some n) :
    (y = none ∧ n = d) ∨ ∃ o k, y = some o ∧ a.eval o = .int k n := by
  cases x with
  | none =>
    cases y <;> simp [okOO] at hx
    simp [bnd] at h
    exact .inl ⟨rfl, h.symm⟩
  | some x =>
    cases y <;> simp [okOO] at hx
    rename_i o
    simp only [bnd] at h
    split at h
    · rename_i k m hz
      cases h
      have := evO he hx hz
      simp only [VR] at this
      exact .inr ⟨o, k, rfl, this⟩
    · cases h

theorem run_bnds {sl : Bool} {n cap : Nat} {lo hi : Option Operand} {lo' hi' : Option Opd} (hl : okOO lo' lo = true) (hh : okOO hi' hi = true) {l h : Int} (h1 : bnd e 0 lo' = some l) (h2 : bnd e n hi' = some h)
    (h0 : 0 ≤ l) (hlh : l ≤ h) (hn : h ≤ n) (hc : n ≤ cap) (w : World) :
    (Instr.sliceBounds sl n cap (lo.map a.eval) (hi.map a.eval) none).run P w = .ok (l.toNat, h.toNat, cap) w := by
  have b1 := bndV he hl h1
  have b2 := bndV he hh h2
  have hhn : ((h.toNat : Nat) : Int) = h := Int.toNat_of_nonneg (by omega)
  have r1 : ∀ (k : IntKind) (code : BoundsCode), (Instr.sliceBound (.int k h) cap code).run P w = .ok h.toNat w := fun k code => run_sliceBound w k h cap code (by omega) (by omega)
  have r2 : ∀ (k : IntKind) (code : BoundsCode), (Instr.sliceBound (.int k l) h.toNat code).run P w = .ok l.toNat w := fun k code => run_sliceBound w k l h.toNat code h0 (by omega)
  rcases b2 with ⟨rfl, rfl⟩ | ⟨o2, k2, rfl, e2⟩
  · rcases b1 with ⟨rfl, rfl⟩ | ⟨o1, k1, rfl, e1⟩
    · simp [Instr.sliceBounds]
    · have := r2 k1 .sliceB
      simp at this
      simp [Instr.sliceBounds, e1, this]
  · rcases b1 with ⟨rfl, rfl⟩ | ⟨o1, k1, rfl, e1⟩
    · cases sl <;> simp [Instr.sliceBounds, e2, r1]
    · cases sl <;> simp [Instr.sliceBounds, e1, e2, r1, r2]

theorem run_bnds3 {n cap m : Nat} {lo hi : Option Operand} {mx : Operand} {lo' hi' : Option Opd} {mx' : Opd} (hl : okOO lo' lo = true) (hh : okOO hi' hi = true) (hm : okOO (some mx') (some mx) = true) {l h : Int} (h1 : bnd e 0 lo' = some l) (h2 : bnd e n hi' = some h) (h3 : bnd e n (some mx') = some (m : Int))
    (h0 : 0 ≤ l) (hlh : l ≤ h) (hn : h ≤ m) (hc : m ≤ cap) (hi0 : hi ≠ none) (w : World) :
    (Instr.sliceBounds true n cap (lo.map a.eval) (hi.map a.eval) (some (a.eval mx))).run P w = .ok (l.toNat, h.toNat, m) w := by
  have b1 := bndV he hl h1
  have b2 := bndV he hh h2
  have b3 := bndV he hm h3
  have hhn : ((h.toNat : Nat) : Int) = h := Int.toNat_of_nonneg (by omega)
  have r1 : ∀ (k : IntKind) (code : BoundsCode), (Instr.sliceBound (.int k h) m code).run P w = .ok h.toNat w := fun k code => run_sliceBound w k h m code (by omega) (by omega)
  have r2 : ∀ (k : IntKind) (code : BoundsCode), (Instr.sliceBound (.int k l) h.toNat code).run P w = .ok l.toNat w := fun k code => run_sliceBound w k l h.toNat code h0 (by omega)
  have r3 : ∀ (k : IntKind) (code : BoundsCode), (Instr.sliceBound (.int k (m : Int)) cap code).run P w = .ok m w := fun k code => by
    have := run_sliceBound (P := P) w k (m : Int) cap code (by omega) (by omega)
    simpa using this
  rcases b3 with ⟨h', _⟩ | ⟨o3, k3, h', e3⟩
  · cases h'
  cases h'
  rcases b2 with ⟨rfl, rfl⟩ | ⟨o2, k2, rfl, e2⟩
  · exact absurd rfl hi0
  · rcases b1 with ⟨rfl, rfl⟩ | ⟨o1, k1, rfl, e1⟩
    · simp [Instr.sliceBounds, e2, e3, r1, r3]
    · simp [Instr.sliceBounds, e1, e2, e3, r1, r2, r3]

include hr
include hsub in
theorem does_slc {t : TypeId} {esz : Nat} (hf : iadIs P t esz = true) {x : Operand} {x' : Opd} {lo hi : Option Operand} {lo' hi' : Option Opd} (hx : okO x' x = true) (hl : okOO lo' lo = true) (hh : okOO hi' hi = true) {r : A} {d : Dl}
    (h : stepK (.slc esz x' lo' hi' none) e H (fun z b => z = r ∧ b = d)) :
    Does P c H.length (do pure (.value (← Instr.sliceAt t (a.eval x) (lo.map a.eval) (hi.map a.eval) (none : Option Value)))) r d := by
  unfold iadIs at hf
  split at hf
  · rename_i el hu
    have hrun : ∀ (ao : Option Addr) (n cap : Nat) (l h : Int), (Instr.sliceBounds true n cap (lo.map a.eval) (hi.map a.eval) none).run P c.w = .ok (l.toNat, h.toNat, cap) c.w →
        (Instr.sliceAt t (.slice ao n cap) (lo.map a.eval) (hi.map a.eval) none).run P c.w = .ok (.slice (if cap = l.toNat then ao else ao.map (·.add (l.toNat * esz))) (h.toNat - l.toNat) (cap - l.toNat)) c.w := by
      intro ao n cap l h hb
      simp [Instr.sliceAt, Instr.slice, run_underlying hu, hb, sizeIs.run hf]
    simp only [stepK] at h
    split at h
    · rename_i n cs hz
      split at h
      · rename_i l hh' b1 b2
        obtain ⟨h0, h1, h2, rfl, rfl⟩ := h
        have hv := evO he hx hz
        simp only [VR] at hv
        obtain ⟨ao, cap, g1, gn, g2⟩ := hv
        have hb := run_bnds (P := P) he (sl := true) hl hh b1 b2 h0 h1 h2 gn c.w
        refine Does.plain hr (v := .slice (if cap = l.toNat then ao else ao.map (·.add (l.toNat * esz))) (hh'.toNat - l.toNat) (cap - l.toNat)) ?_ ?_
        · simp [g1, hrun _ _ _ _ _ hb]
        · refine ⟨_, _, rfl, by omega, ?_⟩
          by_cases hz0 : hh'.toNat - l.toNat = 0
          · exact .inl hz0
          · right
            rcases g2 with g2 | ⟨ad, vs, rfl, g3, g4, g5, g6, g7⟩
            · omega
            · refine ⟨⟨ad.block, ad.off + l.toNat * esz, none⟩, _, ?_, rfl, g4, g5, (g6.drop (l.toNat * esz)).take ((hh'.toNat - l.toNat) * esz), (g7.drop _).take _⟩
              rw [if_neg (by omega)]
              simp [addr_add g3]
      · exact h.elim
    · rename_i b v off n hz
      split at h
      · rename_i l hh' b1 b2
        split at h
        · rename_i kl hkl
          obtain ⟨e1, e2, h0, h1, h2, rfl, rfl⟩ := h
          have hv := evO he hx hz
          simp only [VR] at hv
          obtain ⟨k, ao, cap, g1, g2, g3, gn, g4⟩ := hv
          have hck : c.H b = some kl := by rcases hsub b kl hkl with h' | h' <;> simp_all
          rw [hck] at g1
          cases g1
          have hb := run_bnds (P := P) he (sl := true) hl hh b1 b2 h0 (by omega) h2 gn.1 c.w
          refine Does.plain hr (v := .slice (if cap = l.toNat then ao else ao.map (·.add (l.toNat * esz))) (hh'.toNat - l.toNat) (cap - l.toNat)) ?_ ?_
          · simp [g3, hrun _ _ _ _ _ hb]
          · refine ⟨kl, _, _, hck, g2, rfl, by omega, fun hk => ?_⟩
            rcases g4 hk with g4 | ⟨g0, rfl, g5⟩
            · exact .inl (by omega)
            · by_cases hcl : cap = l.toNat
              · exact .inl (by omega)
              · right
                rw [if_neg hcl]
                refine ⟨g0, by simp [addr_add, Cx.at, Nat.add_assoc], fun j hj => ?_⟩
                rw [Nat.add_assoc]
                refine g5 _ ?_
                rw [Nat.sub_mul] at hj
                rw [← e2]
                omega
        · exact h.elim
      · exact h.elim
    · exact h.elim
  · simp at hf

theorem does_slc3 {t : TypeId} {esz : Nat} (hf : iadIs P t esz = true) {x mx : Operand} {x' mx' : Opd} {lo hi : Option Operand} {lo' hi' : Option Opd} (hx : okO x' x = true) (hl : okOO lo' lo = true) (hh : okOO hi' hi = true) (hm : okO mx' mx = true) (hi0 : hi ≠ none) {r : A} {d : Dl}
    (h : stepK (.slc esz x' lo' hi' (some mx')) e H (fun z b => z = r ∧ b = d)) :
    Does P c H.length (do pure (.value (← Instr.sliceAt t (a.eval x) (lo.map a.eval) (hi.map a.eval) (some (a.eval mx))))) r d := by
  unfold iadIs at hf
  split at hf
  · rename_i el hu
    have hrun : ∀ (ao : Option Addr) (n cap m : Nat) (l h : Int), (Instr.sliceBounds true n cap (lo.map a.eval) (hi.map a.eval) (some (a.eval mx))).run P c.w = .ok (l.toNat, h.toNat, m) c.w →
        (Instr.sliceAt t (.slice ao n cap) (lo.map a.eval) (hi.map a.eval) (some (a.eval mx))).run P c.w = .ok (.slice (if m = l.toNat then ao else ao.map (·.add (l.toNat * esz))) (h.toNat - l.toNat) (m - l.toNat)) c.w := by
      intro ao n cap m l h hb
      simp [Instr.sliceAt, Instr.slice, run_underlying hu, hb, sizeIs.run hf]
    simp only [stepK] at h
    split at h
    · rename_i n cs hz
      split at h
      · rename_i l h1 m b1 b2 b3
        obtain ⟨rfl, rfl, rfl, rfl, rfl⟩ := h
        have hv := evO he hx hz
        simp only [VR] at hv
        obtain ⟨ao, cap, g1, gn, g2⟩ := hv
        have hb := run_bnds3 (P := P) he (cap := cap) hl hh (mx := mx) (mx' := mx') (by simpa [okOO] using hm) b1 b2 (m := 0) b3 (Int.le_refl _) (Int.le_refl _) (Int.le_refl _) (Nat.zero_le _) hi0 c.w
        refine Does.plain hr (v := .slice ao 0 0) ?_ ⟨ao, rfl⟩
        have := hrun ao n cap 0 0 0 hb
        simp at this
        simp [g1, this]
      · exact h.elim
    · rename_i hz
      split at h
      · rename_i l h1 m b1 b2 b3
        obtain ⟨rfl, rfl, rfl, rfl, rfl⟩ := h
        have hv := evO he hx hz
        simp only [VR] at hv
        obtain ⟨ao, g1⟩ := hv
        have hb := run_bnds3 (P := P) he (cap := 0) hl hh (mx := mx) (mx' := mx') (by simpa [okOO] using hm) b1 b2 (m := 0) b3 (Int.le_refl _) (Int.le_refl _) (Int.le_refl _) (Nat.zero_le _) hi0 c.w
        refine Does.plain hr (v := .slice ao 0 0) ?_ ⟨ao, rfl⟩
        have := hrun ao 0 0 0 0 0 hb
        simp at this
        simp [g1, this]
      · exact h.elim
    · rename_i b v off n hz
      split at h
      · rename_i l h1 m b1 b2 b3
        obtain ⟨rfl, rfl, rfl, rfl, rfl⟩ := h
        have hv := evO he hx hz
        have hv' := hv
        simp only [VR] at hv
        obtain ⟨k, ao, cap, g1, g2, g3, gn, g4⟩ := hv
        have hb := run_bnds3 (P := P) he (cap := cap) hl hh (mx := mx) (mx' := mx') (by simpa [okOO] using hm) b1 b2 (m := n) b3 (Int.le_refl _) (by omega) (Int.le_refl _) gn.1 hi0 c.w
        refine Does.plain hr (v := .slice ao n n) ?_ ⟨k, ao, n, g1, g2, rfl, ⟨Nat.le_refl _, by omega⟩, fun hk => ?_⟩
        · have := hrun ao n cap n 0 n hb
          have e : (if n = 0 then ao else ao.map (fun x => x.add 0)) = ao := by
            split
            · rfl
            · cases ao <;> simp [Addr.add]
          simp only [Int.toNat_zero, Nat.zero_mul, Int.toNat_natCast, Nat.sub_zero, e] at this
          simp only [g3, Sem.run_bind, this, Result.andThen_ok]
          rfl
        · rcases g4 hk with g4 | ⟨g0, rfl, g5⟩
          · left; omega
          · exact .inr ⟨g0, rfl, fun j hj => g5 j (Nat.lt_of_lt_of_le hj (Nat.mul_le_mul_right _ gn.1))⟩
      · exact h.elim
    · exact h.elim
  · simp at hf

theorem does_sls {t : TypeId} (hu : P.underlying t = some .string) {x : Operand} {x' : Opd} {lo hi : Option Operand} {lo' hi' : Option Opd} (hx : okO x' x = true) (hl : okOO lo' lo = true) (hh : okOO hi' hi = true) {r : A} {d : Dl}
    (h : stepK (.sls x' lo' hi') e H (fun z b => z = r ∧ b = d)) :
    Does P c H.length (do pure (.value (← Instr.sliceAt t (a.eval x) (lo.map a.eval) (hi.map a.eval) (none : Option Value)))) r d := by
  simp only [stepK] at h
  split at h
  · rename_i s hz
    split at h
    · rename_i l h1 b1 b2
      obtain ⟨g0, g1, g2, rfl, rfl⟩ := h
      have hv := evO he hx hz
      simp only [VR] at hv
      have hb := run_bnds (P := P) he (sl := false) (cap := s.size) hl hh b1 b2 g0 g1 g2 (Nat.le_refl _) c.w
      refine Does.scalar hr ?_ rfl
      simp [Instr.sliceAt, Instr.slice, run_underlying hu, hv, hb, valA]
    · exact h.elim
  · exact h.elim

omit hr he in
theorem run_mm (mx : Bool) (k : IntKind) : ∀ (ys : List A) (vs : List Value) (b : Int), VRs c ys vs → ∀ r, mmK mx k b ys = some r → ∀ w,
    (vs.foldlM (if mx then Builtin.max2 else Builtin.min2) (.int k b)).run P w = .ok (valA r) w ∧ VR c r (valA r)
  | [], vs, b, hv, r, h, w => by
    simp only [VRs] at hv
    subst hv
    simp [mmK] at h
    subst h
    exact ⟨by simp [valA], rfl⟩
  | y :: ys, vs, b, hv, r, h, w => by
    simp only [VRs] at hv
    obtain ⟨v, vs', rfl, h1, h2⟩ := hv
    cases y <;> simp only [mmK] at h <;> try (cases h; done)
    rename_i k' n
    simp only [VR] at h1
    subst h1
    have ih := run_mm mx k ys vs' _ h2 r h w
    refine ⟨?_, ih.2⟩
    rw [← ih.1]
    cases mx <;> simp [List.foldlM_cons, Builtin.max2, Builtin.min2]

theorem does_mm {mx : Bool} {t : TypeId} {tys : Array TypeId} {x : Operand} {xs : List Operand} {x' : Opd} {xs' : List Opd} (hx : okO x' x = true) (hxs : xs'.length = xs.length ∧ ∀ (j : Nat) (u : Opd) (v : Operand), xs'[j]? = some u → xs[j]? = some v → okO u v = true) {r : A} {d : Dl}
    (h : stepK (.mm mx x' xs') e H (fun z b => z = r ∧ b = d)) (args : Array Value) (ha : args.toList = a.eval x :: xs.map a.eval) :
    Does P c H.length (do pure (.value (← if mx then Builtin.max_ tys t args else Builtin.min_ tys t args))) r d := by
  have hev : ∀ (us : List Opd) (os : List Operand), us.length = os.length → (∀ (j : Nat) (u : Opd) (v : Operand), us[j]? = some u → os[j]? = some v → okO u v = true) → ∀ ys, evs e us = some ys → VRs c ys (os.map a.eval) := by
    intro us
    induction us with
    | nil => intro os hl _ ys h; cases os <;> simp at hl; simp [evs] at h; subst h; simp [VRs]
    | cons u us ih =>
      intro os hl hok ys h
      cases os with
      | nil => simp at hl
      | cons o os =>
        simp only [evs] at h
        split at h
        · rename_i z zs hz hzs
          cases h
          exact ⟨_, _, rfl, evO he (hok 0 u o rfl rfl) hz, ih os (by simpa using hl) (fun j u v hu hv => hok (j + 1) u v (by simpa using hu) (by simpa using hv)) zs hzs⟩
        · cases h
  simp only [stepK] at h
  split at h
  · rename_i k n ys hz hzs
    split at h
    · rename_i z hm
      obtain ⟨rfl, rfl⟩ := h
      have hv := evO he hx hz
      simp only [VR] at hv
      obtain ⟨g1, g2⟩ := run_mm (P := P) (c := c) mx k ys _ n (hev _ _ hxs.1 hxs.2 _ hzs) _ hm c.w
      refine Does.scalar hr ?_ g2
      cases mx
      · simp only [Bool.false_eq_true, if_false] at g1 ⊢
        simp [Builtin.min_, ha, hv, g1]
      · simp only [if_true] at g1 ⊢
        simp [Builtin.max_, ha, hv, g1]
    · exact h.elim
  · exact h.elim

omit hr he in
theorem run_eqF (dp : Nat) (w : World) : ∀ (ts : List Nat) (fs : List Field) (xs ys : List A) (vs us : Array Value) (i : Nat), plainF P i ts fs = true → VRs c xs (vs.toList.drop i) → VRs c ys (us.toList.drop i) → ∀ r, eqAs ts xs ys = some r →
    (Op.eqFields (dp + 1) vs us fs).run P w = .ok r w
  | [], fs, xs, ys, vs, us, i, hp, hx, hy, r, h => by
    cases fs <;> simp [plainF] at hp
    cases xs <;> cases ys <;> simp [eqAs] at h
    subst h
    simp [Op.eqFields]
  | t :: ts, [], xs, ys, vs, us, i, hp, hx, hy, r, h => by simp [plainF] at hp
  | t :: ts, f :: fs, [], ys, vs, us, i, hp, hx, hy, r, h => by simp [eqAs] at h
  | t :: ts, f :: fs, x :: xs, [], vs, us, i, hp, hx, hy, r, h => by simp [eqAs] at h
  | t :: ts, f :: fs, x :: xs, y :: ys, vs, us, i, hp, hx, hy, r, h => by
    simp only [eqAs] at h
    split at h
    · rename_i p q h1 h2
      cases h
      simp [plainF] at hp
      obtain ⟨⟨⟨hn, ho⟩, ht⟩, hp⟩ := hp
      simp only [VRs] at hx hy
      obtain ⟨u, us', e1, e2, e3⟩ := hx
      obtain ⟨v, vs', e4, e5, e6⟩ := hy
      have gu : vs[i]? = some u := by have := congrArg (·[0]?) e1; simpa using this
      have gv : us[i]? = some v := by have := congrArg (·[0]?) e4; simpa using this
      have du : vs.toList.drop (i + 1) = us' := by rw [← List.drop_drop, e1]; rfl
      have dv : us.toList.drop (i + 1) = vs' := by rw [← List.drop_drop, e4]; rfl
      have ih := run_eqF dp w ts fs xs ys vs us (i + 1) hp (by rw [du]; exact e3) (by rw [dv]; exact e6) q h2
      have hpart : ∀ (d : TypeDesc), P.underlying f.type = some d → isAggD d = false → ∀ (ar : Array Value) (z : Value), ar[i]? = some z → (part f.type ar f.offset).run P w = .ok z w := by
        intro d hu hd ar z hz
        simp [part, run_isAgg' hu, hd, ho, hz]
      have key : ∃ d, P.underlying f.type = some d ∧ isAggD d = false ∧ (Op.equalIn (dp + 1) f.type u v).run P w = .ok p w := by
        unfold tagIs at ht
        split at ht <;> (try (cases ht; done)) <;> rename_i hu <;> simp at ht <;> subst ht <;> refine ⟨_, hu, rfl, ?_⟩
        all_goals cases x <;> cases y <;> simp only [eqA] at h1 <;> try (cases h1; done)
        · simp only [VR] at e2 e5
          subst e2 e5
          cases h1
          rw [run_equalIn_bool w dp f.type _ _ hu]
          congr 1
        · split at h1
          · rename_i hk
            subst hk
            simp only [VR] at e2 e5
            subst e2 e5
            cases h1
            rw [run_equalIn_int w dp f.type _ _ _ _ hu]
            congr 1
          · cases h1
        · simp only [VR] at e2 e5
          subst e2 e5
          cases h1
          rw [run_equalIn_string w dp f.type _ _ hu, ← beq_toListBytes, ba_beq]
      obtain ⟨d, hu, hd, heq⟩ := key
      simp only [Op.eqFields, ne_eq, hn, not_false_eq_true, if_true, Sem.run_bind, hpart d hu hd _ _ gu, hpart d hu hd _ _ gv, heq, Result.andThen_ok, Sem.run_ite]
      cases p
      · simp
      · simp [ih]
    · cases h

theorem does_eqs {neg : Bool} {ts : List Nat} {op : BinOp} {t : TypeId} {x y : Operand} {x' y' : Opd} (hop : op = if neg then .neq else .eql) (ht : eqsIs P t ts = true) (hx : okO x' x = true) (hy : okO y' y = true) {r : A} {d : Dl}
    (h : stepK (.eqs neg ts x' y') e H (fun z b => z = r ∧ b = d)) :
    Does P c H.length (do pure (.value (← (do eqGuard op t x y (a.eval x) (a.eval y); binOp op t (a.eval x) (a.eval y))))) r d := by
  unfold eqsIs at ht
  split at ht
  · rename_i fs hu
    simp at ht
    obtain ⟨⟨hp, hst⟩, hg⟩ := ht
    have hu' : P.underlying t = some (.struct (P.fieldsOf t)) := by simp [Program.fieldsOf, hu]
    have hfs : P.fieldsOf t = fs := by simp [Program.fieldsOf, hu]
    simp only [stepK] at h
    split at h
    · rename_i xs ys hz hz'
      split at h
      · rename_i b hb
        obtain ⟨rfl, rfl⟩ := h
        have hv := evO he hx hz
        have hw := evO he hy hz'
        simp only [VR] at hv hw
        obtain ⟨vs, g1, g2⟩ := hv
        obtain ⟨us, g3, g4⟩ := hw
        have hq := run_eqF (P := P) 9998 c.w ts fs.toList xs ys vs us 0 hp (by simpa using g2) (by simpa using g4) b hb
        have hq' := run_equalIn_struct (P := P) c.w 9999 t vs us hu' hst
        rw [hfs, hq] at hq'
        refine Does.scalar hr ?_ rfl
        rw [g1, g3, Sem.run_bind, Sem.run_bind, run_eqGuard_agg c.w op t x y vs us hg]
        cases neg
        · simp only [Bool.false_eq_true, if_false] at hop; subst hop
          simp [binOp, Op.equal, Op.maxDepth, hq', valA]
        · simp only [if_true] at hop; subst hop
          simp [binOp, Op.equal, Op.maxDepth, hq', valA]
      · exact h.elim
    · exact h.elim
  · simp at ht
end
end Go.Sym
