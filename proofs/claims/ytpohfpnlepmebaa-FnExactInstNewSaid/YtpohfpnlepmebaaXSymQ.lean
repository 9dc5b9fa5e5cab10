/- The code of a Go function told by trees (IC), and what is asked behind it (fn_sound). Conditions: the check okFn. -/
import Derived.Test.YtpohfpnlepmebaaXSymP
set_option linter.unusedVariables false
set_option linter.unusedSimpArgs false
namespace Go.Sym
open Go.RowKit

inductive IC where
  | skip
  | reg (dr : Bool) (is : List IOper) (bf keep : List Nat)
  | seq (a b : IC)
  | cond (c : Opd) (a b : IC)
  | block (id : Nat) (c : IC)
  | loop (c : IC)
  | exit (id : Nat)
  | ret

inductive Ex where
  | normal
  | exit (id : Nat)
  | ret

def Ex.go : Ex → Exit
  | .normal => .normal
  | .exit id => .exit id
  | .ret => .ret

def keepE (e : Env) : List Nat → Env
  | [] => []
  | t :: ts => match get e t with
    | some x => (t, x) :: keepE e ts
    | none => keepE e ts

theorem keepE_get (e : Env) : ∀ (ts : List Nat) (t : Nat) (x : A), get (keepE e ts) t = some x → get e t = some x
  | [], t, x, h => by simp [keepE, get] at h
  | s :: ts, t, x, h => by
    simp only [keepE] at h
    split at h
    · rename_i y hy
      simp only [get] at h
      split at h
      · rename_i hst; cases h; rw [← hst]; exact hy
      · exact keepE_get e ts t x h
    · exact keepE_get e ts t x h

/-- One way to tell the same things for another one: below block B nothing turns. -/
def Le (B : Nat) (e : Env) (H : List Blk) (e' : Env) (H' : List Blk) : Prop :=
  ∀ c0 c : Cx, (∀ b, B ≤ b → c0.H b = none) → RelH c → c.H = (fun b => H[b]?) → Step c0 c → ∃ c' : Cx, c'.w = c.w ∧ c'.H = (fun b => H'[b]?) ∧ RelH c' ∧ Step c0 c' ∧ ∀ a, EnvRel c e a → EnvRel c' e' a

theorem Le.refl (B : Nat) (e : Env) (H : List Blk) : Le B e H e H := fun c0 c _ hr hH hs => ⟨c, rfl, hH, hr, hs, fun _ h => h⟩

def okC (P : Program) (N : Nat) : IC → Code → Bool
  | .skip, .skip => true
  | .reg dr is bf _, .region _ ops draw => okReg P ops is N && dr == draw && (!draw || bfOk ops is bf)
  | .seq a b, .seq a' b' => okC P N a a' && okC P N b b'
  | .cond c a b, .cond c' a' b' => okO c c' && okC P N a a' && okC P N b b'
  | .block id c, .block id' c' => id == id' && okC P N c c'
  | .loop c, .loop c' => okC P N c c'
  | .exit id, .exit id' => id == id'
  | .ret, .ret => true
  | _, _ => false

theorem Inv.le {c0 : Cx} {N B : Nat} {e e' : Env} {H H' : List Blk} {a : Act} {w : World} (hB : ∀ b, B ≤ b → c0.H b = none) (h : Inv c0 N e (fun b => H[b]?) a w) (hl : Le B e H e' H') : Inv c0 N e' (fun b => H'[b]?) a w := by
  obtain ⟨⟨c, rfl, hH, hr, he, hs⟩, hN, hD⟩ := h
  obtain ⟨c', h1, h2, h3, h4, h5⟩ := hl c0 c hB hr hH hs
  exact ⟨⟨c', h1, h2, h3, h5 a he, h4⟩, hN, hD⟩

structure IFn where
  n : Nat
  code : IC
  res : List (Nat × Option (Option Nat))

def okRes (P : Program) : List (Nat × Option (Option Nat)) → List ResultVar → Bool
  | [], [] => true
  | (t, none) :: rs, .tmp t' :: vs => t == t' && okRes P rs vs
  | (t, some ag) :: rs, .cell t' ty :: vs => t == t' && aggIs P ty ag && okRes P rs vs
  | _, _ => false

def okFn (P : Program) (f : FuncId) (F : IFn) : Bool :=
  match P.funcs[f]? with
  | some fn => match fn.body with
    | some c => okC P F.n F.code c && fn.ntmps == F.n && okRes P F.res fn.results.toList
    | none => false
  | none => false

def resK (e : Env) (H : List Blk) : List (Nat × Option (Option Nat)) → (List A → Prop) → Prop
  | [], K => K []
  | (t, none) :: rs, K => match get e t with
    | some x => resK e H rs fun xs => K (x :: xs)
    | none => False
  | (t, some ag) :: rs, K => stepK (.ld ag (.t t)) e H fun x _ => resK e H rs fun xs => K (x :: xs)

def oneA : List A → A
  | [x] => x
  | xs => .tup xs

/-- Another way to tell the same result. -/
def LeV (B : Nat) (r : A) (H : List Blk) (r' : A) (H' : List Blk) : Prop :=
  ∀ c0 c : Cx, (∀ b, B ≤ b → c0.H b = none) → RelH c → c.H = (fun b => H[b]?) → Step c0 c → ∃ c' : Cx, c'.w = c.w ∧ c'.H = (fun b => H'[b]?) ∧ RelH c' ∧ Step c0 c' ∧ ∀ v, VR c r v → VR c' r' v

theorem LeV.refl (B : Nat) (r : A) (H : List Blk) : LeV B r H r H := fun c0 c _ hr hH hs => ⟨c, rfl, hH, hr, hs, fun _ h => h⟩

def argEnv : Nat → List A → Env
  | _, [] => []
  | i, x :: xs => (i, x) :: argEnv (i + 1) xs

theorem argEnv_get : ∀ (xs : List A) (i t : Nat) (x : A), get (argEnv i xs) t = some x → i ≤ t ∧ xs[t - i]? = some x
  | [], i, t, x, h => by simp [argEnv, get] at h
  | y :: xs, i, t, x, h => by
    simp only [argEnv, get] at h
    split at h
    · rename_i e; subst e; cases h; exact ⟨Nat.le_refl _, by simp⟩
    · obtain ⟨h1, h2⟩ := argEnv_get xs (i + 1) t x h
      refine ⟨by omega, ?_⟩
      rw [show t - i = (t - (i + 1)) + 1 by omega]
      simpa using h2

def resV (a : Act) : ResultVar → Sem Value
  | .tmp t => pure (a.tmps.getD t undef)
  | .cell p t => do loadVar t (← asAddr (a.tmps.getD p undef))

theorem run_res {P : Program} {c : Cx} {e : Env} {a : Act} {H : List Blk} (hr : RelH c) (he : EnvRel c e a) (hH : c.H = fun b => H[b]?) : ∀ (rs : List (Nat × Option (Option Nat))) (vs : List ResultVar), okRes P rs vs = true → ∀ K, resK e H rs K →
    ∃ xs us, K xs ∧ VRs c xs us ∧ (vs.mapM (resV a)).run P c.w = .ok us c.w
  | [], vs, hok, K, h => by
    cases vs <;> simp [okRes] at hok
    exact ⟨[], [], h, rfl, by simp⟩
  | (t, none) :: rs, vs, hok, K, h => by
    cases vs with
    | nil => simp [okRes] at hok
    | cons v vs =>
      cases v <;> simp [okRes] at hok
      obtain ⟨rfl, hok⟩ := hok
      simp only [resK] at h
      split at h
      · rename_i x hx
        obtain ⟨xs, us, h1, h2, h3⟩ := run_res hr he hH rs vs hok _ h
        refine ⟨x :: xs, _ :: us, h1, ⟨_, _, rfl, he t x hx, h2⟩, ?_⟩
        simp only [List.mapM_cons, Sem.run_bind, h3, Sem.run_pure, Result.andThen_ok, resV]
      · exact h.elim
  | (t, some ag) :: rs, vs, hok, K, h => by
    cases vs with
    | nil => simp [okRes] at hok
    | cons v vs =>
      cases v <;> simp [okRes] at hok
      obtain ⟨⟨rfl, hag⟩, hok⟩ := hok
      rename_i ty
      simp only [resK] at h
      obtain ⟨x, d, hst, h⟩ := stepK_one h
      obtain ⟨xs, us, h1, h2, h3⟩ := run_res hr he hH rs vs hok _ h
      have hx : ∃ u, (resV a (.cell t ty)).run P c.w = .ok u c.w ∧ VR c x u := by
        simp only [stepK] at hst
        split at hst
        · rename_i b v off hy
          have hv := he t _ hy
          simp only [VR] at hv
          obtain ⟨k', p, g1, g2, g3, g4⟩ := hv
          split at hst
          · rename_i k hk
            rw [hH] at g1
            simp only [] at g1
            rw [hk] at g1
            injection g1 with g1
            subst g1
            obtain ⟨vs', i1, i2⟩ := rowVals hr (b := b) (k := k) (by rw [hH]; exact hk)
            have h' : ldK ag (k.cs.drop off) (fun z => z = x) := by
              cases ag with
              | none => obtain ⟨z, h1, h2, _⟩ := hst.2; exact ⟨z, h1, h2⟩
              | some n => exact ⟨hst.2.1, hst.2.2.1⟩
            have hrd : reads c.w (c.at b off) (vs'.drop off) := by simpa [Cx.at] using i1.drop off
            obtain ⟨u, j1, j2⟩ := run_ld (P := P) hag (ad := c.at b off) rfl hrd (i2.drop off) h'
            refine ⟨u, ?_, j2⟩
            simp only [resV, Sem.run_bind, g3, g4 hst.1.symm, asAddr, Sem.run_pure, Result.andThen_ok, j1]
          · exact hst.elim
        · rename_i cs hy
          have hv := he t _ hy
          simp only [VR] at hv
          obtain ⟨ad, vs', h1, h2, h3, h4, h5, h6⟩ := hv
          have h' : ldK ag cs (fun z => z = x) := by
            cases ag with
            | none => obtain ⟨z, h1, h2, _⟩ := hst; exact ⟨z, h1, h2⟩
            | some n => exact ⟨hst.1, hst.2.1⟩
          obtain ⟨u, j1, j2⟩ := run_ld (P := P) hag h2 h5 h6 h'
          refine ⟨u, ?_, j2⟩
          simp only [resV, Sem.run_bind, h1, asAddr, Sem.run_pure, Result.andThen_ok, j1]
        · exact hst.elim
      obtain ⟨u, q1, q2⟩ := hx
      refine ⟨x :: xs, u :: us, h1, ⟨_, _, rfl, q2, h2⟩, ?_⟩
      simp only [List.mapM_cons, Sem.run_bind, q1, Result.andThen_ok, h3, Sem.run_pure]

theorem fn_sound {P : Program} {f : FuncId} {F : IFn} (hok : okFn P f F = true) {xs : List A} {H : List Blk} {r : A} {H0' : List Blk} (hlen : xs.length ≤ F.n)
    (h : ∀ (code : Code), okC P F.n F.code code = true → ∀ c0 : Cx, Gd P c0 → (∀ b, H.length ≤ b → c0.H b = none) → ∀ (a : Act) (w : World), Inv c0 F.n (argEnv 0 xs) (fun b => H[b]?) a w →
      code.wp P (fun x' a' w' => ∃ x e' H', x' = Ex.go x ∧ Inv c0 F.n e' (fun b => H'[b]?) a' w' ∧ (x = .normal ∨ x = .ret) ∧ resK e' H' F.res fun rs => LeV H.length (oneA rs) H' r H0') a w) : SemT P f xs H r H0' := by
  intro c vs hgd hr hH hvs
  unfold okFn at hok
  cases hf : P.funcs[f]? with
  | none => simp [hf] at hok
  | some fn =>
    cases hb : fn.body with
    | none => simp [hf, hb] at hok
    | some code =>
      simp only [hf, hb, Bool.and_eq_true, beq_iff_eq] at hok
      obtain ⟨⟨g1, g2⟩, g3⟩ := hok
      refine calls_of_wp hf hb ?_
      have hvl : vs.size = xs.length := by have := hvs.length; simpa using this
      have hB : ∀ b, H.length ≤ b → c.H b = none := fun b hb => by rw [hH]; exact List.getElem?_eq_none hb
      have hI : Inv c F.n (argEnv 0 xs) (fun b => H[b]?) { tmps := vs ++ Array.replicate (fn.ntmps - vs.size) undef, defers := [] } c.w := by
        refine ⟨⟨c, rfl, hH, hr, ?_, Step.refl c⟩, by simp; omega, rfl⟩
        intro t x hx
        obtain ⟨_, h5⟩ := argEnv_get xs 0 t x hx
        simp only [Nat.sub_zero] at h5
        obtain ⟨u, h6, h7⟩ := hvs.get h5
        have hlt : t < vs.size := by
          rcases Nat.lt_or_ge t vs.size with h' | h'
          · exact h'
          · rw [List.getElem?_eq_none (by simpa using h')] at h6; cases h6
        have : (vs ++ Array.replicate (fn.ntmps - vs.size) undef).getD t undef = u := by
          rw [Array.getD_eq_getD_getElem?, Array.getElem?_append_left hlt]
          have h6' : vs[t]? = some u := by simpa using h6
          rw [h6']; rfl
        rw [this]
        exact h7
      refine wp_mono (h code g1 c hgd hB _ _ hI) ?_
      rintro xx a w ⟨x, e1, H1, rfl, ⟨⟨c1, rfl, hH1, hr1, he1, hs1⟩, hN, hD⟩, h2, h3⟩
      obtain ⟨ys, us, k1, k2, k3⟩ := run_res (P := P) hr1 he1 hH1 F.res fn.results.toList g3 _ h3
      obtain ⟨c', l1, l2, l3, l4, l5⟩ := k1 c c1 hB hr1 hH1 hs1
      have hres : ∃ v, (results fn a.tmps).run P c1.w = .ok v c1.w ∧ VR c1 (oneA ys) v := by
        have hul := k2.length
        have hR : results fn a.tmps = (do let vs ← fn.results.mapM (resV a); pure (if h : vs.size = 1 then vs[0] else .tuple vs)) := by
          unfold results
          refine congrArg (fun g => (fn.results.mapM g >>= fun vs => (pure (if h : vs.size = 1 then vs[0] else .tuple vs) : Sem Value))) (funext fun x => ?_)
          cases x <;> rfl
        rw [hR, Sem.run_bind, Array.mapM_eq_mapM_toList, Sem.run_map, k3]
        simp only [Result.andThen_ok, Sem.run_pure]
        match ys, us, k2, hul with
        | [], us, k2, hul =>
          simp only [VRs] at k2
          subst k2
          exact ⟨_, rfl, ⟨#[], rfl, rfl⟩⟩
        | [y], us, k2, hul =>
          simp only [VRs] at k2
          obtain ⟨v, vs', rfl, h1, rfl⟩ := k2
          exact ⟨v, rfl, h1⟩
        | y :: z :: ys, us, k2, hul =>
          refine ⟨.tuple us.toArray, ?_, ⟨us.toArray, rfl, by simpa using k2⟩⟩
          rw [dif_neg]
          simp only [List.size_toArray]
          rw [hul]
          simp
      obtain ⟨v, m1, m2⟩ := hres
      have hpost : bodyPost P fn (fun e w' => ∃ v c', e = .returned v ∧ c'.w = w' ∧ c'.H = (fun b => H0'[b]?) ∧ RelH c' ∧ VR c' r v ∧ Step c c') (Ex.go x) a c1.w := by
        rcases h2 with rfl | rfl
        · exact ⟨hD, v, m1, v, c', rfl, l1, l2, l3, l5 v m2, l4⟩
        · exact ⟨hD, v, m1, v, c', rfl, l1, l2, l3, l5 v m2, l4⟩
      exact hpost
end Go.Sym
