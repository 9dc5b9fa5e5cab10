/- What stands in rows of rows of cells, and what is told of what a function's code is gone through with. Conditions: those that each theorem names. -/
import Derived.Test.YtpohfpnlepmebaaXSymRF
set_option linter.unusedVariables false
set_option linter.unusedSimpArgs false
namespace Go.Sym
open Go.RowKit
@[simp] theorem ev_t (e : Env) (n : Nat) : ev e (.t n) = get e n := of_eq_true (eq_self _)
@[simp] theorem ev_c (e : Env) (x : A) : ev e (.c x) = some x := of_eq_true (eq_self _)
def gif (b : Bool) (x : A) (r : Option A) : Option A := if b then some x else r
theorem gif_t (x : A) (r : Option A) : gif true x r = some x := rfl
theorem gif_f (x : A) (r : Option A) : gif false x r = r := rfl
@[simp] theorem get_cons (s t : Nat) (x : A) (e : Env) : get ((s, x) :: e) t = if s = t then some x else get e t := of_eq_true (eq_self _)
@[simp] theorem get_nil (t : Nat) : get [] t = none := of_eq_true (eq_self _)
@[simp] theorem put_n (e : Env) (x : A) : put e none x = e := of_eq_true (eq_self _)
@[simp] theorem put_s (e : Env) (d : Nat) (x : A) : put e (some d) x = (d, x) :: e := of_eq_true (eq_self _)
@[simp] theorem app_no (H : List Blk) : Dl.app .no H = H := of_eq_true (eq_self _)
@[simp] theorem app_new (H : List Blk) (k : Blk) : Dl.app (.new k) H = H ++ [k] := of_eq_true (eq_self _)
@[simp] theorem app_set (H : List Blk) (b : Nat) (k : Blk) : Dl.app (.set b k) H = H.set b k := of_eq_true (eq_self _)
@[simp] theorem app_news (H ks : List Blk) : Dl.app (.news ks) H = H ++ ks := of_eq_true (eq_self _)
@[simp] theorem app_full (T : List Nat) (H H2 : List Blk) : Dl.app (.full T H2) H = H2 := of_eq_true (eq_self _)
def kp (x : Option A) (t : Nat) (r : Env) : Env := match x with | some x => (t, x) :: r | none => r
@[simp] theorem kp_s (x : A) (t : Nat) (r : Env) : kp (some x) t r = (t, x) :: r := of_eq_true (eq_self _)
@[simp] theorem kp_n (t : Nat) (r : Env) : kp none t r = r := of_eq_true (eq_self _)
@[simp] theorem keepE_nil (e : Env) : keepE e [] = [] := of_eq_true (eq_self _)
@[simp] theorem keepE_cons (e : Env) (t : Nat) (ts : List Nat) : keepE e (t :: ts) = kp (get e t) t (keepE e ts) := by simp only [keepE]; cases get e t <;> simp [kp]
@[simp] theorem cellsA_agg (cs : List A) : cellsA (.agg cs) = cs := of_eq_true (eq_self _)
@[simp] theorem cellsA_int (k : IntKind) (n : Int) : cellsA (.int k n) = [.int k n] := of_eq_true (eq_self _)
@[simp] theorem cellsA_bool (n : Bool) : cellsA (.bool n) = [.bool n] := of_eq_true (eq_self _)
@[simp] theorem cellsA_str (n : ByteArray) : cellsA (.str n) = [.str n] := of_eq_true (eq_self _)
@[simp] theorem cellsA_sl (n : Nat) (cs : List A) : cellsA (.sl n cs) = [.sl n cs] := of_eq_true (eq_self _)
@[simp] theorem cellsA_nil : cellsA .nil = [.nil] := of_eq_true (eq_self _)
@[simp] theorem cellsA_nilp : cellsA .nilp = [.nilp] := of_eq_true (eq_self _)
@[simp] theorem cellsA_nilf : cellsA .nilf = [.nilf] := of_eq_true (eq_self _)
@[simp] theorem cellsA_ref (b v o n : Nat) : cellsA (.ref b v o n) = [.ref b v o n] := of_eq_true (eq_self _)
@[simp] theorem cellsA_ptr (b v o : Nat) : cellsA (.ptr b v o) = [.ptr b v o] := of_eq_true (eq_self _)
@[simp] theorem cellsA_pt (cs : List A) : cellsA (.pt cs) = [.pt cs] := of_eq_true (eq_self _)
@[simp] theorem cellsA_fn (f : FuncId) (cs : List A) : cellsA (.fn f cs) = [.fn f cs] := of_eq_true (eq_self _)
@[simp] theorem splice_nil {α : Type} (cs : List α) (n : Nat) : splice cs n [] = cs := of_eq_true (eq_self _)
@[simp] theorem splice_cons {α : Type} (cs ys : List α) (n : Nat) (y : α) : splice cs n (y :: ys) = splice (cs.set n y) (n + 1) ys := of_eq_true (eq_self _)
@[simp] theorem fillA_nil (cs : List A) : fillA cs [] = some cs := of_eq_true (eq_self _)
@[simp] theorem fillA_cons (cs : List A) (o s : Nat) (x : A) (ps : List (Nat × Nat × A)) : fillA cs ((o, s, x) :: ps) = if (cellsA x).length = s ∧ o + s ≤ cs.length then fillA (splice cs o (cellsA x)) ps else none := of_eq_true (eq_self _)
def consO {α : Type} (x : Option α) (xs : Option (List α)) : Option (List α) := match x, xs with | some x, some xs => some (x :: xs) | _, _ => none
@[simp] theorem consO_s {α : Type} (x : α) (xs : List α) : consO (some x) (some xs) = some (x :: xs) := of_eq_true (eq_self _)
@[simp] theorem evs_nil (e : Env) : evs e [] = some [] := of_eq_true (eq_self _)
@[simp] theorem evs_cons (e : Env) (x : Opd) (xs : List Opd) : evs e (x :: xs) = consO (ev e x) (evs e xs) := by simp only [evs]; cases ev e x <;> cases evs e xs <;> simp [consO]
def consP (o s : Nat) (x : Option A) (xs : Option (List (Nat × Nat × A))) : Option (List (Nat × Nat × A)) := match x, xs with | some x, some xs => some ((o, s, x) :: xs) | _, _ => none
@[simp] theorem consP_s (o s : Nat) (x : A) (xs : List (Nat × Nat × A)) : consP o s (some x) (some xs) = some ((o, s, x) :: xs) := of_eq_true (eq_self _)
@[simp] theorem evPs_nil (e : Env) : evPs e [] = some [] := of_eq_true (eq_self _)
@[simp] theorem evPs_cons (e : Env) (o s : Nat) (x : Opd) (xs : List (Nat × Nat × Opd)) : evPs e ((o, s, x) :: xs) = consP o s (ev e x) (evPs e xs) := by simp only [evPs]; cases ev e x <;> cases evPs e xs <;> simp [consP]
def andO (x y : Option Bool) : Option Bool := match x, y with | some a, some b => some (a && b) | _, _ => none
@[simp] theorem andO_s (a b : Bool) : andO (some a) (some b) = some (a && b) := of_eq_true (eq_self _)
@[simp] theorem eqAs_nil : eqAs [] [] [] = some true := of_eq_true (eq_self _)
@[simp] theorem eqAs_cons (t : Nat) (x y : A) (ts : List Nat) (xs ys : List A) : eqAs (t :: ts) (x :: xs) (y :: ys) = andO (eqA t x y) (eqAs ts xs ys) := by simp only [eqAs]; cases eqA t x y <;> cases eqAs ts xs ys <;> simp [andO]
@[simp] theorem eqA_b (a b : Bool) : eqA 0 (.bool a) (.bool b) = some (decide (a = b)) := of_eq_true (eq_self _)
@[simp] theorem eqA_i (k : IntKind) (a b : Int) : eqA 1 (.int k a) (.int k b) = some (decide (a = b)) := by simp [eqA]
@[simp] theorem eqA_s (a b : ByteArray) : eqA 2 (.str a) (.str b) = some (decide (a = b)) := of_eq_true (eq_self _)
def intO (x : Option A) : Option Int := match x with | some (.int _ n) => some n | _ => none
@[simp] theorem intO_s (k : IntKind) (n : Int) : intO (some (.int k n)) = some n := of_eq_true (eq_self _)
@[simp] theorem bnd_n (e : Env) (d : Nat) : bnd e d none = some (d : Int) := of_eq_true (eq_self _)
@[simp] theorem bnd_s (e : Env) (d : Nat) (x : Opd) : bnd e d (some x) = intO (ev e x) := by simp only [bnd]; cases ev e x with
  | none => simp [intO]
  | some a => cases a <;> simp [intO]
@[simp] theorem argEnv_nil (i : Nat) : argEnv i [] = [] := of_eq_true (eq_self _)
@[simp] theorem argEnv_cons (i : Nat) (x : A) (xs : List A) : argEnv i (x :: xs) = (i, x) :: argEnv (i + 1) xs := of_eq_true (eq_self _)
@[simp] theorem oneA_1 (x : A) : oneA [x] = x := of_eq_true (eq_self _)
@[simp] theorem oneA_0 : oneA [] = .tup [] := of_eq_true (eq_self _)
@[simp] theorem oneA_2 (x y : A) (xs : List A) : oneA (x :: y :: xs) = .tup (x :: y :: xs) := of_eq_true (eq_self _)
theorem clD_e (S : FuncId → Bool) (op : IOp) (e : Env) (d : Dl) : clD S op e d = ⟨clsOf S op e, fpOf op e, twOf d⟩ := rfl
attribute [simp] clD fpOf fpP fpR fpM twOf
@[simp] theorem cls_mv (S : FuncId → Bool) (e : Env) : ∀ x, clsOf S (.mv x) e = 0 := by intros; exact of_eq_true (eq_self _)
@[simp] theorem cls_pick (S : FuncId → Bool) (e : Env) : ∀ x y z, clsOf S (.pick x y z) e = 0 := by intros; exact of_eq_true (eq_self _)
@[simp] theorem cls_build (S : FuncId → Bool) (e : Env) : ∀ z ps, clsOf S (.build z ps) e = 0 := by intros; exact of_eq_true (eq_self _)
@[simp] theorem cls_nck (S : FuncId → Bool) (e : Env) : ∀ x, clsOf S (.nck x) e = 0 := by intros; exact of_eq_true (eq_self _)
@[simp] theorem cls_bin (S : FuncId → Bool) (e : Env) : ∀ o x y, clsOf S (.bin o x y) e = 0 := by intros; exact of_eq_true (eq_self _)
@[simp] theorem cls_eqb (S : FuncId → Bool) (e : Env) : ∀ n x y, clsOf S (.eqb n x y) e = 0 := by intros; exact of_eq_true (eq_self _)
@[simp] theorem cls_eqs (S : FuncId → Bool) (e : Env) : ∀ n ts x y, clsOf S (.eqs n ts x y) e = 0 := by intros; exact of_eq_true (eq_self _)
@[simp] theorem cls_not (S : FuncId → Bool) (e : Env) : ∀ x, clsOf S (.not x) e = 0 := by intros; exact of_eq_true (eq_self _)
@[simp] theorem cls_neg (S : FuncId → Bool) (e : Env) : ∀ x, clsOf S (.neg x) e = 0 := by intros; exact of_eq_true (eq_self _)
@[simp] theorem cls_conv (S : FuncId → Bool) (e : Env) : ∀ k x, clsOf S (.conv k x) e = 0 := by intros; exact of_eq_true (eq_self _)
@[simp] theorem cls_sls (S : FuncId → Bool) (e : Env) : ∀ x y z, clsOf S (.sls x y z) e = 0 := by intros; exact of_eq_true (eq_self _)
@[simp] theorem cls_fad (S : FuncId → Bool) (e : Env) : ∀ n x, clsOf S (.fad n x) e = 0 := by intros; exact of_eq_true (eq_self _)
@[simp] theorem cls_fld (S : FuncId → Bool) (e : Env) : ∀ n ag x, clsOf S (.fld n ag x) e = 0 := by intros; exact of_eq_true (eq_self _)
@[simp] theorem cls_iada (S : FuncId → Bool) (e : Env) : ∀ n m x y, clsOf S (.iada n m x y) e = 0 := by intros; exact of_eq_true (eq_self _)
@[simp] theorem cls_idxs (S : FuncId → Bool) (e : Env) : ∀ x y, clsOf S (.idxs x y) e = 0 := by intros; exact of_eq_true (eq_self _)
@[simp] theorem cls_idxa (S : FuncId → Bool) (e : Env) : ∀ n m ag x y, clsOf S (.idxa n m ag x y) e = 0 := by intros; exact of_eq_true (eq_self _)
@[simp] theorem cls_len (S : FuncId → Bool) (e : Env) : ∀ st x, clsOf S (.len st x) e = 0 := by intros; exact of_eq_true (eq_self _)
@[simp] theorem cls_ext (S : FuncId → Bool) (e : Env) : ∀ x n, clsOf S (.ext x n) e = 0 := by intros; exact of_eq_true (eq_self _)
@[simp] theorem cls_mm (S : FuncId → Bool) (e : Env) : ∀ mx x xs, clsOf S (.mm mx x xs) e = 0 := by intros; exact of_eq_true (eq_self _)
@[simp] theorem cls_new (S : FuncId → Bool) (e : Env) : ∀ z, clsOf S (.new z) e = 1 := by intros; exact of_eq_true (eq_self _)
@[simp] theorem cls_box (S : FuncId → Bool) (e : Env) : ∀ x, clsOf S (.box x) e = 1 := by intros; exact of_eq_true (eq_self _)
@[simp] theorem cls_bsl (S : FuncId → Bool) (e : Env) : ∀ n m z ps, clsOf S (.bsl n m z ps) e = if m = 0 then 0 else 1 := by intros; exact of_eq_true (eq_self _)
@[simp] theorem cls_mk (S : FuncId → Bool) (e : Env) : ∀ n m z x y, clsOf S (.mk n m z x y) e = 1 := by intros; exact of_eq_true (eq_self _)
@[simp] theorem cls_st (S : FuncId → Bool) (e : Env) : ∀ n x y, clsOf S (.st n x y) e = 2 := by intros; exact of_eq_true (eq_self _)
def c_ld (x : Option A) : Nat := match x with | some (.pt _) => 0 | _ => 1
def c_sl (x : Option A) : Nat := match x with | some (.sl _ _) => 0 | _ => 1
def c_ref (x : Option A) : Nat := match x with | some (.ref _ _ _ _) => 1 | _ => 0
def c_app (x : Option A) : Nat := match x with | some (.ref _ _ _ _) => 2 | _ => 1
@[simp] theorem c_ld_p (cs : List A) : c_ld (some (.pt cs)) = 0 := of_eq_true (eq_self _)
@[simp] theorem c_ld_r (b v o : Nat) : c_ld (some (.ptr b v o)) = 1 := of_eq_true (eq_self _)
@[simp] theorem c_sl_s (n : Nat) (cs : List A) : c_sl (some (.sl n cs)) = 0 := of_eq_true (eq_self _)
@[simp] theorem c_sl_r (b v o n : Nat) : c_sl (some (.ref b v o n)) = 1 := of_eq_true (eq_self _)
@[simp] theorem c_ref_r (b v o n : Nat) : c_ref (some (.ref b v o n)) = 1 := of_eq_true (eq_self _)
@[simp] theorem c_ref_s (n : Nat) (cs : List A) : c_ref (some (.sl n cs)) = 0 := of_eq_true (eq_self _)
@[simp] theorem c_ref_n : c_ref (some .nil) = 0 := of_eq_true (eq_self _)
@[simp] theorem c_app_r (b v o n : Nat) : c_app (some (.ref b v o n)) = 2 := of_eq_true (eq_self _)
@[simp] theorem c_app_n : c_app (some .nil) = 1 := of_eq_true (eq_self _)
@[simp] theorem cls_ld (S : FuncId → Bool) (e : Env) (ag : Option Nat) (x : Opd) : clsOf S (.ld ag x) e = c_ld (ev e x) := by simp only [clsOf]; rcases ev e x with _ | a; rfl; cases a <;> simp [c_ld]
@[simp] theorem cls_iad (S : FuncId → Bool) (e : Env) (n : Nat) (x y : Opd) : clsOf S (.iad n x y) e = c_sl (ev e x) := by simp only [clsOf]; rcases ev e x with _ | a; rfl; cases a <;> simp [c_sl]
@[simp] theorem cls_slc (S : FuncId → Bool) (e : Env) (n : Nat) (x : Opd) (lo hi mx : Option Opd) : clsOf S (.slc n x lo hi mx) e = c_ref (ev e x) := by simp only [clsOf]; rcases ev e x with _ | a; rfl; cases a <;> simp [c_ref]
@[simp] theorem cls_app (S : FuncId → Bool) (e : Env) (n m : Nat) (x y : Opd) : clsOf S (.app n m x y) e = c_app (ev e x) := by simp only [clsOf]; rcases ev e x with _ | a; rfl; cases a <;> simp [c_app]
@[simp] theorem cls_isn (S : FuncId → Bool) (e : Env) : ∀ n x, clsOf S (.isn n x) e = 0 := by intros; exact of_eq_true (eq_self _)
@[simp] theorem cls_ise (S : FuncId → Bool) (e : Env) : ∀ n x, clsOf S (.ise n x) e = 0 := by intros; exact of_eq_true (eq_self _)
@[simp] theorem cls_frz (S : FuncId → Bool) (e : Env) : ∀ x, clsOf S (.frz x) e = 2 := by intros; exact of_eq_true (eq_self _)
@[simp] theorem cls_s2b (S : FuncId → Bool) (e : Env) : ∀ x, clsOf S (.s2b x) e = 0 := by intros; exact of_eq_true (eq_self _)
@[simp] theorem cls_b2s (S : FuncId → Bool) (e : Env) (x : Opd) : clsOf S (.b2s x) e = c_ref (ev e x) := by simp only [clsOf]; rcases ev e x with _ | a; rfl; cases a <;> simp [c_ref]
@[simp] theorem cls_mkm (S : FuncId → Bool) (e : Env) : ∀ st, clsOf S (.mkm st) e = 1 := by intros; exact of_eq_true (eq_self _)
@[simp] theorem cls_mlk (S : FuncId → Bool) (e : Env) : ∀ st m k, clsOf S (.mlk st m k) e = 1 := by intros; exact of_eq_true (eq_self _)
@[simp] theorem cls_men (S : FuncId → Bool) (e : Env) : ∀ st m k, clsOf S (.men st m k) e = 1 := by intros; exact of_eq_true (eq_self _)
@[simp] theorem cls_mst (S : FuncId → Bool) (e : Env) : ∀ st m s x, clsOf S (.mst st m s x) e = 2 := by intros; exact of_eq_true (eq_self _)
@[simp] theorem cls_mup (S : FuncId → Bool) (e : Env) : ∀ st m s x, clsOf S (.mup st m s x) e = 2 := by intros; exact of_eq_true (eq_self _)
@[simp] theorem cls_mkf (S : FuncId → Bool) (e : Env) : ∀ f xs, clsOf S (.mkf f xs) e = 0 := by intros; exact of_eq_true (eq_self _)
def c_cv (S : FuncId → Bool) (x : Option A) : Nat := match x with | some (.fn f _) => if S f then 2 else 1 | _ => 2
@[simp] theorem c_cv_f (S : FuncId → Bool) (f : FuncId) (cs : List A) : c_cv S (some (.fn f cs)) = if S f then 2 else 1 := of_eq_true (eq_self _)
@[simp] theorem cls_cv (S : FuncId → Bool) (e : Env) (g : Opd) (xs : List Opd) : clsOf S (.cv g xs) e = c_cv S (ev e g) := by simp only [clsOf]; rcases ev e g with _ | a; rfl; cases a <;> simp [c_cv]
@[simp] theorem keyOf_i (n : Int) : keyOf false (.int .i64 n) = some [n] := of_eq_true (eq_self _)
@[simp] theorem keyOf_s (a b c : Int) : keyOf true (.agg [.int .i64 a, .int .i64 b, .int .i64 c]) = some [a, b, c] := of_eq_true (eq_self _)
@[simp] theorem mpOf_s (st : Bool) (l : List (List Int × Int)) : mpOf st (some (st, l)) = some l := by simp [mpOf]
@[simp] theorem cellsA_stamp (b v : Nat) (st : Bool) (ks : List Int) : cellsA (.stamp b v st ks) = [.stamp b v st ks] := of_eq_true (eq_self _)
@[simp] theorem klen_t : klen true = 3 := rfl
@[simp] theorem klen_f : klen false = 1 := rfl
@[simp] theorem mcnt_nil (ks : List Int) : mcnt [] ks = 0 := rfl
@[simp] theorem cellsA_err (b : Bool) : cellsA (.err b) = [.err b] := of_eq_true (eq_self _)
@[simp] theorem cellsA_ub : cellsA .ub = [.ub] := of_eq_true (eq_self _)
@[simp] theorem cellsA_mref (b v : Nat) : cellsA (.mref b v) = [.mref b v] := of_eq_true (eq_self _)
@[simp] theorem cls_call (S : FuncId → Bool) (e : Env) (f : FuncId) (xs : List Opd) : clsOf S (.call f xs) e = if S f then 2 else 1 := of_eq_true (eq_self _)
attribute [simp] A.one undefA mmK

abbrev i6 (n : Int) : A := .int .i64 n

/-- One cell that holds no row. -/
def scal : A → Bool
  | .bool _ => true
  | .int _ _ => true
  | .str _ => true
  | _ => false
def scals : List A → Bool
  | [] => true
  | x :: xs => scal x && scals xs
theorem scals_app (xs ys : List A) : scals (xs ++ ys) = (scals xs && scals ys) := by
  induction xs with
  | nil => rfl
  | cons x xs ih => simp [scals, ih, Bool.and_assoc]
theorem scals_flat {α : Type} (f : α → List A) (h : ∀ x, scals (f x) = true) (xs : List α) : scals (xs.flatMap f) = true := by
  induction xs with
  | nil => rfl
  | cons x xs ih => simp [scals_app, h, ih]
theorem scals_map {α : Type} (f : α → A) (h : ∀ x, scal (f x) = true) (xs : List α) : scals (xs.map f) = true := by
  induction xs with
  | nil => rfl
  | cons x xs ih => simp [scals, h, ih]
theorem scals_drop : ∀ (xs : List A) (n : Nat), scals xs = true → scals (xs.drop n) = true
  | xs, 0, h => h
  | [], n + 1, h => h
  | x :: xs, n + 1, h => scals_drop xs n (by simp [scals] at h; exact h.2)
theorem scals_take : ∀ (xs : List A) (n : Nat), scals xs = true → scals (xs.take n) = true
  | xs, 0, h => rfl
  | [], n + 1, h => h
  | x :: xs, n + 1, h => by simp [scals] at h ⊢; exact ⟨h.1, scals_take xs n h.2⟩

theorem viewL_scals {n : Nat} {H : List Blk} : ∀ (xs : List A), scals xs = true → viewL (viewA (n + 1) H) xs = some xs
  | [], _ => rfl
  | x :: xs, h => by
    simp [scals] at h
    have := viewL_scals (n := n) (H := H) xs h.2
    cases x <;> simp [scal] at h <;> simp [viewL, viewA, this]
theorem noOwns_scals : ∀ (xs : List A), scals xs = true → noOwns xs = true
  | [], _ => rfl
  | x :: xs, h => by
    simp [scals] at h
    have := noOwns_scals xs h.2
    cases x <;> simp [scal] at h <;> simp [noOwns, noOwn, this]
theorem nosls_scals : ∀ (xs : List A), scals xs = true → nosls xs = true
  | [], _ => rfl
  | x :: xs, h => by
    simp [scals] at h
    have := nosls_scals xs h.2
    cases x <;> simp [scal] at h <;> simp [nosls, nosl, this]
theorem shiftAs_scals {n : Nat} : ∀ (xs : List A), scals xs = true → shiftAs n xs = xs
  | [], _ => rfl
  | x :: xs, h => by
    simp [scals] at h
    have := shiftAs_scals (n := n) xs h.2
    cases x <;> simp [scal] at h <;> simp [shiftAs, shiftA, this]
theorem one_scals : ∀ (xs : List A), scals xs = true → xs.all A.one = true
  | [], _ => rfl
  | x :: xs, h => by
    simp [scals] at h
    have := one_scals xs h.2
    cases x <;> simp [scal] at h <;> simpa using this

theorem flat_len {α : Type} {f : α → List A} {k : Nat} (hk : ∀ x, (f x).length = k) (xs : List α) : (xs.flatMap f).length = xs.length * k := by
  induction xs with
  | nil => simp
  | cons x xs ih => simp [ih, hk, Nat.add_mul, Nat.add_comm]
theorem flat_drop {α : Type} {f : α → List A} {k : Nat} (hk : ∀ x, (f x).length = k) : ∀ (xs : List α) (j : Nat), (xs.flatMap f).drop (j * k) = (xs.drop j).flatMap f
  | xs, 0 => by simp
  | [], j + 1 => by simp
  | x :: xs, j + 1 => by
    have : (f x ++ xs.flatMap f).drop ((j + 1) * k) = (xs.flatMap f).drop (j * k) := by
      rw [Nat.add_mul, Nat.one_mul, Nat.add_comm, ← hk x, List.drop_append, hk x]
      simp [hk x]
    simp only [List.flatMap_cons, List.drop_succ_cons]
    rw [this, flat_drop hk xs j]
theorem flat_take {α : Type} {f : α → List A} {k : Nat} (hk : ∀ x, (f x).length = k) : ∀ (xs : List α) (j : Nat), (xs.flatMap f).take (j * k) = (xs.take j).flatMap f
  | xs, 0 => by simp
  | [], j + 1 => by simp
  | x :: xs, j + 1 => by
    have : (f x ++ xs.flatMap f).take ((j + 1) * k) = f x ++ (xs.flatMap f).take (j * k) := by
      rw [Nat.add_mul, Nat.one_mul, Nat.add_comm, List.take_append]
      simp [hk x]
      rw [List.take_of_length_le (by rw [hk x]; exact Nat.le_add_right k _)]
    simp only [List.flatMap_cons, List.take_succ_cons]
    rw [this, flat_take hk xs j]
theorem flat_at {α : Type} {f : α → List A} {k : Nat} (hk : ∀ x, (f x).length = k) {xs : List α} {j : Nat} {x : α} (h : xs[j]? = some x) : ∃ r, (xs.flatMap f).drop (j * k) = f x ++ r := by
  rw [flat_drop hk]
  obtain ⟨hj, rfl⟩ := List.getElem?_eq_some_iff.mp h
  rw [List.drop_eq_getElem_cons hj, List.flatMap_cons]
  exact ⟨_, rfl⟩

theorem wrap64 {n : Int} (h1 : -9223372036854775808 ≤ n) (h2 : n < 9223372036854775808) : IntKind.i64.wrap n = n := by
  simp only [IntKind.wrap, IntKind.bits, IntKind.signed]
  by_cases h : 0 ≤ n
  · have : n % 2 ^ 64 = n := Int.emod_eq_of_lt h (by omega)
    simp [this]; omega
  · have : n % 2 ^ 64 = n + 2 ^ 64 := by omega
    simp [this]; omega

theorem LeV.eq {B : Nat} {r r' : A} {H H' : List Blk} (h : r = r') (g : H = H') : LeV B r H r' H' := by subst h g; exact LeV.refl _ _ _
theorem LeV.ro {B : Nat} {r r' : A} {H H' : List Blk} (hB : B = 0) (hH : H' = []) (h : viewA 8 H r = some r') : LeV B r H r' H' := by subst hB hH; exact LeV.freeze h

theorem WCall_pure {P : Program} {S : FuncId → Bool} {f : FuncId} {H : List Blk} {K : A → Dl → Prop} {as ys : List A} {r : A} (hS : S f = false) (h : SemT P f ys [] r []) (hv : viewL (viewA 8 H) as = some ys)
    (ho : noOwns as = true ∨ nosl r = true) (hs : shiftA H.length r = r) (hK : K r (.news [])) : @WCall' P S f as H ⟨K⟩ :=
  WCall_ro' hS hv h rfl (ho.imp id fun h => ⟨h, rfl⟩) (by rw [hs]; exact hK)

/-- A loop, by what it holds at its head. -/
theorem WLoop_fam {P : Program} {S : FuncId → Bool} {B : Nat} {c : IC} {Q : Ex → Env → List Blk → Prop} {ι : Type} (E : ι → Env) (Hf : ι → List Blk) (μ : ι → Nat) (Inv : ι → Prop)
    (hstep : ∀ s, Inv s → (∀ s', Inv s' → μ s' < μ s → @WLoop' P S B c ⟨Q⟩ (E s') (Hf s')) → @WC' P S B c ⟨@ex_andThen' ⟨@WLoop' P S B c ⟨Q⟩⟩ ⟨Q⟩⟩ (E s) (Hf s)) (s0 : ι) (h0 : Inv s0) : @WLoop' P S B c ⟨Q⟩ (E s0) (Hf s0) := by
  have : ∀ n s, μ s < n → Inv s → @WLoop' P S B c ⟨Q⟩ (E s) (Hf s) := by
    intro n
    induction n with
    | zero => intro s h; omega
    | succ n ih =>
      intro s h hi
      exact WLoop_step' (hstep s hi fun s' hi' hl => ih s' (by omega) hi')
  exact this _ s0 (Nat.lt_succ_self _) h0

@[simp] theorem ownBlks_nil : ownBlks [] = true := rfl
attribute [simp] viewL viewA noOwns noOwn nosls nosl shiftA shiftAs

def Cl.ren (f : Nat → Nat) (c : Cl) : Cl := ⟨c.n, c.fp.map f, c.tw.map f⟩
@[simp] theorem Cl.ren_mk (f : Nat → Nat) (n : Nat) (fp : Option Nat) (tw : List Nat) : Cl.ren f ⟨n, fp, tw⟩ = ⟨n, fp.map f, tw.map f⟩ := rfl
theorem cn_ren (f : Nat → Nat) (cs : List Cl) (i : Nat) : cn (cs.map (Cl.ren f)) i = Cl.ren f (cn cs i) := by
  simp only [cn, List.getD_eq_getElem?_getD, List.getElem?_map]
  cases cs[i]? <;> rfl
theorem safe_ren (f : Nat → Nat) (a b : Cl) (h : safeC (Cl.ren f a) (Cl.ren f b) = true) : safeC a b = true := by
  unfold safeC at h ⊢
  cases ha : a.fp with
  | none => rw [Cl.ren, ha] at h; simp at h
  | some q =>
    rw [Cl.ren, ha] at h
    simp [Cl.ren] at h ⊢
    exact ⟨h.1, fun hq => h.2 q hq rfl⟩
/-- Rows' numbers may be told by others: what is apart then is apart. -/
theorem regOk_ren (f : Nat → Nat) {bf : List Nat} {cs : List Cl} (h : regOk bf (cs.map (Cl.ren f)) = true) : regOk bf cs = true := by
  unfold regOk at h ⊢
  rw [List.length_map] at h
  rw [List.all_eq_true] at h ⊢
  intro j hj
  have := h j hj
  rw [List.all_eq_true] at this ⊢
  intro i hi
  have := this i hi
  simp only [cn_ren, Bool.or_eq_true] at this ⊢
  rcases this with h | h | h | h
  · exact .inl h
  · exact .inr (.inl h)
  · exact .inr (.inr (.inl (safe_ren f _ _ h)))
  · exact .inr (.inr (.inr (safe_ren f _ _ h)))

/-- A call that is walked by hand: it makes new rows alone. -/
theorem semT_below {P : Program} {f : FuncId} {xs : List A} {r : A} (h : ∀ (c : Cx) (vs : Array Value), Gd P c → RelH c → VRs c xs vs.toList → ∃ v, (∀ c' : Cx, VR c' r v) ∧ Calls P f vs c.w fun e w' => e = .returned v ∧ Below c.w.heap.size c.w w') : SemT P f xs [] r [] := by
  intro c vs hgd hr hH hvs
  obtain ⟨v, hv, hc⟩ := h c vs hgd hr hvs
  refine hc.mono ?_
  rintro e w' ⟨rfl, hb⟩
  have hn : ∀ b k, c.H b = some k → False := fun b k h => by rw [hH] at h; simp at h
  refine ⟨v, ⟨c.H, c.io, w', c.X⟩, rfl, rfl, hH, ⟨fun b k h => (hn b k h).elim, fun b k h => (hn b k h).elim, fun b k h => (hn b k h).elim, fun b k h => (hn b k h).elim, fun b k st l h => (hn b k h).elim, fun b b' k k' h => (hn b k h).elim, fun b k h => (hn b k h).elim, fun k h => Nat.lt_of_lt_of_le (hr.xlt k h) hb.size⟩, hv _, ?_⟩
  refine ⟨hb.os, hb.tape, hb.output, hb.size, fun k hk _ => hb.block k hk, fun k hk => .inl hk, fun b k h => (hn b k h).elim, rfl, fun ad hh => ?_, MPers.of_blk fun k hk => hb.block k hk⟩
  obtain ⟨u, hu⟩ := Option.isSome_iff_exists.1 hh
  show (w'.cell? ad).isSome = true
  rw [hb.cell (World.block_lt_of_cell? _ _ hu), hu]
  rfl

end Go.Sym
