/- What a law's own functions answer on acts. Conditions: those that each theorem names. -/
import Derived.Test.YtmlfacjgfjmdeaaDoorXX12L2
import Derived.Shelf.Strings.Builder1
import Derived.Shelf.Strings.BuilderF
import Derived.Shelf.Strings.BuilderK
import Derived.WalkKit
import Derived.BigCall
import Derived.StillTailTactics
import Derived.Shelf.Strings.Search2
import Derived.Lib.IndexLaws
import Derived.Test.YtmlfacjgfjmdeaaDoorXC1X2
set_option linter.unusedVariables false
set_option linter.unusedSimpArgs false
set_option maxRecDepth 4000
namespace Go.Proofs.YtmlfacjgfjmdeaaDoor.C
open Go.Sym Go.Proofs.YtmlfacjgfjmdeaaDoor.I
theorem Ac_eq {x y : Ac} : x = y ↔ x.k = y.k ∧ x.t = y.t := by cases x; cases y; simp
def encA (a : Ac) : List A := [i6 a.k, .str a.t]
def encAs (xs : List Ac) : List A := xs.flatMap encA
theorem encA_len (p : Ac) : (encA p).length = 2 := rfl
@[simp] theorem encAs_len (xs : List Ac) : (encAs xs).length = xs.length * 2 := flat_len encA_len xs
@[simp] theorem encAs_scals (xs : List Ac) : scals (encAs xs) = true := scals_flat encA (fun _ => rfl) xs
@[simp] theorem encAs_nil : encAs [] = [] := rfl
theorem encAs_snoc (xs : List Ac) (p : Ac) : encAs (xs ++ [p]) = encAs xs ++ encA p := by simp [encAs]
theorem encAs_at {ns : List Ac} {j : Nat} (h : j < ns.length) : ∃ r, (encAs ns).drop (j * 2) = i6 ns[j].k :: .str ns[j].t :: r := flat_at encA_len (List.getElem?_eq_getElem h)
@[simp] theorem encAs_view (n : Nat) (H : List Blk) (xs : List Ac) : viewL (viewA (n + 1) H) (encAs xs) = some (encAs xs) := viewL_scals _ (encAs_scals xs)
@[simp] theorem encAs_noOwns (xs : List Ac) : noOwns (encAs xs) = true := noOwns_scals _ (encAs_scals xs)
@[simp] theorem encAs_nosls (xs : List Ac) : nosls (encAs xs) = true := nosls_scals _ (encAs_scals xs)
@[simp] theorem encAs_shift (n : Nat) (xs : List Ac) : shiftAs n (encAs xs) = encAs xs := shiftAs_scals _ (encAs_scals xs)
@[simp] theorem encAs_inAs (m : Nat) (xs : List Ac) : inAs m (encAs xs) = true := inAs_scals _ (encAs_scals xs)
@[simp] theorem encAs_tells (H H' : List Blk) (g : List (Option Nat)) (xs : List Ac) : Tells H H' g (encAs xs) (encAs xs) := Tells_scals _ (encAs_scals xs)
@[simp] theorem encAs_one (xs : List Ac) : (encAs xs).all A.one = true := one_scals _ (encAs_scals xs)
@[simp] theorem encAs_take (xs : List Ac) : (encAs xs).take (xs.length * 2) = encAs xs := List.take_of_length_le (by simp)
theorem encAs_gets {ns : List Ac} {j : Nat} (h : j < ns.length) : (encAs ns)[j * 2]? = some (i6 ns[j].k) ∧ (encAs ns)[j * 2 + 1]? = some (.str ns[j].t) := by
  obtain ⟨r, hr⟩ := encAs_at h
  have e : ∀ i, (encAs ns)[j * 2 + i]? = (i6 ns[j].k :: .str ns[j].t :: r)[i]? := fun i => by rw [← hr, List.getElem?_drop]
  exact ⟨e 0, e 1⟩
theorem encAs_k {ns : List Ac} {j : Nat} (h : j < ns.length) {h' : j * 2 < (encAs ns).length} : (encAs ns)[j * 2] = i6 ns[j].k := by
  have := (encAs_gets h).1
  rw [List.getElem?_eq_getElem h'] at this
  simpa using this
theorem encAs_t {ns : List Ac} {j : Nat} (h : j < ns.length) {h' : j * 2 + 1 < (encAs ns).length} : (encAs ns)[j * 2 + 1] = .str ns[j].t := by
  have := (encAs_gets h).2
  rw [List.getElem?_eq_getElem h'] at this
  simpa using this
abbrev aAs (xs : List Ac) : A := .sl xs.length (encAs xs)
abbrev acref (b : Nat) (ss : List Ac) : A := .ref b ss.length 0 ss.length
/-- A row of acts that grew. -/
abbrev acblk (ss : List Ac) : Blk := ⟨ss.length, decide (ss.length = 0), 2, encAs ss, none⟩
/-- A row of acts that a law made. -/
abbrev uacblk (ss : List Ac) : Blk := ⟨ss.length, false, 2, encAs ss, none⟩
abbrev shAc : Sh := .st (.p shI (.p .tx .u))
theorem fit_ac {cs : List A} (h : Fit shAc cs) : ∃ a : Ac, cs = encA a ∧ a.t.size ≤ maxLen := by
  obtain ⟨x, y, rfl, hx, z, t, rfl, hz, rfl⟩ := h
  obtain ⟨a, rfl, ha⟩ := fit_i hx
  obtain ⟨s, rfl, hs⟩ := hz
  exact ⟨⟨a, s⟩, rfl, hs⟩
theorem arg_ac {x : A} (h : FitA shAc x) : ∃ a : Ac, x = aAc a ∧ a.t.size ≤ maxLen := by
  obtain ⟨cs, rfl, h⟩ := h
  obtain ⟨a, rfl, g⟩ := fit_ac h
  exact ⟨a, rfl, g⟩
theorem arg_acs {x : A} (h : FitA (.sl shAc) x) : ∃ ss : List Ac, x = aAs ss ∧ (ss.length < 9223372036854775808 ∧ ∀ a ∈ ss, a.t.size ≤ maxLen) := by
  obtain ⟨xs, e, h1, h2⟩ := fit_sl (f := encA) (fun r hr => fit_ac hr) (show Fit (.sl shAc) [x] from h)
  refine ⟨xs, ?_, h1, h2⟩
  simp only [List.cons.injEq, and_true] at e
  exact e
theorem laws_toAct_c (a : Ac)  : T 17 [aAc a] [] (aAc a) ([]) := by
  refine semT' (S := S0) hm laws_toAct_ok (Nat.le_of_ble_eq_true rfl) ?_
  unfold laws_toAct; dsimp only
  simp
  exact LeV.ro rfl rfl (by simp)
theorem laws_toAct_call {a : Ac}  {S : FuncId → Bool} {H : List Blk} {K : A → Dl → Prop} (hS : S 17 = false) (hK : K (aAc a) (.news [])) : @WCall' Go.Proofs.Tryd.prog S 17 [aAc a] H ⟨K⟩ :=
  WCall_pure hS (laws_toAct_c a) (by simp) (by simp) (by simp) hK
theorem laws_toAct_k {a : Ac}  {S : FuncId → Bool} {H : List Blk} {K : A → Dl → Prop} {zs : List A} (hS : S 17 = false) (hv : viewL (viewA 8 H) zs = some [aAc a]) (ho : noOwns zs = true ∨ nosl (aAc a) = true) (hK : K (aAc a) (.news [])) : @WCall' Go.Proofs.Tryd.prog S 17 zs H ⟨K⟩ :=
  WCall_pure hS (laws_toAct_c a) hv ho (by simp) hK
theorem laws_szAct_c (a : Ac) (x : Int) (hl : a.t.size ≤ maxLen) (h0 : 0 ≤ x) (h1 : x < 9223372036854775808) : T 15 [aAc a, i6 x] [] (i6 (szF x a.t.size)) ([]) := by
  refine semT' (S := S0) hm laws_szAct_ok (Nat.le_of_ble_eq_true rfl) ?_
  unfold laws_szAct; dsimp only
  have hm' : maxLen = 9223372036854775807 := rfl
  have hw : IntKind.i64.wrap (x - a.t.size) = x - a.t.size := wrap64 (by omega) (by omega)
  simp [hw]
  refine br_intro' (fun u => ?_) (fun u => ?_) <;> (have u0 := u) <;> simp only [decide_eq_true_eq, decide_eq_false_iff_not] at u <;> simp [u0]
  · exact LeV.ro rfl rfl (by simp [szF, u])
  · exact LeV.ro rfl rfl (by simp [szF]; omega)
theorem laws_szAct_call {a : Ac} {x : Int} (hl : a.t.size ≤ maxLen) (h0 : 0 ≤ x) (h1 : x < 9223372036854775808) {S : FuncId → Bool} {H : List Blk} {K : A → Dl → Prop} (hS : S 15 = false) (hK : K (i6 (szF x a.t.size)) (.news [])) : @WCall' Go.Proofs.Tryd.prog S 15 [aAc a, i6 x] H ⟨K⟩ :=
  WCall_pure hS (laws_szAct_c a x hl h0 h1) (by simp) (by simp) (by simp) hK
theorem laws_szAct_k {a : Ac} {x : Int} (hl : a.t.size ≤ maxLen) (h0 : 0 ≤ x) (h1 : x < 9223372036854775808) {S : FuncId → Bool} {H : List Blk} {K : A → Dl → Prop} {zs : List A} (hS : S 15 = false) (hv : viewL (viewA 8 H) zs = some [aAc a, i6 x]) (ho : noOwns zs = true ∨ nosl (i6 (szF x a.t.size)) = true) (hK : K (i6 (szF x a.t.size)) (.news [])) : @WCall' Go.Proofs.Tryd.prog S 15 zs H ⟨K⟩ :=
  WCall_pure hS (laws_szAct_c a x hl h0 h1) hv ho (by simp) hK
/-- What is left behind some acts. -/
def szGo : Int → List Ac → Int
  | x, [] => x
  | x, a :: az => if x - a.t.size < 0 then -1 else szGo (x - a.t.size) az
def szAs (x : Int) (xs : List Ac) : Int := if x - xs.length < 0 then -1 else szGo (x - xs.length) xs
/-- The sizes of some acts together. -/
def totA : List Ac → Nat
  | [] => 0
  | a :: az => a.t.size + totA az
theorem szGo_tot : ∀ (xs : List Ac) (x : Int), 0 ≤ x → 0 ≤ szGo x xs → (totA xs : Int) ≤ x
  | [], x, h, _ => by simpa [totA] using h
  | a :: az, x, h, g => by
    unfold szGo at g
    split at g
    · omega
    · have := szGo_tot az _ (by omega) g
      simp only [totA]
      omega
theorem totA_mem : ∀ {xs : List Ac} {a : Ac}, a ∈ xs → a.t.size ≤ totA xs
  | x :: xs, a, h => by
    simp only [List.mem_cons] at h
    simp only [totA]
    rcases h with rfl | h
    · omega
    · have := totA_mem h; omega
theorem szAs_pos {x : Int} {xs : List Ac} (h : ¬ szAs x xs < 0) : (xs.length : Int) ≤ x ∧ (totA xs : Int) + xs.length ≤ x := by
  unfold szAs at h
  split at h
  · exact absurd (by decide) h
  · have := szGo_tot xs (x - xs.length) (by omega) (by omega)
    omega
theorem laws_szActS_c (xs : List Ac) (x : Int) (hl : xs.length < 9223372036854775808 ∧ ∀ a ∈ xs, a.t.size ≤ maxLen) (h0 : 0 ≤ x) (h1 : x < 9223372036854775808) : T 19 [aAs xs, i6 x] [] (i6 (szAs x xs)) ([]) := by
  refine semT' (S := S0) hm laws_szActS_ok (Nat.le_of_ble_eq_true rfl) ?_
  unfold laws_szActS; dsimp only
  obtain ⟨hl, hs⟩ := hl
  have hw : IntKind.i64.wrap (x - xs.length) = x - xs.length := wrap64 (by omega) (by omega)
  simp [hw]
  refine br_intro' (fun u => ?_) (fun u => ?_) <;> (have u0 := u) <;> simp only [decide_eq_true_eq, decide_eq_false_iff_not] at u <;> simp [u0]
  · exact LeV.ro rfl rfl (by simp [szAs, u])
  refine WLoop_fam (fun p : Nat × Int => [(0, aAs xs), (1, i6 p.2), (5, i6 p.1)]) (fun _ => []) (fun p => xs.length - p.1)
    (fun p => p.1 ≤ xs.length ∧ 0 ≤ p.2 ∧ p.2 < 9223372036854775808 ∧ szAs x xs = szGo p.2 (xs.drop p.1)) ?_ (0, x - xs.length) ⟨Nat.zero_le _, by simp only; omega, by simp only; omega, by simp only [szAs, if_neg u]; rfl⟩
  rintro ⟨j, y⟩ ⟨hj, hy0, hy1, hf⟩ ih
  simp only at hj hy0 hy1 hf
  simp
  refine br_intro' (fun v => ?_) (fun v => ?_) <;> (have v0 := v) <;> simp only [decide_eq_true_eq, decide_eq_false_iff_not] at v <;> simp [v0]
  · have h' : j < xs.length := by omega
    obtain ⟨r, hr⟩ := encAs_at h'
    have h3 : 2 ≤ xs.length * 2 - j * 2 := by omega
    have hd : xs.drop j = xs[j] :: xs.drop (j + 1) := List.drop_eq_getElem_cons h'
    simp [h3, hr, h']
    refine laws_szAct_call (a := xs[j]) (x := y) (hs _ (List.getElem_mem h')) hy0 hy1 rfl ?_; simp
    refine br_intro' (fun g => ?_) (fun g => ?_) <;> simp only [decide_eq_true_eq, decide_eq_false_iff_not, szF_neg] at g <;> simp [szF_neg, g]
    · exact LeV.ro rfl rfl (by rw [hf, hd]; simp only [szGo]; rw [if_pos (by omega)]; rfl)
    · rw [szF_pos g, wrap_succ (n := j) (by omega)]
      exact ih (j + 1, y - xs[j].t.size) ⟨by simp only; omega, by simp only; omega, by simp only; omega, by rw [hf, hd]; simp only [szGo]; rw [if_neg (by omega)]⟩ (by simp only; omega)
  · exact LeV.ro rfl rfl (by rw [hf, List.drop_eq_nil_of_le (by omega)]; rfl)
theorem laws_szActS_call {xs : List Ac} {x : Int} (hl : xs.length < 9223372036854775808 ∧ ∀ a ∈ xs, a.t.size ≤ maxLen) (h0 : 0 ≤ x) (h1 : x < 9223372036854775808) {S : FuncId → Bool} {H : List Blk} {K : A → Dl → Prop} (hS : S 19 = false) (hK : K (i6 (szAs x xs)) (.news [])) : @WCall' Go.Proofs.Tryd.prog S 19 [aAs xs, i6 x] H ⟨K⟩ :=
  WCall_pure hS (laws_szActS_c xs x hl h0 h1) (by simp) (by simp) (by simp) hK
theorem laws_szActS_k {xs : List Ac} {x : Int} (hl : xs.length < 9223372036854775808 ∧ ∀ a ∈ xs, a.t.size ≤ maxLen) (h0 : 0 ≤ x) (h1 : x < 9223372036854775808) {S : FuncId → Bool} {H : List Blk} {K : A → Dl → Prop} {zs : List A} (hS : S 19 = false) (hv : viewL (viewA 8 H) zs = some [aAs xs, i6 x]) (ho : noOwns zs = true ∨ nosl (i6 (szAs x xs)) = true) (hK : K (i6 (szAs x xs)) (.news [])) : @WCall' Go.Proofs.Tryd.prog S 19 zs H ⟨K⟩ :=
  WCall_pure hS (laws_szActS_c xs x hl h0 h1) hv ho (by simp) hK
theorem laws_eqAct_c (n m : Ac)  : T 48 [aAc n, aAc m] [] (.bool (decide (n = m))) ([]) := by
  refine semT' (S := S0) hm laws_eqAct_ok (Nat.le_of_ble_eq_true rfl) ?_
  unfold laws_eqAct; dsimp only
  simp
  repeat (any_goals (first | (refine br_intro' (fun h => ?_) (fun h => ?_) <;> (have h0 := h) <;> (try simp at h) <;> try simp [h0, h])))
  all_goals exact LeV.ro rfl rfl (by simp [Ac_eq, *])
theorem laws_eqAct_call {n m : Ac}  {S : FuncId → Bool} {H : List Blk} {K : A → Dl → Prop} (hS : S 48 = false) (hK : K (.bool (decide (n = m))) (.news [])) : @WCall' Go.Proofs.Tryd.prog S 48 [aAc n, aAc m] H ⟨K⟩ :=
  WCall_pure hS (laws_eqAct_c n m) (by simp) (by simp) (by simp) hK
theorem laws_eqAct_k {n m : Ac}  {S : FuncId → Bool} {H : List Blk} {K : A → Dl → Prop} {zs : List A} (hS : S 48 = false) (hv : viewL (viewA 8 H) zs = some [aAc n, aAc m]) (ho : noOwns zs = true ∨ nosl (.bool (decide (n = m))) = true) (hK : K (.bool (decide (n = m))) (.news [])) : @WCall' Go.Proofs.Tryd.prog S 48 zs H ⟨K⟩ :=
  WCall_pure hS (laws_eqAct_c n m) hv ho (by simp) hK
def zA (j : Nat) : List Ac := List.replicate j ⟨0, ⟨#[]⟩⟩
def upA (ns : List Ac) (j : Nat) : List Ac := ns.take j ++ zA (ns.length - j)
theorem upA_len (ns : List Ac) (j : Nat) (h : j ≤ ns.length) : (upA ns j).length = ns.length := by simp [upA, zA]; omega
theorem upA_zero (ns : List Ac) : upA ns 0 = zA ns.length := by simp [upA]
theorem upA_end (ns : List Ac) : upA ns ns.length = ns := by simp [upA, zA]
theorem encAs_zA (j : Nat) : encAs (zA j) = (List.replicate j [i6 0, .str ⟨#[]⟩]).flatten := by
  induction j with
  | zero => rfl
  | succ j ih => simp only [zA, List.replicate_succ, encAs, List.flatMap_cons, List.flatten_cons] at ih ⊢; rw [ih]; rfl
theorem upA_set (ns : List Ac) (j : Nat) (h : j < ns.length) : (upA ns j).set j ns[j] = upA ns (j + 1) := by
  have hl : (ns.take j).length = j := by simp; omega
  have e : ns.length - j = (ns.length - (j + 1)) + 1 := by omega
  simp only [upA, zA]
  rw [List.set_append_right _ _ (by omega), hl, Nat.sub_self, e, List.replicate_succ, List.set_cons_zero, List.take_succ_eq_append_getElem h, List.append_assoc]
  rfl
theorem encAs_set : ∀ (xs : List Ac) (j : Nat) (n : Ac), ((encAs xs).set (j * 2) (i6 n.k)).set (j * 2 + 1) (.str n.t) = encAs (xs.set j n)
  | [], j, n => by simp
  | x :: xs, 0, n => rfl
  | x :: xs, j + 1, n => by
    have := encAs_set xs j n
    have e : (j + 1) * 2 = j * 2 + 1 + 1 := by omega
    show (([i6 x.k, .str x.t] ++ encAs xs).set ((j + 1) * 2) _).set ((j + 1) * 2 + 1) _ = [i6 x.k, .str x.t] ++ encAs (xs.set j n)
    rw [e, ← this]
    rfl
theorem laws_toActS_c (ns : List Ac) (hl : ns.length ≤ 4294967296) : T 21 [aAs ns] [] (acref 0 ns) ([uacblk ns]) := by
  refine semT' (S := S0) hm laws_toActS_ok (Nat.le_of_ble_eq_true rfl) ?_
  unfold laws_toActS; dsimp only
  have h1 : ((ns.length : Int)) * 24 ≤ 17592186044416 := by omega
  have h2 : (ns.length : Int) ≤ 4294967296 := by omega
  simp
  refine ck_intro' (by omega) ?_; simp
  rw [← encAs_zA, ← upA_zero]
  refine WLoop_fam (fun j : Nat => [(0, aAs ns), (3, A.ref 0 0 0 ns.length), (4, i6 j)]) (fun j => [⟨0, false, 2, encAs (upA ns j), none⟩]) (fun j => ns.length - j)
    (fun j => j ≤ ns.length) ?_ 0 (Nat.zero_le _)
  intro j hj ih
  simp [upA_len ns j hj]
  refine br_intro' (fun h => ?_) (fun h => ?_) <;> (have h0 := h) <;> (try simp at h) <;> try simp [h0, h]
  · obtain ⟨r, hr⟩ := encAs_at h
    have h3 : 2 ≤ ns.length * 2 - j * 2 := by omega
    have hw : IntKind.i64.wrap ((j : Int) + 1) = j + 1 := wrap64 (by omega) (by omega)
    have h' := h
    simp [h3, hr, h']
    refine laws_toAct_call (a := ns[j]) rfl ?_; simp [upA_len ns j hj, h']
    refine ck_intro' (by omega) ?_; simp
    rw [hw, encAs_set, upA_set ns j h']
    exact ih (j + 1) h' (by omega)
  · have h0 : j = ns.length := by omega
    subst h0
    rw [upA_end]
    first | (refine LeV.tell [none] ?_ ?_ ?_ <;> (simp; done)) | (refine LeV.tell [some 0] ?_ ?_ ?_ <;> (simp; done)) | (refine LeV.tell [some 1] ?_ ?_ ?_ <;> (simp; done)) | (refine LeV.tell [some 2] ?_ ?_ ?_ <;> (simp; done)) | (refine LeV.tell [some 3] ?_ ?_ ?_ <;> (simp; done)) | (refine LeV.tell [some 4] ?_ ?_ ?_ <;> (simp; done)) | (refine LeV.tell [some 5] ?_ ?_ ?_ <;> (simp; done)) | (refine LeV.tell [some 6] ?_ ?_ ?_ <;> (simp; done)) | (refine LeV.tell [some 7] ?_ ?_ ?_ <;> (simp; done)) | (refine LeV.tell [some 8] ?_ ?_ ?_ <;> (simp; done)) | (refine LeV.tell [some 9] ?_ ?_ ?_ <;> (simp; done)) | (refine LeV.tell [some 10] ?_ ?_ ?_ <;> (simp; done)) | (refine LeV.tell [some 11] ?_ ?_ ?_ <;> (simp; done)) | (refine LeV.tell [some 12] ?_ ?_ ?_ <;> (simp; done)) | (refine LeV.tell [some 13] ?_ ?_ ?_ <;> (simp; done)) | (refine LeV.tell [some 14] ?_ ?_ ?_ <;> (simp; done)) | (refine LeV.tell [some 15] ?_ ?_ ?_ <;> (simp; done))
theorem laws_toActS_k {ns : List Ac} (hl : ns.length ≤ 4294967296) {S : FuncId → Bool} {H : List Blk} {K : A → Dl → Prop} {zs : List A} (hS : S 21 = false) (hv : viewL (viewA 8 H) zs = some [aAs ns]) (ho : noOwns zs = true ∨ nosl (acref 0 ns) = true ∧ noslBlks ([uacblk ns]) = true) (hK : K (shiftA H.length (acref 0 ns)) (.news (([uacblk ns]).map (shiftB H.length)))) : @WCall' Go.Proofs.Tryd.prog S 21 zs H ⟨K⟩ :=
  WCall_ro' hS hv (laws_toActS_c ns hl) rfl ho hK
theorem laws_eqActS_c (ns ms : List Ac) (hl : ns.length < 9223372036854775807) (hl2 : ms.length < 9223372036854775807) : T 23 [aAs ns, aAs ms] [] (.bool (decide (ns = ms))) ([]) := by
  refine semT' (S := S0) hm laws_eqActS_ok (Nat.le_of_ble_eq_true rfl) ?_
  unfold laws_eqActS; dsimp only
  simp
  refine br_intro' (fun h => ?_) (fun h => ?_) <;> (try simp at h) <;> (try simp [h])
  · refine WLoop_fam (fun j : Nat => [(0, aAs ns), (1, aAs ms), (5, i6 j)]) (fun _ => []) (fun j => ns.length - j)
      (fun j => j ≤ ns.length ∧ ns.take j = ms.take j) ?_ 0 ⟨Nat.zero_le _, by simp⟩
    intro j ⟨hj, hf⟩ ih
    simp
    have hq : ns.length = ms.length := by omega
    refine br_intro' (fun h => ?_) (fun h => ?_) <;> (have h0 := h) <;> (try simp at h) <;> try simp [h0, h]
    · obtain ⟨r, hr⟩ := encAs_at h
      have hm : j < ms.length := by omega
      obtain ⟨r2, hr2⟩ := encAs_at hm
      have h3 : 2 ≤ ms.length * 2 - j * 2 := by omega
      have h4 : 2 ≤ ns.length * 2 - j * 2 := by omega
      have hw : IntKind.i64.wrap ((j : Int) + 1) = j + 1 := wrap64 (by omega) (by omega)
      have h' := h
      simp [h3, h4, hr, h', hr2, hm]
      refine laws_eqAct_call (n := ns[j]) (m := ms[j]) rfl ?_; simp
      first | (refine ck_intro' (by kernel_rfl) ?_; try simp) | skip
      refine br_intro' (fun g => ?_) (fun g => ?_) <;> simp at g <;> simp [g]
      · rw [hw]
        exact ih (j + 1) ⟨h', by rw [List.take_succ_eq_append_getElem h', List.take_succ_eq_append_getElem hm, hf, g]⟩ (by omega)
      · exact LeV.ro rfl rfl (by simp; intro e; subst e; exact g rfl)
    · have h0 : j = ns.length := by omega
      exact LeV.ro rfl rfl (by rw [h0, List.take_length, hq, List.take_length] at hf; simp [hf])
  · exact LeV.ro rfl rfl (by simp; intro e; rw [e] at h; exact h rfl)
theorem laws_eqActS_call {ns ms : List Ac} (hl : ns.length < 9223372036854775807) (hl2 : ms.length < 9223372036854775807) {S : FuncId → Bool} {H : List Blk} {K : A → Dl → Prop} (hS : S 23 = false) (hK : K (.bool (decide (ns = ms))) (.news [])) : @WCall' Go.Proofs.Tryd.prog S 23 [aAs ns, aAs ms] H ⟨K⟩ :=
  WCall_pure hS (laws_eqActS_c ns ms hl hl2) (by simp) (by simp) (by simp) hK
theorem laws_eqActS_k {ns ms : List Ac} (hl : ns.length < 9223372036854775807) (hl2 : ms.length < 9223372036854775807) {S : FuncId → Bool} {H : List Blk} {K : A → Dl → Prop} {zs : List A} (hS : S 23 = false) (hv : viewL (viewA 8 H) zs = some [aAs ns, aAs ms]) (ho : noOwns zs = true ∨ nosl (.bool (decide (ns = ms))) = true) (hK : K (.bool (decide (ns = ms))) (.news [])) : @WCall' Go.Proofs.Tryd.prog S 23 zs H ⟨K⟩ :=
  WCall_pure hS (laws_eqActS_c ns ms hl hl2) hv ho (by simp) hK
end Go.Proofs.YtmlfacjgfjmdeaaDoor.C

set_option linter.unusedVariables false
set_option linter.unusedSimpArgs false
set_option maxRecDepth 4000
namespace Go.Proofs.YtmlfacjgfjmdeaaDoor.C
open Go.Sym Go.Proofs.YtmlfacjgfjmdeaaDoor.I
/-- An act of a role, at its place. -/
def actAt (xs : List Ac) (i : Nat) : Bool := actF (xs.getD i ⟨0, ⟨#[]⟩⟩) && (decide ((xs.getD i ⟨0, ⟨#[]⟩⟩).k = 4) == decide (i + 1 = xs.length))
def roleF (xs : List Ac) : Bool := allF (actAt xs) xs.length 0 && inF xs.length 1 20
theorem actAt_eq {xs : List Ac} {j : Nat} (h : j < xs.length) : actAt xs j = (actF xs[j] && (decide (xs[j].k = 4) == decide (j + 1 = xs.length))) := by
  simp [actAt, h]
theorem impl_RoleOk_c (xs : List Ac) (hl : xs.length < 9223372036854775807) (hs : ∀ a ∈ xs, a.t.size ≤ 281474976710656) : T 22 [aAs xs] [] (.bool (roleF xs)) ([]) := by
  refine semT' (S := S0) hm impl_RoleOk_ok (Nat.le_of_ble_eq_true rfl) ?_
  unfold impl_RoleOk; dsimp only
  have hlm := wrap_len (n := xs.length) hl
  simp
  refine WLoop_fam (fun j : Nat => [(0, aAs xs), (5, aAs xs), (6, i6 xs.length), (7, i6 j)]) (fun _ => []) (fun j => xs.length - j)
    (fun j => j ≤ xs.length ∧ allF (actAt xs) xs.length 0 = allF (actAt xs) xs.length j) ?_ 0 ⟨Nat.zero_le _, rfl⟩
  intro j ⟨hj, hf⟩ ih
  simp
  refine br_intro' (fun u => ?_) (fun u => ?_) <;> (have u0 := u) <;> simp only [decide_eq_true_eq, decide_eq_false_iff_not] at u <;> simp [u0]
  · have h' : j < xs.length := by omega
    obtain ⟨r, hr⟩ := encAs_at h'
    have h3 : 2 ≤ xs.length * 2 - j * 2 := by omega
    have w0 := wrap_succ (n := j) (by omega)
    simp [h3, hr, h']
    refine impl_ActOk_call (a := xs[j]) (hs _ (List.getElem_mem h')) rfl ?_; simp
    rcases Bool.eq_false_or_eq_true (actF xs[j]) with g | g
    · simp [g, hlm]
      by_cases k1 : xs[j].k = 4
      · have d1 : decide (xs[j].k = 4) = true := by simpa using k1
        by_cases k2 : j + 1 = xs.length
        · have d2 : decide ((j : Int) = (xs.length : Int) - 1) = true := decide_eq_true (by omega)
          simp [d1, d2, w0]
          first
            | exact ih (j + 1) ⟨by omega, by rw [hf, allF_at h', actAt_eq h', g]; simp [k1, k2]⟩ (by omega)
            | exact WLoop_drop [] _ rfl (by simp) (by simp) (by simp) (ih (j + 1) ⟨by omega, by rw [hf, allF_at h', actAt_eq h', g]; simp [k1, k2]⟩ (by omega))
            | exact LeV.ro rfl rfl (by simp only [roleF]; rw [hf, allF_at h', actAt_eq h', g]; simp [k1, k2])
        · have d2 : decide ((j : Int) = (xs.length : Int) - 1) = false := decide_eq_false (by omega)
          simp [d1, d2, w0]
          first
            | exact ih (j + 1) ⟨by omega, by rw [hf, allF_at h', actAt_eq h', g]; simp [k1, k2]⟩ (by omega)
            | exact WLoop_drop [] _ rfl (by simp) (by simp) (by simp) (ih (j + 1) ⟨by omega, by rw [hf, allF_at h', actAt_eq h', g]; simp [k1, k2]⟩ (by omega))
            | exact LeV.ro rfl rfl (by simp only [roleF]; rw [hf, allF_at h', actAt_eq h', g]; simp [k1, k2])
      · have d1 : decide (xs[j].k = 4) = false := by simpa using k1
        by_cases k2 : j + 1 = xs.length
        · have d2 : decide ((j : Int) = (xs.length : Int) - 1) = true := decide_eq_true (by omega)
          simp [d1, d2, w0]
          first
            | exact ih (j + 1) ⟨by omega, by rw [hf, allF_at h', actAt_eq h', g]; simp [k1, k2]⟩ (by omega)
            | exact WLoop_drop [] _ rfl (by simp) (by simp) (by simp) (ih (j + 1) ⟨by omega, by rw [hf, allF_at h', actAt_eq h', g]; simp [k1, k2]⟩ (by omega))
            | exact LeV.ro rfl rfl (by simp only [roleF]; rw [hf, allF_at h', actAt_eq h', g]; simp [k1, k2])
        · have d2 : decide ((j : Int) = (xs.length : Int) - 1) = false := decide_eq_false (by omega)
          simp [d1, d2, w0]
          first
            | exact ih (j + 1) ⟨by omega, by rw [hf, allF_at h', actAt_eq h', g]; simp [k1, k2]⟩ (by omega)
            | exact WLoop_drop [] _ rfl (by simp) (by simp) (by simp) (ih (j + 1) ⟨by omega, by rw [hf, allF_at h', actAt_eq h', g]; simp [k1, k2]⟩ (by omega))
            | exact LeV.ro rfl rfl (by simp only [roleF]; rw [hf, allF_at h', actAt_eq h', g]; simp [k1, k2])
    · simp [g]
      exact LeV.ro rfl rfl (by simp only [roleF]; rw [hf, allF_at h', actAt_eq h', g]; simp)
  · refine impl_inRange_call (x := xs.length) (lo := 1) (hi := 20) rfl ?_; simp
    exact LeV.ro rfl rfl (by simp only [roleF]; rw [hf, allF_end (by omega)]; simp)
theorem impl_RoleOk_call {xs : List Ac} (hl : xs.length < 9223372036854775807) (hs : ∀ a ∈ xs, a.t.size ≤ 281474976710656) {S : FuncId → Bool} {H : List Blk} {K : A → Dl → Prop} (hS : S 22 = false) (hK : K (.bool (roleF xs)) (.news [])) : @WCall' Go.Proofs.Tryd.prog S 22 [aAs xs] H ⟨K⟩ :=
  WCall_pure hS (impl_RoleOk_c xs hl hs) (by simp) (by simp) (by simp) hK
theorem impl_RoleOk_k {xs : List Ac} (hl : xs.length < 9223372036854775807) (hs : ∀ a ∈ xs, a.t.size ≤ 281474976710656) {S : FuncId → Bool} {H : List Blk} {K : A → Dl → Prop} {zs : List A} (hS : S 22 = false) (hv : viewL (viewA 8 H) zs = some [aAs xs]) (ho : noOwns zs = true ∨ nosl (.bool (roleF xs)) = true) (hK : K (.bool (roleF xs)) (.news [])) : @WCall' Go.Proofs.Tryd.prog S 22 zs H ⟨K⟩ :=
  WCall_pure hS (impl_RoleOk_c xs hl hs) hv ho (by simp) hK
theorem spec_RoleOk_c (xs : List Ac) (hl : xs.length < 9223372036854775807) (hs : ∀ a ∈ xs, a.t.size ≤ 281474976710656) : T 20 [aAs xs] [] (.bool (roleF xs)) ([]) := by
  refine semT' (S := S0) hm spec_RoleOk_ok (Nat.le_of_ble_eq_true rfl) ?_
  unfold spec_RoleOk; dsimp only
  have hlm := wrap_len (n := xs.length) hl
  simp
  refine spec_l1In_call (x := xs.length) (lo := 1) (hi := 20) rfl ?_; simp
  refine br_intro' (fun v => ?_) (fun v => ?_) <;> simp [v]
  case refine_2 =>
    exact LeV.ro rfl rfl (by simp [roleF, v])
  refine WLoop_fam (fun j : Nat => [(0, aAs xs), (3, i6 xs.length), (4, i6 j)]) (fun _ => []) (fun j => xs.length - j)
    (fun j => j ≤ xs.length ∧ allF (actAt xs) xs.length 0 = allF (actAt xs) xs.length j) ?_ 0 ⟨Nat.zero_le _, rfl⟩
  intro j ⟨hj, hf⟩ ih
  simp
  refine br_intro' (fun u => ?_) (fun u => ?_) <;> (have u0 := u) <;> simp only [decide_eq_true_eq, decide_eq_false_iff_not] at u <;> simp [u0]
  · have h' : j < xs.length := by omega
    obtain ⟨r, hr⟩ := encAs_at h'
    have h3 : 2 ≤ xs.length * 2 - j * 2 := by omega
    have h4 : 1 ≤ xs.length * 2 - j * 2 := by omega
    have w0 := wrap_succ (n := j) (by omega)
    simp [h3, hr, h']
    refine spec_ActOk_call (a := xs[j]) (hs _ (List.getElem_mem h')) rfl ?_; simp
    rcases Bool.eq_false_or_eq_true (actF xs[j]) with g | g
    · simp [g, hlm, h', h4, hr, encAs_k h']
      by_cases k1 : xs[j].k = 4
      · have d1 : decide (xs[j].k = 4) = true := by simpa using k1
        by_cases k2 : j + 1 = xs.length
        · have d2 : decide ((j : Int) = (xs.length : Int) - 1) = true := decide_eq_true (by omega)
          simp [d1, d2, w0]
          first
            | exact ih (j + 1) ⟨by omega, by rw [hf, allF_at h', actAt_eq h', g]; simp [k1, k2]⟩ (by omega)
            | exact WLoop_drop [] _ rfl (by simp) (by simp) (by simp) (ih (j + 1) ⟨by omega, by rw [hf, allF_at h', actAt_eq h', g]; simp [k1, k2]⟩ (by omega))
            | exact LeV.ro rfl rfl (by simp only [roleF]; rw [hf, allF_at h', actAt_eq h', g]; simp [k1, k2])
        · have d2 : decide ((j : Int) = (xs.length : Int) - 1) = false := decide_eq_false (by omega)
          simp [d1, d2, w0]
          first
            | exact ih (j + 1) ⟨by omega, by rw [hf, allF_at h', actAt_eq h', g]; simp [k1, k2]⟩ (by omega)
            | exact WLoop_drop [] _ rfl (by simp) (by simp) (by simp) (ih (j + 1) ⟨by omega, by rw [hf, allF_at h', actAt_eq h', g]; simp [k1, k2]⟩ (by omega))
            | exact LeV.ro rfl rfl (by simp only [roleF]; rw [hf, allF_at h', actAt_eq h', g]; simp [k1, k2])
      · have d1 : decide (xs[j].k = 4) = false := by simpa using k1
        by_cases k2 : j + 1 = xs.length
        · have d2 : decide ((j : Int) = (xs.length : Int) - 1) = true := decide_eq_true (by omega)
          simp [d1, d2, w0]
          first
            | exact ih (j + 1) ⟨by omega, by rw [hf, allF_at h', actAt_eq h', g]; simp [k1, k2]⟩ (by omega)
            | exact WLoop_drop [] _ rfl (by simp) (by simp) (by simp) (ih (j + 1) ⟨by omega, by rw [hf, allF_at h', actAt_eq h', g]; simp [k1, k2]⟩ (by omega))
            | exact LeV.ro rfl rfl (by simp only [roleF]; rw [hf, allF_at h', actAt_eq h', g]; simp [k1, k2])
        · have d2 : decide ((j : Int) = (xs.length : Int) - 1) = false := decide_eq_false (by omega)
          simp [d1, d2, w0]
          first
            | exact ih (j + 1) ⟨by omega, by rw [hf, allF_at h', actAt_eq h', g]; simp [k1, k2]⟩ (by omega)
            | exact WLoop_drop [] _ rfl (by simp) (by simp) (by simp) (ih (j + 1) ⟨by omega, by rw [hf, allF_at h', actAt_eq h', g]; simp [k1, k2]⟩ (by omega))
            | exact LeV.ro rfl rfl (by simp only [roleF]; rw [hf, allF_at h', actAt_eq h', g]; simp [k1, k2])
    · simp [g]
      exact LeV.ro rfl rfl (by simp only [roleF]; rw [hf, allF_at h', actAt_eq h', g]; simp)
  · exact LeV.ro rfl rfl (by simp only [roleF]; rw [hf, allF_end (by omega)]; simp [v])
theorem spec_RoleOk_call {xs : List Ac} (hl : xs.length < 9223372036854775807) (hs : ∀ a ∈ xs, a.t.size ≤ 281474976710656) {S : FuncId → Bool} {H : List Blk} {K : A → Dl → Prop} (hS : S 20 = false) (hK : K (.bool (roleF xs)) (.news [])) : @WCall' Go.Proofs.Tryd.prog S 20 [aAs xs] H ⟨K⟩ :=
  WCall_pure hS (spec_RoleOk_c xs hl hs) (by simp) (by simp) (by simp) hK
theorem spec_RoleOk_k {xs : List Ac} (hl : xs.length < 9223372036854775807) (hs : ∀ a ∈ xs, a.t.size ≤ 281474976710656) {S : FuncId → Bool} {H : List Blk} {K : A → Dl → Prop} {zs : List A} (hS : S 20 = false) (hv : viewL (viewA 8 H) zs = some [aAs xs]) (ho : noOwns zs = true ∨ nosl (.bool (roleF xs)) = true) (hK : K (.bool (roleF xs)) (.news [])) : @WCall' Go.Proofs.Tryd.prog S 20 zs H ⟨K⟩ :=
  WCall_pure hS (spec_RoleOk_c xs hl hs) hv ho (by simp) hK
end Go.Proofs.YtmlfacjgfjmdeaaDoor.C

set_option linter.unusedVariables false
set_option linter.unusedSimpArgs false
set_option maxRecDepth 4000
namespace Go.Proofs
open Go.Shelf
def Tryd.lays166_ren : Go.Shelf.Ren := ⟨fun | 166 => 50 | 240 => 80 | 276 => 109 | n => n, fun | 37 => 39 | 70 => 80 | 72 => 82 | 75 => 84 | 80 => 87 | 164 => 152 | n => n, fun | n => n⟩
theorem Tryd.lays166 : Lays.n166 Tryd.prog Tryd.lays166_ren where
  mixed := by kernel_rfl
  f166 := Tryd.func50.trans (congrArg some (by kernel_rfl))
  f240 := Tryd.func80.trans (congrArg some (by kernel_rfl))
  f276 := Tryd.func109.trans (congrArg some (by kernel_rfl))
  t0 := Tryd.underlying0
  a0 := Tryd.isAgg0
  z0 := Tryd.sizeOf0
  v0 := Tryd.zeroValue0
  t3 := Tryd.underlying3
  a3 := Tryd.isAgg3
  z3 := Tryd.sizeOf3
  v3 := Tryd.zeroValue3
  t4 := Tryd.underlying4
  a4 := Tryd.isAgg4
  z4 := Tryd.sizeOf4
  v4 := Tryd.zeroValue4
  t9 := Tryd.underlying9
  a9 := Tryd.isAgg9
  z9 := Tryd.sizeOf9
  v9 := Tryd.zeroValue9
  t20 := Tryd.underlying20
  a20 := Tryd.isAgg20
  z20 := Tryd.sizeOf20
  v20 := Tryd.zeroValue20
  t37 := Tryd.underlying39
  a37 := Tryd.isAgg39
  z37 := Tryd.sizeOf39
  v37 := Tryd.zeroValue39
  t70 := Tryd.underlying80
  a70 := Tryd.isAgg80
  z70 := Tryd.sizeOf80
  v70 := Tryd.zeroValue80
  t72 := Tryd.underlying82
  a72 := Tryd.isAgg82
  z72 := Tryd.sizeOf82
  v72 := Tryd.zeroValue82
  t75 := Tryd.underlying84
  a75 := Tryd.isAgg84
  z75 := Tryd.sizeOf84
  v75 := Tryd.zeroValue84
  t164 := Tryd.underlying152
  a164 := Tryd.isAgg152
  z164 := Tryd.sizeOf152
  v164 := Tryd.zeroValue152
def Tryd.lays169_ren : Go.Shelf.Ren := ⟨fun | 169 => 52 | n => n, fun | 37 => 39 | 70 => 80 | 72 => 82 | 127 => 118 | n => n, fun | n => n⟩
theorem Tryd.lays169 : Lays.n169 Tryd.prog Tryd.lays169_ren where
  mixed := by kernel_rfl
  f169 := Tryd.func52.trans (congrArg some (by kernel_rfl))
  t0 := Tryd.underlying0
  a0 := Tryd.isAgg0
  z0 := Tryd.sizeOf0
  v0 := Tryd.zeroValue0
  t3 := Tryd.underlying3
  a3 := Tryd.isAgg3
  z3 := Tryd.sizeOf3
  v3 := Tryd.zeroValue3
  t9 := Tryd.underlying9
  a9 := Tryd.isAgg9
  z9 := Tryd.sizeOf9
  v9 := Tryd.zeroValue9
  t37 := Tryd.underlying39
  a37 := Tryd.isAgg39
  z37 := Tryd.sizeOf39
  v37 := Tryd.zeroValue39
  t70 := Tryd.underlying80
  a70 := Tryd.isAgg80
  z70 := Tryd.sizeOf80
  v70 := Tryd.zeroValue80
  t72 := Tryd.underlying82
  a72 := Tryd.isAgg82
  z72 := Tryd.sizeOf82
  v72 := Tryd.zeroValue82
  t127 := Tryd.underlying118
  a127 := Tryd.isAgg118
  z127 := Tryd.sizeOf118
  v127 := Tryd.zeroValue118
theorem Tryd.extra166 : Builder.Extra Tryd.prog Tryd.lays166_ren where
  sizeBuilder := by kernel_rfl
  liesBuilder := by kernel_rfl
  t5 := Tryd.underlying5
  a5 := Tryd.isAgg5
  z5 := Tryd.sizeOf5
  v5 := Tryd.zeroValue5
  infoByte := by kernel_rfl
  cellsByte := by kernel_rfl
  sizeByte := by kernel_rfl
  neB5 := by decide
theorem Tryd.extra169 : Builder.Extra Tryd.prog Tryd.lays169_ren where
  sizeBuilder := by kernel_rfl
  liesBuilder := by kernel_rfl
  t5 := Tryd.underlying5
  a5 := Tryd.isAgg5
  z5 := Tryd.sizeOf5
  v5 := Tryd.zeroValue5
  infoByte := by kernel_rfl
  cellsByte := by kernel_rfl
  sizeByte := by kernel_rfl
  neB5 := by decide
end Go.Proofs
namespace Go.Proofs.YtmlfacjgfjmdeaaDoor.C
open Go.Sym Go.Proofs.YtmlfacjgfjmdeaaDoor.I Go.RowKit
theorem Below.sym {c : Cx} {w' : World} (hr : RelH c) (hH : c.H = fun _ => none) (hb : Below c.w.heap.size c.w w') : RelH ⟨c.H, c.io, w', c.X⟩ ∧ Step c ⟨c.H, c.io, w', c.X⟩ := by
  have hn : ∀ b k, c.H b = some k → False := fun b k h => by rw [hH] at h; simp at h
  refine ⟨⟨fun b k h => (hn b k h).elim, fun b k h => (hn b k h).elim, fun b k h => (hn b k h).elim, fun b k h => (hn b k h).elim, fun b k st l h => (hn b k h).elim, fun b b' k k' h => (hn b k h).elim, fun b k h => (hn b k h).elim, fun k h => Nat.lt_of_lt_of_le (hr.xlt k h) hb.size⟩, ?_⟩
  refine ⟨hb.os, hb.tape, hb.output, hb.size, fun k hk _ => hb.block k hk, fun k hk => .inl hk, fun b k h => (hn b k h).elim, rfl, fun ad hh => ?_, MPers.of_blk fun k hk => hb.block k hk⟩
  obtain ⟨u, hu⟩ := Option.isSome_iff_exists.1 hh
  show (w'.cell? ad).isSome = true
  rw [hb.cell (World.block_lt_of_cell? _ _ hu), hu]
  rfl
/-- A contract with no row, as the kit's run. -/
theorem SemT.calls {P : Program} {f : FuncId} {xs : List A} {r : A} {Hr : List Blk} (h : SemT P f xs [] r Hr) {c : Cx} {vs : Array Value} (hg : Gd P c) (hr : RelH c) (hH : c.H = fun _ => none) (hvs : VRs c xs vs.toList) :
    Calls P f vs c.w fun e w' => ∃ v c', e = .returned v ∧ VR c' r v ∧ Below c.w.heap.size c.w w' := by
  refine (h c vs hg hr (by rw [hH]; rfl) hvs).mono ?_
  rintro e w' ⟨v, c', rfl, rfl, _, _, hv, hs⟩
  exact ⟨v, c', rfl, hv, hs.os, hs.tape, hs.output, hs.size, fun k hk => hs.blk k hk fun ⟨b, blk, hb, _⟩ => by rw [hH] at hb; simp at hb⟩
theorem semT_belowH {P : Program} {f : FuncId} {xs : List A} {r : A} (h : ∀ (c : Cx) (vs : Array Value), Gd P c → RelH c → c.H = (fun _ => none) → VRs c xs vs.toList → Calls P f vs c.w fun e w' => ∃ v, (∀ c' : Cx, VR c' r v) ∧ e = .returned v ∧ Below c.w.heap.size c.w w') : SemT P f xs [] r [] := by
  intro c vs hgd hr hH hvs
  have hH' : c.H = fun _ => none := by rw [hH]; rfl
  refine (h c vs hgd hr hH' hvs).mono ?_
  rintro e w' ⟨v, hv, rfl, hb⟩
  obtain ⟨h1, h2⟩ := Below.sym hr hH' hb
  exact ⟨v, ⟨c.H, c.io, w', c.X⟩, rfl, rfl, hH, h1, hv _, h2⟩
/-- A role's text, line by line. -/
def wordB (k : Int) : ByteArray := if k = 1 then ⟨#[102, 114, 101, 115, 104, 32]⟩ else if k = 2 then ⟨#[115, 101, 110, 100, 32]⟩ else if k = 3 then ⟨#[116, 97, 107, 101, 32]⟩ else ⟨#[99, 108, 97, 105, 109, 32]⟩
def lineB (a : Ac) : ByteArray := wordB a.k ++ a.t ++ ⟨#[10]⟩
def linesL (xs : List Ac) : List UInt8 := xs.flatMap fun a => (lineB a).data.toList
theorem impl_wordOf_c (k : Int) (h1 : 1 ≤ k) (h2 : k ≤ 4) : T 51 [i6 k] [] (.str (wordB k)) ([]) := by
  refine semT' (S := S0) hm impl_wordOf_ok (Nat.le_of_ble_eq_true rfl) ?_
  unfold impl_wordOf; dsimp only
  have hw : IntKind.i64.wrap (k - 1) = k - 1 := wrap64 (by omega) (by omega)
  simp [hw]
  first | (refine ck_intro' (by kernel_rfl) ?_; try simp) | skip
  rcases (by omega : k = 1 ∨ k = 2 ∨ k = 3 ∨ k = 4) with h | h | h | h <;> subst h <;> simp <;> exact LeV.refl _ _ _
theorem impl_wordOf_call {k : Int} (h1 : 1 ≤ k) (h2 : k ≤ 4) {S : FuncId → Bool} {H : List Blk} {K : A → Dl → Prop} (hS : S 51 = false) (hK : K (.str (wordB k)) (.news [])) : @WCall' Go.Proofs.Tryd.prog S 51 [i6 k] H ⟨K⟩ :=
  WCall_pure hS (impl_wordOf_c k h1 h2) (by simp) (by simp) (by simp) hK
theorem impl_wordOf_k {k : Int} (h1 : 1 ≤ k) (h2 : k ≤ 4) {S : FuncId → Bool} {H : List Blk} {K : A → Dl → Prop} {zs : List A} (hS : S 51 = false) (hv : viewL (viewA 8 H) zs = some [i6 k]) (ho : noOwns zs = true ∨ nosl (.str (wordB k)) = true) (hK : K (.str (wordB k)) (.news [])) : @WCall' Go.Proofs.Tryd.prog S 51 zs H ⟨K⟩ :=
  WCall_pure hS (impl_wordOf_c k h1 h2) hv ho (by simp) hK
end Go.Proofs.YtmlfacjgfjmdeaaDoor.C

set_option linter.unusedVariables false
set_option linter.unusedSimpArgs false
set_option maxRecDepth 4000
namespace Go.Proofs.YtmlfacjgfjmdeaaDoor.C
open Go.Sym Go.Proofs.YtmlfacjgfjmdeaaDoor.I Go.RowKit
theorem allF_all2 {p : Nat → Bool} {n : Nat} (h : allF p n 0 = true) {i : Nat} (hi : i < n) : p i = true := by
  have : ∀ k, k ≤ i → allF p n k = true := by
    intro k
    induction k with
    | zero => intro _; exact h
    | succ k ih =>
      intro hk
      have := ih (by omega)
      rw [allF_at (by omega), Bool.and_eq_true] at this
      exact this.2
  have := this i (Nat.le_refl _)
  rw [allF_at hi, Bool.and_eq_true] at this
  exact this.1
theorem linesL_at {xs : List Ac} {i : Nat} (h : i < xs.length) : linesL (xs.take (i + 1)) = linesL (xs.take i) ++ (lineB xs[i]).data.toList := by
  rw [List.take_succ_eq_append_getElem h]
  simp only [linesL, List.flatMap_append, List.flatMap_cons, List.flatMap_nil, List.append_nil]
theorem linesL_le (xs : List Ac) (i : Nat) : (linesL (xs.take i)).length ≤ (linesL xs).length := by
  have : linesL xs = linesL (xs.take i) ++ linesL (xs.drop i) := by
    rw [linesL, linesL, linesL, ← List.flatMap_append, List.take_append_drop]
  rw [this, List.length_append]
  omega
def printL (xs : List Ac) : List UInt8 := if roleF xs then linesL xs else []
def printB (xs : List Ac) : ByteArray := ⟨(printL xs).toArray⟩
theorem wordB_size (k : Int) : (wordB k).size ≤ 6 := by
  unfold wordB
  repeat' split
  all_goals decide
theorem actF_k {a : Ac} (h : actF a = true) : 1 ≤ a.k ∧ a.k ≤ 4 := by
  unfold actF at h
  repeat' split at h
  all_goals first | omega | simp at h
theorem words_0 (w : World) : (Instr.index 117 (.agg #[.string ⟨#[102, 114, 101, 115, 104, 32]⟩, .string ⟨#[115, 101, 110, 100, 32]⟩, .string ⟨#[116, 97, 107, 101, 32]⟩, .string ⟨#[99, 108, 97, 105, 109, 32]⟩]) (.int .i64 0)).run Tryd.prog w = .ok (.string ⟨#[102, 114, 101, 115, 104, 32]⟩) w := by kernel_rfl
theorem words_1 (w : World) : (Instr.index 117 (.agg #[.string ⟨#[102, 114, 101, 115, 104, 32]⟩, .string ⟨#[115, 101, 110, 100, 32]⟩, .string ⟨#[116, 97, 107, 101, 32]⟩, .string ⟨#[99, 108, 97, 105, 109, 32]⟩]) (.int .i64 1)).run Tryd.prog w = .ok (.string ⟨#[115, 101, 110, 100, 32]⟩) w := by kernel_rfl
theorem words_2 (w : World) : (Instr.index 117 (.agg #[.string ⟨#[102, 114, 101, 115, 104, 32]⟩, .string ⟨#[115, 101, 110, 100, 32]⟩, .string ⟨#[116, 97, 107, 101, 32]⟩, .string ⟨#[99, 108, 97, 105, 109, 32]⟩]) (.int .i64 2)).run Tryd.prog w = .ok (.string ⟨#[116, 97, 107, 101, 32]⟩) w := by kernel_rfl
theorem words_3 (w : World) : (Instr.index 117 (.agg #[.string ⟨#[102, 114, 101, 115, 104, 32]⟩, .string ⟨#[115, 101, 110, 100, 32]⟩, .string ⟨#[116, 97, 107, 101, 32]⟩, .string ⟨#[99, 108, 97, 105, 109, 32]⟩]) (.int .i64 3)).run Tryd.prog w = .ok (.string ⟨#[99, 108, 97, 105, 109, 32]⟩) w := by kernel_rfl
theorem wordOf_calls {k : Int} (h1 : 1 ≤ k) (h2 : k ≤ 4) (w : World) : Calls Tryd.prog 51 #[.int .i64 k] w fun e w' => e = .returned (.string (wordB k)) ∧ w' = w := by
  have i0 := words_0 w
  have i1 := words_1 w
  have i2 := words_2 w
  have i3 := words_3 w
  rcases (by omega : k = 1 ∨ k = 2 ∨ k = 3 ∨ k = 4) with h | h | h | h <;> subst h <;> (go_enter Tryd.func51, Tryd.ntmps51) <;> go_wp2 <;> go_ret <;> exact ⟨rfl, rfl⟩
set_option maxHeartbeats 4000000 in
set_option maxRecDepth 1000000 in
theorem rprint_walk (xs : List Ac) (hl : xs.length < 9223372036854775807) (hs : ∀ a ∈ xs, a.t.size ≤ 281474976710656) (ht : (linesL xs).length ≤ 140737488355328) (c : Cx) (hg : Gd Tryd.prog c) (hr : RelH c) (hH : c.H = fun _ => none) (v : Value) (hv : VR c (aAs xs) v) :
    Calls Tryd.prog 25 #[v] c.w fun e w' => e = .returned (.string (printB xs)) ∧ Below c.w.heap.size c.w w' := by
  have cR := SemT.calls (impl_RoleOk_c xs hl hs) hg hr hH (vs := #[v]) ⟨v, [], rfl, hv, rfl⟩
  obtain ⟨a, cap, rfl, hcap, hrd⟩ := hv
  go_enter Tryd.func25, Tryd.ntmps25
  go_wp2_with (go_at_call 22; refine cR.mono ?_)
  rintro e W1 ⟨v1, c1, rfl, hv1, b1⟩
  have e1 : v1 = .bool (roleF xs) := hv1
  subst e1
  rcases Bool.eq_false_or_eq_true (roleF xs) with hro | hro
  · have hne : 1 ≤ xs.length := by
      simp only [roleF, Bool.and_eq_true, inF, decide_eq_true_eq] at hro
      omega
    obtain ⟨ad, vs, rfl, had, hab, haz, hrd, hvs⟩ := hrd.resolve_left (by omega)
    have hsz0 := b1.size
    rw [hro]
    go_wp2
    have hI0 : Lib.IsBuilderF 82 5 W1.heap.size W1.heap.size [] (W1.alloc (.cells #[.pointer none, .slice none 0 0] 82)) := Lib.IsBuilderF.of (Lib.fresh_isBuilder 82 5 W1)
    go_loopw [11] (fun vi wr => ∃ i : Nat, vi = .int .i64 i ∧ i ≤ xs.length ∧ Lib.IsBuilderF 82 5 W1.heap.size W1.heap.size (Lib.byteCells (linesL (xs.take i))) wr ∧ Below c.w.heap.size c.w wr ∧ W1.heap.size ≤ wr.heap.size) (fun vi _ => xs.length - (intOf vi).toNat)
    case atStart => exact ⟨0, by rfl, Nat.zero_le _, hI0, b1.alloc b1.size _, by simp⟩
    case round =>
      obtain ⟨i, rfl, hi, hB, hbw, hsz⟩ := hrel
      by_cases hlt : i < xs.length
      · have hA := encAs_gets hlt
        have hcl : ∀ (j : Nat) (x : A), (encAs xs)[j]? = some x → ∃ v, wr.cell? ⟨ad.block, ad.off + j, none⟩ = some v ∧ VR c x v := fun j x hx => by
          obtain ⟨v, hv1, hv2⟩ := hvs.get hx
          exact ⟨v, (hbw.cell (show (⟨ad.block, ad.off + j, none⟩ : Addr).block < _ from hab)).trans (hrd j v hv1), hv2⟩
        obtain ⟨v0, hc0, rfl⟩ := hcl _ _ hA.1
        obtain ⟨v1, hc1, rfl⟩ := hcl _ _ hA.2
        have hkt : actF xs[i] = true := by
          simp only [roleF, Bool.and_eq_true] at hro
          have := allF_all2 hro.1 hlt
          rw [actAt_eq hlt, Bool.and_eq_true] at this
          exact this.1
        generalize hq : xs[i] = q at hc0 hc1 hkt
        obtain ⟨ab, ao, asp⟩ := ad
        simp only at had hab hc0 hc1
        subst had
        have hc1' : wr.cell? ⟨ab, ao + i * 2 + 1, none⟩ = some (.string q.t) := hc1
        clear hc1 hcl hA hrd hvs haz cR
        have hqk := actF_k hkt
        have hW := fun w' => wordOf_calls hqk.1 hqk.2 w'
        go_wp2
        have hA0 : ((wr.alloc (Obj.cells #[Value.int IntKind.i64 q.k, Value.string q.t] 28)).drew).cell? ⟨wr.heap.size, 0, none⟩ = some (.int .i64 q.k) := by go_simp
        have hA1 : ((wr.alloc (Obj.cells #[Value.int IntKind.i64 q.k, Value.string q.t] 28)).drew).cell? ⟨wr.heap.size, 1, none⟩ = some (.string q.t) := by go_simp
        have hBA := (hB.alloc (Obj.cells #[Value.int IntKind.i64 q.k, Value.string q.t] 28)).imp (·.drew) (·.drew)
        have hbA := (hbw.alloc hbw.size (Obj.cells #[Value.int IntKind.i64 q.k, Value.string q.t] 28)).drew
        have hszA : W1.heap.size ≤ ((wr.alloc (Obj.cells #[Value.int IntKind.i64 q.k, Value.string q.t] 28)).drew).heap.size := by simp; omega
        have hqs : q.t.size ≤ 281474976710656 := hq ▸ hs _ (List.getElem_mem hlt)
        have hws := wordB_size q.k
        have hn1 : ¬ 9223372036854775807 < (wordB q.k).size + q.t.size := by omega
        have hn2 : ¬ 9223372036854775807 < (wordB q.k).size + q.t.size + 1 := by omega
        have hlen : (Lib.byteCells (linesL (xs.take i))).length + (wordB q.k ++ q.t ++ ⟨#[10]⟩).size ≤ 140737488355328 := by
          rw [Lib.byteCells_length]
          have h1 : (linesL (xs.take i)).length + (lineB q).size ≤ (linesL xs).length := by
            have h2 := linesL_le xs (i + 1)
            rw [linesL_at hlt, hq, List.length_append] at h2
            exact h2
          exact Nat.le_trans h1 ht
        refine wp_region_still_tail 7 (by kernel_rfl) (by kernel_rfl) ?_
        simp only [List.take_succ_cons, List.take_zero, List.drop_succ_cons, List.drop_zero]
        change wpStill _ _ ((wr.alloc (Obj.cells #[Value.int IntKind.i64 q.k, Value.string q.t] 28)).drew) (fun a' => wpList _ _ _ _ a' ((wr.alloc (Obj.cells #[Value.int IntKind.i64 q.k, Value.string q.t] 28)).drew)) _ _
        generalize hwA : (wr.alloc (Obj.cells #[Value.int IntKind.i64 q.k, Value.string q.t] 28)).drew = wA at hA0 hA1 hBA hbA hszA ⊢
        still_step
        still_step
        still_call (hW _)
        still_step
        still_step
        still_step
        still_step
        refine wpStill_nil ?_
        go_wp2_with (go_at_call 50; refine (Any.Builder_WriteString_k Tryd.lays166 Tryd.extra166 W1.heap.size W1.heap.size _ _ wA hBA hlen hszA).mono ?_)
        rintro e W3 ⟨rfl, h3, b3, _⟩
        go_wp2
        go_roundw
        case rel =>
          refine ⟨i + 1, by go_num, by omega, ?_, hbA.trans (b3.mono b1.size), Nat.le_trans hszA b3.size⟩
          rw [linesL_at hlt, hq, Lib.byteCells_append]
          exact Or.inr h3
        case measure => simp [intOf]; omega
      · have hie : i = xs.length := by omega
        rw [hie, List.take_length] at hB
        go_wp2_with (go_at_call 52; refine (Any.Builder_String_any_k Tryd.lays169 Tryd.extra169 W1.heap.size W1.heap.size (linesL xs) _ hB hsz).mono ?_)
        rintro e W2 ⟨rfl, _, b2, _⟩
        go_wp2
        go_ret
        exact ⟨by simp [printB, printL, hro], hbw.trans (b2.mono b1.size)⟩
  · rw [hro]
    go_wp2
    go_ret
    exact ⟨by simp [printB, printL, hro], b1⟩
theorem impl_RolePrint_c (xs : List Ac) (hl : xs.length < 9223372036854775807) (hs : ∀ a ∈ xs, a.t.size ≤ 281474976710656) (ht : (linesL xs).length ≤ 140737488355328) : T 25 [aAs xs] [] (.str (printB xs)) [] := by
  refine semT_belowH fun c vs hg hr hH hvs => ?_
  simp only [VRs] at hvs
  obtain ⟨v, vs', e, hv, rfl⟩ := hvs
  obtain rfl : vs = #[v] := by cases vs; simp only at e; rw [e]
  refine (rprint_walk xs hl hs ht c hg hr hH v hv).mono ?_
  rintro e w' ⟨rfl, hb⟩
  exact ⟨_, fun c' => rfl, rfl, hb⟩
end Go.Proofs.YtmlfacjgfjmdeaaDoor.C

set_option linter.unusedVariables false
set_option linter.unusedSimpArgs false
set_option maxRecDepth 4000
namespace Go.Proofs.YtmlfacjgfjmdeaaDoor.C
open Go.Sym Go.Proofs.YtmlfacjgfjmdeaaDoor.I
theorem impl_RolePrint_call {xs : List Ac} (hl : xs.length < 9223372036854775807) (hs : ∀ a ∈ xs, a.t.size ≤ 281474976710656) (ht : (linesL xs).length ≤ 140737488355328) {S : FuncId → Bool} {H : List Blk} {K : A → Dl → Prop} (hS : S 25 = false) (hK : K (.str (printB xs)) (.news [])) : @WCall' Go.Proofs.Tryd.prog S 25 [aAs xs] H ⟨K⟩ :=
  WCall_pure hS (impl_RolePrint_c xs hl hs ht) (by simp) (by simp) (by simp) hK
theorem impl_RolePrint_k {xs : List Ac} (hl : xs.length < 9223372036854775807) (hs : ∀ a ∈ xs, a.t.size ≤ 281474976710656) (ht : (linesL xs).length ≤ 140737488355328) {S : FuncId → Bool} {H : List Blk} {K : A → Dl → Prop} {zs : List A} (hS : S 25 = false) (hv : viewL (viewA 8 H) zs = some [aAs xs]) (ho : noOwns zs = true ∨ nosl (.str (printB xs)) = true) (hK : K (.str (printB xs)) (.news [])) : @WCall' Go.Proofs.Tryd.prog S 25 zs H ⟨K⟩ :=
  WCall_pure hS (impl_RolePrint_c xs hl hs ht) hv ho (by simp) hK
def wordB0 (k : Int) : ByteArray := if k = 0 then ⟨#[]⟩ else wordB k
theorem spec_l12Word_c (k : Int) (h1 : 1 ≤ k) (h2 : k ≤ 4) : T 49 [i6 k] [] (.str (wordB k)) ([]) := by
  refine semT' (S := S0) hm spec_l12Word_ok (Nat.le_of_ble_eq_true rfl) ?_
  unfold spec_l12Word; dsimp only
  simp
  rcases (by omega : k = 1 ∨ k = 2 ∨ k = 3 ∨ k = 4) with h | h | h | h <;> subst h <;> simp <;> repeat (refine ck_intro' (by first | omega | (simp; omega) | kernel_rfl) ?_; try simp)
  all_goals exact LeV.ro rfl rfl rfl
theorem spec_l12Word_call {k : Int} (h1 : 1 ≤ k) (h2 : k ≤ 4) {S : FuncId → Bool} {H : List Blk} {K : A → Dl → Prop} (hS : S 49 = false) (hK : K (.str (wordB k)) (.news [])) : @WCall' Go.Proofs.Tryd.prog S 49 [i6 k] H ⟨K⟩ :=
  WCall_pure hS (spec_l12Word_c k h1 h2) (by simp) (by simp) (by simp) hK
theorem spec_l12Word_k {k : Int} (h1 : 1 ≤ k) (h2 : k ≤ 4) {S : FuncId → Bool} {H : List Blk} {K : A → Dl → Prop} {zs : List A} (hS : S 49 = false) (hv : viewL (viewA 8 H) zs = some [i6 k]) (ho : noOwns zs = true ∨ nosl (.str (wordB k)) = true) (hK : K (.str (wordB k)) (.news [])) : @WCall' Go.Proofs.Tryd.prog S 49 zs H ⟨K⟩ :=
  WCall_pure hS (spec_l12Word_c k h1 h2) hv ho (by simp) hK
def linesB (xs : List Ac) : ByteArray := ⟨(linesL xs).toArray⟩
theorem linesB_at {xs : List Ac} {i : Nat} (h : i < xs.length) : linesB (xs.take i) ++ wordB xs[i].k ++ xs[i].t ++ ⟨#[10]⟩ = linesB (xs.take (i + 1)) := by
  unfold linesB
  rw [linesL_at h]
  apply ByteArray.ext
  apply Array.ext'
  simp [lineB]
theorem spec_RolePrint_c (xs : List Ac) (hl : xs.length < 9223372036854775807) (hs : ∀ a ∈ xs, a.t.size ≤ 281474976710656) (ht : (linesL xs).length ≤ 140737488355328) : T 24 [aAs xs] [] (.str (printB xs)) ([]) := by
  refine semT' (S := S0) hm spec_RolePrint_ok (Nat.le_of_ble_eq_true rfl) ?_
  unfold spec_RolePrint; dsimp only
  simp
  refine spec_RoleOk_call (xs := xs) hl hs rfl ?_; simp
  refine br_intro' (fun u => ?_) (fun u => ?_) <;> simp [u]
  case refine_2 => exact LeV.ro rfl rfl (by simp [printB, printL, u])
  have hk := fun (j : Nat) (h : j < xs.length) => (actF_k (show actF xs[j] = true by
    simp only [roleF, Bool.and_eq_true] at u
    have := allF_all2 u.1 h
    rw [actAt_eq h, Bool.and_eq_true] at this
    exact this.1))
  refine WLoop_fam (fun j : Nat => [(0, aAs xs), (3, A.str (linesB (xs.take j))), (4, i6 j)]) (fun _ => []) (fun j => xs.length - j)
    (fun j => j ≤ xs.length) ?_ 0 (Nat.zero_le _)
  intro j hj ih
  simp
  refine br_intro' (fun v => ?_) (fun v => ?_) <;> (have v0 := v) <;> simp only [decide_eq_true_eq, decide_eq_false_iff_not] at v <;> simp [v0]
  · have h' : j < xs.length := by omega
    obtain ⟨r, hr⟩ := encAs_at h'
    have h3 : 1 ≤ xs.length * 2 - j * 2 := by omega
    have h4 : 1 ≤ xs.length * 2 - (j * 2 + 1) := by omega
    have w0 := wrap_succ (n := j) (by omega)
    have hl1 := linesL_le xs (j + 1)
    rw [linesL_at h', List.length_append] at hl1
    have hl2 : (lineB xs[j]).data.toList.length = (wordB xs[j].k).size + xs[j].t.size + 1 := by
      show (lineB xs[j]).size = _
      simp [lineB]
      rfl
    have hl3 : (linesB (xs.take j)).size = (linesL (xs.take j)).length := by simp [linesB, ByteArray.size]
    simp [h', h3, h4, hr, encAs_k h', encAs_t h']
    refine spec_l12Word_call (k := xs[j].k) (hk j h').1 (hk j h').2 rfl ?_; simp
    refine ck_intro' (by omega) ?_; simp [h', h4, hr, encAs_k h', encAs_t h']
    refine ck_intro' (by omega) ?_; simp [h', h4, hr, encAs_k h', encAs_t h']
    refine ck_intro' (by have : (⟨#[10]⟩ : ByteArray).size = 1 := rfl
                         omega) ?_; simp
    repeat (refine ck_intro' (by first | omega | (simp; omega) | kernel_rfl) ?_; try simp)
    rw [w0, linesB_at h']
    exact ih (j + 1) (by omega) (by omega)
  · have hje : j = xs.length := by omega
    subst hje
    rw [List.take_length]
    exact LeV.ro rfl rfl (by simp [printB, printL, u, linesB])
theorem spec_RolePrint_call {xs : List Ac} (hl : xs.length < 9223372036854775807) (hs : ∀ a ∈ xs, a.t.size ≤ 281474976710656) (ht : (linesL xs).length ≤ 140737488355328) {S : FuncId → Bool} {H : List Blk} {K : A → Dl → Prop} (hS : S 24 = false) (hK : K (.str (printB xs)) (.news [])) : @WCall' Go.Proofs.Tryd.prog S 24 [aAs xs] H ⟨K⟩ :=
  WCall_pure hS (spec_RolePrint_c xs hl hs ht) (by simp) (by simp) (by simp) hK
theorem spec_RolePrint_k {xs : List Ac} (hl : xs.length < 9223372036854775807) (hs : ∀ a ∈ xs, a.t.size ≤ 281474976710656) (ht : (linesL xs).length ≤ 140737488355328) {S : FuncId → Bool} {H : List Blk} {K : A → Dl → Prop} {zs : List A} (hS : S 24 = false) (hv : viewL (viewA 8 H) zs = some [aAs xs]) (ho : noOwns zs = true ∨ nosl (.str (printB xs)) = true) (hK : K (.str (printB xs)) (.news [])) : @WCall' Go.Proofs.Tryd.prog S 24 zs H ⟨K⟩ :=
  WCall_pure hS (spec_RolePrint_c xs hl hs ht) hv ho (by simp) hK
theorem linesL_tot : ∀ xs : List Ac, (linesL xs).length ≤ totA xs + 7 * xs.length
  | [] => by simp [linesL]
  | a :: xs => by
    have h := linesL_tot xs
    have h1 : (lineB a).data.toList.length = (wordB a.k).size + a.t.size + 1 := by
      show (lineB a).size = _
      simp [lineB]
      rfl
    have h2 := wordB_size a.k
    have h3 : linesL (a :: xs) = (lineB a).data.toList ++ linesL xs := rfl
    rw [h3, List.length_append, h1]
    simp only [totA, List.length_cons]
    omega
end Go.Proofs.YtmlfacjgfjmdeaaDoor.C

set_option linter.unusedVariables false
set_option linter.unusedSimpArgs false
set_option maxRecDepth 4000
namespace Go.Proofs
open Go.Shelf
def Tryd.lays219_ren : Go.Shelf.Ren := ⟨fun | 219 => 111 | 217 => 124 | 225 => 125 | 224 => 126 | 267 => 127 | 266 => 133 | 314 => 134 | n => n, fun | 9 => 9 | 3 => 3 | 4 => 4 | 5 => 5 | 46 => 155 | 146 => 170 | 51 => 169 | n => n, fun | 1 => 0 | n => n⟩
theorem Tryd.lays219 : Go.Proofs.Lays.n219 Tryd.prog Tryd.lays219_ren := {
  mixed := by kernel_rfl
  f217 := Tryd.func124.trans (congrArg some (by kernel_rfl))
  f219 := Tryd.func111.trans (congrArg some (by kernel_rfl))
  f224 := Tryd.func126.trans (congrArg some (by kernel_rfl))
  f225 := Tryd.func125.trans (congrArg some (by kernel_rfl))
  f266 := Tryd.func133.trans (congrArg some (by kernel_rfl))
  f267 := Tryd.func127.trans (congrArg some (by kernel_rfl))
  f314 := Tryd.func134.trans (congrArg some (by kernel_rfl))
  t3 := Tryd.underlying3
  a3 := Tryd.isAgg3
  z3 := Tryd.sizeOf3
  v3 := Tryd.zeroValue3
  t4 := Tryd.underlying4
  a4 := Tryd.isAgg4
  z4 := Tryd.sizeOf4
  v4 := Tryd.zeroValue4
  t5 := Tryd.underlying5
  a5 := Tryd.isAgg5
  z5 := Tryd.sizeOf5
  v5 := Tryd.zeroValue5
  t9 := Tryd.underlying9
  a9 := Tryd.isAgg9
  z9 := Tryd.sizeOf9
  v9 := Tryd.zeroValue9
  t46 := Tryd.underlying155
  a46 := Tryd.isAgg155
  z46 := Tryd.sizeOf155
  v46 := Tryd.zeroValue155
  t51 := Tryd.underlying169
  a51 := Tryd.isAgg169
  z51 := Tryd.sizeOf169
  v51 := Tryd.zeroValue169
  t146 := Tryd.underlying170
  a146 := Tryd.isAgg170
  z146 := Tryd.sizeOf170
  v146 := Tryd.zeroValue170
  g1 := by kernel_rfl }
end Go.Proofs
namespace Go.Proofs.YtmlfacjgfjmdeaaDoor.C
open Go.Sym Go.Proofs.YtmlfacjgfjmdeaaDoor.I Go.RowKit
/-- Where the first line's end is, or -1. -/
def nlI (s : ByteArray) : Int := Lib.indexByte (bl s) 10
theorem nlI_ge (s : ByteArray) : -1 ≤ nlI s := Lib.indexByte_ge _ _
theorem nlI_lt (s : ByteArray) : nlI s < s.size := by
  rcases Int.lt_or_le (nlI s) 0 with h | h
  · omega
  · obtain ⟨o, ho⟩ : ∃ o : Nat, nlI s = o := ⟨(nlI s).toNat, by omega⟩
    have := (Lib.indexByte_some (l := bl s) (c := 10) (o := o) ho).1
    have := (List.getElem?_eq_some_iff.1 this).1
    rw [bl_len] at this
    omega
theorem index_t (s : ByteArray) : T 111 [.str s, .str ⟨#[10]⟩] [] (i6 (nlI s)) [] := by
  refine semT_belowH fun c vs hg hr hH hvs => ?_
  simp only [VRs, VR] at hvs
  obtain ⟨v, vs', e, rfl, v2, vs2, rfl, rfl, rfl⟩ := hvs
  obtain rfl : vs = #[.string s, .string ⟨#[10]⟩] := by cases vs; simp only at e; rw [e]
  refine (Any.stringslite_Index_one Tryd.lays219 s 10 c.w).mono ?_
  rintro e w' ⟨rfl, rfl⟩
  exact ⟨_, fun c' => rfl, rfl, Below.refl _ _⟩
theorem internal_stringslite_Index_c (s : ByteArray) : T 111 [.str s, .str ⟨#[10]⟩] [] (i6 (nlI s)) [] := index_t s
theorem internal_stringslite_Index_call {s : ByteArray}  {S : FuncId → Bool} {H : List Blk} {K : A → Dl → Prop} (hS : S 111 = false) (hK : K (i6 (nlI s)) (.news [])) : @WCall' Go.Proofs.Tryd.prog S 111 [.str s, .str ⟨#[10]⟩] H ⟨K⟩ :=
  WCall_pure hS (internal_stringslite_Index_c s) (by simp) (by simp) (by simp) hK
theorem internal_stringslite_Index_k {s : ByteArray}  {S : FuncId → Bool} {H : List Blk} {K : A → Dl → Prop} {zs : List A} (hS : S 111 = false) (hv : viewL (viewA 8 H) zs = some [.str s, .str ⟨#[10]⟩]) (ho : noOwns zs = true ∨ nosl (i6 (nlI s)) = true) (hK : K (i6 (nlI s)) (.news [])) : @WCall' Go.Proofs.Tryd.prog S 111 zs H ⟨K⟩ :=
  WCall_pure hS (internal_stringslite_Index_c s) hv ho (by simp) hK
def cutB (s : ByteArray) : ByteArray × ByteArray × Bool := if 0 ≤ nlI s then (s.extract 0 (nlI s).toNat, s.extract ((nlI s).toNat + 1) s.size, true) else (s, ⟨#[]⟩, false)
abbrev cutA (s : ByteArray) : A := .tup [.str (cutB s).1, .str (cutB s).2.1, .bool (cutB s).2.2]
theorem internal_stringslite_Cut_c (s : ByteArray) (hs : s.size < 9223372036854775807) : T 84 [.str s, .str ⟨#[10]⟩] [] (cutA s) ([]) := by
  refine semT' (S := S0) hm internal_stringslite_Cut_ok (Nat.le_of_ble_eq_true rfl) ?_
  unfold internal_stringslite_Cut; dsimp only
  have h0 := nlI_ge s
  have h1 := nlI_lt s
  simp
  refine internal_stringslite_Index_call (s := s) rfl ?_; simp
  refine br_intro' (fun u => ?_) (fun u => ?_) <;> (have u0 := u) <;> simp only [decide_eq_true_eq, decide_eq_false_iff_not] at u <;> simp [u0]
  · obtain ⟨o, ho⟩ : ∃ o : Nat, nlI s = o := ⟨(nlI s).toNat, by omega⟩
    have hw := wrap_succ (n := o) (by omega)
    rw [ho] at u0 ⊢
    simp [hw]
    refine ck_intro' (by omega) ?_; simp [hw]
    have hw2 : IntKind.i64.wrap ((o : Int) + ((⟨#[10]⟩ : ByteArray).size : Nat)) = ((o + 1 : Nat) : Int) := by
      rw [show (⟨#[10]⟩ : ByteArray).size = 1 from rfl, wrap64 (by omega) (by omega)]; omega
    simp only [hw2]
    refine ck_intro' (by omega) ?_; simp
    repeat (refine ck_intro' (by first | omega | (simp; omega) | kernel_rfl) ?_; try simp)
    exact LeV.ro rfl rfl (by simp [cutB, u, ho, hw2])
  · exact LeV.ro rfl rfl (by simp [cutB, u])
theorem internal_stringslite_Cut_call {s : ByteArray} (hs : s.size < 9223372036854775807) {S : FuncId → Bool} {H : List Blk} {K : A → Dl → Prop} (hS : S 84 = false) (hK : K (cutA s) (.news [])) : @WCall' Go.Proofs.Tryd.prog S 84 [.str s, .str ⟨#[10]⟩] H ⟨K⟩ :=
  WCall_pure hS (internal_stringslite_Cut_c s hs) (by simp) (by simp) (by simp) hK
theorem internal_stringslite_Cut_k {s : ByteArray} (hs : s.size < 9223372036854775807) {S : FuncId → Bool} {H : List Blk} {K : A → Dl → Prop} {zs : List A} (hS : S 84 = false) (hv : viewL (viewA 8 H) zs = some [.str s, .str ⟨#[10]⟩]) (ho : noOwns zs = true ∨ nosl (cutA s) = true) (hK : K (cutA s) (.news [])) : @WCall' Go.Proofs.Tryd.prog S 84 zs H ⟨K⟩ :=
  WCall_pure hS (internal_stringslite_Cut_c s hs) hv ho (by simp) hK
theorem strings_Cut_c (s : ByteArray) (hs : s.size < 9223372036854775807) : T 57 [.str s, .str ⟨#[10]⟩] [] (cutA s) ([]) := by
  refine semT' (S := S0) hm strings_Cut_ok (Nat.le_of_ble_eq_true rfl) ?_
  unfold strings_Cut; dsimp only
  simp
  refine internal_stringslite_Cut_call (s := s) hs rfl ?_
  simp
  exact LeV.ro rfl rfl rfl
theorem strings_Cut_call {s : ByteArray} (hs : s.size < 9223372036854775807) {S : FuncId → Bool} {H : List Blk} {K : A → Dl → Prop} (hS : S 57 = false) (hK : K (cutA s) (.news [])) : @WCall' Go.Proofs.Tryd.prog S 57 [.str s, .str ⟨#[10]⟩] H ⟨K⟩ :=
  WCall_pure hS (strings_Cut_c s hs) (by simp) (by simp) (by simp) hK
theorem strings_Cut_k {s : ByteArray} (hs : s.size < 9223372036854775807) {S : FuncId → Bool} {H : List Blk} {K : A → Dl → Prop} {zs : List A} (hS : S 57 = false) (hv : viewL (viewA 8 H) zs = some [.str s, .str ⟨#[10]⟩]) (ho : noOwns zs = true ∨ nosl (cutA s) = true) (hK : K (cutA s) (.news [])) : @WCall' Go.Proofs.Tryd.prog S 57 zs H ⟨K⟩ :=
  WCall_pure hS (strings_Cut_c s hs) hv ho (by simp) hK
/-- Does a text begin with another? -/
def preF (s p : ByteArray) : Bool := decide (p.size ≤ s.size) && decide (s.extract 0 p.size = p)
theorem internal_stringslite_HasPrefix_c (s p : ByteArray) (hs : s.size < 9223372036854775807) (hp : p.size < 9223372036854775807) : T 128 [.str s, .str p] [] (.bool (preF s p)) ([]) := by
  refine semT' (S := S0) hm internal_stringslite_HasPrefix_ok (Nat.le_of_ble_eq_true rfl) ?_
  unfold internal_stringslite_HasPrefix; dsimp only
  simp
  refine br_intro' (fun u => ?_) (fun u => ?_) <;> (have u0 := u) <;> simp only [decide_eq_true_eq, decide_eq_false_iff_not] at u <;> simp [u0, u]
  · repeat (refine ck_intro' (by first | omega | (simp; omega) | kernel_rfl) ?_; try simp)
    exact LeV.ro rfl rfl (by simp [preF, u])
  · exact LeV.ro rfl rfl (by simp [preF, u])
theorem internal_stringslite_HasPrefix_call {s p : ByteArray} (hs : s.size < 9223372036854775807) (hp : p.size < 9223372036854775807) {S : FuncId → Bool} {H : List Blk} {K : A → Dl → Prop} (hS : S 128 = false) (hK : K (.bool (preF s p)) (.news [])) : @WCall' Go.Proofs.Tryd.prog S 128 [.str s, .str p] H ⟨K⟩ :=
  WCall_pure hS (internal_stringslite_HasPrefix_c s p hs hp) (by simp) (by simp) (by simp) hK
theorem internal_stringslite_HasPrefix_k {s p : ByteArray} (hs : s.size < 9223372036854775807) (hp : p.size < 9223372036854775807) {S : FuncId → Bool} {H : List Blk} {K : A → Dl → Prop} {zs : List A} (hS : S 128 = false) (hv : viewL (viewA 8 H) zs = some [.str s, .str p]) (ho : noOwns zs = true ∨ nosl (.bool (preF s p)) = true) (hK : K (.bool (preF s p)) (.news [])) : @WCall' Go.Proofs.Tryd.prog S 128 zs H ⟨K⟩ :=
  WCall_pure hS (internal_stringslite_HasPrefix_c s p hs hp) hv ho (by simp) hK
def cutPB (s p : ByteArray) : ByteArray × Bool := if preF s p = true then (s.extract p.size s.size, true) else (s, false)
abbrev cutPA (s p : ByteArray) : A := .tup [.str (cutPB s p).1, .bool (cutPB s p).2]
theorem internal_stringslite_CutPrefix_c (s p : ByteArray) (hs : s.size < 9223372036854775807) (hp : p.size < 9223372036854775807) : T 112 [.str s, .str p] [] (cutPA s p) ([]) := by
  refine semT' (S := S0) hm internal_stringslite_CutPrefix_ok (Nat.le_of_ble_eq_true rfl) ?_
  unfold internal_stringslite_CutPrefix; dsimp only
  simp
  refine internal_stringslite_HasPrefix_call (s := s) (p := p) hs hp rfl ?_; simp
  rcases Bool.eq_false_or_eq_true (preF s p) with u | u <;> simp [u]
  · have hps : p.size ≤ s.size := by simp only [preF, Bool.and_eq_true, decide_eq_true_eq] at u; exact u.1
    repeat (refine ck_intro' (by first | omega | (simp; omega) | kernel_rfl) ?_; try simp)
    exact LeV.ro rfl rfl (by simp [cutPB, u])
  · exact LeV.ro rfl rfl (by simp [cutPB, u])
theorem internal_stringslite_CutPrefix_call {s p : ByteArray} (hs : s.size < 9223372036854775807) (hp : p.size < 9223372036854775807) {S : FuncId → Bool} {H : List Blk} {K : A → Dl → Prop} (hS : S 112 = false) (hK : K (cutPA s p) (.news [])) : @WCall' Go.Proofs.Tryd.prog S 112 [.str s, .str p] H ⟨K⟩ :=
  WCall_pure hS (internal_stringslite_CutPrefix_c s p hs hp) (by simp) (by simp) (by simp) hK
theorem internal_stringslite_CutPrefix_k {s p : ByteArray} (hs : s.size < 9223372036854775807) (hp : p.size < 9223372036854775807) {S : FuncId → Bool} {H : List Blk} {K : A → Dl → Prop} {zs : List A} (hS : S 112 = false) (hv : viewL (viewA 8 H) zs = some [.str s, .str p]) (ho : noOwns zs = true ∨ nosl (cutPA s p) = true) (hK : K (cutPA s p) (.news [])) : @WCall' Go.Proofs.Tryd.prog S 112 zs H ⟨K⟩ :=
  WCall_pure hS (internal_stringslite_CutPrefix_c s p hs hp) hv ho (by simp) hK
theorem strings_CutPrefix_c (s p : ByteArray) (hs : s.size < 9223372036854775807) (hp : p.size < 9223372036854775807) : T 85 [.str s, .str p] [] (cutPA s p) ([]) := by
  refine semT' (S := S0) hm strings_CutPrefix_ok (Nat.le_of_ble_eq_true rfl) ?_
  unfold strings_CutPrefix; dsimp only
  simp
  refine internal_stringslite_CutPrefix_call (s := s) (p := p) hs hp rfl ?_
  simp
  exact LeV.ro rfl rfl rfl
theorem strings_CutPrefix_call {s p : ByteArray} (hs : s.size < 9223372036854775807) (hp : p.size < 9223372036854775807) {S : FuncId → Bool} {H : List Blk} {K : A → Dl → Prop} (hS : S 85 = false) (hK : K (cutPA s p) (.news [])) : @WCall' Go.Proofs.Tryd.prog S 85 [.str s, .str p] H ⟨K⟩ :=
  WCall_pure hS (strings_CutPrefix_c s p hs hp) (by simp) (by simp) (by simp) hK
theorem strings_CutPrefix_k {s p : ByteArray} (hs : s.size < 9223372036854775807) (hp : p.size < 9223372036854775807) {S : FuncId → Bool} {H : List Blk} {K : A → Dl → Prop} {zs : List A} (hS : S 85 = false) (hv : viewL (viewA 8 H) zs = some [.str s, .str p]) (ho : noOwns zs = true ∨ nosl (cutPA s p) = true) (hK : K (cutPA s p) (.news [])) : @WCall' Go.Proofs.Tryd.prog S 85 zs H ⟨K⟩ :=
  WCall_pure hS (strings_CutPrefix_c s p hs hp) hv ho (by simp) hK
/-- The act that a line is, n kinds being left: its kind may have no text behind it. -/
def actFrom : Nat → ByteArray → Ac
  | 0, _ => ⟨0, ⟨#[]⟩⟩
  | n + 1, s => if preF s (wordB (4 - (n : Int))) = true then ⟨4 - (n : Int), s.extract (wordB (4 - (n : Int))).size s.size⟩ else actFrom n s
def actL (s : ByteArray) : Ac := actFrom 4 s
/-- .. as the model reads it: there must be a text behind its word. -/
def sactFrom : Nat → ByteArray → Ac × Bool
  | 0, _ => (⟨0, ⟨#[]⟩⟩, false)
  | n + 1, s => if (wordB (4 - (n : Int))).size < s.size ∧ s.extract 0 (wordB (4 - (n : Int))).size = wordB (4 - (n : Int)) then (⟨4 - (n : Int), s.extract (wordB (4 - (n : Int))).size s.size⟩, true) else sactFrom n s
def sactL (s : ByteArray) : Ac × Bool := sactFrom 4 s
abbrev acrow (a : Ac) : Blk := ⟨0, false, 1, encA a, none⟩
theorem impl_actOf_c (s : ByteArray) (hs : s.size < 9223372036854775807) : T 58 [.str s] [] (aAc (actL s)) ([]) := by
  refine semT' (S := S0) hm impl_actOf_ok (Nat.le_of_ble_eq_true rfl) ?_
  unfold impl_actOf; dsimp only
  simp
  refine WLoop_fam (fun j : Nat => [(0, A.str s), (2, A.ptr 0 0 0), (3, i6 (5 - j))]) (fun _ => [⟨0, false, 1, [i6 0, .str ⟨#[]⟩], none⟩]) (fun j => j)
    (fun j => j ≤ 4 ∧ actL s = actFrom j s) ?_ 4 ⟨Nat.le_refl _, rfl⟩
  intro j ⟨hj, hf⟩ ih
  simp
  refine br_intro' (fun u => ?_) (fun u => ?_) <;> (have u0 := u) <;> simp only [decide_eq_true_eq, decide_eq_false_iff_not] at u <;> simp [u0]
  · obtain ⟨n, rfl⟩ : ∃ n, j = n + 1 := ⟨j - 1, by omega⟩
    have hk : (5 : Int) - ((n + 1 : Nat) : Int) = 4 - (n : Int) := by omega
    have hw : IntKind.i64.wrap (4 - (n : Int) + 1) = 5 - n := by rw [wrap64 (by omega) (by omega)]; omega
    have hz := wordB_size (4 - (n : Int))
    rw [hk]
    refine impl_wordOf_call (k := 4 - (n : Int)) (by omega) (by omega) rfl ?_; simp
    refine strings_CutPrefix_call (s := s) (p := wordB (4 - (n : Int))) hs (by omega) rfl ?_
    simp
    by_cases g : preF s (wordB (4 - (n : Int))) = true
    · have gc : cutPB s (wordB (4 - (n : Int))) = (s.extract (wordB (4 - (n : Int))).size s.size, true) := by simp [cutPB, g]
      simp [gc]
      exact LeV.ro rfl rfl (by rw [hf]; simp [actFrom, g])
    · have gc : cutPB s (wordB (4 - (n : Int))) = (s, false) := by simp [cutPB, g]
      simp [gc, hw]
      exact ih n ⟨by omega, by rw [hf]; simp [actFrom, g]⟩ (by omega)
  · have hj0 : j = 0 := by omega
    subst hj0
    exact LeV.ro rfl rfl (by rw [hf]; rfl)
theorem impl_actOf_call {s : ByteArray} (hs : s.size < 9223372036854775807) {S : FuncId → Bool} {H : List Blk} {K : A → Dl → Prop} (hS : S 58 = false) (hK : K (aAc (actL s)) (.news [])) : @WCall' Go.Proofs.Tryd.prog S 58 [.str s] H ⟨K⟩ :=
  WCall_pure hS (impl_actOf_c s hs) (by simp) (by simp) (by simp) hK
theorem impl_actOf_k {s : ByteArray} (hs : s.size < 9223372036854775807) {S : FuncId → Bool} {H : List Blk} {K : A → Dl → Prop} {zs : List A} (hS : S 58 = false) (hv : viewL (viewA 8 H) zs = some [.str s]) (ho : noOwns zs = true ∨ nosl (aAc (actL s)) = true) (hK : K (aAc (actL s)) (.news [])) : @WCall' Go.Proofs.Tryd.prog S 58 zs H ⟨K⟩ :=
  WCall_pure hS (impl_actOf_c s hs) hv ho (by simp) hK
end Go.Proofs.YtmlfacjgfjmdeaaDoor.C

set_option linter.unusedVariables false
set_option linter.unusedSimpArgs false
set_option maxRecDepth 4000
namespace Go.Proofs.YtmlfacjgfjmdeaaDoor.C
open Go.Sym Go.Proofs.YtmlfacjgfjmdeaaDoor.I
theorem spec_l12Act_c (s : ByteArray) (hs : s.size < 9223372036854775807) : T 56 [.str s] [] (.tup [aAc (sactL s).1, .bool (sactL s).2]) ([]) := by
  refine semT' (S := S0) hm spec_l12Act_ok (Nat.le_of_ble_eq_true rfl) ?_
  unfold spec_l12Act; dsimp only
  simp
  refine WLoop_fam (fun j : Nat => [(0, A.str s), (2, A.ptr 0 0 0), (4, i6 (5 - j))]) (fun _ => [⟨0, false, 1, [i6 0, .str ⟨#[]⟩], none⟩]) (fun j => j)
    (fun j => j ≤ 4 ∧ sactL s = sactFrom j s) ?_ 4 ⟨Nat.le_refl _, rfl⟩
  intro j ⟨hj, hf⟩ ih
  simp
  refine br_intro' (fun u => ?_) (fun u => ?_) <;> (have u0 := u) <;> simp only [decide_eq_true_eq, decide_eq_false_iff_not] at u <;> simp [u0]
  · obtain ⟨n, rfl⟩ : ∃ n, j = n + 1 := ⟨j - 1, by omega⟩
    have hk : (5 : Int) - ((n + 1 : Nat) : Int) = 4 - (n : Int) := by omega
    have hw : IntKind.i64.wrap (4 - (n : Int) + 1) = 5 - n := by rw [wrap64 (by omega) (by omega)]; omega
    have hz := wordB_size (4 - (n : Int))
    rw [hk]
    refine spec_l12Word_call (k := 4 - (n : Int)) (by omega) (by omega) rfl ?_; simp
    refine br_intro' (fun v => ?_) (fun v => ?_) <;> (have v0 := v) <;> simp only [decide_eq_true_eq, decide_eq_false_iff_not] at v <;> simp [v0]
    · have hle : (wordB (4 - (n : Int))).size ≤ s.size := by omega
      refine ck_intro' (by omega) ?_; simp
      by_cases g : s.extract 0 (wordB (4 - (n : Int))).size = wordB (4 - (n : Int))
      · simp [g]
        repeat (refine ck_intro' (by first | omega | (simp; omega) | kernel_rfl) ?_; try simp)
        exact LeV.ro rfl rfl (by rw [hf]; simp [sactFrom, g, v])
      · simp [g, hw]
        exact ih n ⟨by omega, by rw [hf]; simp [sactFrom, g]⟩ (by omega)
    · simp [hw]
      exact ih n ⟨by omega, by rw [hf]; simp [sactFrom, v]⟩ (by omega)
  · have hj0 : j = 0 := by omega
    subst hj0
    exact LeV.ro rfl rfl (by rw [hf]; rfl)
theorem spec_l12Act_call {s : ByteArray} (hs : s.size < 9223372036854775807) {S : FuncId → Bool} {H : List Blk} {K : A → Dl → Prop} (hS : S 56 = false) (hK : K (.tup [aAc (sactL s).1, .bool (sactL s).2]) (.news [])) : @WCall' Go.Proofs.Tryd.prog S 56 [.str s] H ⟨K⟩ :=
  WCall_pure hS (spec_l12Act_c s hs) (by simp) (by simp) (by simp) hK
theorem spec_l12Act_k {s : ByteArray} (hs : s.size < 9223372036854775807) {S : FuncId → Bool} {H : List Blk} {K : A → Dl → Prop} {zs : List A} (hS : S 56 = false) (hv : viewL (viewA 8 H) zs = some [.str s]) (ho : noOwns zs = true ∨ nosl (.tup [aAc (sactL s).1, .bool (sactL s).2]) = true) (hK : K (.tup [aAc (sactL s).1, .bool (sactL s).2]) (.news [])) : @WCall' Go.Proofs.Tryd.prog S 56 zs H ⟨K⟩ :=
  WCall_pure hS (spec_l12Act_c s hs) hv ho (by simp) hK
theorem preF_head {s p : ByteArray} (h : preF s p = true) (hp : 0 < p.size) : byt s 0 = byt p 0 := by
  simp only [preF, Bool.and_eq_true, decide_eq_true_eq] at h
  obtain ⟨h1, h2⟩ := h
  have h3 : bl p = (bl s).take p.size := by
    rw [← h2, bl_extract (Nat.zero_le _) h1]
    simp [h2]
  simp only [byt, List.getD_eq_getElem?_getD]
  rw [h3, List.getElem?_take_of_lt hp]
theorem wordB_head (k : Int) (h1 : 1 ≤ k) (h2 : k ≤ 4) : (wordB k).size ≠ 0 ∧ ((byt (wordB k) 0 = 102 ∧ k = 1) ∨ (byt (wordB k) 0 = 115 ∧ k = 2) ∨ (byt (wordB k) 0 = 116 ∧ k = 3) ∨ (byt (wordB k) 0 = 99 ∧ k = 4)) := by
  rcases (by omega : k = 1 ∨ k = 2 ∨ k = 3 ∨ k = 4) with h | h | h | h <;> subst h <;> decide
theorem wordB_one {s : ByteArray} {k j : Int} (h1 : 1 ≤ k) (h2 : k ≤ 4) (h3 : 1 ≤ j) (h4 : j ≤ 4) (hk : preF s (wordB k) = true) (hj : preF s (wordB j) = true) : k = j := by
  obtain ⟨a1, a2⟩ := wordB_head k h1 h2
  obtain ⟨b1, b2⟩ := wordB_head j h3 h4
  have e := (preF_head hk (by omega)).symm.trans (preF_head hj (by omega))
  rcases a2 with ⟨x, rfl⟩ | ⟨x, rfl⟩ | ⟨x, rfl⟩ | ⟨x, rfl⟩ <;> rcases b2 with ⟨y, rfl⟩ | ⟨y, rfl⟩ | ⟨y, rfl⟩ | ⟨y, rfl⟩ <;> first | rfl | (rw [x, y] at e; exact absurd e (by decide))
theorem sact_pre {s p : ByteArray} : (p.size < s.size ∧ s.extract 0 p.size = p) ↔ (preF s p = true ∧ p.size < s.size) := by
  simp only [preF, Bool.and_eq_true, decide_eq_true_eq]
  exact ⟨fun ⟨a, b⟩ => ⟨⟨by omega, b⟩, a⟩, fun ⟨⟨_, b⟩, c⟩ => ⟨c, b⟩⟩
theorem sact_none : ∀ {n : Nat} {s : ByteArray}, (∀ k : Int, 4 - (n : Int) < k → k ≤ 4 → preF s (wordB k) = true → ¬ (wordB k).size < s.size) → sactFrom n s = (⟨0, ⟨#[]⟩⟩, false)
  | 0, s, h => rfl
  | n + 1, s, h => by
    unfold sactFrom
    rw [if_neg (by rw [sact_pre]; intro ⟨a, b⟩; exact h (4 - n) (by omega) (by omega) a b)]
    exact sact_none fun k h1 h2 => h k (by omega) h2
theorem sact_eq : ∀ {n : Nat} {s : ByteArray}, n ≤ 4 → sactFrom n s = if 0 < (actFrom n s).t.size then (actFrom n s, true) else (⟨0, ⟨#[]⟩⟩, false)
  | 0, s, _ => rfl
  | n + 1, s, hn => by
    unfold actFrom
    by_cases g : preF s (wordB (4 - (n : Int))) = true
    · rw [if_pos g]
      have hsz : (s.extract (wordB (4 - (n : Int))).size s.size).size = s.size - (wordB (4 - (n : Int))).size := by simp
      by_cases v : (wordB (4 - (n : Int))).size < s.size
      · unfold sactFrom
        rw [if_pos (sact_pre.2 ⟨g, v⟩), if_pos (by simp only [hsz]; omega)]
      · rw [if_neg (by simp only [hsz]; omega)]
        exact sact_none fun k h1 h2 h3 => by
          rw [wordB_one (by omega) h2 (by omega) (by omega) h3 g]
          exact v
    · rw [if_neg g]
      unfold sactFrom
      rw [if_neg (by rw [sact_pre]; exact fun h => g h.1)]
      exact sact_eq (by omega)
theorem sactL_eq (s : ByteArray) : sactL s = if 0 < (actL s).t.size then (actL s, true) else (⟨0, ⟨#[]⟩⟩, false) := sact_eq (Nat.le_refl _)
/-- A line is its word and its text. -/
theorem actFrom_line : ∀ {n : Nat} {s : ByteArray}, (actFrom n s).k ≠ 0 → wordB (actFrom n s).k ++ (actFrom n s).t = s
  | 0, s, h => absurd rfl h
  | n + 1, s, h => by
    unfold actFrom at h ⊢
    by_cases g : preF s (wordB (4 - (n : Int))) = true
    · rw [if_pos g]
      simp only [preF, Bool.and_eq_true, decide_eq_true_eq] at g
      apply ba_ext
      rw [bl_app]
      simp only
      rw [bl_extract g.1 (Nat.le_refl _)]
      have e := bl_extract (Nat.zero_le _) g.1
      rw [g.2] at e
      simp only [List.drop_zero, Nat.sub_zero] at e
      have e2 : ((bl s).drop (wordB (4 - (n : Int))).size).take (s.size - (wordB (4 - (n : Int))).size) = (bl s).drop (wordB (4 - (n : Int))).size := List.take_of_length_le (by simp)
      rw [e2]
      conv => lhs; arg 1; rw [e]
      exact List.take_append_drop _ _
    · rw [if_neg g] at h ⊢
      exact actFrom_line h
theorem actF_text {a : Ac} (h : actF a = true) : 0 < a.t.size := by
  rcases Nat.eq_zero_or_pos a.t.size with e | e
  · exfalso
    have e2 : a.t = ⟨#[]⟩ := ba_ext (List.eq_nil_of_length_eq_zero (by rw [bl_len]; exact e))
    unfold actF at h
    rw [e2, show oneL ⟨#[]⟩ = false from by decide, show (patF ⟨#[]⟩).2 = false from by kernel_rfl] at h
    simp at h
  · exact e
end Go.Proofs.YtmlfacjgfjmdeaaDoor.C

set_option linter.unusedVariables false
set_option linter.unusedSimpArgs false
set_option maxRecDepth 4000
namespace Go.Proofs.YtmlfacjgfjmdeaaDoor.C
open Go.Sym Go.Proofs.YtmlfacjgfjmdeaaDoor.I
/-- At most n lines, and what is behind them. -/
def linesR : Nat → ByteArray → List ByteArray × ByteArray
  | 0, s => ([], s)
  | n + 1, s => if 0 ≤ nlI s then ((cutB s).1 :: (linesR n (cutB s).2.1).1, (linesR n (cutB s).2.1).2) else ([], s)
def actsOf (s : ByteArray) : List Ac := (linesR 21 s).1.map actL
/-- What a role's text is read to be. -/
def rpF (s : ByteArray) : List Ac × Bool := if (linesR 21 s).2.size = 0 ∧ roleF (actsOf s) = true then (actsOf s, true) else ([], false)
theorem cutB_cat {s : ByteArray} (h : 0 ≤ nlI s) : bl s = bl (cutB s).1 ++ 10 :: bl (cutB s).2.1 ∧ (cutB s).2.1.size < s.size ∧ (cutB s).2.2 = true ∧ (cutB s).1.size ≤ s.size := by
  have h1 := nlI_lt s
  obtain ⟨o, ho⟩ : ∃ o : Nat, nlI s = o := ⟨(nlI s).toNat, by omega⟩
  have hg := (Lib.indexByte_some (l := bl s) (c := 10) (o := o) ho).1
  have hlt : o < s.size := by omega
  have hd : (bl s).drop o = 10 :: (bl s).drop (o + 1) := by
    rw [List.drop_eq_getElem_cons (by simpa using hlt)]
    rw [List.getElem?_eq_getElem (by simpa using hlt)] at hg
    rw [Option.some.inj hg]
  have hc : cutB s = (s.extract 0 o, s.extract (o + 1) s.size, true) := by simp [cutB, h, ho]
  rw [hc]
  simp only [and_true]
  refine ⟨?_, by simp; omega, by simp; omega⟩
  rw [bl_extract (Nat.zero_le _) (by omega), bl_extract (by omega) (Nat.le_refl _)]
  rw [List.drop_zero, Nat.sub_zero, List.take_of_length_le (l := (bl s).drop (o + 1)) (by simp), ← hd, List.take_append_drop]
theorem linesR_le : ∀ (n : Nat) (s : ByteArray), (linesR n s).1.length ≤ n
  | 0, s => Nat.le_refl _
  | n + 1, s => by
    unfold linesR
    split
    · have := linesR_le n (cutB s).2.1
      simp only [List.length_cons]
      omega
    · exact Nat.zero_le _
theorem linesR_cat : ∀ (n : Nat) (s : ByteArray), bl s = ((linesR n s).1.flatMap fun l => bl l ++ [10]) ++ bl (linesR n s).2
  | 0, s => rfl
  | n + 1, s => by
    unfold linesR
    split
    · rename_i h
      have h1 := linesR_cat n (cutB s).2.1
      simp only [List.flatMap_cons]
      rw [(cutB_cat h).1]
      conv => lhs; rw [h1]
      simp
    · rfl
theorem lines_acts : ∀ (ls : List ByteArray), (∀ l ∈ ls, (actL l).k ≠ 0) → linesL (ls.map actL) = ls.flatMap fun l => bl l ++ [10]
  | [], h => rfl
  | l :: ls, h => by
    have h1 := lines_acts ls (fun x hx => h x (List.mem_cons_of_mem _ hx))
    have h2 : lineB (actL l) = l ++ ⟨#[10]⟩ := by
      show wordB (actL l).k ++ (actL l).t ++ _ = _
      rw [show wordB (actL l).k ++ (actL l).t = l from actFrom_line (h l (List.mem_cons_self ..))]
    show (lineB (actL l)).data.toList ++ linesL (ls.map actL) = (bl l ++ [10]) ++ ls.flatMap fun l => bl l ++ [10]
    rw [h1, h2]
    show bl (l ++ ⟨#[10]⟩) ++ _ = _
    rw [bl_app]
theorem roleF_mem {xs : List Ac} (h : roleF xs = true) : (∀ a ∈ xs, actF a = true) ∧ 1 ≤ xs.length ∧ xs.length ≤ 20 := by
  simp only [roleF, Bool.and_eq_true] at h
  refine ⟨fun a ha => ?_, ?_⟩
  · obtain ⟨j, hj, rfl⟩ := List.getElem_of_mem ha
    have := allF_all2 h.1 hj
    rw [actAt_eq hj, Bool.and_eq_true] at this
    exact this.1
  · have := h.2
    simp only [inF, decide_eq_true_eq] at this
    omega
/-- What is read, printed, is what was read. -/
theorem rp_print {s : ByteArray} (h : roleF (actsOf s) = true) (h2 : (linesR 21 s).2.size = 0) : printB (actsOf s) = s := by
  have hk : ∀ l ∈ (linesR 21 s).1, (actL l).k ≠ 0 := fun l hl e => by
    have := actF_k ((roleF_mem h).1 (actL l) (List.mem_map_of_mem hl))
    omega
  apply ba_ext
  rw [linesR_cat 21 s, List.eq_nil_of_length_eq_zero (l := bl (linesR 21 s).2) (by rw [bl_len]; exact h2), List.append_nil, ← lines_acts _ hk]
  show (printL (actsOf s)).toArray.toList = _
  unfold printL
  rw [if_pos h]
  simp only [actsOf]
theorem rp_size {s : ByteArray} (h : roleF (actsOf s) = true) : (linesL (actsOf s)).length ≤ s.size := by
  have hk : ∀ l ∈ (linesR 21 s).1, (actL l).k ≠ 0 := fun l hl e => by
    have := actF_k ((roleF_mem h).1 (actL l) (List.mem_map_of_mem hl))
    omega
  have h1 := congrArg List.length (linesR_cat 21 s)
  rw [List.length_append, ← lines_acts _ hk, bl_len] at h1
  show (linesL ((linesR 21 s).1.map actL)).length ≤ _
  omega
theorem linesR_size : ∀ (n : Nat) (s : ByteArray) (l : ByteArray), l ∈ (linesR n s).1 → l.size ≤ s.size
  | 0, s, l, h => by simp [linesR] at h
  | n + 1, s, l, h => by
    unfold linesR at h
    split at h
    · rename_i g
      have hc := cutB_cat g
      simp only [List.mem_cons] at h
      rcases h with rfl | h
      · exact hc.2.2.2
      · have := linesR_size n _ l h
        omega
    · simp at h
theorem actFrom_size : ∀ (n : Nat) (s : ByteArray), (actFrom n s).t.size ≤ s.size
  | 0, s => Nat.zero_le _
  | n + 1, s => by
    unfold actFrom
    split
    · simp
    · exact actFrom_size n s
theorem actsOf_size {s : ByteArray} {a : Ac} (h : a ∈ actsOf s) : a.t.size ≤ s.size := by
  obtain ⟨l, hl, rfl⟩ := List.mem_map.1 h
  exact Nat.le_trans (actFrom_size 4 l) (linesR_size 21 s l hl)
theorem actsOf_len (s : ByteArray) : (actsOf s).length ≤ 21 := by
  simp only [actsOf, List.length_map]
  exact linesR_le 21 s
end Go.Proofs.YtmlfacjgfjmdeaaDoor.C

set_option linter.unusedVariables false
set_option linter.unusedSimpArgs false
set_option maxRecDepth 4000
namespace Go.Proofs.YtmlfacjgfjmdeaaDoor.C
open Go.Sym Go.Proofs.YtmlfacjgfjmdeaaDoor.I
theorem linesR_nil (n : Nat) : linesR n ⟨#[]⟩ = ([], ⟨#[]⟩) := by
  cases n with
  | zero => rfl
  | succ n => exact if_neg (by decide)
theorem impl_RoleParse_c (s : ByteArray) (hs : s.size ≤ 1099511627776) : T 29 [.str s] [] (.tup [acref 0 (rpF s).1, .bool (rpF s).2]) ([acblk (rpF s).1]) := by
  refine semT' (S := S0) hm impl_RoleParse_ok (Nat.le_of_ble_eq_true rfl) ?_
  unfold impl_RoleParse; dsimp only
  simp
  refine WLoop_virt 2 [(0, A.str s), (4, A.ref 0 0 0 0), (5, A.str s)] ?_ ?_
  · intro t y hy
    simp [Sym.get] at hy ⊢
    (repeat' split at hy) <;> simp_all
  refine WLoop_fam (fun p : List Ac × ByteArray => [(0, A.str s), (4, acref 0 p.1), (5, A.str p.2)]) (fun p => [acblk p.1]) (fun p => p.2.size)
    (fun p => p.1.length ≤ 21 ∧ p.2.size ≤ s.size ∧ actsOf s = p.1 ++ (linesR (21 - p.1.length) p.2).1.map actL ∧ (linesR 21 s).2 = (linesR (21 - p.1.length) p.2).2) ?_ ([], s) ⟨Nat.zero_le _, Nat.le_refl _, rfl, rfl⟩
  rintro ⟨L, r⟩ ⟨hL, hr, hA, hE⟩ ih
  simp only at hL hr hA hE
  have hLs : ∀ a ∈ L, a.t.size ≤ 281474976710656 := fun a ha => by
    have := actsOf_size (s := s) (a := a) (by rw [hA]; exact List.mem_append_left _ ha)
    omega
  simp
  refine br_intro' (fun u => ?_) (fun u => ?_) <;> (have u0 := u) <;> simp only [decide_eq_true_eq, decide_eq_false_iff_not] at u <;> simp [u0]
  · have he : linesR (21 - L.length) r = ([], r) := by subst u; exact linesR_nil _
    rw [he] at hA hE
    simp only [List.map_nil, List.append_nil] at hA hE
    refine impl_RoleOk_k (xs := L) (by omega) hLs rfl (by simp) (by simp) ?_; simp
    rcases Bool.eq_false_or_eq_true (roleF L) with q | q <;> simp [q]
    · have hq : roleF (actsOf s) = true := by rw [hA]; exact q
      have hz : (linesR 21 s).2.size = 0 := by rw [hE, u]; rfl
      have hp : printB L = s := by rw [← hA]; exact rp_print hq hz
      have hpl : (linesL L).length ≤ 140737488355328 := by
        have := rp_size hq
        rw [hA] at this
        omega
      have hrp : rpF s = (L, true) := by rw [← hA]; exact if_pos ⟨hz, hq⟩
      refine impl_RolePrint_k (xs := L) (by omega) hLs hpl rfl (by simp) (by simp) ?_; simp
      rw [hp, hrp]
      simp
      first | (refine LeV.tell [none] ?_ ?_ ?_ <;> (simp; done)) | (refine LeV.tell [some 0] ?_ ?_ ?_ <;> (simp; done)) | (refine LeV.tell [some 1] ?_ ?_ ?_ <;> (simp; done)) | (refine LeV.tell [some 2] ?_ ?_ ?_ <;> (simp; done)) | (refine LeV.tell [some 3] ?_ ?_ ?_ <;> (simp; done)) | (refine LeV.tell [some 4] ?_ ?_ ?_ <;> (simp; done)) | (refine LeV.tell [some 5] ?_ ?_ ?_ <;> (simp; done)) | (refine LeV.tell [some 6] ?_ ?_ ?_ <;> (simp; done)) | (refine LeV.tell [some 7] ?_ ?_ ?_ <;> (simp; done)) | (refine LeV.tell [some 8] ?_ ?_ ?_ <;> (simp; done)) | (refine LeV.tell [some 9] ?_ ?_ ?_ <;> (simp; done)) | (refine LeV.tell [some 10] ?_ ?_ ?_ <;> (simp; done)) | (refine LeV.tell [some 11] ?_ ?_ ?_ <;> (simp; done)) | (refine LeV.tell [some 12] ?_ ?_ ?_ <;> (simp; done)) | (refine LeV.tell [some 13] ?_ ?_ ?_ <;> (simp; done)) | (refine LeV.tell [some 14] ?_ ?_ ?_ <;> (simp; done)) | (refine LeV.tell [some 15] ?_ ?_ ?_ <;> (simp; done))
    · have hrp : rpF s = ([], false) := if_neg (by rw [hA, q]; simp)
      rw [hrp]
      first | (refine LeV.tell [none] ?_ ?_ ?_ <;> (simp; done)) | (refine LeV.tell [some 0] ?_ ?_ ?_ <;> (simp; done)) | (refine LeV.tell [some 1] ?_ ?_ ?_ <;> (simp; done)) | (refine LeV.tell [some 2] ?_ ?_ ?_ <;> (simp; done)) | (refine LeV.tell [some 3] ?_ ?_ ?_ <;> (simp; done)) | (refine LeV.tell [some 4] ?_ ?_ ?_ <;> (simp; done)) | (refine LeV.tell [some 5] ?_ ?_ ?_ <;> (simp; done)) | (refine LeV.tell [some 6] ?_ ?_ ?_ <;> (simp; done)) | (refine LeV.tell [some 7] ?_ ?_ ?_ <;> (simp; done)) | (refine LeV.tell [some 8] ?_ ?_ ?_ <;> (simp; done)) | (refine LeV.tell [some 9] ?_ ?_ ?_ <;> (simp; done)) | (refine LeV.tell [some 10] ?_ ?_ ?_ <;> (simp; done)) | (refine LeV.tell [some 11] ?_ ?_ ?_ <;> (simp; done)) | (refine LeV.tell [some 12] ?_ ?_ ?_ <;> (simp; done)) | (refine LeV.tell [some 13] ?_ ?_ ?_ <;> (simp; done)) | (refine LeV.tell [some 14] ?_ ?_ ?_ <;> (simp; done)) | (refine LeV.tell [some 15] ?_ ?_ ?_ <;> (simp; done))
  refine br_intro' (fun v => ?_) (fun v => ?_) <;> (have v0 := v) <;> simp only [decide_eq_true_eq, decide_eq_false_iff_not] at v <;> simp [v0]
  case refine_2 =>
    have hL21 : 21 - L.length = 0 := by omega
    have he : linesR (21 - L.length) r = ([], r) := by rw [hL21]; rfl
    rw [he] at hA hE
    simp only [List.map_nil, List.append_nil] at hA hE
    have q : roleF L = false := by
      rcases Bool.eq_false_or_eq_true (roleF L) with q | q
      · have := (roleF_mem q).2
        omega
      · exact q
    refine impl_RoleOk_k (xs := L) (by omega) hLs rfl (by simp) (by simp) ?_; simp [q]
    have hrp : rpF s = ([], false) := if_neg (by rw [hA, q]; simp)
    rw [hrp]
    first | (refine LeV.tell [none] ?_ ?_ ?_ <;> (simp; done)) | (refine LeV.tell [some 0] ?_ ?_ ?_ <;> (simp; done)) | (refine LeV.tell [some 1] ?_ ?_ ?_ <;> (simp; done)) | (refine LeV.tell [some 2] ?_ ?_ ?_ <;> (simp; done)) | (refine LeV.tell [some 3] ?_ ?_ ?_ <;> (simp; done)) | (refine LeV.tell [some 4] ?_ ?_ ?_ <;> (simp; done)) | (refine LeV.tell [some 5] ?_ ?_ ?_ <;> (simp; done)) | (refine LeV.tell [some 6] ?_ ?_ ?_ <;> (simp; done)) | (refine LeV.tell [some 7] ?_ ?_ ?_ <;> (simp; done)) | (refine LeV.tell [some 8] ?_ ?_ ?_ <;> (simp; done)) | (refine LeV.tell [some 9] ?_ ?_ ?_ <;> (simp; done)) | (refine LeV.tell [some 10] ?_ ?_ ?_ <;> (simp; done)) | (refine LeV.tell [some 11] ?_ ?_ ?_ <;> (simp; done)) | (refine LeV.tell [some 12] ?_ ?_ ?_ <;> (simp; done)) | (refine LeV.tell [some 13] ?_ ?_ ?_ <;> (simp; done)) | (refine LeV.tell [some 14] ?_ ?_ ?_ <;> (simp; done)) | (refine LeV.tell [some 15] ?_ ?_ ?_ <;> (simp; done))
  have hL20 : 21 - L.length = (20 - L.length) + 1 := by omega
  refine strings_Cut_call (s := r) (by omega) rfl ?_; simp
  by_cases g : 0 ≤ nlI r
  · obtain ⟨c1, c2, c3, c4⟩ := cutB_cat g
    simp [c3]
    refine impl_actOf_call (s := (cutB r).1) (by omega) rfl ?_; simp
    refine ck_intro' (by omega) ?_; simp
    refine WLoop_drop [acblk (L ++ [actL (cutB r).1])] [_] (by simp [encAs_snoc, encA]; rfl) (by simp) (by simp) (by simp) ?_
    have hres : linesR (21 - L.length) r = ((cutB r).1 :: (linesR (20 - L.length) (cutB r).2.1).1, (linesR (20 - L.length) (cutB r).2.1).2) := by rw [hL20]; exact if_pos g
    have := ih (L ++ [actL (cutB r).1], (cutB r).2.1) ⟨by simp; omega, by simp only; omega, by
      simp only [List.length_append, List.length_singleton]
      rw [show 21 - (L.length + 1) = 20 - L.length by omega, hA, hres]
      simp, by
      simp only [List.length_append, List.length_singleton]
      rw [show 21 - (L.length + 1) = 20 - L.length by omega, hE, hres]⟩ c2
    rw [show L.length + 1 = (L ++ [actL (cutB r).1]).length by simp]
    exact this
  · have gc : cutB r = (r, ⟨#[]⟩, false) := by simp [cutB, g]
    simp [gc]
    have he : linesR (21 - L.length) r = ([], r) := by rw [hL20]; exact if_neg g
    rw [he] at hE
    have hrp : rpF s = ([], false) := if_neg (by
      rw [hE]
      intro h
      apply u
      exact ba_ext (List.eq_nil_of_length_eq_zero (by rw [bl_len]; exact h.1)))
    rw [hrp]
    first | (refine LeV.tell [none] ?_ ?_ ?_ <;> (simp; done)) | (refine LeV.tell [some 0] ?_ ?_ ?_ <;> (simp; done)) | (refine LeV.tell [some 1] ?_ ?_ ?_ <;> (simp; done)) | (refine LeV.tell [some 2] ?_ ?_ ?_ <;> (simp; done)) | (refine LeV.tell [some 3] ?_ ?_ ?_ <;> (simp; done)) | (refine LeV.tell [some 4] ?_ ?_ ?_ <;> (simp; done)) | (refine LeV.tell [some 5] ?_ ?_ ?_ <;> (simp; done)) | (refine LeV.tell [some 6] ?_ ?_ ?_ <;> (simp; done)) | (refine LeV.tell [some 7] ?_ ?_ ?_ <;> (simp; done)) | (refine LeV.tell [some 8] ?_ ?_ ?_ <;> (simp; done)) | (refine LeV.tell [some 9] ?_ ?_ ?_ <;> (simp; done)) | (refine LeV.tell [some 10] ?_ ?_ ?_ <;> (simp; done)) | (refine LeV.tell [some 11] ?_ ?_ ?_ <;> (simp; done)) | (refine LeV.tell [some 12] ?_ ?_ ?_ <;> (simp; done)) | (refine LeV.tell [some 13] ?_ ?_ ?_ <;> (simp; done)) | (refine LeV.tell [some 14] ?_ ?_ ?_ <;> (simp; done)) | (refine LeV.tell [some 15] ?_ ?_ ?_ <;> (simp; done))
theorem impl_RoleParse_k {s : ByteArray} (hs : s.size ≤ 1099511627776) {S : FuncId → Bool} {H : List Blk} {K : A → Dl → Prop} {zs : List A} (hS : S 29 = false) (hv : viewL (viewA 8 H) zs = some [.str s]) (ho : noOwns zs = true ∨ nosl (.tup [acref 0 (rpF s).1, .bool (rpF s).2]) = true ∧ noslBlks ([acblk (rpF s).1]) = true) (hK : K (shiftA H.length (.tup [acref 0 (rpF s).1, .bool (rpF s).2])) (.news (([acblk (rpF s).1]).map (shiftB H.length)))) : @WCall' Go.Proofs.Tryd.prog S 29 zs H ⟨K⟩ :=
  WCall_ro' hS hv (impl_RoleParse_c s hs) rfl ho hK
end Go.Proofs.YtmlfacjgfjmdeaaDoor.C

set_option linter.unusedVariables false
set_option linter.unusedSimpArgs false
set_option maxRecDepth 4000
namespace Go.Proofs.YtmlfacjgfjmdeaaDoor.C
open Go.Sym Go.Proofs.YtmlfacjgfjmdeaaDoor.I
theorem indexByte_eq {l : List UInt8} {c : UInt8} {o : Nat} (h : l[o]? = some c) (hn : ∀ k, k < o → l[k]? ≠ some c) : Lib.indexByte l c = o := by
  have h1 := Lib.indexByte_ge l c
  rcases Int.lt_or_le (Lib.indexByte l c) 0 with g | g
  · exact absurd h (Lib.indexByte_none (by omega) o)
  · obtain ⟨p, hp⟩ : ∃ p : Nat, Lib.indexByte l c = p := ⟨(Lib.indexByte l c).toNat, by omega⟩
    obtain ⟨a, b⟩ := Lib.indexByte_some hp
    rcases Nat.lt_trichotomy p o with x | x | x
    · exact absurd a (hn p x)
    · rw [hp, x]
    · exact absurd h (b o x)
theorem indexByte_neg {l : List UInt8} {c : UInt8} (hn : ∀ k : Nat, l[k]? ≠ some c) : Lib.indexByte l c = -1 := by
  have h1 := Lib.indexByte_ge l c
  rcases Int.lt_or_le (Lib.indexByte l c) 0 with g | g
  · omega
  · obtain ⟨p, hp⟩ : ∃ p : Nat, Lib.indexByte l c = p := ⟨(Lib.indexByte l c).toNat, by omega⟩
    exact absurd (Lib.indexByte_some hp).1 (hn p)
theorem rest_bl {s : ByteArray} {f : Nat} (h : f ≤ s.size) : bl (s.extract f s.size) = (bl s).drop f := by
  rw [bl_extract h (Nat.le_refl _), List.take_of_length_le (by simp)]
theorem ext_ext {s : ByteArray} {f a b : Nat} (hf : f ≤ s.size) (hab : a ≤ b) (hb : f + b ≤ s.size) : (s.extract f s.size).extract a b = s.extract (f + a) (f + b) := by
  apply ba_ext
  rw [bl_extract hab (by simp; omega), rest_bl hf, bl_extract (by omega) hb, List.drop_drop]
  congr 1
  omega
theorem byt_q {s : ByteArray} {k : Nat} (h : k < s.size) : (bl s)[k]? = some (byt s k) := by
  simp [byt, List.getD_eq_getElem?_getD, List.getElem?_eq_getElem (show k < (bl s).length by simpa using h)]
/-- The line that is cut, by its places. -/
theorem cut_at {s : ByteArray} {f i : Nat} (hf : f ≤ i) (hi : i < s.size) (h : byt s i = 10) (hn : ∀ k, f ≤ k → k < i → byt s k ≠ 10) : 0 ≤ nlI (s.extract f s.size) ∧ (cutB (s.extract f s.size)).1 = s.extract f i ∧ (cutB (s.extract f s.size)).2.1 = s.extract (i + 1) s.size := by
  have e : nlI (s.extract f s.size) = ((i - f : Nat) : Int) := by
    refine indexByte_eq ?_ fun k hk => ?_
    · rw [rest_bl (by omega), List.getElem?_drop, show f + (i - f) = i by omega, byt_q hi, h]
    · rw [rest_bl (by omega), List.getElem?_drop, byt_q (by omega)]
      intro x
      exact hn (f + k) (by omega) (by omega) (Option.some.inj x)
  have hz : (s.extract f s.size).size = s.size - f := by simp
  have hc : cutB (s.extract f s.size) = ((s.extract f s.size).extract 0 (i - f), (s.extract f s.size).extract (i - f + 1) (s.extract f s.size).size, true) := by
    rw [cutB, if_pos (by omega), e]
    rfl
  refine ⟨by omega, ?_, ?_⟩
  · rw [hc]
    simp only
    rw [ext_ext (by omega) (by omega) (by omega)]
    congr 1 <;> omega
  · rw [hc]
    simp only [hz]
    rw [ext_ext (by omega) (by omega) (by omega)]
    congr 1 <;> omega
theorem cut_no {s : ByteArray} {f : Nat} (hf : f ≤ s.size) (hn : ∀ k, f ≤ k → k < s.size → byt s k ≠ 10) : ¬ 0 ≤ nlI (s.extract f s.size) := by
  have e : nlI (s.extract f s.size) = -1 := by
    refine indexByte_neg fun k => ?_
    rw [rest_bl hf, List.getElem?_drop]
    rcases Nat.lt_or_ge (f + k) s.size with g | g
    · rw [byt_q g]
      intro x
      exact hn (f + k) (by omega) g (Option.some.inj x)
    · rw [List.getElem?_eq_none (by simpa using g)]
      simp
  omega
theorem linesR_no {n : Nat} {r : ByteArray} (h : ¬ 0 ≤ nlI r) : linesR n r = ([], r) := by
  cases n with
  | zero => rfl
  | succ n => exact if_neg h
theorem rp_no {s : ByteArray} {L : List Ac} {l : ByteArray} {R : List Ac} (hA : actsOf s = L ++ actL l :: R) (h : (sactL l).2 = false ∨ L.length = 20) : rpF s = ([], false) := by
  refine if_neg fun ⟨_, hq⟩ => ?_
  obtain ⟨h1, _, h3⟩ := roleF_mem hq
  rcases h with h | h
  · have := actF_text (h1 (actL l) (by rw [hA]; simp))
    rw [sactL_eq, if_pos this] at h
    simp at h
  · rw [hA, List.length_append, List.length_cons] at h3
    omega
theorem spec_RoleParse_c (s : ByteArray) (hs : s.size ≤ 1099511627776) : T 28 [.str s] [] (.tup [acref 0 (rpF s).1, .bool (rpF s).2]) ([acblk (rpF s).1]) := by
  refine semT' (S := S0) hm spec_RoleParse_ok (Nat.le_of_ble_eq_true rfl) ?_
  unfold spec_RoleParse; dsimp only
  simp
  refine WLoop_virt 2 [(0, A.str s), (4, A.ref 0 0 0 0), (5, i6 0), (6, i6 0)] ?_ ?_
  · intro t y hy
    simp [Sym.get] at hy ⊢
    (repeat' split at hy) <;> simp_all
  refine WLoop_fam (fun p : List Ac × Nat × Nat => [(0, A.str s), (4, acref 0 p.1), (5, i6 p.2.1), (6, i6 p.2.2)]) (fun p => [acblk p.1]) (fun p => s.size - p.2.2)
    (fun p => p.1.length ≤ 20 ∧ p.2.1 ≤ p.2.2 ∧ p.2.2 ≤ s.size ∧ (∀ k, p.2.1 ≤ k → k < p.2.2 → byt s k ≠ 10) ∧ actsOf s = p.1 ++ (linesR (21 - p.1.length) (s.extract p.2.1 s.size)).1.map actL ∧ (linesR 21 s).2 = (linesR (21 - p.1.length) (s.extract p.2.1 s.size)).2) ?_ ([], 0, 0) ⟨Nat.zero_le _, Nat.le_refl _, Nat.zero_le _, fun k _ h => absurd h (Nat.not_lt_zero _), by simp [actsOf], by simp⟩
  rintro ⟨L, f, i⟩ ⟨hL, hf, hi, hn, hA, hE⟩ ih
  simp only at hL hf hi hn hA hE
  have hLs : ∀ a ∈ L, a.t.size ≤ 281474976710656 := fun a ha => by
    have := actsOf_size (s := s) (a := a) (by rw [hA]; exact List.mem_append_left _ ha)
    omega
  simp
  refine br_intro' (fun u => ?_) (fun u => ?_) <;> (have u0 := u) <;> simp only [decide_eq_true_eq, decide_eq_false_iff_not] at u <;> simp [u0]
  · have hil : i < s.size := by omega
    have hw := wrap_succ (n := i) (by omega)
    simp [hil]
    by_cases g : byt s i = 10
    · have g2 : (bt s i = 10) := by rw [bt, g]; rfl
      obtain ⟨c0, c1, c2⟩ := cut_at hf hil g hn
      simp [g2]
      refine ck_intro' ⟨hf, hi⟩ ?_; simp
      have hsz : (s.extract f i).size ≤ s.size := by simp; omega
      refine spec_l12Act_call (s := s.extract f i) (by omega) rfl ?_; simp
      have hL20 : 21 - L.length = (20 - L.length) + 1 := by omega
      have hres : linesR (21 - L.length) (s.extract f s.size) = (s.extract f i :: (linesR (20 - L.length) (s.extract (i + 1) s.size)).1, (linesR (20 - L.length) (s.extract (i + 1) s.size)).2) := by
        rw [hL20, ← c1, ← c2]; exact if_pos c0
      rw [hres] at hA hE
      rw [List.map_cons] at hA
      refine br_intro' (fun v => ?_) (fun v => ?_) <;> (have v0 := v) <;> simp [v0]
      case refine_2 =>
        rw [rp_no hA (.inl v)]
        first | (refine LeV.tell [none] ?_ ?_ ?_ <;> (simp; done)) | (refine LeV.tell [some 0] ?_ ?_ ?_ <;> (simp; done)) | (refine LeV.tell [some 1] ?_ ?_ ?_ <;> (simp; done)) | (refine LeV.tell [some 2] ?_ ?_ ?_ <;> (simp; done)) | (refine LeV.tell [some 3] ?_ ?_ ?_ <;> (simp; done)) | (refine LeV.tell [some 4] ?_ ?_ ?_ <;> (simp; done)) | (refine LeV.tell [some 5] ?_ ?_ ?_ <;> (simp; done)) | (refine LeV.tell [some 6] ?_ ?_ ?_ <;> (simp; done)) | (refine LeV.tell [some 7] ?_ ?_ ?_ <;> (simp; done)) | (refine LeV.tell [some 8] ?_ ?_ ?_ <;> (simp; done)) | (refine LeV.tell [some 9] ?_ ?_ ?_ <;> (simp; done)) | (refine LeV.tell [some 10] ?_ ?_ ?_ <;> (simp; done)) | (refine LeV.tell [some 11] ?_ ?_ ?_ <;> (simp; done)) | (refine LeV.tell [some 12] ?_ ?_ ?_ <;> (simp; done)) | (refine LeV.tell [some 13] ?_ ?_ ?_ <;> (simp; done)) | (refine LeV.tell [some 14] ?_ ?_ ?_ <;> (simp; done)) | (refine LeV.tell [some 15] ?_ ?_ ?_ <;> (simp; done))
      have hsa : (sactL (s.extract f i)).1 = actL (s.extract f i) := by
        rw [sactL_eq] at v ⊢
        split at v
        · rename_i y; rw [if_pos y]
        · simp at v
      by_cases w : L.length = 20
      · refine br_intro' (fun _ => ?_) (fun x => absurd x (by simp [w])); simp
        rw [rp_no hA (.inr w)]
        first | (refine LeV.tell [none] ?_ ?_ ?_ <;> (simp; done)) | (refine LeV.tell [some 0] ?_ ?_ ?_ <;> (simp; done)) | (refine LeV.tell [some 1] ?_ ?_ ?_ <;> (simp; done)) | (refine LeV.tell [some 2] ?_ ?_ ?_ <;> (simp; done)) | (refine LeV.tell [some 3] ?_ ?_ ?_ <;> (simp; done)) | (refine LeV.tell [some 4] ?_ ?_ ?_ <;> (simp; done)) | (refine LeV.tell [some 5] ?_ ?_ ?_ <;> (simp; done)) | (refine LeV.tell [some 6] ?_ ?_ ?_ <;> (simp; done)) | (refine LeV.tell [some 7] ?_ ?_ ?_ <;> (simp; done)) | (refine LeV.tell [some 8] ?_ ?_ ?_ <;> (simp; done)) | (refine LeV.tell [some 9] ?_ ?_ ?_ <;> (simp; done)) | (refine LeV.tell [some 10] ?_ ?_ ?_ <;> (simp; done)) | (refine LeV.tell [some 11] ?_ ?_ ?_ <;> (simp; done)) | (refine LeV.tell [some 12] ?_ ?_ ?_ <;> (simp; done)) | (refine LeV.tell [some 13] ?_ ?_ ?_ <;> (simp; done)) | (refine LeV.tell [some 14] ?_ ?_ ?_ <;> (simp; done)) | (refine LeV.tell [some 15] ?_ ?_ ?_ <;> (simp; done))
      · have w1 : ¬ ((L.length : Int) = 20) := by omega
        refine br_intro' (fun x => absurd x (by simp [w1])) (fun _ => ?_); simp [hsa]
        have hw2 := wrap_succ (n := i) (by omega)
        refine ck_intro' (by omega) ?_; simp [hw2]
        refine WLoop_drop [acblk (L ++ [actL (s.extract f i)])] [_, _] (by simp [encAs_snoc, encA]; exact ⟨rfl, rfl⟩) (by simp) (by simp) (by simp) ?_
        rw [show L.length + 1 = (L ++ [actL (s.extract f i)]).length by simp]
        refine ih (L ++ [actL (s.extract f i)], i + 1, i + 1) ⟨by simp; omega, Nat.le_refl _, by simp only; omega, fun k h1 h2 => absurd (Nat.lt_of_le_of_lt h1 h2) (Nat.lt_irrefl _), ?_, ?_⟩ (by simp only; omega)
        · simp only [List.length_append, List.length_singleton]
          rw [show 21 - (L.length + 1) = 20 - L.length by omega, hA]
          simp
        · simp only [List.length_append, List.length_singleton]
          rw [show 21 - (L.length + 1) = 20 - L.length by omega, hE]
    · have g2 : ¬ (bt s i = 10) := fun e => g (UInt8.toNat_inj.1 (by rw [bt] at e; show _ = 10; omega))
      simp [g2, hw]
      exact ih (L, f, i + 1) ⟨hL, by simp only; omega, by simp only; omega, fun k h1 h2 => by
        simp only at h1 h2
        rcases Nat.lt_or_ge k i with x | x
        · exact hn k h1 x
        · rw [show k = i by omega]; exact g, hA, hE⟩ (by simp only; omega)
  · have hil : i = s.size := by omega
    subst hil
    have hcn := cut_no hf hn
    rw [linesR_no hcn] at hA hE
    simp only [List.map_nil, List.append_nil] at hA hE
    have hz : (linesR 21 s).2.size = s.size - f := by rw [hE]; simp
    refine br_intro' (fun v => ?_) (fun v => ?_) <;> (have v0 := v) <;> simp only [decide_eq_true_eq, decide_eq_false_iff_not] at v <;> simp [v0]
    · have hz0 : (linesR 21 s).2.size = 0 := by omega
      refine spec_RoleOk_k (xs := L) (by omega) hLs rfl (by simp) (by simp) ?_; simp
      rcases Bool.eq_false_or_eq_true (roleF L) with q | q <;> simp [q]
      · have hrp : rpF s = (L, true) := by rw [← hA]; exact if_pos ⟨hz0, by rw [hA]; exact q⟩
        rw [hrp]
        first | (refine LeV.tell [none] ?_ ?_ ?_ <;> (simp; done)) | (refine LeV.tell [some 0] ?_ ?_ ?_ <;> (simp; done)) | (refine LeV.tell [some 1] ?_ ?_ ?_ <;> (simp; done)) | (refine LeV.tell [some 2] ?_ ?_ ?_ <;> (simp; done)) | (refine LeV.tell [some 3] ?_ ?_ ?_ <;> (simp; done)) | (refine LeV.tell [some 4] ?_ ?_ ?_ <;> (simp; done)) | (refine LeV.tell [some 5] ?_ ?_ ?_ <;> (simp; done)) | (refine LeV.tell [some 6] ?_ ?_ ?_ <;> (simp; done)) | (refine LeV.tell [some 7] ?_ ?_ ?_ <;> (simp; done)) | (refine LeV.tell [some 8] ?_ ?_ ?_ <;> (simp; done)) | (refine LeV.tell [some 9] ?_ ?_ ?_ <;> (simp; done)) | (refine LeV.tell [some 10] ?_ ?_ ?_ <;> (simp; done)) | (refine LeV.tell [some 11] ?_ ?_ ?_ <;> (simp; done)) | (refine LeV.tell [some 12] ?_ ?_ ?_ <;> (simp; done)) | (refine LeV.tell [some 13] ?_ ?_ ?_ <;> (simp; done)) | (refine LeV.tell [some 14] ?_ ?_ ?_ <;> (simp; done)) | (refine LeV.tell [some 15] ?_ ?_ ?_ <;> (simp; done))
      · have hrp : rpF s = ([], false) := if_neg (by rw [hA, q]; simp)
        rw [hrp]
        first | (refine LeV.tell [none] ?_ ?_ ?_ <;> (simp; done)) | (refine LeV.tell [some 0] ?_ ?_ ?_ <;> (simp; done)) | (refine LeV.tell [some 1] ?_ ?_ ?_ <;> (simp; done)) | (refine LeV.tell [some 2] ?_ ?_ ?_ <;> (simp; done)) | (refine LeV.tell [some 3] ?_ ?_ ?_ <;> (simp; done)) | (refine LeV.tell [some 4] ?_ ?_ ?_ <;> (simp; done)) | (refine LeV.tell [some 5] ?_ ?_ ?_ <;> (simp; done)) | (refine LeV.tell [some 6] ?_ ?_ ?_ <;> (simp; done)) | (refine LeV.tell [some 7] ?_ ?_ ?_ <;> (simp; done)) | (refine LeV.tell [some 8] ?_ ?_ ?_ <;> (simp; done)) | (refine LeV.tell [some 9] ?_ ?_ ?_ <;> (simp; done)) | (refine LeV.tell [some 10] ?_ ?_ ?_ <;> (simp; done)) | (refine LeV.tell [some 11] ?_ ?_ ?_ <;> (simp; done)) | (refine LeV.tell [some 12] ?_ ?_ ?_ <;> (simp; done)) | (refine LeV.tell [some 13] ?_ ?_ ?_ <;> (simp; done)) | (refine LeV.tell [some 14] ?_ ?_ ?_ <;> (simp; done)) | (refine LeV.tell [some 15] ?_ ?_ ?_ <;> (simp; done))
    · have hrp : rpF s = ([], false) := if_neg (by rw [hz]; intro h; omega)
      rw [hrp]
      first | (refine LeV.tell [none] ?_ ?_ ?_ <;> (simp; done)) | (refine LeV.tell [some 0] ?_ ?_ ?_ <;> (simp; done)) | (refine LeV.tell [some 1] ?_ ?_ ?_ <;> (simp; done)) | (refine LeV.tell [some 2] ?_ ?_ ?_ <;> (simp; done)) | (refine LeV.tell [some 3] ?_ ?_ ?_ <;> (simp; done)) | (refine LeV.tell [some 4] ?_ ?_ ?_ <;> (simp; done)) | (refine LeV.tell [some 5] ?_ ?_ ?_ <;> (simp; done)) | (refine LeV.tell [some 6] ?_ ?_ ?_ <;> (simp; done)) | (refine LeV.tell [some 7] ?_ ?_ ?_ <;> (simp; done)) | (refine LeV.tell [some 8] ?_ ?_ ?_ <;> (simp; done)) | (refine LeV.tell [some 9] ?_ ?_ ?_ <;> (simp; done)) | (refine LeV.tell [some 10] ?_ ?_ ?_ <;> (simp; done)) | (refine LeV.tell [some 11] ?_ ?_ ?_ <;> (simp; done)) | (refine LeV.tell [some 12] ?_ ?_ ?_ <;> (simp; done)) | (refine LeV.tell [some 13] ?_ ?_ ?_ <;> (simp; done)) | (refine LeV.tell [some 14] ?_ ?_ ?_ <;> (simp; done)) | (refine LeV.tell [some 15] ?_ ?_ ?_ <;> (simp; done))
theorem spec_RoleParse_k {s : ByteArray} (hs : s.size ≤ 1099511627776) {S : FuncId → Bool} {H : List Blk} {K : A → Dl → Prop} {zs : List A} (hS : S 28 = false) (hv : viewL (viewA 8 H) zs = some [.str s]) (ho : noOwns zs = true ∨ nosl (.tup [acref 0 (rpF s).1, .bool (rpF s).2]) = true ∧ noslBlks ([acblk (rpF s).1]) = true) (hK : K (shiftA H.length (.tup [acref 0 (rpF s).1, .bool (rpF s).2])) (.news (([acblk (rpF s).1]).map (shiftB H.length)))) : @WCall' Go.Proofs.Tryd.prog S 28 zs H ⟨K⟩ :=
  WCall_ro' hS hv (spec_RoleParse_c s hs) rfl ho hK
end Go.Proofs.YtmlfacjgfjmdeaaDoor.C

set_option linter.unusedVariables false
set_option linter.unusedSimpArgs false
set_option maxRecDepth 40000
namespace Go.Proofs.YtmlfacjgfjmdeaaDoor.C
open Go.Sym Go.Proofs.YtmlfacjgfjmdeaaDoor.I
def rt10 : ByteArray := ⟨#[102, 114, 101, 115, 104, 32, 120, 10, 115, 101, 110, 100, 32, 94, 36, 120, 10, 116, 97, 107, 101, 32, 40, 63, 121, 44, 91, 40, 110, 53, 44, 40, 40, 94, 36, 120, 44, 36, 121, 41, 44, 36, 109, 41, 41, 44, 36, 113, 93, 41, 10, 115, 101, 110, 100, 32, 91, 40, 110, 54, 44, 40, 40, 36, 121, 44, 94, 36, 120, 41, 44, 36, 112, 41, 41, 44, 36, 115, 93, 10, 99, 108, 97, 105, 109, 32, 107, 40, 120, 40, 36, 120, 44, 36, 121, 41, 44, 40, 94, 36, 120, 44, 36, 121, 41, 41, 10]⟩
def rt11 : ByteArray := ⟨#[102, 114, 101, 115, 104, 32, 121, 10, 116, 97, 107, 101, 32, 63, 120, 10, 115, 101, 110, 100, 32, 40, 94, 36, 121, 44, 91, 40, 110, 53, 44, 40, 40, 36, 120, 44, 94, 36, 121, 41, 44, 36, 112, 41, 41, 44, 36, 115, 93, 41, 10, 116, 97, 107, 101, 32, 91, 40, 110, 54, 44, 40, 40, 94, 36, 121, 44, 36, 120, 41, 44, 36, 109, 41, 41, 44, 36, 113, 93, 10, 99, 108, 97, 105, 109, 32, 107, 40, 120, 40, 36, 121, 44, 36, 120, 41, 44, 40, 36, 120, 44, 94, 36, 121, 41, 41, 10]⟩
def rt20 : ByteArray := ⟨#[102, 114, 101, 115, 104, 32, 120, 10, 115, 101, 110, 100, 32, 36, 120, 10, 116, 97, 107, 101, 32, 123, 40, 110, 53, 44, 40, 40, 36, 120, 44, 63, 121, 41, 44, 36, 112, 41, 41, 44, 36, 107, 125, 10, 115, 101, 110, 100, 32, 123, 40, 110, 54, 44, 40, 40, 36, 121, 44, 36, 120, 41, 44, 36, 109, 41, 41, 44, 36, 107, 125, 10, 99, 108, 97, 105, 109, 32, 107, 40, 36, 107, 44, 40, 36, 120, 44, 36, 121, 41, 41, 10]⟩
def rt21 : ByteArray := ⟨#[102, 114, 101, 115, 104, 32, 121, 10, 116, 97, 107, 101, 32, 63, 120, 10, 115, 101, 110, 100, 32, 123, 40, 110, 53, 44, 40, 40, 36, 120, 44, 36, 121, 41, 44, 36, 109, 41, 41, 44, 36, 107, 125, 10, 116, 97, 107, 101, 32, 123, 40, 110, 54, 44, 40, 40, 36, 121, 44, 36, 120, 41, 44, 36, 112, 41, 41, 44, 36, 107, 125, 10, 99, 108, 97, 105, 109, 32, 107, 40, 36, 107, 44, 40, 36, 120, 44, 36, 121, 41, 41, 10]⟩
def rt30 : ByteArray := ⟨#[102, 114, 101, 115, 104, 32, 120, 10, 115, 101, 110, 100, 32, 94, 36, 120, 10, 116, 97, 107, 101, 32, 40, 63, 121, 44, 35, 40, 110, 53, 44, 107, 40, 40, 120, 40, 36, 120, 44, 36, 117, 41, 44, 120, 40, 36, 116, 44, 36, 121, 41, 41, 44, 40, 120, 40, 36, 120, 44, 36, 121, 41, 44, 40, 40, 94, 36, 120, 44, 36, 121, 41, 44, 40, 36, 109, 44, 36, 112, 41, 41, 41, 41, 41, 41, 10, 115, 101, 110, 100, 32, 35, 40, 110, 54, 44, 107, 40, 40, 120, 40, 36, 120, 44, 36, 117, 41, 44, 120, 40, 36, 116, 44, 36, 121, 41, 41, 44, 40, 120, 40, 36, 120, 44, 36, 121, 41, 44, 40, 40, 94, 36, 120, 44, 36, 121, 41, 44, 40, 36, 109, 44, 36, 112, 41, 41, 41, 41, 41, 10, 99, 108, 97, 105, 109, 32, 107, 40, 40, 120, 40, 36, 120, 44, 36, 117, 41, 44, 120, 40, 36, 116, 44, 36, 121, 41, 41, 44, 40, 120, 40, 36, 120, 44, 36, 121, 41, 44, 40, 40, 94, 36, 120, 44, 36, 121, 41, 44, 40, 36, 109, 44, 36, 112, 41, 41, 41, 41, 10]⟩
def rt31 : ByteArray := ⟨#[102, 114, 101, 115, 104, 32, 121, 10, 116, 97, 107, 101, 32, 63, 120, 10, 115, 101, 110, 100, 32, 40, 94, 36, 121, 44, 35, 40, 110, 53, 44, 107, 40, 40, 120, 40, 36, 116, 44, 36, 120, 41, 44, 120, 40, 36, 121, 44, 36, 117, 41, 41, 44, 40, 120, 40, 36, 121, 44, 36, 120, 41, 44, 40, 40, 36, 120, 44, 94, 36, 121, 41, 44, 40, 36, 112, 44, 36, 109, 41, 41, 41, 41, 41, 41, 10, 116, 97, 107, 101, 32, 35, 40, 110, 54, 44, 107, 40, 40, 120, 40, 36, 116, 44, 36, 120, 41, 44, 120, 40, 36, 121, 44, 36, 117, 41, 41, 44, 40, 120, 40, 36, 121, 44, 36, 120, 41, 44, 40, 40, 36, 120, 44, 94, 36, 121, 41, 44, 40, 36, 112, 44, 36, 109, 41, 41, 41, 41, 41, 10, 99, 108, 97, 105, 109, 32, 107, 40, 40, 120, 40, 36, 116, 44, 36, 120, 41, 44, 120, 40, 36, 121, 44, 36, 117, 41, 41, 44, 40, 120, 40, 36, 121, 44, 36, 120, 41, 44, 40, 40, 36, 120, 44, 94, 36, 121, 41, 44, 40, 36, 112, 44, 36, 109, 41, 41, 41, 41, 10]⟩
def rtB (w s : Int) : ByteArray := if w = 1 ∧ s = 0 then rt10 else if w = 1 ∧ s = 1 then rt11 else if w = 2 ∧ s = 0 then rt20 else if w = 2 ∧ s = 1 then rt21 else if w = 3 ∧ s = 0 then rt30 else if w = 3 ∧ s = 1 then rt31 else ⟨#[]⟩
theorem spec_RoleText_c (w s : Int)  : T 110 [i6 w, i6 s] [] (.str (rtB w s)) ([]) := by
  refine semT' (S := S0) hm spec_RoleText_ok (Nat.le_of_ble_eq_true rfl) ?_
  unfold spec_RoleText; dsimp only
  by_cases hw : 1 ≤ w ∧ w ≤ 3
  · by_cases hs : 0 ≤ s ∧ s ≤ 1
    · rcases (by omega : w = 1 ∨ w = 2 ∨ w = 3) with rfl | rfl | rfl <;> rcases (by omega : s = 0 ∨ s = 1) with rfl | rfl <;> simp
      all_goals exact LeV.ro rfl rfl rfl
    · have h0 : ¬ s = 0 := by omega
      have h1 : ¬ s = 1 := by omega
      rcases (by omega : w = 1 ∨ w = 2 ∨ w = 3) with rfl | rfl | rfl <;> simp [h0, h1]
      all_goals exact LeV.ro rfl rfl (by simp [rtB, h0, h1])
  · have h1 : ¬ w = 1 := by omega
    have h2 : ¬ w = 2 := by omega
    have h3 : ¬ w = 3 := by omega
    simp [h1, h2, h3]
    exact LeV.ro rfl rfl (by simp [rtB, h1, h2, h3])
theorem spec_RoleText_call {w s : Int}  {S : FuncId → Bool} {H : List Blk} {K : A → Dl → Prop} (hS : S 110 = false) (hK : K (.str (rtB w s)) (.news [])) : @WCall' Go.Proofs.Tryd.prog S 110 [i6 w, i6 s] H ⟨K⟩ :=
  WCall_pure hS (spec_RoleText_c w s) (by simp) (by simp) (by simp) hK
theorem spec_RoleText_k {w s : Int}  {S : FuncId → Bool} {H : List Blk} {K : A → Dl → Prop} {zs : List A} (hS : S 110 = false) (hv : viewL (viewA 8 H) zs = some [i6 w, i6 s]) (ho : noOwns zs = true ∨ nosl (.str (rtB w s)) = true) (hK : K (.str (rtB w s)) (.news [])) : @WCall' Go.Proofs.Tryd.prog S 110 zs H ⟨K⟩ :=
  WCall_pure hS (spec_RoleText_c w s) hv ho (by simp) hK
end Go.Proofs.YtmlfacjgfjmdeaaDoor.C

set_option linter.unusedVariables false
set_option linter.unusedSimpArgs false
set_option maxRecDepth 40000
namespace Go.Proofs.YtmlfacjgfjmdeaaDoor.C
open Go.Sym Go.Proofs.YtmlfacjgfjmdeaaDoor.I
theorem rt10_ok : ((linesR 21 rt10).2.size = 0 ∧ (actsOf rt10).length = 5) ∧ roleF (actsOf rt10) = true := ⟨⟨by kernel_rfl, by kernel_rfl⟩, by kernel_rfl⟩
theorem rt11_ok : ((linesR 21 rt11).2.size = 0 ∧ (actsOf rt11).length = 5) ∧ roleF (actsOf rt11) = true := ⟨⟨by kernel_rfl, by kernel_rfl⟩, by kernel_rfl⟩
theorem rt20_ok : ((linesR 21 rt20).2.size = 0 ∧ (actsOf rt20).length = 5) ∧ roleF (actsOf rt20) = true := ⟨⟨by kernel_rfl, by kernel_rfl⟩, by kernel_rfl⟩
theorem rt21_ok : ((linesR 21 rt21).2.size = 0 ∧ (actsOf rt21).length = 5) ∧ roleF (actsOf rt21) = true := ⟨⟨by kernel_rfl, by kernel_rfl⟩, by kernel_rfl⟩
theorem rt30_ok : ((linesR 21 rt30).2.size = 0 ∧ (actsOf rt30).length = 5) ∧ roleF (actsOf rt30) = true := ⟨⟨by kernel_rfl, by kernel_rfl⟩, by kernel_rfl⟩
theorem rt31_ok : ((linesR 21 rt31).2.size = 0 ∧ (actsOf rt31).length = 5) ∧ roleF (actsOf rt31) = true := ⟨⟨by kernel_rfl, by kernel_rfl⟩, by kernel_rfl⟩
theorem rpF_of {r : ByteArray} (h : ((linesR 21 r).2.size = 0 ∧ (actsOf r).length = 5) ∧ roleF (actsOf r) = true) : rpF r = (actsOf r, true) ∧ (actsOf r).length = 5 := ⟨if_pos ⟨h.1.1, h.2⟩, h.1.2⟩
theorem role_ok {w s : Int} (h1 : 1 ≤ w) (h2 : w ≤ 3) (h3 : 0 ≤ s) (h4 : s ≤ 1) : rpF (rtB w s) = (actsOf (rtB w s), true) ∧ (actsOf (rtB w s)).length = 5 := by
  rcases (by omega : w = 1 ∨ w = 2 ∨ w = 3) with rfl | rfl | rfl <;> rcases (by omega : s = 0 ∨ s = 1) with rfl | rfl
  · exact rpF_of rt10_ok
  · exact rpF_of rt11_ok
  · exact rpF_of rt20_ok
  · exact rpF_of rt21_ok
  · exact rpF_of rt30_ok
  · exact rpF_of rt31_ok
theorem rtB_size (w s : Int) : (rtB w s).size ≤ 1000 := by
  unfold rtB
  repeat' split
  all_goals decide
theorem role_size {w s : Int} {a : Ac} (h : a ∈ actsOf (rtB w s)) : a.t.size ≤ 1000 := Nat.le_trans (actsOf_size h) (rtB_size w s)
end Go.Proofs.YtmlfacjgfjmdeaaDoor.C

set_option linter.unusedVariables false
set_option linter.unusedSimpArgs false
set_option maxRecDepth 40000
namespace Go.Proofs.YtmlfacjgfjmdeaaDoor.C
open Go.Sym Go.Proofs.YtmlfacjgfjmdeaaDoor.I
def strs (xs : List ByteArray) : List A := xs.map A.str
@[simp] theorem strs_len (xs : List ByteArray) : (strs xs).length = xs.length := List.length_map ..
@[simp] theorem strs_scals (xs : List ByteArray) : scals (strs xs) = true := scals_map _ (fun _ => rfl) xs
@[simp] theorem strs_get (xs : List ByteArray) (j : Nat) (h : j < (strs xs).length) : (strs xs)[j] = .str (xs[j]'(by simpa using h)) := by simp [strs]
theorem strs_at {xs : List ByteArray} {j : Nat} (h : j < xs.length) : (strs xs)[j]? = some (.str xs[j]) := by simp [strs, h]
def pickS (bs : List Int) (s : Cu) (xs : List ByteArray) : ByteArray × Cu := (xs.getD (belowF bs s xs.length).1.toNat ⟨#[]⟩, (belowF bs s xs.length).2)
theorem spec_l1Pick_m (H : List Blk) (cb : Nat) (bs : List Int) (s : Cu) (lb v : Nat) (xs : List ByteArray) (hc : cb < H.length) (hb : bs.length < 9223372036854775807) (hl : xs.length < 9223372036854775807) (hx : xs ≠ []) (hL : H[lb]? = some ⟨v, false, 1, strs xs, none⟩) (hne : cb ≠ lb) : T 82 [.ptr cb 0 0, .ref lb v 0 xs.length] (cur H cb bs s) (.str (pickS bs s xs).1) (cur H cb bs (pickS bs s xs).2) := by
  refine semT' (S := (fun f => [83, 55].contains f)) hm spec_l1Pick_ok (Nat.le_of_ble_eq_true rfl) ?_
  unfold spec_l1Pick; dsimp only
  have gL : ∀ s, (cur H cb bs s)[lb]? = _ := fun s => (show (cur H cb bs s)[lb]? = H[lb]? from List.getElem?_set_ne hne).trans hL
  have hp : 0 < xs.length := List.length_pos_iff.2 hx
  have hi := belowF_in bs s xs.length
  obtain ⟨j, hj⟩ : ∃ j : Nat, (belowF bs s xs.length).1 = j := ⟨(belowF bs s xs.length).1.toNat, by omega⟩
  have hj' : j < xs.length := by have := hi.2.1 (by omega); omega
  simp [gL]
  refine cur_call rfl cb bs s (belowF bs s xs.length).2 (cur_cur ..) (by rw [cur_cur, cur_cur]; exact spec_l1Below_m H cb bs s xs.length hc hb) ?_; simp
  rw [hj]
  simp [gL, hj', strs_at hj']
  have e : pickS bs s xs = (xs[j], (belowF bs s xs.length).2) := by simp [pickS, hj, hj']
  rw [e]
  exact LeV.refl _ _ _
theorem pickS_size (bs : List Int) (s : Cu) {xs : List ByteArray} {m : Nat} (h : ∀ x ∈ xs, x.size ≤ m) : (pickS bs s xs).1.size ≤ m := by
  simp only [pickS, List.getD_eq_getElem?_getD]
  cases e : xs[(belowF bs s ↑xs.length).1.toNat]? with
  | none => exact Nat.zero_le _
  | some x => exact h x (List.mem_of_getElem? e)
theorem spec_l12Acts_c (w s : Int) (h1 : 1 ≤ w) (h2 : w ≤ 3) (h3 : 0 ≤ s) (h4 : s ≤ 1) : T 81 [i6 w, i6 s] [] (acref 0 (actsOf (rtB w s))) ([acblk (actsOf (rtB w s))]) := by
  refine semT' (S := S0) hm spec_l12Acts_ok (Nat.le_of_ble_eq_true rfl) ?_
  unfold spec_l12Acts; dsimp only
  have hz := rtB_size w s
  simp
  refine spec_RoleText_k (w := w) (s := s) rfl (by simp) (by simp [noslBlks]) ?_; simp [shiftB]
  refine spec_RoleParse_k (s := rtB w s) (by omega) rfl (by simp) (by simp [noslBlks]) ?_; simp [shiftB]
  rw [(role_ok h1 h2 h3 h4).1]
  first | (refine LeV.tell [none] ?_ ?_ ?_ <;> (simp; done)) | (refine LeV.tell [some 0] ?_ ?_ ?_ <;> (simp; done)) | (refine LeV.tell [some 1] ?_ ?_ ?_ <;> (simp; done)) | (refine LeV.tell [some 2] ?_ ?_ ?_ <;> (simp; done)) | (refine LeV.tell [some 3] ?_ ?_ ?_ <;> (simp; done)) | (refine LeV.tell [some 4] ?_ ?_ ?_ <;> (simp; done)) | (refine LeV.tell [some 5] ?_ ?_ ?_ <;> (simp; done)) | (refine LeV.tell [some 6] ?_ ?_ ?_ <;> (simp; done)) | (refine LeV.tell [some 7] ?_ ?_ ?_ <;> (simp; done)) | (refine LeV.tell [some 8] ?_ ?_ ?_ <;> (simp; done)) | (refine LeV.tell [some 9] ?_ ?_ ?_ <;> (simp; done)) | (refine LeV.tell [some 10] ?_ ?_ ?_ <;> (simp; done)) | (refine LeV.tell [some 11] ?_ ?_ ?_ <;> (simp; done)) | (refine LeV.tell [some 12] ?_ ?_ ?_ <;> (simp; done)) | (refine LeV.tell [some 13] ?_ ?_ ?_ <;> (simp; done)) | (refine LeV.tell [some 14] ?_ ?_ ?_ <;> (simp; done)) | (refine LeV.tell [some 15] ?_ ?_ ?_ <;> (simp; done))
theorem spec_l12Acts_k {w s : Int} (h1 : 1 ≤ w) (h2 : w ≤ 3) (h3 : 0 ≤ s) (h4 : s ≤ 1) {S : FuncId → Bool} {H : List Blk} {K : A → Dl → Prop} {zs : List A} (hS : S 81 = false) (hv : viewL (viewA 8 H) zs = some [i6 w, i6 s]) (ho : noOwns zs = true ∨ nosl (acref 0 (actsOf (rtB w s))) = true ∧ noslBlks ([acblk (actsOf (rtB w s))]) = true) (hK : K (shiftA H.length (acref 0 (actsOf (rtB w s)))) (.news (([acblk (actsOf (rtB w s))]).map (shiftB H.length)))) : @WCall' Go.Proofs.Tryd.prog S 81 zs H ⟨K⟩ :=
  WCall_ro' hS hv (spec_l12Acts_c w s h1 h2 h3 h4) rfl ho hK
end Go.Proofs.YtmlfacjgfjmdeaaDoor.C
