/- What a law's own functions answer on acts. Conditions: those that each theorem names. -/
import Derived.Test.YtmlfacjgfjmdeaaDoorXX12L2
import Derived.Shelf.LaySoft
import Derived.Shelf.Strings.Builder1
import Derived.Shelf.Strings.BuilderF
import Derived.Shelf.Strings.BuilderK
import Derived.WalkKit
import Derived.BigCall
import Derived.StillTailTactics
set_option linter.unusedVariables false
set_option linter.unusedSimpArgs false
set_option maxRecDepth 4000
namespace Go.Proofs.YtmlfacjgfjmdeaaDoor.C
open Go.Sym Go.Proofs.YtmlfacjgfjmdeaaDoor.I
theorem Ac_eq {x y : Ac} : x = y ↔ x.k = y.k ∧ x.t = y.t := by cases x; cases y; simp
def encA (a : Ac) : List A := [i6 a.k, .str a.t]
def encAs (xs : List Ac) : List A := xs.flatMap encA
theorem encA_len (p : Ac) : (encA p).length = 2 := rfl
@[simp] theorem encAs_len (xs : List Ac) : (encAs xs).length = xs.length * 2 := flat_len encA_len xs
@[simp] theorem encAs_scals (xs : List Ac) : scals (encAs xs) = true := scals_flat encA (fun _ => rfl) xs
@[simp] theorem encAs_nil : encAs [] = [] := rfl
theorem encAs_snoc (xs : List Ac) (p : Ac) : encAs (xs ++ [p]) = encAs xs ++ encA p := by simp [encAs]
theorem encAs_at {ns : List Ac} {j : Nat} (h : j < ns.length) : ∃ r, (encAs ns).drop (j * 2) = i6 ns[j].k :: .str ns[j].t :: r := flat_at encA_len (List.getElem?_eq_getElem h)
@[simp] theorem encAs_view (n : Nat) (H : List Blk) (xs : List Ac) : viewL (viewA (n + 1) H) (encAs xs) = some (encAs xs) := viewL_scals _ (encAs_scals xs)
@[simp] theorem encAs_noOwns (xs : List Ac) : noOwns (encAs xs) = true := noOwns_scals _ (encAs_scals xs)
@[simp] theorem encAs_nosls (xs : List Ac) : nosls (encAs xs) = true := nosls_scals _ (encAs_scals xs)
@[simp] theorem encAs_shift (n : Nat) (xs : List Ac) : shiftAs n (encAs xs) = encAs xs := shiftAs_scals _ (encAs_scals xs)
@[simp] theorem encAs_inAs (m : Nat) (xs : List Ac) : inAs m (encAs xs) = true := inAs_scals _ (encAs_scals xs)
@[simp] theorem encAs_tells (H H' : List Blk) (g : List (Option Nat)) (xs : List Ac) : Tells H H' g (encAs xs) (encAs xs) := Tells_scals _ (encAs_scals xs)
@[simp] theorem encAs_one (xs : List Ac) : (encAs xs).all A.one = true := one_scals _ (encAs_scals xs)
@[simp] theorem encAs_take (xs : List Ac) : (encAs xs).take (xs.length * 2) = encAs xs := List.take_of_length_le (by simp)
theorem encAs_gets {ns : List Ac} {j : Nat} (h : j < ns.length) : (encAs ns)[j * 2]? = some (i6 ns[j].k) ∧ (encAs ns)[j * 2 + 1]? = some (.str ns[j].t) := by
  obtain ⟨r, hr⟩ := encAs_at h
  have e : ∀ i, (encAs ns)[j * 2 + i]? = (i6 ns[j].k :: .str ns[j].t :: r)[i]? := fun i => by rw [← hr, List.getElem?_drop]
  exact ⟨e 0, e 1⟩
theorem encAs_k {ns : List Ac} {j : Nat} (h : j < ns.length) {h' : j * 2 < (encAs ns).length} : (encAs ns)[j * 2] = i6 ns[j].k := by
  have := (encAs_gets h).1
  rw [List.getElem?_eq_getElem h'] at this
  simpa using this
theorem encAs_t {ns : List Ac} {j : Nat} (h : j < ns.length) {h' : j * 2 + 1 < (encAs ns).length} : (encAs ns)[j * 2 + 1] = .str ns[j].t := by
  have := (encAs_gets h).2
  rw [List.getElem?_eq_getElem h'] at this
  simpa using this
abbrev aAs (xs : List Ac) : A := .sl xs.length (encAs xs)
abbrev acref (b : Nat) (ss : List Ac) : A := .ref b ss.length 0 ss.length
/-- A row of acts that grew. -/
abbrev acblk (ss : List Ac) : Blk := ⟨ss.length, decide (ss.length = 0), 2, encAs ss, none⟩
/-- A row of acts that a law made. -/
abbrev uacblk (ss : List Ac) : Blk := ⟨ss.length, false, 2, encAs ss, none⟩
abbrev shAc : Sh := .st (.p shI (.p .tx .u))
theorem fit_ac {cs : List A} (h : Fit shAc cs) : ∃ a : Ac, cs = encA a ∧ a.t.size ≤ maxLen := by
  obtain ⟨x, y, rfl, hx, z, t, rfl, hz, rfl⟩ := h
  obtain ⟨a, rfl, ha⟩ := fit_i hx
  obtain ⟨s, rfl, hs⟩ := hz
  exact ⟨⟨a, s⟩, rfl, hs⟩
theorem arg_ac {x : A} (h : FitA shAc x) : ∃ a : Ac, x = aAc a ∧ a.t.size ≤ maxLen := by
  obtain ⟨cs, rfl, h⟩ := h
  obtain ⟨a, rfl, g⟩ := fit_ac h
  exact ⟨a, rfl, g⟩
theorem arg_acs {x : A} (h : FitA (.sl shAc) x) : ∃ ss : List Ac, x = aAs ss ∧ (ss.length < 9223372036854775808 ∧ ∀ a ∈ ss, a.t.size ≤ maxLen) := by
  obtain ⟨xs, e, h1, h2⟩ := fit_sl (f := encA) (fun r hr => fit_ac hr) (show Fit (.sl shAc) [x] from h)
  refine ⟨xs, ?_, h1, h2⟩
  simp only [List.cons.injEq, and_true] at e
  exact e
theorem laws_toAct_c (a : Ac)  : T 17 [aAc a] [] (aAc a) ([]) := by
  refine semT' (S := S0) hm laws_toAct_ok (Nat.le_of_ble_eq_true rfl) ?_
  unfold laws_toAct; dsimp only
  simp
  exact LeV.ro rfl rfl (by simp)
theorem laws_toAct_call {a : Ac}  {S : FuncId → Bool} {H : List Blk} {K : A → Dl → Prop} (hS : S 17 = false) (hK : K (aAc a) (.news [])) : @WCall' Go.Proofs.Tryd.prog S 17 [aAc a] H ⟨K⟩ :=
  WCall_pure hS (laws_toAct_c a) (by simp) (by simp) (by simp) hK
theorem laws_toAct_k {a : Ac}  {S : FuncId → Bool} {H : List Blk} {K : A → Dl → Prop} {zs : List A} (hS : S 17 = false) (hv : viewL (viewA 8 H) zs = some [aAc a]) (ho : noOwns zs = true ∨ nosl (aAc a) = true) (hK : K (aAc a) (.news [])) : @WCall' Go.Proofs.Tryd.prog S 17 zs H ⟨K⟩ :=
  WCall_pure hS (laws_toAct_c a) hv ho (by simp) hK
theorem laws_szAct_c (a : Ac) (x : Int) (hl : a.t.size ≤ maxLen) (h0 : 0 ≤ x) (h1 : x < 9223372036854775808) : T 15 [aAc a, i6 x] [] (i6 (szF x a.t.size)) ([]) := by
  refine semT' (S := S0) hm laws_szAct_ok (Nat.le_of_ble_eq_true rfl) ?_
  unfold laws_szAct; dsimp only
  have hm' : maxLen = 9223372036854775807 := rfl
  have hw : IntKind.i64.wrap (x - a.t.size) = x - a.t.size := wrap64 (by omega) (by omega)
  simp [hw]
  refine br_intro' (fun u => ?_) (fun u => ?_) <;> (have u0 := u) <;> simp only [decide_eq_true_eq, decide_eq_false_iff_not] at u <;> simp [u0]
  · exact LeV.ro rfl rfl (by simp [szF, u])
  · exact LeV.ro rfl rfl (by simp [szF]; omega)
theorem laws_szAct_call {a : Ac} {x : Int} (hl : a.t.size ≤ maxLen) (h0 : 0 ≤ x) (h1 : x < 9223372036854775808) {S : FuncId → Bool} {H : List Blk} {K : A → Dl → Prop} (hS : S 15 = false) (hK : K (i6 (szF x a.t.size)) (.news [])) : @WCall' Go.Proofs.Tryd.prog S 15 [aAc a, i6 x] H ⟨K⟩ :=
  WCall_pure hS (laws_szAct_c a x hl h0 h1) (by simp) (by simp) (by simp) hK
theorem laws_szAct_k {a : Ac} {x : Int} (hl : a.t.size ≤ maxLen) (h0 : 0 ≤ x) (h1 : x < 9223372036854775808) {S : FuncId → Bool} {H : List Blk} {K : A → Dl → Prop} {zs : List A} (hS : S 15 = false) (hv : viewL (viewA 8 H) zs = some [aAc a, i6 x]) (ho : noOwns zs = true ∨ nosl (i6 (szF x a.t.size)) = true) (hK : K (i6 (szF x a.t.size)) (.news [])) : @WCall' Go.Proofs.Tryd.prog S 15 zs H ⟨K⟩ :=
  WCall_pure hS (laws_szAct_c a x hl h0 h1) hv ho (by simp) hK
/-- What is left behind some acts. -/
def szGo : Int → List Ac → Int
  | x, [] => x
  | x, a :: az => if x - a.t.size < 0 then -1 else szGo (x - a.t.size) az
def szAs (x : Int) (xs : List Ac) : Int := if x - xs.length < 0 then -1 else szGo (x - xs.length) xs
/-- The sizes of some acts together. -/
def totA : List Ac → Nat
  | [] => 0
  | a :: az => a.t.size + totA az
theorem szGo_tot : ∀ (xs : List Ac) (x : Int), 0 ≤ x → 0 ≤ szGo x xs → (totA xs : Int) ≤ x
  | [], x, h, _ => by simpa [totA] using h
  | a :: az, x, h, g => by
    unfold szGo at g
    split at g
    · omega
    · have := szGo_tot az _ (by omega) g
      simp only [totA]
      omega
theorem totA_mem : ∀ {xs : List Ac} {a : Ac}, a ∈ xs → a.t.size ≤ totA xs
  | x :: xs, a, h => by
    simp only [List.mem_cons] at h
    simp only [totA]
    rcases h with rfl | h
    · omega
    · have := totA_mem h; omega
theorem szAs_pos {x : Int} {xs : List Ac} (h : ¬ szAs x xs < 0) : (xs.length : Int) ≤ x ∧ (totA xs : Int) + xs.length ≤ x := by
  unfold szAs at h
  split at h
  · exact absurd (by decide) h
  · have := szGo_tot xs (x - xs.length) (by omega) (by omega)
    omega
theorem laws_szActS_c (xs : List Ac) (x : Int) (hl : xs.length < 9223372036854775808 ∧ ∀ a ∈ xs, a.t.size ≤ maxLen) (h0 : 0 ≤ x) (h1 : x < 9223372036854775808) : T 19 [aAs xs, i6 x] [] (i6 (szAs x xs)) ([]) := by
  refine semT' (S := S0) hm laws_szActS_ok (Nat.le_of_ble_eq_true rfl) ?_
  unfold laws_szActS; dsimp only
  obtain ⟨hl, hs⟩ := hl
  have hw : IntKind.i64.wrap (x - xs.length) = x - xs.length := wrap64 (by omega) (by omega)
  simp [hw]
  refine br_intro' (fun u => ?_) (fun u => ?_) <;> (have u0 := u) <;> simp only [decide_eq_true_eq, decide_eq_false_iff_not] at u <;> simp [u0]
  · exact LeV.ro rfl rfl (by simp [szAs, u])
  refine WLoop_fam (fun p : Nat × Int => [(0, aAs xs), (1, i6 p.2), (5, i6 p.1)]) (fun _ => []) (fun p => xs.length - p.1)
    (fun p => p.1 ≤ xs.length ∧ 0 ≤ p.2 ∧ p.2 < 9223372036854775808 ∧ szAs x xs = szGo p.2 (xs.drop p.1)) ?_ (0, x - xs.length) ⟨Nat.zero_le _, by simp only; omega, by simp only; omega, by simp only [szAs, if_neg u]; rfl⟩
  rintro ⟨j, y⟩ ⟨hj, hy0, hy1, hf⟩ ih
  simp only at hj hy0 hy1 hf
  simp
  refine br_intro' (fun v => ?_) (fun v => ?_) <;> (have v0 := v) <;> simp only [decide_eq_true_eq, decide_eq_false_iff_not] at v <;> simp [v0]
  · have h' : j < xs.length := by omega
    obtain ⟨r, hr⟩ := encAs_at h'
    have h3 : 2 ≤ xs.length * 2 - j * 2 := by omega
    have hd : xs.drop j = xs[j] :: xs.drop (j + 1) := List.drop_eq_getElem_cons h'
    simp [h3, hr, h']
    refine laws_szAct_call (a := xs[j]) (x := y) (hs _ (List.getElem_mem h')) hy0 hy1 rfl ?_; simp
    refine br_intro' (fun g => ?_) (fun g => ?_) <;> simp only [decide_eq_true_eq, decide_eq_false_iff_not, szF_neg] at g <;> simp [szF_neg, g]
    · exact LeV.ro rfl rfl (by rw [hf, hd]; simp only [szGo]; rw [if_pos (by omega)]; rfl)
    · rw [szF_pos g, wrap_succ (n := j) (by omega)]
      exact ih (j + 1, y - xs[j].t.size) ⟨by simp only; omega, by simp only; omega, by simp only; omega, by rw [hf, hd]; simp only [szGo]; rw [if_neg (by omega)]⟩ (by simp only; omega)
  · exact LeV.ro rfl rfl (by rw [hf, List.drop_eq_nil_of_le (by omega)]; rfl)
theorem laws_szActS_call {xs : List Ac} {x : Int} (hl : xs.length < 9223372036854775808 ∧ ∀ a ∈ xs, a.t.size ≤ maxLen) (h0 : 0 ≤ x) (h1 : x < 9223372036854775808) {S : FuncId → Bool} {H : List Blk} {K : A → Dl → Prop} (hS : S 19 = false) (hK : K (i6 (szAs x xs)) (.news [])) : @WCall' Go.Proofs.Tryd.prog S 19 [aAs xs, i6 x] H ⟨K⟩ :=
  WCall_pure hS (laws_szActS_c xs x hl h0 h1) (by simp) (by simp) (by simp) hK
theorem laws_szActS_k {xs : List Ac} {x : Int} (hl : xs.length < 9223372036854775808 ∧ ∀ a ∈ xs, a.t.size ≤ maxLen) (h0 : 0 ≤ x) (h1 : x < 9223372036854775808) {S : FuncId → Bool} {H : List Blk} {K : A → Dl → Prop} {zs : List A} (hS : S 19 = false) (hv : viewL (viewA 8 H) zs = some [aAs xs, i6 x]) (ho : noOwns zs = true ∨ nosl (i6 (szAs x xs)) = true) (hK : K (i6 (szAs x xs)) (.news [])) : @WCall' Go.Proofs.Tryd.prog S 19 zs H ⟨K⟩ :=
  WCall_pure hS (laws_szActS_c xs x hl h0 h1) hv ho (by simp) hK
theorem laws_eqAct_c (n m : Ac)  : T 48 [aAc n, aAc m] [] (.bool (decide (n = m))) ([]) := by
  refine semT' (S := S0) hm laws_eqAct_ok (Nat.le_of_ble_eq_true rfl) ?_
  unfold laws_eqAct; dsimp only
  simp
  repeat (any_goals (first | (refine br_intro' (fun h => ?_) (fun h => ?_) <;> (have h0 := h) <;> (try simp at h) <;> try simp [h0, h])))
  all_goals exact LeV.ro rfl rfl (by simp [Ac_eq, *])
theorem laws_eqAct_call {n m : Ac}  {S : FuncId → Bool} {H : List Blk} {K : A → Dl → Prop} (hS : S 48 = false) (hK : K (.bool (decide (n = m))) (.news [])) : @WCall' Go.Proofs.Tryd.prog S 48 [aAc n, aAc m] H ⟨K⟩ :=
  WCall_pure hS (laws_eqAct_c n m) (by simp) (by simp) (by simp) hK
theorem laws_eqAct_k {n m : Ac}  {S : FuncId → Bool} {H : List Blk} {K : A → Dl → Prop} {zs : List A} (hS : S 48 = false) (hv : viewL (viewA 8 H) zs = some [aAc n, aAc m]) (ho : noOwns zs = true ∨ nosl (.bool (decide (n = m))) = true) (hK : K (.bool (decide (n = m))) (.news [])) : @WCall' Go.Proofs.Tryd.prog S 48 zs H ⟨K⟩ :=
  WCall_pure hS (laws_eqAct_c n m) hv ho (by simp) hK
def zA (j : Nat) : List Ac := List.replicate j ⟨0, ⟨#[]⟩⟩
def upA (ns : List Ac) (j : Nat) : List Ac := ns.take j ++ zA (ns.length - j)
theorem upA_len (ns : List Ac) (j : Nat) (h : j ≤ ns.length) : (upA ns j).length = ns.length := by simp [upA, zA]; omega
theorem upA_zero (ns : List Ac) : upA ns 0 = zA ns.length := by simp [upA]
theorem upA_end (ns : List Ac) : upA ns ns.length = ns := by simp [upA, zA]
theorem encAs_zA (j : Nat) : encAs (zA j) = (List.replicate j [i6 0, .str ⟨#[]⟩]).flatten := by
  induction j with
  | zero => rfl
  | succ j ih => simp only [zA, List.replicate_succ, encAs, List.flatMap_cons, List.flatten_cons] at ih ⊢; rw [ih]; rfl
theorem upA_set (ns : List Ac) (j : Nat) (h : j < ns.length) : (upA ns j).set j ns[j] = upA ns (j + 1) := by
  have hl : (ns.take j).length = j := by simp; omega
  have e : ns.length - j = (ns.length - (j + 1)) + 1 := by omega
  simp only [upA, zA]
  rw [List.set_append_right _ _ (by omega), hl, Nat.sub_self, e, List.replicate_succ, List.set_cons_zero, List.take_succ_eq_append_getElem h, List.append_assoc]
  rfl
theorem encAs_set : ∀ (xs : List Ac) (j : Nat) (n : Ac), ((encAs xs).set (j * 2) (i6 n.k)).set (j * 2 + 1) (.str n.t) = encAs (xs.set j n)
  | [], j, n => by simp
  | x :: xs, 0, n => rfl
  | x :: xs, j + 1, n => by
    have := encAs_set xs j n
    have e : (j + 1) * 2 = j * 2 + 1 + 1 := by omega
    show (([i6 x.k, .str x.t] ++ encAs xs).set ((j + 1) * 2) _).set ((j + 1) * 2 + 1) _ = [i6 x.k, .str x.t] ++ encAs (xs.set j n)
    rw [e, ← this]
    rfl
theorem laws_toActS_c (ns : List Ac) (hl : ns.length ≤ 4294967296) : T 21 [aAs ns] [] (acref 0 ns) ([uacblk ns]) := by
  refine semT' (S := S0) hm laws_toActS_ok (Nat.le_of_ble_eq_true rfl) ?_
  unfold laws_toActS; dsimp only
  have h1 : ((ns.length : Int)) * 24 ≤ 17592186044416 := by omega
  have h2 : (ns.length : Int) ≤ 4294967296 := by omega
  simp
  refine ck_intro' (by omega) ?_; simp
  rw [← encAs_zA, ← upA_zero]
  refine WLoop_fam (fun j : Nat => [(0, aAs ns), (3, A.ref 0 0 0 ns.length), (4, i6 j)]) (fun j => [⟨0, false, 2, encAs (upA ns j), none⟩]) (fun j => ns.length - j)
    (fun j => j ≤ ns.length) ?_ 0 (Nat.zero_le _)
  intro j hj ih
  simp [upA_len ns j hj]
  refine br_intro' (fun h => ?_) (fun h => ?_) <;> (have h0 := h) <;> (try simp at h) <;> try simp [h0, h]
  · obtain ⟨r, hr⟩ := encAs_at h
    have h3 : 2 ≤ ns.length * 2 - j * 2 := by omega
    have hw : IntKind.i64.wrap ((j : Int) + 1) = j + 1 := wrap64 (by omega) (by omega)
    have h' := h
    simp [h3, hr, h']
    refine laws_toAct_call (a := ns[j]) rfl ?_; simp [upA_len ns j hj, h']
    refine ck_intro' (by omega) ?_; simp
    rw [hw, encAs_set, upA_set ns j h']
    exact ih (j + 1) h' (by omega)
  · have h0 : j = ns.length := by omega
    subst h0
    rw [upA_end]
    first | (refine LeV.tell [none] ?_ ?_ ?_ <;> (simp; done)) | (refine LeV.tell [some 0] ?_ ?_ ?_ <;> (simp; done)) | (refine LeV.tell [some 1] ?_ ?_ ?_ <;> (simp; done)) | (refine LeV.tell [some 2] ?_ ?_ ?_ <;> (simp; done)) | (refine LeV.tell [some 3] ?_ ?_ ?_ <;> (simp; done)) | (refine LeV.tell [some 4] ?_ ?_ ?_ <;> (simp; done)) | (refine LeV.tell [some 5] ?_ ?_ ?_ <;> (simp; done)) | (refine LeV.tell [some 6] ?_ ?_ ?_ <;> (simp; done)) | (refine LeV.tell [some 7] ?_ ?_ ?_ <;> (simp; done)) | (refine LeV.tell [some 8] ?_ ?_ ?_ <;> (simp; done)) | (refine LeV.tell [some 9] ?_ ?_ ?_ <;> (simp; done)) | (refine LeV.tell [some 10] ?_ ?_ ?_ <;> (simp; done)) | (refine LeV.tell [some 11] ?_ ?_ ?_ <;> (simp; done)) | (refine LeV.tell [some 12] ?_ ?_ ?_ <;> (simp; done)) | (refine LeV.tell [some 13] ?_ ?_ ?_ <;> (simp; done)) | (refine LeV.tell [some 14] ?_ ?_ ?_ <;> (simp; done)) | (refine LeV.tell [some 15] ?_ ?_ ?_ <;> (simp; done))
theorem laws_toActS_k {ns : List Ac} (hl : ns.length ≤ 4294967296) {S : FuncId → Bool} {H : List Blk} {K : A → Dl → Prop} {zs : List A} (hS : S 21 = false) (hv : viewL (viewA 8 H) zs = some [aAs ns]) (ho : noOwns zs = true ∨ nosl (acref 0 ns) = true ∧ noslBlks ([uacblk ns]) = true) (hK : K (shiftA H.length (acref 0 ns)) (.news (([uacblk ns]).map (shiftB H.length)))) : @WCall' Go.Proofs.Tryd.prog S 21 zs H ⟨K⟩ :=
  WCall_ro' hS hv (laws_toActS_c ns hl) rfl ho hK
theorem laws_eqActS_c (ns ms : List Ac) (hl : ns.length < 9223372036854775807) (hl2 : ms.length < 9223372036854775807) : T 23 [aAs ns, aAs ms] [] (.bool (decide (ns = ms))) ([]) := by
  refine semT' (S := S0) hm laws_eqActS_ok (Nat.le_of_ble_eq_true rfl) ?_
  unfold laws_eqActS; dsimp only
  simp
  refine br_intro' (fun h => ?_) (fun h => ?_) <;> (try simp at h) <;> (try simp [h])
  · refine WLoop_fam (fun j : Nat => [(0, aAs ns), (1, aAs ms), (5, i6 j)]) (fun _ => []) (fun j => ns.length - j)
      (fun j => j ≤ ns.length ∧ ns.take j = ms.take j) ?_ 0 ⟨Nat.zero_le _, by simp⟩
    intro j ⟨hj, hf⟩ ih
    simp
    have hq : ns.length = ms.length := by omega
    refine br_intro' (fun h => ?_) (fun h => ?_) <;> (have h0 := h) <;> (try simp at h) <;> try simp [h0, h]
    · obtain ⟨r, hr⟩ := encAs_at h
      have hm : j < ms.length := by omega
      obtain ⟨r2, hr2⟩ := encAs_at hm
      have h3 : 2 ≤ ms.length * 2 - j * 2 := by omega
      have h4 : 2 ≤ ns.length * 2 - j * 2 := by omega
      have hw : IntKind.i64.wrap ((j : Int) + 1) = j + 1 := wrap64 (by omega) (by omega)
      have h' := h
      simp [h3, h4, hr, h', hr2, hm]
      refine laws_eqAct_call (n := ns[j]) (m := ms[j]) rfl ?_; simp
      first | (refine ck_intro' (by kernel_rfl) ?_; try simp) | skip
      refine br_intro' (fun g => ?_) (fun g => ?_) <;> simp at g <;> simp [g]
      · rw [hw]
        exact ih (j + 1) ⟨h', by rw [List.take_succ_eq_append_getElem h', List.take_succ_eq_append_getElem hm, hf, g]⟩ (by omega)
      · exact LeV.ro rfl rfl (by simp; intro e; subst e; exact g rfl)
    · have h0 : j = ns.length := by omega
      exact LeV.ro rfl rfl (by rw [h0, List.take_length, hq, List.take_length] at hf; simp [hf])
  · exact LeV.ro rfl rfl (by simp; intro e; rw [e] at h; exact h rfl)
theorem laws_eqActS_call {ns ms : List Ac} (hl : ns.length < 9223372036854775807) (hl2 : ms.length < 9223372036854775807) {S : FuncId → Bool} {H : List Blk} {K : A → Dl → Prop} (hS : S 23 = false) (hK : K (.bool (decide (ns = ms))) (.news [])) : @WCall' Go.Proofs.Tryd.prog S 23 [aAs ns, aAs ms] H ⟨K⟩ :=
  WCall_pure hS (laws_eqActS_c ns ms hl hl2) (by simp) (by simp) (by simp) hK
theorem laws_eqActS_k {ns ms : List Ac} (hl : ns.length < 9223372036854775807) (hl2 : ms.length < 9223372036854775807) {S : FuncId → Bool} {H : List Blk} {K : A → Dl → Prop} {zs : List A} (hS : S 23 = false) (hv : viewL (viewA 8 H) zs = some [aAs ns, aAs ms]) (ho : noOwns zs = true ∨ nosl (.bool (decide (ns = ms))) = true) (hK : K (.bool (decide (ns = ms))) (.news [])) : @WCall' Go.Proofs.Tryd.prog S 23 zs H ⟨K⟩ :=
  WCall_pure hS (laws_eqActS_c ns ms hl hl2) hv ho (by simp) hK
end Go.Proofs.YtmlfacjgfjmdeaaDoor.C

set_option linter.unusedVariables false
set_option linter.unusedSimpArgs false
set_option maxRecDepth 4000
namespace Go.Proofs.YtmlfacjgfjmdeaaDoor.C
open Go.Sym Go.Proofs.YtmlfacjgfjmdeaaDoor.I
/-- An act of a role, at its place. -/
def actAt (xs : List Ac) (i : Nat) : Bool := actF (xs.getD i ⟨0, ⟨#[]⟩⟩) && (decide ((xs.getD i ⟨0, ⟨#[]⟩⟩).k = 4) == decide (i + 1 = xs.length))
def roleF (xs : List Ac) : Bool := allF (actAt xs) xs.length 0 && inF xs.length 1 20
theorem actAt_eq {xs : List Ac} {j : Nat} (h : j < xs.length) : actAt xs j = (actF xs[j] && (decide (xs[j].k = 4) == decide (j + 1 = xs.length))) := by
  simp [actAt, h]
theorem impl_RoleOk_c (xs : List Ac) (hl : xs.length < 9223372036854775807) (hs : ∀ a ∈ xs, a.t.size ≤ 281474976710656) : T 22 [aAs xs] [] (.bool (roleF xs)) ([]) := by
  refine semT' (S := S0) hm impl_RoleOk_ok (Nat.le_of_ble_eq_true rfl) ?_
  unfold impl_RoleOk; dsimp only
  have hlm := wrap_len (n := xs.length) hl
  simp
  refine WLoop_fam (fun j : Nat => [(0, aAs xs), (5, aAs xs), (6, i6 xs.length), (7, i6 j)]) (fun _ => []) (fun j => xs.length - j)
    (fun j => j ≤ xs.length ∧ allF (actAt xs) xs.length 0 = allF (actAt xs) xs.length j) ?_ 0 ⟨Nat.zero_le _, rfl⟩
  intro j ⟨hj, hf⟩ ih
  simp
  refine br_intro' (fun u => ?_) (fun u => ?_) <;> (have u0 := u) <;> simp only [decide_eq_true_eq, decide_eq_false_iff_not] at u <;> simp [u0]
  · have h' : j < xs.length := by omega
    obtain ⟨r, hr⟩ := encAs_at h'
    have h3 : 2 ≤ xs.length * 2 - j * 2 := by omega
    have w0 := wrap_succ (n := j) (by omega)
    simp [h3, hr, h']
    refine impl_ActOk_call (a := xs[j]) (hs _ (List.getElem_mem h')) rfl ?_; simp
    rcases Bool.eq_false_or_eq_true (actF xs[j]) with g | g
    · simp [g, hlm]
      by_cases k1 : xs[j].k = 4
      · have d1 : decide (xs[j].k = 4) = true := by simpa using k1
        by_cases k2 : j + 1 = xs.length
        · have d2 : decide ((j : Int) = (xs.length : Int) - 1) = true := decide_eq_true (by omega)
          simp [d1, d2, w0]
          first
            | exact ih (j + 1) ⟨by omega, by rw [hf, allF_at h', actAt_eq h', g]; simp [k1, k2]⟩ (by omega)
            | exact WLoop_drop [] _ rfl (by simp) (by simp) (by simp) (ih (j + 1) ⟨by omega, by rw [hf, allF_at h', actAt_eq h', g]; simp [k1, k2]⟩ (by omega))
            | exact LeV.ro rfl rfl (by simp only [roleF]; rw [hf, allF_at h', actAt_eq h', g]; simp [k1, k2])
        · have d2 : decide ((j : Int) = (xs.length : Int) - 1) = false := decide_eq_false (by omega)
          simp [d1, d2, w0]
          first
            | exact ih (j + 1) ⟨by omega, by rw [hf, allF_at h', actAt_eq h', g]; simp [k1, k2]⟩ (by omega)
            | exact WLoop_drop [] _ rfl (by simp) (by simp) (by simp) (ih (j + 1) ⟨by omega, by rw [hf, allF_at h', actAt_eq h', g]; simp [k1, k2]⟩ (by omega))
            | exact LeV.ro rfl rfl (by simp only [roleF]; rw [hf, allF_at h', actAt_eq h', g]; simp [k1, k2])
      · have d1 : decide (xs[j].k = 4) = false := by simpa using k1
        by_cases k2 : j + 1 = xs.length
        · have d2 : decide ((j : Int) = (xs.length : Int) - 1) = true := decide_eq_true (by omega)
          simp [d1, d2, w0]
          first
            | exact ih (j + 1) ⟨by omega, by rw [hf, allF_at h', actAt_eq h', g]; simp [k1, k2]⟩ (by omega)
            | exact WLoop_drop [] _ rfl (by simp) (by simp) (by simp) (ih (j + 1) ⟨by omega, by rw [hf, allF_at h', actAt_eq h', g]; simp [k1, k2]⟩ (by omega))
            | exact LeV.ro rfl rfl (by simp only [roleF]; rw [hf, allF_at h', actAt_eq h', g]; simp [k1, k2])
        · have d2 : decide ((j : Int) = (xs.length : Int) - 1) = false := decide_eq_false (by omega)
          simp [d1, d2, w0]
          first
            | exact ih (j + 1) ⟨by omega, by rw [hf, allF_at h', actAt_eq h', g]; simp [k1, k2]⟩ (by omega)
            | exact WLoop_drop [] _ rfl (by simp) (by simp) (by simp) (ih (j + 1) ⟨by omega, by rw [hf, allF_at h', actAt_eq h', g]; simp [k1, k2]⟩ (by omega))
            | exact LeV.ro rfl rfl (by simp only [roleF]; rw [hf, allF_at h', actAt_eq h', g]; simp [k1, k2])
    · simp [g]
      exact LeV.ro rfl rfl (by simp only [roleF]; rw [hf, allF_at h', actAt_eq h', g]; simp)
  · refine impl_inRange_call (x := xs.length) (lo := 1) (hi := 20) rfl ?_; simp
    exact LeV.ro rfl rfl (by simp only [roleF]; rw [hf, allF_end (by omega)]; simp)
theorem impl_RoleOk_call {xs : List Ac} (hl : xs.length < 9223372036854775807) (hs : ∀ a ∈ xs, a.t.size ≤ 281474976710656) {S : FuncId → Bool} {H : List Blk} {K : A → Dl → Prop} (hS : S 22 = false) (hK : K (.bool (roleF xs)) (.news [])) : @WCall' Go.Proofs.Tryd.prog S 22 [aAs xs] H ⟨K⟩ :=
  WCall_pure hS (impl_RoleOk_c xs hl hs) (by simp) (by simp) (by simp) hK
theorem impl_RoleOk_k {xs : List Ac} (hl : xs.length < 9223372036854775807) (hs : ∀ a ∈ xs, a.t.size ≤ 281474976710656) {S : FuncId → Bool} {H : List Blk} {K : A → Dl → Prop} {zs : List A} (hS : S 22 = false) (hv : viewL (viewA 8 H) zs = some [aAs xs]) (ho : noOwns zs = true ∨ nosl (.bool (roleF xs)) = true) (hK : K (.bool (roleF xs)) (.news [])) : @WCall' Go.Proofs.Tryd.prog S 22 zs H ⟨K⟩ :=
  WCall_pure hS (impl_RoleOk_c xs hl hs) hv ho (by simp) hK
theorem spec_RoleOk_c (xs : List Ac) (hl : xs.length < 9223372036854775807) (hs : ∀ a ∈ xs, a.t.size ≤ 281474976710656) : T 20 [aAs xs] [] (.bool (roleF xs)) ([]) := by
  refine semT' (S := S0) hm spec_RoleOk_ok (Nat.le_of_ble_eq_true rfl) ?_
  unfold spec_RoleOk; dsimp only
  have hlm := wrap_len (n := xs.length) hl
  simp
  refine spec_l1In_call (x := xs.length) (lo := 1) (hi := 20) rfl ?_; simp
  refine br_intro' (fun v => ?_) (fun v => ?_) <;> simp [v]
  case refine_2 =>
    exact LeV.ro rfl rfl (by simp [roleF, v])
  refine WLoop_fam (fun j : Nat => [(0, aAs xs), (3, i6 xs.length), (4, i6 j)]) (fun _ => []) (fun j => xs.length - j)
    (fun j => j ≤ xs.length ∧ allF (actAt xs) xs.length 0 = allF (actAt xs) xs.length j) ?_ 0 ⟨Nat.zero_le _, rfl⟩
  intro j ⟨hj, hf⟩ ih
  simp
  refine br_intro' (fun u => ?_) (fun u => ?_) <;> (have u0 := u) <;> simp only [decide_eq_true_eq, decide_eq_false_iff_not] at u <;> simp [u0]
  · have h' : j < xs.length := by omega
    obtain ⟨r, hr⟩ := encAs_at h'
    have h3 : 2 ≤ xs.length * 2 - j * 2 := by omega
    have h4 : 1 ≤ xs.length * 2 - j * 2 := by omega
    have w0 := wrap_succ (n := j) (by omega)
    simp [h3, hr, h']
    refine spec_ActOk_call (a := xs[j]) (hs _ (List.getElem_mem h')) rfl ?_; simp
    rcases Bool.eq_false_or_eq_true (actF xs[j]) with g | g
    · simp [g, hlm, h', h4, hr, encAs_k h']
      by_cases k1 : xs[j].k = 4
      · have d1 : decide (xs[j].k = 4) = true := by simpa using k1
        by_cases k2 : j + 1 = xs.length
        · have d2 : decide ((j : Int) = (xs.length : Int) - 1) = true := decide_eq_true (by omega)
          simp [d1, d2, w0]
          first
            | exact ih (j + 1) ⟨by omega, by rw [hf, allF_at h', actAt_eq h', g]; simp [k1, k2]⟩ (by omega)
            | exact WLoop_drop [] _ rfl (by simp) (by simp) (by simp) (ih (j + 1) ⟨by omega, by rw [hf, allF_at h', actAt_eq h', g]; simp [k1, k2]⟩ (by omega))
            | exact LeV.ro rfl rfl (by simp only [roleF]; rw [hf, allF_at h', actAt_eq h', g]; simp [k1, k2])
        · have d2 : decide ((j : Int) = (xs.length : Int) - 1) = false := decide_eq_false (by omega)
          simp [d1, d2, w0]
          first
            | exact ih (j + 1) ⟨by omega, by rw [hf, allF_at h', actAt_eq h', g]; simp [k1, k2]⟩ (by omega)
            | exact WLoop_drop [] _ rfl (by simp) (by simp) (by simp) (ih (j + 1) ⟨by omega, by rw [hf, allF_at h', actAt_eq h', g]; simp [k1, k2]⟩ (by omega))
            | exact LeV.ro rfl rfl (by simp only [roleF]; rw [hf, allF_at h', actAt_eq h', g]; simp [k1, k2])
      · have d1 : decide (xs[j].k = 4) = false := by simpa using k1
        by_cases k2 : j + 1 = xs.length
        · have d2 : decide ((j : Int) = (xs.length : Int) - 1) = true := decide_eq_true (by omega)
          simp [d1, d2, w0]
          first
            | exact ih (j + 1) ⟨by omega, by rw [hf, allF_at h', actAt_eq h', g]; simp [k1, k2]⟩ (by omega)
            | exact WLoop_drop [] _ rfl (by simp) (by simp) (by simp) (ih (j + 1) ⟨by omega, by rw [hf, allF_at h', actAt_eq h', g]; simp [k1, k2]⟩ (by omega))
            | exact LeV.ro rfl rfl (by simp only [roleF]; rw [hf, allF_at h', actAt_eq h', g]; simp [k1, k2])
        · have d2 : decide ((j : Int) = (xs.length : Int) - 1) = false := decide_eq_false (by omega)
          simp [d1, d2, w0]
          first
            | exact ih (j + 1) ⟨by omega, by rw [hf, allF_at h', actAt_eq h', g]; simp [k1, k2]⟩ (by omega)
            | exact WLoop_drop [] _ rfl (by simp) (by simp) (by simp) (ih (j + 1) ⟨by omega, by rw [hf, allF_at h', actAt_eq h', g]; simp [k1, k2]⟩ (by omega))
            | exact LeV.ro rfl rfl (by simp only [roleF]; rw [hf, allF_at h', actAt_eq h', g]; simp [k1, k2])
    · simp [g]
      exact LeV.ro rfl rfl (by simp only [roleF]; rw [hf, allF_at h', actAt_eq h', g]; simp)
  · exact LeV.ro rfl rfl (by simp only [roleF]; rw [hf, allF_end (by omega)]; simp [v])
theorem spec_RoleOk_call {xs : List Ac} (hl : xs.length < 9223372036854775807) (hs : ∀ a ∈ xs, a.t.size ≤ 281474976710656) {S : FuncId → Bool} {H : List Blk} {K : A → Dl → Prop} (hS : S 20 = false) (hK : K (.bool (roleF xs)) (.news [])) : @WCall' Go.Proofs.Tryd.prog S 20 [aAs xs] H ⟨K⟩ :=
  WCall_pure hS (spec_RoleOk_c xs hl hs) (by simp) (by simp) (by simp) hK
theorem spec_RoleOk_k {xs : List Ac} (hl : xs.length < 9223372036854775807) (hs : ∀ a ∈ xs, a.t.size ≤ 281474976710656) {S : FuncId → Bool} {H : List Blk} {K : A → Dl → Prop} {zs : List A} (hS : S 20 = false) (hv : viewL (viewA 8 H) zs = some [aAs xs]) (ho : noOwns zs = true ∨ nosl (.bool (roleF xs)) = true) (hK : K (.bool (roleF xs)) (.news [])) : @WCall' Go.Proofs.Tryd.prog S 20 zs H ⟨K⟩ :=
  WCall_pure hS (spec_RoleOk_c xs hl hs) hv ho (by simp) hK
end Go.Proofs.YtmlfacjgfjmdeaaDoor.C

set_option linter.unusedVariables false
set_option linter.unusedSimpArgs false
set_option maxRecDepth 4000
namespace Go.Proofs
open Go.Shelf
def Tryd.lays166_ren : Go.Shelf.Ren := ⟨fun | 166 => 50 | 240 => 80 | 276 => 109 | n => n, fun | 37 => 39 | 70 => 80 | 72 => 82 | 75 => 84 | 80 => 87 | 164 => 152 | n => n, fun | n => n⟩
theorem Tryd.lays166 : Lays.n166 Tryd.prog Tryd.lays166_ren where
  mixed := by kernel_rfl
  f166 := Tryd.func50.trans (congrArg some (by kernel_rfl))
  f240 := Tryd.func80.trans (congrArg some (by kernel_rfl))
  f276 := Tryd.func109.trans (congrArg some (by kernel_rfl))
  t0 := Tryd.underlying0
  a0 := Tryd.isAgg0
  z0 := Tryd.sizeOf0
  v0 := Tryd.zeroValue0
  t3 := Tryd.underlying3
  a3 := Tryd.isAgg3
  z3 := Tryd.sizeOf3
  v3 := Tryd.zeroValue3
  t4 := Tryd.underlying4
  a4 := Tryd.isAgg4
  z4 := Tryd.sizeOf4
  v4 := Tryd.zeroValue4
  t9 := Tryd.underlying9
  a9 := Tryd.isAgg9
  z9 := Tryd.sizeOf9
  v9 := Tryd.zeroValue9
  t20 := Tryd.underlying20
  a20 := Tryd.isAgg20
  z20 := Tryd.sizeOf20
  v20 := Tryd.zeroValue20
  t37 := Tryd.underlying39
  a37 := Tryd.isAgg39
  z37 := Tryd.sizeOf39
  v37 := Tryd.zeroValue39
  t70 := Tryd.underlying80
  a70 := Tryd.isAgg80
  z70 := Tryd.sizeOf80
  v70 := Tryd.zeroValue80
  t72 := Tryd.underlying82
  a72 := Tryd.isAgg82
  z72 := Tryd.sizeOf82
  v72 := Tryd.zeroValue82
  t75 := Tryd.underlying84
  a75 := Tryd.isAgg84
  z75 := Tryd.sizeOf84
  v75 := Tryd.zeroValue84
  t164 := Tryd.underlying152
  a164 := Tryd.isAgg152
  z164 := Tryd.sizeOf152
  v164 := Tryd.zeroValue152
def Tryd.lays169_ren : Go.Shelf.Ren := ⟨fun | 169 => 52 | n => n, fun | 37 => 39 | 70 => 80 | 72 => 82 | 127 => 118 | n => n, fun | n => n⟩
theorem Tryd.lays169 : Lays.n169 Tryd.prog Tryd.lays169_ren where
  mixed := by kernel_rfl
  f169 := Tryd.func52.trans (congrArg some (by kernel_rfl))
  t0 := Tryd.underlying0
  a0 := Tryd.isAgg0
  z0 := Tryd.sizeOf0
  v0 := Tryd.zeroValue0
  t3 := Tryd.underlying3
  a3 := Tryd.isAgg3
  z3 := Tryd.sizeOf3
  v3 := Tryd.zeroValue3
  t9 := Tryd.underlying9
  a9 := Tryd.isAgg9
  z9 := Tryd.sizeOf9
  v9 := Tryd.zeroValue9
  t37 := Tryd.underlying39
  a37 := Tryd.isAgg39
  z37 := Tryd.sizeOf39
  v37 := Tryd.zeroValue39
  t70 := Tryd.underlying80
  a70 := Tryd.isAgg80
  z70 := Tryd.sizeOf80
  v70 := Tryd.zeroValue80
  t72 := Tryd.underlying82
  a72 := Tryd.isAgg82
  z72 := Tryd.sizeOf82
  v72 := Tryd.zeroValue82
  t127 := Tryd.underlying118
  a127 := Tryd.isAgg118
  z127 := Tryd.sizeOf118
  v127 := Tryd.zeroValue118
theorem Tryd.extra166 : Builder.Extra Tryd.prog Tryd.lays166_ren where
  sizeBuilder := by kernel_rfl
  liesBuilder := by kernel_rfl
  t5 := Tryd.underlying5
  a5 := Tryd.isAgg5
  z5 := Tryd.sizeOf5
  v5 := Tryd.zeroValue5
  infoByte := by kernel_rfl
  cellsByte := by kernel_rfl
  sizeByte := by kernel_rfl
  neB5 := by decide
theorem Tryd.extra169 : Builder.Extra Tryd.prog Tryd.lays169_ren where
  sizeBuilder := by kernel_rfl
  liesBuilder := by kernel_rfl
  t5 := Tryd.underlying5
  a5 := Tryd.isAgg5
  z5 := Tryd.sizeOf5
  v5 := Tryd.zeroValue5
  infoByte := by kernel_rfl
  cellsByte := by kernel_rfl
  sizeByte := by kernel_rfl
  neB5 := by decide
end Go.Proofs
namespace Go.Proofs.YtmlfacjgfjmdeaaDoor.C
open Go.Sym Go.Proofs.YtmlfacjgfjmdeaaDoor.I Go.RowKit
theorem Below.sym {c : Cx} {w' : World} (hr : RelH c) (hH : c.H = fun _ => none) (hb : Below c.w.heap.size c.w w') : RelH ⟨c.H, c.io, w', c.X⟩ ∧ Step c ⟨c.H, c.io, w', c.X⟩ := by
  have hn : ∀ b k, c.H b = some k → False := fun b k h => by rw [hH] at h; simp at h
  refine ⟨⟨fun b k h => (hn b k h).elim, fun b k h => (hn b k h).elim, fun b k h => (hn b k h).elim, fun b k h => (hn b k h).elim, fun b k st l h => (hn b k h).elim, fun b b' k k' h => (hn b k h).elim, fun b k h => (hn b k h).elim, fun k h => Nat.lt_of_lt_of_le (hr.xlt k h) hb.size⟩, ?_⟩
  refine ⟨hb.os, hb.tape, hb.output, hb.size, fun k hk _ => hb.block k hk, fun k hk => .inl hk, fun b k h => (hn b k h).elim, rfl, fun ad hh => ?_, MPers.of_blk fun k hk => hb.block k hk⟩
  obtain ⟨u, hu⟩ := Option.isSome_iff_exists.1 hh
  show (w'.cell? ad).isSome = true
  rw [hb.cell (World.block_lt_of_cell? _ _ hu), hu]
  rfl
/-- A contract with no row, as the kit's run. -/
theorem SemT.calls {P : Program} {f : FuncId} {xs : List A} {r : A} {Hr : List Blk} (h : SemT P f xs [] r Hr) {c : Cx} {vs : Array Value} (hg : Gd P c) (hr : RelH c) (hH : c.H = fun _ => none) (hvs : VRs c xs vs.toList) :
    Calls P f vs c.w fun e w' => ∃ v c', e = .returned v ∧ VR c' r v ∧ Below c.w.heap.size c.w w' := by
  refine (h c vs hg hr (by rw [hH]; rfl) hvs).mono ?_
  rintro e w' ⟨v, c', rfl, rfl, _, _, hv, hs⟩
  exact ⟨v, c', rfl, hv, hs.os, hs.tape, hs.output, hs.size, fun k hk => hs.blk k hk fun ⟨b, blk, hb, _⟩ => by rw [hH] at hb; simp at hb⟩
theorem semT_belowH {P : Program} {f : FuncId} {xs : List A} {r : A} (h : ∀ (c : Cx) (vs : Array Value), Gd P c → RelH c → c.H = (fun _ => none) → VRs c xs vs.toList → Calls P f vs c.w fun e w' => ∃ v, (∀ c' : Cx, VR c' r v) ∧ e = .returned v ∧ Below c.w.heap.size c.w w') : SemT P f xs [] r [] := by
  intro c vs hgd hr hH hvs
  have hH' : c.H = fun _ => none := by rw [hH]; rfl
  refine (h c vs hgd hr hH' hvs).mono ?_
  rintro e w' ⟨v, hv, rfl, hb⟩
  obtain ⟨h1, h2⟩ := Below.sym hr hH' hb
  exact ⟨v, ⟨c.H, c.io, w', c.X⟩, rfl, rfl, hH, h1, hv _, h2⟩
/-- A role's text, line by line. -/
def wordB (k : Int) : ByteArray := if k = 1 then ⟨#[102, 114, 101, 115, 104, 32]⟩ else if k = 2 then ⟨#[115, 101, 110, 100, 32]⟩ else if k = 3 then ⟨#[116, 97, 107, 101, 32]⟩ else ⟨#[99, 108, 97, 105, 109, 32]⟩
def lineB (a : Ac) : ByteArray := wordB a.k ++ a.t ++ ⟨#[10]⟩
def linesL (xs : List Ac) : List UInt8 := xs.flatMap fun a => (lineB a).data.toList
theorem impl_wordOf_c (k : Int) (h1 : 1 ≤ k) (h2 : k ≤ 4) : T 51 [i6 k] [] (.str (wordB k)) ([]) := by
  refine semT' (S := S0) hm impl_wordOf_ok (Nat.le_of_ble_eq_true rfl) ?_
  unfold impl_wordOf; dsimp only
  have hw : IntKind.i64.wrap (k - 1) = k - 1 := wrap64 (by omega) (by omega)
  simp [hw]
  first | (refine ck_intro' (by kernel_rfl) ?_; try simp) | skip
  rcases (by omega : k = 1 ∨ k = 2 ∨ k = 3 ∨ k = 4) with h | h | h | h <;> subst h <;> simp <;> exact LeV.refl _ _ _
theorem impl_wordOf_call {k : Int} (h1 : 1 ≤ k) (h2 : k ≤ 4) {S : FuncId → Bool} {H : List Blk} {K : A → Dl → Prop} (hS : S 51 = false) (hK : K (.str (wordB k)) (.news [])) : @WCall' Go.Proofs.Tryd.prog S 51 [i6 k] H ⟨K⟩ :=
  WCall_pure hS (impl_wordOf_c k h1 h2) (by simp) (by simp) (by simp) hK
theorem impl_wordOf_k {k : Int} (h1 : 1 ≤ k) (h2 : k ≤ 4) {S : FuncId → Bool} {H : List Blk} {K : A → Dl → Prop} {zs : List A} (hS : S 51 = false) (hv : viewL (viewA 8 H) zs = some [i6 k]) (ho : noOwns zs = true ∨ nosl (.str (wordB k)) = true) (hK : K (.str (wordB k)) (.news [])) : @WCall' Go.Proofs.Tryd.prog S 51 zs H ⟨K⟩ :=
  WCall_pure hS (impl_wordOf_c k h1 h2) hv ho (by simp) hK
end Go.Proofs.YtmlfacjgfjmdeaaDoor.C

set_option linter.unusedVariables false
set_option linter.unusedSimpArgs false
set_option maxRecDepth 4000
namespace Go.Proofs.YtmlfacjgfjmdeaaDoor.C
open Go.Sym Go.Proofs.YtmlfacjgfjmdeaaDoor.I Go.RowKit
theorem allF_all2 {p : Nat → Bool} {n : Nat} (h : allF p n 0 = true) {i : Nat} (hi : i < n) : p i = true := by
  have : ∀ k, k ≤ i → allF p n k = true := by
    intro k
    induction k with
    | zero => intro _; exact h
    | succ k ih =>
      intro hk
      have := ih (by omega)
      rw [allF_at (by omega), Bool.and_eq_true] at this
      exact this.2
  have := this i (Nat.le_refl _)
  rw [allF_at hi, Bool.and_eq_true] at this
  exact this.1
theorem linesL_at {xs : List Ac} {i : Nat} (h : i < xs.length) : linesL (xs.take (i + 1)) = linesL (xs.take i) ++ (lineB xs[i]).data.toList := by
  rw [List.take_succ_eq_append_getElem h]
  simp only [linesL, List.flatMap_append, List.flatMap_cons, List.flatMap_nil, List.append_nil]
theorem linesL_le (xs : List Ac) (i : Nat) : (linesL (xs.take i)).length ≤ (linesL xs).length := by
  have : linesL xs = linesL (xs.take i) ++ linesL (xs.drop i) := by
    rw [linesL, linesL, linesL, ← List.flatMap_append, List.take_append_drop]
  rw [this, List.length_append]
  omega
def printL (xs : List Ac) : List UInt8 := if roleF xs then linesL xs else []
def printB (xs : List Ac) : ByteArray := ⟨(printL xs).toArray⟩
theorem wordB_size (k : Int) : (wordB k).size ≤ 6 := by
  unfold wordB
  repeat' split
  all_goals decide
theorem actF_k {a : Ac} (h : actF a = true) : 1 ≤ a.k ∧ a.k ≤ 4 := by
  unfold actF at h
  repeat' split at h
  all_goals first | omega | simp at h
theorem words_0 (w : World) : (Instr.index 117 (.agg #[.string ⟨#[102, 114, 101, 115, 104, 32]⟩, .string ⟨#[115, 101, 110, 100, 32]⟩, .string ⟨#[116, 97, 107, 101, 32]⟩, .string ⟨#[99, 108, 97, 105, 109, 32]⟩]) (.int .i64 0)).run Tryd.prog w = .ok (.string ⟨#[102, 114, 101, 115, 104, 32]⟩) w := by kernel_rfl
theorem words_1 (w : World) : (Instr.index 117 (.agg #[.string ⟨#[102, 114, 101, 115, 104, 32]⟩, .string ⟨#[115, 101, 110, 100, 32]⟩, .string ⟨#[116, 97, 107, 101, 32]⟩, .string ⟨#[99, 108, 97, 105, 109, 32]⟩]) (.int .i64 1)).run Tryd.prog w = .ok (.string ⟨#[115, 101, 110, 100, 32]⟩) w := by kernel_rfl
theorem words_2 (w : World) : (Instr.index 117 (.agg #[.string ⟨#[102, 114, 101, 115, 104, 32]⟩, .string ⟨#[115, 101, 110, 100, 32]⟩, .string ⟨#[116, 97, 107, 101, 32]⟩, .string ⟨#[99, 108, 97, 105, 109, 32]⟩]) (.int .i64 2)).run Tryd.prog w = .ok (.string ⟨#[116, 97, 107, 101, 32]⟩) w := by kernel_rfl
theorem words_3 (w : World) : (Instr.index 117 (.agg #[.string ⟨#[102, 114, 101, 115, 104, 32]⟩, .string ⟨#[115, 101, 110, 100, 32]⟩, .string ⟨#[116, 97, 107, 101, 32]⟩, .string ⟨#[99, 108, 97, 105, 109, 32]⟩]) (.int .i64 3)).run Tryd.prog w = .ok (.string ⟨#[99, 108, 97, 105, 109, 32]⟩) w := by kernel_rfl
theorem wordOf_calls {k : Int} (h1 : 1 ≤ k) (h2 : k ≤ 4) (w : World) : Calls Tryd.prog 51 #[.int .i64 k] w fun e w' => e = .returned (.string (wordB k)) ∧ w' = w := by
  have i0 := words_0 w
  have i1 := words_1 w
  have i2 := words_2 w
  have i3 := words_3 w
  rcases (by omega : k = 1 ∨ k = 2 ∨ k = 3 ∨ k = 4) with h | h | h | h <;> subst h <;> (go_enter Tryd.func51, Tryd.ntmps51) <;> go_wp2 <;> go_ret <;> exact ⟨rfl, rfl⟩
set_option maxHeartbeats 4000000 in
set_option maxRecDepth 1000000 in
theorem rprint_walk (xs : List Ac) (hl : xs.length < 9223372036854775807) (hs : ∀ a ∈ xs, a.t.size ≤ 281474976710656) (ht : (linesL xs).length ≤ 140737488355328) (c : Cx) (hg : Gd Tryd.prog c) (hr : RelH c) (hH : c.H = fun _ => none) (v : Value) (hv : VR c (aAs xs) v) :
    Calls Tryd.prog 25 #[v] c.w fun e w' => e = .returned (.string (printB xs)) ∧ Below c.w.heap.size c.w w' := by
  have cR := SemT.calls (impl_RoleOk_c xs hl hs) hg hr hH (vs := #[v]) ⟨v, [], rfl, hv, rfl⟩
  obtain ⟨a, cap, rfl, hcap, hrd⟩ := hv
  go_enter Tryd.func25, Tryd.ntmps25
  go_wp2_with (go_at_call 22; refine cR.mono ?_)
  rintro e W1 ⟨v1, c1, rfl, hv1, b1⟩
  have e1 : v1 = .bool (roleF xs) := hv1
  subst e1
  rcases Bool.eq_false_or_eq_true (roleF xs) with hro | hro
  · have hne : 1 ≤ xs.length := by
      simp only [roleF, Bool.and_eq_true, inF, decide_eq_true_eq] at hro
      omega
    obtain ⟨ad, vs, rfl, had, hab, haz, hrd, hvs⟩ := hrd.resolve_left (by omega)
    have hsz0 := b1.size
    rw [hro]
    go_wp2
    have hI0 : Lib.IsBuilderF 82 5 W1.heap.size W1.heap.size [] (W1.alloc (.cells #[.pointer none, .slice none 0 0] 82)) := Lib.IsBuilderF.of (Lib.fresh_isBuilder 82 5 W1)
    go_loopw [11] (fun vi wr => ∃ i : Nat, vi = .int .i64 i ∧ i ≤ xs.length ∧ Lib.IsBuilderF 82 5 W1.heap.size W1.heap.size (Lib.byteCells (linesL (xs.take i))) wr ∧ Below c.w.heap.size c.w wr ∧ W1.heap.size ≤ wr.heap.size) (fun vi _ => xs.length - (intOf vi).toNat)
    case atStart => exact ⟨0, by rfl, Nat.zero_le _, hI0, b1.alloc b1.size _, by simp⟩
    case round =>
      obtain ⟨i, rfl, hi, hB, hbw, hsz⟩ := hrel
      by_cases hlt : i < xs.length
      · have hA := encAs_gets hlt
        have hcl : ∀ (j : Nat) (x : A), (encAs xs)[j]? = some x → ∃ v, wr.cell? ⟨ad.block, ad.off + j, none⟩ = some v ∧ VR c x v := fun j x hx => by
          obtain ⟨v, hv1, hv2⟩ := hvs.get hx
          exact ⟨v, (hbw.cell (show (⟨ad.block, ad.off + j, none⟩ : Addr).block < _ from hab)).trans (hrd j v hv1), hv2⟩
        obtain ⟨v0, hc0, rfl⟩ := hcl _ _ hA.1
        obtain ⟨v1, hc1, rfl⟩ := hcl _ _ hA.2
        have hkt : actF xs[i] = true := by
          simp only [roleF, Bool.and_eq_true] at hro
          have := allF_all2 hro.1 hlt
          rw [actAt_eq hlt, Bool.and_eq_true] at this
          exact this.1
        generalize hq : xs[i] = q at hc0 hc1 hkt
        obtain ⟨ab, ao, asp⟩ := ad
        simp only at had hab hc0 hc1
        subst had
        have hc1' : wr.cell? ⟨ab, ao + i * 2 + 1, none⟩ = some (.string q.t) := hc1
        clear hc1 hcl hA hrd hvs haz cR
        have hqk := actF_k hkt
        have hW := fun w' => wordOf_calls hqk.1 hqk.2 w'
        go_wp2
        have hA0 : ((wr.alloc (Obj.cells #[Value.int IntKind.i64 q.k, Value.string q.t] 28)).drew).cell? ⟨wr.heap.size, 0, none⟩ = some (.int .i64 q.k) := by go_simp
        have hA1 : ((wr.alloc (Obj.cells #[Value.int IntKind.i64 q.k, Value.string q.t] 28)).drew).cell? ⟨wr.heap.size, 1, none⟩ = some (.string q.t) := by go_simp
        have hBA := (hB.alloc (Obj.cells #[Value.int IntKind.i64 q.k, Value.string q.t] 28)).imp (·.drew) (·.drew)
        have hbA := (hbw.alloc hbw.size (Obj.cells #[Value.int IntKind.i64 q.k, Value.string q.t] 28)).drew
        have hszA : W1.heap.size ≤ ((wr.alloc (Obj.cells #[Value.int IntKind.i64 q.k, Value.string q.t] 28)).drew).heap.size := by simp; omega
        have hqs : q.t.size ≤ 281474976710656 := hq ▸ hs _ (List.getElem_mem hlt)
        have hws := wordB_size q.k
        have hn1 : ¬ 9223372036854775807 < (wordB q.k).size + q.t.size := by omega
        have hn2 : ¬ 9223372036854775807 < (wordB q.k).size + q.t.size + 1 := by omega
        have hlen : (Lib.byteCells (linesL (xs.take i))).length + (wordB q.k ++ q.t ++ ⟨#[10]⟩).size ≤ 140737488355328 := by
          rw [Lib.byteCells_length]
          have h1 : (linesL (xs.take i)).length + (lineB q).size ≤ (linesL xs).length := by
            have h2 := linesL_le xs (i + 1)
            rw [linesL_at hlt, hq, List.length_append] at h2
            exact h2
          exact Nat.le_trans h1 ht
        refine wp_region_still_tail 7 (by kernel_rfl) (by kernel_rfl) ?_
        simp only [List.take_succ_cons, List.take_zero, List.drop_succ_cons, List.drop_zero]
        change wpStill _ _ ((wr.alloc (Obj.cells #[Value.int IntKind.i64 q.k, Value.string q.t] 28)).drew) (fun a' => wpList _ _ _ _ a' ((wr.alloc (Obj.cells #[Value.int IntKind.i64 q.k, Value.string q.t] 28)).drew)) _ _
        generalize hwA : (wr.alloc (Obj.cells #[Value.int IntKind.i64 q.k, Value.string q.t] 28)).drew = wA at hA0 hA1 hBA hbA hszA ⊢
        still_step
        still_step
        still_call (hW _)
        still_step
        still_step
        still_step
        still_step
        refine wpStill_nil ?_
        go_wp2_with (go_at_call 50; refine (Any.Builder_WriteString_k Tryd.lays166 Tryd.extra166 W1.heap.size W1.heap.size _ _ wA hBA hlen hszA).mono ?_)
        rintro e W3 ⟨rfl, h3, b3, _⟩
        go_wp2
        go_roundw
        case rel =>
          refine ⟨i + 1, by go_num, by omega, ?_, hbA.trans (b3.mono b1.size), Nat.le_trans hszA b3.size⟩
          rw [linesL_at hlt, hq, Lib.byteCells_append]
          exact Or.inr h3
        case measure => simp [intOf]; omega
      · have hie : i = xs.length := by omega
        rw [hie, List.take_length] at hB
        go_wp2_with (go_at_call 52; refine (Any.Builder_String_any_k Tryd.lays169 Tryd.extra169 W1.heap.size W1.heap.size (linesL xs) _ hB hsz).mono ?_)
        rintro e W2 ⟨rfl, _, b2, _⟩
        go_wp2
        go_ret
        exact ⟨by simp [printB, printL, hro], hbw.trans (b2.mono b1.size)⟩
  · rw [hro]
    go_wp2
    go_ret
    exact ⟨by simp [printB, printL, hro], b1⟩
theorem impl_RolePrint_c (xs : List Ac) (hl : xs.length < 9223372036854775807) (hs : ∀ a ∈ xs, a.t.size ≤ 281474976710656) (ht : (linesL xs).length ≤ 140737488355328) : T 25 [aAs xs] [] (.str (printB xs)) [] := by
  refine semT_belowH fun c vs hg hr hH hvs => ?_
  simp only [VRs] at hvs
  obtain ⟨v, vs', e, hv, rfl⟩ := hvs
  obtain rfl : vs = #[v] := by cases vs; simp only at e; rw [e]
  refine (rprint_walk xs hl hs ht c hg hr hH v hv).mono ?_
  rintro e w' ⟨rfl, hb⟩
  exact ⟨_, fun c' => rfl, rfl, hb⟩
end Go.Proofs.YtmlfacjgfjmdeaaDoor.C

set_option linter.unusedVariables false
set_option linter.unusedSimpArgs false
set_option maxRecDepth 4000
namespace Go.Proofs.YtmlfacjgfjmdeaaDoor.C
open Go.Sym Go.Proofs.YtmlfacjgfjmdeaaDoor.I
theorem impl_RolePrint_call {xs : List Ac} (hl : xs.length < 9223372036854775807) (hs : ∀ a ∈ xs, a.t.size ≤ 281474976710656) (ht : (linesL xs).length ≤ 140737488355328) {S : FuncId → Bool} {H : List Blk} {K : A → Dl → Prop} (hS : S 25 = false) (hK : K (.str (printB xs)) (.news [])) : @WCall' Go.Proofs.Tryd.prog S 25 [aAs xs] H ⟨K⟩ :=
  WCall_pure hS (impl_RolePrint_c xs hl hs ht) (by simp) (by simp) (by simp) hK
theorem impl_RolePrint_k {xs : List Ac} (hl : xs.length < 9223372036854775807) (hs : ∀ a ∈ xs, a.t.size ≤ 281474976710656) (ht : (linesL xs).length ≤ 140737488355328) {S : FuncId → Bool} {H : List Blk} {K : A → Dl → Prop} {zs : List A} (hS : S 25 = false) (hv : viewL (viewA 8 H) zs = some [aAs xs]) (ho : noOwns zs = true ∨ nosl (.str (printB xs)) = true) (hK : K (.str (printB xs)) (.news [])) : @WCall' Go.Proofs.Tryd.prog S 25 zs H ⟨K⟩ :=
  WCall_pure hS (impl_RolePrint_c xs hl hs ht) hv ho (by simp) hK
def wordB0 (k : Int) : ByteArray := if k = 0 then ⟨#[]⟩ else wordB k
theorem spec_l12Word_c (k : Int) (h1 : 1 ≤ k) (h2 : k ≤ 4) : T 49 [i6 k] [] (.str (wordB k)) ([]) := by
  refine semT' (S := S0) hm spec_l12Word_ok (Nat.le_of_ble_eq_true rfl) ?_
  unfold spec_l12Word; dsimp only
  simp
  rcases (by omega : k = 1 ∨ k = 2 ∨ k = 3 ∨ k = 4) with h | h | h | h <;> subst h <;> simp <;> repeat (refine ck_intro' (by first | omega | (simp; omega) | kernel_rfl) ?_; try simp)
  all_goals exact LeV.ro rfl rfl rfl
theorem spec_l12Word_call {k : Int} (h1 : 1 ≤ k) (h2 : k ≤ 4) {S : FuncId → Bool} {H : List Blk} {K : A → Dl → Prop} (hS : S 49 = false) (hK : K (.str (wordB k)) (.news [])) : @WCall' Go.Proofs.Tryd.prog S 49 [i6 k] H ⟨K⟩ :=
  WCall_pure hS (spec_l12Word_c k h1 h2) (by simp) (by simp) (by simp) hK
theorem spec_l12Word_k {k : Int} (h1 : 1 ≤ k) (h2 : k ≤ 4) {S : FuncId → Bool} {H : List Blk} {K : A → Dl → Prop} {zs : List A} (hS : S 49 = false) (hv : viewL (viewA 8 H) zs = some [i6 k]) (ho : noOwns zs = true ∨ nosl (.str (wordB k)) = true) (hK : K (.str (wordB k)) (.news [])) : @WCall' Go.Proofs.Tryd.prog S 49 zs H ⟨K⟩ :=
  WCall_pure hS (spec_l12Word_c k h1 h2) hv ho (by simp) hK
def linesB (xs : List Ac) : ByteArray := ⟨(linesL xs).toArray⟩
theorem linesB_at {xs : List Ac} {i : Nat} (h : i < xs.length) : linesB (xs.take i) ++ wordB xs[i].k ++ xs[i].t ++ ⟨#[10]⟩ = linesB (xs.take (i + 1)) := by
  unfold linesB
  rw [linesL_at h]
  apply ByteArray.ext
  apply Array.ext'
  simp [lineB]
theorem spec_RolePrint_c (xs : List Ac) (hl : xs.length < 9223372036854775807) (hs : ∀ a ∈ xs, a.t.size ≤ 281474976710656) (ht : (linesL xs).length ≤ 140737488355328) : T 24 [aAs xs] [] (.str (printB xs)) ([]) := by
  refine semT' (S := S0) hm spec_RolePrint_ok (Nat.le_of_ble_eq_true rfl) ?_
  unfold spec_RolePrint; dsimp only
  simp
  refine spec_RoleOk_call (xs := xs) hl hs rfl ?_; simp
  refine br_intro' (fun u => ?_) (fun u => ?_) <;> simp [u]
  case refine_2 => exact LeV.ro rfl rfl (by simp [printB, printL, u])
  have hk := fun (j : Nat) (h : j < xs.length) => (actF_k (show actF xs[j] = true by
    simp only [roleF, Bool.and_eq_true] at u
    have := allF_all2 u.1 h
    rw [actAt_eq h, Bool.and_eq_true] at this
    exact this.1))
  refine WLoop_fam (fun j : Nat => [(0, aAs xs), (3, A.str (linesB (xs.take j))), (4, i6 j)]) (fun _ => []) (fun j => xs.length - j)
    (fun j => j ≤ xs.length) ?_ 0 (Nat.zero_le _)
  intro j hj ih
  simp
  refine br_intro' (fun v => ?_) (fun v => ?_) <;> (have v0 := v) <;> simp only [decide_eq_true_eq, decide_eq_false_iff_not] at v <;> simp [v0]
  · have h' : j < xs.length := by omega
    obtain ⟨r, hr⟩ := encAs_at h'
    have h3 : 1 ≤ xs.length * 2 - j * 2 := by omega
    have h4 : 1 ≤ xs.length * 2 - (j * 2 + 1) := by omega
    have w0 := wrap_succ (n := j) (by omega)
    have hl1 := linesL_le xs (j + 1)
    rw [linesL_at h', List.length_append] at hl1
    have hl2 : (lineB xs[j]).data.toList.length = (wordB xs[j].k).size + xs[j].t.size + 1 := by
      show (lineB xs[j]).size = _
      simp [lineB]
      rfl
    have hl3 : (linesB (xs.take j)).size = (linesL (xs.take j)).length := by simp [linesB, ByteArray.size]
    simp [h', h3, h4, hr, encAs_k h', encAs_t h']
    refine spec_l12Word_call (k := xs[j].k) (hk j h').1 (hk j h').2 rfl ?_; simp
    refine ck_intro' (by omega) ?_; simp [h', h4, hr, encAs_k h', encAs_t h']
    refine ck_intro' (by omega) ?_; simp [h', h4, hr, encAs_k h', encAs_t h']
    refine ck_intro' (by have : (⟨#[10]⟩ : ByteArray).size = 1 := rfl
                         omega) ?_; simp
    repeat (refine ck_intro' (by first | omega | (simp; omega) | kernel_rfl) ?_; try simp)
    rw [w0, linesB_at h']
    exact ih (j + 1) (by omega) (by omega)
  · have hje : j = xs.length := by omega
    subst hje
    rw [List.take_length]
    exact LeV.ro rfl rfl (by simp [printB, printL, u, linesB])
theorem spec_RolePrint_call {xs : List Ac} (hl : xs.length < 9223372036854775807) (hs : ∀ a ∈ xs, a.t.size ≤ 281474976710656) (ht : (linesL xs).length ≤ 140737488355328) {S : FuncId → Bool} {H : List Blk} {K : A → Dl → Prop} (hS : S 24 = false) (hK : K (.str (printB xs)) (.news [])) : @WCall' Go.Proofs.Tryd.prog S 24 [aAs xs] H ⟨K⟩ :=
  WCall_pure hS (spec_RolePrint_c xs hl hs ht) (by simp) (by simp) (by simp) hK
theorem spec_RolePrint_k {xs : List Ac} (hl : xs.length < 9223372036854775807) (hs : ∀ a ∈ xs, a.t.size ≤ 281474976710656) (ht : (linesL xs).length ≤ 140737488355328) {S : FuncId → Bool} {H : List Blk} {K : A → Dl → Prop} {zs : List A} (hS : S 24 = false) (hv : viewL (viewA 8 H) zs = some [aAs xs]) (ho : noOwns zs = true ∨ nosl (.str (printB xs)) = true) (hK : K (.str (printB xs)) (.news [])) : @WCall' Go.Proofs.Tryd.prog S 24 zs H ⟨K⟩ :=
  WCall_pure hS (spec_RolePrint_c xs hl hs ht) hv ho (by simp) hK
theorem linesL_tot : ∀ xs : List Ac, (linesL xs).length ≤ totA xs + 7 * xs.length
  | [] => by simp [linesL]
  | a :: xs => by
    have h := linesL_tot xs
    have h1 : (lineB a).data.toList.length = (wordB a.k).size + a.t.size + 1 := by
      show (lineB a).size = _
      simp [lineB]
      rfl
    have h2 := wordB_size a.k
    have h3 : linesL (a :: xs) = (lineB a).data.toList ++ linesL xs := rfl
    rw [h3, List.length_append, h1]
    simp only [totA, List.length_cons]
    omega
end Go.Proofs.YtmlfacjgfjmdeaaDoor.C

set_option linter.unusedVariables false
set_option linter.unusedSimpArgs false
set_option maxRecDepth 4000
namespace Go.Proofs.YtmlfacjgfjmdeaaDoor.C
open Go.Sym Go.Proofs.YtmlfacjgfjmdeaaDoor.I
theorem laws_FnExactRolePrint_c (xs : List Ac) (ha : xs.length < 9223372036854775808 ∧ ∀ a ∈ xs, a.t.size ≤ maxLen) : T 7 [aAs xs] [] (.bool true) ([]) := by
  refine semT' (S := S0) hm laws_FnExactRolePrint_ok (Nat.le_of_ble_eq_true rfl) ?_
  unfold laws_FnExactRolePrint; dsimp only
  simp
  refine laws_szActS_call (xs := xs) (x := 1048576) ha (by omega) (by omega) rfl ?_; simp
  refine br_intro' (fun g => ?_) (fun g => ?_) <;> (have g0 := g) <;> simp only [decide_eq_true_eq, decide_eq_false_iff_not] at g <;> simp [g0]
  · exact LeV.ro rfl rfl rfl
  obtain ⟨g1, g2⟩ := szAs_pos g
  have hl : xs.length ≤ 4294967296 := by omega
  have hs : ∀ a ∈ xs, a.t.size ≤ 281474976710656 := fun a h => by have := totA_mem h; omega
  have ht : (linesL xs).length ≤ 140737488355328 := by have := linesL_tot xs; omega
  refine laws_toActS_k (ns := xs) hl rfl (by simp) (by simp [noslBlks]) ?_; simp [shiftB]
  refine spec_RolePrint_k (xs := xs) (by omega) hs ht rfl (by simp) (by simp [noslBlks]) ?_; simp [shiftB]
  refine laws_toActS_k (ns := xs) hl rfl (by simp) (by simp [noslBlks]) ?_; simp [shiftB]
  refine impl_RolePrint_k (xs := xs) (by omega) hs ht rfl (by simp) (by simp [noslBlks]) ?_; simp [shiftB]
  refine laws_toActS_k (ns := xs) hl rfl (by simp) (by simp [noslBlks]) ?_; simp [shiftB]
  refine laws_eqActS_k (ns := xs) (ms := xs) (by omega) (by omega) rfl (by simp) (by simp [noslBlks]) ?_; simp [shiftB]
  exact LeV.ro rfl rfl rfl
end Go.Proofs.YtmlfacjgfjmdeaaDoor.C
