/- What a law's own functions answer on acts. Conditions: those that each theorem names. -/
import Derived.Test.YtmlfacjgfjmdeaaDoorXX12L2
set_option linter.unusedVariables false
set_option linter.unusedSimpArgs false
set_option maxRecDepth 4000
namespace Go.Proofs.YtmlfacjgfjmdeaaDoor.C
open Go.Sym Go.Proofs.YtmlfacjgfjmdeaaDoor.I
theorem Ac_eq {x y : Ac} : x = y ↔ x.k = y.k ∧ x.t = y.t := by cases x; cases y; simp
def encA (a : Ac) : List A := [i6 a.k, .str a.t]
def encAs (xs : List Ac) : List A := xs.flatMap encA
theorem encA_len (p : Ac) : (encA p).length = 2 := rfl
@[simp] theorem encAs_len (xs : List Ac) : (encAs xs).length = xs.length * 2 := flat_len encA_len xs
@[simp] theorem encAs_scals (xs : List Ac) : scals (encAs xs) = true := scals_flat encA (fun _ => rfl) xs
@[simp] theorem encAs_nil : encAs [] = [] := rfl
theorem encAs_snoc (xs : List Ac) (p : Ac) : encAs (xs ++ [p]) = encAs xs ++ encA p := by simp [encAs]
theorem encAs_at {ns : List Ac} {j : Nat} (h : j < ns.length) : ∃ r, (encAs ns).drop (j * 2) = i6 ns[j].k :: .str ns[j].t :: r := flat_at encA_len (List.getElem?_eq_getElem h)
@[simp] theorem encAs_view (n : Nat) (H : List Blk) (xs : List Ac) : viewL (viewA (n + 1) H) (encAs xs) = some (encAs xs) := viewL_scals _ (encAs_scals xs)
@[simp] theorem encAs_noOwns (xs : List Ac) : noOwns (encAs xs) = true := noOwns_scals _ (encAs_scals xs)
@[simp] theorem encAs_nosls (xs : List Ac) : nosls (encAs xs) = true := nosls_scals _ (encAs_scals xs)
@[simp] theorem encAs_shift (n : Nat) (xs : List Ac) : shiftAs n (encAs xs) = encAs xs := shiftAs_scals _ (encAs_scals xs)
@[simp] theorem encAs_inAs (m : Nat) (xs : List Ac) : inAs m (encAs xs) = true := inAs_scals _ (encAs_scals xs)
@[simp] theorem encAs_tells (H H' : List Blk) (g : List (Option Nat)) (xs : List Ac) : Tells H H' g (encAs xs) (encAs xs) := Tells_scals _ (encAs_scals xs)
@[simp] theorem encAs_one (xs : List Ac) : (encAs xs).all A.one = true := one_scals _ (encAs_scals xs)
@[simp] theorem encAs_take (xs : List Ac) : (encAs xs).take (xs.length * 2) = encAs xs := List.take_of_length_le (by simp)
theorem encAs_gets {ns : List Ac} {j : Nat} (h : j < ns.length) : (encAs ns)[j * 2]? = some (i6 ns[j].k) ∧ (encAs ns)[j * 2 + 1]? = some (.str ns[j].t) := by
  obtain ⟨r, hr⟩ := encAs_at h
  have e : ∀ i, (encAs ns)[j * 2 + i]? = (i6 ns[j].k :: .str ns[j].t :: r)[i]? := fun i => by rw [← hr, List.getElem?_drop]
  exact ⟨e 0, e 1⟩
theorem encAs_k {ns : List Ac} {j : Nat} (h : j < ns.length) {h' : j * 2 < (encAs ns).length} : (encAs ns)[j * 2] = i6 ns[j].k := by
  have := (encAs_gets h).1
  rw [List.getElem?_eq_getElem h'] at this
  simpa using this
theorem encAs_t {ns : List Ac} {j : Nat} (h : j < ns.length) {h' : j * 2 + 1 < (encAs ns).length} : (encAs ns)[j * 2 + 1] = .str ns[j].t := by
  have := (encAs_gets h).2
  rw [List.getElem?_eq_getElem h'] at this
  simpa using this
abbrev aAs (xs : List Ac) : A := .sl xs.length (encAs xs)
abbrev acref (b : Nat) (ss : List Ac) : A := .ref b ss.length 0 ss.length
/-- A row of acts that grew. -/
abbrev acblk (ss : List Ac) : Blk := ⟨ss.length, decide (ss.length = 0), 2, encAs ss, none⟩
/-- A row of acts that a law made. -/
abbrev uacblk (ss : List Ac) : Blk := ⟨ss.length, false, 2, encAs ss, none⟩
abbrev shAc : Sh := .st (.p shI (.p .tx .u))
theorem fit_ac {cs : List A} (h : Fit shAc cs) : ∃ a : Ac, cs = encA a ∧ a.t.size ≤ maxLen := by
  obtain ⟨x, y, rfl, hx, z, t, rfl, hz, rfl⟩ := h
  obtain ⟨a, rfl, ha⟩ := fit_i hx
  obtain ⟨s, rfl, hs⟩ := hz
  exact ⟨⟨a, s⟩, rfl, hs⟩
theorem arg_ac {x : A} (h : FitA shAc x) : ∃ a : Ac, x = aAc a ∧ a.t.size ≤ maxLen := by
  obtain ⟨cs, rfl, h⟩ := h
  obtain ⟨a, rfl, g⟩ := fit_ac h
  exact ⟨a, rfl, g⟩
theorem arg_acs {x : A} (h : FitA (.sl shAc) x) : ∃ ss : List Ac, x = aAs ss ∧ (ss.length < 9223372036854775808 ∧ ∀ a ∈ ss, a.t.size ≤ maxLen) := by
  obtain ⟨xs, e, h1, h2⟩ := fit_sl (f := encA) (fun r hr => fit_ac hr) (show Fit (.sl shAc) [x] from h)
  refine ⟨xs, ?_, h1, h2⟩
  simp only [List.cons.injEq, and_true] at e
  exact e
theorem laws_toAct_c (a : Ac)  : T 17 [aAc a] [] (aAc a) ([]) := by
  refine semT' (S := S0) hm laws_toAct_ok (Nat.le_of_ble_eq_true rfl) ?_
  unfold laws_toAct; dsimp only
  simp
  exact LeV.ro rfl rfl (by simp)
theorem laws_toAct_call {a : Ac}  {S : FuncId → Bool} {H : List Blk} {K : A → Dl → Prop} (hS : S 17 = false) (hK : K (aAc a) (.news [])) : @WCall' Go.Proofs.Tryd.prog S 17 [aAc a] H ⟨K⟩ :=
  WCall_pure hS (laws_toAct_c a) (by simp) (by simp) (by simp) hK
theorem laws_toAct_k {a : Ac}  {S : FuncId → Bool} {H : List Blk} {K : A → Dl → Prop} {zs : List A} (hS : S 17 = false) (hv : viewL (viewA 8 H) zs = some [aAc a]) (ho : noOwns zs = true ∨ nosl (aAc a) = true) (hK : K (aAc a) (.news [])) : @WCall' Go.Proofs.Tryd.prog S 17 zs H ⟨K⟩ :=
  WCall_pure hS (laws_toAct_c a) hv ho (by simp) hK
theorem laws_szAct_c (a : Ac) (x : Int) (hl : a.t.size ≤ maxLen) (h0 : 0 ≤ x) (h1 : x < 9223372036854775808) : T 15 [aAc a, i6 x] [] (i6 (szF x a.t.size)) ([]) := by
  refine semT' (S := S0) hm laws_szAct_ok (Nat.le_of_ble_eq_true rfl) ?_
  unfold laws_szAct; dsimp only
  have hm' : maxLen = 9223372036854775807 := rfl
  have hw : IntKind.i64.wrap (x - a.t.size) = x - a.t.size := wrap64 (by omega) (by omega)
  simp [hw]
  refine br_intro' (fun u => ?_) (fun u => ?_) <;> (have u0 := u) <;> simp only [decide_eq_true_eq, decide_eq_false_iff_not] at u <;> simp [u0]
  · exact LeV.ro rfl rfl (by simp [szF, u])
  · exact LeV.ro rfl rfl (by simp [szF]; omega)
theorem laws_szAct_call {a : Ac} {x : Int} (hl : a.t.size ≤ maxLen) (h0 : 0 ≤ x) (h1 : x < 9223372036854775808) {S : FuncId → Bool} {H : List Blk} {K : A → Dl → Prop} (hS : S 15 = false) (hK : K (i6 (szF x a.t.size)) (.news [])) : @WCall' Go.Proofs.Tryd.prog S 15 [aAc a, i6 x] H ⟨K⟩ :=
  WCall_pure hS (laws_szAct_c a x hl h0 h1) (by simp) (by simp) (by simp) hK
theorem laws_szAct_k {a : Ac} {x : Int} (hl : a.t.size ≤ maxLen) (h0 : 0 ≤ x) (h1 : x < 9223372036854775808) {S : FuncId → Bool} {H : List Blk} {K : A → Dl → Prop} {zs : List A} (hS : S 15 = false) (hv : viewL (viewA 8 H) zs = some [aAc a, i6 x]) (ho : noOwns zs = true ∨ nosl (i6 (szF x a.t.size)) = true) (hK : K (i6 (szF x a.t.size)) (.news [])) : @WCall' Go.Proofs.Tryd.prog S 15 zs H ⟨K⟩ :=
  WCall_pure hS (laws_szAct_c a x hl h0 h1) hv ho (by simp) hK
/-- What is left behind some acts. -/
def szGo : Int → List Ac → Int
  | x, [] => x
  | x, a :: az => if x - a.t.size < 0 then -1 else szGo (x - a.t.size) az
def szAs (x : Int) (xs : List Ac) : Int := if x - xs.length < 0 then -1 else szGo (x - xs.length) xs
/-- The sizes of some acts together. -/
def totA : List Ac → Nat
  | [] => 0
  | a :: az => a.t.size + totA az
theorem szGo_tot : ∀ (xs : List Ac) (x : Int), 0 ≤ x → 0 ≤ szGo x xs → (totA xs : Int) ≤ x
  | [], x, h, _ => by simpa [totA] using h
  | a :: az, x, h, g => by
    unfold szGo at g
    split at g
    · omega
    · have := szGo_tot az _ (by omega) g
      simp only [totA]
      omega
theorem totA_mem : ∀ {xs : List Ac} {a : Ac}, a ∈ xs → a.t.size ≤ totA xs
  | x :: xs, a, h => by
    simp only [List.mem_cons] at h
    simp only [totA]
    rcases h with rfl | h
    · omega
    · have := totA_mem h; omega
theorem szAs_pos {x : Int} {xs : List Ac} (h : ¬ szAs x xs < 0) : (xs.length : Int) ≤ x ∧ (totA xs : Int) + xs.length ≤ x := by
  unfold szAs at h
  split at h
  · exact absurd (by decide) h
  · have := szGo_tot xs (x - xs.length) (by omega) (by omega)
    omega
theorem laws_szActS_c (xs : List Ac) (x : Int) (hl : xs.length < 9223372036854775808 ∧ ∀ a ∈ xs, a.t.size ≤ maxLen) (h0 : 0 ≤ x) (h1 : x < 9223372036854775808) : T 19 [aAs xs, i6 x] [] (i6 (szAs x xs)) ([]) := by
  refine semT' (S := S0) hm laws_szActS_ok (Nat.le_of_ble_eq_true rfl) ?_
  unfold laws_szActS; dsimp only
  obtain ⟨hl, hs⟩ := hl
  have hw : IntKind.i64.wrap (x - xs.length) = x - xs.length := wrap64 (by omega) (by omega)
  simp [hw]
  refine br_intro' (fun u => ?_) (fun u => ?_) <;> (have u0 := u) <;> simp only [decide_eq_true_eq, decide_eq_false_iff_not] at u <;> simp [u0]
  · exact LeV.ro rfl rfl (by simp [szAs, u])
  refine WLoop_fam (fun p : Nat × Int => [(0, aAs xs), (1, i6 p.2), (5, i6 p.1)]) (fun _ => []) (fun p => xs.length - p.1)
    (fun p => p.1 ≤ xs.length ∧ 0 ≤ p.2 ∧ p.2 < 9223372036854775808 ∧ szAs x xs = szGo p.2 (xs.drop p.1)) ?_ (0, x - xs.length) ⟨Nat.zero_le _, by simp only; omega, by simp only; omega, by simp only [szAs, if_neg u]; rfl⟩
  rintro ⟨j, y⟩ ⟨hj, hy0, hy1, hf⟩ ih
  simp only at hj hy0 hy1 hf
  simp
  refine br_intro' (fun v => ?_) (fun v => ?_) <;> (have v0 := v) <;> simp only [decide_eq_true_eq, decide_eq_false_iff_not] at v <;> simp [v0]
  · have h' : j < xs.length := by omega
    obtain ⟨r, hr⟩ := encAs_at h'
    have h3 : 2 ≤ xs.length * 2 - j * 2 := by omega
    have hd : xs.drop j = xs[j] :: xs.drop (j + 1) := List.drop_eq_getElem_cons h'
    simp [h3, hr, h']
    refine laws_szAct_call (a := xs[j]) (x := y) (hs _ (List.getElem_mem h')) hy0 hy1 rfl ?_; simp
    refine br_intro' (fun g => ?_) (fun g => ?_) <;> simp only [decide_eq_true_eq, decide_eq_false_iff_not, szF_neg] at g <;> simp [szF_neg, g]
    · exact LeV.ro rfl rfl (by rw [hf, hd]; simp only [szGo]; rw [if_pos (by omega)]; rfl)
    · rw [szF_pos g, wrap_succ (n := j) (by omega)]
      exact ih (j + 1, y - xs[j].t.size) ⟨by simp only; omega, by simp only; omega, by simp only; omega, by rw [hf, hd]; simp only [szGo]; rw [if_neg (by omega)]⟩ (by simp only; omega)
  · exact LeV.ro rfl rfl (by rw [hf, List.drop_eq_nil_of_le (by omega)]; rfl)
theorem laws_szActS_call {xs : List Ac} {x : Int} (hl : xs.length < 9223372036854775808 ∧ ∀ a ∈ xs, a.t.size ≤ maxLen) (h0 : 0 ≤ x) (h1 : x < 9223372036854775808) {S : FuncId → Bool} {H : List Blk} {K : A → Dl → Prop} (hS : S 19 = false) (hK : K (i6 (szAs x xs)) (.news [])) : @WCall' Go.Proofs.Tryd.prog S 19 [aAs xs, i6 x] H ⟨K⟩ :=
  WCall_pure hS (laws_szActS_c xs x hl h0 h1) (by simp) (by simp) (by simp) hK
theorem laws_szActS_k {xs : List Ac} {x : Int} (hl : xs.length < 9223372036854775808 ∧ ∀ a ∈ xs, a.t.size ≤ maxLen) (h0 : 0 ≤ x) (h1 : x < 9223372036854775808) {S : FuncId → Bool} {H : List Blk} {K : A → Dl → Prop} {zs : List A} (hS : S 19 = false) (hv : viewL (viewA 8 H) zs = some [aAs xs, i6 x]) (ho : noOwns zs = true ∨ nosl (i6 (szAs x xs)) = true) (hK : K (i6 (szAs x xs)) (.news [])) : @WCall' Go.Proofs.Tryd.prog S 19 zs H ⟨K⟩ :=
  WCall_pure hS (laws_szActS_c xs x hl h0 h1) hv ho (by simp) hK
theorem laws_eqAct_c (n m : Ac)  : T 48 [aAc n, aAc m] [] (.bool (decide (n = m))) ([]) := by
  refine semT' (S := S0) hm laws_eqAct_ok (Nat.le_of_ble_eq_true rfl) ?_
  unfold laws_eqAct; dsimp only
  simp
  repeat (any_goals (first | (refine br_intro' (fun h => ?_) (fun h => ?_) <;> (have h0 := h) <;> (try simp at h) <;> try simp [h0, h])))
  all_goals exact LeV.ro rfl rfl (by simp [Ac_eq, *])
theorem laws_eqAct_call {n m : Ac}  {S : FuncId → Bool} {H : List Blk} {K : A → Dl → Prop} (hS : S 48 = false) (hK : K (.bool (decide (n = m))) (.news [])) : @WCall' Go.Proofs.Tryd.prog S 48 [aAc n, aAc m] H ⟨K⟩ :=
  WCall_pure hS (laws_eqAct_c n m) (by simp) (by simp) (by simp) hK
theorem laws_eqAct_k {n m : Ac}  {S : FuncId → Bool} {H : List Blk} {K : A → Dl → Prop} {zs : List A} (hS : S 48 = false) (hv : viewL (viewA 8 H) zs = some [aAc n, aAc m]) (ho : noOwns zs = true ∨ nosl (.bool (decide (n = m))) = true) (hK : K (.bool (decide (n = m))) (.news [])) : @WCall' Go.Proofs.Tryd.prog S 48 zs H ⟨K⟩ :=
  WCall_pure hS (laws_eqAct_c n m) hv ho (by simp) hK
def zA (j : Nat) : List Ac := List.replicate j ⟨0, ⟨#[]⟩⟩
def upA (ns : List Ac) (j : Nat) : List Ac := ns.take j ++ zA (ns.length - j)
theorem upA_len (ns : List Ac) (j : Nat) (h : j ≤ ns.length) : (upA ns j).length = ns.length := by simp [upA, zA]; omega
theorem upA_zero (ns : List Ac) : upA ns 0 = zA ns.length := by simp [upA]
theorem upA_end (ns : List Ac) : upA ns ns.length = ns := by simp [upA, zA]
theorem encAs_zA (j : Nat) : encAs (zA j) = (List.replicate j [i6 0, .str ⟨#[]⟩]).flatten := by
  induction j with
  | zero => rfl
  | succ j ih => simp only [zA, List.replicate_succ, encAs, List.flatMap_cons, List.flatten_cons] at ih ⊢; rw [ih]; rfl
theorem upA_set (ns : List Ac) (j : Nat) (h : j < ns.length) : (upA ns j).set j ns[j] = upA ns (j + 1) := by
  have hl : (ns.take j).length = j := by simp; omega
  have e : ns.length - j = (ns.length - (j + 1)) + 1 := by omega
  simp only [upA, zA]
  rw [List.set_append_right _ _ (by omega), hl, Nat.sub_self, e, List.replicate_succ, List.set_cons_zero, List.take_succ_eq_append_getElem h, List.append_assoc]
  rfl
theorem encAs_set : ∀ (xs : List Ac) (j : Nat) (n : Ac), ((encAs xs).set (j * 2) (i6 n.k)).set (j * 2 + 1) (.str n.t) = encAs (xs.set j n)
  | [], j, n => by simp
  | x :: xs, 0, n => rfl
  | x :: xs, j + 1, n => by
    have := encAs_set xs j n
    have e : (j + 1) * 2 = j * 2 + 1 + 1 := by omega
    show (([i6 x.k, .str x.t] ++ encAs xs).set ((j + 1) * 2) _).set ((j + 1) * 2 + 1) _ = [i6 x.k, .str x.t] ++ encAs (xs.set j n)
    rw [e, ← this]
    rfl
theorem laws_toActS_c (ns : List Ac) (hl : ns.length ≤ 4294967296) : T 21 [aAs ns] [] (acref 0 ns) ([uacblk ns]) := by
  refine semT' (S := S0) hm laws_toActS_ok (Nat.le_of_ble_eq_true rfl) ?_
  unfold laws_toActS; dsimp only
  have h1 : ((ns.length : Int)) * 24 ≤ 17592186044416 := by omega
  have h2 : (ns.length : Int) ≤ 4294967296 := by omega
  simp
  refine ck_intro' (by omega) ?_; simp
  rw [← encAs_zA, ← upA_zero]
  refine WLoop_fam (fun j : Nat => [(0, aAs ns), (3, A.ref 0 0 0 ns.length), (4, i6 j)]) (fun j => [⟨0, false, 2, encAs (upA ns j), none⟩]) (fun j => ns.length - j)
    (fun j => j ≤ ns.length) ?_ 0 (Nat.zero_le _)
  intro j hj ih
  simp [upA_len ns j hj]
  refine br_intro' (fun h => ?_) (fun h => ?_) <;> (have h0 := h) <;> (try simp at h) <;> try simp [h0, h]
  · obtain ⟨r, hr⟩ := encAs_at h
    have h3 : 2 ≤ ns.length * 2 - j * 2 := by omega
    have hw : IntKind.i64.wrap ((j : Int) + 1) = j + 1 := wrap64 (by omega) (by omega)
    have h' := h
    simp [h3, hr, h']
    refine laws_toAct_call (a := ns[j]) rfl ?_; simp [upA_len ns j hj, h']
    refine ck_intro' (by omega) ?_; simp
    rw [hw, encAs_set, upA_set ns j h']
    exact ih (j + 1) h' (by omega)
  · have h0 : j = ns.length := by omega
    subst h0
    rw [upA_end]
    first | (refine LeV.tell [none] ?_ ?_ ?_ <;> (simp; done)) | (refine LeV.tell [some 0] ?_ ?_ ?_ <;> (simp; done)) | (refine LeV.tell [some 1] ?_ ?_ ?_ <;> (simp; done)) | (refine LeV.tell [some 2] ?_ ?_ ?_ <;> (simp; done)) | (refine LeV.tell [some 3] ?_ ?_ ?_ <;> (simp; done)) | (refine LeV.tell [some 4] ?_ ?_ ?_ <;> (simp; done)) | (refine LeV.tell [some 5] ?_ ?_ ?_ <;> (simp; done)) | (refine LeV.tell [some 6] ?_ ?_ ?_ <;> (simp; done)) | (refine LeV.tell [some 7] ?_ ?_ ?_ <;> (simp; done)) | (refine LeV.tell [some 8] ?_ ?_ ?_ <;> (simp; done)) | (refine LeV.tell [some 9] ?_ ?_ ?_ <;> (simp; done)) | (refine LeV.tell [some 10] ?_ ?_ ?_ <;> (simp; done)) | (refine LeV.tell [some 11] ?_ ?_ ?_ <;> (simp; done)) | (refine LeV.tell [some 12] ?_ ?_ ?_ <;> (simp; done)) | (refine LeV.tell [some 13] ?_ ?_ ?_ <;> (simp; done)) | (refine LeV.tell [some 14] ?_ ?_ ?_ <;> (simp; done)) | (refine LeV.tell [some 15] ?_ ?_ ?_ <;> (simp; done))
theorem laws_toActS_k {ns : List Ac} (hl : ns.length ≤ 4294967296) {S : FuncId → Bool} {H : List Blk} {K : A → Dl → Prop} {zs : List A} (hS : S 21 = false) (hv : viewL (viewA 8 H) zs = some [aAs ns]) (ho : noOwns zs = true ∨ nosl (acref 0 ns) = true ∧ noslBlks ([uacblk ns]) = true) (hK : K (shiftA H.length (acref 0 ns)) (.news (([uacblk ns]).map (shiftB H.length)))) : @WCall' Go.Proofs.Tryd.prog S 21 zs H ⟨K⟩ :=
  WCall_ro' hS hv (laws_toActS_c ns hl) rfl ho hK
theorem laws_eqActS_c (ns ms : List Ac) (hl : ns.length < 9223372036854775807) (hl2 : ms.length < 9223372036854775807) : T 23 [aAs ns, aAs ms] [] (.bool (decide (ns = ms))) ([]) := by
  refine semT' (S := S0) hm laws_eqActS_ok (Nat.le_of_ble_eq_true rfl) ?_
  unfold laws_eqActS; dsimp only
  simp
  refine br_intro' (fun h => ?_) (fun h => ?_) <;> (try simp at h) <;> (try simp [h])
  · refine WLoop_fam (fun j : Nat => [(0, aAs ns), (1, aAs ms), (5, i6 j)]) (fun _ => []) (fun j => ns.length - j)
      (fun j => j ≤ ns.length ∧ ns.take j = ms.take j) ?_ 0 ⟨Nat.zero_le _, by simp⟩
    intro j ⟨hj, hf⟩ ih
    simp
    have hq : ns.length = ms.length := by omega
    refine br_intro' (fun h => ?_) (fun h => ?_) <;> (have h0 := h) <;> (try simp at h) <;> try simp [h0, h]
    · obtain ⟨r, hr⟩ := encAs_at h
      have hm : j < ms.length := by omega
      obtain ⟨r2, hr2⟩ := encAs_at hm
      have h3 : 2 ≤ ms.length * 2 - j * 2 := by omega
      have h4 : 2 ≤ ns.length * 2 - j * 2 := by omega
      have hw : IntKind.i64.wrap ((j : Int) + 1) = j + 1 := wrap64 (by omega) (by omega)
      have h' := h
      simp [h3, h4, hr, h', hr2, hm]
      refine laws_eqAct_call (n := ns[j]) (m := ms[j]) rfl ?_; simp
      first | (refine ck_intro' (by kernel_rfl) ?_; try simp) | skip
      refine br_intro' (fun g => ?_) (fun g => ?_) <;> simp at g <;> simp [g]
      · rw [hw]
        exact ih (j + 1) ⟨h', by rw [List.take_succ_eq_append_getElem h', List.take_succ_eq_append_getElem hm, hf, g]⟩ (by omega)
      · exact LeV.ro rfl rfl (by simp; intro e; subst e; exact g rfl)
    · have h0 : j = ns.length := by omega
      exact LeV.ro rfl rfl (by rw [h0, List.take_length, hq, List.take_length] at hf; simp [hf])
  · exact LeV.ro rfl rfl (by simp; intro e; rw [e] at h; exact h rfl)
theorem laws_eqActS_call {ns ms : List Ac} (hl : ns.length < 9223372036854775807) (hl2 : ms.length < 9223372036854775807) {S : FuncId → Bool} {H : List Blk} {K : A → Dl → Prop} (hS : S 23 = false) (hK : K (.bool (decide (ns = ms))) (.news [])) : @WCall' Go.Proofs.Tryd.prog S 23 [aAs ns, aAs ms] H ⟨K⟩ :=
  WCall_pure hS (laws_eqActS_c ns ms hl hl2) (by simp) (by simp) (by simp) hK
theorem laws_eqActS_k {ns ms : List Ac} (hl : ns.length < 9223372036854775807) (hl2 : ms.length < 9223372036854775807) {S : FuncId → Bool} {H : List Blk} {K : A → Dl → Prop} {zs : List A} (hS : S 23 = false) (hv : viewL (viewA 8 H) zs = some [aAs ns, aAs ms]) (ho : noOwns zs = true ∨ nosl (.bool (decide (ns = ms))) = true) (hK : K (.bool (decide (ns = ms))) (.news [])) : @WCall' Go.Proofs.Tryd.prog S 23 zs H ⟨K⟩ :=
  WCall_pure hS (laws_eqActS_c ns ms hl hl2) hv ho (by simp) hK
end Go.Proofs.YtmlfacjgfjmdeaaDoor.C

set_option linter.unusedVariables false
set_option linter.unusedSimpArgs false
set_option maxRecDepth 4000
namespace Go.Proofs.YtmlfacjgfjmdeaaDoor.C
open Go.Sym Go.Proofs.YtmlfacjgfjmdeaaDoor.I
/-- An act of a role, at its place. -/
def actAt (xs : List Ac) (i : Nat) : Bool := actF (xs.getD i ⟨0, ⟨#[]⟩⟩) && (decide ((xs.getD i ⟨0, ⟨#[]⟩⟩).k = 4) == decide (i + 1 = xs.length))
def roleF (xs : List Ac) : Bool := allF (actAt xs) xs.length 0 && inF xs.length 1 20
theorem actAt_eq {xs : List Ac} {j : Nat} (h : j < xs.length) : actAt xs j = (actF xs[j] && (decide (xs[j].k = 4) == decide (j + 1 = xs.length))) := by
  simp [actAt, h]
theorem impl_RoleOk_c (xs : List Ac) (hl : xs.length < 9223372036854775807) (hs : ∀ a ∈ xs, a.t.size ≤ 281474976710656) : T 22 [aAs xs] [] (.bool (roleF xs)) ([]) := by
  refine semT' (S := S0) hm impl_RoleOk_ok (Nat.le_of_ble_eq_true rfl) ?_
  unfold impl_RoleOk; dsimp only
  have hlm := wrap_len (n := xs.length) hl
  simp
  refine WLoop_fam (fun j : Nat => [(0, aAs xs), (5, aAs xs), (6, i6 xs.length), (7, i6 j)]) (fun _ => []) (fun j => xs.length - j)
    (fun j => j ≤ xs.length ∧ allF (actAt xs) xs.length 0 = allF (actAt xs) xs.length j) ?_ 0 ⟨Nat.zero_le _, rfl⟩
  intro j ⟨hj, hf⟩ ih
  simp
  refine br_intro' (fun u => ?_) (fun u => ?_) <;> (have u0 := u) <;> simp only [decide_eq_true_eq, decide_eq_false_iff_not] at u <;> simp [u0]
  · have h' : j < xs.length := by omega
    obtain ⟨r, hr⟩ := encAs_at h'
    have h3 : 2 ≤ xs.length * 2 - j * 2 := by omega
    have w0 := wrap_succ (n := j) (by omega)
    simp [h3, hr, h']
    refine impl_ActOk_call (a := xs[j]) (hs _ (List.getElem_mem h')) rfl ?_; simp
    rcases Bool.eq_false_or_eq_true (actF xs[j]) with g | g
    · simp [g, hlm]
      by_cases k1 : xs[j].k = 4
      · have d1 : decide (xs[j].k = 4) = true := by simpa using k1
        by_cases k2 : j + 1 = xs.length
        · have d2 : decide ((j : Int) = (xs.length : Int) - 1) = true := decide_eq_true (by omega)
          simp [d1, d2, w0]
          first
            | exact ih (j + 1) ⟨by omega, by rw [hf, allF_at h', actAt_eq h', g]; simp [k1, k2]⟩ (by omega)
            | exact WLoop_drop [] _ rfl (by simp) (by simp) (by simp) (ih (j + 1) ⟨by omega, by rw [hf, allF_at h', actAt_eq h', g]; simp [k1, k2]⟩ (by omega))
            | exact LeV.ro rfl rfl (by simp only [roleF]; rw [hf, allF_at h', actAt_eq h', g]; simp [k1, k2])
        · have d2 : decide ((j : Int) = (xs.length : Int) - 1) = false := decide_eq_false (by omega)
          simp [d1, d2, w0]
          first
            | exact ih (j + 1) ⟨by omega, by rw [hf, allF_at h', actAt_eq h', g]; simp [k1, k2]⟩ (by omega)
            | exact WLoop_drop [] _ rfl (by simp) (by simp) (by simp) (ih (j + 1) ⟨by omega, by rw [hf, allF_at h', actAt_eq h', g]; simp [k1, k2]⟩ (by omega))
            | exact LeV.ro rfl rfl (by simp only [roleF]; rw [hf, allF_at h', actAt_eq h', g]; simp [k1, k2])
      · have d1 : decide (xs[j].k = 4) = false := by simpa using k1
        by_cases k2 : j + 1 = xs.length
        · have d2 : decide ((j : Int) = (xs.length : Int) - 1) = true := decide_eq_true (by omega)
          simp [d1, d2, w0]
          first
            | exact ih (j + 1) ⟨by omega, by rw [hf, allF_at h', actAt_eq h', g]; simp [k1, k2]⟩ (by omega)
            | exact WLoop_drop [] _ rfl (by simp) (by simp) (by simp) (ih (j + 1) ⟨by omega, by rw [hf, allF_at h', actAt_eq h', g]; simp [k1, k2]⟩ (by omega))
            | exact LeV.ro rfl rfl (by simp only [roleF]; rw [hf, allF_at h', actAt_eq h', g]; simp [k1, k2])
        · have d2 : decide ((j : Int) = (xs.length : Int) - 1) = false := decide_eq_false (by omega)
          simp [d1, d2, w0]
          first
            | exact ih (j + 1) ⟨by omega, by rw [hf, allF_at h', actAt_eq h', g]; simp [k1, k2]⟩ (by omega)
            | exact WLoop_drop [] _ rfl (by simp) (by simp) (by simp) (ih (j + 1) ⟨by omega, by rw [hf, allF_at h', actAt_eq h', g]; simp [k1, k2]⟩ (by omega))
            | exact LeV.ro rfl rfl (by simp only [roleF]; rw [hf, allF_at h', actAt_eq h', g]; simp [k1, k2])
    · simp [g]
      exact LeV.ro rfl rfl (by simp only [roleF]; rw [hf, allF_at h', actAt_eq h', g]; simp)
  · refine impl_inRange_call (x := xs.length) (lo := 1) (hi := 20) rfl ?_; simp
    exact LeV.ro rfl rfl (by simp only [roleF]; rw [hf, allF_end (by omega)]; simp)
theorem impl_RoleOk_call {xs : List Ac} (hl : xs.length < 9223372036854775807) (hs : ∀ a ∈ xs, a.t.size ≤ 281474976710656) {S : FuncId → Bool} {H : List Blk} {K : A → Dl → Prop} (hS : S 22 = false) (hK : K (.bool (roleF xs)) (.news [])) : @WCall' Go.Proofs.Tryd.prog S 22 [aAs xs] H ⟨K⟩ :=
  WCall_pure hS (impl_RoleOk_c xs hl hs) (by simp) (by simp) (by simp) hK
theorem impl_RoleOk_k {xs : List Ac} (hl : xs.length < 9223372036854775807) (hs : ∀ a ∈ xs, a.t.size ≤ 281474976710656) {S : FuncId → Bool} {H : List Blk} {K : A → Dl → Prop} {zs : List A} (hS : S 22 = false) (hv : viewL (viewA 8 H) zs = some [aAs xs]) (ho : noOwns zs = true ∨ nosl (.bool (roleF xs)) = true) (hK : K (.bool (roleF xs)) (.news [])) : @WCall' Go.Proofs.Tryd.prog S 22 zs H ⟨K⟩ :=
  WCall_pure hS (impl_RoleOk_c xs hl hs) hv ho (by simp) hK
theorem spec_RoleOk_c (xs : List Ac) (hl : xs.length < 9223372036854775807) (hs : ∀ a ∈ xs, a.t.size ≤ 281474976710656) : T 20 [aAs xs] [] (.bool (roleF xs)) ([]) := by
  refine semT' (S := S0) hm spec_RoleOk_ok (Nat.le_of_ble_eq_true rfl) ?_
  unfold spec_RoleOk; dsimp only
  have hlm := wrap_len (n := xs.length) hl
  simp
  refine spec_l1In_call (x := xs.length) (lo := 1) (hi := 20) rfl ?_; simp
  refine br_intro' (fun v => ?_) (fun v => ?_) <;> simp [v]
  case refine_2 =>
    exact LeV.ro rfl rfl (by simp [roleF, v])
  refine WLoop_fam (fun j : Nat => [(0, aAs xs), (3, i6 xs.length), (4, i6 j)]) (fun _ => []) (fun j => xs.length - j)
    (fun j => j ≤ xs.length ∧ allF (actAt xs) xs.length 0 = allF (actAt xs) xs.length j) ?_ 0 ⟨Nat.zero_le _, rfl⟩
  intro j ⟨hj, hf⟩ ih
  simp
  refine br_intro' (fun u => ?_) (fun u => ?_) <;> (have u0 := u) <;> simp only [decide_eq_true_eq, decide_eq_false_iff_not] at u <;> simp [u0]
  · have h' : j < xs.length := by omega
    obtain ⟨r, hr⟩ := encAs_at h'
    have h3 : 2 ≤ xs.length * 2 - j * 2 := by omega
    have h4 : 1 ≤ xs.length * 2 - j * 2 := by omega
    have w0 := wrap_succ (n := j) (by omega)
    simp [h3, hr, h']
    refine spec_ActOk_call (a := xs[j]) (hs _ (List.getElem_mem h')) rfl ?_; simp
    rcases Bool.eq_false_or_eq_true (actF xs[j]) with g | g
    · simp [g, hlm, h', h4, hr, encAs_k h']
      by_cases k1 : xs[j].k = 4
      · have d1 : decide (xs[j].k = 4) = true := by simpa using k1
        by_cases k2 : j + 1 = xs.length
        · have d2 : decide ((j : Int) = (xs.length : Int) - 1) = true := decide_eq_true (by omega)
          simp [d1, d2, w0]
          first
            | exact ih (j + 1) ⟨by omega, by rw [hf, allF_at h', actAt_eq h', g]; simp [k1, k2]⟩ (by omega)
            | exact WLoop_drop [] _ rfl (by simp) (by simp) (by simp) (ih (j + 1) ⟨by omega, by rw [hf, allF_at h', actAt_eq h', g]; simp [k1, k2]⟩ (by omega))
            | exact LeV.ro rfl rfl (by simp only [roleF]; rw [hf, allF_at h', actAt_eq h', g]; simp [k1, k2])
        · have d2 : decide ((j : Int) = (xs.length : Int) - 1) = false := decide_eq_false (by omega)
          simp [d1, d2, w0]
          first
            | exact ih (j + 1) ⟨by omega, by rw [hf, allF_at h', actAt_eq h', g]; simp [k1, k2]⟩ (by omega)
            | exact WLoop_drop [] _ rfl (by simp) (by simp) (by simp) (ih (j + 1) ⟨by omega, by rw [hf, allF_at h', actAt_eq h', g]; simp [k1, k2]⟩ (by omega))
            | exact LeV.ro rfl rfl (by simp only [roleF]; rw [hf, allF_at h', actAt_eq h', g]; simp [k1, k2])
      · have d1 : decide (xs[j].k = 4) = false := by simpa using k1
        by_cases k2 : j + 1 = xs.length
        · have d2 : decide ((j : Int) = (xs.length : Int) - 1) = true := decide_eq_true (by omega)
          simp [d1, d2, w0]
          first
            | exact ih (j + 1) ⟨by omega, by rw [hf, allF_at h', actAt_eq h', g]; simp [k1, k2]⟩ (by omega)
            | exact WLoop_drop [] _ rfl (by simp) (by simp) (by simp) (ih (j + 1) ⟨by omega, by rw [hf, allF_at h', actAt_eq h', g]; simp [k1, k2]⟩ (by omega))
            | exact LeV.ro rfl rfl (by simp only [roleF]; rw [hf, allF_at h', actAt_eq h', g]; simp [k1, k2])
        · have d2 : decide ((j : Int) = (xs.length : Int) - 1) = false := decide_eq_false (by omega)
          simp [d1, d2, w0]
          first
            | exact ih (j + 1) ⟨by omega, by rw [hf, allF_at h', actAt_eq h', g]; simp [k1, k2]⟩ (by omega)
            | exact WLoop_drop [] _ rfl (by simp) (by simp) (by simp) (ih (j + 1) ⟨by omega, by rw [hf, allF_at h', actAt_eq h', g]; simp [k1, k2]⟩ (by omega))
            | exact LeV.ro rfl rfl (by simp only [roleF]; rw [hf, allF_at h', actAt_eq h', g]; simp [k1, k2])
    · simp [g]
      exact LeV.ro rfl rfl (by simp only [roleF]; rw [hf, allF_at h', actAt_eq h', g]; simp)
  · exact LeV.ro rfl rfl (by simp only [roleF]; rw [hf, allF_end (by omega)]; simp [v])
theorem spec_RoleOk_call {xs : List Ac} (hl : xs.length < 9223372036854775807) (hs : ∀ a ∈ xs, a.t.size ≤ 281474976710656) {S : FuncId → Bool} {H : List Blk} {K : A → Dl → Prop} (hS : S 20 = false) (hK : K (.bool (roleF xs)) (.news [])) : @WCall' Go.Proofs.Tryd.prog S 20 [aAs xs] H ⟨K⟩ :=
  WCall_pure hS (spec_RoleOk_c xs hl hs) (by simp) (by simp) (by simp) hK
theorem spec_RoleOk_k {xs : List Ac} (hl : xs.length < 9223372036854775807) (hs : ∀ a ∈ xs, a.t.size ≤ 281474976710656) {S : FuncId → Bool} {H : List Blk} {K : A → Dl → Prop} {zs : List A} (hS : S 20 = false) (hv : viewL (viewA 8 H) zs = some [aAs xs]) (ho : noOwns zs = true ∨ nosl (.bool (roleF xs)) = true) (hK : K (.bool (roleF xs)) (.news [])) : @WCall' Go.Proofs.Tryd.prog S 20 zs H ⟨K⟩ :=
  WCall_pure hS (spec_RoleOk_c xs hl hs) hv ho (by simp) hK
end Go.Proofs.YtmlfacjgfjmdeaaDoor.C

set_option linter.unusedVariables false
set_option linter.unusedSimpArgs false
set_option maxRecDepth 4000
namespace Go.Proofs.YtmlfacjgfjmdeaaDoor.C
open Go.Sym Go.Proofs.YtmlfacjgfjmdeaaDoor.I
theorem laws_FnExactRoleOk_c (xs : List Ac) (ha : xs.length < 9223372036854775808 ∧ ∀ a ∈ xs, a.t.size ≤ maxLen) : T 6 [aAs xs] [] (.bool true) ([]) := by
  refine semT' (S := S0) hm laws_FnExactRoleOk_ok (Nat.le_of_ble_eq_true rfl) ?_
  unfold laws_FnExactRoleOk; dsimp only
  simp
  refine laws_szActS_call (xs := xs) (x := 1048576) ha (by omega) (by omega) rfl ?_; simp
  refine br_intro' (fun g => ?_) (fun g => ?_) <;> (have g0 := g) <;> simp only [decide_eq_true_eq, decide_eq_false_iff_not] at g <;> simp [g0]
  · exact LeV.ro rfl rfl rfl
  obtain ⟨g1, g2⟩ := szAs_pos g
  have hl : xs.length ≤ 4294967296 := by omega
  have hs : ∀ a ∈ xs, a.t.size ≤ 281474976710656 := fun a h => by have := totA_mem h; omega
  refine laws_toActS_k (ns := xs) hl rfl (by simp) (by simp [noslBlks]) ?_; simp [shiftB]
  refine spec_RoleOk_k (xs := xs) (by omega) hs rfl (by simp) (by simp [noslBlks]) ?_; simp [shiftB]
  refine laws_toActS_k (ns := xs) hl rfl (by simp) (by simp [noslBlks]) ?_; simp [shiftB]
  refine impl_RoleOk_k (xs := xs) (by omega) hs rfl (by simp) (by simp [noslBlks]) ?_; simp [shiftB]
  refine laws_toActS_k (ns := xs) hl rfl (by simp) (by simp [noslBlks]) ?_; simp [shiftB]
  refine laws_eqActS_k (ns := xs) (ms := xs) (by omega) (by omega) rfl (by simp) (by simp [noslBlks]) ?_; simp [shiftB]
  exact LeV.ro rfl rfl rfl
end Go.Proofs.YtmlfacjgfjmdeaaDoor.C
