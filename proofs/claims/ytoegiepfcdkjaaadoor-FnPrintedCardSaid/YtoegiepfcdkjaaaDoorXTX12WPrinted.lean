/- What is read as a term has its text's length. Conditions: those that each theorem names. -/
import Derived.Test.YtoegiepfcdkjaaaDoorXTX8TX13
set_option linter.unusedVariables false
set_option linter.unusedSimpArgs false
set_option maxRecDepth 4000
namespace Go.Proofs.YtoegiepfcdkjaaaDoor.C
open Go.Sym Go.Proofs.YtoegiepfcdkjaaaDoor.I
theorem txt_ext {ns ms : List Nd} (h : ns <+: ms) {j : Nat} (hj : j < ns.length) : txt ms j = txt ns j := by
  have e : accL txN ns = (accL txN ms).take ns.length := by
    rw [← accL_take txN ms ns.length h.length_le, ← List.prefix_iff_eq_take.1 h]
  simp only [txt, List.getD_eq_getElem?_getD]
  rw [e, List.getElem?_take_of_lt hj]
theorem fullF_put {s : List Nd} {n : Nd} (h : (fullF (addF s n)).2.2 = 0) : ∃ j : Nat, (fullF (addF s n)).2.1 = j ∧ j < (fullF (addF s n)).1.length ∧ nodeAt (fullF (addF s n)).1 j = normN n := by
  obtain ⟨g1, g2, g3⟩ := fullF_ok h
  rw [g2, g3]
  unfold addF at g1 ⊢
  split
  · rename_i k; rw [if_pos k] at g1; simp at g1
  · rename_i k
    rw [if_neg k] at g1
    split
    · rename_i k2
      obtain ⟨j, hj, e1, e2⟩ := findF_at s (normN n) 0 k2
      refine ⟨j, by simpa using e1, hj, ?_⟩
      simp only
      rw [nodeAt_nat hj, e2]
    · rename_i k2
      rw [if_neg k2] at g1
      split
      · rename_i k3; rw [if_pos k3] at g1; simp at g1
      · exact ⟨s.length, rfl, by simp, by simp [nodeAt]⟩
theorem num_size {tx : ByteArray} {i : Nat} (h0 : 0 ≤ figV 9 (dgRun tx i)) : (numB (figV 9 (dgRun tx i))).size = (dgRun tx i).length := by
  have h1 : ¬ (dgRun tx i = [] ∨ 9 < (dgRun tx i).length ∨ lead0 (dgRun tx i) = true) := fun h => by rw [figV_neg h] at h0; omega
  have n1 : dgRun tx i ≠ [] := fun h => h1 (.inl h)
  have n3 : lead0 (dgRun tx i) = false := by
    cases h : lead0 (dgRun tx i) with
    | true => exact absurd (.inr (.inr h)) h1
    | false => rfl
  have e : figV 9 (dgRun tx i) = valD (dgRun tx i) := figV_pos n1 (fun h => h1 (.inr (.inl h))) n3
  rw [e]
  have hb := numB_bl (a := (valD (dgRun tx i) : Int)) (by omega)
  have := dec_val _ n1 (dgRun_dg tx i) n3
  rw [Int.toNat_natCast, this] at hb
  have hlen := congrArg List.length hb
  rwa [bl_len] at hlen
theorem sg_sizes {b : Int} (h : b = 40 ∨ b = 123 ∨ b = 91) : (sgO (kindF b)).size = 1 ∧ (sgE (kindF b)).size = 1 ∧ partsF (kindF b) = 2 := by
  rcases h with rfl | rfl | rfl <;> decide
theorem sg_sizes1 {b : Int} (h : b = 35 ∨ b = 94) : (sgO (kindF b)).size = 1 ∧ (sgE (kindF b)).size = 0 ∧ partsF (kindF b) = 1 := by
  rcases h with rfl | rfl <;> decide
theorem sg_sizes2 {b : Int} (h : b = 107 ∨ b = 42) : (sgO (kindF b)).size = 2 ∧ (sgE (kindF b)).size = 1 ∧ partsF (kindF b) = 2 := by
  rcases h with rfl | rfl <;> decide
/-- A node of two parts has a text of their length. -/
theorem put_two {s : List Nd} (hp : poolF s = true) {k : Int} {a b : Nat} (hk : partsF k = 2) (ha : a < s.length) (hb : b < s.length) {j : Nat} {q : List Nd} (hq : poolF q = true) (he : s <+: q) (hj : j < q.length) (hn : nodeAt q j = normN ⟨k, a, b⟩) : (txt q j).size = (sgO k).size + (txt s a).size + 1 + (txt s b).size + (sgE k).size := by
  rw [nodeAt_nat hj] at hn
  have hkj : q[j].k = k := by rw [hn, normN_k]
  have hk2 : partsF q[j].k = 2 := by rw [hkj]; exact hk
  have hc : (q[j].a = a ∧ q[j].b = b) ∨ (q[j].a = b ∧ q[j].b = a) := by
    rw [hn]
    unfold normN
    split
    · simp only
      by_cases g : (b : Int) < a
      · rw [if_pos g, if_neg (by omega)]; exact .inr ⟨rfl, rfl⟩
      · rw [if_neg g]
        by_cases g2 : (a : Int) < b
        · rw [if_pos g2]; exact .inl ⟨rfl, rfl⟩
        · rw [if_neg g2]
          exact .inl ⟨rfl, by omega⟩
    · exact .inl ⟨rfl, rfl⟩
  have ea := txt_ext he ha
  have eb := txt_ext he hb
  rcases hc with ⟨c1, c2⟩ | ⟨c1, c2⟩
  · rw [txt_two hq hj hk2 c1 c2, hkj]
    simp only [joinB, ByteArray.size_append, sz1, ea, eb]
  · rw [txt_two hq hj hk2 c1 c2, hkj]
    simp only [joinB, ByteArray.size_append, sz1, ea, eb]
    omega
theorem put_one {s : List Nd} (hp : poolF s = true) {k : Int} {a : Nat} (hk : partsF k = 1) (ha : a < s.length) {j : Nat} {q : List Nd} (hq : poolF q = true) (he : s <+: q) (hj : j < q.length) (hn : nodeAt q j = normN ⟨k, a, 0⟩) : (txt q j).size = (sgO k).size + (txt s a).size + (sgE k).size := by
  have h8 : normN ⟨k, a, 0⟩ = ⟨k, a, 0⟩ := by
    unfold normN
    split
    · rename_i h; simp only at h; rw [h] at hk; simp [partsF] at hk
    · rfl
  rw [nodeAt_nat hj, h8] at hn
  have hkj : q[j].k = k := by rw [hn]
  have ea := txt_ext he ha
  rw [txt_one hq hj (by rw [hkj]; exact hk) (show q[j].a = a by rw [hn]), hkj]
  simp only [joinB, ByteArray.size_append, ea]
/-- What is read has the length of its text. -/
theorem read_len (tx : ByteArray) : ∀ (n : Nat) (s : List Nd) (i : Nat), poolF s = true → i ≤ tx.size → (rdF (trmR tx) n s i 0).2.2.2 = 0 → tx.size - i < n → ∃ v : Nat, (rdF (trmR tx) n s i 0).2.1 = v ∧ v < (rdF (trmR tx) n s i 0).1.length ∧ i + (txt (rdF (trmR tx) n s i 0).1 v).size = (rdF (trmR tx) n s i 0).2.2.1
  | 0, s, i, _, _, _, hn => by omega
  | n + 1, s, i, hp, hi0, h, hn => by
    have ih := read_len tx n
    have hgood := fun (s : List Nd) (i : Nat) (hp : poolF s = true) (hi : i ≤ tx.size) (hn : tx.size - i < n) => (trmK tx).rd_good n (s := s) (i := i) (c := 0) hp (show i ≤ tx.size from hi) (show tx.size - i < n from hn)
    obtain ⟨_, hi, hb⟩ := rdF_inv h
    have htx : (trmR tx).text = tx := rfl
    rw [htx] at hi
    have two : ∀ {s : List Nd} {i : Nat} {e : Int} {a b : List Nd × Int × Nat × Int}, TwoOk (trmR tx) (rdF (trmR tx) n) s i e a b → poolF s = true → i ≤ tx.size → tx.size - i < n → ∃ x y : Nat, a.2.1 = x ∧ b.2.1 = y ∧ poolF b.1 = true ∧ x < b.1.length ∧ y < b.1.length ∧ i + (txt b.1 x).size + 1 + (txt b.1 y).size + 1 = b.2.2.1 + 1 := by
      intro s i e a b ht hp hi hn
      have h1 := ih s i hp hi
      have g1 := hgood s i hp hi hn
      rw [ht.ha] at h1 g1
      obtain ⟨x, x1, x2, x3⟩ := h1 ht.ca hn
      obtain ⟨k1, k2, ⟨k3, k4, k5⟩, _⟩ := g1 ht.ca
      rw [htx] at k2
      have la := ht.la
      rw [htx] at la
      have hpa := k5 hp
      have q1 : a.2.2.1 + 1 ≤ tx.size := by omega
      have q2 : tx.size - (a.2.2.1 + 1) < n := by omega
      have h2 := ih a.1 (a.2.2.1 + 1) hpa q1
      have g2 := hgood a.1 (a.2.2.1 + 1) hpa q1 q2
      rw [ht.hb] at h2 g2
      obtain ⟨y, y1, y2, y3⟩ := h2 ht.cb q2
      obtain ⟨_, _, ⟨m3, m4, m5⟩, _⟩ := g2 ht.cb
      refine ⟨x, y, x1, y1, m5 hpa, Nat.lt_of_lt_of_le x2 m3.length_le, y2, ?_⟩
      rw [txt_ext m3 x2]
      omega
    have join2 : ∀ {b : Int} {s : List Nd} {x y : Nat}, partsF (kindF b) = 2 → poolF s = true → x < s.length → y < s.length → (jnF s b [(x : Int), (y : Int)]).2.2 = 0 → ∃ v : Nat, (jnF s b [(x : Int), (y : Int)]).2.1 = v ∧ v < (jnF s b [(x : Int), (y : Int)]).1.length ∧ (txt (jnF s b [(x : Int), (y : Int)]).1 v).size = (sgO (kindF b)).size + (txt s x).size + 1 + (txt s y).size + (sgE (kindF b)).size := by
      intro b s x y hk hs hx hy hj
      unfold jnF at hj ⊢
      simp only [List.getD_cons_zero, List.getD_cons_succ] at hj ⊢
      obtain ⟨j, e1, e2, e3⟩ := fullF_put hj
      obtain ⟨f1, f2, f3⟩ := fullF_ok hj
      refine ⟨j, e1, e2, put_two hs hk hx hy (by rw [f2]; exact addF_pool _ hs) (by rw [f2]; exact addF_ext _ _) e2 e3⟩
    cases hb with
    | leaf hl hq hc =>
      rw [hq] at hc ⊢
      simp only [trmR] at hc ⊢
      unfold nmF at hc ⊢
      split at hc
      · rename_i g
        rw [if_pos g]
        simp only at hc ⊢
        obtain ⟨k1, k2, k3, k4⟩ := numF_ok g
        rw [k1] at hc ⊢
        obtain ⟨j, e1, e2, e3⟩ := fullF_put hc
        refine ⟨j, e1, e2, ?_⟩
        obtain ⟨f1, f2, f3⟩ := fullF_ok hc
        have hq : poolF (fullF (addF s ⟨1, figV 9 (dgRun tx (i + 1)), 0⟩)).1 = true := by rw [f2]; exact addF_pool _ hp
        rw [nodeAt_nat e2] at e3
        have e4 : normN ⟨1, figV 9 (dgRun tx (i + 1)), 0⟩ = ⟨1, figV 9 (dgRun tx (i + 1)), 0⟩ := rfl
        rw [e4] at e3
        rw [txt_name hq e2 (by rw [e3]), e3, ByteArray.size_append, sz1, num_size k2]
        unfold dEnd
        omega
      · simp at hc
    | two a b h0 h1 ht hj hq =>
      rw [hq]
      simp only
      have hb := two_is (b := bt tx i)
      rw [htx] at h1
      rw [h1] at hb
      have hb' : bt tx i = 40 ∨ bt tx i = 123 ∨ bt tx i = 91 := by
        have := hb.symm
        simpa using this
      obtain ⟨z1, z2, z3⟩ := sg_sizes hb'
      obtain ⟨x, y, x1, y1, hpb, x2, y2, e⟩ := two ht hp (by omega) (by omega)
      rw [x1, y1] at hj ⊢
      have hj2 : (jnF b.1 (bt tx i) [(x : Int), (y : Int)]).2.2 = 0 := hj
      obtain ⟨v, v1, v2, v3⟩ := join2 z3 hpb x2 y2 hj2
      refine ⟨v, v1, v2, ?_⟩
      have v3' : (txt ((trmR tx).join b.1 (bt (trmR tx).text i) [(x : Int), (y : Int)] (b.2.2.1 + 1)).1 v).size = _ := v3
      rw [v3']
      omega
    | one a h0 h1 h2 ha ca hj hq =>
      rw [hq]
      simp only
      have hb := trm_one (b := bt tx i) (tx := tx)
      rw [htx] at h2
      rw [h2] at hb
      have hb' : bt tx i = 35 ∨ bt tx i = 94 := by
        have := hb.symm
        simpa using this
      obtain ⟨z1, z2, z3⟩ := sg_sizes1 hb'
      have q1 : i + 1 ≤ tx.size := by omega
      have q2 : tx.size - (i + 1) < n := by omega
      have g1 := hgood s (i + 1) hp q1 q2
      have h3 := ih s (i + 1) hp q1
      rw [ha] at h3 g1
      obtain ⟨x, x1, x2, x3⟩ := h3 ca q2
      obtain ⟨_, _, ⟨_, _, m5⟩, _⟩ := g1 ca
      rw [x1] at hj ⊢
      have hj2 : (fullF (addF a.1 ⟨kindF (bt tx i), x, 0⟩)).2.2 = 0 := hj
      obtain ⟨j, e1, e2, e3⟩ := fullF_put hj2
      obtain ⟨f1, f2, f3⟩ := fullF_ok hj2
      refine ⟨j, e1, e2, ?_⟩
      have := put_one (m5 hp) z3 x2 (by rw [f2]; exact addF_pool _ (m5 hp)) (by rw [f2]; exact addF_ext _ _) e2 e3
      have t3 : (txt ((trmR tx).join a.1 (bt (trmR tx).text i) [(x : Int)] a.2.2.1).1 j).size = _ := this
      rw [t3]
      omega
    | arg a b h0 h1 h2 h3 hl ho ht hj hq =>
      rw [hq]
      simp only
      have hb := trm_arg (b := bt tx i) (tx := tx)
      rw [htx] at h3 hl
      rw [h3] at hb
      have hb' : bt tx i = 107 ∨ bt tx i = 42 := by
        have := hb.symm
        simpa using this
      obtain ⟨z1, z2, z3⟩ := sg_sizes2 hb'
      obtain ⟨x, y, x1, y1, hpb, x2, y2, e⟩ := two ht hp (by omega) (by omega)
      rw [x1, y1] at hj ⊢
      have hj2 : (jnF b.1 (bt tx i) [(x : Int), (y : Int)]).2.2 = 0 := hj
      obtain ⟨v, v1, v2, v3⟩ := join2 z3 hpb x2 y2 hj2
      refine ⟨v, v1, v2, ?_⟩
      have v3' : (txt ((trmR tx).join b.1 (bt (trmR tx).text i) [(x : Int), (y : Int)] (b.2.2.1 + 1)).1 v).size = _ := v3
      rw [v3']
      omega
/-- A reader of terms stands within its text. -/
theorem read_in (tx : ByteArray) : ∀ (n : Nat) (s : List Nd) (i : Nat) (c : Int), i ≤ tx.size → (rdF (trmR tx) n s i c).2.2.1 ≤ tx.size := by
  intro n
  have tk : ∀ (i : Nat) (c e : Int), i ≤ tx.size → (takeF tx i c e).1 ≤ tx.size := fun i c e h => by
    unfold takeF
    split
    · exact h
    · split
      · exact Nat.le_refl _
      · split
        · exact h
        · simp only; omega
  induction n with
  | zero => intro s i c h; exact h
  | succ n ih =>
    intro s i c h
    have htx : (trmR tx).text = tx := rfl
    have two : ∀ (e : Int) (s : List Nd) (i : Nat) (c : Int), i ≤ tx.size → ((trmR tx).two (rdF (trmR tx) n) e s i c).2.2.1 ≤ tx.size := fun e s i c h => tk _ _ _ (ih _ _ _ (tk _ _ _ (ih _ _ _ h)))
    have fin : ∀ (b : Int) (q : List Nd × List Int × Nat × Int), q.2.2.1 ≤ tx.size → ((trmR tx).fin b q).2.2.1 ≤ tx.size := fun b q hq => by
      unfold Rdr.fin
      split <;> exact hq
    unfold rdF
    rw [htx]
    split
    · exact h
    · split
      · exact Nat.le_refl _
      · rename_i hlt
        split
        · show (nmF tx s i).2.2.1 ≤ tx.size
          unfold nmF
          split
          · exact dEnd_le (by omega)
          · exact h
        · split
          · exact fin _ _ (two _ _ _ _ (by omega))
          · split
            · exact fin _ _ (ih _ _ _ (by omega))
            · split
              · exact fin _ _ (two _ _ _ _ (tk _ _ _ (by omega)))
              · exact h
end Go.Proofs.YtoegiepfcdkjaaaDoor.C

set_option linter.unusedVariables false
set_option linter.unusedSimpArgs false
set_option maxRecDepth 40000
namespace Go.Proofs.YtoegiepfcdkjaaaDoor.C
open Go.Sym Go.Proofs.YtoegiepfcdkjaaaDoor.I
theorem laws_big_c (bs : List Int)  : T 13 [aB bs] [] (.bool (decide (1048576 < bs.length))) ([]) := by
  refine semT' (S := S0) hm laws_big_ok (Nat.le_of_ble_eq_true rfl) ?_
  unfold laws_big; dsimp only
  simp
  exact LeV.ro rfl rfl (by simp; omega)
theorem laws_big_call {bs : List Int}  {S : FuncId → Bool} {H : List Blk} {K : A → Dl → Prop} (hS : S 13 = false) (hK : K (.bool (decide (1048576 < bs.length))) (.news [])) : @WCall' Go.Proofs.Tryd.prog S 13 [aB bs] H ⟨K⟩ :=
  WCall_pure hS (laws_big_c bs) (by simp) (by simp) (by simp) hK
theorem laws_big_k {bs : List Int}  {S : FuncId → Bool} {H : List Blk} {K : A → Dl → Prop} {zs : List A} (hS : S 13 = false) (hv : viewL (viewA 8 H) zs = some [aB bs]) (ho : noOwns zs = true ∨ nosl (.bool (decide (1048576 < bs.length))) = true) (hK : K (.bool (decide (1048576 < bs.length))) (.news [])) : @WCall' Go.Proofs.Tryd.prog S 13 zs H ⟨K⟩ :=
  WCall_pure hS (laws_big_c bs) hv ho (by simp) hK
theorem laws_FnPrinted_c (bs : List Int) (ha : bs.length < 9223372036854775808) : T 4 [aB bs] [] (.bool true) ([]) := by
  refine semT' (S := S0) hm laws_FnPrinted_ok (Nat.le_of_ble_eq_true rfl) ?_
  unfold laws_FnPrinted; dsimp only
  simp
  refine laws_big_call (bs := bs) rfl ?_; simp
  refine br_intro' (fun g => ?_) (fun g => ?_) <;> (have g0 := g) <;> simp only [decide_eq_true_eq, decide_eq_false_iff_not] at g <;> simp [g0]
  · exact LeV.ro rfl rfl rfl
  have hb : bs.length < 9223372036854775807 := by omega
  refine WCall_pure rfl (spec_DrawTermPrint_c bs hb) (by simp) (by simp) (by simp) ?_; simp
  have hl := dszF_len bs
  generalize dszF bs = p at hl ⊢
  refine impl_TermPrint_k (ns := p.1) (t := p.2) (by omega) rfl (by simp) (by simp) ?_; simp
  refine spec_TermPrint_k (ns := p.1) (t := p.2) (by omega) rfl (by simp) (by simp) ?_; simp
  by_cases h1 : 1 ≤ tsF p.1 p.2 ∧ tsF p.1 p.2 ≤ 1000
  case neg =>
    have e : tprF p.1 p.2 = ⟨#[]⟩ := if_neg h1
    rw [e]
    simp
    exact LeV.ro rfl rfl rfl
  obtain ⟨hp, j, ej, hj, es⟩ := tsF_pos h1.1
  have e : tprF p.1 p.2 = txt p.1 j := by
    unfold tprF
    rw [if_pos h1, ej]
    simp
  have hpos := txt_pos hp hj
  rw [e, ej]
  have hne : ¬ txt p.1 j = ⟨#[]⟩ := fun h => by
    rw [h] at hpos
    exact absurd hpos (by decide)
  have d0 : decide (txt p.1 j = ⟨#[]⟩) = false := decide_eq_false hne
  simp [d0]
  by_cases h2 : (txt p.1 j).size ≤ 2000
  case neg =>
    have d1 : decide ((2000 : Int) < (txt p.1 j).size) = true := decide_eq_true (by omega)
    simp [d1]
    exact LeV.ro rfl rfl rfl
  have d1 : decide ((2000 : Int) < (txt p.1 j).size) = false := decide_eq_false (by omega)
  simp [d1]
  have t1 := tp_own hp hj h2
  obtain ⟨r, φ, v, t2, S, hr, hv, ev⟩ := tp_new hp hj h2
  have hrl := poolF_len hr
  obtain ⟨j2, f1, f2, f3, f4⟩ := sim_same hp hr S _ v (Nat.lt_succ_self _) hv
  have ejj : j2 = j := by rw [f1] at ev; omega
  subst ejj
  have hsz : (txt p.1 j2 ++ ⟨#[44]⟩ : ByteArray).size = (txt p.1 j2).size + 1 := by rw [ByteArray.size_append, sz1]
  refine impl_TermParse_k (ns := p.1) (tx := txt p.1 j2) (by omega) (by omega) rfl (by simp) (by simp [noslBlks]) ?_; simp [shiftB]
  rw [t1]
  simp
  refine impl_TermParse_k (ns := []) (tx := txt p.1 j2) (by simp) (by omega) rfl (by simp) (by simp [noslBlks]) ?_; simp [shiftB]
  rw [t2]
  have s44 := sz1 44
  refine ck_intro' (by omega) ?_; simp
  refine impl_TermParse_k (ns := p.1) (tx := txt p.1 j2 ++ ⟨#[44]⟩) (by omega) (by omega) rfl (by simp) (by simp [noslBlks]) ?_; simp [shiftB]
  repeat (refine ck_intro' (by first | omega | (simp; omega) | kernel_rfl) ?_; try simp)
  have hrs : tsF r v = tsF p.1 j2 := by rw [tsF_of hr hv, tsF_of hp hj, f3]
  have hpr : tprF r v = txt r v := by
    unfold tprF
    rw [tsF_of hr hv, f3, ← es, if_pos h1]
    simp
  by_cases h3 : (txt p.1 j2).size < 2000
  · obtain ⟨m1, m2⟩ := tp_more hp hj h3
    have d2 : decide (((txt p.1 j2).size : Int) < 2000) = true := decide_eq_true (by omega)
    rw [m1, m2]
    simp [d2]
    refine impl_TermPrint_k (ns := r) (t := v) (by omega) rfl (by simp) (by simp) ?_; simp
    rw [hpr]
    have d3 : decide (((txt r v).size : Int) = (txt p.1 j2).size) = true := decide_eq_true (by omega)
    simp [d3]
    refine impl_TermSize_k (ns := r) (t := v) (by omega) rfl (by simp) (by simp) ?_; simp
    refine impl_TermSize_k (ns := p.1) (t := j2) (by omega) rfl (by simp) (by simp) ?_; simp
    rw [hrs]
    repeat (refine ck_intro' (by first | omega | (simp; omega) | kernel_rfl) ?_; try simp)
    exact LeV.ro rfl rfl (by simp)
  · have d2 : decide (((txt p.1 j2).size : Int) < 2000) = false := decide_eq_false (by omega)
    simp [d2]
    refine impl_TermPrint_k (ns := r) (t := v) (by omega) rfl (by simp) (by simp) ?_; simp
    rw [hpr]
    have d3 : decide (((txt r v).size : Int) = (txt p.1 j2).size) = true := decide_eq_true (by omega)
    simp [d3]
    refine impl_TermSize_k (ns := r) (t := v) (by omega) rfl (by simp) (by simp) ?_; simp
    refine impl_TermSize_k (ns := p.1) (t := j2) (by omega) rfl (by simp) (by simp) ?_; simp
    rw [hrs]
    repeat (refine ck_intro' (by first | omega | (simp; omega) | kernel_rfl) ?_; try simp)
    exact LeV.ro rfl rfl (by simp)
end Go.Proofs.YtoegiepfcdkjaaaDoor.C
