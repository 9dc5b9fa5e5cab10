/- The text of a term is read as the term: the reader. Conditions: those that each theorem names. -/
import Derived.Test.YtoegiepfcdkjaaaDoorXX4TX6
import Derived.Test.YtoegiepfcdkjaaaDoorXC1X3
set_option linter.unusedVariables false
set_option linter.unusedSimpArgs false
set_option maxRecDepth 4000
namespace Go.Proofs.YtoegiepfcdkjaaaDoor.C
open Go.Sym Go.Proofs.YtoegiepfcdkjaaaDoor.I
/-- What is read from a term's text. -/
structure ReadT (ns : List Nd) (t : Nat) (r : List Nd) (φ : List Nat) (q : List Nd × Int × Nat × Int) (e : Nat) (φ' : List Nat) (v : Nat) : Prop where
  eq : q = (q.1, (v : Int), e, 0)
  sim : Sim ns q.1 φ'
  ok : poolF q.1 = true
  pre : r <+: q.1
  ext : φ <+: φ'
  lt : v < q.1.length
  at_ : fi φ' v = t
theorem fi_ext {φ φ' : List Nat} (h : φ <+: φ') {v : Nat} (hv : v < φ.length) : fi φ' v = fi φ v := by
  obtain ⟨r, rfl⟩ := h
  simp [fi, List.getElem?_append_left hv, hv]
theorem kindF_of {k : Int} (h : k = 2 ∨ k = 3 ∨ k = 4 ∨ k = 5 ∨ k = 6 ∨ k = 7 ∨ k = 8) : ∃ c : UInt8, ∃ o : Bool, sgO k = (if o then ⟨#[c, 40]⟩ else ⟨#[c]⟩) ∧ kindF c.toNat = k ∧
    (((k = 2 ∨ k = 3 ∨ k = 4) ∧ o = false ∧ isTwoB c.toNat = true ∧ ∃ z : UInt8, sgE k = ⟨#[z]⟩ ∧ closeF c.toNat = z.toNat ∧ isDg z = false) ∨ ((k = 5 ∨ k = 7) ∧ o = false ∧ isTwoB c.toNat = false ∧ (∀ tx, (trmR tx).isOne c.toNat = true) ∧ sgE k = ⟨#[]⟩) ∨ ((k = 6 ∨ k = 8) ∧ o = true ∧ isTwoB c.toNat = false ∧ (∀ tx, (trmR tx).isOne c.toNat = false) ∧ (∀ tx, (trmR tx).isArg c.toNat = true) ∧ sgE k = ⟨#[41]⟩)) ∧ (∀ tx, (trmR tx).isLeaf c.toNat = false) := by
  rcases h with h | h | h | h | h | h | h <;> subst h
  · exact ⟨40, false, rfl, by decide, .inl ⟨by decide, rfl, by decide, 41, rfl, by decide, by decide⟩, fun tx => by simp [Rdr.isLeaf, trmR, inS, bl]⟩
  · exact ⟨123, false, rfl, by decide, .inl ⟨by decide, rfl, by decide, 125, rfl, by decide, by decide⟩, fun tx => by simp [Rdr.isLeaf, trmR, inS, bl]⟩
  · exact ⟨91, false, rfl, by decide, .inl ⟨by decide, rfl, by decide, 93, rfl, by decide, by decide⟩, fun tx => by simp [Rdr.isLeaf, trmR, inS, bl]⟩
  · exact ⟨35, false, rfl, by decide, .inr (.inl ⟨by decide, rfl, by decide, fun tx => by simp [Rdr.isOne, trmR, inS, bl], rfl⟩), fun tx => by simp [Rdr.isLeaf, trmR, inS, bl]⟩
  · exact ⟨107, true, rfl, by decide, .inr (.inr ⟨by decide, rfl, by decide, fun tx => by simp [Rdr.isOne, trmR, inS, bl], fun tx => by simp [Rdr.isArg, trmR, inS, bl], rfl⟩), fun tx => by simp [Rdr.isLeaf, trmR, inS, bl]⟩
  · exact ⟨94, false, rfl, by decide, .inr (.inl ⟨by decide, rfl, by decide, fun tx => by simp [Rdr.isOne, trmR, inS, bl], rfl⟩), fun tx => by simp [Rdr.isLeaf, trmR, inS, bl]⟩
  · exact ⟨42, true, rfl, by decide, .inr (.inr ⟨by decide, rfl, by decide, fun tx => by simp [Rdr.isOne, trmR, inS, bl], fun tx => by simp [Rdr.isArg, trmR, inS, bl], rfl⟩), fun tx => by simp [Rdr.isLeaf, trmR, inS, bl]⟩
/-- A node put into the reader's pool. -/
theorem jn_read {ns : List Nd} (hp : poolF ns = true) {t : Nat} (ht : t < ns.length) {s r : List Nd} {φ φ0 : List Nat} (S : Sim ns s φ) (hs : poolF s = true) (hr : r <+: s) (hφ : φ0 <+: φ) {n : Nd} (hn : Vald s.length n) (he : mapN φ n = nodeAt ns t) (e : Nat) :
    ∃ φ' v, (fullF (addF s n)).2.2 = 0 ∧ ReadT ns t r φ0 ((fullF (addF s n)).1, (fullF (addF s n)).2.1, e, (fullF (addF s n)).2.2) e φ' v := by
  obtain ⟨φ', v, g1, g2, g3, g4, g5⟩ := S.add hp hs hn ht he
  have ef : fullF (addF s n) = ((addF s n).1, (addF s n).2, 0) := if_neg (by omega)
  rw [ef]
  refine ⟨φ', v, rfl, ⟨by simp only [g3], g1, addF_pool _ hs, hr.trans (addF_ext _ _), hφ.trans g2, g4, g5⟩⟩
theorem takeF_yes {tx : ByteArray} {i : Nat} {e : Int} (h : i < tx.size) (hb : bt tx i = e) : takeF tx i 0 e = (i + 1, 0) := by
  unfold takeF
  rw [if_neg (by simp), if_neg (by omega), if_neg (by simpa using hb)]
theorem read_txt {ns : List Nd} (hp : poolF ns = true) (tx : ByteArray) : ∀ (m t : Nat), t < m → t < ns.length → ∀ (n : Nat) (r : List Nd) (φ : List Nat) (i : Nat), Sim ns r φ → poolF r = true → At tx i (txt ns t) → (tx.size ≤ i + (txt ns t).size ∨ isDg (byt tx (i + (txt ns t).size)) = false) → tx.size - i < n → ∃ φ' v, ReadT ns t r φ (rdF (trmR tx) n r i 0) (i + (txt ns t).size) φ' v
  | 0, t, h, _ => by omega
  | m + 1, t, hm, ht => by
    intro n r φ i S hr hA hE hn
    have IH := read_txt hp tx m
    obtain ⟨n, rfl⟩ : ∃ n', n = n' + 1 := ⟨n - 1, by omega⟩
    have htx : (trmR tx).text = tx := rfl
    have hx := txt_eq hp ht
    obtain ⟨k, a, b, en, hc⟩ := poolK hp ht
    rw [en] at hx
    dsimp only at hx
    rcases hc with ⟨rfl, h0, h1, rfl⟩ | ⟨hk, rfl, a, rfl, ha⟩ | ⟨hk, ⟨a, rfl, ha⟩, b, rfl, hb⟩
    · rw [if_pos rfl] at hx
      rw [hx] at hA hE ⊢
      obtain ⟨b1, b2⟩ := hA.left.one
      have hA2 := hA.tail
      have hs : ByteArray.size ⟨#[110]⟩ = 1 := rfl
      rw [hs] at hA2
      have hsz : (⟨#[110]⟩ ++ numB a : ByteArray).size = 1 + (numB a).size := by rw [ByteArray.size_append, hs]
      rw [hsz] at hE ⊢
      obtain ⟨q1, q2⟩ := num_read (i := i + 1) (fr := i) h0 h1 hA2 (by rw [show i + 1 + (numB a).size = i + (1 + (numB a).size) by omega]; exact hE)
      have hb2 : bt tx i = 110 := b2
      have eR : rdF (trmR tx) (n + 1) r i 0 = nmF tx r i := by
        simp only [rdF]
        rw [if_neg (by simp), if_neg (by rw [htx]; omega), if_pos (by rw [htx, hb2]; simp [Rdr.isLeaf])]
        rfl
      rw [eR]
      unfold nmF
      rw [q1, q2]
      simp only
      rw [if_pos trivial]
      obtain ⟨φ', v, g1, g2⟩ := jn_read hp ht S hr (List.prefix_refl r) (List.prefix_refl φ) (n := ⟨1, a, 0⟩) (.inl ⟨rfl, h0, h1, rfl⟩) (by rw [en]; rfl) (i + (1 + (numB a).size))
      refine ⟨φ', v, ?_⟩
      rw [show i + 1 + (numB a).size = i + (1 + (numB a).size) by omega]
      exact g2
    · have hk1 : ¬ k = 1 := by omega
      have hk2 : partsF k = 1 := by rcases hk with h | h <;> subst h <;> decide
      rw [if_neg hk1, if_pos hk2] at hx
      obtain ⟨c, o, e1, e2, hcs, e3⟩ := kindF_of (k := k) (by omega)
      rcases hcs with ⟨g, _⟩ | ⟨_, rfl, e4, e5, e6⟩ | ⟨g, _⟩
      · omega
      case inr.inr => omega
      rw [if_neg (by simp)] at e1
      rw [e1, e6] at hx
      simp only [Int.toNat_natCast] at hx
      rw [hx] at hA hE ⊢
      have hA1 := hA.left
      obtain ⟨b1, b2⟩ := hA1.left.one
      have hA2 := hA1.tail
      have hs : ByteArray.size ⟨#[c]⟩ = 1 := rfl
      have hs0 : ByteArray.size ⟨#[]⟩ = 0 := rfl
      rw [hs] at hA2
      have hsz : (⟨#[c]⟩ ++ txt ns a ++ ⟨#[]⟩ : ByteArray).size = 1 + (txt ns a).size := by rw [ByteArray.size_append, ByteArray.size_append, hs, hs0]; omega
      rw [hsz] at hE ⊢
      have hal : a < ns.length := by omega
      obtain ⟨φ1, v1, R1⟩ := IH a (by omega) hal n r φ (i + 1) S hr hA2 (by rw [show i + 1 + (txt ns a).size = i + (1 + (txt ns a).size) by omega]; exact hE) (by omega)
      obtain ⟨q, eq⟩ : ∃ q, rdF (trmR tx) n r (i + 1) 0 = q := ⟨_, rfl⟩
      rw [eq] at R1
      have eR : rdF (trmR tx) (n + 1) r i 0 = (trmR tx).fin c.toNat (oneF (rdF (trmR tx) n) r (i + 1)) := by
        simp only [rdF]
        rw [if_neg (by simp), if_neg (by rw [htx]; omega), htx, b2, if_neg (by rw [e3]; simp), if_neg (by rw [e4]; simp), if_pos (e5 tx)]
      rw [eR]
      simp only [oneF, eq]
      have qe := R1.eq
      have q1 : q.2.1 = (v1 : Int) := by rw [qe]
      have q2 : q.2.2.1 = i + 1 + (txt ns a).size := by rw [qe]
      have q3 : q.2.2.2 = 0 := by rw [qe]
      have hfin : (trmR tx).fin (c.toNat : Int) (q.1, [q.2.1], q.2.2.1, q.2.2.2) = ((jnF q.1 c.toNat [q.2.1]).1, (jnF q.1 c.toNat [q.2.1]).2.1, q.2.2.1, (jnF q.1 c.toNat [q.2.1]).2.2) := by
        unfold Rdr.fin
        rw [if_pos q3]
        rfl
      rw [hfin]
      unfold jnF
      rw [e2, q1, q2]
      simp only [List.getD_cons_zero, List.getD_cons_succ, List.getD_nil]
      have hlen := R1.sim.len
      obtain ⟨φ', v, g1, g2⟩ := jn_read hp ht R1.sim R1.ok R1.pre R1.ext (n := ⟨k, v1, 0⟩) (.inr (.inl ⟨hk2, by simp only; omega, by simp only; have := R1.lt; omega, rfl⟩)) (by rw [en]; simp [mapN, hk2, R1.at_]) (i + (1 + (txt ns a).size))
      refine ⟨φ', v, ?_⟩
      rw [show i + 1 + (txt ns a).size = i + (1 + (txt ns a).size) by omega]
      exact g2
    · have hk1 : ¬ k = 1 := by omega
      have hk2 : partsF k = 2 := by rcases hk with h | h | h | h | h <;> subst h <;> decide
      rw [if_neg hk1, if_neg (by omega)] at hx
      simp only [Int.toNat_natCast] at hx
      have hal : a < ns.length := by omega
      have hbl : b < ns.length := by omega
      obtain ⟨c, o, e1, e2, hcs, e3⟩ := kindF_of (k := k) (by omega)
      have two : ∀ (j : Nat) (z : UInt8), isDg z = false → At tx j (txt ns a ++ ⟨#[44]⟩ ++ txt ns b ++ ⟨#[z]⟩) → tx.size - j < n → ∃ (q : List Nd × Int × Nat × Int) (φ' : List Nat) (v w : Nat), (trmR tx).two (rdF (trmR tx) n) z.toNat r j 0 = (q.1, [(v : Int), (w : Int)], j + (txt ns a ++ ⟨#[44]⟩ ++ txt ns b ++ ⟨#[z]⟩ : ByteArray).size, 0) ∧ Sim ns q.1 φ' ∧ poolF q.1 = true ∧ r <+: q.1 ∧ φ <+: φ' ∧ v < q.1.length ∧ w < q.1.length ∧ fi φ' v = a ∧ fi φ' w = b := by
        intro j z hz hT hnj
        have hs44 : ByteArray.size ⟨#[44]⟩ = 1 := rfl
        have hsz : ByteArray.size ⟨#[z]⟩ = 1 := rfl
        have A1 := hT.left.left.left
        have A2 := hT.left.left.tail
        obtain ⟨p1, p2⟩ := A2.one
        have A3 := hT.left.tail
        rw [ByteArray.size_append, hs44] at A3
        have A4 := hT.tail
        obtain ⟨p3, p4⟩ := A4.one
        have esz : (txt ns a ++ ⟨#[44]⟩ ++ txt ns b ++ ⟨#[z]⟩ : ByteArray).size = (txt ns a).size + 1 + (txt ns b).size + 1 := by
          rw [ByteArray.size_append, ByteArray.size_append, ByteArray.size_append, hs44, hsz]
        rw [ByteArray.size_append, ByteArray.size_append, hs44] at p3 p4
        obtain ⟨φ1, v1, R1⟩ := IH a (by omega) hal n r φ j S hr A1 (.inr (by
          have h2 := A2.byt (j := 0) (by decide)
          rw [show j + (txt ns a).size + 0 = j + (txt ns a).size from rfl] at h2
          rw [h2]; decide)) hnj
        obtain ⟨q, eq⟩ : ∃ q, rdF (trmR tx) n r j 0 = q := ⟨_, rfl⟩
        rw [eq] at R1
        have qe := R1.eq
        have q1 : q.2.1 = (v1 : Int) := by rw [qe]
        have q2 : q.2.2.1 = j + (txt ns a).size := by rw [qe]
        have q3 : q.2.2.2 = 0 := by rw [qe]
        have t1 : takeF tx (j + (txt ns a).size) 0 44 = (j + (txt ns a).size + 1, 0) := takeF_yes p1 p2
        obtain ⟨φ2, v2, R2⟩ := IH b (by omega) hbl n q.1 φ1 (j + (txt ns a).size + 1) R1.sim R1.ok (by rw [show j + (txt ns a).size + 1 = j + ((txt ns a).size + 1) by omega]; exact A3) (.inr (by
          have h2 := A4.byt (j := 0) (by rw [hsz]; exact Nat.one_pos)
          rw [ByteArray.size_append, ByteArray.size_append, hs44] at h2
          rw [show j + (txt ns a).size + 1 + (txt ns b).size = j + ((txt ns a).size + 1 + (txt ns b).size) + 0 by omega, h2]
          exact hz)) (by omega)
        obtain ⟨p, ep⟩ : ∃ p, rdF (trmR tx) n q.1 (j + (txt ns a).size + 1) 0 = p := ⟨_, rfl⟩
        rw [ep] at R2
        have pe := R2.eq
        have r1 : p.2.1 = (v2 : Int) := by rw [pe]
        have r2 : p.2.2.1 = j + (txt ns a).size + 1 + (txt ns b).size := by rw [pe]
        have r3 : p.2.2.2 = 0 := by rw [pe]
        have t2 : takeF tx (j + (txt ns a).size + 1 + (txt ns b).size) 0 z.toNat = (j + (txt ns a).size + 1 + (txt ns b).size + 1, 0) := takeF_yes (by omega) (by rw [show j + (txt ns a).size + 1 + (txt ns b).size = j + ((txt ns a).size + 1 + (txt ns b).size) by omega]; exact p4)
        have hv1 := R1.lt
        have hl1 := R1.sim.len
        refine ⟨p, φ2, v1, v2, ?_, R2.sim, R2.ok, R1.pre.trans R2.pre, R1.ext.trans R2.ext, Nat.lt_of_lt_of_le R1.lt R2.pre.length_le, R2.lt, ?_, R2.at_⟩
        · simp only [Rdr.two, htx, eq, q2, q3, t1, ep, r2, r3, t2, q1, r1]
          rw [esz]
          simp only [Nat.add_assoc]
        · rw [fi_ext R2.ext (by omega)]
          exact R1.at_
      have fin2 : ∀ {q : List Nd × Int × Nat × Int} {φ' : List Nat} {v w e : Nat}, Sim ns q.1 φ' → poolF q.1 = true → r <+: q.1 → φ <+: φ' → v < q.1.length → w < q.1.length → fi φ' v = a → fi φ' w = b → ∃ φ2 u, ReadT ns t r φ ((trmR tx).fin c.toNat (q.1, [(v : Int), (w : Int)], e, 0)) e φ2 u := by
        intro q φ' v w e s1 s2 s3 s4 s5 s6 s7 s8
        have hfin : (trmR tx).fin (c.toNat : Int) (q.1, [(v : Int), (w : Int)], e, 0) = ((jnF q.1 c.toNat [(v : Int), (w : Int)]).1, (jnF q.1 c.toNat [(v : Int), (w : Int)]).2.1, e, (jnF q.1 c.toNat [(v : Int), (w : Int)]).2.2) := by
          unfold Rdr.fin
          rw [if_pos rfl]
          rfl
        rw [hfin]
        unfold jnF
        rw [e2]
        simp only [List.getD_cons_zero, List.getD_cons_succ]
        obtain ⟨_, hnn⟩ := vald_at hp ht
        rw [en] at hnn
        obtain ⟨φ2, u, g1, g2⟩ := jn_read hp ht s1 s2 s3 s4 (n := ⟨k, v, w⟩) (.inr (.inr ⟨hk2, by simp only; omega, by simp only; omega, by simp only; omega, by simp only; omega⟩)) (by rw [en]; simp [mapN, hk2, s7, s8]; exact hnn) e
        exact ⟨φ2, u, g2⟩
      rcases hcs with ⟨_, rfl, e4, z, e5, e6, e7⟩ | ⟨g, _⟩ | ⟨_, rfl, e4, e5, e6, e7⟩
      · rw [if_neg (by simp)] at e1
        rw [e1, e5] at hx
        have hx2 : txt ns t = ⟨#[c]⟩ ++ (txt ns a ++ ⟨#[44]⟩ ++ txt ns b ++ ⟨#[z]⟩) := by
          rw [hx]
          exact ba_ext (by simp only [bl_app, List.append_assoc])
        rw [hx2] at hA hE ⊢
        obtain ⟨b1, b2⟩ := hA.left.one
        have hA2 := hA.tail
        have hs : ByteArray.size ⟨#[c]⟩ = 1 := rfl
        rw [hs] at hA2
        obtain ⟨q, φ', v, w, k0, k1, k2, k3, k4, k5, k6, k7, k8⟩ := two (i + 1) z e7 hA2 (by omega)
        have eR : rdF (trmR tx) (n + 1) r i 0 = (trmR tx).fin c.toNat ((trmR tx).two (rdF (trmR tx) n) (closeF c.toNat) r (i + 1) 0) := by
          simp only [rdF]
          rw [if_neg (by simp), if_neg (by rw [htx]; omega), htx, b2, if_neg (by rw [e3]; simp), if_pos e4]
        have esz : (⟨#[c]⟩ ++ (txt ns a ++ ⟨#[44]⟩ ++ txt ns b ++ ⟨#[z]⟩) : ByteArray).size = 1 + (txt ns a ++ ⟨#[44]⟩ ++ txt ns b ++ ⟨#[z]⟩ : ByteArray).size := by rw [ByteArray.size_append, hs]
        rw [eR, e6, k0, esz, ← Nat.add_assoc]
        exact fin2 k1 k2 k3 k4 k5 k6 k7 k8
      · omega
      · rw [if_pos rfl] at e1
        rw [e1, e7] at hx
        have hx2 : txt ns t = ⟨#[c]⟩ ++ (⟨#[40]⟩ ++ (txt ns a ++ ⟨#[44]⟩ ++ txt ns b ++ ⟨#[41]⟩)) := by
          rw [hx]
          exact ba_ext (by simp [bl_app])
        rw [hx2] at hA hE ⊢
        obtain ⟨b1, b2⟩ := hA.left.one
        have hA2 := hA.tail
        have hs : ByteArray.size ⟨#[c]⟩ = 1 := rfl
        have hs40 : ByteArray.size ⟨#[40]⟩ = 1 := rfl
        rw [hs] at hA2
        obtain ⟨b3, b4⟩ := hA2.left.one
        have hA3 := hA2.tail
        rw [hs40] at hA3
        obtain ⟨q, φ', v, w, k0, k1, k2, k3, k4, k5, k6, k7, k8⟩ := two (i + 1 + 1) 41 (by decide) hA3 (by omega)
        have eR : rdF (trmR tx) (n + 1) r i 0 = (trmR tx).fin c.toNat ((trmR tx).two (rdF (trmR tx) n) 41 r (takeF tx (i + 1) 0 40).1 (takeF tx (i + 1) 0 40).2) := by
          simp only [rdF]
          rw [if_neg (by simp), if_neg (by rw [htx]; omega), htx, b2, if_neg (by rw [e3]; simp), if_neg (by rw [e4]; simp), if_neg (by rw [e5]; simp), if_pos (e6 tx)]
        have ht40 : takeF tx (i + 1) 0 40 = (i + 1 + 1, 0) := takeF_yes b3 b4
        rw [eR, ht40]
        have k0' : (trmR tx).two (rdF (trmR tx) n) 41 r (i + 1 + 1) 0 = _ := k0
        rw [k0']
        have esz : (⟨#[c]⟩ ++ (⟨#[40]⟩ ++ (txt ns a ++ ⟨#[44]⟩ ++ txt ns b ++ ⟨#[41]⟩)) : ByteArray).size = 1 + (1 + (txt ns a ++ ⟨#[44]⟩ ++ txt ns b ++ ⟨#[41]⟩ : ByteArray).size) := by rw [ByteArray.size_append, hs, ByteArray.size_append, hs40]
        rw [esz, ← Nat.add_assoc, ← Nat.add_assoc]
        exact fin2 k1 k2 k3 k4 k5 k6 k7 k8
end Go.Proofs.YtoegiepfcdkjaaaDoor.C

set_option linter.unusedVariables false
set_option linter.unusedSimpArgs false
set_option maxRecDepth 4000
namespace Go.Proofs.YtoegiepfcdkjaaaDoor.C
open Go.Sym Go.Proofs.YtoegiepfcdkjaaaDoor.I
/-- A name's number at a place. -/
def nmOk (tx : ByteArray) (i : Nat) : Bool := decide (0 ≤ figV 3 (dgRun tx i)) && decide (figV 3 (dgRun tx i) < 200)
theorem numF_nm (tx : ByteArray) (i : Nat) (fr : Int) : numF tx i fr = if nmOk tx i = true then (figV 3 (dgRun tx i), (dEnd tx i : Int), 0) else (-1, fr, 4) := by
  have hd := dgRun_dg tx i
  have h1 := figV_small (most := 9) hd 3 (by omega) (by omega)
  unfold numF nmOk
  by_cases h : 0 ≤ figV 3 (dgRun tx i)
  · have e := figV_eq (most := 9) (by omega) h
    rw [e]
    by_cases h2 : figV 3 (dgRun tx i) < 200
    · rw [if_pos ⟨h, by omega⟩, if_pos (by simp [h, h2])]
    · rw [if_neg (by omega), if_neg (by simp [h2])]
  · rw [if_neg (fun g => h (h1.1 ⟨g.1, by omega⟩)), if_neg (by simp [h])]
theorem spec_l4Want_c (tx : ByteArray) (i : Nat) (b : Int) (hs : tx.size ≤ 281474976710656) : T 57 [.str tx, i6 i, .int .u8 b] [] (.tup [i6 (takeF tx i 0 b).1, i6 (takeF tx i 0 b).2]) ([]) := by
  refine semT' (S := S0) hm spec_l4Want_ok (Nat.le_of_ble_eq_true rfl) ?_
  unfold spec_l4Want; dsimp only
  simp
  refine br_intro' (fun u => ?_) (fun u => ?_) <;> (have u0 := u) <;> simp only [decide_eq_true_eq, decide_eq_false_iff_not] at u <;> simp [u0]
  · exact LeV.ro rfl rfl (by simp [takeF, u])
  have hlt : i < tx.size := by omega
  simp [hlt]
  refine br_intro' (fun v => ?_) (fun v => ?_) <;> (have v0 := v) <;> simp only [decide_eq_true_eq, decide_eq_false_iff_not] at v <;> simp [v0]
  · rw [wrap_succ (n := i) (by omega)]
    exact LeV.ro rfl rfl (by simp [takeF, u, v])
  · exact LeV.ro rfl rfl (by simp [takeF, u, v])
theorem spec_l4Want_call {tx : ByteArray} {i : Nat} {b : Int} (hs : tx.size ≤ 281474976710656) {S : FuncId → Bool} {H : List Blk} {K : A → Dl → Prop} (hS : S 57 = false) (hK : K (.tup [i6 (takeF tx i 0 b).1, i6 (takeF tx i 0 b).2]) (.news [])) : @WCall' Go.Proofs.Tryd.prog S 57 [.str tx, i6 i, .int .u8 b] H ⟨K⟩ :=
  WCall_pure hS (spec_l4Want_c tx i b hs) (by simp) (by simp) (by simp) hK
theorem spec_l4Want_k {tx : ByteArray} {i : Nat} {b : Int} (hs : tx.size ≤ 281474976710656) {S : FuncId → Bool} {H : List Blk} {K : A → Dl → Prop} {zs : List A} (hS : S 57 = false) (hv : viewL (viewA 8 H) zs = some [.str tx, i6 i, .int .u8 b]) (ho : noOwns zs = true ∨ nosl (.tup [i6 (takeF tx i 0 b).1, i6 (takeF tx i 0 b).2]) = true) (hK : K (.tup [i6 (takeF tx i 0 b).1, i6 (takeF tx i 0 b).2]) (.news [])) : @WCall' Go.Proofs.Tryd.prog S 57 zs H ⟨K⟩ :=
  WCall_pure hS (spec_l4Want_c tx i b hs) hv ho (by simp) hK
theorem spec_l4Name_c (tx : ByteArray) (i : Nat) (hs : tx.size ≤ 281474976710656) (hi : i ≤ tx.size) : T 54 [.str tx, i6 i] [] (.tup [i6 (if nmOk tx i = true then figV 3 (dgRun tx i) else 0), i6 (if nmOk tx i = true then (dEnd tx i : Int) else 0), .bool (nmOk tx i)]) ([]) := by
  refine semT' (S := S0) hm spec_l4Name_ok (Nat.le_of_ble_eq_true rfl) ?_
  unfold spec_l4Name; dsimp only
  simp
  refine WLoop_fam (fun p : List UInt8 => [(0, A.str tx), (1, i6 (((i + p.length : Nat) : Int))), (7, i6 i), (8, i6 (valD p))]) (fun _ => []) (fun p => 5 - p.length)
    (fun p => dgRun tx i = p ++ dgRun tx (i + p.length) ∧ p.length ≤ 4 ∧ i + p.length ≤ tx.size) ?_ [] ⟨by simp, by simp, by simpa using hi⟩
  intro p ⟨hr, hl4, hsz⟩ ih
  have hdp : ∀ b ∈ p, isDg b = true := fun b hb => dgRun_dg tx i b (by rw [hr]; simp [hb])
  have hv := valD_lt p hdp
  have hv4 : valD p < 10000 := Nat.lt_of_lt_of_le hv (Nat.pow_le_pow_right (by omega) hl4)
  obtain ⟨j, hj⟩ : ∃ j, i + p.length = j := ⟨_, rfl⟩
  rw [hj] at hr hsz ⊢
  have hw0 : IntKind.i64.wrap ((j : Int) - i) = p.length := by rw [wrap64 (by omega) (by omega)]; omega
  simp [hw0]
  by_cases c1 : j < tx.size ∧ isDg (byt tx j) = true ∧ p.length < 4
  · obtain ⟨c1, c2, c3⟩ := c1
    have c2' := c2
    simp only [isDg, decide_eq_true_eq] at c2'
    have d2 : (48 : Int) ≤ ((byt tx j).toNat : Int) := by omega
    have d3 : ((byt tx j).toNat : Int) ≤ (57 : Int) := by omega
    have d4 : (p.length : Int) < 4 := by omega
    have w1 : IntKind.i64.wrap (10 * (valD p : Int)) = 10 * valD p := wrap64 (by omega) (by omega)
    have w2 : IntKind.i64.wrap ((byt tx j).toNat : Int) = (byt tx j).toNat := wrap64 (by omega) (by omega)
    have w3 : IntKind.i64.wrap (10 * (valD p : Int) + (byt tx j).toNat) = 10 * valD p + (byt tx j).toNat := wrap64 (by omega) (by omega)
    have w4 : IntKind.i64.wrap (10 * (valD p : Int) + (byt tx j).toNat - 48) = valD (p ++ [byt tx j]) := by rw [wrap64 (by omega) (by omega), valD_snoc]; push_cast; omega
    have w5 := wrap_succ (n := j) (by omega)
    have b1 : decide ((j : Int) < tx.size) = true := by simp; omega
    have b2 : decide ((48 : Int) ≤ ((byt tx j).toNat : Int)) = true := by simp; omega
    have b3 : decide (((byt tx j).toNat : Int) ≤ (57 : Int)) = true := by simp; omega
    have b4 : decide ((p.length : Int) < 4) = true := by simp; omega
    simp [b1, c1, b2, b3, b4, hw0, w1, w2, w3, w4, w5]
    have hl1 : (p ++ [byt tx j]).length = p.length + 1 := by simp
    have e5 : i + (p ++ [byt tx j]).length = j + 1 := by rw [hl1]; omega
    have := ih (p ++ [byt tx j]) ⟨by rw [e5, hr, dgRun_step c1 c2]; simp, by rw [hl1]; omega, by rw [e5]; omega⟩ (by rw [hl1]; omega)
    rw [e5] at this
    exact this
  · have hE : p.length = 4 ∨ dgRun tx j = [] := by
      rcases Nat.lt_or_ge p.length 4 with g | g
      · refine .inr (dgRun_stop ?_)
        rcases Nat.lt_or_ge j tx.size with g1 | g1
        · refine .inr ?_
          cases h : isDg (byt tx j) with
          | false => rfl
          | true => exact absurd ⟨g1, h, g⟩ c1
        · exact .inl g1
      · exact .inl (by omega)
    clear ih
    have key : (nmOk tx i = true ∧ figV 3 (dgRun tx i) = valD p ∧ (dEnd tx i : Int) = j ∧ j ≠ i ∧ p.length ≤ 3 ∧ ¬ ((byt tx i).toNat = 48 ∧ 1 < p.length) ∧ valD p < 200) ∨ (nmOk tx i = false ∧ (j = i ∨ 3 < p.length ∨ ((byt tx i).toNat = 48 ∧ 1 < p.length) ∨ 200 ≤ valD p)) := by
      rcases hE with g | g
      · right
        refine ⟨?_, .inr (.inl (by omega))⟩
        have : figV 3 (dgRun tx i) = -1 := figV_neg (.inr (.inl (by rw [hr]; simp; omega)))
        simp [nmOk, this]
      · rw [g, List.append_nil] at hr
        have hde : dEnd tx i = j := by unfold dEnd; rw [hr]; omega
        by_cases f1 : j = i
        · right
          have : p = [] := List.eq_nil_of_length_eq_zero (by omega)
          refine ⟨?_, .inl f1⟩
          have : figV 3 (dgRun tx i) = -1 := figV_neg (.inl (by rw [hr, this]))
          simp [nmOk, this]
        · have hne : p ≠ [] := by intro e; rw [e] at hj; simp at hj; omega
          have hit : i < tx.size := by omega
          have hh : lead0 (dgRun tx i) = decide ((byt tx i).toNat = 48 ∧ 1 < p.length) := by
            obtain ⟨b, q, rfl⟩ : ∃ b q, p = b :: q := by cases p with | nil => exact absurd rfl hne | cons b q => exact ⟨b, q, rfl⟩
            have hb : b = byt tx i := by
              have h1 : (dgRun tx i).head? = some b := by rw [hr]; rfl
              have h2 : isDg (byt tx i) = true := by
                cases h : isDg (byt tx i) with
                | true => rfl
                | false => rw [dgRun_stop (.inr h)] at h1; cases h1
              rw [dgRun_step hit h2] at h1
              exact (Option.some.inj h1).symm
            rw [hr]
            simp only [lead0, List.head?_cons, Option.some.injEq]
            rw [hb]
            have : (byt tx i = 48) ↔ (byt tx i).toNat = 48 := by
              constructor
              · intro e; rw [e]; rfl
              · intro e; exact UInt8.toNat_inj.1 e
            simp only [this]
            rw [Bool.eq_iff_iff]
            simp
            omega
          by_cases f2 : 3 < p.length
          · right
            refine ⟨?_, .inr (.inl f2)⟩
            have : figV 3 (dgRun tx i) = -1 := figV_neg (.inr (.inl (by rw [hr]; exact f2)))
            simp [nmOk, this]
          · by_cases f3 : (byt tx i).toNat = 48 ∧ 1 < p.length
            · right
              refine ⟨?_, .inr (.inr (.inl f3))⟩
              have : figV 3 (dgRun tx i) = -1 := figV_neg (.inr (.inr (by rw [hh]; simpa using f3)))
              simp [nmOk, this]
            · have hfv : figV 3 (dgRun tx i) = valD p := by
                have := figV_pos (most := 3) (l := dgRun tx i) (by rw [hr]; exact hne) (by rw [hr]; exact f2) (by rw [hh]; exact decide_eq_false f3)
                rw [this, hr]
              by_cases f5 : 200 ≤ valD p
              · right
                exact ⟨by simp [nmOk, hfv]; omega, .inr (.inr (.inr f5))⟩
              · left
                exact ⟨by simp [nmOk, hfv]; omega, hfv, by rw [hde], f1, by omega, f3, by omega⟩
    clear hE hr hdp hv
    by_cases e1 : j < tx.size
    · have b1 : decide ((j : Int) < tx.size) = true := by simp; omega
      by_cases e2 : 48 ≤ (byt tx j).toNat
      · have b2 : decide ((48 : Int) ≤ ((byt tx j).toNat : Int)) = true := by simp; omega
        by_cases e3 : (byt tx j).toNat ≤ 57
        · have e4 : ¬ p.length < 4 := fun e4 => c1 ⟨e1, by simp [isDg]; omega, e4⟩
          have b3 : decide (((byt tx j).toNat : Int) ≤ (57 : Int)) = true := by simp; omega
          have b4 : decide ((p.length : Int) < 4) = false := by simp; omega
          simp [b1, e1, b2, b3, b4, hw0]
          rcases key with ⟨k1, k2, k3, k4, k5, k6, k7⟩ | ⟨k1, k4⟩
          · have f1 : decide ((j : Int) = i) = false := by simp; omega
            have f2 : decide ((3 : Int) < p.length) = false := by simp; omega
            have hit : i < tx.size := by omega
            have f5 : decide ((200 : Int) ≤ valD p) = false := by simp; omega
            simp [f1, f2, hit, f5, hw0]
            by_cases f3 : (byt tx i).toNat = 48
            · have f4 : decide ((1 : Int) < p.length) = false := by simp; have := fun h => k6 ⟨f3, h⟩; omega
              have f3' : decide (((byt tx i).toNat : Int) = 48) = true := by simp; omega
              simp [f3', f4, f5, hw0]
              exact LeV.ro rfl rfl (by simp [k1, k2, k3])
            · have f3' : decide (((byt tx i).toNat : Int) = 48) = false := by simp; omega
              simp [f3', f5, hw0]
              exact LeV.ro rfl rfl (by simp [k1, k2, k3])
          · by_cases f1 : j = i
            · have f1' : decide ((j : Int) = i) = true := by simp; omega
              simp [f1', hw0]
              exact LeV.ro rfl rfl (by simp [k1])
            · have f1' : decide ((j : Int) = i) = false := by simp; omega
              have hit : i < tx.size := by omega
              simp [f1', hit, hw0]
              by_cases f2 : 3 < p.length
              · have f2' : decide ((3 : Int) < p.length) = true := by simp; omega
                simp [f2', hw0]
                exact LeV.ro rfl rfl (by simp [k1])
              · have f2' : decide ((3 : Int) < p.length) = false := by simp; omega
                simp [f2', hit, hw0]
                by_cases f3 : (byt tx i).toNat = 48
                · have f3' : decide (((byt tx i).toNat : Int) = 48) = true := by simp; omega
                  simp [f3', hw0]
                  by_cases f4 : 1 < p.length
                  · have f4' : decide ((1 : Int) < p.length) = true := by simp; omega
                    simp [f4', hw0]
                    exact LeV.ro rfl rfl (by simp [k1])
                  · have f4' : decide ((1 : Int) < p.length) = false := by simp; omega
                    have f5' : decide ((200 : Int) ≤ valD p) = true := by simp; omega
                    simp [f4', f5', hw0]
                    exact LeV.ro rfl rfl (by simp [k1])
                · have f3' : decide (((byt tx i).toNat : Int) = 48) = false := by simp; omega
                  have f5' : decide ((200 : Int) ≤ valD p) = true := by simp; omega
                  simp [f3', f5', hw0]
                  exact LeV.ro rfl rfl (by simp [k1])
        · have b3 : decide (((byt tx j).toNat : Int) ≤ (57 : Int)) = false := by simp; omega
          simp [b1, e1, b2, b3, hw0]
          rcases key with ⟨k1, k2, k3, k4, k5, k6, k7⟩ | ⟨k1, k4⟩
          · have f1 : decide ((j : Int) = i) = false := by simp; omega
            have f2 : decide ((3 : Int) < p.length) = false := by simp; omega
            have hit : i < tx.size := by omega
            have f5 : decide ((200 : Int) ≤ valD p) = false := by simp; omega
            simp [f1, f2, hit, f5, hw0]
            by_cases f3 : (byt tx i).toNat = 48
            · have f4 : decide ((1 : Int) < p.length) = false := by simp; have := fun h => k6 ⟨f3, h⟩; omega
              have f3' : decide (((byt tx i).toNat : Int) = 48) = true := by simp; omega
              simp [f3', f4, f5, hw0]
              exact LeV.ro rfl rfl (by simp [k1, k2, k3])
            · have f3' : decide (((byt tx i).toNat : Int) = 48) = false := by simp; omega
              simp [f3', f5, hw0]
              exact LeV.ro rfl rfl (by simp [k1, k2, k3])
          · by_cases f1 : j = i
            · have f1' : decide ((j : Int) = i) = true := by simp; omega
              simp [f1', hw0]
              exact LeV.ro rfl rfl (by simp [k1])
            · have f1' : decide ((j : Int) = i) = false := by simp; omega
              have hit : i < tx.size := by omega
              simp [f1', hit, hw0]
              by_cases f2 : 3 < p.length
              · have f2' : decide ((3 : Int) < p.length) = true := by simp; omega
                simp [f2', hw0]
                exact LeV.ro rfl rfl (by simp [k1])
              · have f2' : decide ((3 : Int) < p.length) = false := by simp; omega
                simp [f2', hit, hw0]
                by_cases f3 : (byt tx i).toNat = 48
                · have f3' : decide (((byt tx i).toNat : Int) = 48) = true := by simp; omega
                  simp [f3', hw0]
                  by_cases f4 : 1 < p.length
                  · have f4' : decide ((1 : Int) < p.length) = true := by simp; omega
                    simp [f4', hw0]
                    exact LeV.ro rfl rfl (by simp [k1])
                  · have f4' : decide ((1 : Int) < p.length) = false := by simp; omega
                    have f5' : decide ((200 : Int) ≤ valD p) = true := by simp; omega
                    simp [f4', f5', hw0]
                    exact LeV.ro rfl rfl (by simp [k1])
                · have f3' : decide (((byt tx i).toNat : Int) = 48) = false := by simp; omega
                  have f5' : decide ((200 : Int) ≤ valD p) = true := by simp; omega
                  simp [f3', f5', hw0]
                  exact LeV.ro rfl rfl (by simp [k1])
      · have b2 : decide ((48 : Int) ≤ ((byt tx j).toNat : Int)) = false := by simp; omega
        simp [b1, e1, b2, hw0]
        rcases key with ⟨k1, k2, k3, k4, k5, k6, k7⟩ | ⟨k1, k4⟩
        · have f1 : decide ((j : Int) = i) = false := by simp; omega
          have f2 : decide ((3 : Int) < p.length) = false := by simp; omega
          have hit : i < tx.size := by omega
          have f5 : decide ((200 : Int) ≤ valD p) = false := by simp; omega
          simp [f1, f2, hit, f5, hw0]
          by_cases f3 : (byt tx i).toNat = 48
          · have f4 : decide ((1 : Int) < p.length) = false := by simp; have := fun h => k6 ⟨f3, h⟩; omega
            have f3' : decide (((byt tx i).toNat : Int) = 48) = true := by simp; omega
            simp [f3', f4, f5, hw0]
            exact LeV.ro rfl rfl (by simp [k1, k2, k3])
          · have f3' : decide (((byt tx i).toNat : Int) = 48) = false := by simp; omega
            simp [f3', f5, hw0]
            exact LeV.ro rfl rfl (by simp [k1, k2, k3])
        · by_cases f1 : j = i
          · have f1' : decide ((j : Int) = i) = true := by simp; omega
            simp [f1', hw0]
            exact LeV.ro rfl rfl (by simp [k1])
          · have f1' : decide ((j : Int) = i) = false := by simp; omega
            have hit : i < tx.size := by omega
            simp [f1', hit, hw0]
            by_cases f2 : 3 < p.length
            · have f2' : decide ((3 : Int) < p.length) = true := by simp; omega
              simp [f2', hw0]
              exact LeV.ro rfl rfl (by simp [k1])
            · have f2' : decide ((3 : Int) < p.length) = false := by simp; omega
              simp [f2', hit, hw0]
              by_cases f3 : (byt tx i).toNat = 48
              · have f3' : decide (((byt tx i).toNat : Int) = 48) = true := by simp; omega
                simp [f3', hw0]
                by_cases f4 : 1 < p.length
                · have f4' : decide ((1 : Int) < p.length) = true := by simp; omega
                  simp [f4', hw0]
                  exact LeV.ro rfl rfl (by simp [k1])
                · have f4' : decide ((1 : Int) < p.length) = false := by simp; omega
                  have f5' : decide ((200 : Int) ≤ valD p) = true := by simp; omega
                  simp [f4', f5', hw0]
                  exact LeV.ro rfl rfl (by simp [k1])
              · have f3' : decide (((byt tx i).toNat : Int) = 48) = false := by simp; omega
                have f5' : decide ((200 : Int) ≤ valD p) = true := by simp; omega
                simp [f3', f5', hw0]
                exact LeV.ro rfl rfl (by simp [k1])
    · have b1 : decide ((j : Int) < tx.size) = false := by simp; omega
      simp [e1]
      rcases key with ⟨k1, k2, k3, k4, k5, k6, k7⟩ | ⟨k1, k4⟩
      · have f1 : decide ((j : Int) = i) = false := by simp; omega
        have f2 : decide ((3 : Int) < p.length) = false := by simp; omega
        have hit : i < tx.size := by omega
        have f5 : decide ((200 : Int) ≤ valD p) = false := by simp; omega
        simp [f1, f2, hit, f5, hw0]
        by_cases f3 : (byt tx i).toNat = 48
        · have f4 : decide ((1 : Int) < p.length) = false := by simp; have := fun h => k6 ⟨f3, h⟩; omega
          have f3' : decide (((byt tx i).toNat : Int) = 48) = true := by simp; omega
          simp [f3', f4, f5, hw0]
          exact LeV.ro rfl rfl (by simp [k1, k2, k3])
        · have f3' : decide (((byt tx i).toNat : Int) = 48) = false := by simp; omega
          simp [f3', f5, hw0]
          exact LeV.ro rfl rfl (by simp [k1, k2, k3])
      · by_cases f1 : j = i
        · have f1' : decide ((j : Int) = i) = true := by simp; omega
          simp [f1', hw0]
          exact LeV.ro rfl rfl (by simp [k1])
        · have f1' : decide ((j : Int) = i) = false := by simp; omega
          have hit : i < tx.size := by omega
          simp [f1', hit, hw0]
          by_cases f2 : 3 < p.length
          · have f2' : decide ((3 : Int) < p.length) = true := by simp; omega
            simp [f2', hw0]
            exact LeV.ro rfl rfl (by simp [k1])
          · have f2' : decide ((3 : Int) < p.length) = false := by simp; omega
            simp [f2', hit, hw0]
            by_cases f3 : (byt tx i).toNat = 48
            · have f3' : decide (((byt tx i).toNat : Int) = 48) = true := by simp; omega
              simp [f3', hw0]
              by_cases f4 : 1 < p.length
              · have f4' : decide ((1 : Int) < p.length) = true := by simp; omega
                simp [f4', hw0]
                exact LeV.ro rfl rfl (by simp [k1])
              · have f4' : decide ((1 : Int) < p.length) = false := by simp; omega
                have f5' : decide ((200 : Int) ≤ valD p) = true := by simp; omega
                simp [f4', f5', hw0]
                exact LeV.ro rfl rfl (by simp [k1])
            · have f3' : decide (((byt tx i).toNat : Int) = 48) = false := by simp; omega
              have f5' : decide ((200 : Int) ≤ valD p) = true := by simp; omega
              simp [f3', f5', hw0]
              exact LeV.ro rfl rfl (by simp [k1])
theorem spec_l4Name_call {tx : ByteArray} {i : Nat} (hs : tx.size ≤ 281474976710656) (hi : i ≤ tx.size) {S : FuncId → Bool} {H : List Blk} {K : A → Dl → Prop} (hS : S 54 = false) (hK : K (.tup [i6 (if nmOk tx i = true then figV 3 (dgRun tx i) else 0), i6 (if nmOk tx i = true then (dEnd tx i : Int) else 0), .bool (nmOk tx i)]) (.news [])) : @WCall' Go.Proofs.Tryd.prog S 54 [.str tx, i6 i] H ⟨K⟩ :=
  WCall_pure hS (spec_l4Name_c tx i hs hi) (by simp) (by simp) (by simp) hK
theorem spec_l4Name_k {tx : ByteArray} {i : Nat} (hs : tx.size ≤ 281474976710656) (hi : i ≤ tx.size) {S : FuncId → Bool} {H : List Blk} {K : A → Dl → Prop} {zs : List A} (hS : S 54 = false) (hv : viewL (viewA 8 H) zs = some [.str tx, i6 i]) (ho : noOwns zs = true ∨ nosl (.tup [i6 (if nmOk tx i = true then figV 3 (dgRun tx i) else 0), i6 (if nmOk tx i = true then (dEnd tx i : Int) else 0), .bool (nmOk tx i)]) = true) (hK : K (.tup [i6 (if nmOk tx i = true then figV 3 (dgRun tx i) else 0), i6 (if nmOk tx i = true then (dEnd tx i : Int) else 0), .bool (nmOk tx i)]) (.news [])) : @WCall' Go.Proofs.Tryd.prog S 54 zs H ⟨K⟩ :=
  WCall_pure hS (spec_l4Name_c tx i hs hi) hv ho (by simp) hK
/-- A sign with parts: its kind, how many signs it takes, the sign behind it. -/
def kd3 (b : Int) : Int × Int × Int := if b = 40 then (2, 1, 41) else if b = 123 then (3, 1, 125) else if b = 91 then (4, 1, 93) else if b = 35 then (5, 1, 0) else if b = 94 then (7, 1, 0) else if b = 107 then (6, 2, 41) else if b = 42 then (8, 2, 41) else (0, 0, 0)
theorem spec_l4Kind_c (tx : ByteArray) (i : Nat) (hi : i < tx.size) : T 56 [.str tx, i6 i] [] (.tup [i6 (kd3 (bt tx i)).1, i6 (kd3 (bt tx i)).2.1, .int .u8 (kd3 (bt tx i)).2.2]) ([]) := by
  refine semT' (S := S0) hm spec_l4Kind_ok (Nat.le_of_ble_eq_true rfl) ?_
  unfold spec_l4Kind; dsimp only
  simp [hi]
  repeat (any_goals (first | (refine br_intro' (fun h => ?_) (fun h => ?_) <;> (have h0 := h) <;> (try simp at h) <;> try simp [h0, h])))
  all_goals exact LeV.ro rfl rfl (by simp [kd3, *])
theorem spec_l4Kind_call {tx : ByteArray} {i : Nat} (hi : i < tx.size) {S : FuncId → Bool} {H : List Blk} {K : A → Dl → Prop} (hS : S 56 = false) (hK : K (.tup [i6 (kd3 (bt tx i)).1, i6 (kd3 (bt tx i)).2.1, .int .u8 (kd3 (bt tx i)).2.2]) (.news [])) : @WCall' Go.Proofs.Tryd.prog S 56 [.str tx, i6 i] H ⟨K⟩ :=
  WCall_pure hS (spec_l4Kind_c tx i hi) (by simp) (by simp) (by simp) hK
theorem spec_l4Kind_k {tx : ByteArray} {i : Nat} (hi : i < tx.size) {S : FuncId → Bool} {H : List Blk} {K : A → Dl → Prop} {zs : List A} (hS : S 56 = false) (hv : viewL (viewA 8 H) zs = some [.str tx, i6 i]) (ho : noOwns zs = true ∨ nosl (.tup [i6 (kd3 (bt tx i)).1, i6 (kd3 (bt tx i)).2.1, .int .u8 (kd3 (bt tx i)).2.2]) = true) (hK : K (.tup [i6 (kd3 (bt tx i)).1, i6 (kd3 (bt tx i)).2.1, .int .u8 (kd3 (bt tx i)).2.2]) (.news [])) : @WCall' Go.Proofs.Tryd.prog S 56 zs H ⟨K⟩ :=
  WCall_pure hS (spec_l4Kind_c tx i hi) hv ho (by simp) hK
end Go.Proofs.YtoegiepfcdkjaaaDoor.C

set_option linter.unusedVariables false
set_option linter.unusedSimpArgs false
set_option maxRecDepth 4000
namespace Go.Proofs.YtoegiepfcdkjaaaDoor.C
open Go.Sym Go.Proofs.YtoegiepfcdkjaaaDoor.I
/-- What the reference's reader answers, so far. -/
def TParses (tx : ByteArray) (n : Nat) : Prop := ∀ (s : List Nd) (i : Nat), poolF s = true → i ≤ tx.size → tx.size - i < n →
  T 23 [aP s, .str tx, i6 i] [] (.tup [aP (rdF (trmR tx) n s i 0).1, i6 (rdF (trmR tx) n s i 0).2.1, i6 (rdF (trmR tx) n s i 0).2.2.1, i6 (rdF (trmR tx) n s i 0).2.2.2]) []
theorem takeF_bad {tx : ByteArray} {i : Nat} {c e : Int} (h : c ≠ 0) : takeF tx i c e = (i, c) := if_pos h
theorem trm_leaf {b : Int} {tx : ByteArray} : (trmR tx).isLeaf b = decide (b = 110) := by
  simp [Rdr.isLeaf, trmR, inS, bl]
theorem trm_one {b : Int} {tx : ByteArray} : (trmR tx).isOne b = (decide (b = 35) || decide (b = 94)) := by
  simp [Rdr.isOne, trmR, inS, bl, eq_comm]
theorem trm_arg {b : Int} {tx : ByteArray} : (trmR tx).isArg b = (decide (b = 107) || decide (b = 42)) := by
  simp [Rdr.isArg, trmR, inS, bl, eq_comm]
theorem two_is {b : Int} : isTwoB b = (decide (b = 40) || (decide (b = 123) || decide (b = 91))) := by
  simp [isTwoB, inS, bl, eq_comm]
theorem addF_neg1 {s : List Nd} {n : Nd} {z : List Nd × Int} (h : addF s n = z) (h0 : z.2 < 0) : z.2 = -1 ∧ z.1 = s := by
  rw [← h] at h0 ⊢
  unfold addF at h0 ⊢
  split
  · exact ⟨rfl, rfl⟩
  · rename_i g
    rw [if_neg g] at h0
    split
    · rename_i g2
      rw [if_pos g2] at h0
      simp only at h0
      omega
    · rename_i g2
      rw [if_neg g2] at h0
      split
      · exact ⟨rfl, rfl⟩
      · rename_i g3
        rw [if_neg g3] at h0
        simp only at h0
        omega
set_option maxHeartbeats 4000000 in
theorem tparse_t {tx : ByteArray} (hs : tx.size ≤ 1000000) : ∀ n, TParses tx n
  | 0 => fun s i hp hi hn => by omega
  | n + 1 => fun s i hp hi hn => by
    have ih := tparse_t hs n
    obtain ⟨q, eq⟩ : ∃ q, rdF (trmR tx) (n + 1) s i 0 = q := ⟨_, rfl⟩
    rw [eq]
    simp only [rdF] at eq
    rw [if_neg (by simp)] at eq
    have htx : (trmR tx).text = tx := rfl
    rw [htx] at eq
    refine semT' (S := S0) hm spec_l4Parse_ok (Nat.le_of_ble_eq_true rfl) ?_
    unfold spec_l4Parse; dsimp only
    by_cases h1 : tx.size ≤ i
    · rw [if_pos h1] at eq
      simp [h1]
      exact LeV.ro rfl rfl (by rw [← eq]; simp)
    rw [if_neg h1] at eq
    have hlt : i < tx.size := by omega
    obtain ⟨i1, hi1⟩ : ∃ i1, i + 1 = i1 := ⟨_, rfl⟩
    have w1 : IntKind.i64.wrap ((i : Int) + 1) = (i1 : Int) := by rw [wrap64 (by omega) (by omega)]; omega
    rw [trm_leaf] at eq
    by_cases h2 : bt tx i = 110
    · rw [if_pos (by simpa using h2)] at eq
      have eL : (trmR tx).leaf s (bt tx i) i = nmF tx s i := rfl
      rw [eL] at eq
      unfold nmF at eq
      rw [hi1, numF_nm] at eq
      have hN := spec_l4Name_c tx i1 (by omega) (by omega)
      have h2' : ((byt tx i).toNat : Int) = 110 := h2
      simp [h1, hlt, h2', w1]
      refine WCall_pure rfl hN (by simp) (by simp) (by simp) ?_; simp
      rcases Bool.eq_false_or_eq_true (nmOk tx i1) with nm | nm
      · simp [nm] at eq ⊢
        refine WCall_pure rfl (spec_l2Name_c s (figV 3 (dgRun tx i1)) hp) (by simp) (by simp) (by simp) ?_; simp
        obtain ⟨z, ez⟩ : ∃ z, addF s ⟨1, figV 3 (dgRun tx i1), 0⟩ = z := ⟨_, rfl⟩
        rw [ez] at eq ⊢
        by_cases cz : z.2 < 0
        · simp [cz]
          exact LeV.ro rfl rfl (by rw [← eq]; simp [fullF, cz, addF_neg1 ez cz])
        · simp [cz]
          exact LeV.ro rfl rfl (by rw [← eq]; simp [fullF, cz])
      · simp [nm] at eq ⊢
        exact LeV.ro rfl rfl (by rw [← eq]; simp)
    rw [if_neg (by simpa using h2)] at eq
    have h2' : ¬ ((byt tx i).toNat : Int) = 110 := h2
    have hK := spec_l4Kind_c tx i hlt
    simp [h1, hlt, h2', w1]
    refine WCall_pure rfl hK (by simp) (by simp) (by simp) ?_
    rw [hi1, two_is, trm_one, trm_arg] at eq
    by_cases c40 : bt tx i = 40
    · rw [c40] at eq ⊢
      simp [closeF] at eq
      simp [kd3, w1]
      have ha := ih s i1 hp (by omega) (by omega)
      have hga := (trmK tx).rd_good n (s := s) (i := i1) (c := 0) hp (by rw [htx]; omega) (by rw [htx]; omega)
      obtain ⟨a, ea⟩ : ∃ a, rdF (trmR tx) n s i1 0 = a := ⟨_, rfl⟩
      rw [ea] at ha hga
      refine WCall_pure rfl ha (by simp) (by simp) (by simp) ?_; simp
      by_cases ca : a.2.2.2 = 0
      case neg =>
        simp [ca]
        have eq2 : q = (a.1, -1, a.2.2.1, a.2.2.2) := by
          rw [← eq]
          simp only [Rdr.fin, Rdr.two, htx, ea, takeF_bad ca, rdF_bad n _ _ ca, if_neg ca]
        exact LeV.ro rfl rfl (by rw [eq2]; simp)
      obtain ⟨g1, g2, ⟨g3, g4, g5⟩, g6⟩ := hga ca
      rw [htx] at g2
      have hpa := g5 hp
      simp [ca]
      have hW := spec_l4Want_c tx a.2.2.1 44 (by omega)
      obtain ⟨t, et⟩ : ∃ t, takeF tx a.2.2.1 0 44 = t := ⟨_, rfl⟩
      rw [et] at hW
      refine WCall_pure rfl hW (by simp) (by simp) (by simp) ?_; simp
      by_cases ct : t.2 = 0
      case neg =>
        simp [ct]
        have eq2 : q = (a.1, -1, t.1, t.2) := by
          rw [← eq]
          simp only [Rdr.fin, Rdr.two, htx, ea, ca, et, rdF_bad n _ _ ct, takeF_bad ct, if_neg ct]
        exact LeV.ro rfl rfl (by rw [eq2]; simp)
      obtain ⟨_, t2, t3⟩ := takeF_ok (show (takeF tx a.2.2.1 0 44).2 = 0 by rw [et]; exact ct)
      rw [et] at t3
      simp [ct]
      have hb := ih a.1 t.1 hpa (by omega) (by omega)
      have hgb := (trmK tx).rd_good n (s := a.1) (i := t.1) (c := 0) hpa (by rw [htx]; omega) (by rw [htx]; omega)
      obtain ⟨b, eb⟩ : ∃ b, rdF (trmR tx) n a.1 t.1 0 = b := ⟨_, rfl⟩
      rw [eb] at hb hgb
      refine WCall_pure rfl hb (by simp) (by simp) (by simp) ?_; simp
      by_cases cb : b.2.2.2 = 0
      case neg =>
        simp [cb]
        have eq2 : q = (b.1, -1, b.2.2.1, b.2.2.2) := by
          rw [← eq]
          simp only [Rdr.fin, Rdr.two, htx, ea, ca, et, ct, eb, takeF_bad cb, if_neg cb]
        exact LeV.ro rfl rfl (by rw [eq2]; simp)
      obtain ⟨k1, k2, ⟨k3, k4, k5⟩, k6⟩ := hgb cb
      rw [htx] at k2
      have hpb := k5 hpa
      simp [cb]
      have hU := spec_l4Want_c tx b.2.2.1 41 (by omega)
      obtain ⟨u, eu⟩ : ∃ u, takeF tx b.2.2.1 0 41 = u := ⟨_, rfl⟩
      rw [eu] at hU
      refine WCall_pure rfl hU (by simp) (by simp) (by simp) ?_; simp
      by_cases cu : u.2 = 0
      case neg =>
        simp [cu]
        have eq2 : q = (b.1, -1, u.1, u.2) := by
          rw [← eq]
          simp only [Rdr.fin, Rdr.two, htx, ea, ca, et, ct, eb, cb, eu, if_neg cu]
        exact LeV.ro rfl rfl (by rw [eq2]; simp)
      simp [cu]
      have eq2 : q = ((fullF (addF b.1 ⟨2, a.2.1, b.2.1⟩)).1, (fullF (addF b.1 ⟨2, a.2.1, b.2.1⟩)).2.1, u.1, (fullF (addF b.1 ⟨2, a.2.1, b.2.1⟩)).2.2) := by
        rw [← eq]
        simp only [Rdr.fin, Rdr.two, htx, ea, ca, et, ct, eb, cb, eu, if_pos cu]
        rfl
      clear eq
      have eq := eq2.symm
      refine WCall_pure rfl (spec_l1Add_c b.1 ⟨2, a.2.1, b.2.1⟩ hpb) (by simp) (by simp) (by simp) ?_; simp
      obtain ⟨z, ez⟩ : ∃ z, addF b.1 ⟨2, a.2.1, b.2.1⟩ = z := ⟨_, rfl⟩
      rw [ez] at eq ⊢
      by_cases cz : z.2 < 0
      · simp [cz]
        exact LeV.ro rfl rfl (by rw [← eq]; simp [fullF, cz, addF_neg1 ez cz])
      · simp [cz]
        exact LeV.ro rfl rfl (by rw [← eq]; simp [fullF, cz])
    by_cases c123 : bt tx i = 123
    · rw [c123] at eq ⊢
      simp [closeF] at eq
      simp [kd3, w1]
      have ha := ih s i1 hp (by omega) (by omega)
      have hga := (trmK tx).rd_good n (s := s) (i := i1) (c := 0) hp (by rw [htx]; omega) (by rw [htx]; omega)
      obtain ⟨a, ea⟩ : ∃ a, rdF (trmR tx) n s i1 0 = a := ⟨_, rfl⟩
      rw [ea] at ha hga
      refine WCall_pure rfl ha (by simp) (by simp) (by simp) ?_; simp
      by_cases ca : a.2.2.2 = 0
      case neg =>
        simp [ca]
        have eq2 : q = (a.1, -1, a.2.2.1, a.2.2.2) := by
          rw [← eq]
          simp only [Rdr.fin, Rdr.two, htx, ea, takeF_bad ca, rdF_bad n _ _ ca, if_neg ca]
        exact LeV.ro rfl rfl (by rw [eq2]; simp)
      obtain ⟨g1, g2, ⟨g3, g4, g5⟩, g6⟩ := hga ca
      rw [htx] at g2
      have hpa := g5 hp
      simp [ca]
      have hW := spec_l4Want_c tx a.2.2.1 44 (by omega)
      obtain ⟨t, et⟩ : ∃ t, takeF tx a.2.2.1 0 44 = t := ⟨_, rfl⟩
      rw [et] at hW
      refine WCall_pure rfl hW (by simp) (by simp) (by simp) ?_; simp
      by_cases ct : t.2 = 0
      case neg =>
        simp [ct]
        have eq2 : q = (a.1, -1, t.1, t.2) := by
          rw [← eq]
          simp only [Rdr.fin, Rdr.two, htx, ea, ca, et, rdF_bad n _ _ ct, takeF_bad ct, if_neg ct]
        exact LeV.ro rfl rfl (by rw [eq2]; simp)
      obtain ⟨_, t2, t3⟩ := takeF_ok (show (takeF tx a.2.2.1 0 44).2 = 0 by rw [et]; exact ct)
      rw [et] at t3
      simp [ct]
      have hb := ih a.1 t.1 hpa (by omega) (by omega)
      have hgb := (trmK tx).rd_good n (s := a.1) (i := t.1) (c := 0) hpa (by rw [htx]; omega) (by rw [htx]; omega)
      obtain ⟨b, eb⟩ : ∃ b, rdF (trmR tx) n a.1 t.1 0 = b := ⟨_, rfl⟩
      rw [eb] at hb hgb
      refine WCall_pure rfl hb (by simp) (by simp) (by simp) ?_; simp
      by_cases cb : b.2.2.2 = 0
      case neg =>
        simp [cb]
        have eq2 : q = (b.1, -1, b.2.2.1, b.2.2.2) := by
          rw [← eq]
          simp only [Rdr.fin, Rdr.two, htx, ea, ca, et, ct, eb, takeF_bad cb, if_neg cb]
        exact LeV.ro rfl rfl (by rw [eq2]; simp)
      obtain ⟨k1, k2, ⟨k3, k4, k5⟩, k6⟩ := hgb cb
      rw [htx] at k2
      have hpb := k5 hpa
      simp [cb]
      have hU := spec_l4Want_c tx b.2.2.1 125 (by omega)
      obtain ⟨u, eu⟩ : ∃ u, takeF tx b.2.2.1 0 125 = u := ⟨_, rfl⟩
      rw [eu] at hU
      refine WCall_pure rfl hU (by simp) (by simp) (by simp) ?_; simp
      by_cases cu : u.2 = 0
      case neg =>
        simp [cu]
        have eq2 : q = (b.1, -1, u.1, u.2) := by
          rw [← eq]
          simp only [Rdr.fin, Rdr.two, htx, ea, ca, et, ct, eb, cb, eu, if_neg cu]
        exact LeV.ro rfl rfl (by rw [eq2]; simp)
      simp [cu]
      have eq2 : q = ((fullF (addF b.1 ⟨3, a.2.1, b.2.1⟩)).1, (fullF (addF b.1 ⟨3, a.2.1, b.2.1⟩)).2.1, u.1, (fullF (addF b.1 ⟨3, a.2.1, b.2.1⟩)).2.2) := by
        rw [← eq]
        simp only [Rdr.fin, Rdr.two, htx, ea, ca, et, ct, eb, cb, eu, if_pos cu]
        rfl
      clear eq
      have eq := eq2.symm
      refine WCall_pure rfl (spec_l1Add_c b.1 ⟨3, a.2.1, b.2.1⟩ hpb) (by simp) (by simp) (by simp) ?_; simp
      obtain ⟨z, ez⟩ : ∃ z, addF b.1 ⟨3, a.2.1, b.2.1⟩ = z := ⟨_, rfl⟩
      rw [ez] at eq ⊢
      by_cases cz : z.2 < 0
      · simp [cz]
        exact LeV.ro rfl rfl (by rw [← eq]; simp [fullF, cz, addF_neg1 ez cz])
      · simp [cz]
        exact LeV.ro rfl rfl (by rw [← eq]; simp [fullF, cz])
    by_cases c91 : bt tx i = 91
    · rw [c91] at eq ⊢
      simp [closeF] at eq
      simp [kd3, w1]
      have ha := ih s i1 hp (by omega) (by omega)
      have hga := (trmK tx).rd_good n (s := s) (i := i1) (c := 0) hp (by rw [htx]; omega) (by rw [htx]; omega)
      obtain ⟨a, ea⟩ : ∃ a, rdF (trmR tx) n s i1 0 = a := ⟨_, rfl⟩
      rw [ea] at ha hga
      refine WCall_pure rfl ha (by simp) (by simp) (by simp) ?_; simp
      by_cases ca : a.2.2.2 = 0
      case neg =>
        simp [ca]
        have eq2 : q = (a.1, -1, a.2.2.1, a.2.2.2) := by
          rw [← eq]
          simp only [Rdr.fin, Rdr.two, htx, ea, takeF_bad ca, rdF_bad n _ _ ca, if_neg ca]
        exact LeV.ro rfl rfl (by rw [eq2]; simp)
      obtain ⟨g1, g2, ⟨g3, g4, g5⟩, g6⟩ := hga ca
      rw [htx] at g2
      have hpa := g5 hp
      simp [ca]
      have hW := spec_l4Want_c tx a.2.2.1 44 (by omega)
      obtain ⟨t, et⟩ : ∃ t, takeF tx a.2.2.1 0 44 = t := ⟨_, rfl⟩
      rw [et] at hW
      refine WCall_pure rfl hW (by simp) (by simp) (by simp) ?_; simp
      by_cases ct : t.2 = 0
      case neg =>
        simp [ct]
        have eq2 : q = (a.1, -1, t.1, t.2) := by
          rw [← eq]
          simp only [Rdr.fin, Rdr.two, htx, ea, ca, et, rdF_bad n _ _ ct, takeF_bad ct, if_neg ct]
        exact LeV.ro rfl rfl (by rw [eq2]; simp)
      obtain ⟨_, t2, t3⟩ := takeF_ok (show (takeF tx a.2.2.1 0 44).2 = 0 by rw [et]; exact ct)
      rw [et] at t3
      simp [ct]
      have hb := ih a.1 t.1 hpa (by omega) (by omega)
      have hgb := (trmK tx).rd_good n (s := a.1) (i := t.1) (c := 0) hpa (by rw [htx]; omega) (by rw [htx]; omega)
      obtain ⟨b, eb⟩ : ∃ b, rdF (trmR tx) n a.1 t.1 0 = b := ⟨_, rfl⟩
      rw [eb] at hb hgb
      refine WCall_pure rfl hb (by simp) (by simp) (by simp) ?_; simp
      by_cases cb : b.2.2.2 = 0
      case neg =>
        simp [cb]
        have eq2 : q = (b.1, -1, b.2.2.1, b.2.2.2) := by
          rw [← eq]
          simp only [Rdr.fin, Rdr.two, htx, ea, ca, et, ct, eb, takeF_bad cb, if_neg cb]
        exact LeV.ro rfl rfl (by rw [eq2]; simp)
      obtain ⟨k1, k2, ⟨k3, k4, k5⟩, k6⟩ := hgb cb
      rw [htx] at k2
      have hpb := k5 hpa
      simp [cb]
      have hU := spec_l4Want_c tx b.2.2.1 93 (by omega)
      obtain ⟨u, eu⟩ : ∃ u, takeF tx b.2.2.1 0 93 = u := ⟨_, rfl⟩
      rw [eu] at hU
      refine WCall_pure rfl hU (by simp) (by simp) (by simp) ?_; simp
      by_cases cu : u.2 = 0
      case neg =>
        simp [cu]
        have eq2 : q = (b.1, -1, u.1, u.2) := by
          rw [← eq]
          simp only [Rdr.fin, Rdr.two, htx, ea, ca, et, ct, eb, cb, eu, if_neg cu]
        exact LeV.ro rfl rfl (by rw [eq2]; simp)
      simp [cu]
      have eq2 : q = ((fullF (addF b.1 ⟨4, a.2.1, b.2.1⟩)).1, (fullF (addF b.1 ⟨4, a.2.1, b.2.1⟩)).2.1, u.1, (fullF (addF b.1 ⟨4, a.2.1, b.2.1⟩)).2.2) := by
        rw [← eq]
        simp only [Rdr.fin, Rdr.two, htx, ea, ca, et, ct, eb, cb, eu, if_pos cu]
        rfl
      clear eq
      have eq := eq2.symm
      refine WCall_pure rfl (spec_l1Add_c b.1 ⟨4, a.2.1, b.2.1⟩ hpb) (by simp) (by simp) (by simp) ?_; simp
      obtain ⟨z, ez⟩ : ∃ z, addF b.1 ⟨4, a.2.1, b.2.1⟩ = z := ⟨_, rfl⟩
      rw [ez] at eq ⊢
      by_cases cz : z.2 < 0
      · simp [cz]
        exact LeV.ro rfl rfl (by rw [← eq]; simp [fullF, cz, addF_neg1 ez cz])
      · simp [cz]
        exact LeV.ro rfl rfl (by rw [← eq]; simp [fullF, cz])
    rw [if_neg (by simp [c40, c123, c91])] at eq
    by_cases c35 : bt tx i = 35
    · rw [c35] at eq ⊢
      simp at eq
      simp [kd3, w1]
      have ha := ih s i1 hp (by omega) (by omega)
      have hga := (trmK tx).rd_good n (s := s) (i := i1) (c := 0) hp (by rw [htx]; omega) (by rw [htx]; omega)
      obtain ⟨a, ea⟩ : ∃ a, rdF (trmR tx) n s i1 0 = a := ⟨_, rfl⟩
      rw [ea] at ha hga
      refine WCall_pure rfl ha (by simp) (by simp) (by simp) ?_; simp
      by_cases ca : a.2.2.2 = 0
      case neg =>
        simp [ca]
        have eq2 : q = (a.1, -1, a.2.2.1, a.2.2.2) := by
          rw [← eq]
          simp only [Rdr.fin, oneF, ea, if_neg ca]
        exact LeV.ro rfl rfl (by rw [eq2]; simp)
      obtain ⟨g1, g2, ⟨g3, g4, g5⟩, g6⟩ := hga ca
      have hpa := g5 hp
      simp [ca]
      have eq2 : q = ((fullF (addF a.1 ⟨5, a.2.1, 0⟩)).1, (fullF (addF a.1 ⟨5, a.2.1, 0⟩)).2.1, a.2.2.1, (fullF (addF a.1 ⟨5, a.2.1, 0⟩)).2.2) := by
        rw [← eq]
        simp only [Rdr.fin, oneF, ea, if_pos ca]
        rfl
      clear eq
      have eq := eq2.symm
      refine WCall_pure rfl (spec_l1Add_c a.1 ⟨5, a.2.1, 0⟩ hpa) (by simp) (by simp) (by simp) ?_; simp
      obtain ⟨z, ez⟩ : ∃ z, addF a.1 ⟨5, a.2.1, 0⟩ = z := ⟨_, rfl⟩
      rw [ez] at eq ⊢
      by_cases cz : z.2 < 0
      · simp [cz]
        exact LeV.ro rfl rfl (by rw [← eq]; simp [fullF, cz, addF_neg1 ez cz])
      · simp [cz]
        exact LeV.ro rfl rfl (by rw [← eq]; simp [fullF, cz])
    by_cases c94 : bt tx i = 94
    · rw [c94] at eq ⊢
      simp at eq
      simp [kd3, w1]
      have ha := ih s i1 hp (by omega) (by omega)
      have hga := (trmK tx).rd_good n (s := s) (i := i1) (c := 0) hp (by rw [htx]; omega) (by rw [htx]; omega)
      obtain ⟨a, ea⟩ : ∃ a, rdF (trmR tx) n s i1 0 = a := ⟨_, rfl⟩
      rw [ea] at ha hga
      refine WCall_pure rfl ha (by simp) (by simp) (by simp) ?_; simp
      by_cases ca : a.2.2.2 = 0
      case neg =>
        simp [ca]
        have eq2 : q = (a.1, -1, a.2.2.1, a.2.2.2) := by
          rw [← eq]
          simp only [Rdr.fin, oneF, ea, if_neg ca]
        exact LeV.ro rfl rfl (by rw [eq2]; simp)
      obtain ⟨g1, g2, ⟨g3, g4, g5⟩, g6⟩ := hga ca
      have hpa := g5 hp
      simp [ca]
      have eq2 : q = ((fullF (addF a.1 ⟨7, a.2.1, 0⟩)).1, (fullF (addF a.1 ⟨7, a.2.1, 0⟩)).2.1, a.2.2.1, (fullF (addF a.1 ⟨7, a.2.1, 0⟩)).2.2) := by
        rw [← eq]
        simp only [Rdr.fin, oneF, ea, if_pos ca]
        rfl
      clear eq
      have eq := eq2.symm
      refine WCall_pure rfl (spec_l1Add_c a.1 ⟨7, a.2.1, 0⟩ hpa) (by simp) (by simp) (by simp) ?_; simp
      obtain ⟨z, ez⟩ : ∃ z, addF a.1 ⟨7, a.2.1, 0⟩ = z := ⟨_, rfl⟩
      rw [ez] at eq ⊢
      by_cases cz : z.2 < 0
      · simp [cz]
        exact LeV.ro rfl rfl (by rw [← eq]; simp [fullF, cz, addF_neg1 ez cz])
      · simp [cz]
        exact LeV.ro rfl rfl (by rw [← eq]; simp [fullF, cz])
    rw [if_neg (by simp [c35, c94])] at eq
    by_cases c107 : bt tx i = 107
    · rw [c107] at eq ⊢
      simp at eq
      simp [kd3, w1]
      have hO := spec_l4Want_c tx i1 40 (by omega)
      obtain ⟨o, eo⟩ : ∃ o, takeF tx i1 0 40 = o := ⟨_, rfl⟩
      rw [eo] at hO eq
      refine WCall_pure rfl hO (by simp) (by simp) (by simp) ?_; simp
      by_cases co : o.2 = 0
      case neg =>
        simp [co]
        have eq2 : q = (s, -1, o.1, o.2) := by
          rw [← eq]
          simp only [Rdr.fin, Rdr.two, htx, rdF_bad n _ _ co, takeF_bad co, if_neg co]
        exact LeV.ro rfl rfl (by rw [eq2]; simp)
      obtain ⟨_, o2, o3⟩ := takeF_ok (show (takeF tx i1 0 40).2 = 0 by rw [eo]; exact co)
      rw [eo] at o3
      rw [co] at eq
      simp [co]
      have ha := ih s o.1 hp (by omega) (by omega)
      have hga := (trmK tx).rd_good n (s := s) (i := o.1) (c := 0) hp (by rw [htx]; omega) (by rw [htx]; omega)
      obtain ⟨a, ea⟩ : ∃ a, rdF (trmR tx) n s o.1 0 = a := ⟨_, rfl⟩
      rw [ea] at ha hga
      refine WCall_pure rfl ha (by simp) (by simp) (by simp) ?_; simp
      by_cases ca : a.2.2.2 = 0
      case neg =>
        simp [ca]
        have eq2 : q = (a.1, -1, a.2.2.1, a.2.2.2) := by
          rw [← eq]
          simp only [Rdr.fin, Rdr.two, htx, ea, takeF_bad ca, rdF_bad n _ _ ca, if_neg ca]
        exact LeV.ro rfl rfl (by rw [eq2]; simp)
      obtain ⟨g1, g2, ⟨g3, g4, g5⟩, g6⟩ := hga ca
      rw [htx] at g2
      have hpa := g5 hp
      simp [ca]
      have hW := spec_l4Want_c tx a.2.2.1 44 (by omega)
      obtain ⟨t, et⟩ : ∃ t, takeF tx a.2.2.1 0 44 = t := ⟨_, rfl⟩
      rw [et] at hW
      refine WCall_pure rfl hW (by simp) (by simp) (by simp) ?_; simp
      by_cases ct : t.2 = 0
      case neg =>
        simp [ct]
        have eq2 : q = (a.1, -1, t.1, t.2) := by
          rw [← eq]
          simp only [Rdr.fin, Rdr.two, htx, ea, ca, et, rdF_bad n _ _ ct, takeF_bad ct, if_neg ct]
        exact LeV.ro rfl rfl (by rw [eq2]; simp)
      obtain ⟨_, t2, t3⟩ := takeF_ok (show (takeF tx a.2.2.1 0 44).2 = 0 by rw [et]; exact ct)
      rw [et] at t3
      simp [ct]
      have hb := ih a.1 t.1 hpa (by omega) (by omega)
      have hgb := (trmK tx).rd_good n (s := a.1) (i := t.1) (c := 0) hpa (by rw [htx]; omega) (by rw [htx]; omega)
      obtain ⟨b, eb⟩ : ∃ b, rdF (trmR tx) n a.1 t.1 0 = b := ⟨_, rfl⟩
      rw [eb] at hb hgb
      refine WCall_pure rfl hb (by simp) (by simp) (by simp) ?_; simp
      by_cases cb : b.2.2.2 = 0
      case neg =>
        simp [cb]
        have eq2 : q = (b.1, -1, b.2.2.1, b.2.2.2) := by
          rw [← eq]
          simp only [Rdr.fin, Rdr.two, htx, ea, ca, et, ct, eb, takeF_bad cb, if_neg cb]
        exact LeV.ro rfl rfl (by rw [eq2]; simp)
      obtain ⟨k1, k2, ⟨k3, k4, k5⟩, k6⟩ := hgb cb
      rw [htx] at k2
      have hpb := k5 hpa
      simp [cb]
      have hU := spec_l4Want_c tx b.2.2.1 41 (by omega)
      obtain ⟨u, eu⟩ : ∃ u, takeF tx b.2.2.1 0 41 = u := ⟨_, rfl⟩
      rw [eu] at hU
      refine WCall_pure rfl hU (by simp) (by simp) (by simp) ?_; simp
      by_cases cu : u.2 = 0
      case neg =>
        simp [cu]
        have eq2 : q = (b.1, -1, u.1, u.2) := by
          rw [← eq]
          simp only [Rdr.fin, Rdr.two, htx, ea, ca, et, ct, eb, cb, eu, if_neg cu]
        exact LeV.ro rfl rfl (by rw [eq2]; simp)
      simp [cu]
      have eq2 : q = ((fullF (addF b.1 ⟨6, a.2.1, b.2.1⟩)).1, (fullF (addF b.1 ⟨6, a.2.1, b.2.1⟩)).2.1, u.1, (fullF (addF b.1 ⟨6, a.2.1, b.2.1⟩)).2.2) := by
        rw [← eq]
        simp only [Rdr.fin, Rdr.two, htx, ea, ca, et, ct, eb, cb, eu, if_pos cu]
        rfl
      clear eq
      have eq := eq2.symm
      refine WCall_pure rfl (spec_l1Add_c b.1 ⟨6, a.2.1, b.2.1⟩ hpb) (by simp) (by simp) (by simp) ?_; simp
      obtain ⟨z, ez⟩ : ∃ z, addF b.1 ⟨6, a.2.1, b.2.1⟩ = z := ⟨_, rfl⟩
      rw [ez] at eq ⊢
      by_cases cz : z.2 < 0
      · simp [cz]
        exact LeV.ro rfl rfl (by rw [← eq]; simp [fullF, cz, addF_neg1 ez cz])
      · simp [cz]
        exact LeV.ro rfl rfl (by rw [← eq]; simp [fullF, cz])
    by_cases c42 : bt tx i = 42
    · rw [c42] at eq ⊢
      simp at eq
      simp [kd3, w1]
      have hO := spec_l4Want_c tx i1 40 (by omega)
      obtain ⟨o, eo⟩ : ∃ o, takeF tx i1 0 40 = o := ⟨_, rfl⟩
      rw [eo] at hO eq
      refine WCall_pure rfl hO (by simp) (by simp) (by simp) ?_; simp
      by_cases co : o.2 = 0
      case neg =>
        simp [co]
        have eq2 : q = (s, -1, o.1, o.2) := by
          rw [← eq]
          simp only [Rdr.fin, Rdr.two, htx, rdF_bad n _ _ co, takeF_bad co, if_neg co]
        exact LeV.ro rfl rfl (by rw [eq2]; simp)
      obtain ⟨_, o2, o3⟩ := takeF_ok (show (takeF tx i1 0 40).2 = 0 by rw [eo]; exact co)
      rw [eo] at o3
      rw [co] at eq
      simp [co]
      have ha := ih s o.1 hp (by omega) (by omega)
      have hga := (trmK tx).rd_good n (s := s) (i := o.1) (c := 0) hp (by rw [htx]; omega) (by rw [htx]; omega)
      obtain ⟨a, ea⟩ : ∃ a, rdF (trmR tx) n s o.1 0 = a := ⟨_, rfl⟩
      rw [ea] at ha hga
      refine WCall_pure rfl ha (by simp) (by simp) (by simp) ?_; simp
      by_cases ca : a.2.2.2 = 0
      case neg =>
        simp [ca]
        have eq2 : q = (a.1, -1, a.2.2.1, a.2.2.2) := by
          rw [← eq]
          simp only [Rdr.fin, Rdr.two, htx, ea, takeF_bad ca, rdF_bad n _ _ ca, if_neg ca]
        exact LeV.ro rfl rfl (by rw [eq2]; simp)
      obtain ⟨g1, g2, ⟨g3, g4, g5⟩, g6⟩ := hga ca
      rw [htx] at g2
      have hpa := g5 hp
      simp [ca]
      have hW := spec_l4Want_c tx a.2.2.1 44 (by omega)
      obtain ⟨t, et⟩ : ∃ t, takeF tx a.2.2.1 0 44 = t := ⟨_, rfl⟩
      rw [et] at hW
      refine WCall_pure rfl hW (by simp) (by simp) (by simp) ?_; simp
      by_cases ct : t.2 = 0
      case neg =>
        simp [ct]
        have eq2 : q = (a.1, -1, t.1, t.2) := by
          rw [← eq]
          simp only [Rdr.fin, Rdr.two, htx, ea, ca, et, rdF_bad n _ _ ct, takeF_bad ct, if_neg ct]
        exact LeV.ro rfl rfl (by rw [eq2]; simp)
      obtain ⟨_, t2, t3⟩ := takeF_ok (show (takeF tx a.2.2.1 0 44).2 = 0 by rw [et]; exact ct)
      rw [et] at t3
      simp [ct]
      have hb := ih a.1 t.1 hpa (by omega) (by omega)
      have hgb := (trmK tx).rd_good n (s := a.1) (i := t.1) (c := 0) hpa (by rw [htx]; omega) (by rw [htx]; omega)
      obtain ⟨b, eb⟩ : ∃ b, rdF (trmR tx) n a.1 t.1 0 = b := ⟨_, rfl⟩
      rw [eb] at hb hgb
      refine WCall_pure rfl hb (by simp) (by simp) (by simp) ?_; simp
      by_cases cb : b.2.2.2 = 0
      case neg =>
        simp [cb]
        have eq2 : q = (b.1, -1, b.2.2.1, b.2.2.2) := by
          rw [← eq]
          simp only [Rdr.fin, Rdr.two, htx, ea, ca, et, ct, eb, takeF_bad cb, if_neg cb]
        exact LeV.ro rfl rfl (by rw [eq2]; simp)
      obtain ⟨k1, k2, ⟨k3, k4, k5⟩, k6⟩ := hgb cb
      rw [htx] at k2
      have hpb := k5 hpa
      simp [cb]
      have hU := spec_l4Want_c tx b.2.2.1 41 (by omega)
      obtain ⟨u, eu⟩ : ∃ u, takeF tx b.2.2.1 0 41 = u := ⟨_, rfl⟩
      rw [eu] at hU
      refine WCall_pure rfl hU (by simp) (by simp) (by simp) ?_; simp
      by_cases cu : u.2 = 0
      case neg =>
        simp [cu]
        have eq2 : q = (b.1, -1, u.1, u.2) := by
          rw [← eq]
          simp only [Rdr.fin, Rdr.two, htx, ea, ca, et, ct, eb, cb, eu, if_neg cu]
        exact LeV.ro rfl rfl (by rw [eq2]; simp)
      simp [cu]
      have eq2 : q = ((fullF (addF b.1 ⟨8, a.2.1, b.2.1⟩)).1, (fullF (addF b.1 ⟨8, a.2.1, b.2.1⟩)).2.1, u.1, (fullF (addF b.1 ⟨8, a.2.1, b.2.1⟩)).2.2) := by
        rw [← eq]
        simp only [Rdr.fin, Rdr.two, htx, ea, ca, et, ct, eb, cb, eu, if_pos cu]
        rfl
      clear eq
      have eq := eq2.symm
      refine WCall_pure rfl (spec_l1Add_c b.1 ⟨8, a.2.1, b.2.1⟩ hpb) (by simp) (by simp) (by simp) ?_; simp
      obtain ⟨z, ez⟩ : ∃ z, addF b.1 ⟨8, a.2.1, b.2.1⟩ = z := ⟨_, rfl⟩
      rw [ez] at eq ⊢
      by_cases cz : z.2 < 0
      · simp [cz]
        exact LeV.ro rfl rfl (by rw [← eq]; simp [fullF, cz, addF_neg1 ez cz])
      · simp [cz]
        exact LeV.ro rfl rfl (by rw [← eq]; simp [fullF, cz])
    rw [if_neg (by simp [c107, c42])] at eq
    have hk0 : kd3 (bt tx i) = (0, 0, 0) := by simp [kd3, c40, c123, c91, c35, c94, c107, c42]
    rw [hk0]
    simp
    exact LeV.ro rfl rfl (by rw [← eq]; simp)
end Go.Proofs.YtoegiepfcdkjaaaDoor.C

set_option linter.unusedVariables false
set_option linter.unusedSimpArgs false
set_option maxRecDepth 4000
namespace Go.Proofs.YtoegiepfcdkjaaaDoor.C
open Go.Sym Go.Proofs.YtoegiepfcdkjaaaDoor.I
/-- Where a reader stands behind a term that may not be: place, what is wrong. -/
def fullR (t i c : Int) : Int × Int := if t < 0 then failF i c 5 i else (i, c)
theorem impl_reader_orFull_m (H : List Blk) (b : Nat) (tx mo : ByteArray) (lf jn : A) (i c t : Int) (hk : H[b]? = some (rrow tx mo lf jn i c)) : T 29 [rptr b, i6 t] (H) (i6 (if t < 0 then -1 else t)) (H.set b (rrow tx mo lf jn (fullR t i c).1 (fullR t i c).2)) := by
  refine semT' (S := (fun f => [62].contains f)) hm impl_reader_orFull_ok (Nat.le_of_ble_eq_true rfl) ?_
  unfold impl_reader_orFull; dsimp only
  simp [hk]
  refine br_intro' (fun u => ?_) (fun u => ?_) <;> (have u0 := u) <;> simp only [decide_eq_true_eq, decide_eq_false_iff_not] at u <;> simp [u0, hk]
  · refine row_call (b := b) rfl (impl_reader_fail_m H b tx mo lf jn i c 5 i hk) ?_; simp
    rw [if_pos u, show fullR t i c = failF i c 5 i from if_pos u]
    exact LeV.refl _ _ _
  · rw [if_neg u, show fullR t i c = (i, c) from if_neg u, rset_same hk]
    exact LeV.refl _ _ _
theorem fullF_eq {s : List Nd} {n : Nd} (i : Int) : (fullF (addF s n)).1 = (addF s n).1 ∧ (fullF (addF s n)).2.1 = (if (addF s n).2 < 0 then -1 else (addF s n).2) ∧ fullR (addF s n).2 i 0 = (i, (fullF (addF s n)).2.2) := by
  unfold fullF fullR failF
  split <;> simp
theorem impl_reader_added_m (H : List Blk) (b off nb vb eb : Nat) (cb : List A) (ns : List Nd) (rb lb : Nat) (tx mo : ByteArray) (lf jn : A) (i : Int) (sg : Int) (ts : List Int) (h : PIn H b off nb cb) (hl : ns.length ≤ 500) (hr : H[rb]? = some (rrow tx mo lf jn i 0)) (h1 : rb ≠ b) (h2 : rb ≠ nb) (hL : H[lb]? = some ⟨0, false, 1, ints ts, none⟩) (h3 : lb ≠ b) (h4 : lb ≠ nb) (h5 : lb ≠ rb) (hts : ts.length = 1 ∨ ts.length = 2) : T 32 [rptr rb, .ptr b vb off, .int .u8 sg, .ref lb 0 0 ts.length] (pset H b off nb vb eb cb ns) (i6 (jnF ns sg ts).2.1) ((pset H b off nb vb eb cb (jnF ns sg ts).1).set rb (rrow tx mo lf jn i (jnF ns sg ts).2.2)) := by
  refine semT' (S := (fun f => [63, 29].contains f)) hm impl_reader_added_ok (Nat.le_of_ble_eq_true rfl) ?_
  unfold impl_reader_added; dsimp only
  have gL : ∀ ns, (pset H b off nb vb eb cb ns)[lb]? = _ := fun ns => (pset_other vb eb ns h3 h4).trans hL
  have gR : ∀ ns, (pset H b off nb vb eb cb ns)[rb]? = _ := fun ns => (pset_other vb eb ns h1 h2).trans hr
  have fin : ∀ y : Int, y = ts.getD 1 0 → ∀ x : Int, x = ts.getD 0 0 → T 63 [.ptr b vb off, i6 (kindF sg), i6 x, i6 y] (pset H b off nb vb eb cb ns) (i6 (addF ns ⟨kindF sg, ts.getD 0 0, ts.getD 1 0⟩).2) (pset H b off nb vb eb cb (addF ns ⟨kindF sg, ts.getD 0 0, ts.getD 1 0⟩).1) := by
    rintro _ rfl _ rfl
    exact impl_Pool_add_m H b off nb vb eb cb ns (kindF sg) _ _ h hl
  obtain ⟨e1, e2, e3⟩ := fullF_eq (s := ns) (n := ⟨kindF sg, ts.getD 0 0, ts.getD 1 0⟩) i
  unfold jnF
  rw [e1, e2]
  rcases hts with hts | hts
  · obtain ⟨x, rfl⟩ : ∃ x, ts = [x] := by
      match ts, hts with
      | [x], _ => exact ⟨x, rfl⟩
    simp [gL, ints]
    refine impl_kindOf_call (x := sg) rfl ?_; simp [gL, ints]
    refine pool_call rfl b off nb vb eb cb ns (addF ns ⟨kindF sg, x, 0⟩).1 (h.pset vb eb ns) (pset_pset h vb eb ns ns) (by rw [pset_pset h, pset_pset h]; exact fin 0 rfl x rfl) ?_
    simp [pset_pset h, gR]
    refine row_call (b := rb) rfl (impl_reader_orFull_m _ rb tx mo lf jn i 0 (addF ns ⟨kindF sg, x, 0⟩).2 (gR _)) ?_; simp
    refine ck_intro' (regOk_ren (fun n => if n = lb then 0 else 1) (by simp [h3.symm, h4.symm, h5.symm]; kernel_rfl)) ?_; simp
    simp only [List.getD_cons_zero, List.getD_cons_succ, List.getD_nil] at e3 ⊢
    rw [e3]
    exact LeV.refl _ _ _
  · obtain ⟨x, y, rfl⟩ : ∃ x y, ts = [x, y] := by
      match ts, hts with
      | [x, y], _ => exact ⟨x, y, rfl⟩
    simp [gL, ints]
    refine impl_kindOf_call (x := sg) rfl ?_; simp [gL, ints]
    refine pool_call rfl b off nb vb eb cb ns (addF ns ⟨kindF sg, x, y⟩).1 (h.pset vb eb ns) (pset_pset h vb eb ns ns) (by rw [pset_pset h, pset_pset h]; exact fin y rfl x rfl) ?_
    simp [pset_pset h, gR]
    refine row_call (b := rb) rfl (impl_reader_orFull_m _ rb tx mo lf jn i 0 (addF ns ⟨kindF sg, x, y⟩).2 (gR _)) ?_; simp
    refine ck_intro' (regOk_ren (fun n => if n = lb then 0 else 1) (by simp [h3.symm, h4.symm, h5.symm]; kernel_rfl)) ?_; simp
    simp only [List.getD_cons_zero, List.getD_cons_succ, List.getD_nil] at e3 ⊢
    rw [e3]
    exact LeV.refl _ _ _
abbrev tHs (ns : List Nd) (tx : ByteArray) (s : List Nd) (i c : Int) : List Blk :=
  [⟨0, false, 1, [.sl ns.length (enc ns)], none⟩, ⟨0, false, 1, [.nil], none⟩, pblk s, ⟨0, false, 1, [pref 2 s], none⟩, rrow tx ⟨#[]⟩ (.fn 27 [.ptr 3 0 0]) (.fn 31 [.ptr 3 0 0]) i c]
theorem tHs_cl (ns : List Nd) (tx : ByteArray) (s : List Nd) (i c : Int) : Closed1 5 (tHs ns tx s i c) = true := by simp
theorem tLeaf_t (ns : List Nd) (tx : ByteArray) (hs : tx.size ≤ 1000000) (s : List Nd) (hp : poolF s = true) (i : Nat) (b : Int) (hi : i < tx.size) :
    T 27 [rptr 4, .int .u8 b, .ptr 3 0 0] (tHs ns tx s i 0) (i6 (nmF tx s i).2.1) (tHs ns tx (nmF tx s i).1 (nmF tx s i).2.2.1 (nmF tx s i).2.2.2) := by
  have hw : IntKind.i64.wrap ((i : Int) + 1) = ((i + 1 : Nat) : Int) := by rw [wrap_succ (n := i) (by omega)]; rfl
  have hN := impl_reader_number_m (tHs ns tx s ((i + 1 : Nat) : Int) 0) 4 tx _ _ _ (i + 1) i rfl (by omega) (by omega)
  have hpl := poolF_len hp
  have nm : ∀ (x i c : Int), T 30 [.ptr 3 0 0, i6 x] (tHs ns tx s i c) (i6 (addF s ⟨1, x, 0⟩).2) (tHs ns tx (addF s ⟨1, x, 0⟩).1 i c) := fun x i c =>
    impl_Pool_name_m (tHs ns tx s i c) 3 0 2 0 1 [pref 2 s] s x ⟨by simp, by simp, by simp, by simp, by simp, by simp, ⟨[], by simp⟩⟩ hpl
  have of : ∀ (s' : List Nd) (t i : Int), T 29 [rptr 4, i6 t] (tHs ns tx s' i 0) (i6 (if t < 0 then -1 else t)) (tHs ns tx s' (fullR t i 0).1 (fullR t i 0).2) := fun s' t i =>
    impl_reader_orFull_m (tHs ns tx s' i 0) 4 tx _ _ _ i 0 t rfl
  refine semT' (S := fun _ => true) hm impl_TermParse_1_ok (Nat.le_of_ble_eq_true rfl) ?_
  unfold impl_TermParse_1; dsimp only
  simp
  rw [hw]
  refine all_call rfl hN (by simp) ?_; simp
  unfold nmF
  by_cases hc : (numF tx (i + 1) i).2.2 = 0
  · obtain ⟨g1, _, _, g4⟩ := numF_ok hc
    obtain ⟨e1, e2, e3⟩ := fullF_eq (s := s) (n := ⟨1, (numF tx (i + 1) i).1, 0⟩) (dEnd tx (i + 1))
    simp [hc]
    refine all_call rfl (nm _ _ _) (by simp) ?_; simp
    rw [show (numF tx (i + 1) i).2.1 = (dEnd tx (i + 1) : Int) by rw [g4]]
    refine all_call rfl (of _ _ _) (by simp) ?_; simp
    rw [e3, if_pos hc]
    dsimp only
    rw [e1, e2]
    exact LeV.refl _ _ _
  · have e : numF tx (i + 1) i = (-1, (i : Int), 4) := by
      unfold numF at hc ⊢
      split
      · rename_i g; rw [if_pos g] at hc; simp at hc
      · rfl
    simp [hc]
    rw [e]
    exact LeV.refl _ _ _
theorem tJoin_t (ns : List Nd) (tx : ByteArray) (s : List Nd) (hp : poolF s = true) (i b : Int) (ts : List Int) (hts : ts.length = 1 ∨ ts.length = 2) :
    ∃ G, 6 ≤ G.length ∧ T 31 [rptr 4, .int .u8 b, .ref 5 0 0 ts.length, .ptr 3 0 0] (tHs ns tx s i 0 ++ [⟨0, false, 1, ints ts, none⟩]) (i6 (jnF s b ts).2.1) G ∧
      LeV 5 (i6 (jnF s b ts).2.1) G (i6 (jnF s b ts).2.1) (tHs ns tx (jnF s b ts).1 i (jnF s b ts).2.2) := by
  have hpl := poolF_len hp
  have hA := impl_reader_added_m (tHs ns tx s i 0 ++ [⟨0, false, 1, ints ts, none⟩]) 3 0 2 0 1 [pref 2 s] s 4 5 tx _ _ _ i b ts ⟨by simp, by simp, by simp, by simp, by simp [inAs_scals _ (ints_scals _)], by simp, ⟨[], by simp⟩⟩ hpl rfl (by decide) (by decide) rfl (by decide) (by decide) (by decide) hts
  refine ⟨tHs ns tx (jnF s b ts).1 i (jnF s b ts).2.2 ++ [⟨0, false, 1, ints ts, none⟩], by simp, ?_, LeV.drop (by simp) (tHs_cl _ _ _ _ _) (by simp)⟩
  refine semT' (S := fun _ => true) hm impl_TermParse_2_ok (Nat.le_of_ble_eq_true rfl) ?_
  unfold impl_TermParse_2; dsimp only
  simp
  refine all_call rfl hA (by simp) ?_; simp
  exact LeV.refl _ _ _
/-- The reader of a term, in the program. -/
def trmZ (ns : List Nd) (tx : ByteArray) (hs : tx.size ≤ 1000000) : RdrRun (trmK tx) where
  Hs s i c := tHs ns tx s i c
  b := 4
  L := 5
  lf := 27
  jn := 31
  lc := [.ptr 3 0 0]
  jc := [.ptr 3 0 0]
  size := by show tx.size ≤ _; omega
  msize := by show ByteArray.size ⟨#[]⟩ ≤ _; decide
  get _ _ _ := rfl
  set _ _ _ _ _ := rfl
  len _ _ _ := rfl
  cl s i c := tHs_cl ns tx s i c
  el := by kernel_rfl
  ej := by kernel_rfl
  leaf {s i} hW hi _ := tLeaf_t ns tx hs s hW i _ hi
  join {s0 i s i' ts} hW hi hE hi' hS _ := tJoin_t ns tx s (hE.2.2 hW) i' _ ts (by
    simp [Rdr.Shape] at hS
    omega)
/-- What TermParse answers. -/
def tpF (ns : List Nd) (tx : ByteArray) : List Nd × Int × Int × Int :=
  if 2000 < tx.size then (orE ns, -1, 0, 1)
  else if poolF ns = false then ([], -1, 0, 5)
  else if (allRF (trmR tx) 2000 ns).2.2.2 = 0 then ((allRF (trmR tx) 2000 ns).1, (allRF (trmR tx) 2000 ns).2.1, (tx.size : Int), 0)
  else (ns, -1, ((allRF (trmR tx) 2000 ns).2.2.1 : Int), (allRF (trmR tx) 2000 ns).2.2.2)
theorem impl_TermParse_c (ns : List Nd) (tx : ByteArray) (hl : ns.length ≤ 4294967296) (hs : tx.size ≤ 281474976710656) : T 9 [aP ns, .str tx] [] (.tup [.agg [pref 0 (tpF ns tx).1], i6 (tpF ns tx).2.1, i6 (tpF ns tx).2.2.1, i6 (tpF ns tx).2.2.2]) ([pblk (tpF ns tx).1]) := by
  refine semT' (S := (fun f => [33].contains f)) hm impl_TermParse_ok (Nat.le_of_ble_eq_true rfl) ?_
  unfold impl_TermParse; dsimp only
  simp
  by_cases h2 : 2000 < tx.size
  · have b1 : decide ((2000 : Int) < tx.size) = true := decide_eq_true (by omega)
    simp [b1]
    refine impl_orEmpty_k (ns := ns) hl rfl (by simp) (by simp [noslBlks]) ?_; simp [shiftB]
    rw [show tpF ns tx = (orE ns, -1, 0, 1) from if_pos h2]
    first | (refine LeV.tell [none] ?_ ?_ ?_ <;> (simp; done)) | (refine LeV.tell [some 0] ?_ ?_ ?_ <;> (simp; done)) | (refine LeV.tell [some 1] ?_ ?_ ?_ <;> (simp; done)) | (refine LeV.tell [some 2] ?_ ?_ ?_ <;> (simp; done)) | (refine LeV.tell [some 3] ?_ ?_ ?_ <;> (simp; done)) | (refine LeV.tell [some 4] ?_ ?_ ?_ <;> (simp; done)) | (refine LeV.tell [some 5] ?_ ?_ ?_ <;> (simp; done)) | (refine LeV.tell [some 6] ?_ ?_ ?_ <;> (simp; done)) | (refine LeV.tell [some 7] ?_ ?_ ?_ <;> (simp; done)) | (refine LeV.tell [some 8] ?_ ?_ ?_ <;> (simp; done)) | (refine LeV.tell [some 9] ?_ ?_ ?_ <;> (simp; done)) | (refine LeV.tell [some 10] ?_ ?_ ?_ <;> (simp; done)) | (refine LeV.tell [some 11] ?_ ?_ ?_ <;> (simp; done)) | (refine LeV.tell [some 12] ?_ ?_ ?_ <;> (simp; done)) | (refine LeV.tell [some 13] ?_ ?_ ?_ <;> (simp; done)) | (refine LeV.tell [some 14] ?_ ?_ ?_ <;> (simp; done)) | (refine LeV.tell [some 15] ?_ ?_ ?_ <;> (simp; done))
  have b1 : decide ((2000 : Int) < tx.size) = false := decide_eq_false (by omega)
  simp [b1]
  refine impl_PoolOk_call (ns := ns) rfl ?_; simp
  rcases Bool.eq_false_or_eq_true (poolF ns) with hp | hp
  case inr =>
    simp [hp]
    rw [show tpF ns tx = ([], -1, 0, 5) by unfold tpF; rw [if_neg h2, if_pos hp]]
    first | (refine LeV.tell [none] ?_ ?_ ?_ <;> (simp; done)) | (refine LeV.tell [some 0] ?_ ?_ ?_ <;> (simp; done)) | (refine LeV.tell [some 1] ?_ ?_ ?_ <;> (simp; done)) | (refine LeV.tell [some 2] ?_ ?_ ?_ <;> (simp; done)) | (refine LeV.tell [some 3] ?_ ?_ ?_ <;> (simp; done)) | (refine LeV.tell [some 4] ?_ ?_ ?_ <;> (simp; done)) | (refine LeV.tell [some 5] ?_ ?_ ?_ <;> (simp; done)) | (refine LeV.tell [some 6] ?_ ?_ ?_ <;> (simp; done)) | (refine LeV.tell [some 7] ?_ ?_ ?_ <;> (simp; done)) | (refine LeV.tell [some 8] ?_ ?_ ?_ <;> (simp; done)) | (refine LeV.tell [some 9] ?_ ?_ ?_ <;> (simp; done)) | (refine LeV.tell [some 10] ?_ ?_ ?_ <;> (simp; done)) | (refine LeV.tell [some 11] ?_ ?_ ?_ <;> (simp; done)) | (refine LeV.tell [some 12] ?_ ?_ ?_ <;> (simp; done)) | (refine LeV.tell [some 13] ?_ ?_ ?_ <;> (simp; done)) | (refine LeV.tell [some 14] ?_ ?_ ?_ <;> (simp; done)) | (refine LeV.tell [some 15] ?_ ?_ ?_ <;> (simp; done))
  simp [hp]
  refine impl_copyPool_k (ns := ns) hl rfl (by simp) (by simp [noslBlks]) ?_; simp [shiftB]
  have hZ := (trmZ ns tx (by omega)).all (s := ns) (most := 2000) hp
  have hT : tpF ns tx = if (allRF (trmR tx) 2000 ns).2.2.2 = 0 then ((allRF (trmR tx) 2000 ns).1, (allRF (trmR tx) 2000 ns).2.1, (tx.size : Int), 0) else (ns, -1, ((allRF (trmR tx) 2000 ns).2.2.1 : Int), (allRF (trmR tx) 2000 ns).2.2.2) := by
    unfold tpF; rw [if_neg h2, if_neg (by simp [hp])]
  rw [hT]
  obtain ⟨q, eq⟩ : ∃ q, allRF (trmR tx) 2000 ns = q := ⟨_, rfl⟩
  rw [eq] at hZ ⊢
  rw [show decide (ns = []) = decide (ns.length = 0) by cases ns <;> simp]
  refine all_call rfl hZ (by simp [trmZ]) ?_
  simp [trmZ]
  by_cases hc : q.2.2.2 = 0
  · simp [hc]
    first | (refine LeV.tell [none] ?_ ?_ ?_ <;> (simp; done)) | (refine LeV.tell [some 0] ?_ ?_ ?_ <;> (simp; done)) | (refine LeV.tell [some 1] ?_ ?_ ?_ <;> (simp; done)) | (refine LeV.tell [some 2] ?_ ?_ ?_ <;> (simp; done)) | (refine LeV.tell [some 3] ?_ ?_ ?_ <;> (simp; done)) | (refine LeV.tell [some 4] ?_ ?_ ?_ <;> (simp; done)) | (refine LeV.tell [some 5] ?_ ?_ ?_ <;> (simp; done)) | (refine LeV.tell [some 6] ?_ ?_ ?_ <;> (simp; done)) | (refine LeV.tell [some 7] ?_ ?_ ?_ <;> (simp; done)) | (refine LeV.tell [some 8] ?_ ?_ ?_ <;> (simp; done)) | (refine LeV.tell [some 9] ?_ ?_ ?_ <;> (simp; done)) | (refine LeV.tell [some 10] ?_ ?_ ?_ <;> (simp; done)) | (refine LeV.tell [some 11] ?_ ?_ ?_ <;> (simp; done)) | (refine LeV.tell [some 12] ?_ ?_ ?_ <;> (simp; done)) | (refine LeV.tell [some 13] ?_ ?_ ?_ <;> (simp; done)) | (refine LeV.tell [some 14] ?_ ?_ ?_ <;> (simp; done)) | (refine LeV.tell [some 15] ?_ ?_ ?_ <;> (simp; done))
  · simp [hc]
    refine impl_copyPool_k (ns := ns) hl rfl (by simp) (by simp [noslBlks]) ?_; simp [shiftB]
    repeat (refine ck_intro' (by first | omega | (simp; omega) | kernel_rfl) ?_; try simp)
    trace_state
    first | (refine LeV.tell [none] ?_ ?_ ?_ <;> (simp [hc]; done)) | (refine LeV.tell [some 0] ?_ ?_ ?_ <;> (simp [hc]; done)) | (refine LeV.tell [some 1] ?_ ?_ ?_ <;> (simp [hc]; done)) | (refine LeV.tell [some 2] ?_ ?_ ?_ <;> (simp [hc]; done)) | (refine LeV.tell [some 3] ?_ ?_ ?_ <;> (simp [hc]; done)) | (refine LeV.tell [some 4] ?_ ?_ ?_ <;> (simp [hc]; done)) | (refine LeV.tell [some 5] ?_ ?_ ?_ <;> (simp [hc]; done)) | (refine LeV.tell [some 6] ?_ ?_ ?_ <;> (simp [hc]; done)) | (refine LeV.tell [some 7] ?_ ?_ ?_ <;> (simp [hc]; done)) | (refine LeV.tell [some 8] ?_ ?_ ?_ <;> (simp [hc]; done)) | (refine LeV.tell [some 9] ?_ ?_ ?_ <;> (simp [hc]; done)) | (refine LeV.tell [some 10] ?_ ?_ ?_ <;> (simp [hc]; done)) | (refine LeV.tell [some 11] ?_ ?_ ?_ <;> (simp [hc]; done)) | (refine LeV.tell [some 12] ?_ ?_ ?_ <;> (simp [hc]; done)) | (refine LeV.tell [some 13] ?_ ?_ ?_ <;> (simp [hc]; done)) | (refine LeV.tell [some 14] ?_ ?_ ?_ <;> (simp [hc]; done)) | (refine LeV.tell [some 15] ?_ ?_ ?_ <;> (simp [hc]; done))
theorem impl_TermParse_k {ns : List Nd} {tx : ByteArray} (hl : ns.length ≤ 4294967296) (hs : tx.size ≤ 281474976710656) {S : FuncId → Bool} {H : List Blk} {K : A → Dl → Prop} {zs : List A} (hS : S 9 = false) (hv : viewL (viewA 8 H) zs = some [aP ns, .str tx]) (ho : noOwns zs = true ∨ nosl (.tup [.agg [pref 0 (tpF ns tx).1], i6 (tpF ns tx).2.1, i6 (tpF ns tx).2.2.1, i6 (tpF ns tx).2.2.2]) = true ∧ noslBlks ([pblk (tpF ns tx).1]) = true) (hK : K (shiftA H.length (.tup [.agg [pref 0 (tpF ns tx).1], i6 (tpF ns tx).2.1, i6 (tpF ns tx).2.2.1, i6 (tpF ns tx).2.2.2])) (.news (([pblk (tpF ns tx).1]).map (shiftB H.length)))) : @WCall' Go.Proofs.Tryd.prog S 9 zs H ⟨K⟩ :=
  WCall_ro' hS hv (impl_TermParse_c ns tx hl hs) rfl ho hK
end Go.Proofs.YtoegiepfcdkjaaaDoor.C

set_option linter.unusedVariables false
set_option linter.unusedSimpArgs false
set_option maxRecDepth 4000
namespace Go.Proofs.YtoegiepfcdkjaaaDoor.C
open Go.Sym Go.Proofs.YtoegiepfcdkjaaaDoor.I
theorem tp_pool {ns : List Nd} (hp : poolF ns = true) {tx : ByteArray} : poolF (rdF (trmR tx) (tx.size + 1) ns 0 0).1 = true := by
  have key : ∀ (n : Nat) (s : List Nd) (i : Nat) (c : Int), poolF s = true → poolF (rdF (trmR tx) n s i c).1 = true := by
    intro n
    induction n with
    | zero => intro s i c h; exact h
    | succ n ih =>
      intro s i c h
      have full : ∀ (s : List Nd) (m : Nd), poolF s = true → poolF (fullF (addF s m)).1 = true := fun s m hs => by
        unfold fullF
        split <;> exact addF_pool _ hs
      have fin : ∀ (b : Int) (q : List Nd × List Int × Nat × Int), poolF q.1 = true → poolF ((trmR tx).fin b q).1 = true := fun b q hq => by
        unfold Rdr.fin
        split
        · exact full _ _ hq
        · exact hq
      have two : ∀ (e : Int) (s : List Nd) (i : Nat) (c : Int), poolF s = true → poolF ((trmR tx).two (rdF (trmR tx) n) e s i c).1 = true := fun e s i c hs => ih _ _ _ (ih _ _ _ hs)
      unfold rdF
      split
      · exact h
      · split
        · exact h
        · split
          · show poolF (nmF tx s i).1 = true
            unfold nmF
            split
            · exact full _ _ h
            · exact h
          · split
            · exact fin _ _ (two _ _ _ _ h)
            · split
              · exact fin _ _ (ih _ _ _ h)
              · split
                · exact fin _ _ (two _ _ _ _ h)
                · exact h
  exact key _ _ _ _ hp
theorem tp_end {ns : List Nd} (hp : poolF ns = true) {tx : ByteArray} (hc : (rdF (trmR tx) (tx.size + 1) ns 0 0).2.2.2 = 0) : (rdF (trmR tx) (tx.size + 1) ns 0 0).2.2.1 ≤ tx.size :=
  ((trmK tx).rd_good (tx.size + 1) (s := ns) (i := 0) (c := 0) hp (Nat.zero_le _) (by show tx.size - 0 < _; omega) hc).2.1
theorem spec_TermParse_c (ns : List Nd) (tx : ByteArray) (hl : ns.length ≤ 4294967296) (hs : tx.size ≤ 281474976710656) : T 7 [aP ns, .str tx] [] (.tup [.agg [pref 0 (tpF ns tx).1], i6 (tpF ns tx).2.1, i6 (tpF ns tx).2.2.1, i6 (tpF ns tx).2.2.2]) ([pblk (tpF ns tx).1]) := by
  refine semT' (S := S0) hm spec_TermParse_ok (Nat.le_of_ble_eq_true rfl) ?_
  unfold spec_TermParse; dsimp only
  simp
  refine spec_PoolOk_call (ns := ns) rfl ?_; simp
  rcases Bool.eq_false_or_eq_true (poolF ns) with hp | hp
  case inr =>
    simp [hp]
    by_cases h2 : 2000 < tx.size
    · have b1 : decide ((2000 : Int) < tx.size) = true := decide_eq_true (by omega)
      simp [b1]
      rw [show tpF ns tx = ([], -1, 0, 1) by unfold tpF; rw [if_pos h2]; simp [orE, hp]]
      first | (refine LeV.tell [none] ?_ ?_ ?_ <;> (simp; done)) | (refine LeV.tell [some 0] ?_ ?_ ?_ <;> (simp; done)) | (refine LeV.tell [some 1] ?_ ?_ ?_ <;> (simp; done)) | (refine LeV.tell [some 2] ?_ ?_ ?_ <;> (simp; done)) | (refine LeV.tell [some 3] ?_ ?_ ?_ <;> (simp; done)) | (refine LeV.tell [some 4] ?_ ?_ ?_ <;> (simp; done)) | (refine LeV.tell [some 5] ?_ ?_ ?_ <;> (simp; done)) | (refine LeV.tell [some 6] ?_ ?_ ?_ <;> (simp; done)) | (refine LeV.tell [some 7] ?_ ?_ ?_ <;> (simp; done)) | (refine LeV.tell [some 8] ?_ ?_ ?_ <;> (simp; done)) | (refine LeV.tell [some 9] ?_ ?_ ?_ <;> (simp; done)) | (refine LeV.tell [some 10] ?_ ?_ ?_ <;> (simp; done)) | (refine LeV.tell [some 11] ?_ ?_ ?_ <;> (simp; done)) | (refine LeV.tell [some 12] ?_ ?_ ?_ <;> (simp; done)) | (refine LeV.tell [some 13] ?_ ?_ ?_ <;> (simp; done)) | (refine LeV.tell [some 14] ?_ ?_ ?_ <;> (simp; done)) | (refine LeV.tell [some 15] ?_ ?_ ?_ <;> (simp; done))
    · have b1 : decide ((2000 : Int) < tx.size) = false := decide_eq_false (by omega)
      simp [b1]
      rw [show tpF ns tx = ([], -1, 0, 5) by unfold tpF; rw [if_neg h2, if_pos hp]]
      first | (refine LeV.tell [none] ?_ ?_ ?_ <;> (simp; done)) | (refine LeV.tell [some 0] ?_ ?_ ?_ <;> (simp; done)) | (refine LeV.tell [some 1] ?_ ?_ ?_ <;> (simp; done)) | (refine LeV.tell [some 2] ?_ ?_ ?_ <;> (simp; done)) | (refine LeV.tell [some 3] ?_ ?_ ?_ <;> (simp; done)) | (refine LeV.tell [some 4] ?_ ?_ ?_ <;> (simp; done)) | (refine LeV.tell [some 5] ?_ ?_ ?_ <;> (simp; done)) | (refine LeV.tell [some 6] ?_ ?_ ?_ <;> (simp; done)) | (refine LeV.tell [some 7] ?_ ?_ ?_ <;> (simp; done)) | (refine LeV.tell [some 8] ?_ ?_ ?_ <;> (simp; done)) | (refine LeV.tell [some 9] ?_ ?_ ?_ <;> (simp; done)) | (refine LeV.tell [some 10] ?_ ?_ ?_ <;> (simp; done)) | (refine LeV.tell [some 11] ?_ ?_ ?_ <;> (simp; done)) | (refine LeV.tell [some 12] ?_ ?_ ?_ <;> (simp; done)) | (refine LeV.tell [some 13] ?_ ?_ ?_ <;> (simp; done)) | (refine LeV.tell [some 14] ?_ ?_ ?_ <;> (simp; done)) | (refine LeV.tell [some 15] ?_ ?_ ?_ <;> (simp; done))
  simp [hp]
  have hl5 := poolF_len hp
  refine spec_l1Copy_k (ns := ns) hl rfl (by simp) (by simp [noslBlks]) ?_; simp [shiftB]
  by_cases h2 : 2000 < tx.size
  · have b1 : decide ((2000 : Int) < tx.size) = true := decide_eq_true (by omega)
    simp [b1]
    rw [show tpF ns tx = (ns, -1, 0, 1) by unfold tpF; rw [if_pos h2]; simp [orE, hp]]
    first | (refine LeV.tell [none] ?_ ?_ ?_ <;> (simp; done)) | (refine LeV.tell [some 0] ?_ ?_ ?_ <;> (simp; done)) | (refine LeV.tell [some 1] ?_ ?_ ?_ <;> (simp; done)) | (refine LeV.tell [some 2] ?_ ?_ ?_ <;> (simp; done)) | (refine LeV.tell [some 3] ?_ ?_ ?_ <;> (simp; done)) | (refine LeV.tell [some 4] ?_ ?_ ?_ <;> (simp; done)) | (refine LeV.tell [some 5] ?_ ?_ ?_ <;> (simp; done)) | (refine LeV.tell [some 6] ?_ ?_ ?_ <;> (simp; done)) | (refine LeV.tell [some 7] ?_ ?_ ?_ <;> (simp; done)) | (refine LeV.tell [some 8] ?_ ?_ ?_ <;> (simp; done)) | (refine LeV.tell [some 9] ?_ ?_ ?_ <;> (simp; done)) | (refine LeV.tell [some 10] ?_ ?_ ?_ <;> (simp; done)) | (refine LeV.tell [some 11] ?_ ?_ ?_ <;> (simp; done)) | (refine LeV.tell [some 12] ?_ ?_ ?_ <;> (simp; done)) | (refine LeV.tell [some 13] ?_ ?_ ?_ <;> (simp; done)) | (refine LeV.tell [some 14] ?_ ?_ ?_ <;> (simp; done)) | (refine LeV.tell [some 15] ?_ ?_ ?_ <;> (simp; done))
  have b1 : decide ((2000 : Int) < tx.size) = false := decide_eq_false (by omega)
  simp [b1]
  have hT : tpF ns tx = if (allRF (trmR tx) 2000 ns).2.2.2 = 0 then ((allRF (trmR tx) 2000 ns).1, (allRF (trmR tx) 2000 ns).2.1, (tx.size : Int), 0) else (ns, -1, ((allRF (trmR tx) 2000 ns).2.2.1 : Int), (allRF (trmR tx) 2000 ns).2.2.2) := by
    unfold tpF; rw [if_neg h2, if_neg (by simp [hp])]
  have htx : (trmR tx).text = tx := rfl
  have hA : allRF (trmR tx) 2000 ns = if (rdF (trmR tx) (tx.size + 1) ns 0 0).2.2.2 = 0 ∧ (rdF (trmR tx) (tx.size + 1) ns 0 0).2.2.1 < tx.size then ((rdF (trmR tx) (tx.size + 1) ns 0 0).1, -1, (rdF (trmR tx) (tx.size + 1) ns 0 0).2.2.1, 6) else rdF (trmR tx) (tx.size + 1) ns 0 0 := by
    unfold allRF
    rw [htx, if_neg (by omega)]
  have hP := tparse_t (tx := tx) (by omega) (tx.size + 1) ns 0 hp (Nat.zero_le _) (by omega)
  have hpp := tp_pool hp (tx := tx)
  have hee := tp_end hp (tx := tx)
  obtain ⟨q, eq⟩ : ∃ q, rdF (trmR tx) (tx.size + 1) ns 0 0 = q := ⟨_, rfl⟩
  rw [eq] at hP hpp hee hA
  obtain ⟨r, er⟩ : ∃ r, allRF (trmR tx) 2000 ns = r := ⟨_, rfl⟩
  rw [er] at hT hA
  rw [hT]
  have hq5 := poolF_len hpp
  refine WCall_pure rfl hP (by simp) (by simp) (by simp) ?_; simp
  by_cases hc : q.2.2.2 = 0
  · have hle := hee hc
    by_cases hp2 : q.2.2.1 < tx.size
    · rw [if_pos ⟨hc, hp2⟩] at hA
      have b2 : decide (q.2.2.1 < tx.size) = true := decide_eq_true hp2
      simp [hc, b2]
      rw [hA]
      first | (refine LeV.tell [none] ?_ ?_ ?_ <;> (simp; done)) | (refine LeV.tell [some 0] ?_ ?_ ?_ <;> (simp; done)) | (refine LeV.tell [some 1] ?_ ?_ ?_ <;> (simp; done)) | (refine LeV.tell [some 2] ?_ ?_ ?_ <;> (simp; done)) | (refine LeV.tell [some 3] ?_ ?_ ?_ <;> (simp; done)) | (refine LeV.tell [some 4] ?_ ?_ ?_ <;> (simp; done)) | (refine LeV.tell [some 5] ?_ ?_ ?_ <;> (simp; done)) | (refine LeV.tell [some 6] ?_ ?_ ?_ <;> (simp; done)) | (refine LeV.tell [some 7] ?_ ?_ ?_ <;> (simp; done)) | (refine LeV.tell [some 8] ?_ ?_ ?_ <;> (simp; done)) | (refine LeV.tell [some 9] ?_ ?_ ?_ <;> (simp; done)) | (refine LeV.tell [some 10] ?_ ?_ ?_ <;> (simp; done)) | (refine LeV.tell [some 11] ?_ ?_ ?_ <;> (simp; done)) | (refine LeV.tell [some 12] ?_ ?_ ?_ <;> (simp; done)) | (refine LeV.tell [some 13] ?_ ?_ ?_ <;> (simp; done)) | (refine LeV.tell [some 14] ?_ ?_ ?_ <;> (simp; done)) | (refine LeV.tell [some 15] ?_ ?_ ?_ <;> (simp; done))
    · rw [if_neg (fun h => hp2 h.2)] at hA
      have b2 : decide (q.2.2.1 < tx.size) = false := decide_eq_false hp2
      simp [hc, b2]
      refine spec_l1Copy_k (ns := q.1) (by omega) rfl (by simp) (by simp [noslBlks]) ?_; simp [shiftB]
      repeat (refine ck_intro' (by first | omega | (simp; omega) | kernel_rfl) ?_; try simp)
      rw [hA, show q.2.2.1 = tx.size by omega, if_pos hc]
      first | (refine LeV.tell [none] ?_ ?_ ?_ <;> (simp [hc]; done)) | (refine LeV.tell [some 0] ?_ ?_ ?_ <;> (simp [hc]; done)) | (refine LeV.tell [some 1] ?_ ?_ ?_ <;> (simp [hc]; done)) | (refine LeV.tell [some 2] ?_ ?_ ?_ <;> (simp [hc]; done)) | (refine LeV.tell [some 3] ?_ ?_ ?_ <;> (simp [hc]; done)) | (refine LeV.tell [some 4] ?_ ?_ ?_ <;> (simp [hc]; done)) | (refine LeV.tell [some 5] ?_ ?_ ?_ <;> (simp [hc]; done)) | (refine LeV.tell [some 6] ?_ ?_ ?_ <;> (simp [hc]; done)) | (refine LeV.tell [some 7] ?_ ?_ ?_ <;> (simp [hc]; done)) | (refine LeV.tell [some 8] ?_ ?_ ?_ <;> (simp [hc]; done)) | (refine LeV.tell [some 9] ?_ ?_ ?_ <;> (simp [hc]; done)) | (refine LeV.tell [some 10] ?_ ?_ ?_ <;> (simp [hc]; done)) | (refine LeV.tell [some 11] ?_ ?_ ?_ <;> (simp [hc]; done)) | (refine LeV.tell [some 12] ?_ ?_ ?_ <;> (simp [hc]; done)) | (refine LeV.tell [some 13] ?_ ?_ ?_ <;> (simp [hc]; done)) | (refine LeV.tell [some 14] ?_ ?_ ?_ <;> (simp [hc]; done)) | (refine LeV.tell [some 15] ?_ ?_ ?_ <;> (simp [hc]; done))
  · rw [if_neg (fun h => hc h.1)] at hA
    simp [hc]
    rw [hA, if_neg hc]
    first | (refine LeV.tell [none] ?_ ?_ ?_ <;> (simp [hc]; done)) | (refine LeV.tell [some 0] ?_ ?_ ?_ <;> (simp [hc]; done)) | (refine LeV.tell [some 1] ?_ ?_ ?_ <;> (simp [hc]; done)) | (refine LeV.tell [some 2] ?_ ?_ ?_ <;> (simp [hc]; done)) | (refine LeV.tell [some 3] ?_ ?_ ?_ <;> (simp [hc]; done)) | (refine LeV.tell [some 4] ?_ ?_ ?_ <;> (simp [hc]; done)) | (refine LeV.tell [some 5] ?_ ?_ ?_ <;> (simp [hc]; done)) | (refine LeV.tell [some 6] ?_ ?_ ?_ <;> (simp [hc]; done)) | (refine LeV.tell [some 7] ?_ ?_ ?_ <;> (simp [hc]; done)) | (refine LeV.tell [some 8] ?_ ?_ ?_ <;> (simp [hc]; done)) | (refine LeV.tell [some 9] ?_ ?_ ?_ <;> (simp [hc]; done)) | (refine LeV.tell [some 10] ?_ ?_ ?_ <;> (simp [hc]; done)) | (refine LeV.tell [some 11] ?_ ?_ ?_ <;> (simp [hc]; done)) | (refine LeV.tell [some 12] ?_ ?_ ?_ <;> (simp [hc]; done)) | (refine LeV.tell [some 13] ?_ ?_ ?_ <;> (simp [hc]; done)) | (refine LeV.tell [some 14] ?_ ?_ ?_ <;> (simp [hc]; done)) | (refine LeV.tell [some 15] ?_ ?_ ?_ <;> (simp [hc]; done))
theorem spec_TermParse_k {ns : List Nd} {tx : ByteArray} (hl : ns.length ≤ 4294967296) (hs : tx.size ≤ 281474976710656) {S : FuncId → Bool} {H : List Blk} {K : A → Dl → Prop} {zs : List A} (hS : S 7 = false) (hv : viewL (viewA 8 H) zs = some [aP ns, .str tx]) (ho : noOwns zs = true ∨ nosl (.tup [.agg [pref 0 (tpF ns tx).1], i6 (tpF ns tx).2.1, i6 (tpF ns tx).2.2.1, i6 (tpF ns tx).2.2.2]) = true ∧ noslBlks ([pblk (tpF ns tx).1]) = true) (hK : K (shiftA H.length (.tup [.agg [pref 0 (tpF ns tx).1], i6 (tpF ns tx).2.1, i6 (tpF ns tx).2.2.1, i6 (tpF ns tx).2.2.2])) (.news (([pblk (tpF ns tx).1]).map (shiftB H.length)))) : @WCall' Go.Proofs.Tryd.prog S 7 zs H ⟨K⟩ :=
  WCall_ro' hS hv (spec_TermParse_c ns tx hl hs) rfl ho hK
end Go.Proofs.YtoegiepfcdkjaaaDoor.C

set_option linter.unusedVariables false
set_option linter.unusedSimpArgs false
namespace Go.Proofs.YtoegiepfcdkjaaaDoor.C
open Go.Sym Go.Proofs.YtoegiepfcdkjaaaDoor.I
def In64 (n : Int) : Prop := -9223372036854775808 ≤ n ∧ n < 9223372036854775808
abbrev shI : Sh := .i .i64
abbrev shN : Sh := .st (.p shI (.p shI (.p shI .u)))
abbrev shP : Sh := .st (.p (.sl shN) .u)
abbrev shL : Sh := .st (.p shI (.p shI (.p shI (.p .b .u))))
abbrev shIs : Sh := .sl shI
abbrev shS : Sh := .st (.p shP (.p shIs (.p shL (.p shL (.p shIs (.p shIs .u))))))
theorem fit_i {cs : List A} (h : Fit shI cs) : ∃ n, cs = [i6 n] ∧ In64 n := by
  obtain ⟨n, rfl, hn⟩ := h
  exact ⟨n, rfl, fit_i64 hn⟩
theorem fit_n {cs : List A} (h : Fit shN cs) : ∃ n : Nd, cs = encN n ∧ In64 n.k ∧ In64 n.a ∧ In64 n.b := by
  obtain ⟨x, y, rfl, hx, z, t, rfl, hz, u, w, rfl, hu, rfl⟩ := h
  obtain ⟨a, rfl, ha⟩ := fit_i hx
  obtain ⟨b, rfl, hb⟩ := fit_i hz
  obtain ⟨c, rfl, hc⟩ := fit_i hu
  exact ⟨⟨a, b, c⟩, rfl, ha, hb, hc⟩
theorem fit_p {cs : List A} (h : Fit shP cs) : ∃ ns : List Nd, cs = [.sl ns.length (enc ns)] ∧ ns.length < 9223372036854775808 := by
  obtain ⟨x, y, rfl, hx, rfl⟩ := h
  obtain ⟨ns, rfl, h1, _⟩ := fit_sl (f := encN) (fun r hr => fit_n hr) hx
  exact ⟨ns, by simp [enc], h1⟩
theorem fit_is {cs : List A} (h : Fit shIs cs) : ∃ xs : List Int, cs = [aI xs] ∧ xs.length < 9223372036854775808 := by
  obtain ⟨xs, rfl, h1, _⟩ := fit_sl (f := fun n => [i6 n]) (fun r hr => fit_i hr) h
  exact ⟨xs, by simp only [aI, ints]; rw [List.map_eq_flatMap], h1⟩
structure Lk.fit (l : Lk) : Prop where
  k : In64 l.key
  e : In64 l.epoch
  s : In64 l.seq
theorem fit_l {cs : List A} (h : Fit shL cs) : ∃ l : Lk, cs = [i6 l.key, i6 l.epoch, i6 l.seq, .bool l.over] ∧ l.fit := by
  obtain ⟨x, y, rfl, hx, z, t, rfl, hz, u, w, rfl, hu, b, w, rfl, ⟨o, rfl⟩, rfl⟩ := h
  obtain ⟨a, rfl, ha⟩ := fit_i hx
  obtain ⟨b, rfl, hb⟩ := fit_i hz
  obtain ⟨c, rfl, hc⟩ := fit_i hu
  exact ⟨⟨a, b, c, o⟩, rfl, ha, hb, hc⟩
structure St.fitA (s : St) : Prop where
  p : s.pool.length < 9223372036854775808
  k : s.know.length < 9223372036854775808
  t : s.sent.length < 9223372036854775808
  g : s.got.length < 9223372036854775808
  o : s.out.fit
  i : s.inn.fit
theorem fit_s {cs : List A} (h : Fit shS cs) : ∃ s : St, cs = cS s ∧ s.fitA := by
  obtain ⟨x, y, rfl, hx, z, t, rfl, hz, u, w, rfl, hu, b, w, rfl, hb, e, f, rfl, he, g, i, rfl, hg, rfl⟩ := h
  obtain ⟨ns, rfl, h1⟩ := fit_p hx
  obtain ⟨ks, rfl, h2⟩ := fit_is hz
  obtain ⟨l, rfl, h3⟩ := fit_l hu
  obtain ⟨m, rfl, h4⟩ := fit_l hb
  obtain ⟨ts, rfl, h5⟩ := fit_is he
  obtain ⟨gs, rfl, h6⟩ := fit_is hg
  exact ⟨⟨ns, ks, l, m, ts, gs⟩, rfl, h1, h2, h5, h6, h3, h4⟩
theorem arg_p {x : A} (h : FitA shP x) : ∃ ns : List Nd, x = aP ns ∧ ns.length < 9223372036854775808 := by
  obtain ⟨cs, rfl, h⟩ := h
  obtain ⟨ns, rfl, g⟩ := fit_p h
  exact ⟨ns, rfl, g⟩
theorem arg_l {x : A} (h : FitA shL x) : ∃ l : Lk, x = aL l ∧ l.fit := by
  obtain ⟨cs, rfl, h⟩ := h
  obtain ⟨ns, rfl, g⟩ := fit_l h
  exact ⟨ns, rfl, g⟩
theorem arg_s {x : A} (h : FitA shS x) : ∃ s : St, x = aS s ∧ s.fitA := by
  obtain ⟨cs, rfl, h⟩ := h
  obtain ⟨ns, rfl, g⟩ := fit_s h
  exact ⟨ns, rfl, g⟩
theorem arg_is {x : A} (h : FitA shIs x) : ∃ xs : List Int, x = aI xs ∧ xs.length < 9223372036854775808 := by
  obtain ⟨xs, e, h⟩ := fit_is (show Fit shIs [x] from h)
  exact ⟨xs, by simpa using e, h⟩
theorem arg_i {x : A} (h : FitA shI x) : ∃ n : Int, x = i6 n ∧ In64 n := by
  obtain ⟨n, e, h⟩ := fit_i (show Fit shI [x] from h)
  exact ⟨n, by simpa using e, h⟩
end Go.Proofs.YtoegiepfcdkjaaaDoor.C

set_option linter.unusedVariables false
set_option linter.unusedSimpArgs false
namespace Go.Proofs.YtoegiepfcdkjaaaDoor.C
open Go.Sym Go.Proofs.YtoegiepfcdkjaaaDoor.I
abbrev qblk (ns : List Nd) : Blk := ⟨ns.length, false, 3, enc ns, none⟩
abbrev iblk (xs : List Int) : Blk := ⟨xs.length, false, 1, ints xs, none⟩
abbrev iref (b : Nat) (xs : List Int) : A := .ref b xs.length 0 xs.length
def szF (x : Int) (n : Nat) : Int := if x - n < 0 then -1 else x - n
theorem laws_szNodeS_c (ns : List Nd) (x : Int) (hl : ns.length < 9223372036854775808) (h0 : 0 ≤ x) (h1 : x < 9223372036854775808) : T 20 [.sl ns.length (enc ns), i6 x] [] (i6 (szF x ns.length)) ([]) := by
  refine semT' (S := S0) hm laws_szNodeS_ok (Nat.le_of_ble_eq_true rfl) ?_
  unfold laws_szNodeS; dsimp only
  have hw : IntKind.i64.wrap (x - ns.length) = x - ns.length := wrap64 (by omega) (by omega)
  simp [hw]
  refine br_intro' (fun h => ?_) (fun h => ?_) <;> (have h0 := h) <;> (try simp at h) <;> try simp [h0, h]
  · exact LeV.ro rfl rfl (by simp [szF, h])
  · exact LeV.ro rfl rfl (by simp [szF]; omega)
theorem laws_szNodeS_call {ns : List Nd} {x : Int} (hl : ns.length < 9223372036854775808) (h0 : 0 ≤ x) (h1 : x < 9223372036854775808) {S : FuncId → Bool} {H : List Blk} {K : A → Dl → Prop} (hS : S 20 = false) (hK : K (i6 (szF x ns.length)) (.news [])) : @WCall' Go.Proofs.Tryd.prog S 20 [.sl ns.length (enc ns), i6 x] H ⟨K⟩ :=
  WCall_pure hS (laws_szNodeS_c ns x hl h0 h1) (by simp) (by simp) (by simp) hK
theorem laws_szNodeS_k {ns : List Nd} {x : Int} (hl : ns.length < 9223372036854775808) (h0 : 0 ≤ x) (h1 : x < 9223372036854775808) {S : FuncId → Bool} {H : List Blk} {K : A → Dl → Prop} {zs : List A} (hS : S 20 = false) (hv : viewL (viewA 8 H) zs = some [.sl ns.length (enc ns), i6 x]) (ho : noOwns zs = true ∨ nosl (i6 (szF x ns.length)) = true) (hK : K (i6 (szF x ns.length)) (.news [])) : @WCall' Go.Proofs.Tryd.prog S 20 zs H ⟨K⟩ :=
  WCall_pure hS (laws_szNodeS_c ns x hl h0 h1) hv ho (by simp) hK
theorem laws_szPool_c (ns : List Nd) (x : Int) (hl : ns.length < 9223372036854775808) (h0 : 0 ≤ x) (h1 : x < 9223372036854775808) : T 6 [aP ns, i6 x] [] (i6 (szF x ns.length)) ([]) := by
  refine semT' (S := S0) hm laws_szPool_ok (Nat.le_of_ble_eq_true rfl) ?_
  unfold laws_szPool; dsimp only
  simp
  refine laws_szNodeS_call (ns := ns) (x := x) hl h0 h1 rfl ?_; simp
  refine br_intro' (fun h => ?_) (fun h => ?_) <;> (have h0 := h) <;> (try simp at h) <;> try simp [h0, h]
  · exact LeV.ro rfl rfl (by simp [szF] at h ⊢; omega)
  · exact LeV.ro rfl rfl (by simp)
theorem laws_szPool_call {ns : List Nd} {x : Int} (hl : ns.length < 9223372036854775808) (h0 : 0 ≤ x) (h1 : x < 9223372036854775808) {S : FuncId → Bool} {H : List Blk} {K : A → Dl → Prop} (hS : S 6 = false) (hK : K (i6 (szF x ns.length)) (.news [])) : @WCall' Go.Proofs.Tryd.prog S 6 [aP ns, i6 x] H ⟨K⟩ :=
  WCall_pure hS (laws_szPool_c ns x hl h0 h1) (by simp) (by simp) (by simp) hK
theorem laws_szPool_k {ns : List Nd} {x : Int} (hl : ns.length < 9223372036854775808) (h0 : 0 ≤ x) (h1 : x < 9223372036854775808) {S : FuncId → Bool} {H : List Blk} {K : A → Dl → Prop} {zs : List A} (hS : S 6 = false) (hv : viewL (viewA 8 H) zs = some [aP ns, i6 x]) (ho : noOwns zs = true ∨ nosl (i6 (szF x ns.length)) = true) (hK : K (i6 (szF x ns.length)) (.news [])) : @WCall' Go.Proofs.Tryd.prog S 6 zs H ⟨K⟩ :=
  WCall_pure hS (laws_szPool_c ns x hl h0 h1) hv ho (by simp) hK
theorem laws_toNode_c (n : Nd)  : T 59 [aN n] [] (aN n) ([]) := by
  refine semT' (S := S0) hm laws_toNode_ok (Nat.le_of_ble_eq_true rfl) ?_
  unfold laws_toNode; dsimp only
  simp
  exact LeV.ro rfl rfl (by simp)
theorem laws_toNode_call {n : Nd}  {S : FuncId → Bool} {H : List Blk} {K : A → Dl → Prop} (hS : S 59 = false) (hK : K (aN n) (.news [])) : @WCall' Go.Proofs.Tryd.prog S 59 [aN n] H ⟨K⟩ :=
  WCall_pure hS (laws_toNode_c n) (by simp) (by simp) (by simp) hK
theorem laws_toNode_k {n : Nd}  {S : FuncId → Bool} {H : List Blk} {K : A → Dl → Prop} {zs : List A} (hS : S 59 = false) (hv : viewL (viewA 8 H) zs = some [aN n]) (ho : noOwns zs = true ∨ nosl (aN n) = true) (hK : K (aN n) (.news [])) : @WCall' Go.Proofs.Tryd.prog S 59 zs H ⟨K⟩ :=
  WCall_pure hS (laws_toNode_c n) hv ho (by simp) hK
theorem laws_eqNode_c (n m : Nd)  : T 66 [aN n, aN m] [] (.bool (decide (n = m))) ([]) := by
  refine semT' (S := S0) hm laws_eqNode_ok (Nat.le_of_ble_eq_true rfl) ?_
  unfold laws_eqNode; dsimp only
  simp
  repeat (any_goals (first | (refine br_intro' (fun h => ?_) (fun h => ?_) <;> (have h0 := h) <;> (try simp at h) <;> try simp [h0, h])))
  all_goals exact LeV.ro rfl rfl (by simp [Nd_eq, *])
theorem laws_eqNode_call {n m : Nd}  {S : FuncId → Bool} {H : List Blk} {K : A → Dl → Prop} (hS : S 66 = false) (hK : K (.bool (decide (n = m))) (.news [])) : @WCall' Go.Proofs.Tryd.prog S 66 [aN n, aN m] H ⟨K⟩ :=
  WCall_pure hS (laws_eqNode_c n m) (by simp) (by simp) (by simp) hK
theorem laws_eqNode_k {n m : Nd}  {S : FuncId → Bool} {H : List Blk} {K : A → Dl → Prop} {zs : List A} (hS : S 66 = false) (hv : viewL (viewA 8 H) zs = some [aN n, aN m]) (ho : noOwns zs = true ∨ nosl (.bool (decide (n = m))) = true) (hK : K (.bool (decide (n = m))) (.news [])) : @WCall' Go.Proofs.Tryd.prog S 66 zs H ⟨K⟩ :=
  WCall_pure hS (laws_eqNode_c n m) hv ho (by simp) hK
theorem Lk_eq {x y : Lk} : x = y ↔ x.key = y.key ∧ x.epoch = y.epoch ∧ x.seq = y.seq ∧ x.over = y.over := by cases x; cases y; simp
def zN (j : Nat) : List Nd := List.replicate j ⟨0, 0, 0⟩
/-- A copy that is made up to a place. -/
def upN (ns : List Nd) (j : Nat) : List Nd := ns.take j ++ zN (ns.length - j)
theorem upN_len (ns : List Nd) (j : Nat) (h : j ≤ ns.length) : (upN ns j).length = ns.length := by simp [upN, zN]; omega
theorem upN_zero (ns : List Nd) : upN ns 0 = zN ns.length := by simp [upN]
theorem upN_end (ns : List Nd) : upN ns ns.length = ns := by simp [upN, zN]
theorem enc_zN (j : Nat) : enc (zN j) = (List.replicate j [i6 0, i6 0, i6 0]).flatten := by
  induction j with
  | zero => rfl
  | succ j ih => simp only [zN, List.replicate_succ, enc, List.flatMap_cons, List.flatten_cons] at ih ⊢; rw [ih]; rfl
theorem upN_set (ns : List Nd) (j : Nat) (h : j < ns.length) : (upN ns j).set j ns[j] = upN ns (j + 1) := by
  have hl : (ns.take j).length = j := by simp; omega
  have e : ns.length - j = (ns.length - (j + 1)) + 1 := by omega
  simp only [upN, zN]
  rw [List.set_append_right _ _ (by omega), hl, Nat.sub_self, e, List.replicate_succ, List.set_cons_zero, List.take_succ_eq_append_getElem h, List.append_assoc]
  rfl
theorem set3 {x y z : A} : ∀ (cs : List A) (a b c : A) (r : List A), (((a :: b :: c :: r).set 0 x).set 1 y).set 2 z = x :: y :: z :: r := fun _ _ _ _ _ => rfl
theorem enc_set : ∀ (xs : List Nd) (j : Nat) (n : Nd), (((enc xs).set (j * 3) (i6 n.k)).set (j * 3 + 1) (i6 n.a)).set (j * 3 + 2) (i6 n.b) = enc (xs.set j n)
  | [], j, n => by simp
  | x :: xs, 0, n => rfl
  | x :: xs, j + 1, n => by
    have := enc_set xs j n
    have e : (j + 1) * 3 = j * 3 + 1 + 1 + 1 := by omega
    show ((([i6 x.k, i6 x.a, i6 x.b] ++ enc xs).set ((j + 1) * 3) _).set ((j + 1) * 3 + 1) _).set ((j + 1) * 3 + 2) _ = [i6 x.k, i6 x.a, i6 x.b] ++ enc (xs.set j n)
    rw [e, ← this]
    rfl
theorem laws_toNodeS_c (ns : List Nd) (hl : ns.length ≤ 4294967296) : T 24 [.sl ns.length (enc ns)] [] (pref 0 ns) ([qblk ns]) := by
  refine semT' (S := S0) hm laws_toNodeS_ok (Nat.le_of_ble_eq_true rfl) ?_
  unfold laws_toNodeS; dsimp only
  have h1 : ((ns.length : Int)) * 24 ≤ 17592186044416 := by omega
  have h2 : (ns.length : Int) ≤ 4294967296 := by omega
  simp
  refine ck_intro' (by omega) ?_; simp
  rw [← enc_zN, ← upN_zero]
  refine WLoop_fam (fun j : Nat => [(0, A.sl ns.length (enc ns)), (3, A.ref 0 0 0 ns.length), (4, i6 j)]) (fun j => [⟨0, false, 3, enc (upN ns j), none⟩]) (fun j => ns.length - j)
    (fun j => j ≤ ns.length) ?_ 0 (Nat.zero_le _)
  intro j hj ih
  simp [upN_len ns j hj]
  refine br_intro' (fun h => ?_) (fun h => ?_) <;> (have h0 := h) <;> (try simp at h) <;> try simp [h0, h]
  · obtain ⟨r, hr⟩ := enc_at h
    have h3 : 3 ≤ ns.length * 3 - j * 3 := by omega
    have hw : IntKind.i64.wrap ((j : Int) + 1) = j + 1 := wrap64 (by omega) (by omega)
    have h' := h
    simp [h3, hr, h']
    refine laws_toNode_call (n := ns[j]) rfl ?_; simp [upN_len ns j hj, h']
    refine ck_intro' (by omega) ?_; simp
    rw [hw, enc_set, upN_set ns j h']
    exact ih (j + 1) h' (by omega)
  · have h0 : j = ns.length := by omega
    subst h0
    rw [upN_end]
    first | (refine LeV.tell [none] ?_ ?_ ?_ <;> (simp; done)) | (refine LeV.tell [some 0] ?_ ?_ ?_ <;> (simp; done)) | (refine LeV.tell [some 1] ?_ ?_ ?_ <;> (simp; done)) | (refine LeV.tell [some 2] ?_ ?_ ?_ <;> (simp; done)) | (refine LeV.tell [some 3] ?_ ?_ ?_ <;> (simp; done)) | (refine LeV.tell [some 4] ?_ ?_ ?_ <;> (simp; done)) | (refine LeV.tell [some 5] ?_ ?_ ?_ <;> (simp; done)) | (refine LeV.tell [some 6] ?_ ?_ ?_ <;> (simp; done)) | (refine LeV.tell [some 7] ?_ ?_ ?_ <;> (simp; done)) | (refine LeV.tell [some 8] ?_ ?_ ?_ <;> (simp; done)) | (refine LeV.tell [some 9] ?_ ?_ ?_ <;> (simp; done)) | (refine LeV.tell [some 10] ?_ ?_ ?_ <;> (simp; done)) | (refine LeV.tell [some 11] ?_ ?_ ?_ <;> (simp; done)) | (refine LeV.tell [some 12] ?_ ?_ ?_ <;> (simp; done)) | (refine LeV.tell [some 13] ?_ ?_ ?_ <;> (simp; done)) | (refine LeV.tell [some 14] ?_ ?_ ?_ <;> (simp; done)) | (refine LeV.tell [some 15] ?_ ?_ ?_ <;> (simp; done))
theorem laws_toNodeS_k {ns : List Nd} (hl : ns.length ≤ 4294967296) {S : FuncId → Bool} {H : List Blk} {K : A → Dl → Prop} {zs : List A} (hS : S 24 = false) (hv : viewL (viewA 8 H) zs = some [.sl ns.length (enc ns)]) (ho : noOwns zs = true ∨ nosl (pref 0 ns) = true ∧ noslBlks ([qblk ns]) = true) (hK : K (shiftA H.length (pref 0 ns)) (.news (([qblk ns]).map (shiftB H.length)))) : @WCall' Go.Proofs.Tryd.prog S 24 zs H ⟨K⟩ :=
  WCall_ro' hS hv (laws_toNodeS_c ns hl) rfl ho hK
theorem laws_toPool_c (ns : List Nd) (hl : ns.length ≤ 4294967296) : T 8 [aP ns] [] (.agg [pref 0 ns]) ([qblk ns]) := by
  refine semT' (S := S0) hm laws_toPool_ok (Nat.le_of_ble_eq_true rfl) ?_
  unfold laws_toPool; dsimp only
  simp
  refine laws_toNodeS_k (ns := ns) hl rfl (by simp) (by simp [noslBlks]) ?_; simp [shiftB]
  first | (refine LeV.tell [none] ?_ ?_ ?_ <;> (simp; done)) | (refine LeV.tell [some 0] ?_ ?_ ?_ <;> (simp; done)) | (refine LeV.tell [some 1] ?_ ?_ ?_ <;> (simp; done)) | (refine LeV.tell [some 2] ?_ ?_ ?_ <;> (simp; done)) | (refine LeV.tell [some 3] ?_ ?_ ?_ <;> (simp; done)) | (refine LeV.tell [some 4] ?_ ?_ ?_ <;> (simp; done)) | (refine LeV.tell [some 5] ?_ ?_ ?_ <;> (simp; done)) | (refine LeV.tell [some 6] ?_ ?_ ?_ <;> (simp; done)) | (refine LeV.tell [some 7] ?_ ?_ ?_ <;> (simp; done)) | (refine LeV.tell [some 8] ?_ ?_ ?_ <;> (simp; done)) | (refine LeV.tell [some 9] ?_ ?_ ?_ <;> (simp; done)) | (refine LeV.tell [some 10] ?_ ?_ ?_ <;> (simp; done)) | (refine LeV.tell [some 11] ?_ ?_ ?_ <;> (simp; done)) | (refine LeV.tell [some 12] ?_ ?_ ?_ <;> (simp; done)) | (refine LeV.tell [some 13] ?_ ?_ ?_ <;> (simp; done)) | (refine LeV.tell [some 14] ?_ ?_ ?_ <;> (simp; done)) | (refine LeV.tell [some 15] ?_ ?_ ?_ <;> (simp; done))
theorem laws_toPool_k {ns : List Nd} (hl : ns.length ≤ 4294967296) {S : FuncId → Bool} {H : List Blk} {K : A → Dl → Prop} {zs : List A} (hS : S 8 = false) (hv : viewL (viewA 8 H) zs = some [aP ns]) (ho : noOwns zs = true ∨ nosl (.agg [pref 0 ns]) = true ∧ noslBlks ([qblk ns]) = true) (hK : K (shiftA H.length (.agg [pref 0 ns])) (.news (([qblk ns]).map (shiftB H.length)))) : @WCall' Go.Proofs.Tryd.prog S 8 zs H ⟨K⟩ :=
  WCall_ro' hS hv (laws_toPool_c ns hl) rfl ho hK
/-- A copy of numbers that is made up to a place. -/
def upI (xs : List Int) (j : Nat) : List Int := xs.take j ++ List.replicate (xs.length - j) 0
theorem upI_len (xs : List Int) (j : Nat) (h : j ≤ xs.length) : (upI xs j).length = xs.length := by simp [upI]; omega
theorem upI_zero (xs : List Int) : upI xs 0 = List.replicate xs.length 0 := by simp [upI]
theorem upI_end (xs : List Int) : upI xs xs.length = xs := by simp [upI]
theorem upI_set (ns : List Int) (j : Nat) (h : j < ns.length) : (upI ns j).set j ns[j] = upI ns (j + 1) := by
  have hl : (ns.take j).length = j := by simp; omega
  have e : ns.length - j = (ns.length - (j + 1)) + 1 := by omega
  simp only [upI]
  rw [List.set_append_right _ _ (by omega), hl, Nat.sub_self, e, List.replicate_succ, List.set_cons_zero, List.take_succ_eq_append_getElem h, List.append_assoc]
  rfl
theorem ints_set (xs : List Int) (j : Nat) (n : Int) : (ints xs).set j (i6 n) = ints (xs.set j n) := by simp [ints, List.map_set]
@[simp] theorem ints_tells (H H' : List Blk) (g : List (Option Nat)) (xs : List Int) : Tells H H' g (ints xs) (ints xs) := Tells_scals _ (ints_scals xs)
@[simp] theorem ints_take (xs : List Int) : (ints xs).take xs.length = ints xs := List.take_of_length_le (by simp)
theorem ints_rep (n : Nat) : ints (List.replicate n 0) = List.replicate n (i6 0) := by simp [ints]
theorem laws_eqNodeS_c (ns ms : List Nd) (hl : ns.length < 9223372036854775807) (hl2 : ms.length < 9223372036854775807) : T 34 [.sl ns.length (enc ns), .sl ms.length (enc ms)] [] (.bool (decide (ns = ms))) ([]) := by
  refine semT' (S := S0) hm laws_eqNodeS_ok (Nat.le_of_ble_eq_true rfl) ?_
  unfold laws_eqNodeS; dsimp only
  simp
  refine br_intro' (fun h => ?_) (fun h => ?_) <;> (try simp at h) <;> (try simp [h])
  · refine WLoop_fam (fun j : Nat => [(0, A.sl ns.length (enc ns)), (1, A.sl ms.length (enc ms)), (5, i6 j)]) (fun _ => []) (fun j => ns.length - j)
      (fun j => j ≤ ns.length ∧ ns.take j = ms.take j) ?_ 0 ⟨Nat.zero_le _, by simp⟩
    intro j ⟨hj, hf⟩ ih
    simp
    have hq : ns.length = ms.length := by omega
    refine br_intro' (fun h => ?_) (fun h => ?_) <;> (have h0 := h) <;> (try simp at h) <;> try simp [h0, h]
    · obtain ⟨r, hr⟩ := enc_at h
      have hm : j < ms.length := by omega
      obtain ⟨r2, hr2⟩ := enc_at hm
      have h3 : 3 ≤ ms.length * 3 - j * 3 := by omega
      have h4 : 3 ≤ ns.length * 3 - j * 3 := by omega
      have hw : IntKind.i64.wrap ((j : Int) + 1) = j + 1 := wrap64 (by omega) (by omega)
      have h' := h
      simp [h3, h4, hr, h', hr2, hm]
      refine laws_eqNode_call (n := ns[j]) (m := ms[j]) rfl ?_; simp
      first | (refine ck_intro' (by kernel_rfl) ?_; try simp) | skip
      refine br_intro' (fun g => ?_) (fun g => ?_) <;> simp at g <;> simp [g]
      · rw [hw]
        exact ih (j + 1) ⟨h', by rw [List.take_succ_eq_append_getElem h', List.take_succ_eq_append_getElem hm, hf, g]⟩ (by omega)
      · exact LeV.ro rfl rfl (by simp; intro e; subst e; exact g rfl)
    · have h0 : j = ns.length := by omega
      exact LeV.ro rfl rfl (by rw [h0, List.take_length, hq, List.take_length] at hf; simp [hf])
  · exact LeV.ro rfl rfl (by simp; intro e; rw [e] at h; exact h rfl)
theorem laws_eqNodeS_call {ns ms : List Nd} (hl : ns.length < 9223372036854775807) (hl2 : ms.length < 9223372036854775807) {S : FuncId → Bool} {H : List Blk} {K : A → Dl → Prop} (hS : S 34 = false) (hK : K (.bool (decide (ns = ms))) (.news [])) : @WCall' Go.Proofs.Tryd.prog S 34 [.sl ns.length (enc ns), .sl ms.length (enc ms)] H ⟨K⟩ :=
  WCall_pure hS (laws_eqNodeS_c ns ms hl hl2) (by simp) (by simp) (by simp) hK
theorem laws_eqNodeS_k {ns ms : List Nd} (hl : ns.length < 9223372036854775807) (hl2 : ms.length < 9223372036854775807) {S : FuncId → Bool} {H : List Blk} {K : A → Dl → Prop} {zs : List A} (hS : S 34 = false) (hv : viewL (viewA 8 H) zs = some [.sl ns.length (enc ns), .sl ms.length (enc ms)]) (ho : noOwns zs = true ∨ nosl (.bool (decide (ns = ms))) = true) (hK : K (.bool (decide (ns = ms))) (.news [])) : @WCall' Go.Proofs.Tryd.prog S 34 zs H ⟨K⟩ :=
  WCall_pure hS (laws_eqNodeS_c ns ms hl hl2) hv ho (by simp) hK
theorem laws_eqPool_c (ns ms : List Nd) (hl : ns.length < 9223372036854775807) (hl2 : ms.length < 9223372036854775807) : T 10 [aP ns, aP ms] [] (.bool (decide (ns = ms))) ([]) := by
  refine semT' (S := S0) hm laws_eqPool_ok (Nat.le_of_ble_eq_true rfl) ?_
  unfold laws_eqPool; dsimp only
  simp
  refine laws_eqNodeS_call (ns := ns) (ms := ms) hl hl2 rfl ?_; simp
  refine br_intro' (fun g => ?_) (fun g => ?_) <;> simp at g <;> simp [g]
  · exact LeV.ro rfl rfl (by simp)
  · exact LeV.ro rfl rfl (by simp [g])
theorem laws_eqPool_call {ns ms : List Nd} (hl : ns.length < 9223372036854775807) (hl2 : ms.length < 9223372036854775807) {S : FuncId → Bool} {H : List Blk} {K : A → Dl → Prop} (hS : S 10 = false) (hK : K (.bool (decide (ns = ms))) (.news [])) : @WCall' Go.Proofs.Tryd.prog S 10 [aP ns, aP ms] H ⟨K⟩ :=
  WCall_pure hS (laws_eqPool_c ns ms hl hl2) (by simp) (by simp) (by simp) hK
theorem laws_eqPool_k {ns ms : List Nd} (hl : ns.length < 9223372036854775807) (hl2 : ms.length < 9223372036854775807) {S : FuncId → Bool} {H : List Blk} {K : A → Dl → Prop} {zs : List A} (hS : S 10 = false) (hv : viewL (viewA 8 H) zs = some [aP ns, aP ms]) (ho : noOwns zs = true ∨ nosl (.bool (decide (ns = ms))) = true) (hK : K (.bool (decide (ns = ms))) (.news [])) : @WCall' Go.Proofs.Tryd.prog S 10 zs H ⟨K⟩ :=
  WCall_pure hS (laws_eqPool_c ns ms hl hl2) hv ho (by simp) hK
theorem szF_neg {x : Int} {n : Nat} : szF x n < 0 ↔ x < n := by unfold szF; split <;> omega
theorem szF_pos {x : Int} {n : Nat} (h : ¬ x < n) : szF x n = x - n := by unfold szF; rw [if_neg (by omega)]
/-- The size of a stream. -/
def szStr (s : St) (x : Int) : Int := if x < s.pool.length + s.know.length + s.sent.length + s.got.length then -1 else x - (s.pool.length + s.know.length + s.sent.length + s.got.length)
theorem St_eq {x y : St} : x = y ↔ x.pool = y.pool ∧ x.know = y.know ∧ x.out = y.out ∧ x.inn = y.inn ∧ x.sent = y.sent ∧ x.got = y.got := by cases x; cases y; simp
end Go.Proofs.YtoegiepfcdkjaaaDoor.C
