/- A region of operations, drawn or not, does what its operations do one behind the other. Conditions: the checks okReg, bfOk, regOk. -/
import Derived.Test.YtpohfpnlepmebaaXSymO
set_option linter.unusedVariables false
set_option linter.unusedSimpArgs false
namespace Go.Sym
open Go.RowKit

/-- How a frame's places and the world stand to values told by trees, of a piece that began at c0. -/
structure Inv (c0 : Cx) (N : Nat) (e : Env) (H : Nat → Option Blk) (a : Act) (w : World) : Prop where
  out : ∃ c, c.w = w ∧ c.H = H ∧ RelH c ∧ EnvRel c e a ∧ Step c0 c
  size : a.tmps.size = N
  defers : a.defers = []

theorem envrel_put {c c' : Cx} {e : Env} {a : Act} {N : Nat} (hs : Step c c') (he : EnvRel c e a) (hN : a.tmps.size = N) {d : Option Nat} (hd : ∀ t, d = some t → t < N) {x : A} {v : Value} (hv : VR c' x v) {e' : Env}
    (hget : ∀ t, get e' t = if d = some t then some x else get e t) : EnvRel c' e' (a.put d v) := by
  intro t y hy
  rw [hget] at hy
  cases d with
  | none =>
    simp at hy
    exact VR.step hs _ _ (he t y hy)
  | some d =>
    by_cases h : d = t
    · subst h
      simp at hy
      subst hy
      have := hd d rfl
      have : (a.put (some d) v).tmps.getD d undef = v := by
        simp [Act.put, Array.getD_eq_getD_getElem?, Array.getElem?_setIfInBounds, hN, this]
      rw [this]
      exact hv
    · rw [if_neg (by simpa using h)] at hy
      have : (a.put (some d) v).tmps.getD t undef = a.tmps.getD t undef := by
        simp [Act.put, Array.getD_eq_getD_getElem?, Array.getElem?_setIfInBounds, h]
      rw [this]
      exact VR.step hs _ _ (he t y hy)

theorem put_size (a : Act) (d : Option Nat) (v : Value) : (a.put d v).tmps.size = a.tmps.size := by cases d <;> simp [Act.put]
theorem put_defers (a : Act) (d : Option Nat) (v : Value) : (a.put d v).defers = a.defers := by cases d <;> rfl

section
variable {P : Program} {S : FuncId → Bool} {ops : Array Oper} {is : List IOper} {bf : List Nat} {cs : List Cl} {N : Nat} {e e' : Env} {H H' : List Blk} {E : Nat → Env} {G : Nat → List Blk} {V : Nat → A} {D : Nat → Dl} {X : Nat → Bool}

/-- In order. -/
theorem ops_order {Q : Exit → Act → World → Prop} (c0 : Cx) (hg0 : Gd P c0) : ∀ (os : List Oper) (is : List IOper) (ns : List Nat), os.length = is.length → ns.length = is.length → (∀ (j : Nat) (o : Oper) (i : IOper), os[j]? = some o → is[j]? = some i → okOne P ops N o i = true) →
    (∀ (j n : Nat), ns[j]? = some n → ops[n]? = os[j]?) → ∀ (e : Env) (H : List Blk) (cs : List Cl), runOps P S is e H cs e' H' →
    (∀ a w, Inv c0 N e' (fun b => H'[b]?) a w → Q .normal a w) → ∀ a w, Inv c0 N e (fun b => H[b]?) a w → wpOps P ops Q ns a w
  | [], is, ns, hl, hn, hok, hops, e, H, cs, hrun, hQ, a, w, hI => by
    cases is with
    | cons i is => simp at hl
    | nil =>
      cases ns with
      | cons n ns => simp at hn
      | nil =>
        obtain ⟨_, rfl, rfl⟩ := hrun
        exact hQ a w hI
  | o :: os, is, ns, hl, hn, hok, hops, e, H, cs, hrun, hQ, a, w, hI => by
    cases is with
    | nil => simp at hl
    | cons i is =>
      cases ns with
      | nil => simp at hn
      | cons n ns =>
        have hone := hok 0 o i rfl rfl
        obtain ⟨h1, h2, h3, h4⟩ := okOne.out hone
        have hop : ops[n]? = some o := hops 0 n rfl
        obtain ⟨⟨c, rfl, hH, hr, he, hs⟩, hN, hD⟩ := hI
        have next := ops_order (Q := Q) c0 hg0 os is ns (by simpa using hl) (by simpa using hn) (fun j o' i' ho hi => hok (j + 1) o' i' (by simpa using ho) (by simpa using hi)) (fun j n' hj => hops (j + 1) n' (by simpa using hj))
        simp only [runOps] at hrun
        obtain ⟨cs', hrun⟩ := hrun
        simp only [wpOps, hop]
        split at hrun
        · rename_i hg
          obtain ⟨v, d, g1, g2, g3⟩ := hrun
          rw [wanted_eq he h3 hg, if_pos rfl]
          left
          have hgo := step_goes (hg0.step hs) hr he (fun b k h => .inr (by rw [hH]; exact h)) h1 g1 (fun _ => hH) (fun _ b h1 h2 => by rw [hH]; exact List.getElem?_eq_none h1)
          refine hgo _ _ (fun u c' q1 q2 q3 q4 => ?_)
          rw [hH, on_app d H (stepR_dl g1).1] at q4
          refine next (put e i.dst v) (d.app H) cs' g3 hQ _ _ ⟨⟨c', rfl, q4, q2, ?_, hs.trans q3⟩, by rw [put_size, hN], by rw [put_defers, hD]⟩
          rw [h2]
          exact envrel_put q3 he hN h4 q1 (get_put e i.dst v)
        · rename_i hg
          rw [wanted_eq he h3 hg]
          simp only [Bool.false_eq_true, if_false]
          refine next (put e i.dst undefA) H cs' hrun.2 hQ _ _ ⟨⟨c, rfl, hH, hr, ?_, hs⟩, by rw [put_size, hN], by rw [put_defers, hD]⟩
          rw [h2]
          exact envrel_put (Step.refl c) he hN h4 (x := undefA) ⟨#[], rfl, by simp [VRs]⟩ (get_put e i.dst undefA)
        · exact hrun.elim

def lst (L : Array Bool) (i : Nat) : Bool := L.getD i true

theorem count_lt {p q : Nat → Bool} : ∀ (l : List Nat) (j : Nat), j ∈ l → l.Nodup → p j = true → q j = false → (∀ i, i ≠ j → q i = p i) → l.countP q + 1 = l.countP p
  | [], j, h, _, _, _, _ => by cases h
  | x :: l, j, h, hn, hp, hq, heq => by
    simp only [List.countP_cons]
    simp only [List.nodup_cons] at hn
    by_cases hx : x = j
    · subst hx
      have : l.countP q = l.countP p := List.countP_congr fun y hy => by
        have : y ≠ x := fun h => hn.1 (h ▸ hy)
        rw [heq y this]
      simp [hp, hq, this]
    · have hj : j ∈ l := by cases h; exact absurd rfl hx; assumption
      have ih := count_lt l j hj hn.2 hp hq heq
      rw [heq x hx]
      omega

theorem any_order (F : Facts ops is bf cs G D) (q : Seq P S is e H cs e' H' E G V D X) (hok : okReg P ops is N = true) {Q : Exit → Act → World → Prop} (c0 : Cx) (hg0 : Gd P c0) (hQ : ∀ a w, Inv c0 N e' (fun b => H'[b]?) a w → Q .normal a w) :
    ∀ (fuel : Nat) (L : Array Bool) (a : Act) (w : World), L.size = is.length → Closed bf is.length (lst L) → (List.range is.length).countP (fun i => !lst L i) = fuel →
      Inv c0 N (eAt (dstOf is) V e (lst L) is.length) (hAt G D H (lst L) is.length) a w → wpAny P .any ops Q fuel L a w := by
  have hlen := F.len
  obtain ⟨_, hones⟩ := okAll.get hok
  have hall : ∀ L : Array Bool, (∀ i, i < is.length → lst L i = true) → ∀ a w, Inv c0 N (eAt (dstOf is) V e (lst L) is.length) (hAt G D H (lst L) is.length) a w → Q .normal a w := by
    intro L hL a w hI
    have h1 : hAt G D H (lst L) is.length = fun b => H'[b]? := by
      rw [hAt_eq F q.g0 (Nat.le_refl _) fun i hi _ => .inl (hL i hi), q.gn]
    have h2 : eAt (dstOf is) V e (lst L) is.length = e' := by
      rw [← q.en]
      have : ∀ n, n ≤ is.length → eAt (dstOf is) V e (lst L) n = E n := by
        intro n
        induction n with
        | zero => intro _; simp only [eAt, q.e0]
        | succ n ih =>
          intro hn
          obtain ⟨b, hb⟩ : ∃ b, is[n]? = some b := ⟨_, List.getElem?_eq_getElem (by omega)⟩
          simp only [eAt, hL n (by omega), if_true, ih (by omega), q.es n b hb]
          simp [dstOf, hb]
      exact this _ (Nat.le_refl _)
    rw [h1, h2] at hI
    exact hQ a w hI
  have hready : ∀ L : Array Bool, L.size = is.length → Region.ready .any ops L = [] → ∀ i, i < is.length → lst L i = true := by
    intro L hL hr i
    induction i using Nat.strongRecOn with
    | _ i ih =>
      intro hi
      cases hp : lst L i with
      | true => rfl
      | false =>
        exfalso
        have hmem : i ∈ Region.ready .any ops L := by
          unfold Region.ready
          refine List.mem_filter.2 ⟨List.mem_range.2 (by omega), ?_⟩
          obtain ⟨o, ho⟩ : ∃ o, ops[i]? = some o := ⟨_, Array.getElem?_eq_getElem (by omega)⟩
          have hp' : L.getD i true = false := hp
          simp only [hp', Bool.not_false, Bool.true_and, ho, Option.map_some, Option.getD_some]
          rw [← Array.all_toList]
          refine List.all_eq_true.2 fun x hx => ?_
          cases hb : Region.binds .any x with
          | false => rfl
          | true =>
            have hlt := F.f4 i o ho x hx hb
            have := ih x.on hlt (by omega)
            simp only [lst] at this
            simp only [Bool.not_true, Bool.false_or]
            rw [Array.getD_eq_getD_getElem?] at this ⊢
            rw [Array.getElem?_eq_getElem (by omega : x.on < L.size)] at this ⊢
            simpa using this
        rw [hr] at hmem
        cases hmem
  intro fuel
  induction fuel with
  | zero =>
    intro L a w hL hcl hc hI
    have hLall : ∀ i, i < is.length → lst L i = true := by
      intro i hi
      have := List.countP_eq_zero.1 hc i (List.mem_range.2 hi)
      simpa using this
    refine ⟨?_, hall L hLall a w hI⟩
    refine List.eq_nil_iff_forall_not_mem.2 fun i hi => ?_
    unfold Region.ready at hi
    obtain ⟨h1, h2⟩ := List.mem_filter.1 hi
    have := hLall i (by have := List.mem_range.1 h1; omega)
    simp only [lst] at this
    rw [this] at h2
    simp at h2
  | succ fuel ih =>
    intro L a w hL hcl hc hI
    refine ⟨fun hr => hall L (hready L hL hr) a w hI, fun j hj => ?_⟩
    unfold Region.ready at hj
    obtain ⟨h1, h2⟩ := List.mem_filter.1 hj
    have hjn : j < is.length := by have := List.mem_range.1 h1; omega
    obtain ⟨o, ho⟩ : ∃ o, ops[j]? = some o := ⟨_, Array.getElem?_eq_getElem (by omega)⟩
    obtain ⟨b, hb⟩ : ∃ b, is[j]? = some b := ⟨_, List.getElem?_eq_getElem hjn⟩
    simp only [ho, Option.map_some, Option.getD_some, Bool.and_eq_true, Bool.not_eq_true'] at h2
    obtain ⟨hpj, haft⟩ := h2
    have hpj' : lst L j = false := hpj
    have hbef : ∀ i, bit bf i j = true → lst L i = true := by
      intro i hbit
      obtain ⟨hij, o', ho', x, hx, hb1, hb2⟩ := F.f1 i j (by omega) hbit
      rw [ho] at ho'
      cases ho'
      rw [← Array.all_toList] at haft
      have := List.all_eq_true.1 haft x hx
      simp only [hb1, Bool.not_true, Bool.false_or] at this
      have hxl : lst L x.on = true := by
        simp only [lst]
        rw [Array.getD_eq_getD_getElem?] at this ⊢
        cases h : L[x.on]? with
        | none => rfl
        | some v => rw [h] at this; simpa using this
      rcases hb2 with rfl | hb2
      · exact hxl
      · exact hcl x.on (by have := F.f4 j o ho x hx hb1; omega) hxl i hb2
    have hone := hones j o b (by simpa using ho) hb
    obtain ⟨g1, g2, g3, g4⟩ := okOne.out hone
    have hset : lst (L.setIfInBounds j true) j = true := by simp [lst, Array.getD_eq_getD_getElem?, Array.getElem?_setIfInBounds, hL, hjn]
    have hset' : ∀ i, i ≠ j → lst (L.setIfInBounds j true) i = lst L i := fun i hi => by
      simp only [lst, Array.getD_eq_getD_getElem?, Array.getElem?_setIfInBounds, if_neg (Ne.symm hi)]
    have hcl' : Closed bf is.length (lst (L.setIfInBounds j true)) := by
      intro j' hj' hp i hbit
      by_cases hi : i = j
      · rw [hi]; exact hset
      · rw [hset' i hi]
        by_cases hjj : j' = j
        · rw [hjj] at hbit; exact hbef i hbit
        · rw [hset' j' hjj] at hp; exact hcl j' hj' hp i hbit
    have hc' : (List.range is.length).countP (fun i => !lst (L.setIfInBounds j true) i) = fuel := by
      have := count_lt (p := fun i => !lst L i) (q := fun i => !lst (L.setIfInBounds j true) i) (List.range is.length) j (List.mem_range.2 hjn) List.nodup_range (by simp [hpj']) (by simp [hset]) (fun i hi => by simp [hset' i hi])
      omega
    have next := ih (L.setIfInBounds j true)
    obtain ⟨⟨c, rfl, hH, hr, he, hs⟩, hN, hD⟩ := hI
    have hgd : gd (eAt (dstOf is) V e (lst L) is.length) b.g = some (X j) := by
      rw [← q.gd j b hb]
      exact gd_congr fun t ht => env_agree F q hcl hb hpj' hbef (by simp only [names, List.mem_append]; exact .inr (.inr ht))
    have hwant := wanted_eq he g3 hgd
    unfold wpOp
    simp only [ho, hwant]
    cases hX : X j with
    | true =>
      simp only [if_true]
      left
      refine one_op F q hcl (hg0.step hs) hr he hH hb hpj' hbef g1 hX _ _ (fun u c' q1 q2 q3 q4 => ?_)
      refine next _ _ (by simp [hL]) hcl' hc' ⟨⟨c', rfl, ?_, q2, ?_, hs.trans q3⟩, by rw [put_size, hN], by rw [put_defers, hD]⟩
      · rw [q4, hH]; exact (heap_insert F hcl hjn hpj' hset hset').symm
      · rw [g2]; exact envrel_put q3 he hN g4 q1 (env_insert F hcl hb hpj' hset hset')
    | false =>
      simp only [Bool.false_eq_true, if_false]
      obtain ⟨n1, n2, n3⟩ := q.no j hjn hX
      refine next _ _ (by simp [hL]) hcl' hc' ⟨⟨c, rfl, ?_, hr, ?_, hs⟩, by rw [put_size, hN], by rw [put_defers, hD]⟩
      · rw [hH, heap_insert F hcl hjn hpj' hset hset', n2]; rfl
      · rw [g2]
        refine envrel_put (Step.refl c) he hN g4 (x := V j) ?_ (env_insert F hcl hb hpj' hset hset')
        rw [n1]; exact ⟨#[], rfl, by simp [VRs]⟩

/-- A region, drawn or not. -/
theorem region_sound (hm : P.follows .mixedOrders = true) (hok : okReg P ops is N = true) {draw : Bool} (hdr : draw = true → bfOk ops is bf = true ∧ regOk bf cs = true) (hrun : runOps P S is e H cs e' H') {Q : Exit → Act → World → Prop} (c0 : Cx) (hg0 : Gd P c0)
    (hQ : ∀ a w, Inv c0 N e' (fun b => H'[b]?) a w → Q .normal a w) {id : Nat} {a : Act} {w : World} (hI : Inv c0 N e (fun b => H[b]?) a w) : (Code.region id ops draw).wp P Q a w := by
  obtain ⟨hl, hones⟩ := okAll.get hok
  simp at hl
  cases draw with
  | false =>
    refine wp_region (ops_order c0 hg0 ops.toList is (List.range ops.size) (by simpa using hl) (by simpa using hl) hones (fun j n hj => ?_) e H cs hrun hQ a w hI)
    have hjl : j < ops.size := by
      rcases Nat.lt_or_ge j ops.size with h | h
      · exact h
      · rw [List.getElem?_eq_none (by simpa using h)] at hj; cases hj
    simp [hjl] at hj
    subst hj
    simp
  | true =>
    obtain ⟨h1, h2⟩ := hdr rfl
    obtain ⟨E, G, V, D, X, q⟩ := run_seq hrun
    have F := facts hok h1 h2 q
    refine wp_region_any hm ?_
    have hI' : Inv c0 N e (fun b => H[b]?) a { w with drawn := w.drawn + 1 } := by
      obtain ⟨⟨c, rfl, hH, hr, he, hs⟩, hN, hD⟩ := hI
      obtain ⟨j1, j2⟩ := T_drew hr (c.w.drawn + 1)
      exact ⟨⟨{ c with w := { c.w with drawn := c.w.drawn + 1 } }, rfl, hH, j1, fun t x hx => VR.step j2 _ _ (he t x hx), hs.trans j2⟩, hN, hD⟩
    have hlst : ∀ i, i < is.length → lst (Array.replicate ops.size false) i = false := by
      intro i hi
      simp [lst, Array.getD_eq_getD_getElem?, Array.getElem?_replicate, hl, hi]
    rw [hl] at hlst ⊢
    refine any_order F q hok c0 hg0 hQ is.length _ a _ (by simp) (fun j hj hp => by rw [hlst j hj] at hp; cases hp) ?_ ?_
    · rw [List.countP_eq_length.2]
      · simp
      · intro i hi; rw [hlst i (List.mem_range.1 hi)]; rfl
    · have e1 : eAt (dstOf is) V e (lst (Array.replicate is.length false)) is.length = e := by
        have : ∀ n, n ≤ is.length → eAt (dstOf is) V e (lst (Array.replicate is.length false)) n = e := by
          intro n
          induction n with
          | zero => intro _; rfl
          | succ n ih => intro hn; simp only [eAt, hlst n (by omega), Bool.false_eq_true, if_false]; exact ih (by omega)
        exact this _ (Nat.le_refl _)
      have e2 : hAt G D H (lst (Array.replicate is.length false)) is.length = fun b => H[b]? := by
        have : ∀ n, n ≤ is.length → hAt G D H (lst (Array.replicate is.length false)) n = fun b => H[b]? := by
          intro n
          induction n with
          | zero => intro _; rfl
          | succ n ih => intro hn; simp only [hAt, hlst n (by omega), Bool.false_eq_true, if_false]; exact ih (by omega)
        exact this _ (Nat.le_refl _)
      rw [e1, e2]
      exact hI'
end
end Go.Sym
