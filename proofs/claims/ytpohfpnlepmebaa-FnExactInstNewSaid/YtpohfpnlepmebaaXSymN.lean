/- A region of operations, in whatever order they are drawn, does what its operations do one behind the other. Conditions: the checks okReg, bfOk, regOk. -/
import Derived.Test.YtpohfpnlepmebaaXSymM
set_option linter.unusedVariables false
set_option linter.unusedSimpArgs false
namespace Go.Sym
open Go.RowKit

def gOk (ops : Array Oper) (o : Oper) (i : IOper) : Bool :=
  match o.guard, i.g with
  | none, none => true
  | some (k, w), some (t, w') => w == w' && (ops[k]?).bind (·.dst) == some t
  | _, _ => false

def okOne (P : Program) (ops : Array Oper) (N : Nat) (o : Oper) (i : IOper) : Bool :=
  okOp P o.op i.op && o.dst == i.dst && gOk ops o i && (match i.dst with | some d => decide (d < N) | none => true)

def okAll (P : Program) (ops : Array Oper) (N : Nat) : List Oper → List IOper → Bool
  | [], [] => true
  | o :: os, i :: is => okOne P ops N o i && okAll P ops N os is
  | _, _ => false

def okReg (P : Program) (ops : Array Oper) (is : List IOper) (N : Nat) : Bool := okAll P ops N ops.toList is

theorem okAll.get {P : Program} {ops : Array Oper} {N : Nat} : ∀ {os : List Oper} {is : List IOper}, okAll P ops N os is = true → os.length = is.length ∧ ∀ (j : Nat) (o : Oper) (i : IOper), os[j]? = some o → is[j]? = some i → okOne P ops N o i = true
  | [], is, h => by cases is <;> simp [okAll] at h; exact ⟨rfl, fun j o i h => by simp at h⟩
  | o :: os, [], h => by simp [okAll] at h
  | o :: os, i :: is, h => by
    simp [okAll] at h
    obtain ⟨h1, h2⟩ := okAll.get h.2
    refine ⟨by simp [h1], fun j o' i' ho hi => ?_⟩
    cases j with
    | zero => simp at ho hi; subst ho hi; exact h.1
    | succ j => exact h2 j o' i' (by simpa using ho) (by simpa using hi)

def clash (a b : IOper) : Bool :=
  (match a.dst with | some d => (names b).contains d | none => false) || (match b.dst with | some d => (names a).contains d | none => false)

/-- What stands ahead of an operation (as bits). -/
def bit (bf : List Nat) (i j : Nat) : Bool := (bf.getD j 0).testBit i

def bfOk (ops : Array Oper) (is : List IOper) (bf : List Nat) : Bool :=
  (List.range ops.size).all fun j =>
    (match ops[j]? with | some o => o.after.toList.all (fun e => !Region.binds .any e || decide (e.on < j)) | none => false) &&
    ((List.range j).all fun i => (!bit bf i j || (match ops[j]? with | some o => o.after.toList.any fun e => Region.binds .any e && (e.on == i || bit bf i e.on) | none => false)) &&
      (match is[i]?, is[j]? with | some a, some b => !clash a b || bit bf i j | _, _ => false)) &&
    decide (bf.getD j 0 < 2 ^ j)

/-- Two operations of which one writes what the other one looks at. -/
def clashC (a b : Cl) : Bool := ((a.n == 2 && b.n != 0) || (b.n == 2 && a.n != 0))
def safeC (a b : Cl) : Bool := match a.fp with
  | some q => b.n == 2 && !b.tw.contains q
  | none => false
def regOk (bf : List Nat) (cs : List Cl) : Bool :=
  (List.range cs.length).all fun j => (List.range j).all fun i =>
    bit bf i j || (!clashC (cn cs i) (cn cs j) || (safeC (cn cs i) (cn cs j) || safeC (cn cs j) (cn cs i)))

def eAt (dst : Nat → Option Nat) (V : Nat → A) (e : Env) (p : Nat → Bool) : Nat → Env
  | 0 => e
  | i + 1 => if p i then put (eAt dst V e p i) (dst i) (V i) else eAt dst V e p i

def hAt (G : Nat → List Blk) (D : Nat → Dl) (H : List Blk) (p : Nat → Bool) : Nat → Nat → Option Blk
  | 0 => fun b => H[b]?
  | i + 1 => if p i then (D i).on (G i).length (hAt G D H p i) else hAt G D H p i

theorem eAt_congr {dst : Nat → Option Nat} {V : Nat → A} {e : Env} {p q : Nat → Bool} : ∀ n, (∀ i, i < n → p i = q i) → eAt dst V e p n = eAt dst V e q n
  | 0, _ => rfl
  | n + 1, h => by simp only [eAt]; rw [h n (by omega), eAt_congr n fun i hi => h i (by omega)]

theorem hAt_congr {G : Nat → List Blk} {D : Nat → Dl} {H : List Blk} {p q : Nat → Bool} : ∀ n, (∀ i, i < n → p i = q i) → hAt G D H p n = hAt G D H q n
  | 0, _ => rfl
  | n + 1, h => by simp only [hAt]; rw [h n (by omega), hAt_congr n fun i hi => h i (by omega)]

theorem on_app (d : Dl) (H : List Blk) (hs : ∀ b k, d = .set b k → b < H.length) : d.on H.length (fun b => H[b]?) = fun b => (d.app H)[b]? := by
  funext b
  cases d with
  | no => rfl
  | new k =>
    simp only [Dl.on, Dl.app, upd, List.getElem?_append]
    split
    · rename_i h; subst h; simp
    · rename_i h
      split
      · rfl
      · rename_i h'
        rw [List.getElem?_eq_none (by omega), List.getElem?_eq_none (by simp; omega)]
  | set c k =>
    simp only [Dl.on, Dl.app, upd, List.getElem?_set]
    have := hs c k rfl
    by_cases h : b = c
    · subst h; simp [this]
    · rw [if_neg h, if_neg (fun h' => h h'.symm)]
  | news ks =>
    simp only [Dl.on, Dl.app, List.getElem?_append]
    by_cases h : b < H.length
    · rw [if_pos h, if_neg (by omega)]
    · rw [if_neg h]
      split
      · rfl
      · rw [List.getElem?_eq_none (by omega), List.getElem?_eq_none (by omega)]
  | full _ H' => rfl

/-- A kind of change that only adds blocks. -/
def Dl.adds : Dl → Prop
  | .no => True
  | .new _ => True
  | .news _ => True
  | _ => False

theorem on_lt {d : Dl} (h : d.adds) {n b : Nat} (hb : b < n) (f : Nat → Option Blk) : d.on n f b = f b := by
  cases d with
  | no => rfl
  | new k => exact upd_other _ _ (by omega)
  | news ks => simp only [Dl.on]; rw [if_neg (by omega)]
  | set _ _ => exact h.elim
  | full _ _ => exact h.elim

theorem on_ge {d : Dl} (h : d.adds) {H : List Blk} {b : Nat} (hb : (d.app H).length ≤ b) (f : Nat → Option Blk) : d.on H.length f b = f b := by
  cases d with
  | no => rfl
  | new k => simp [Dl.app] at hb; exact upd_other _ _ (by omega)
  | news ks => simp [Dl.app] at hb; simp only [Dl.on]; rw [if_neg (by omega)]
  | set _ _ => exact h.elim
  | full _ _ => exact h.elim

theorem on_mid {d : Dl} (h : d.adds) {H : List Blk} {b : Nat} (h1 : H.length ≤ b) (hb : b < (d.app H).length) (f g : Nat → Option Blk) : d.on H.length f b = d.on H.length g b := by
  cases d with
  | no => simp [Dl.app] at hb; omega
  | new k => simp [Dl.app] at hb; have : b = H.length := by omega
             subst this; simp [Dl.on, upd]
  | news ks => simp [Dl.app] at hb; simp only [Dl.on]; rw [if_pos (by omega), if_pos (by omega)]
  | set _ _ => exact h.elim
  | full _ _ => exact h.elim

section
variable {P : Program} {S : FuncId → Bool} {ops : Array Oper} {is : List IOper} {bf : List Nat} {cs : List Cl} {N : Nat} {e e' : Env} {H H' : List Blk} {E : Nat → Env} {G : Nat → List Blk} {V : Nat → A} {D : Nat → Dl} {X : Nat → Bool}

def dstOf (is : List IOper) (i : Nat) : Option Nat := (is[i]?).bind (·.dst)

structure Facts (ops : Array Oper) (is : List IOper) (bf : List Nat) (cs : List Cl) (G : Nat → List Blk) (D : Nat → Dl) : Prop where
  f1 : ∀ i j, j < ops.size → bit bf i j = true → i < j ∧ ∃ o, ops[j]? = some o ∧ ∃ x ∈ o.after.toList, Region.binds .any x = true ∧ (x.on = i ∨ bit bf i x.on = true)
  f2 : ∀ i j t a b, i < j → is[i]? = some a → is[j]? = some b → (a.dst = some t ∧ t ∈ names b ∨ b.dst = some t ∧ t ∈ names a) → bit bf i j = true
  f3 : ∀ i j, i < j → j < cs.length → ((cn cs i).n = 2 ∧ (cn cs j).n ≠ 0 ∨ (cn cs j).n = 2 ∧ (cn cs i).n ≠ 0) → bit bf i j = true ∨ (∃ q, (cn cs i).fp = some q ∧ (cn cs j).n = 2 ∧ q ∉ (cn cs j).tw) ∨ ∃ q, (cn cs j).fp = some q ∧ (cn cs i).n = 2 ∧ q ∉ (cn cs i).tw
  f4 : ∀ j o, ops[j]? = some o → ∀ x ∈ o.after.toList, Region.binds .any x = true → x.on < j
  len : ops.size = is.length
  cl : cs.length = is.length
  d0 : ∀ i, i < is.length → (cn cs i).n = 0 → D i = .no
  d1 : ∀ i, i < is.length → (cn cs i).n ≠ 2 → (D i).adds
  fr : ∀ i q, i < is.length → (cn cs i).fp = some q → D i = .no ∧ (cn cs i).n = 1
  fw : ∀ i, i < is.length → ∀ q, q ∉ (cn cs i).tw → q < (G i).length → (G (i + 1))[q]? = (G i)[q]?
  ds : ∀ i, i < is.length → ∀ b k, D i = .set b k → b < (G i).length
  dl : ∀ i, i < is.length → (G i).length ≤ (G (i + 1)).length
  gs : ∀ i, i < is.length → G (i + 1) = (D i).app (G i)

theorem clsOf_le (S : FuncId → Bool) (op : IOp) (e : Env) : clsOf S op e ≤ 2 := by
  cases op <;> simp only [clsOf] <;> (repeat' split) <;> omega

theorem facts (hok : okReg P ops is N = true) (hbf : bfOk ops is bf = true) (hreg : regOk bf cs = true) (q : Seq P S is e H cs e' H' E G V D X) : Facts ops is bf cs G D := by
  obtain ⟨hlen, _⟩ := okAll.get hok
  simp at hlen
  have hb := fun j (hj : j < ops.size) => List.all_eq_true.1 hbf j (List.mem_range.2 hj)
  simp only [Bool.and_eq_true] at hb
  have hdat : ∀ i, i < is.length → ∃ o, is[i]? = some o := fun i hi => ⟨_, List.getElem?_eq_getElem hi⟩
  have hcase : ∀ i, i < is.length → (∃ o, is[i]? = some o ∧ stepR P S o.op (E i) (G i) (V i) (D i) ∧ cs[i]? = some (clD S o.op (E i) (D i))) ∨ (D i = .no ∧ cs[i]? = some cl0) := by
    intro i hi
    obtain ⟨o, ho⟩ := hdat i hi
    cases hx : X i with
    | true => exact .inl ⟨o, ho, q.yes i o ho hx⟩
    | false => exact .inr ⟨(q.no i hi hx).2.1, (q.no i hi hx).2.2⟩
  refine ⟨?_, ?_, ?_, ?_, hlen, q.cl, ?_, ?_, ?_, ?_, ?_, ?_, q.gs⟩
  · intro i j hj hbit
    obtain ⟨⟨h1, h2⟩, h3⟩ := hb j hj
    have hij : i < j := by
      rcases Nat.lt_or_ge i j with h | h
      · exact h
      · simp only [decide_eq_true_eq] at h3
        have : bf.getD j 0 < 2 ^ i := Nat.lt_of_lt_of_le h3 (Nat.pow_le_pow_right (by omega) h)
        simp only [bit, Nat.testBit_lt_two_pow this] at hbit
        cases hbit
    refine ⟨hij, ?_⟩
    have := List.all_eq_true.1 h2 i (List.mem_range.2 hij)
    simp only [Bool.and_eq_true, hbit, Bool.not_true, Bool.false_or] at this
    have h4 := this.1
    split at h4
    · rename_i o ho
      obtain ⟨x, hx, hx'⟩ := List.any_eq_true.1 h4
      simp at hx'
      exact ⟨o, ho, x, hx, hx'.1, hx'.2⟩
    · cases h4
  · intro i j t a b hij ha hbj hcl
    have hj : j < ops.size := by
      rw [hlen]
      rcases Nat.lt_or_ge j is.length with h | h
      · exact h
      · rw [List.getElem?_eq_none h] at hbj; cases hbj
    obtain ⟨⟨h1, h2⟩, h3⟩ := hb j hj
    have := List.all_eq_true.1 h2 i (List.mem_range.2 hij)
    simp only [ha, hbj, Bool.and_eq_true, Bool.or_eq_true, Bool.not_eq_true'] at this
    rcases this.2 with h | h
    · exfalso
      simp only [clash, Bool.or_eq_false_iff] at h
      rcases hcl with ⟨h4, h5⟩ | ⟨h4, h5⟩
      · rw [h4] at h; simp [h5] at h
      · rw [h4] at h; simp [h5] at h
    · exact h
  · intro i j hij hj hc
    have := List.all_eq_true.1 (List.all_eq_true.1 hreg j (List.mem_range.2 hj)) i (List.mem_range.2 hij)
    simp only [Bool.or_eq_true] at this
    have safe : ∀ a b : Cl, safeC a b = true → ∃ q, a.fp = some q ∧ b.n = 2 ∧ q ∉ b.tw := by
      intro a b h
      unfold safeC at h
      split at h
      · rename_i q hq
        simp at h
        exact ⟨q, hq, h.1, h.2⟩
      · cases h
    rcases this with h | h | h | h
    · exact .inl h
    · exfalso
      unfold clashC at h
      generalize (cn cs i).n = x at h hc
      generalize (cn cs j).n = y at h hc
      rcases hc with ⟨h1, h2⟩ | ⟨h1, h2⟩ <;> simp_all
    · exact .inr (.inl (safe _ _ h))
    · exact .inr (.inr (safe _ _ h))
  · intro j o ho x hx hbd
    have hj : j < ops.size := by
      rcases Nat.lt_or_ge j ops.size with h | h
      · exact h
      · rw [Array.getElem?_eq_none h] at ho; cases ho
    obtain ⟨⟨h1, h2⟩, h3⟩ := hb j hj
    rw [ho] at h1
    have := List.all_eq_true.1 h1 x hx
    simpa [hbd] using this
  · intro i hi hc
    rcases hcase i hi with ⟨o, ho, h1, h2⟩ | ⟨h1, h2⟩
    · rw [cn, List.getD_eq_getElem?_getD, h2] at hc
      exact (cls0 (S := S) hc h1).1
    · exact h1
  · intro i hi hc
    rcases hcase i hi with ⟨o, ho, h1, h2⟩ | ⟨h1, h2⟩
    · rw [cn, List.getD_eq_getElem?_getD, h2] at hc
      simp [clD] at hc
      have hle := clsOf_le S o.op (E i)
      rcases (by omega : clsOf S o.op (E i) = 0 ∨ clsOf S o.op (E i) = 1) with h | h
      · rw [(cls0 h h1).1]; trivial
      · rcases cls1 h h1 with h' | ⟨k, h'⟩ | ⟨ks, h'⟩ <;> rw [h'] <;> trivial
    · rw [h1]; trivial
  · intro i qq hi hq
    rcases hcase i hi with ⟨o, ho, h1, h2⟩ | ⟨h1, h2⟩
    · rw [cn, List.getD_eq_getElem?_getD, h2] at hq ⊢
      simp only [clD, Option.getD_some] at hq ⊢
      refine ⟨?_, fpOf_cls hq S⟩
      have hk : stepK o.op (E i) (G i) (fun a b => a = V i ∧ b = D i) := by
        cases hop : o.op <;> rw [hop] at hq h1 <;> first | exact h1 | (simp only [fpOf] at hq; cases hq)
      exact (stepK_fp hq hk).1
    · rw [cn, List.getD_eq_getElem?_getD, h2] at hq
      cases hq
  · intro i hi qq hq hl
    rw [q.gs i hi]
    rcases hcase i hi with ⟨o, ho, h1, h2⟩ | ⟨h1, h2⟩
    · rw [cn, List.getD_eq_getElem?_getD, h2] at hq
      exact stepR_tw h1 qq hq hl
    · rw [h1]; rfl
  · intro i hi b k hd
    rcases hcase i hi with ⟨o, ho, h1, h2⟩ | ⟨h1, h2⟩
    · exact (stepR_dl h1).1 b k hd
    · rw [h1] at hd; cases hd
  · intro i hi
    rw [q.gs i hi]
    rcases hcase i hi with ⟨o, ho, h1, h2⟩ | ⟨h1, h2⟩
    · exact (stepR_dl h1).2
    · rw [h1]; exact Nat.le_refl _

variable (F : Facts ops is bf cs G D) (hg0 : G 0 = H)
include F

theorem len_mono : ∀ {i j : Nat}, i ≤ j → j ≤ is.length → (G i).length ≤ (G j).length := by
  intro i j hij hj
  induction j with
  | zero => have : i = 0 := by omega
            subst this; exact Nat.le_refl _
  | succ j ih =>
    rcases Nat.lt_or_ge i (j + 1) with h | h
    · exact Nat.le_trans (ih (by omega) (by omega)) (F.dl j (by omega))
    · have : i = j + 1 := by omega
      subst this; exact Nat.le_refl _

include hg0

/-- What is there of the blocks lies below the list's length. -/
theorem hAt_dom {p : Nat → Bool} : ∀ {n : Nat}, n ≤ is.length → ∀ b, (G n).length ≤ b → hAt G D H p n b = none
  | 0, _, b, hb => by simp only [hAt]; rw [hg0] at hb; exact List.getElem?_eq_none hb
  | n + 1, hn, b, hb => by
    have hle := F.dl n (by omega)
    have ih := hAt_dom (p := p) (n := n) (by omega) b (by omega)
    simp only [hAt]
    split
    · cases hd : D n with
      | no => simp only [Dl.on]; exact ih
      | new k => rw [F.gs n (by omega), hd] at hb; rw [on_ge (by trivial) hb]; exact ih
      | news ks => rw [F.gs n (by omega), hd] at hb; rw [on_ge (by trivial) hb]; exact ih
      | set c k =>
        have := F.ds n (by omega) c k hd
        simp only [Dl.on]
        rw [upd_other _ _ (by omega)]; exact ih
      | full T2 H2 =>
        rw [F.gs n (by omega), hd] at hb
        simp only [Dl.on]
        exact List.getElem?_eq_none hb
    · exact ih

/-- What is there is as the list says, where all that writes has been done. -/
theorem hAt_sub {p : Nat → Bool} : ∀ {n : Nat}, n ≤ is.length → (∀ i, i < n → (cn cs i).n = 2 → p i = true) → ∀ b k, (G n)[b]? = some k → hAt G D H p n b = none ∨ hAt G D H p n b = some k
  | 0, _, _, b, k, hb => by simp only [hAt]; rw [hg0] at hb; exact .inr hb
  | n + 1, hn, hw, b, k, hb => by
    have ih := hAt_sub (p := p) (n := n) (by omega) (fun i hi => hw i (by omega))
    have hgs := F.gs n (by omega)
    by_cases hlt : b < (G n).length
    · -- an old block
      simp only [hAt]
      split
      · by_cases ha : (D n).adds
        · rw [on_lt ha hlt]
          have : (G n)[b]? = some k := by
            have h1 := congrFun (on_app (D n) (G n) (F.ds n (by omega))) b
            rw [on_lt ha hlt, ← hgs, hb] at h1
            exact h1
          exact ih b k this
        · cases hd : D n with
          | no => rw [hd] at ha; exact absurd trivial ha
          | new _ => rw [hd] at ha; exact absurd trivial ha
          | news _ => rw [hd] at ha; exact absurd trivial ha
          | set c k2 =>
            rw [hgs, hd] at hb
            simp only [Dl.app, List.getElem?_set] at hb
            simp only [Dl.on, upd]
            by_cases h : b = c
            · subst h
              rw [if_pos rfl, if_pos hlt] at hb
              rw [if_pos rfl]; exact .inr hb
            · rw [if_neg (fun h' => h h'.symm)] at hb
              rw [if_neg h]; exact ih b k hb
          | full T2 H2 => rw [hgs, hd] at hb; simp only [Dl.on]; exact .inr hb
      · rename_i hp
        have hc2 : (cn cs n).n ≠ 2 := fun h => hp (hw n (by omega) h)
        have ha := F.d1 n (by omega) hc2
        have : (G n)[b]? = some k := by
          have h1 := congrFun (on_app (D n) (G n) (F.ds n (by omega))) b
          rw [on_lt ha hlt, ← hgs, hb] at h1
          exact h1
        exact ih b k this
    · -- a new one
      simp only [hAt]
      split
      · have hnone := hAt_dom F hg0 (p := p) (n := n) (by omega) b (by omega)
        have h1 := congrFun (on_app (D n) (G n) (F.ds n (by omega))) b
        rw [← hgs, hb] at h1
        cases hd : D n with
        | no => rw [hd] at h1; simp only [Dl.on] at h1 ⊢; rw [List.getElem?_eq_none (by omega)] at h1; cases h1
        | new _ => rw [hd] at h1; rw [on_mid (d := .new _) trivial (by omega) (by rw [← hd, ← hgs]; rcases Nat.lt_or_ge b (G (n+1)).length with h | h; exact h; rw [List.getElem?_eq_none h] at hb; cases hb) _ (fun b => (G n)[b]?)]; exact .inr h1
        | news _ => rw [hd] at h1; rw [on_mid (d := .news _) trivial (by omega) (by rw [← hd, ← hgs]; rcases Nat.lt_or_ge b (G (n+1)).length with h | h; exact h; rw [List.getElem?_eq_none h] at hb; cases hb) _ (fun b => (G n)[b]?)]; exact .inr h1
        | set c k2 => rw [hgs, hd] at hb; simp [Dl.app] at hb; have := List.getElem?_eq_none (l := (G n)) (i := b) (by omega); simp [List.getElem?_set, this] at hb; omega
        | full T2 H2 => rw [hgs, hd] at hb; simp only [Dl.on]; exact .inr hb
      · exact .inl (hAt_dom F hg0 (by omega) b (by omega))

/-- Where all that looks at rows has been done, all is as the list says. -/
theorem hAt_eq {p : Nat → Bool} : ∀ {n : Nat}, n ≤ is.length → (∀ i, i < n → (cn cs i).n ≠ 0 → p i = true ∨ D i = .no) → hAt G D H p n = fun b => (G n)[b]?
  | 0, _, _ => by simp only [hAt, hg0]
  | n + 1, hn, hw => by
    have ih := hAt_eq (p := p) (n := n) (by omega) (fun i hi => hw i (by omega))
    simp only [hAt, ih]
    split
    · rw [on_app _ _ (F.ds n (by omega)), ← F.gs n (by omega)]
    · rename_i hp
      have h0 : D n = .no := by
        by_cases h : (cn cs n).n = 0
        · exact F.d0 n (by omega) h
        · rcases hw n (by omega) h with h' | h'
          · exact absurd h' hp
          · exact h'
      rw [F.gs n (by omega), h0]
      rfl
end
end Go.Sym
