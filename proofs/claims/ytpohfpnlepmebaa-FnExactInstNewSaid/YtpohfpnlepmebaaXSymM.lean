/- What the kinds of operations tell of what they write. Conditions: those that each theorem names. -/
import Derived.Test.YtpohfpnlepmebaaXSymL
set_option linter.unusedVariables false
set_option linter.unusedSimpArgs false
namespace Go.Sym
def Dl.adds' : Dl → Prop
  | .no | .new _ | .news _ => True
  | _ => False

theorem ldK_no {ag : Option Nat} {cs : List A} {v : A} {d : Dl} (h : ldK ag cs (fun y => y = v ∧ Dl.no = d)) : d = .no := by
  cases ag with
  | none => obtain ⟨_, _, _, h⟩ := h; exact h.symm
  | some n => exact h.2.2.symm

theorem ldK_no' {ag : Option Nat} {cs : List A} {v : A} {d : Dl} (h : ldK ag cs (fun y => y = v ∧ Dl.no = d)) : ldK ag cs (fun y => y = v ∧ Dl.no = Dl.no) := by
  cases ag with
  | none => obtain ⟨x, h1, h2, _⟩ := h; exact ⟨x, h1, h2, rfl⟩
  | some n => exact ⟨h.1, h.2.1, rfl⟩

theorem binK_no {op : BinOp} {x y v : A} {d : Dl} (h : binK op x y (fun r => r = v ∧ Dl.no = d)) : d = .no := by
  obtain ⟨z, h1, h2, h3⟩ := binK_one h
  exact h3.symm

/-- What an operation that is no call may write. -/
theorem stepK_dl (S : FuncId → Bool) {op : IOp} {e : Env} {H : List Blk} {v : A} {d : Dl} (h : stepK op e H (fun a b => a = v ∧ b = d)) :
    d = .no ∨ (clsOf S op e ≠ 0 ∧ ∃ k, d = .new k) ∨ (clsOf S op e = 2 ∧ ∃ b k, d = .set b k ∧ b < H.length) := by
  have lt : ∀ {b : Nat} {k : Blk}, H[b]? = some k → b < H.length := by
    intro b k hk
    rcases Nat.lt_or_ge b H.length with h' | h'
    · exact h'
    · rw [List.getElem?_eq_none h'] at hk; cases hk
  cases op with
  | slc esz x lo hi mx =>
    cases mx <;> simp only [stepK] at h <;> (repeat' split at h) <;> first
      | exact h.elim
      | exact .inl h.2.2.2.2.symm
      | exact .inl h.2.2.2.2.2.2.symm
  | app esz bytes x y =>
    simp only [stepK] at h
    split at h
    · rename_i hx _
      split at h
      · rename_i hk
        exact .inr (.inr ⟨by simp [clsOf, hx], _, _, h.2.2.2.2.2.2.2.2.2.2.symm, lt hk⟩)
      · exact h.elim
    · rename_i hx _
      obtain ⟨_, _, _, _, h⟩ := h
      split at h
      · exact .inl h.2.symm
      · exact .inr (.inl ⟨by simp [clsOf, hx], _, h.2.symm⟩)
    · exact h.elim
  | st sz x y =>
    simp only [stepK] at h
    split at h
    · split at h
      · rename_i hk
        exact .inr (.inr ⟨rfl, _, _, h.2.2.2.2.2.2.symm, lt hk⟩)
      · exact h.elim
    · exact h.elim
  | frz x =>
    simp only [stepK] at h
    split at h
    · split at h
      · rename_i hk
        exact .inr (.inr ⟨rfl, _, _, h.2.2.2.2.symm, lt hk⟩)
      · exact h.elim
    · exact h.elim
  | pick c a b =>
    simp only [stepK] at h
    split at h
    · rename_i t _
      cases t <;> simp only [Bool.false_eq_true, if_false, if_true] at h <;> split at h <;> first
        | exact h.elim
        | exact .inl h.2.symm
    · exact h.elim
  | bin op x y =>
    simp only [stepK] at h
    split at h
    · exact .inl (binK_no h)
    · exact h.elim
  | ld ag x =>
    simp only [stepK] at h
    repeat' split at h
    all_goals first
      | exact h.elim
      | exact .inl (ldK_no h)
      | exact .inl (ldK_no h.2)
  | fld off ag x =>
    simp only [stepK] at h
    repeat' split at h
    all_goals first
      | exact h.elim
      | exact .inl (ldK_no h)
  | idxa len esz ag x i =>
    simp only [stepK] at h
    repeat' split at h
    all_goals first
      | exact h.elim
      | exact .inl (ldK_no h.2.2)
  | eqb neg x y =>
    simp only [stepK] at h
    split at h
    · exact .inl h.2.symm
    · exact h.elim
  | eqs neg n x y =>
    simp only [stepK] at h
    split at h
    · split at h
      · exact .inl h.2.symm
      · exact h.elim
    · exact h.elim
  | call f xs => exact h.elim
  | cv g xs => exact h.elim
  | isn neg x =>
    simp only [stepK] at h
    split at h
    · split at h <;> exact .inl h.2.symm
    · exact .inl h.2.symm
    · exact h.elim
  | ise neg x =>
    simp only [stepK] at h
    split at h
    · exact .inl h.2.symm
    · exact h.elim
  | b2s x =>
    have key : ∀ {n : Nat} {cs : List A}, strK n cs (fun a b => a = v ∧ b = d) → d = .no := by
      intro n cs h
      unfold strK at h
      split at h
      · exact h.2.2.symm
      · exact h.elim
    simp only [stepK] at h
    repeat' split at h
    all_goals first
      | exact h.elim
      | exact .inl (key h)
      | exact .inl (key h.2)
      | exact .inl h.2.symm
  | mkm st => simp only [stepK] at h; exact .inr (.inl ⟨by simp [clsOf], _, h.2.symm⟩)
  | mlk st m k =>
    simp only [stepK] at h
    repeat' split at h
    all_goals first
      | exact h.elim
      | exact .inl h.2.2.symm
  | men st m k =>
    simp only [stepK] at h
    repeat' split at h
    all_goals first
      | exact h.elim
      | exact .inl h.2.2.symm
  | mup st m k x =>
    simp only [stepK] at h
    repeat' split at h
    all_goals first
      | exact h.elim
      | exact .inr (.inr ⟨rfl, _, _, h.2.2.symm, lt ‹_›⟩)
  | mst st m s x =>
    simp only [stepK] at h
    repeat' split at h
    all_goals first
      | exact h.elim
      | exact .inr (.inr ⟨rfl, _, _, h.2.2.symm, lt ‹_›⟩)
  | new zs => simp only [stepK] at h; exact .inr (.inl ⟨by simp [clsOf], _, h.2.symm⟩)
  | box zs => simp only [stepK] at h; split at h; exact .inr (.inl ⟨by simp [clsOf], _, h.2.symm⟩); exact h.elim
  | bsl _ n _ _ =>
    simp only [stepK] at h
    by_cases hn : n = 0
    · rw [if_pos hn] at h
      exact .inl h.2.2.symm
    rw [if_neg hn] at h
    repeat' split at h
    all_goals first
      | exact h.elim
      | exact .inr (.inl ⟨by simp [clsOf, hn], _, h.2.symm⟩)
  | mk _ _ _ _ _ =>
    simp only [stepK] at h
    repeat' split at h
    all_goals first
      | exact h.elim
      | exact .inr (.inl ⟨by simp [clsOf], _, h.2.2.2.2.2.symm⟩)
  | ext x i =>
    simp only [stepK] at h
    split at h
    · obtain ⟨_, _, _, h⟩ := h; exact .inl h.symm
    · exact h.elim
  | idxs x i =>
    simp only [stepK] at h
    split at h
    · obtain ⟨_, _, _, _, h⟩ := h; exact .inl h.symm
    · exact h.elim
  | _ =>
    simp only [stepK] at h
    repeat' split at h
    all_goals first
      | exact h.elim
      | exact .inl h.2.symm
      | exact .inl h.2.2.symm
      | exact .inl h.2.2.2.symm
      | exact .inl h.2.2.2.2.symm

theorem stepK_pure {S : FuncId → Bool} {op : IOp} {e : Env} (hc : clsOf S op e = 0) (H : List Blk) (K : A → Dl → Prop) : stepK op e H K = stepK op e [] K := by
  cases op with
  | call f xs => rfl
  | cv g xs => rfl
  | mkm st => cases hc
  | mlk _ _ _ => cases hc
  | men _ _ _ => cases hc
  | mst _ _ _ _ => cases hc
  | mup _ _ _ _ => cases hc
  | new zs => cases hc
  | box zs => cases hc
  | bsl _ n _ _ =>
    simp only [clsOf] at hc
    by_cases hn : n = 0
    · simp only [stepK, if_pos hn]
    · rw [if_neg hn] at hc; cases hc
  | mk _ _ _ _ _ => cases hc
  | st _ _ _ => cases hc
  | frz _ => cases hc
  | app esz bytes x y => simp only [clsOf] at hc; split at hc <;> cases hc
  | ld ag x =>
    simp only [clsOf] at hc
    split at hc
    · rename_i hx; simp only [stepK, hx]
    · cases hc
  | iad esz x i =>
    simp only [clsOf] at hc
    split at hc
    · rename_i hx
      simp only [stepK, hx]
      cases ev e i with
      | none => rfl
      | some y => cases y <;> rfl
    · cases hc
  | b2s x =>
    simp only [clsOf] at hc
    split at hc
    · cases hc
    · rename_i hx
      cases hv : ev e x with
      | none => simp only [stepK, hv]
      | some y => cases y <;> first
        | exact absurd hv (hx _ _ _ _)
        | simp only [stepK, hv]
  | slc esz x lo hi mx =>
    simp only [clsOf] at hc
    split at hc
    · cases hc
    · rename_i hx
      cases mx with
      | some m => rfl
      | none =>
        cases hv : ev e x with
        | none => simp only [stepK, hv]
        | some y => cases y <;> first
          | exact absurd hv (hx _ _ _ _)
          | simp only [stepK, hv]
  | _ => rfl

theorem cls0 {P : Program} {S : FuncId → Bool} {op : IOp} {e : Env} {H : List Blk} {v : A} {d : Dl} (hc : clsOf S op e = 0) (h : stepR P S op e H v d) : d = .no ∧ stepR P S op e [] v .no := by
  have key : stepK op e H (fun a b => a = v ∧ b = d) → d = .no ∧ stepK op e [] (fun a b => a = v ∧ b = .no) := by
    intro h
    have hd : d = .no := by
      rcases stepK_dl S h with rfl | ⟨h', _⟩ | ⟨h', _⟩
      · rfl
      · exact absurd hc h'
      · rw [hc] at h'; cases h'
    subst hd
    rw [stepK_pure hc] at h
    exact ⟨rfl, h⟩
  cases op with
  | call f xs => simp only [clsOf] at hc; split at hc <;> cases hc
  | cv g xs =>
    obtain ⟨f, cs, as, h1, _⟩ := h
    simp only [clsOf, h1] at hc; split at hc <;> cases hc
  | _ => exact key h

theorem cls1 {P : Program} {S : FuncId → Bool} {op : IOp} {e : Env} {H : List Blk} {v : A} {d : Dl} (hc : clsOf S op e = 1) (h : stepR P S op e H v d) : d = .no ∨ (∃ k, d = .new k) ∨ ∃ ks, d = .news ks := by
  have key : stepK op e H (fun a b => a = v ∧ b = d) → d = .no ∨ (∃ k, d = .new k) ∨ ∃ ks, d = .news ks := by
    intro h
    rcases stepK_dl S h with h' | ⟨_, h'⟩ | ⟨h', _⟩
    · exact .inl h'
    · exact .inr (.inl h')
    · rw [hc] at h'; cases h'
  cases op with
  | call f xs =>
    simp only [clsOf] at hc
    obtain ⟨as, _, h⟩ := h
    unfold callR at h
    split at hc
    · cases hc
    · rename_i hs
      rw [if_neg hs] at h
      obtain ⟨_, _, Hr, _, _, _, _, _, h⟩ := h
      exact .inr (.inr ⟨_, h⟩)
  | cv g xs =>
    obtain ⟨f, cs, as, h1, _, _, h⟩ := h
    simp only [clsOf, h1] at hc
    unfold callR at h
    split at hc
    · cases hc
    · rename_i hs
      rw [if_neg hs] at h
      obtain ⟨_, _, Hr, _, _, _, _, _, h⟩ := h
      exact .inr (.inr ⟨_, h⟩)
  | _ => exact key h

theorem stepR_dl {P : Program} {S : FuncId → Bool} {op : IOp} {e : Env} {H : List Blk} {v : A} {d : Dl} (h : stepR P S op e H v d) :
    (∀ b k, d = .set b k → b < H.length) ∧ H.length ≤ (d.app H).length := by
  have key : stepK op e H (fun a b => a = v ∧ b = d) → (∀ b k, d = .set b k → b < H.length) ∧ H.length ≤ (d.app H).length := by
    intro h
    rcases stepK_dl S h with rfl | ⟨_, k, rfl⟩ | ⟨_, b, k, rfl, hb⟩
    · exact ⟨fun b k h => (by cases h), Nat.le_refl _⟩
    · exact ⟨fun b k h => (by cases h), by simp [Dl.app]⟩
    · exact ⟨fun b' k' h => (by cases h; exact hb), by simp [Dl.app]⟩
  cases op with
  | call f xs =>
    obtain ⟨as, _, h⟩ := h
    unfold callR at h
    split at h
    · obtain ⟨T, H', _, h1, _, rfl⟩ := h
      exact ⟨fun b k h => (by cases h), h1⟩
    · obtain ⟨_, _, Hr, _, _, _, _, _, rfl⟩ := h
      exact ⟨fun b k h => (by cases h), by simp [Dl.app]⟩
  | cv g xs =>
    obtain ⟨f, cs, as, _, _, _, h⟩ := h
    unfold callR at h
    split at h
    · obtain ⟨T, H', _, h1, _, rfl⟩ := h
      exact ⟨fun b k h => (by cases h), h1⟩
    · obtain ⟨_, _, Hr, _, _, _, _, _, rfl⟩ := h
      exact ⟨fun b k h => (by cases h), by simp [Dl.app]⟩
  | _ => exact key h

theorem ldK_go {ag : Option Nat} {cs : List A} {K : A → Prop} (h : ldK ag cs K) : ldK ag cs K := h
/-- An operation that looks at one row alone. -/
theorem stepK_fp {op : IOp} {e : Env} {q : Nat} (hq : fpOf op e = some q) {H : List Blk} {v : A} {d : Dl} (h : stepK op e H (fun a b => a = v ∧ b = d)) :
    d = .no ∧ (∃ k, H[q]? = some k) ∧ ∀ H' : List Blk, H'[q]? = H[q]? → stepK op e H' (fun a b => a = v ∧ b = d) := by
  have hd : ∀ S : FuncId → Bool, clsOf S op e = 1 → d = .no ∨ ∃ k, d = .new k := by
    intro S hc
    rcases stepK_dl S h with h1 | ⟨_, h1⟩ | ⟨h1, _⟩
    · exact .inl h1
    · exact .inr h1
    · rw [hc] at h1; cases h1
  cases op <;> simp only [fpOf] at hq <;> try (cases hq; done)
  · rename_i ag x
    cases hx : ev e x with
    | none => rw [hx] at hq; cases hq
    | some y =>
      rw [hx] at hq
      cases y <;> simp only [fpP] at hq <;> try (cases hq; done)
      cases hq
      simp only [stepK, hx] at h
      split at h
      · rename_i k hk
        exact ⟨ldK_no h.2, ⟨k, hk⟩, fun H' hH => by simp only [stepK, hx, hH, hk]; exact h⟩
      · exact h.elim
  · rename_i esz x lo hi mx
    cases mx <;> simp only [fpOf] at hq <;> try (cases hq; done)
    cases hx : ev e x with
    | none => rw [hx] at hq; cases hq
    | some y =>
      rw [hx] at hq
      cases y <;> simp only [fpR] at hq <;> try (cases hq; done)
      cases hq
      simp only [stepK, hx] at h
      split at h
      · rename_i l u h1 h2
        split at h
        · rename_i k hk
          exact ⟨h.2.2.2.2.2.2.symm, ⟨k, hk⟩, fun H' hH => by simp only [stepK, hx, hH, hk, h1, h2]; exact h⟩
        · exact h.elim
      · exact h.elim
  · rename_i esz x i
    cases hx : ev e x with
    | none => rw [hx] at hq; cases hq
    | some y =>
      rw [hx] at hq
      cases y <;> simp only [fpR] at hq <;> try (cases hq; done)
      cases hq
      simp only [stepK, hx] at h
      split at h
      · rename_i h0 _; cases h0
      · rename_i b0 v0 off0 n0 kk0 i0 h0 h1
        cases h0
        split at h
        · rename_i k hk
          exact ⟨h.2.2.2.2.symm, ⟨k, hk⟩, fun H' hH => by simp only [stepK, hx, hH, hk, h1]; exact h⟩
        · exact h.elim
      · exact h.elim
  · rename_i st m k
    cases hx : ev e m with
    | none => rw [hx] at hq; cases hq
    | some y =>
      rw [hx] at hq
      cases y <;> simp only [fpM] at hq <;> try (cases hq; done)
      cases hq
      simp only [stepK, hx] at h
      split at h
      · rename_i b0 v0 x0 h0 h1
        cases h0
        split at h
        · rename_i q0 ks0 hk hks
          split at h
          · rename_i l hl
            exact ⟨h.2.2.symm, ⟨q0, hk⟩, fun H' hH => by simp only [stepK, hx, hH, hk, h1, hks, hl]; exact h⟩
          · exact h.elim
        · exact h.elim
      · exact h.elim

theorem fpOf_cls {op : IOp} {e : Env} {q : Nat} (hq : fpOf op e = some q) (S : FuncId → Bool) : clsOf S op e = 1 := by
  cases op <;> simp only [fpOf] at hq <;> try (cases hq; done)
  · rename_i ag x
    cases hx : ev e x with
    | none => rw [hx] at hq; cases hq
    | some y => rw [hx] at hq; cases y <;> simp only [fpP] at hq <;> first | (cases hq; done) | simp [clsOf, hx]
  · rename_i esz x lo hi mx
    cases mx <;> simp only [fpOf] at hq <;> try (cases hq; done)
    cases hx : ev e x with
    | none => rw [hx] at hq; cases hq
    | some y => rw [hx] at hq; cases y <;> simp only [fpR] at hq <;> first | (cases hq; done) | simp [clsOf, hx]
  · rename_i esz x i
    cases hx : ev e x with
    | none => rw [hx] at hq; cases hq
    | some y => rw [hx] at hq; cases y <;> simp only [fpR] at hq <;> first | (cases hq; done) | simp [clsOf, hx]
  · rename_i st m k
    simp [clsOf]

/-- What is written, and what is not. -/
theorem stepR_tw {P : Program} {S : FuncId → Bool} {op : IOp} {e : Env} {H : List Blk} {v : A} {d : Dl} (h : stepR P S op e H v d) : ∀ b, b ∉ twOf d → b < H.length → (d.app H)[b]? = H[b]? := by
  have key : (∃ b k, d = .set b k) ∨ d.adds' → ∀ b, b ∉ twOf d → b < H.length → (d.app H)[b]? = H[b]? := by
    rintro (⟨c, k, rfl⟩ | ha) b hb hl
    · simp [twOf] at hb
      simp only [Dl.app]
      rw [List.getElem?_set_ne (fun e => hb e.symm)]
    · cases d with
      | no => rfl
      | new k => simp only [Dl.app]; rw [List.getElem?_append_left hl]
      | news k => simp only [Dl.app]; rw [List.getElem?_append_left hl]
      | set _ _ => exact ha.elim
      | full _ _ => exact ha.elim
  have plain : stepK op e H (fun a b => a = v ∧ b = d) → ∀ b, b ∉ twOf d → b < H.length → (d.app H)[b]? = H[b]? := by
    intro h
    rcases stepK_dl S h with rfl | ⟨_, k, rfl⟩ | ⟨_, b, k, rfl, _⟩
    · exact key (.inr trivial)
    · exact key (.inr trivial)
    · exact key (.inl ⟨b, k, rfl⟩)
  have call : ∀ {f as}, callR P S f as H v d → ∀ b, b ∉ twOf d → b < H.length → (d.app H)[b]? = H[b]? := by
    intro f zs h
    unfold callR at h
    split at h
    · obtain ⟨T, H', _, h1, h2, rfl⟩ := h
      exact h2
    · obtain ⟨_, _, Hr, _, _, _, _, _, rfl⟩ := h
      exact key (.inr trivial)
  cases op with
  | call f xs => obtain ⟨zs, _, h⟩ := h; exact call h
  | cv g xs => obtain ⟨f, cs, zs, _, _, _, h⟩ := h; exact call h
  | _ => exact plain h
end Go.Sym
