/- What drawing a link with a word answers. Conditions: those that each theorem names. -/
import Derived.Test.YtnbodfakblbmbaaXD4
import Derived.Test.YtnbodfakblbmbaaXC8
set_option linter.unusedVariables false
set_option linter.unusedSimpArgs false
set_option maxRecDepth 4000
namespace Go.Proofs.Ytnbodfakblbmbaa.C
open Go.Sym Go.Proofs.Ytnbodfakblbmbaa.I
def tkEnd (d : Dr) (r : List Nd × Lk × Int) : Dr := if 0 ≤ r.2.2 then ⟨r.1, d.link, r.2.2⟩ else d
def tkOwn (l : Lk) (b : Int) : Lk := ⟨l.key, l.epoch, min (max (l.seq - b.tdiv 8) 0) 20, false⟩
def tkF (bs : List Int) : Dr :=
  if lkF (drF bs).pool (drF bs).link = true ∧ (onceF bs ⟨0, newH bs⟩ 5).1 = false then
    if (onceF bs (belowF bs (onceF bs ⟨0, newH bs⟩ 5).2 9).2 5).1 = true then tkEnd (drF bs) (linkEndF (drF bs).pool (tkOwn (drF bs).link (belowF bs (onceF bs ⟨0, newH bs⟩ 5).2 9).1))
    else tkEnd (drF bs) (linkSendF (drF bs).pool (tkOwn (drF bs).link (belowF bs (onceF bs ⟨0, newH bs⟩ 5).2 9).1) (drF bs).term)
  else drF bs
theorem spec_DrawLinkTake_c (bs : List Int) (hb : bs.length < 9223372036854775807) : T 43 [aB bs] [] (.tup [aP (tkF bs).pool, aL (tkF bs).link, i6 (tkF bs).term]) ([]) := by
  refine semT' (S := (fun f => [123, 94, 91].contains f)) hm spec_DrawLinkTake_ok (Nat.le_of_ble_eq_true rfl) ?_
  unfold spec_DrawLinkTake; dsimp only
  have hlen := drF_len bs
  have hl' : (drF bs).pool.length ≤ 4294967296 := by omega
  simp
  refine spec_l18Draw_k (bs := bs) hb rfl (by simp) (by simp [noslBlks]) ?_; simp [shiftB]
  refine spec_l1New_k (bs := bs) hb rfl (by simp) (by simp [noslBlks]) ?_; simp [shiftB]
  refine spec_LinkOk_k (ns := (drF bs).pool) (l := (drF bs).link) (by omega) rfl (by simp) (by simp) ?_; simp
  refine br_intro' (fun g => ?_) (fun g => ?_) <;> simp [g]
  · refine cur_callR rfl 4 bs ⟨0, newH bs⟩ _ rfl (spec_l1Once_m _ 4 bs _ 5 (by simp) hb) ?_; simp [cur]
    have et : tkF bs = if (onceF bs ⟨0, newH bs⟩ 5).1 = false then
        if (onceF bs (belowF bs (onceF bs ⟨0, newH bs⟩ 5).2 9).2 5).1 = true then tkEnd (drF bs) (linkEndF (drF bs).pool (tkOwn (drF bs).link (belowF bs (onceF bs ⟨0, newH bs⟩ 5).2 9).1))
        else tkEnd (drF bs) (linkSendF (drF bs).pool (tkOwn (drF bs).link (belowF bs (onceF bs ⟨0, newH bs⟩ 5).2 9).1) (drF bs).term)
      else drF bs := by
        unfold tkF
        simp only [g, true_and]
    rw [et]
    generalize onceF bs ⟨0, newH bs⟩ 5 = o
    refine br_intro' (fun g1 => ?_) (fun g1 => ?_) <;> simp [g1]
    · rw [if_neg (by simp [g1])]
      first | (refine ck_intro' (by kernel_rfl) ?_; try simp) | skip
      exact LeV.ro rfl rfl (by simp)
    · rw [if_pos g1]
      refine cur_callR rfl 4 bs _ _ rfl (spec_l1Below_m _ 4 bs _ 9 (by simp) hb) ?_; simp [cur]
      have hi := belowF_in bs o.2 9
      have hi2 := hi.2.1 (by omega)
      generalize belowF bs o.2 9 = b at hi hi2 ⊢
      generalize drF bs = d at g hlen hl' ⊢
      have hd : b.1.tdiv 8 = b.1 / 8 := Int.tdiv_eq_ediv_of_nonneg hi.1
      have hsq : 0 ≤ d.link.seq ∧ d.link.seq ≤ 20 := by simp [lkF, linkF, inF] at g; omega
      have w1 : IntKind.i64.wrap (b.1.tdiv 8) = b.1.tdiv 8 := wrap64 (by omega) (by omega)
      have w2 : IntKind.i64.wrap (d.link.seq - b.1.tdiv 8) = d.link.seq - b.1.tdiv 8 := wrap64 (by omega) (by omega)
      rw [w1, w2]
      refine spec_l1Max_call (a := d.link.seq - b.1.tdiv 8) (b := 0) rfl ?_; simp
      refine spec_l1Min_call (a := max (d.link.seq - b.1.tdiv 8) 0) (b := 20) rfl ?_; simp
      first | (refine ck_intro' (by kernel_rfl) ?_; try simp) | skip
      refine spec_LinkSend_k (ns := d.pool) (l := tkOwn d.link b.1) (t := d.term) hl' rfl (by simp [tkOwn]) (by simp [noslBlks]) ?_; simp [shiftB]
      first | (refine ck_intro' (by kernel_rfl) ?_; try simp) | skip
      refine cur_callR rfl 4 bs _ _ rfl (spec_l1Once_m _ 4 bs _ 5 (by simp) hb) ?_; simp [cur]
      generalize onceF bs b.2 5 = o2
      refine br_intro' (fun g2 => ?_) (fun g2 => ?_) <;> simp [g2]
      · rw [if_pos g2]
        refine spec_LinkEnd_k (ns := d.pool) (l := tkOwn d.link b.1) hl' rfl (by simp [tkOwn]) (by simp [noslBlks]) ?_; simp [shiftB]
        first | (refine ck_intro' (by kernel_rfl) ?_; try simp) | skip
        generalize linkEndF d.pool (tkOwn d.link b.1) = r
        refine br_intro' (fun g3 => ?_) (fun g3 => ?_) <;> simp at g3 <;> simp [g3]
        · trace_state
          first | (refine ck_intro' (by kernel_rfl) ?_; try simp) | skip
          exact LeV.ro rfl rfl (by simp [tkEnd, g3])
        · have g4 : ¬ 0 ≤ r.2.2 := by omega
          first | (refine ck_intro' (by kernel_rfl) ?_; try simp) | skip
          exact LeV.ro rfl rfl (by simp [tkEnd, g4])
      · rw [if_neg (by simp [g2])]
        generalize linkSendF d.pool (tkOwn d.link b.1) d.term = r
        refine br_intro' (fun g3 => ?_) (fun g3 => ?_) <;> simp at g3 <;> simp [g3]
        · first | (refine ck_intro' (by kernel_rfl) ?_; try simp) | skip
          exact LeV.ro rfl rfl (by simp [tkEnd, g3])
        · have g4 : ¬ 0 ≤ r.2.2 := by omega
          first | (refine ck_intro' (by kernel_rfl) ?_; try simp) | skip
          exact LeV.ro rfl rfl (by simp [tkEnd, g4])
  · rw [show tkF bs = drF bs from if_neg (by simp [g])]
    first | (refine ck_intro' (by kernel_rfl) ?_; try simp) | skip
    exact LeV.ro rfl rfl (by simp)
theorem spec_DrawLinkTake_call {bs : List Int} (hb : bs.length < 9223372036854775807) {S : FuncId → Bool} {H : List Blk} {K : A → Dl → Prop} (hS : S 43 = false) (hK : K (.tup [aP (tkF bs).pool, aL (tkF bs).link, i6 (tkF bs).term]) (.news [])) : @WCall' Go.Proofs.Try.prog S 43 [aB bs] H ⟨K⟩ :=
  WCall_pure hS (spec_DrawLinkTake_c bs hb) (by simp) (by simp) (by simp) hK
theorem spec_DrawLinkTake_k {bs : List Int} (hb : bs.length < 9223372036854775807) {S : FuncId → Bool} {H : List Blk} {K : A → Dl → Prop} {zs : List A} (hS : S 43 = false) (hv : viewL (viewA 8 H) zs = some [aB bs]) (ho : noOwns zs = true ∨ nosl (.tup [aP (tkF bs).pool, aL (tkF bs).link, i6 (tkF bs).term]) = true) (hK : K (.tup [aP (tkF bs).pool, aL (tkF bs).link, i6 (tkF bs).term]) (.news [])) : @WCall' Go.Proofs.Try.prog S 43 zs H ⟨K⟩ :=
  WCall_pure hS (spec_DrawLinkTake_c bs hb) hv ho (by simp) hK
theorem linkSendF_le (ns : List Nd) (l : Lk) (t : Int) (h : ns.length ≤ 501) : (linkSendF ns l t).1.length ≤ 501 := by
  unfold linkSendF
  split
  · rename_i hk
    have hp : poolF ns = true := by simp [lkF] at hk; exact hk.1
    have := sendF_len ns l t (poolF_len hp)
    omega
  · have := orE_len ns
    simp only
    omega
theorem linkEndF_le (ns : List Nd) (l : Lk) (h : ns.length ≤ 501) : (linkEndF ns l).1.length ≤ 501 := by
  unfold linkEndF
  split
  · rename_i hk
    have hp : poolF ns = true := by simp [lkF] at hk; exact hk.1
    have := closeF_len ns l (poolF_len hp)
    omega
  · have := orE_len ns
    simp only
    omega
theorem tkEnd_len (d : Dr) (r : List Nd × Lk × Int) (h : d.pool.length ≤ 501) (h2 : r.1.length ≤ 501) : (tkEnd d r).pool.length ≤ 501 := by
  unfold tkEnd
  split
  · exact h2
  · exact h
theorem tkF_len (bs : List Int) : (tkF bs).pool.length ≤ 501 := by
  have h := drF_len bs
  unfold tkF
  split
  · split
    · exact tkEnd_len _ _ h (linkEndF_le _ _ h)
    · exact tkEnd_len _ _ h (linkSendF_le _ _ _ h)
  · exact h
end Go.Proofs.Ytnbodfakblbmbaa.C
