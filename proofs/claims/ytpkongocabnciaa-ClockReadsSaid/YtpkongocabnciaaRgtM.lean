/- Plain: which auctions may be read. -/
import Derived.Test.YtpkongocabnciaaClkM
namespace Go.Proofs.Ytpkongocabnciaa
open Go.RowKit
namespace Auc

/-- What New has looked at already, and that numbers are read. -/
structure Pre (a : Auc) : Prop where
  supply0 : 1 ≤ a.supply
  supply1 : a.supply ≤ 1048576
  start0 : 0 ≤ a.start
  start1 : a.start ≤ 1099511627776
  step0 : 1 ≤ a.step
  step1 : a.step ≤ 1099511627776
  len0 : 1 ≤ a.l.length
  len1 : a.l.length ≤ 16
  round0 : 0 ≤ a.round
  round1 : a.round ≤ 9007199254740992
  state0 : 0 ≤ a.state
  state1 : a.state ≤ 9007199254740992
  was : ∀ b ∈ a.l, 0 ≤ b.1 ∧ b.1 ≤ 9007199254740992
  now : ∀ b ∈ a.l, 0 ≤ b.2 ∧ b.2 ≤ 9007199254740992

/-- A bidder's numbers may be. -/
def BidOk (r : Int) (b : Int × Int) : Prop := b.1 ≤ 1048576 ∧ b.2 ≤ 1048576 ∧ (r = 1 → b.1 ≤ 0) ∧ (1 < r → b.2 ≤ b.1)
instance (r : Int) (b : Int × Int) : Decidable (BidOk r b) := by unfold BidOk; infer_instance
/-- The head of the look. -/
def HeadOk (a : Auc) : Prop := 1 ≤ a.round ∧ a.round - 1 ≤ (1099511627776 - a.start) / a.step ∧ a.state ≤ 2
instance (a : Auc) : Decidable a.HeadOk := by unfold HeadOk; infer_instance
def TailOk (a : Auc) : Prop := (a.state = 1 → a.demand ≤ a.supply) ∧ (a.state = 2 → a.supply < a.demand ∧ 1099511627776 - a.step < a.price)
instance (a : Auc) : Decidable a.TailOk := by unfold TailOk; infer_instance
def MidOk (a : Auc) : Prop := 1 < a.round → a.supply < (a.l.map (·.1)).sum
instance (a : Auc) : Decidable a.MidOk := by unfold MidOk; infer_instance
def Right (a : Auc) : Prop := a.HeadOk ∧ (∀ b ∈ a.l, BidOk a.round b) ∧ a.MidOk ∧ a.TailOk
instance (a : Auc) : Decidable a.Right := by unfold Right; infer_instance

theorem head_bd {a : Auc} (h : a.Pre) (hh : a.HeadOk) : 1 ≤ a.round ∧ a.price ≤ 1099511627776 := by
  obtain ⟨h1, h2, _⟩ := hh
  refine ⟨h1, ?_⟩
  have h3 : (a.round - 1) * a.step ≤ (1099511627776 - a.start) / a.step * a.step := Int.mul_le_mul_of_nonneg_right h2 (by have := h.step0; omega)
  have h4 := Int.ediv_mul_le (1099511627776 - a.start) (show a.step ≠ 0 by have := h.step0; omega)
  unfold price; omega
theorem right_bd {a : Auc} (h : a.Pre) (hh : a.HeadOk) (hb : ∀ b ∈ a.l, BidOk a.round b) : a.Bd :=
  ⟨h.supply0, h.supply1, h.start0, h.start1, h.step0, h.step1, hh.1, (head_bd h hh).2, h.len1, fun b hm => ⟨(h.now b hm).1, (hb b hm).2.1⟩⟩
theorem right_ok {a : Auc} (h : a.Pre) (hr : a.Right) : a.Ok := by
  obtain ⟨hh, hb, hm, ht⟩ := hr
  exact ⟨h.supply0, h.supply1, h.start0, h.start1, h.step0, h.step1, hh.1, (head_bd h hh).2, h.state0, hh.2.2, h.len0, h.len1, fun b hm => ⟨(h.was b hm).1, (hb b hm).1⟩, fun b hm => ⟨(h.now b hm).1, (hb b hm).2.1⟩,
    fun h1 b hm => by have := (h.was b hm).1; have := (hb b hm).2.2.1 h1; omega, fun h1 b hm => (hb b hm).2.2.2 h1, hm, ht.1, ht.2⟩
theorem ok_right {a : Auc} (h : a.Ok) : a.Right := by
  refine ⟨⟨h.round0, ?_, h.state1⟩, fun b hm => ⟨(h.was b hm).2, (h.now b hm).2, fun h1 => by rw [h.first h1 b hm]; omega, fun h1 => h.falls h1 b hm⟩, h.over, h.sold, h.void⟩
  rw [Int.le_ediv_iff_mul_le (by have := h.step0; omega)]
  have := h.price1
  unfold price at this; omega
theorem tail_dec (a : Auc) : decide a.TailOk = (if a.state = 1 then !decide (a.supply < a.demand) else if a.state = 2 then decide (a.supply < a.demand) && decide (1099511627776 - a.step < a.price) else true) := by
  unfold TailOk
  by_cases h1 : a.state = 1
  · have h2 : ¬ a.state = 2 := by omega
    rw [if_pos h1, Bool.eq_iff_iff]
    simp [h1]
  · rw [if_neg h1]
    by_cases h2 : a.state = 2
    · rw [if_pos h2, Bool.eq_iff_iff]
      simp [h2]
    · rw [if_neg h2, Bool.eq_iff_iff]
      simp [h1, h2]
end Auc
end Go.Proofs.Ytpkongocabnciaa
