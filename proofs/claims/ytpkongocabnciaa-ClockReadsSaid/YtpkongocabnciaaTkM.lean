/- Plain: what the reference takes as an auction's numbers is what the program does. -/
import Derived.Test.YtpkongocabnciaaOfM
namespace Go.Proofs.Ytpkongocabnciaa
open Go.RowKit
namespace Auc
def nth (l : List Int) (i : Nat) : Int := l.getD i 0
def T1 (l : List Int) : Prop := 8 ≤ l.length ∧ nth l 5 ≤ 16 ∧ (l.length : Int) = 6 + 2 * nth l 5
def T2 (l : List Int) : Prop := 1 ≤ nth l 0 ∧ nth l 0 ≤ 1048576 ∧ nth l 1 ≤ 1099511627776 ∧ 1 ≤ nth l 2 ∧ nth l 2 ≤ 1099511627776 ∧ 1 ≤ nth l 3 ∧ nth l 4 ≤ 2
def T3 (l : List Int) : Prop := nth l 3 - 1 ≤ (1099511627776 - nth l 1) / nth l 2
def T4 (l : List Int) : Prop := ∀ b ∈ pairs (l.drop 6), BidOk (nth l 3) b
def T5 (l : List Int) : Prop := (1 < nth l 3 → nth l 0 < ((pairs (l.drop 6)).map (·.1)).sum) ∧ (nth l 4 = 1 → ((pairs (l.drop 6)).map (·.2)).sum ≤ nth l 0)
def T6 (l : List Int) : Prop := nth l 4 = 2 → nth l 0 < ((pairs (l.drop 6)).map (·.2)).sum ∧ 1099511627776 - nth l 2 < nth l 1 + (nth l 3 - 1) * nth l 2
def Tk (l : List Int) : Prop := T1 l ∧ T2 l ∧ T3 l ∧ T4 l ∧ T5 l ∧ T6 l
instance (l : List Int) : Decidable (T1 l) := by unfold T1; infer_instance
instance (l : List Int) : Decidable (T2 l) := by unfold T2; infer_instance
instance (l : List Int) : Decidable (T3 l) := by unfold T3; infer_instance
instance (l : List Int) : Decidable (T4 l) := by unfold T4; infer_instance
instance (l : List Int) : Decidable (T5 l) := by unfold T5; infer_instance
instance (l : List Int) : Decidable (T6 l) := by unfold T6; infer_instance
instance (l : List Int) : Decidable (Tk l) := by unfold Tk; infer_instance

theorem tk_iff (l : List Int) (hl : ∀ n ∈ l, 0 ≤ n ∧ n ≤ 9007199254740992) : Tk l ↔ ∃ a, ofNums l = some a ∧ a.Right := by
  have h0 : ∀ i, 0 ≤ nth l i := by
    intro i
    unfold nth
    rw [List.getD_eq_getElem?_getD]
    cases hg : l[i]? with
    | none => simp
    | some x => exact (hl x (List.mem_of_getElem? hg)).1
  constructor
  · rintro ⟨t1, t2, t3, t4, t5, t6⟩
    obtain ⟨a1, a2, a3⟩ := t1
    obtain ⟨b1, b2, b3, b4, b5, b6, b7⟩ := t2
    have hk : ¬ (l.length < 6 ∨ l.length % 2 ≠ 0 ∨ l.getD 5 0 ≠ (((l.length - 6) / 2 : Nat) : Int)) := by
      unfold nth at a3
      omega
    have hm : ¬ (l.getD 0 0 < 1 ∨ l.getD 0 0 > 1048576 ∨ l.getD 1 0 < 0 ∨ l.getD 1 0 > 1099511627776 ∨ l.getD 2 0 < 1 ∨ l.getD 2 0 > 1099511627776 ∨ l.getD 5 0 < 1 ∨ l.getD 5 0 > 16) := by
      have := h0 1
      unfold nth at *
      omega
    refine ⟨_, by unfold ofNums made; rw [if_neg hk, if_neg hm]; rfl, ?_⟩
    exact ⟨⟨b6, t3, b7⟩, t4, t5.1, t5.2, fun h => t6 h⟩
  · rintro ⟨a, ha, hr⟩
    unfold ofNums at ha
    by_cases hk : l.length < 6 ∨ l.length % 2 ≠ 0 ∨ l.getD 5 0 ≠ (((l.length - 6) / 2 : Nat) : Int)
    · rw [if_pos hk] at ha; cases ha
    · rw [if_neg hk] at ha
      obtain ⟨b, hb, rfl⟩ := Option.map_eq_some_iff.1 ha
      unfold made at hb
      by_cases hm : l.getD 0 0 < 1 ∨ l.getD 0 0 > 1048576 ∨ l.getD 1 0 < 0 ∨ l.getD 1 0 > 1099511627776 ∨ l.getD 2 0 < 1 ∨ l.getD 2 0 > 1099511627776 ∨ l.getD 5 0 < 1 ∨ l.getD 5 0 > 16
      · rw [if_pos hm] at hb; cases hb
      · rw [if_neg hm] at hb
        cases hb
        obtain ⟨⟨c1, c2, c3⟩, c4, c5, c6⟩ := hr
        refine ⟨⟨?_, ?_, ?_⟩, ⟨?_, ?_, ?_, ?_, ?_, c1, c3⟩, c2, c4, ⟨c5, c6.1⟩, fun h => c6.2 h⟩
        all_goals ((try unfold nth); omega)

/-- A text of 39 numbers is no auction's: so it does not matter at which number the reader gives up. -/
theorem rdAll_37 : ∀ (f : Nat) (l : List Nat) (c : Nat), (∀ r, rdAll 37 f l c = some r → rdAll 38 f l c = some r) ∧ (rdAll 37 f l c = none → ∀ r, rdAll 38 f l c = some r → c ≤ 38 → c + r.length = 39) := by
  intro f
  induction f with
  | zero =>
    intro l c
    cases l with
    | nil => exact ⟨fun r h => h, fun h => by cases h⟩
    | cons x l => exact ⟨fun r h => h, fun h r h2 => by cases h2⟩
  | succ f ih =>
    intro l c
    cases l with
    | nil => exact ⟨fun r h => h, fun h => by cases h⟩
    | cons x l =>
      cases hn : rdNum (x :: l) 0 0 with
      | error e => rw [rdAll_err hn, rdAll_err hn]; exact ⟨fun r h => h, fun h r h2 => by cases h2⟩
      | ok p =>
        obtain ⟨n, q⟩ := p
        by_cases h38 : 38 < c
        · rw [rdAll_full hn h38, rdAll_full hn (by omega)]; exact ⟨fun r h => h, fun h r h2 => by cases h2⟩
        · by_cases h37 : 37 < c
          · rw [rdAll_full hn h37, rdAll_go hn h38]
            refine ⟨fun r h => (by cases h), fun _ r h2 hc => ?_⟩
            obtain ⟨t, ht, rfl⟩ := Option.map_eq_some_iff.1 h2
            have := (rdAll_bound 38 f q (c + 1) t ht).2 (by omega)
            have hc38 : c = 38 := by omega
            subst hc38
            simp; omega
          · rw [rdAll_go hn h37, rdAll_go hn h38]
            constructor
            · intro r h
              obtain ⟨t, ht, rfl⟩ := Option.map_eq_some_iff.1 h
              rw [(ih q (c + 1)).1 t ht]; rfl
            · intro h r h2 hc
              obtain ⟨t, ht, rfl⟩ := Option.map_eq_some_iff.1 h2
              have h3 : rdAll 37 f q (c + 1) = none := by simpa using h
              have := (ih q (c + 1)).2 h3 t ht (by omega)
              simp; omega

/-- Taken: are bytes those of an auction? -/
def taken (s : ByteArray) : Bool := match rdAll 37 s.size (byts s) 0 with
  | none => false
  | some l => decide (Tk l)
theorem taken_of (s : ByteArray) : taken s = (of s).isSome := by
  unfold taken of
  have h := rdAll_37 s.size (byts s) 0
  cases h37 : rdAll 37 s.size (byts s) 0 with
  | some l =>
    have h38 := h.1 l h37
    have hl := (rdAll_bound 38 _ _ _ _ h38).1
    have hi := tk_iff l hl
    simp only [h38]
    cases ho : ofNums l with
    | none =>
      rw [ho] at hi
      simp only [Option.isSome_none]
      rw [decide_eq_false_iff_not, hi]
      rintro ⟨a, ha, _⟩; cases ha
    | some a =>
      rw [ho] at hi
      simp only
      by_cases hr : a.Right
      · rw [if_pos hr]
        rw [decide_eq_true (hi.2 ⟨a, rfl, hr⟩)]; rfl
      · rw [if_neg hr]
        rw [decide_eq_false (fun ht => by obtain ⟨b, hb, hbr⟩ := hi.1 ht; cases hb; exact hr hbr)]; rfl
  | none =>
    cases h38 : rdAll 38 s.size (byts s) 0 with
    | none => rfl
    | some l =>
      have hlen := h.2 h37 l h38 (by omega)
      have ho : ofNums l = none := by unfold ofNums; rw [if_pos (.inr (.inl (by omega)))]
      simp only [ho]; rfl
end Auc
end Go.Proofs.Ytpkongocabnciaa
