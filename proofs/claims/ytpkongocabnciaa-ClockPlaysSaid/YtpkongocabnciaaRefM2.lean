/- Plain: what the printed functions of the reference's auction answer, told by the model: New, Bid, Shares, Sale, Bytes. -/
import Derived.Test.YtpkongocabnciaaRefM
import Derived.Test.YtpkongocabnciaaRefBi
import Derived.Test.YtpkongocabnciaaRefSa
import Derived.Test.YtpkongocabnciaaRefBy
import Derived.Test.YtpkongocabnciaaPClockPlaysx1
namespace Go.Proofs.Ytpkongocabnciaa
open Go.RowKit Go.Proofs.Ytpkongocabnciaa.PClockPlays
open Go.Proofs.YtpkongocabnciaaW.PrintWords (rd)

section
variable {rs : List (List Int)} {a : Auc}
theorem bid_j0 (h : RdAt rs a) (hok : a.Ok) (who n : Int) (hw0 : 0 ≤ who) (hw1 : who < a.l.length) (t : Int) (k : Nat) :
    (1 < a.round ∧ (a.wants who).1 < n → gavelref07_Bid.j0 (k + 1) who n false a.supply a.start a.step t rs = some (a.supply, a.start, a.step, t, rs, 71)) ∧
    (¬ (1 < a.round ∧ (a.wants who).1 < n) → gavelref07_Bid.j0 (k + 1) who n false a.supply a.start a.step t rs = some (a.supply, a.start, a.step, t, rs.take (rs.length - 1) ++ [(a.l.map (·.2)).set who.toNat n], 0)) := by
  have hp := h.pos
  have hl := h.len
  have hr := hok.round_le
  have hlen := hok.len1
  obtain ⟨i, rfl⟩ := Int.eq_ofNat_of_zero_le hw0
  have e : wrap64 ((rs.length : Int) - 1) = ((rs.length - 1 : Nat) : Int) := by rw [w64 (by omega) (by omega)]; omega
  have hlt : (rs.take (rs.length - 1)).length = rs.length - 1 := by rw [List.length_take]; omega
  have tail : (if 0 ≤ (wrap64 ((rs.length : Int) - 1)) then (if (wrap64 ((rs.length : Int) - 1)) ≤ (rs.length : Int) then ((some (rs.take ((wrap64 ((rs.length : Int) - 1)) : Int).toNat : List (List Int))).bind fun y149 => (if ([] : List (List Int)).length + y149.length < 5864062014805 then ((some (([] : List (List Int)) ++ y149 : List (List Int))).bind fun y154 => ((gavelref07_Now.f a.supply a.start a.step t rs).bind fun t157 => (if ([] : List Int).length + t157.length < 17592186044416 then ((some (([] : List Int) ++ t157 : List Int)).bind fun y160 => (if 0 ≤ (i : Int) then (if (i : Int) < (y160.length : Int) then (if y154.length < 5864062014805 then (some (a.supply, a.start, a.step, t, (y154 ++ [(y160.set (i : Int).toNat n)]), (0 : Int))) else (none)) else (none)) else (none))) else (none)))) else (none))) else (none)) else (none)) = some (a.supply, a.start, a.step, t, rs.take (rs.length - 1) ++ [(a.l.map (·.2)).set i n], 0) := by
    rw [e, if_pos (by omega), if_pos (by omega)]
    simp only [Option.bind_some, List.nil_append, List.length_nil, Nat.zero_add, Int.toNat_natCast]
    rw [hlt, if_pos (by omega), Now_f _ _ _ _ h hok]
    simp only [Option.bind_some, List.length_map]
    rw [if_pos (by omega), if_pos (by omega), if_pos (by omega), if_pos (by omega)]
  by_cases h1 : (rs.length : Int) > 1
  · have hW := Was_f a.supply a.start a.step t h hok i (by omega)
    by_cases h2 : n > (a.wants i).1
    · refine ⟨fun _ => ?_, fun hn => absurd ⟨by omega, h2⟩ hn⟩
      simp only [gavelref07_Bid.j0]
      rw [if_neg (by simp), if_pos h1, hW]
      simp only [Option.bind_some]
      rw [if_pos h2]
    · refine ⟨fun hn => absurd hn.2 h2, fun _ => ?_⟩
      simp only [gavelref07_Bid.j0]
      rw [if_neg (by simp), if_pos h1, hW]
      rw [Option.bind_some, if_neg h2]
      exact tail
  · refine ⟨fun hn => absurd hn.1 (by omega), fun _ => ?_⟩
    simp only [gavelref07_Bid.j0]
    rw [if_neg (by simp), if_neg h1]
    exact tail

theorem Bid_f (h : RdAt rs a) (hok : a.Ok) (who n : Int) (k : Nat) (hk : 1 < k) : ∃ rs', gavelref07_Bid.f k a.supply a.start a.step a.state rs who n = some ((a.bid who n).1.supply, (a.bid who n).1.start, (a.bid who n).1.step, (a.bid who n).1.state, rs', (a.bid who n).2) ∧ RdAt rs' (a.bid who n).1 := by
  obtain ⟨k, rfl⟩ : ∃ m, k = m + 1 := ⟨k - 1, by omega⟩
  have hlen := hok.len1
  unfold gavelref07_Bid.f
  by_cases hs : a.state = 0
  · rw [if_pos hs]
    have bad : (who < 0 ∨ (a.l.length : Int) ≤ who ∨ n < 0 ∨ n > 1048576) → a.bid who n = (a, 1) := fun hc => by unfold Auc.bid; rw [if_neg (by omega), if_pos hc]
    have j1 : gavelref07_Bid.j0 (k + 1) who n true a.supply a.start a.step a.state rs = some (a.supply, a.start, a.step, a.state, rs, 1) := by
      simp only [gavelref07_Bid.j0]; rw [if_pos trivial]
    rw [Now_f _ _ _ _ h hok]
    simp only [Option.bind_some, List.length_map]
    by_cases h1 : who < 0
    · rw [if_pos h1, bad (.inl h1), j1]; exact ⟨rs, rfl, h⟩
    · rw [if_neg h1]
      by_cases h2 : who ≥ (a.l.length : Int)
      · rw [if_pos h2, bad (.inr (.inl h2)), j1]; exact ⟨rs, rfl, h⟩
      · rw [if_neg h2]
        by_cases h3 : n < 0
        · rw [if_pos h3, bad (.inr (.inr (.inl h3))), j1]; exact ⟨rs, rfl, h⟩
        · rw [if_neg h3]
          by_cases h4 : n > 1048576
          · rw [decide_eq_true h4, bad (.inr (.inr (.inr h4))), j1]; exact ⟨rs, rfl, h⟩
          · rw [decide_eq_false h4]
            have hj := bid_j0 h hok who n (by omega) (by omega) a.state k
            by_cases h5 : 1 < a.round ∧ (a.wants who).1 < n
            · have e : a.bid who n = (a, 71) := by unfold Auc.bid; rw [if_neg (by omega), if_neg (by omega), if_pos h5]
              rw [hj.1 h5, e]; exact ⟨rs, rfl, h⟩
            · have e : a.bid who n = ({ a with l := a.l.set who.toNat ((a.wants who).1, n) }, 0) := by unfold Auc.bid; rw [if_neg (by omega), if_neg (by omega), if_neg h5]
              rw [hj.2 h5, e]
              obtain ⟨i, rfl⟩ := Int.eq_ofNat_of_zero_le (show 0 ≤ who by omega)
              exact ⟨_, rfl, bid_rounds h i n (by omega)⟩
  · have e : a.bid who n = (a, 70) := by unfold Auc.bid; rw [if_pos hs]
    rw [if_neg hs, e]; exact ⟨rs, rfl, h⟩

theorem New_l0 (s p d : Int) (n : Nat) (hn : n ≤ 16) : ∀ (m k i : Nat), i + m = n → m < k → gavelref07_New.l0 k s p d n (List.replicate i 0) i = some (s, p, d, 0, [List.replicate n 0], true) := by
  intro m
  induction m with
  | zero =>
    intro k i hi hk
    obtain ⟨k, rfl⟩ : ∃ m, k = m + 1 := ⟨k - 1, by omega⟩
    simp only [gavelref07_New.l0]
    rw [if_neg (by omega), show i = n by omega]
  | succ m ih =>
    intro k i hi hk
    obtain ⟨k, rfl⟩ : ∃ m, k = m + 1 := ⟨k - 1, by omega⟩
    simp only [gavelref07_New.l0, List.length_replicate]
    rw [if_pos (by omega), if_pos (by omega), w64 (by omega) (by omega)]
    have e : (List.replicate i (0 : Int)) ++ [0] = List.replicate (i + 1) 0 := by rw [List.replicate_succ']
    rw [e]
    exact ih k (i + 1) (by omega) (by omega)

/-- New: the auction, or why there is none. -/
theorem New_f (s p d n : Int) (k : Nat) (hk : 20 < k) : (∀ a, Auc.made s p d n = some a → ∃ rs, gavelref07_New.f k s p d n = some (a.supply, a.start, a.step, a.state, rs, true) ∧ RdAt rs a) ∧
    (Auc.made s p d n = none → gavelref07_New.f k s p d n = some (0, 0, 0, 0, [], false)) := by
  obtain ⟨k, rfl⟩ : ∃ m, k = m + 1 := ⟨k - 1, by omega⟩
  have j1 : gavelref07_New.j0 (k + 1) s p d n true 0 0 0 0 = some (0, 0, 0, 0, [], false) := by simp only [gavelref07_New.j0]; rw [if_pos trivial]
  by_cases hc : s < 1 ∨ s > 1048576 ∨ p < 0 ∨ p > 1099511627776 ∨ d < 1 ∨ d > 1099511627776 ∨ n < 1 ∨ n > 16
  · have e : Auc.made s p d n = none := by unfold Auc.made; rw [if_pos hc]
    refine ⟨fun a ha => (by rw [e] at ha; cases ha), fun _ => ?_⟩
    unfold gavelref07_New.f
    by_cases h1 : s < 1
    · rw [if_pos h1, j1]
    rw [if_neg h1]
    by_cases h2 : s > 1048576
    · rw [if_pos h2, j1]
    rw [if_neg h2]
    by_cases h3 : p < 0
    · rw [if_pos h3, j1]
    rw [if_neg h3]
    by_cases h4 : p > 1099511627776
    · rw [if_pos h4, j1]
    rw [if_neg h4]
    by_cases h5 : d < 1
    · rw [if_pos h5, j1]
    rw [if_neg h5]
    by_cases h6 : d > 1099511627776
    · rw [if_pos h6, j1]
    rw [if_neg h6]
    by_cases h7 : n < 1
    · rw [if_pos h7, j1]
    rw [if_neg h7, decide_eq_true (show n > 16 by omega), j1]
  · have e : Auc.made s p d n = some { supply := s, start := p, step := d, round := 1, state := 0, l := List.replicate n.toNat (0, 0) } := by unfold Auc.made; rw [if_neg hc]
    refine ⟨fun a ha => ?_, fun h => (by rw [e] at h; cases h)⟩
    rw [e] at ha
    cases ha
    refine ⟨[List.replicate n.toNat 0], ?_, ⟨rfl, by simp, fun h => by simp at h⟩⟩
    unfold gavelref07_New.f
    rw [if_neg (by omega), if_neg (by omega), if_neg (by omega), if_neg (by omega), if_neg (by omega), if_neg (by omega), if_neg (by omega), decide_eq_false (by omega)]
    simp only [gavelref07_New.j0]
    rw [if_neg (by simp)]
    obtain ⟨m, rfl⟩ := Int.eq_ofNat_of_zero_le (show 0 ≤ n by omega)
    exact New_l0 s p d m (by omega) m k 0 (by omega) (by omega)
end
end Go.Proofs.Ytpkongocabnciaa
