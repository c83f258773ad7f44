/- Plain: what the printed functions of the reference's auction answer, told by the model: Now, Sum, Price, Was, Last, Next, Bid. -/
import Derived.Test.YtpkongocabnciaaRefNx
import Derived.Test.YtpkongocabnciaaPClockPlaysx7
import Derived.Test.YtpkongocabnciaaClkM
namespace Go.Proofs.Ytpkongocabnciaa
open Go.RowKit Go.Proofs.Ytpkongocabnciaa.PClockPlays
open Go.Proofs.YtpkongocabnciaaW.PrintWords (rd)

/-- The reference's rounds stand for the model. -/
structure RdAt (rs : List (List Int)) (a : Auc) : Prop where
  len : (rs.length : Int) = a.round
  now : rs[rs.length - 1]? = some (a.l.map (·.2))
  was : 2 ≤ rs.length → rs[rs.length - 2]? = some (a.l.map (·.1))

theorem w64 {x : Int} (h1 : -9223372036854775808 ≤ x) (h2 : x < 9223372036854775808) : wrap64 x = x := by unfold wrap64; omega
theorem rd_at {l : List Int} {i : Nat} {x : Int} (h : l[i]? = some x) : rd l (i : Int) = x := by
  unfold rd; rw [Int.toNat_natCast, List.getD_eq_getElem?_getD, h]; rfl
theorem sumB (l : List Int) (M : Int) (h : ∀ x ∈ l, 0 ≤ x ∧ x ≤ M) : 0 ≤ l.sum ∧ l.sum ≤ l.length * M := by
  induction l with
  | nil => simp
  | cons x l ih =>
    have h1 := ih (fun b hb => h b (List.mem_cons_of_mem _ hb))
    have h2 := h x (List.mem_cons_self ..)
    simp only [List.sum_cons, List.length_cons]
    have e : ((l.length + 1 : Nat) : Int) * M = l.length * M + M := by
      rw [Int.natCast_add, Int.add_mul]; simp
    omega
theorem sumT (l : List Int) (M : Int) (h : ∀ x ∈ l, 0 ≤ x ∧ x ≤ M) (hM : M ≤ 2199023255552) (hl : l.length ≤ 1000) (i : Nat) : 0 ≤ (l.take i).sum ∧ (l.take i).sum ≤ 2199023255552000 := by
  have h1 := sumB (l.take i) M (fun x hx => h x (List.mem_of_mem_take hx))
  refine ⟨h1.1, ?_⟩
  have h2 : (l.take i).length ≤ 1000 := by rw [List.length_take]; omega
  have h3 : ((l.take i).length : Int) * M ≤ 1000 * 2199023255552 := by
    rcases Int.lt_or_le M 0 with hm | hm
    · have : ((l.take i).length : Int) * M ≤ 0 := Int.mul_nonpos_of_nonneg_of_nonpos (by omega) (by omega)
      omega
    · exact Int.mul_le_mul (by omega) hM hm (by omega)
  omega

theorem Sum_l0 (l : List Int) (M : Int) (h : ∀ x ∈ l, 0 ≤ x ∧ x ≤ M) (hM : M ≤ 2199023255552) (hl : l.length ≤ 1000) :
    ∀ (d k i : Nat), i + d = l.length → d < k → gavelref07_Sum.l0 k l (l.take i).sum i = some l.sum := by
  intro d
  induction d with
  | zero =>
    intro k i hi hk
    obtain ⟨k, rfl⟩ : ∃ m, k = m + 1 := ⟨k - 1, by omega⟩
    simp only [gavelref07_Sum.l0]
    rw [if_neg (by omega), List.take_of_length_le (by omega)]
  | succ d ih =>
    intro k i hi hk
    obtain ⟨k, rfl⟩ : ∃ m, k = m + 1 := ⟨k - 1, by omega⟩
    obtain ⟨x, hx⟩ : ∃ x, l[i]? = some x := ⟨_, List.getElem?_eq_getElem (by omega)⟩
    have h1 := sumT l M h hM hl i
    have h2 := h x (List.mem_of_getElem? hx)
    simp only [gavelref07_Sum.l0]
    rw [if_pos (by omega), if_pos (by omega), rd_at hx, w64 (by omega) (by omega), w64 (by omega) (by omega)]
    have e : (l.take i).sum + x = (l.take (i + 1)).sum := by rw [List.take_add_one, hx]; simp
    rw [e]
    exact ih k (i + 1) (by omega) (by omega)
theorem Sum_f (l : List Int) (M : Int) (h : ∀ x ∈ l, 0 ≤ x ∧ x ≤ M) (hM : M ≤ 2199023255552) (hl : l.length ≤ 1000) (k : Nat) (hk : l.length < k) : gavelref07_Sum.f k l = some l.sum := by
  have := Sum_l0 l M h hM hl l.length k 0 (by omega) hk
  exact this

section
variable {rs : List (List Int)} {a : Auc}
theorem RdAt.pos (h : RdAt rs a) : 0 < rs.length := by
  have := (List.getElem?_eq_some_iff.1 h.now).1
  omega
theorem Now_f (s p d t : Int) (h : RdAt rs a) (hok : a.Ok) : gavelref07_Now.f s p d t rs = some (a.l.map (·.2)) := by
  have hp := h.pos
  have hl := h.len
  have hr := hok.round_le
  have e : wrap64 ((rs.length : Int) - 1) = ((rs.length - 1 : Nat) : Int) := by rw [w64 (by omega) (by omega)]; omega
  unfold gavelref07_Now.f
  rw [e, if_pos (by omega), if_pos (by omega)]
  unfold rd_L1
  rw [Int.toNat_natCast, List.getD_eq_getElem?_getD, h.now]; rfl
theorem Was_f (s p d t : Int) (h : RdAt rs a) (hok : a.Ok) (i : Nat) (hi : i < a.l.length) : gavelref07_Was.f s p d t rs i = some (a.wants i).1 := by
  have hp := h.pos
  have hl := h.len
  have hr := hok.round_le
  obtain ⟨b, hb⟩ : ∃ b, a.l[i]? = some b := ⟨_, List.getElem?_eq_getElem hi⟩
  have hw : (a.wants i).1 = b.1 := by
    unfold Auc.wants
    rw [if_pos (by omega), Int.toNat_natCast, List.getD_eq_getElem?_getD, hb]; rfl
  unfold gavelref07_Was.f
  by_cases h2 : (rs.length : Int) < 2
  · rw [if_pos h2, hw, hok.first (by omega) b (List.mem_of_getElem? hb)]
  · have e : wrap64 ((rs.length : Int) - 2) = ((rs.length - 2 : Nat) : Int) := by rw [w64 (by omega) (by omega)]; omega
    have e2 : rd_L1 rs ((rs.length - 2 : Nat) : Int) = a.l.map (·.1) := by
      unfold rd_L1
      rw [Int.toNat_natCast, List.getD_eq_getElem?_getD, h.was (by omega)]; rfl
    rw [if_neg h2, e, if_pos (by omega), if_pos (by omega), if_pos (by omega), e2, if_pos (by rw [List.length_map]; omega), rd_at (x := b.1) (by rw [List.getElem?_map, hb]; rfl), hw]
theorem Price_f (s t : Int) (h : RdAt rs a) (hok : a.Ok) : gavelref07_Price.f s a.start a.step t rs = some a.price := by
  have hp := h.pos
  have hl := h.len
  have hr := hok.round_le
  have h1 := hok.prod
  have h2 := hok.price_le
  unfold gavelref07_Price.f
  rw [hl, w64 (x := a.round - 1) (by omega) (by omega), w64 (x := (a.round - 1) * a.step) (by omega) (by omega)]
  have e : a.start + (a.round - 1) * a.step = a.price := rfl
  rw [e, w64 (by omega) (by omega)]
theorem Last_f (s t : Int) (h : RdAt rs a) (hok : a.Ok) : gavelref07_Last.f s a.start a.step t rs = some a.last := by
  have hl := h.len
  have hr := hok.round0
  have h2 := hok.price_le
  have h3 := hok.step0
  have h4 := hok.step1
  unfold gavelref07_Last.f Auc.last
  by_cases h5 : a.round = 1
  · rw [if_pos (by omega), if_pos h5]
  · rw [if_neg (by omega), if_neg h5, Price_f s t h hok]
    simp only [Option.bind_some]
    rw [w64 (by omega) (by omega)]
theorem nowB (hok : a.Ok) : ∀ x ∈ a.l.map (·.2), 0 ≤ x ∧ x ≤ 1048576 := by
  intro x hx
  obtain ⟨b, hb, rfl⟩ := List.mem_map.1 hx
  exact hok.now b hb
theorem wasB (hok : a.Ok) : ∀ x ∈ a.l.map (·.1), 0 ≤ x ∧ x ≤ 1048576 := by
  intro x hx
  obtain ⟨b, hb, rfl⟩ := List.mem_map.1 hx
  exact hok.was b hb

/-- Next: the auction then, its rounds, the error's number; and what the model's call tells of its end. -/
theorem Next_f (h : RdAt rs a) (hok : a.Ok) (k : Nat) (hk : 17 < k) : ∃ rs', gavelref07_Next.f k a.supply a.start a.step a.state rs = some (a.next.1.supply, a.next.1.start, a.next.1.step, a.next.1.state, rs', a.next.2.2) ∧ RdAt rs' a.next.1 ∧
    a.next.2.1 = (decide (a.next.2.2 = 0) && decide (¬ a.next.1.state = 0)) := by
  have hl := h.len
  have hr := hok.round_le
  have hlen := hok.len1
  have hst := hok.step1
  have hst0 := hok.step0
  have hp := h.pos
  unfold gavelref07_Next.f
  by_cases hs : a.state = 0
  · have hd : (a.l.map (·.2)).sum = a.demand := rfl
    rw [if_pos hs, Now_f _ _ _ _ h hok]
    simp only [Option.bind_some]
    rw [Sum_f (a.l.map (·.2)) 1048576 (nowB hok) (by omega) (by rw [List.length_map]; omega) k (by rw [List.length_map]; omega)]
    simp only [Option.bind_some]
    rw [hd]
    by_cases h1 : a.demand ≤ a.supply
    · have e : a.next = ({ a with state := 1 }, true, 0) := by unfold Auc.next; rw [if_neg (by omega), if_pos h1]
      rw [if_pos h1, e]
      exact ⟨rs, rfl, ⟨h.len, h.now, h.was⟩, rfl⟩
    · rw [if_neg h1, Price_f _ _ h hok]
      simp only [Option.bind_some]
      rw [w64 (x := 1099511627776 - a.step) (by omega) (by omega)]
      by_cases h2 : a.price > 1099511627776 - a.step
      · have e : a.next = ({ a with state := 2 }, true, 0) := by unfold Auc.next; rw [if_neg (by omega), if_neg h1, if_pos h2]
        rw [if_pos h2, e]
        exact ⟨rs, rfl, ⟨h.len, h.now, h.was⟩, rfl⟩
      · have e : a.next = ({ a with round := a.round + 1, l := a.l.map fun b => (b.2, b.2) }, false, 0) := by unfold Auc.next; rw [if_neg (by omega), if_neg h1, if_neg h2]
        rw [if_neg h2, e]
        simp only [List.nil_append, List.length_nil, Nat.zero_add]
        rw [if_pos (by omega), if_pos (by omega)]
        refine ⟨rs ++ [a.l.map (·.2)], rfl, ⟨by simp; omega, ?_, fun _ => ?_⟩, by simp [hs]⟩
        · simp only [List.length_append, List.length_singleton, Nat.add_sub_cancel, List.map_map]
          rw [List.getElem?_append_right (by omega), Nat.sub_self]
          rfl
        · simp only [List.length_append, List.length_singleton, List.map_map]
          rw [show rs.length + 1 - 2 = rs.length - 1 by omega, List.getElem?_append_left (by omega), h.now]
          rfl
  · have e : a.next = (a, false, 70) := by unfold Auc.next; rw [if_pos hs]
    rw [if_neg hs, e]
    exact ⟨rs, rfl, h, by simp⟩

theorem wants_nat (i : Nat) {b : Int × Int} (hb : a.l[i]? = some b) : a.wants i = b := by
  unfold Auc.wants
  rw [if_pos (by omega), Int.toNat_natCast, List.getD_eq_getElem?_getD, hb]; rfl

theorem bid_rounds (h : RdAt rs a) (i : Nat) (n : Int) (hi : i < a.l.length) : RdAt (rs.take (rs.length - 1) ++ [(a.l.map (·.2)).set i n]) { a with l := a.l.set i ((a.wants i).1, n) } := by
  have hp := h.pos
  obtain ⟨b, hb⟩ : ∃ b, a.l[i]? = some b := ⟨_, List.getElem?_eq_getElem hi⟩
  have hw := wants_nat i hb
  have hlen : (rs.take (rs.length - 1)).length = rs.length - 1 := by rw [List.length_take]; omega
  refine ⟨?_, ?_, ?_⟩
  · rw [List.length_append, hlen, List.length_singleton]
    show ((rs.length - 1 + 1 : Nat) : Int) = a.round
    have := h.len
    omega
  · rw [List.length_append, hlen, List.length_singleton, Nat.add_sub_cancel, List.getElem?_append_right (by omega), hlen, Nat.sub_self]
    show some _ = some ((a.l.set i ((a.wants i).1, n)).map (·.2))
    rw [List.map_set]
  · intro h2
    rw [List.length_append, hlen, List.length_singleton] at h2 ⊢
    have e : ((a.l.set i ((a.wants i).1, n)).map (·.1)) = a.l.map (·.1) := by
      apply List.ext_getElem?
      intro j
      rw [List.getElem?_map, List.getElem?_map, List.getElem?_set]
      split
      · rename_i hj
        subst hj
        rw [hb, hw]; rfl
      · rfl
    rw [List.getElem?_append_left (by omega), List.getElem?_take, if_pos (by omega), show rs.length - 1 + 1 - 2 = rs.length - 2 by omega, h.was (by omega)]
    show _ = some ((a.l.set i ((a.wants i).1, n)).map (·.1))
    rw [e]
end
end Go.Proofs.Ytpkongocabnciaa
