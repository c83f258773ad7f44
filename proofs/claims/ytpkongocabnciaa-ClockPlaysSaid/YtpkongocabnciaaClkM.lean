/- Plain: what a clock auction is, and what each of its calls makes of it. Nothing of the program stands here. -/
import Derived.Test.YtpkongocabnciaaNum
namespace Go.Proofs.Ytpkongocabnciaa
open Go.RowKit

structure Auc where
  supply : Int
  start : Int
  step : Int
  round : Int
  state : Int
  l : List (Int × Int)
  deriving DecidableEq

namespace Auc
def price (a : Auc) : Int := a.start + (a.round - 1) * a.step
def demand (a : Auc) : Int := (a.l.map (·.2)).sum
def last (a : Auc) : Int := if a.round = 1 then 0 else a.price - a.step
def wants (a : Auc) (who : Int) : Int × Int := if 0 ≤ who then a.l.getD who.toNat (0, 0) else (0, 0)

/-- What may be: the bounds in which nothing wraps. -/
structure Ok (a : Auc) : Prop where
  supply0 : 1 ≤ a.supply
  supply1 : a.supply ≤ 1048576
  start0 : 0 ≤ a.start
  start1 : a.start ≤ 1099511627776
  step0 : 1 ≤ a.step
  step1 : a.step ≤ 1099511627776
  round0 : 1 ≤ a.round
  price1 : a.price ≤ 1099511627776
  state0 : 0 ≤ a.state
  state1 : a.state ≤ 2
  len0 : 1 ≤ a.l.length
  len1 : a.l.length ≤ 16
  was : ∀ b ∈ a.l, 0 ≤ b.1 ∧ b.1 ≤ 1048576
  now : ∀ b ∈ a.l, 0 ≤ b.2 ∧ b.2 ≤ 1048576
  first : a.round = 1 → ∀ b ∈ a.l, b.1 = 0
  falls : 1 < a.round → ∀ b ∈ a.l, b.2 ≤ b.1
  over : 1 < a.round → a.supply < (a.l.map (·.1)).sum
  sold : a.state = 1 → a.demand ≤ a.supply
  void : a.state = 2 → a.supply < a.demand ∧ 1099511627776 - a.step < a.price

/-- New. -/
def made (supply start step bidders : Int) : Option Auc :=
  if supply < 1 ∨ supply > 1048576 ∨ start < 0 ∨ start > 1099511627776 ∨ step < 1 ∨ step > 1099511627776 ∨ bidders < 1 ∨ bidders > 16 then none
  else some { supply, start, step, round := 1, state := 0, l := List.replicate bidders.toNat (0, 0) }

/-- Bid: the auction then, and the error's number. -/
def bid (a : Auc) (who n : Int) : Auc × Int :=
  if a.state ≠ 0 then (a, 70)
  else if who < 0 ∨ a.l.length ≤ who ∨ n < 0 ∨ n > 1048576 then (a, 1)
  else if 1 < a.round ∧ (a.wants who).1 < n then (a, 71)
  else ({ a with l := a.l.set who.toNat ((a.wants who).1, n) }, 0)

/-- Next: the auction then, is it over, the error's number. -/
def next (a : Auc) : Auc × Bool × Int :=
  if a.state ≠ 0 then (a, false, 70)
  else if a.demand ≤ a.supply then ({ a with state := 1 }, true, 0)
  else if a.price > 1099511627776 - a.step then ({ a with state := 2 }, true, 0)
  else ({ a with round := a.round + 1, l := a.l.map fun b => (b.2, b.2) }, false, 0)

theorem sum_bound (l : List (Int × Int)) (M : Int) (h : ∀ b ∈ l, 0 ≤ b.2 ∧ b.2 ≤ M) : 0 ≤ (l.map (·.2)).sum ∧ (l.map (·.2)).sum ≤ l.length * M := by
  induction l with
  | nil => simp
  | cons x l ih =>
    have h1 := ih (fun b hb => h b (List.mem_cons_of_mem _ hb))
    have h2 := h x (List.mem_cons_self ..)
    simp only [List.map_cons, List.sum_cons, List.length_cons]
    have e : ((l.length + 1 : Nat) : Int) * M = l.length * M + M := by
      rw [Int.natCast_add, Int.add_mul]; simp
    omega
/-- The bounds alone. -/
structure Bd (a : Auc) : Prop where
  supply0 : 1 ≤ a.supply
  supply1 : a.supply ≤ 1048576
  start0 : 0 ≤ a.start
  start1 : a.start ≤ 1099511627776
  step0 : 1 ≤ a.step
  step1 : a.step ≤ 1099511627776
  round0 : 1 ≤ a.round
  price1 : a.price ≤ 1099511627776
  len1 : a.l.length ≤ 16
  now : ∀ b ∈ a.l, 0 ≤ b.2 ∧ b.2 ≤ 1048576
theorem Ok.bd {a : Auc} (h : a.Ok) : a.Bd := ⟨h.supply0, h.supply1, h.start0, h.start1, h.step0, h.step1, h.round0, h.price1, h.len1, h.now⟩
theorem Bd.demand_le {a : Auc} (h : a.Bd) : 0 ≤ a.demand ∧ a.demand ≤ 16777216 := by
  have h1 := sum_bound a.l 1048576 h.now
  have h2 := h.len1
  unfold demand
  omega
theorem Bd.prod {a : Auc} (h : a.Bd) : 0 ≤ (a.round - 1) * a.step ∧ (a.round - 1) * a.step ≤ 1099511627776 := by
  have h1 := h.round0
  have h2 := h.step0
  have h3 := h.price1
  have h4 := h.start0
  unfold price at h3
  exact ⟨Int.mul_nonneg (by omega) (by omega), by omega⟩
theorem Bd.round_le {a : Auc} (h : a.Bd) : a.round ≤ 1099511627777 := by
  have h1 := h.prod.2
  have h2 := h.step0
  have h3 := h.round0
  have h4 : (a.round - 1) * 1 ≤ (a.round - 1) * a.step := Int.mul_le_mul_of_nonneg_left h2 (by omega)
  omega
theorem Bd.price_le {a : Auc} (h : a.Bd) : 0 ≤ a.price ∧ a.price ≤ 1099511627776 := by
  have h1 := h.prod
  have h2 := h.start0
  have h3 := h.price1
  exact ⟨by unfold price; omega, h3⟩

theorem Ok.demand_le {a : Auc} (h : a.Ok) : 0 ≤ a.demand ∧ a.demand ≤ 16777216 := h.bd.demand_le
theorem Ok.prod {a : Auc} (h : a.Ok) : 0 ≤ (a.round - 1) * a.step ∧ (a.round - 1) * a.step ≤ 1099511627776 := h.bd.prod
theorem Ok.round_le {a : Auc} (h : a.Ok) : a.round ≤ 1099511627777 := h.bd.round_le
theorem Ok.price_le {a : Auc} (h : a.Ok) : 0 ≤ a.price ∧ a.price ≤ 1099511627776 := h.bd.price_le
theorem Ok.wants_le {a : Auc} (h : a.Ok) (who : Int) : 0 ≤ (a.wants who).1 ∧ (a.wants who).1 ≤ 1048576 ∧ 0 ≤ (a.wants who).2 ∧ (a.wants who).2 ≤ 1048576 := by
  unfold wants
  by_cases h0 : 0 ≤ who
  · rw [if_pos h0, List.getD_eq_getElem?_getD]
    cases hg : a.l[who.toNat]? with
    | none => simp
    | some b =>
      have hm := List.mem_of_getElem? hg
      have h1 := h.was b hm
      have h2 := h.now b hm
      simp only [Option.getD_some]
      exact ⟨h1.1, h1.2, h2.1, h2.2⟩
  · rw [if_neg h0]; simp

theorem made_ok {s p d n : Int} {a : Auc} (h : made s p d n = some a) : a.Ok ∧ a.state = 0 ∧ a.round = 1 ∧ a.supply = s ∧ a.start = p ∧ a.step = d ∧ a.l = List.replicate n.toNat (0, 0) ∧ 1 ≤ n ∧ n ≤ 16 := by
  unfold made at h
  by_cases hc : s < 1 ∨ s > 1048576 ∨ p < 0 ∨ p > 1099511627776 ∨ d < 1 ∨ d > 1099511627776 ∨ n < 1 ∨ n > 16
  · rw [if_pos hc] at h; cases h
  · rw [if_neg hc] at h
    cases h
    refine ⟨⟨by simp; omega, by simp; omega, by simp; omega, by simp; omega, by simp; omega, by simp; omega, by simp, by simp [price]; omega, by simp, by simp, by simp; omega, by simp; omega, ?_, ?_, ?_, ?_, ?_, ?_, ?_⟩, rfl, rfl, rfl, rfl, rfl, rfl, by omega, by omega⟩
    · intro b hb; simp at hb; rw [hb.2]; simp
    · intro b hb; simp at hb; rw [hb.2]; simp
    · intro _ b hb; simp at hb; rw [hb.2]
    · intro h; simp at h
    · intro h; simp at h
    · intro h; simp at h
    · intro h; simp at h

theorem bid_ok {a : Auc} (h : a.Ok) (who n : Int) : (a.bid who n).1.Ok := by
  unfold bid
  by_cases hs : a.state ≠ 0
  · rw [if_pos hs]; exact h
  · rw [if_neg hs]
    by_cases hc : who < 0 ∨ a.l.length ≤ who ∨ n < 0 ∨ n > 1048576
    · rw [if_pos hc]; exact h
    · rw [if_neg hc]
      by_cases hr : 1 < a.round ∧ (a.wants who).1 < n
      · rw [if_pos hr]; exact h
      · rw [if_neg hr]
        have hw := h.wants_le who
        have hget : a.l[who.toNat]? = some (a.l.getD who.toNat (0, 0)) := by
          rw [List.getD_eq_getElem?_getD, List.getElem?_eq_getElem (by omega)]; rfl
        have hwt : a.wants who = a.l.getD who.toNat (0, 0) := by unfold wants; rw [if_pos (by omega)]
        refine ⟨h.supply0, h.supply1, h.start0, h.start1, h.step0, h.step1, h.round0, h.price1, h.state0, h.state1, by simpa using h.len0, by simpa using h.len1, ?_, ?_, ?_, ?_, ?_, ?_, ?_⟩
        · intro b hb
          rcases List.mem_or_eq_of_mem_set hb with hb | rfl
          · exact h.was b hb
          · exact ⟨hw.1, hw.2.1⟩
        · intro b hb
          rcases List.mem_or_eq_of_mem_set hb with hb | rfl
          · exact h.now b hb
          · exact ⟨by simp; omega, by simp; omega⟩
        · intro h1 b hb
          rcases List.mem_or_eq_of_mem_set hb with hb | rfl
          · exact h.first h1 b hb
          · simp only; rw [hwt]; exact h.first h1 _ (List.mem_of_getElem? hget)
        · intro h1 b hb
          rcases List.mem_or_eq_of_mem_set hb with hb | rfl
          · exact h.falls h1 b hb
          · simp only at h1 ⊢; omega
        · intro h1
          have e : ((a.l.set who.toNat ((a.wants who).1, n)).map (·.1)) = a.l.map (·.1) := by
            rw [List.map_set, hwt]
            apply List.ext_getElem?
            intro j
            rw [List.getElem?_set]
            split
            · rename_i hj; subst hj
              split
              · rw [List.getElem?_map, hget]; rfl
              · rename_i hj; rw [List.getElem?_eq_none (by omega)]
            · rfl
          show a.supply < ((a.l.set who.toNat ((a.wants who).1, n)).map (·.1)).sum
          rw [e]; exact h.over h1
        · intro h1; exact absurd h1 (by simp at hs; simp; omega)
        · intro h1; exact absurd h1 (by simp at hs; simp; omega)

theorem next_ok {a : Auc} (h : a.Ok) : a.next.1.Ok := by
  unfold next
  by_cases hs : a.state ≠ 0
  · rw [if_pos hs]; exact h
  · rw [if_neg hs]
    by_cases hd : a.demand ≤ a.supply
    · rw [if_pos hd]
      exact ⟨h.supply0, h.supply1, h.start0, h.start1, h.step0, h.step1, h.round0, h.price1, by simp, by simp, h.len0, h.len1, h.was, h.now, h.first, h.falls, h.over, fun _ => hd, fun h1 => by simp at h1⟩
    · rw [if_neg hd]
      by_cases hp : a.price > 1099511627776 - a.step
      · rw [if_pos hp]
        exact ⟨h.supply0, h.supply1, h.start0, h.start1, h.step0, h.step1, h.round0, h.price1, by simp, by simp, h.len0, h.len1, h.was, h.now, h.first, h.falls, h.over, fun h1 => by simp at h1, fun _ => ⟨by show a.supply < a.demand; omega, hp⟩⟩
      · rw [if_neg hp]
        refine ⟨h.supply0, h.supply1, h.start0, h.start1, h.step0, h.step1, by have := h.round0; simp; omega, ?_, h.state0, h.state1, by simpa using h.len0, by simpa using h.len1, ?_, ?_, ?_, ?_, ?_, ?_, ?_⟩
        · have e : a.start + (a.round + 1 - 1) * a.step = a.price + a.step := by
            unfold price
            rw [show a.round + 1 - 1 = (a.round - 1) + 1 by omega, Int.add_mul]; omega
          show a.start + (a.round + 1 - 1) * a.step ≤ 1099511627776
          rw [e]; omega
        · intro b hb
          obtain ⟨x, hx, rfl⟩ := List.mem_map.1 hb
          exact h.now x hx
        · intro b hb
          obtain ⟨x, hx, rfl⟩ := List.mem_map.1 hb
          exact h.now x hx
        · intro h1; have := h.round0; simp at h1; omega
        · intro _ b hb
          obtain ⟨x, hx, rfl⟩ := List.mem_map.1 hb
          simp
        · intro _
          have e : ((a.l.map fun b => (b.2, b.2)).map (·.1)) = a.l.map (·.2) := by simp
          show a.supply < ((a.l.map fun b => (b.2, b.2)).map (·.1)).sum
          rw [e]; unfold demand at hd; omega
        · intro h1; simp at hs; simp at h1; omega
        · intro h1; simp at hs; simp at h1; omega
/-- The bidders of the next round, so far: those ahead of i have been turned. -/
def turned (l : List (Int × Int)) (i : Nat) : List (Int × Int) := (l.take i).map (fun b => (b.2, b.2)) ++ l.drop i
theorem turned_length (l : List (Int × Int)) (i : Nat) : (turned l i).length = l.length := by unfold turned; simp; omega
theorem turned_zero (l : List (Int × Int)) : turned l 0 = l := rfl
theorem turned_all (l : List (Int × Int)) (i : Nat) (h : l.length ≤ i) : turned l i = l.map (fun b => (b.2, b.2)) := by
  unfold turned; rw [List.take_of_length_le h, List.drop_eq_nil_of_le h, List.append_nil]
theorem turned_get (l : List (Int × Int)) (i : Nat) (h : i < l.length) : (turned l i)[i]? = some (l[i]'h) := by
  unfold turned
  rw [List.getElem?_append_right (by simp; omega)]
  simp only [List.length_map, List.length_take, List.getElem?_drop]
  rw [show i + (i - min i l.length) = i by omega]
  exact List.getElem?_eq_getElem h
theorem turned_set (l : List (Int × Int)) (i : Nat) (h : i < l.length) : (turned l i).set i ((l[i]'h).2, (l[i]'h).2) = turned l (i + 1) := by
  unfold turned
  rw [List.set_append_right _ _ (by simp; omega)]
  have e : i - ((l.take i).map (fun b => (b.2, b.2))).length = 0 := by simp; omega
  rw [e, List.drop_eq_getElem_cons h, List.set_cons_zero, List.take_add_one, List.getElem?_eq_getElem h]
  simp only [Option.toList, List.map_append, List.map_cons, List.map_nil, List.append_assoc, List.cons_append, List.nil_append]
/-- Shares' second loop: what is left, one by one. -/
def give : List Int → List Int → Int → List Int
  | o :: os, g :: gs, left => if 0 < left ∧ o < g then (o + 1) :: give os gs (left - 1) else o :: give os gs left
  | os, _, _ => os
/-- Shares' first loop: one's part. -/
def quotOf (n s g : Int) : Int := if 0 < s then n * g / s else 0
/-- Shares, where the gaps and n may be. -/
def shares (n : Int) (gaps : List Int) : List Int :=
  let out := gaps.map (quotOf n gaps.sum)
  give out gaps (n - out.sum)
/-- Sale: the price, what each gets, the error's number. -/
def sale (a : Auc) : Int × List Int × Int :=
  if a.state = 0 then (0, [], 3)
  else if a.state = 2 then (0, List.replicate a.l.length 0, 0)
  else if a.round = 1 ∨ a.supply - a.demand = 0 then (a.price, a.l.map (·.2), 0)
  else (a.price - a.step, List.zipWith (· + ·) (a.l.map (·.2)) (shares (a.supply - a.demand) (a.l.map fun b => b.1 - b.2)), 0)
theorem give_length (os gs : List Int) (left : Int) : (give os gs left).length = os.length := by
  induction os generalizing gs left with
  | nil => unfold give; rfl
  | cons o os ih =>
    cases gs with
    | nil => rfl
    | cons g gs => unfold give; split <;> simp [ih]
theorem give_mem (os gs : List Int) (left x : Int) (h : x ∈ give os gs left) : ∃ o ∈ os, x = o ∨ x = o + 1 := by
  induction os generalizing gs left with
  | nil => unfold give at h; simp at h
  | cons o os ih =>
    cases gs with
    | nil => exact ⟨x, by unfold give at h; exact h, .inl rfl⟩
    | cons g gs =>
      unfold give at h
      split at h
      · rcases List.mem_cons.1 h with rfl | h
        · exact ⟨o, List.mem_cons_self .., .inr rfl⟩
        · obtain ⟨y, hy, h⟩ := ih _ _ h
          exact ⟨y, List.mem_cons_of_mem _ hy, h⟩
      · rcases List.mem_cons.1 h with rfl | h
        · exact ⟨x, List.mem_cons_self .., .inl rfl⟩
        · obtain ⟨y, hy, h⟩ := ih _ _ h
          exact ⟨y, List.mem_cons_of_mem _ hy, h⟩
theorem shares_bound (n : Int) (gaps : List Int) (hn0 : 0 ≤ n) (hn1 : n ≤ 1048576) (hg : ∀ g ∈ gaps, 0 ≤ g ∧ g ≤ 1048576) (x : Int) (hx : x ∈ shares n gaps) : 0 ≤ x ∧ x ≤ 1099511627777 := by
  obtain ⟨o, ho, h⟩ := give_mem _ _ _ _ hx
  obtain ⟨g, hgm, rfl⟩ := List.mem_map.1 ho
  have hb := hg g hgm
  have hq : 0 ≤ quotOf n gaps.sum g ∧ quotOf n gaps.sum g ≤ 1099511627776 := by
    unfold quotOf
    have h0 : 0 ≤ n * g := Int.mul_nonneg hn0 hb.1
    have h1 : n * g ≤ 1048576 * 1048576 := Int.mul_le_mul hn1 hb.2 hb.1 (by omega)
    split
    · exact ⟨Int.ediv_nonneg h0 (by omega), Int.le_trans (Int.ediv_le_self _ h0) (by omega)⟩
    · omega
  omega
theorem shares_length (n : Int) (gaps : List Int) : (shares n gaps).length = gaps.length := by simp [shares, give_length]
/-- The numbers of an auction's bytes. -/
def nums (a : Auc) : List Int := [a.supply, a.start, a.step, a.round, a.state, (a.l.length : Int)] ++ a.l.flatMap fun b => [b.1, b.2]
def bytes (a : Auc) : ByteArray := strN (a.nums.flatMap fun n => numB n.toNat)
theorem nums_length (a : Auc) : a.nums.length = 6 + 2 * a.l.length := by
  unfold nums
  have : ∀ l : List (Int × Int), (l.flatMap fun b => [b.1, b.2]).length = 2 * l.length := by
    intro l
    induction l with
    | nil => rfl
    | cons x l ih => simp only [List.flatMap_cons, List.length_append, ih, List.length_cons, List.length_nil]; omega
  rw [List.length_append, this]; simp
theorem Ok.nums_le {a : Auc} (h : a.Ok) : ∀ n ∈ a.nums, 0 ≤ n ∧ n ≤ 9007199254740992 := by
  have h1 := h.supply0; have h2 := h.supply1; have h3 := h.start0; have h4 := h.start1; have h5 := h.step0; have h6 := h.step1
  have h7 := h.round0; have h8 := h.round_le; have h9 := h.state0; have h10 := h.state1; have h11 := h.len1
  intro n hn
  unfold nums at hn
  rcases List.mem_append.1 hn with hn | hn
  · simp at hn
    omega
  · obtain ⟨b, hb, hn⟩ := List.mem_flatMap.1 hn
    have hw := h.was b hb
    have hw2 := h.now b hb
    simp at hn
    omega
end Auc
end Go.Proofs.Ytpkongocabnciaa
