/- Plain: an auction's bytes are an auction's: the same. -/
import Derived.Test.YtpkongocabnciaaOfB
namespace Go.Proofs.Ytpkongocabnciaa
open Go.RowKit

theorem rdNum_back : ∀ (k m i acc : Nat) (l : List Nat), m < 128 ^ (k + 1) → i + k ≤ 7 → (0 < i → 0 < m) → acc + m * 128 ^ i ≤ 9007199254740992 → rdNum (numB m ++ l) i acc = .ok (acc + m * 128 ^ i, l) := by
  intro k
  induction k with
  | zero =>
    intro m i acc l hm hi hpos hle
    have hm' : m < 128 := by simpa using hm
    rw [numB_small hm']
    show rdNum (m :: l) i acc = _
    rw [rdNum, if_neg (by omega), if_neg (by omega), Nat.mod_eq_of_lt hm', if_neg (by omega)]
  | succ k ih =>
    intro m i acc l hm hi hpos hle
    by_cases h1 : m < 128
    · rw [numB_small h1]
      show rdNum (m :: l) i acc = _
      rw [rdNum, if_neg (by omega), if_neg (by omega), Nat.mod_eq_of_lt h1, if_neg (by omega)]
    · rw [numB_big (by omega)]
      show rdNum ((m % 128 + 128) :: (numB (m / 128) ++ l)) i acc = _
      have e : m * 128 ^ i = m % 128 * 128 ^ i + m / 128 * 128 ^ (i + 1) := by
        rw [Nat.pow_succ]
        have h2 : m / 128 * (128 ^ i * 128) = m / 128 * 128 * 128 ^ i := by rw [Nat.mul_comm (128 ^ i) 128, Nat.mul_assoc]
        rw [h2, ← Nat.add_mul]
        congr 1
        omega
      rw [rdNum, if_pos (by omega), if_neg (by omega), show (m % 128 + 128) % 128 = m % 128 by omega]
      rw [ih (m / 128) (i + 1) _ l (by rw [Nat.div_lt_iff_lt_mul (by omega), ← Nat.pow_succ]; exact hm) (by omega) (fun _ => by omega) (by omega)]
      rw [e, Nat.add_assoc]

theorem numB_cons (n : Nat) : ∃ x t, numB n = x :: t := by
  cases h : numB n with
  | nil => exact absurd h (numB_ne n)
  | cons x t => exact ⟨x, t, rfl⟩

theorem rdAll_back (m : Nat) : ∀ (r : List Int) (f c : Nat), (∀ n ∈ r, 0 ≤ n ∧ n ≤ 9007199254740992) → (r.flatMap fun n => numB n.toNat).length ≤ f → c + r.length ≤ m + 1 → rdAll m f (r.flatMap fun n => numB n.toNat) c = some r := by
  intro r
  induction r with
  | nil => intro f c _ _ _; exact rdAll_nil m f c
  | cons n r ih =>
    intro f c hr hf hc
    have hn := hr n (List.mem_cons_self ..)
    rw [List.flatMap_cons] at hf ⊢
    have hb := rdNum_back 7 n.toNat 0 0 (r.flatMap fun n => numB n.toNat) (by omega) (by omega) (by omega) (by omega)
    obtain ⟨x, t, hx⟩ := numB_cons n.toNat
    have hl1 : (numB n.toNat).length = t.length + 1 := by rw [hx]; rfl
    rw [hx, List.cons_append] at hb
    rw [hx, List.cons_append]
    rw [List.length_append, hl1] at hf
    obtain ⟨f', rfl⟩ : ∃ f', f = f' + 1 := ⟨f - 1, by omega⟩
    rw [rdAll_go hb (by simp only [List.length_cons] at hc; omega)]
    rw [ih f' (c + 1) (fun y hy => hr y (List.mem_cons_of_mem _ hy)) (by omega) (by simp only [List.length_cons] at hc; omega)]
    simp; omega

theorem byts_strN (l : List Nat) (h : ∀ b ∈ l, b < 256) : byts (strN l) = l := by
  unfold byts strN
  rw [List.map_map]
  conv => rhs; rw [← List.map_id l]
  apply List.map_congr_left
  intro x hx
  have := h x hx
  simp; omega

theorem pairs_flat (l : List (Int × Int)) : pairs (l.flatMap fun b => [b.1, b.2]) = l := by
  induction l with
  | nil => rfl
  | cons x l ih =>
    rw [List.flatMap_cons]
    show (x.1, x.2) :: pairs (l.flatMap fun b => [b.1, b.2]) = _
    rw [ih]

namespace Auc
theorem ofNums_nums {a : Auc} (h : a.Ok) : ofNums a.nums = some a := by
  have hl := nums_length a
  have h5 : a.nums.getD 5 0 = (a.l.length : Int) := rfl
  have h6 : a.nums.drop 6 = a.l.flatMap fun b => [b.1, b.2] := rfl
  have hm : made a.supply a.start a.step a.l.length = some { supply := a.supply, start := a.start, step := a.step, round := 1, state := 0, l := List.replicate a.l.length (0, 0) } := by
    have h1 := h.supply0; have h2 := h.supply1; have h3 := h.start0; have h4 := h.start1; have h7 := h.step0; have h8 := h.step1; have h9 := h.len0; have h10 := h.len1
    unfold made
    rw [if_neg (by omega), Int.toNat_natCast]
  unfold ofNums
  rw [if_neg (by rw [h5, hl]; omega), h5, h6, pairs_flat]
  show Option.map _ (made a.supply a.start a.step a.l.length) = _
  rw [hm]
  rfl
theorem of_back {a : Auc} (h : a.Ok) : of a.bytes = some a := by
  have hn := h.nums_le
  have hb : ∀ b ∈ a.nums.flatMap (fun n => numB n.toNat), b < 256 := by
    intro b hb
    obtain ⟨n, _, hb⟩ := List.mem_flatMap.1 hb
    exact numB_lt _ b hb
  have hl := nums_length a
  have h1 : rdAll 38 a.bytes.size (byts a.bytes) 0 = some a.nums := by
    unfold bytes
    rw [byts_strN _ hb]
    exact rdAll_back 38 a.nums _ 0 hn (by rw [strN_size]; exact Nat.le_refl _) (by have := h.len1; omega)
  unfold of
  rw [h1]
  simp only [ofNums_nums h]
  exact if_pos (ok_right h)
theorem bytes_size {a : Auc} (h : a.Ok) : a.bytes.size ≤ 100000 := by
  unfold bytes
  rw [strN_size]
  have hl := nums_length a
  have h1 := h.len1
  have hf : ∀ l : List Int, (∀ n ∈ l, 0 ≤ n ∧ n ≤ 9007199254740992) → (l.flatMap fun n => numB n.toNat).length ≤ 8 * l.length := by
    intro l
    induction l with
    | nil => intro _; simp
    | cons x l ih =>
      intro hx
      have h1 := ih (fun n hn => hx n (List.mem_cons_of_mem _ hn))
      have h2 := numB_len8 x.toNat (by have := hx x (List.mem_cons_self ..); omega)
      simp only [List.flatMap_cons, List.length_append, List.length_cons]
      omega
  have := hf a.nums h.nums_le
  omega
end Auc
end Go.Proofs.Ytpkongocabnciaa
