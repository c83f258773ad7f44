/- Plain: bytes that are an auction's are its bytes. -/
import Derived.Test.YtpkongocabnciaaOfM
namespace Go.Proofs.Ytpkongocabnciaa
open Go.RowKit

theorem rdNum_numB (l : List Nat) (hl : ∀ b ∈ l, b < 256) (i acc n : Nat) (r : List Nat) (h : rdNum l i acc = .ok (n, r)) : ∃ m, n = acc + m * 128 ^ i ∧ l = numB m ++ r ∧ (0 < i → 0 < m) := by
  induction l generalizing i acc with
  | nil => cases h
  | cons c l ih =>
    unfold rdNum at h
    by_cases h1 : 128 ≤ c
    · rw [if_pos h1] at h
      by_cases h2 : i = 7
      · rw [if_pos h2] at h; cases h
      · rw [if_neg h2] at h
        obtain ⟨m, hm, hlr, hpos⟩ := ih (fun b hb => hl b (List.mem_cons_of_mem _ hb)) _ _ h
        have hm0 := hpos (by omega)
        have hc := hl c (List.mem_cons_self ..)
        refine ⟨c % 128 + 128 * m, ?_, ?_, by omega⟩
        · rw [hm, Nat.pow_succ, Nat.add_mul]
          have : m * (128 ^ i * 128) = 128 * m * 128 ^ i := by rw [Nat.mul_comm (128 ^ i) 128, ← Nat.mul_assoc, Nat.mul_comm m 128]
          omega
        · rw [numB_big (by omega), hlr, show (c % 128 + 128 * m) % 128 + 128 = c by omega, show (c % 128 + 128 * m) / 128 = m by omega]; rfl
    · rw [if_neg h1] at h
      by_cases h2 : c = 0 ∧ 0 < i
      · rw [if_pos h2] at h; cases h
      · rw [if_neg h2] at h
        by_cases h3 : 9007199254740992 < acc + c % 128 * 128 ^ i
        · rw [if_pos h3] at h; cases h
        · rw [if_neg h3] at h
          cases h
          refine ⟨c, by rw [Nat.mod_eq_of_lt (by omega)], by rw [numB_small (by omega)]; rfl, by omega⟩

theorem rdAll_numB (m : Nat) : ∀ (f : Nat) (l : List Nat) (c : Nat) (r : List Int), (∀ b ∈ l, b < 256) → rdAll m f l c = some r → l = r.flatMap fun n => numB n.toNat := by
  intro f
  induction f with
  | zero =>
    intro l c r hl h
    cases l with
    | nil => rw [rdAll_nil] at h; cases h; rfl
    | cons x l => cases h
  | succ f ih =>
    intro l c r hl h
    cases l with
    | nil => rw [rdAll_nil] at h; cases h; rfl
    | cons x l =>
      cases hn : rdNum (x :: l) 0 0 with
      | error e => rw [rdAll_err hn] at h; cases h
      | ok p =>
        obtain ⟨n, q⟩ := p
        by_cases hc : m < c
        · rw [rdAll_full hn hc] at h; cases h
        · rw [rdAll_go hn hc] at h
          obtain ⟨t, ht, rfl⟩ := Option.map_eq_some_iff.1 h
          obtain ⟨k, hk, hlq, _⟩ := rdNum_numB _ hl _ _ _ _ hn
          have h3 := ih q (c + 1) t (fun b hb => hl b (by rw [hlq]; exact List.mem_append_right _ hb)) ht
          rw [hlq, List.flatMap_cons, ← h3]
          congr 2
          simp at hk
          simp [hk]

theorem strN_byts (s : ByteArray) : strN (byts s) = s := by
  apply ByteArray.ext
  unfold strN byts
  rw [List.map_map]
  have e : (UInt8.ofNat ∘ UInt8.toNat) = (id : UInt8 → UInt8) := by funext x; simp
  rw [e, List.map_id]

theorem flat_pairs : ∀ (k : Nat) (l : List Int), l.length = 2 * k → (pairs l).flatMap (fun b => [b.1, b.2]) = l := by
  intro k
  induction k with
  | zero => intro l h; obtain rfl : l = [] := List.eq_nil_of_length_eq_zero (by omega); rfl
  | succ k ih =>
    intro l h
    match l, h with
    | a :: b :: l, h =>
      simp only [pairs, List.flatMap_cons]
      rw [ih l (by simp at h; omega)]; rfl
    | [_], h => simp at h; omega
    | [], h => simp at h
namespace Auc
theorem nums_ofNums {l : List Int} {a : Auc} (h : ofNums l = some a) : a.nums = l := by
  unfold ofNums at h
  by_cases hc : l.length < 6 ∨ l.length % 2 ≠ 0 ∨ l.getD 5 0 ≠ (((l.length - 6) / 2 : Nat) : Int)
  · rw [if_pos hc] at h; cases h
  · rw [if_neg hc] at h
    obtain ⟨b, hb, rfl⟩ := Option.map_eq_some_iff.1 h
    obtain ⟨_, _, _, h1, h2, h3, _⟩ := made_ok hb
    unfold nums
    have hp := flat_pairs ((l.length - 6) / 2) (l.drop 6) (by simp; omega)
    have hpl := pairs_length ((l.length - 6) / 2) (l.drop 6) (by simp; omega)
    simp only
    rw [hp, h1, h2, h3, hpl]
    match l, hc with
    | x0 :: x1 :: x2 :: x3 :: x4 :: x5 :: t, hc =>
      have h5 : x5 = ((((x0 :: x1 :: x2 :: x3 :: x4 :: x5 :: t).length - 6) / 2 : Nat) : Int) := by
        have := hc
        simp only [List.getD_cons_succ, List.getD_cons_zero] at this
        omega
      rw [← h5]
      rfl
    | [], hc => simp at hc
    | [_], hc => simp at hc
    | [_, _], hc => simp at hc
    | [_, _, _], hc => simp at hc
    | [_, _, _, _], hc => simp at hc
    | [_, _, _, _, _], hc => simp at hc
theorem of_bytes {s : ByteArray} {a : Auc} (h : of s = some a) : a.bytes = s ∧ a.Ok := by
  unfold of at h
  cases hr : rdAll 38 s.size (byts s) 0 with
  | none => rw [hr] at h; cases h
  | some l =>
    rw [hr] at h
    simp only at h
    cases ho : ofNums l with
    | none => rw [ho] at h; cases h
    | some b =>
      rw [ho] at h
      simp only at h
      by_cases hR : b.Right
      · rw [if_pos hR] at h
        cases h
        refine ⟨?_, right_ok (ofNums_pre ho (rdAll_bound _ _ _ _ _ hr).1) hR⟩
        unfold bytes
        rw [nums_ofNums ho, ← rdAll_numB _ _ _ _ _ (byts_lt s) hr, strN_byts]
      · rw [if_neg hR] at h; cases h
end Auc
end Go.Proofs.Ytpkongocabnciaa
