/- Plain: a whole text of numbers; the auction that bytes are. -/
import Derived.Test.YtpkongocabnciaaRgtM
namespace Go.Proofs.Ytpkongocabnciaa
open Go.RowKit

theorem rdNum_err (l : List Nat) (i n : Nat) (e : Int) (h : rdNum l i n = .error e) : e = 10 ∨ e = 11 := by
  induction l generalizing i n with
  | nil => cases h; exact .inl rfl
  | cons c l ih =>
    unfold rdNum at h
    by_cases h1 : 128 ≤ c
    · rw [if_pos h1] at h
      by_cases h2 : i = 7
      · rw [if_pos h2] at h; cases h; exact .inr rfl
      · rw [if_neg h2] at h; exact ih _ _ h
    · rw [if_neg h1] at h
      by_cases h2 : c = 0 ∧ 0 < i
      · rw [if_pos h2] at h; cases h; exact .inr rfl
      · rw [if_neg h2] at h
        by_cases h3 : 9007199254740992 < n + c % 128 * 128 ^ i
        · rw [if_pos h3] at h; cases h; exact .inr rfl
        · rw [if_neg h3] at h; cases h
/-- All numbers of a text; none: it is no such text, or there are more than m + 1. -/
def rdAll (m : Nat) : Nat → List Nat → Nat → Option (List Int)
  | _, [], _ => some []
  | 0, _ :: _, _ => none
  | f + 1, x :: l, c =>
    match rdNum (x :: l) 0 0 with
    | .error _ => none
    | .ok (n, r) => if m < c then none else (rdAll m f r (c + 1)).map ((n : Int) :: ·)

theorem rdAll_nil (m f c : Nat) : rdAll m f [] c = some [] := by cases f <;> rfl
theorem rdAll_err {m f c x : Nat} {l : List Nat} {e : Int} (h : rdNum (x :: l) 0 0 = .error e) : rdAll m (f + 1) (x :: l) c = none := by simp only [rdAll, h]
theorem rdAll_full {m f c x n : Nat} {l r : List Nat} (h : rdNum (x :: l) 0 0 = .ok (n, r)) (hc : m < c) : rdAll m (f + 1) (x :: l) c = none := by simp only [rdAll, h, if_pos hc]
theorem rdAll_go {m f c x n : Nat} {l r : List Nat} (h : rdNum (x :: l) 0 0 = .ok (n, r)) (hc : ¬ m < c) : rdAll m (f + 1) (x :: l) c = (rdAll m f r (c + 1)).map ((n : Int) :: ·) := by simp only [rdAll, h, if_neg hc]
theorem rdAll_bound (m : Nat) : ∀ (f : Nat) (l : List Nat) (c : Nat) (r : List Int), rdAll m f l c = some r → (∀ n ∈ r, 0 ≤ n ∧ n ≤ 9007199254740992) ∧ (c ≤ m + 1 → c + r.length ≤ m + 1) := by
  intro f
  induction f with
  | zero =>
    intro l c r h
    cases l with
    | nil => rw [rdAll_nil] at h; cases h; simp
    | cons x l => cases h
  | succ f ih =>
    intro l c r h
    cases l with
    | nil => rw [rdAll_nil] at h; cases h; simp
    | cons x l =>
      cases hn : rdNum (x :: l) 0 0 with
      | error e => rw [rdAll_err hn] at h; cases h
      | ok p =>
        obtain ⟨n, q⟩ := p
        by_cases hc : m < c
        · rw [rdAll_full hn hc] at h; cases h
        · rw [rdAll_go hn hc] at h
          obtain ⟨t, ht, rfl⟩ := Option.map_eq_some_iff.1 h
          have h1 := ih _ _ _ ht
          have h2 := rdNum_le _ _ _ _ _ hn
          refine ⟨?_, ?_⟩
          · intro y hy
            rcases List.mem_cons.1 hy with rfl | hy
            · omega
            · exact h1.1 y hy
          · intro _
            have := h1.2 (by omega)
            simp; omega

def pairs : List Int → List (Int × Int)
  | a :: b :: l => (a, b) :: pairs l
  | _ => []
theorem pairs_length : ∀ (k : Nat) (l : List Int), l.length = 2 * k → (pairs l).length = k := by
  intro k
  induction k with
  | zero => intro l h; obtain rfl : l = [] := List.eq_nil_of_length_eq_zero (by omega); rfl
  | succ k ih =>
    intro l h
    match l, h with
    | a :: b :: l, h => simp only [pairs, List.length_cons]; rw [ih l (by simp at h; omega)]
    | [_], h => simp at h; omega
    | [], h => simp at h
theorem pairs_get : ∀ (i : Nat) (l : List Int) (a b : Int), l[2 * i]? = some a → l[2 * i + 1]? = some b → (pairs l)[i]? = some (a, b) := by
  intro i
  induction i with
  | zero =>
    intro l a b h1 h2
    match l, h1, h2 with
    | x :: y :: l, h1, h2 => simp at h1 h2; subst h1; subst h2; rfl
    | [_], h1, h2 => simp at h2
    | [], h1, h2 => simp at h1
  | succ i ih =>
    intro l a b h1 h2
    match l, h1, h2 with
    | x :: y :: l, h1, h2 =>
      simp only [pairs, List.getElem?_cons_succ]
      exact ih l a b (by rw [show 2 * (i + 1) = 2 * i + 1 + 1 by omega] at h1; simpa using h1) (by rw [show 2 * (i + 1) + 1 = 2 * i + 1 + 1 + 1 by omega] at h2; simpa using h2)
    | [_], h1, h2 => simp at h2
    | [], h1, h2 => simp at h1

/-- One list laid over another, so far. -/
def overl (P Z : List (Int × Int)) (i : Nat) : List (Int × Int) := P.take i ++ Z.drop i
theorem overl_zero (P Z : List (Int × Int)) : overl P Z 0 = Z := rfl
theorem overl_all (P Z : List (Int × Int)) (i : Nat) (h1 : P.length ≤ i) (h2 : Z.length ≤ i) : overl P Z i = P := by unfold overl; rw [List.take_of_length_le h1, List.drop_eq_nil_of_le h2, List.append_nil]
theorem overl_length (P Z : List (Int × Int)) (i : Nat) (h : P.length = Z.length) : (overl P Z i).length = Z.length := by unfold overl; simp; omega
theorem overl_get (P Z : List (Int × Int)) (i : Nat) (h : P.length = Z.length) (hi : i < Z.length) : (overl P Z i)[i]? = some (Z[i]'hi) := by
  unfold overl
  rw [List.getElem?_append_right (by simp; omega), List.getElem?_drop]
  simp only [List.length_take]
  rw [show i + (i - min i P.length) = i by omega, List.getElem?_eq_getElem hi]
theorem overl_set (P Z : List (Int × Int)) (i : Nat) (x : Int × Int) (h : P.length = Z.length) (hx : P[i]? = some x) : (overl P Z i).set i x = overl P Z (i + 1) := by
  have hi : i < P.length := (List.getElem?_eq_some_iff.1 hx).1
  unfold overl
  rw [List.set_append_right _ _ (by simp; omega), show i - (P.take i).length = 0 by simp; omega, List.drop_eq_getElem_cons (show i < Z.length by omega), List.set_cons_zero, List.take_add_one, hx, List.append_assoc]
  rfl
namespace Auc
/-- What numbers are as an auction, ahead of the look. -/
def ofNums (l : List Int) : Option Auc :=
  if l.length < 6 ∨ l.length % 2 ≠ 0 ∨ l.getD 5 0 ≠ (((l.length - 6) / 2 : Nat) : Int) then none
  else (made (l.getD 0 0) (l.getD 1 0) (l.getD 2 0) (l.getD 5 0)).map fun a => { a with round := l.getD 3 0, state := l.getD 4 0, l := pairs (l.drop 6) }
/-- Of: the auction that bytes are. -/
def of (s : ByteArray) : Option Auc :=
  match rdAll 38 s.size (byts s) 0 with
  | none => none
  | some l => match ofNums l with
    | none => none
    | some a => if a.Right then some a else none
theorem ofNums_pre {l : List Int} {a : Auc} (h : ofNums l = some a) (hl : ∀ n ∈ l, 0 ≤ n ∧ n ≤ 9007199254740992) : a.Pre := by
  unfold ofNums at h
  by_cases hc : l.length < 6 ∨ l.length % 2 ≠ 0 ∨ l.getD 5 0 ≠ (((l.length - 6) / 2 : Nat) : Int)
  · rw [if_pos hc] at h; cases h
  · rw [if_neg hc] at h
    obtain ⟨b, hb, rfl⟩ := Option.map_eq_some_iff.1 h
    obtain ⟨hok, _, _, _, _, _, hbl, hn1, hn2⟩ := made_ok hb
    have hget : ∀ i, 0 ≤ l.getD i 0 ∧ l.getD i 0 ≤ 9007199254740992 := by
      intro i
      rw [List.getD_eq_getElem?_getD]
      cases hg : l[i]? with
      | none => simp
      | some x => exact hl x (List.mem_of_getElem? hg)
    have hpl : (pairs (l.drop 6)).length = (l.length - 6) / 2 := pairs_length _ _ (by simp; omega)
    have hmem : ∀ (k : Nat) (m : List Int), (∀ n ∈ m, 0 ≤ n ∧ n ≤ 9007199254740992) → m.length ≤ k → ∀ b ∈ pairs m, (0 ≤ b.1 ∧ b.1 ≤ 9007199254740992) ∧ (0 ≤ b.2 ∧ b.2 ≤ 9007199254740992) := by
      intro k
      induction k with
      | zero => intro m hm hk b hb; obtain rfl : m = [] := List.eq_nil_of_length_eq_zero (by omega); simp [pairs] at hb
      | succ k ih =>
        intro m hm hk b hb
        match m, hm, hk, hb with
        | x :: y :: m, hm, hk, hb =>
          simp only [pairs, List.mem_cons] at hb
          rcases hb with rfl | hb
          · exact ⟨hm x (by simp), hm y (by simp)⟩
          · exact ih m (fun n hn => hm n (by simp [hn])) (by simp at hk; omega) b hb
        | [_], hm, hk, hb => simp [pairs] at hb
        | [], hm, hk, hb => simp [pairs] at hb
    have hmm := hmem l.length (l.drop 6) (fun n hn => hl n (List.mem_of_mem_drop hn)) (by simp)
    have h5 : l.getD 5 0 = (((l.length - 6) / 2 : Nat) : Int) := by omega
    rw [h5] at hn1 hn2
    exact ⟨hok.supply0, hok.supply1, hok.start0, hok.start1, hok.step0, hok.step1, by simp only [hpl]; omega, by simp only [hpl]; omega, (hget 3).1, (hget 3).2, (hget 4).1, (hget 4).2, fun b hb => (hmm b hb).1, fun b hb => (hmm b hb).2⟩
end Auc
end Go.Proofs.Ytpkongocabnciaa
