/- Plain: a number's bytes, seven bits a byte, and how they are read. Nothing of the program stands here. -/
import Derived.Test.YtpkongocabnciaaBase
import Derived.Laws.BytesArg
namespace Go.Proofs.Ytpkongocabnciaa
open Go.RowKit

def numB (n : Nat) : List Nat := if h : n < 128 then [n] else (n % 128 + 128) :: numB (n / 128)
termination_by n
decreasing_by omega

theorem numB_small {n : Nat} (h : n < 128) : numB n = [n] := by rw [numB, dif_pos h]
theorem numB_big {n : Nat} (h : 128 ≤ n) : numB n = (n % 128 + 128) :: numB (n / 128) := by rw [numB, dif_neg (by omega)]
theorem numB_ne (n : Nat) : numB n ≠ [] := by
  by_cases h : n < 128
  · rw [numB_small h]; simp
  · rw [numB_big (by omega)]; simp
theorem numB_lt (n : Nat) : ∀ b ∈ numB n, b < 256 := by
  induction n using Nat.strongRecOn with
  | _ n ih =>
    by_cases h : n < 128
    · rw [numB_small h]; intro b hb; simp at hb; omega
    · rw [numB_big (by omega)]; intro b hb
      rcases List.mem_cons.1 hb with rfl | hb
      · omega
      · exact ih _ (by omega) b hb
theorem numB_len (k n : Nat) (h : n < 128 ^ (k + 1)) : (numB n).length ≤ k + 1 := by
  induction k generalizing n with
  | zero => rw [numB_small (by simpa using h)]; simp
  | succ k ih =>
    by_cases h1 : n < 128
    · rw [numB_small h1]; simp
    · rw [numB_big (by omega), List.length_cons]
      have := ih (n / 128) (by rw [Nat.div_lt_iff_lt_mul (by omega)]; rw [Nat.pow_succ] at h; exact h)
      omega
theorem numB_len8 (n : Nat) (h : n ≤ 9007199254740992) : (numB n).length ≤ 8 := numB_len 7 n (by omega)

/-- Bytes as a string. -/
def strN (l : List Nat) : ByteArray := ⟨(l.map UInt8.ofNat).toArray⟩
theorem strN_nil : strN [] = ByteArray.empty := rfl
theorem strN_append (a b : List Nat) : strN (a ++ b) = strN a ++ strN b := by
  apply ByteArray.ext
  simp [strN]
theorem strN_size (a : List Nat) : (strN a).size = a.length := by simp [strN, ByteArray.size]

def u8s (l : List Nat) : List Value := l.map fun (n : Nat) => Value.int .u8 (n : Int)
theorem u8s_append (a b : List Nat) : u8s (a ++ b) = u8s a ++ u8s b := by simp [u8s]
theorem u8s_length (a : List Nat) : (u8s a).length = a.length := by simp [u8s]
theorem u8s_one (l : List Nat) : ∀ u ∈ u8s l, u.oneCell' = true := by
  intro u hu
  obtain ⟨x, _, rfl⟩ := List.mem_map.1 hu
  rfl

/-- Reading: what is left, the byte's number, what was read: an error's number, or the number and what is left then. -/
def rdNum : List Nat → Nat → Nat → Except Int (Nat × List Nat)
  | [], _, _ => .error 10
  | c :: l, i, n =>
    if 128 ≤ c then (if i = 7 then .error 11 else rdNum l (i + 1) (n + c % 128 * 128 ^ i))
    else if c = 0 ∧ 0 < i then .error 11
    else if 9007199254740992 < n + c % 128 * 128 ^ i then .error 11
    else .ok (n + c % 128 * 128 ^ i, l)
/-- A string's bytes. -/
def byts (s : ByteArray) : List Nat := s.data.toList.map UInt8.toNat
theorem byts_length (s : ByteArray) : (byts s).length = s.size := by unfold byts; rw [List.length_map]; rfl
theorem byts_lt (s : ByteArray) : ∀ b ∈ byts s, b < 256 := by
  intro b hb
  obtain ⟨x, _, rfl⟩ := List.mem_map.1 hb
  exact x.toNat_lt
theorem byts_get (s : ByteArray) (i : Nat) (h : i < s.size) : (byts s)[i]'(by rw [byts_length]; exact h) = (s[i]'h).toNat := by
  have h2 : i < s.data.toList.length := h
  have e : (byts s)[i]? = some ((s[i]'h).toNat) := by
    unfold byts
    rw [List.getElem?_map, List.getElem?_eq_getElem h2]
    rfl
  rw [List.getElem?_eq_getElem (by rw [byts_length]; exact h)] at e
  exact Option.some.inj e
theorem byts_drop (s : ByteArray) (i : Nat) (h : i < s.size) : (byts s).drop i = (s[i]'h).toNat :: (byts s).drop (i + 1) := by
  rw [List.drop_eq_getElem_cons (by rw [byts_length]; exact h), byts_get s i h]
theorem rdNum_drop (l : List Nat) (i n m : Nat) (r : List Nat) (h : rdNum l i n = .ok (m, r)) : ∃ k, r = l.drop (k + 1) ∧ k < l.length := by
  induction l generalizing i n with
  | nil => cases h
  | cons c l ih =>
    unfold rdNum at h
    by_cases h1 : 128 ≤ c
    · rw [if_pos h1] at h
      by_cases h2 : i = 7
      · rw [if_pos h2] at h; cases h
      · rw [if_neg h2] at h
        obtain ⟨k, hk, hl⟩ := ih _ _ h
        exact ⟨k + 1, by rw [hk]; rfl, by simp; omega⟩
    · rw [if_neg h1] at h
      by_cases h2 : c = 0 ∧ 0 < i
      · rw [if_pos h2] at h; cases h
      · rw [if_neg h2] at h
        by_cases h3 : 9007199254740992 < n + c % 128 * 128 ^ i
        · rw [if_pos h3] at h; cases h
        · rw [if_neg h3] at h
          cases h
          exact ⟨0, rfl, by simp⟩
theorem rdNum_le (l : List Nat) (i n m : Nat) (r : List Nat) (h : rdNum l i n = .ok (m, r)) : m ≤ 9007199254740992 := by
  induction l generalizing i n with
  | nil => cases h
  | cons c l ih =>
    unfold rdNum at h
    by_cases h1 : 128 ≤ c
    · rw [if_pos h1] at h
      by_cases h2 : i = 7
      · rw [if_pos h2] at h; cases h
      · rw [if_neg h2] at h
        exact ih _ _ h
    · rw [if_neg h1] at h
      by_cases h2 : c = 0 ∧ 0 < i
      · rw [if_pos h2] at h; cases h
      · rw [if_neg h2] at h
        by_cases h3 : 9007199254740992 < n + c % 128 * 128 ^ i
        · rw [if_pos h3] at h; cases h
        · rw [if_neg h3] at h
          cases h
          omega

theorem strN_nums (l : List Nat) : strOfNums (l.map fun (n : Nat) => (n : Int)) = strN l := by
  apply ByteArray.ext
  simp [strOfNums, strN]
theorem run_convert_own {P : Program} {w : World} {src dst e e' : TypeId} {base : Nat} {v : Value} {n : Nat} {l : List Nat} (hs : P.underlying src = some (.slice e)) (he : P.underlying e = some (.int .u8)) (hd : P.underlying dst = some .string)
    (h : w.ownsRow base e' 1 v n (u8s l)) : (convert src dst v).run P w = .ok (.string (strN l)) w := by
  have hl : l.length = n := by have := h.1; simp [u8s] at this; exact this
  rcases h.2 with ⟨rfl, rfl⟩ | ⟨g, cap, cur, rfl, _⟩
  · obtain rfl : l = [] := List.eq_nil_of_length_eq_zero hl
    exact run_convert_bytes_nil w src e hs he 0 0 dst hd
  · rw [← strN_nums]
    refine run_convert_bytes_arg w src e hs he g 0 n cap _ (by simp [hl]) (fun i hi => ?_) dst hd
    have hc := h.cells (g := g) rfl i (.int .u8 ((l.map fun (n : Nat) => (n : Int)).getD i 0)) (by simp [u8s, List.getElem?_eq_getElem (show i < l.length by omega), List.getD_eq_getElem?_getD])
    have ha : (⟨g, 0, none⟩ : Addr).add i = ⟨g, 0 + i, none⟩ := by unfold Addr.add; split <;> simp_all
    rwa [ha] at hc

end Go.Proofs.Ytpkongocabnciaa
