/- The walk of gavelref01.Int: the reference's reader of a number answers as the program's. -/
import Derived.Test.YtpkongocabnciaaGet
namespace Go.Proofs.Ytpkongocabnciaa
open Go.RowKit
set_option linter.unusedVariables false
set_option linter.unusedSimpArgs false

def RIntPost (s : ByteArray) (a : Nat) (w : World) (e : Ending) (w' : World) : Prop :=
  e = .returned (.tuple #[.int .i64 (getInt s a).1, .int .i64 (getInt s a).2.1, .int .i64 (getInt s a).2.2]) ∧ w = w'
theorem RIntPost.err {s : ByteArray} {a : Nat} {w : World} {c : Int} (ha : a ≤ s.size) (hr : rdNum ((byts s).drop a) 0 0 = .error c) : RIntPost s a w (.returned (.tuple #[.int .i64 0, .int .i64 0, .int .i64 c])) w := by
  unfold RIntPost getInt
  rw [if_pos ⟨by omega, by omega⟩, Int.toNat_natCast, hr]
  exact ⟨rfl, rfl⟩
theorem RIntPost.ok {s : ByteArray} {a n m : Nat} {w : World} {l : List Nat} (ha : a ≤ s.size) (hr : rdNum ((byts s).drop a) 0 0 = .ok (n, l)) (hm : m = s.size - l.length) : RIntPost s a w (.returned (.tuple #[.int .i64 n, .int .i64 m, .int .i64 0])) w := by
  unfold RIntPost getInt
  rw [if_pos ⟨by omega, by omega⟩, Int.toNat_natCast, hr, hm]
  exact ⟨rfl, rfl⟩

set_option maxHeartbeats 3200000 in
set_option maxRecDepth 100000 in
theorem rint_any (w : World) (s : ByteArray) (a : Nat) (hs : s.size ≤ 1152921504606846976) (ha : a ≤ s.size) :
    Calls Try.prog 40 #[.string s, .int .i64 a] w (RIntPost s a w) := by
  go_enter Try.func40, Try.ntmps40
  go_wp2
  go_loopg [7, 8, 9] 9 (fun k vn vb vi wr => ∃ (n i b : Nat), vn = .int .i64 n ∧ vb = .int .i64 b ∧ vi = .int .i64 i ∧ Hid (i + k = 9) ∧ i ≤ 8 ∧ Hid (b = 128 ^ i) ∧ b ≤ 72057594037927936 ∧ n ≤ 72057594037927936 ∧ Hid (n < 128 ^ i) ∧ Hid (i < 8 → rdNum ((byts s).drop a) 0 0 = rdNum ((byts s).drop (a + i)) i n) ∧
    Hid (i = 8 → rdNum ((byts s).drop a) 0 0 = .error 11) ∧ w = wr)
  case atStart => exact ⟨0, 0, 1, rfl, rfl, rfl, rfl, by omega, rfl, by omega, by omega, by show 0 < 128 ^ 0; decide, fun _ => rfl, (fun h => by cases h), rfl⟩
  case round =>
    obtain ⟨n, i, b, rfl, rfl, rfl, hik, hi8, hb, hb1, hn1, hn, hrd, hr8, rfl⟩ := hrel
    by_cases hlt : i < 8
    · by_cases hin : a + i < s.size
      · obtain ⟨c, hc⟩ : ∃ c, (s[a + i]'hin).toNat = c := ⟨_, rfl⟩
        have hc8 : c < 256 := by rw [← hc]; exact UInt8.toNat_lt _
        have Hd := Lib.hid (byts_drop s (a + i) hin)
        have hbm : b ≤ 562949953421312 := by
          rw [hb.out]
          exact Nat.le_trans (Nat.pow_le_pow_right (by omega) (show i ≤ 7 by omega)) (by decide)
        have hp0 : (0 : Int) ≤ (c : Int) % 128 * (b : Int) := Int.mul_nonneg (by omega) (by omega)
        have hp1 : (c : Int) % 128 * (b : Int) ≤ 71494644084506624 := by
          have h1 : c % 128 * b ≤ 127 * 562949953421312 := Nat.mul_le_mul (by omega) hbm
          have h2 : (c : Int) % 128 * (b : Int) = ((c % 128 * b : Nat) : Int) := by simp
          rw [h2]; omega
        obtain ⟨m, hm⟩ : ∃ m : Nat, (m : Int) = (n : Int) + (c : Int) % 128 * (b : Int) := ⟨n + c % 128 * b, by simp⟩
        have hmn : Hid (m = n + c % 128 * 128 ^ i) := by
          show m = _
          rw [← hb.out]
          have h2 : (c : Int) % 128 * (b : Int) = ((c % 128 * b : Nat) : Int) := by simp
          rw [h2] at hm; omega
        have hmb : Hid (m < 128 ^ (i + 1)) := by
          show m < _
          rw [hmn.out, Nat.pow_succ]
          have := hn.out
          have h3 : c % 128 * 128 ^ i ≤ 127 * 128 ^ i := Nat.mul_le_mul_right _ (by omega)
          omega
        have Hm := Lib.hid hm
        have hmle : m ≤ 72057594037927936 := by
          have h1 := hmb.out
          have h2 : 128 ^ (i + 1) ≤ 128 ^ 8 := Nat.pow_le_pow_right (by omega) (by omega)
          omega
        clear hm
        by_cases h128 : 128 ≤ c
        · have hnx : Hid (rdNum ((byts s).drop a) 0 0 = if i = 7 then .error 11 else rdNum ((byts s).drop (a + (i + 1))) (i + 1) m) := by
            show _ = _
            rw [hrd.out hlt, Hd.out, hc, rdNum, if_pos h128, hmn.out]; rfl
          go_wp2
          go_roundg (gk - 1)
          case measure => have := hik.out; omega
          case rel =>
            refine ⟨m, i + 1, b * 128, by rw [Hm.out], by go_num, by go_num, by have := hik.out; show i + 1 + (gk - 1) = 9; omega, by omega, by show b * 128 = _; rw [hb.out, Nat.pow_succ], by omega, hmle, hmb.out, ?_, ?_, rfl⟩
            · intro h8
              rw [hnx.out, if_neg (by omega)]
            · intro h8
              rw [hnx.out, if_pos (by omega)]
        · have hnx : Hid (rdNum ((byts s).drop a) 0 0 = if c = 0 ∧ 0 < i then .error 11 else if 9007199254740992 < m then .error 11 else .ok (m, (byts s).drop (a + i + 1))) := by
            show _ = _
            rw [hrd.out hlt, Hd.out, hc, rdNum, if_neg h128, hmn.out]
          have hl2 : Hid (((byts s).drop (a + i + 1)).length = s.size - (a + i + 1)) := by show _ = _; rw [List.length_drop, byts_length]
          by_cases hz : c = 0 ∧ 0 < i
          · obtain ⟨hz1, hz2⟩ := hz
            have hz3 : ((c : Int) == 0) = true := by simpa using hz1
            have he : Hid (rdNum ((byts s).drop a) 0 0 = .error 11) := by show _ = _; rw [hnx.out, if_pos ⟨hz1, hz2⟩]
            clear hz1
            go_wp2
            go_ret3
            exact RIntPost.err ha he.out
          · have hcs : (((c : Int) == 0) = false ∨ (((c : Int) == 0) = true ∧ i ≤ 0)) := by
              by_cases h0 : c = 0
              · exact .inr ⟨by simpa using h0, by omega⟩
              · exact .inl (by simp; omega)
            by_cases hbig : (9007199254740992 : Int) < (n : Int) + (c : Int) % 128 * (b : Int)
            · have he : Hid (rdNum ((byts s).drop a) 0 0 = .error 11) := by show _ = _; rw [hnx.out, if_neg hz, if_pos (by have := Hm.out; omega)]
              clear hz
              rcases hcs with hc0 | ⟨hc0, hi0⟩
              all_goals
                go_wp2
                all_goals go_ret3
                all_goals exact RIntPost.err ha he.out
            · have he : Hid (rdNum ((byts s).drop a) 0 0 = .ok (m, (byts s).drop (a + i + 1))) := by show _ = _; rw [hnx.out, if_neg hz, if_neg (by have := Hm.out; omega)]
              clear hz
              rcases hcs with hc0 | ⟨hc0, hi0⟩
              all_goals
                go_wp2
                all_goals go_ret3
                all_goals
                  have hx := RIntPost.ok (w := w) (m := a + i + 1) ha he.out (by rw [hl2.out]; omega)
                  rw [Hm.out] at hx
                  simpa using hx
      · go_wp2
        go_ret3
        exact RIntPost.err ha (by rw [hrd.out hlt, List.drop_eq_nil_of_le (by rw [byts_length]; omega), rdNum])
    · go_wp2
      go_ret3
      exact RIntPost.err ha (hr8.out (by omega))
end Go.Proofs.Ytpkongocabnciaa
