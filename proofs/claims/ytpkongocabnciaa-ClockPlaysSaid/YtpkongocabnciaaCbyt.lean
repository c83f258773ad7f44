/- The walk of (*clock.Auction).Bytes. -/
import Derived.Test.YtpkongocabnciaaSale
import Derived.Test.YtpkongocabnciaaPut
namespace Go.Proofs.Ytpkongocabnciaa
open Go.RowKit
set_option linter.unusedVariables false
set_option linter.unusedSimpArgs false

theorem flat_len (l : List Int) (h : ∀ n ∈ l, 0 ≤ n ∧ n ≤ 9007199254740992) : (l.flatMap fun n => numB n.toNat).length ≤ 8 * l.length := by
  induction l with
  | nil => simp
  | cons x l ih =>
    have h1 := ih (fun n hn => h n (List.mem_cons_of_mem _ hn))
    have h2 := numB_len8 x.toNat (by have := h x (List.mem_cons_self ..); omega)
    simp only [List.flatMap_cons, List.length_append, List.length_cons]
    omega

set_option maxHeartbeats 3200000 in
theorem bytes_any (w : World) (p q : Nat) (a : Auc) (h : AucAt w p q a) (hok : a.Ok) :
    Calls Try.prog 13 #[.pointer (some ⟨p, 0, none⟩)] w fun e w' => e = .returned (.string a.bytes) ∧ Fr nob w w' := by
  obtain ⟨i0, hi, hz0, hz1, hz2⟩ := info_parts Try.infoInt
  obtain ⟨k0, k1, k2, k3, k4, k5⟩ := h.cells
  have hlen := hok.len1
  have hp0 := lt_obj h.hp
  have hq0 := lt_obj h.hq
  go_enter Try.func13, Try.ntmps13
  go_wp2_with fail
  go_still_tail 25, (by kernel_rfl)
  change wpList _ _ _ _ _ w.drew
  have hA := h.drew
  have HF := Lib.hid ((Fr.refl nob w).drew)
  generalize w.drew = W at hA HF ⊢
  clear k0 k1 k2 k3 k4 k5 h
  obtain ⟨k0, k1, k2, k3, k4, k5⟩ := hA.cells
  have hlp := lt_obj hA.hp
  have hl0 : W.heap.size < (W.alloc (.cells #[.int .i64 a.supply, .int .i64 a.start, .int .i64 a.step, .int .i64 a.round, .int .i64 a.state, .int .i64 a.l.length] 3)).heap.size := by simp
  have hle := HF.out.size
  go_wp2
  go_loopg [3, 44] a.l.length (fun k vl vi wr => ∃ (i : Nat), vi = .int .i64 i ∧ Hid (i + k = a.l.length) ∧ Hid (wr.ownsRow 0 3 1 vl (6 + 2 * i) (ints ([a.supply, a.start, a.step, a.round, a.state, (a.l.length : Int)] ++ (a.l.take i).flatMap fun b => [b.1, b.2]))) ∧ Hid (∀ k, vl.ownBlock = some k → w.heap.size ≤ k) ∧ Hid (AucAt wr p q a) ∧ Hid (Fr nob w wr))
  case atStart =>
    refine ⟨0, rfl, by show 0 + a.l.length = _; omega, ?_, own_some hle, hA.fr (Fr.alloc (Fr.refl nob W) _) id id, HF.out.alloc _⟩
    exact ownsRow_of_full (n := 6) (xs := ints [a.supply, a.start, a.step, a.round, a.state, (a.l.length : Int)]) (heap_alloc_new W _) rfl (by unfold maxLen; omega)
  case round =>
    obtain ⟨i, rfl, hik, hown, hblk, hAr, hFr⟩ := hrel
    clear hA HF k0 k1 k2 k3 k4 k5 hlp hl0 hle
    obtain ⟨A, c, rfl⟩ := ownsRow_shape hown.out
    by_cases hlt : i < a.l.length
    · obtain ⟨b, hb⟩ : ∃ b, a.l[i]? = some b := ⟨_, List.getElem?_eq_getElem hlt⟩
      obtain ⟨c1, c2⟩ := hAr.out.bidder hb
      have htk : Hid ((a.l.take (i + 1)).flatMap (fun b => [b.1, b.2]) = (a.l.take i).flatMap (fun b => [b.1, b.2]) ++ [b.1, b.2]) := by show _ = _; rw [List.take_add_one, hb]; simp
      clear hb
      go_wp2_with (first | (at_builtin; go_loud (refine wpList_append_new rfl (.tmp 48) (.tmp 53) 46 rfl 3 i0 (.int .i64 0) 1 8 Try.underlying46 hi hz0 hz1 hz2 rfl (by decide) (by decide) _ _ _ 2 (by decide) _ rfl (hown.out.alloc _) _ _ rfl (by simp) rfl (by intro u hu; simp at hu; rcases hu with rfl | rfl <;> rfl) (by omega) ?_)))
      intro g c' w1 hown2 hg hgr
      go_wp2
      go_roundg (gk - 1)
      case measure => have := hik.out; omega
      case rel =>
        have hgw : w.heap.size ≤ g := by
          rcases hg with hg | hg
          · exact hblk.out g hg
          · have := hFr.out.size; have h2 : (wr.alloc (.cells #[.int .i64 b.1, .int .i64 b.2] 70)).heap.size = wr.heap.size + 1 := by simp
            omega
        have hFg : Fr (fun k => (Value.slice A (6 + 2 * i) c).ownBlock = some k) wr w1 := ((Fr.refl _ wr).alloc _).grown hgr (fun k hk e => e)
        refine ⟨i + 1, by go_num, by have := hik.out; show i + 1 + (gk - 1) = _; omega, ?_, own_some hgw, hAr.out.fr hFg (fun e => by have := hblk.out p e; omega) (fun e => by have := hblk.out q e; omega), hFr.out.trans' hFg (fun k hk e => by have := hblk.out k e; omega)⟩
        show w1.ownsRow _ _ _ _ _ _
        rw [htk.out, ← List.append_assoc, ints_append]
        exact hown2
    · have hN : Hid ([a.supply, a.start, a.step, a.round, a.state, (a.l.length : Int)] ++ (a.l.take i).flatMap (fun b => [b.1, b.2]) = a.nums) := by show _ = _; rw [List.take_of_length_le (by omega)]; rfl
      have hownN := hown.out
      rw [hN.out] at hownN
      have hnl : Hid (a.nums.length = 6 + 2 * i) := by have := hownN.1; rw [ints_length] at this; show _ = _; omega
      have HownN := Lib.hid hownN
      have hi2 : i ≤ 16 := by have := hik.out; omega
      clear hown hN hownN
      go_wp2
      go_loopg [6, 58] (6 + 2 * i) (fun k vs vj wx => ∃ (j : Nat), vj = .int .i64 j ∧ vs = .string (strN ((a.nums.take j).flatMap fun n => numB n.toNat)) ∧ Hid (j + k = 6 + 2 * i) ∧ Hid (wx.ownsRow 0 3 1 (.slice A (6 + 2 * i) c) (6 + 2 * i) (ints a.nums)) ∧ Hid (Fr nob w wx))
      case atStart => exact ⟨0, rfl, rfl, by show 0 + _ = _; omega, HownN.out, hFr.out⟩
      case round =>
        obtain ⟨j, rfl, rfl, hjk, hownx, hFx⟩ := hrel
        by_cases hlj : j < 6 + 2 * i
        · obtain ⟨g, c', e⟩ := ownsRow_some hownx.out (by omega)
          obtain ⟨x, hx⟩ : ∃ x, a.nums[j]? = some x := ⟨_, List.getElem?_eq_getElem (by have := hnl.out; omega)⟩
          simp only [Value.slice.injEq, true_and] at e
          obtain ⟨rfl, rfl⟩ := e
          have hc := own_get hownx.out (ints_get _ _ _ hx)
          obtain ⟨hx0, hx1⟩ := hok.nums_le x (List.mem_of_getElem? hx)
          have htk : Hid ((a.nums.take (j + 1)).flatMap (fun n => numB n.toNat) = (a.nums.take j).flatMap (fun n => numB n.toNat) ++ numB x.toNat) := by show _ = _; rw [List.take_add_one, hx]; simp
          have hpi := Lib.hid (putInt_of x hx0 hx1)
          have hz3 : (strN (numB x.toNat)).size ≤ 8 := by rw [strN_size]; exact numB_len8 _ (by omega)
          have hz4 : (strN ((a.nums.take j).flatMap fun n => numB n.toNat)).size ≤ 1000 := by
            rw [strN_size]
            have h1 := flat_len (a.nums.take j) (fun n hn => hok.nums_le n (List.mem_of_mem_take hn))
            have h2 := List.length_take_le j a.nums
            omega
          clear hx
          go_wp2_with (first | (go_at_call 38; refine (put_int _ x).mono ?_; rw [hpi.out]; rintro e w2 ⟨rfl, hF⟩))
          go_roundg (gk - 1)
          case measure => have := hjk.out; omega
          case rel => exact ⟨j + 1, by go_num, by rw [htk.out, strN_append], by have := hjk.out; show j + 1 + (gk - 1) = _; omega, ownsRow_fr hownx.out hF (fun k _ => id), hFx.out.trans hF⟩
        · go_wp2
          go_ret
          refine ⟨?_, hFx.out⟩
          have e : a.nums.take j = a.nums := List.take_of_length_le (by have := hnl.out; omega)
          rw [e]; rfl
end Go.Proofs.Ytpkongocabnciaa
