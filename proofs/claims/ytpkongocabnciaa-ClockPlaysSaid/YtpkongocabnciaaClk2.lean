/- The walks of the clock auction's Bid, Next and New. -/
import Derived.Test.YtpkongocabnciaaClk
import Derived.StillTailTactics
import Derived.Laws.MakeOwn
namespace Go.Proofs.Ytpkongocabnciaa
open Go.RowKit
set_option linter.unusedVariables false
set_option linter.unusedSimpArgs false

namespace AucAt
variable {w : World} {p q : Nat} {a : Auc}
theorem setNow (h : AucAt w p q a) {i : Nat} {b : Int × Int} (hi : a.l[i]? = some b) (n : Int) : AucAt (w.setCell ⟨q, i * 2 + 1, none⟩ (.int .i64 n)) p q { a with l := a.l.set i (b.1, n) } := by
  constructor
  · rw [Below.heap_setCell _ _ _ _ h.ne, h.hp]; simp
  · rw [setCell_obj h.hq, List.setIfInBounds_toArray, rowsOf_set bidEnc_len a.l i 1 (by omega) b (b.1, n) hi _ rfl]
theorem setWas (h : AucAt w p q a) {i : Nat} {b : Int × Int} (hi : a.l[i]? = some b) (n : Int) : AucAt (w.setCell ⟨q, i * 2, none⟩ (.int .i64 n)) p q { a with l := a.l.set i (n, b.2) } := by
  constructor
  · rw [Below.heap_setCell _ _ _ _ h.ne, h.hp]; simp
  · have e := rowsOf_set bidEnc_len a.l i 0 (by omega) b (n, b.2) hi (.int .i64 n) rfl
    rw [Nat.add_zero] at e
    rw [setCell_obj h.hq, List.setIfInBounds_toArray, e]
theorem setState (h : AucAt w p q a) (n : Int) : AucAt (w.setCell ⟨p, 4, none⟩ (.int .i64 n)) p q { a with state := n } := by
  constructor
  · rw [setCell_obj h.hp]; rfl
  · rw [Below.heap_setCell _ _ _ _ (Ne.symm h.ne), h.hq]
theorem setRound (h : AucAt w p q a) (n : Int) : AucAt (w.setCell ⟨p, 3, none⟩ (.int .i64 n)) p q { a with round := n } := by
  constructor
  · rw [setCell_obj h.hp]; rfl
  · rw [Below.heap_setCell _ _ _ _ (Ne.symm h.ne), h.hq]
end AucAt

/-- What a call that turns an auction leaves. -/
def AucPost (w : World) (p q : Nat) (a : Auc) (v : Value) (e : Ending) (w' : World) : Prop := e = .returned v ∧ AucAt w' p q a ∧ Fr (fun k => k = p ∨ k = q) w w'

set_option maxHeartbeats 1600000 in
theorem bid_any (w : World) (p q : Nat) (a : Auc) (who n : Int) (h : AucAt w p q a) (hok : a.Ok) :
    Calls Try.prog 16 #[.pointer (some ⟨p, 0, none⟩), .int .i64 who, .int .i64 n] w (AucPost w p q (a.bid who n).1 (.int .i64 (a.bid who n).2)) := by
  obtain ⟨k0, k1, k2, k3, k4, k5⟩ := h.cells
  have hlen := hok.len1
  by_cases hs : a.state = 0
  case neg =>
    have hb : Hid (a.bid who n = (a, 70)) := by show Auc.bid a who n = _; unfold Auc.bid; rw [if_pos hs]
    have hs' : (a.state == 0) = false := by simpa using hs
    clear hs
    go_enter Try.func16, Try.ntmps16
    go_wp2
    go_ret
    rw [hb.out]; exact ⟨rfl, h, Fr.refl _ _⟩
  case pos =>
    have k4' : w.cell? ⟨p, 4, none⟩ = some (.int .i64 0) := by rw [← hs]; exact k4
    by_cases hc : who < 0 ∨ a.l.length ≤ who ∨ n < 0 ∨ n > 1048576
    · have hb : Hid (a.bid who n = (a, 1)) := by show Auc.bid a who n = _; unfold Auc.bid; rw [if_neg (by simpa using hs), if_pos hc]
      clear hs k4
      rcases hc with hc | hc | hc | hc
      all_goals
        go_enter Try.func16, Try.ntmps16
        go_wp2
        all_goals go_ret
        all_goals (rw [hb.out]; exact ⟨rfl, h, Fr.refl _ _⟩)
    · have h0 : 0 ≤ who := by omega
      obtain ⟨i, rfl⟩ := Int.eq_ofNat_of_zero_le h0
      have h1 : i < a.l.length := by omega
      obtain ⟨b, hb⟩ : ∃ b, a.l[i]? = some b := ⟨_, List.getElem?_eq_getElem h1⟩
      obtain ⟨c1, c2⟩ := h.bidder hb
      have hn0 : 0 ≤ n := by omega
      have hn1 : n ≤ 1048576 := by omega
      have hwt : Hid (a.wants i = b) := by show Auc.wants a i = b; unfold Auc.wants; rw [if_pos h0, Int.toNat_natCast, List.getD_eq_getElem?_getD, hb]; rfl
      have fz := h.frozenQ (i * 2 + 1)
      by_cases hr : 1 < a.round
      · by_cases hw : b.1 < n
        · have hbd : Hid (a.bid i n = (a, 71)) := by show Auc.bid a i n = _; unfold Auc.bid; rw [if_neg (by simpa using hs), if_neg hc, if_pos ⟨hr, by rw [hwt.out]; exact hw⟩]
          clear hs k4 hb hc
          go_enter Try.func16, Try.ntmps16
          go_wp2
          go_ret
          rw [hbd.out]; exact ⟨rfl, h, Fr.refl _ _⟩
        · have hbd : Hid (a.bid i n = ({ a with l := a.l.set i (b.1, n) }, 0)) := by
            show Auc.bid a i n = _; unfold Auc.bid; rw [if_neg (by simpa using hs), if_neg hc, if_neg (by rw [hwt.out]; omega), hwt.out, Int.toNat_natCast]
          have hA := Lib.hid (h.setNow hb n)
          clear hs k4 hb hc
          go_enter Try.func16, Try.ntmps16
          go_wp2
          go_ret
          rw [hbd.out]; exact ⟨rfl, hA.out, Fr.setCell (Fr.refl _ _) (fun _ => .inr rfl) _⟩
      · have hbd : Hid (a.bid i n = ({ a with l := a.l.set i (b.1, n) }, 0)) := by
          show Auc.bid a i n = _; unfold Auc.bid; rw [if_neg (by simpa using hs), if_neg hc, if_neg (by omega), hwt.out, Int.toNat_natCast]
        have hA := Lib.hid (h.setNow hb n)
        clear hs k4 hb hc
        go_enter Try.func16, Try.ntmps16
        go_wp2
        go_ret
        rw [hbd.out]; exact ⟨rfl, hA.out, Fr.setCell (Fr.refl _ _) (fun _ => .inr rfl) _⟩
set_option maxHeartbeats 1600000 in
theorem next_any (w : World) (p q : Nat) (a : Auc) (h : AucAt w p q a) (hok : a.Ok) :
    Calls Try.prog 15 #[.pointer (some ⟨p, 0, none⟩)] w (AucPost w p q a.next.1 (.tuple #[.bool a.next.2.1, .int .i64 a.next.2.2])) := by
  obtain ⟨k0, k1, k2, k3, k4, k5⟩ := h.cells
  have hlen := hok.len1
  by_cases hs : a.state = 0
  case neg =>
    have hb : Hid (a.next = (a, false, 70)) := by show Auc.next a = _; unfold Auc.next; rw [if_pos hs]
    have hs' : (a.state == 0) = false := by simpa using hs
    clear hs
    go_enter Try.func15, Try.ntmps15
    go_wp2
    go_ret2
    rw [hb.out]; exact ⟨rfl, h, Fr.refl _ _⟩
  case pos =>
    have k4' : w.cell? ⟨p, 4, none⟩ = some (.int .i64 0) := by rw [← hs]; exact k4
    clear k4
    by_cases hd : a.demand ≤ a.supply
    · have hb : Hid (a.next = ({ a with state := 1 }, true, 0)) := by show Auc.next a = _; unfold Auc.next; rw [if_neg (by simpa using hs), if_pos hd]
      clear hs
      go_enter Try.func15, Try.ntmps15
      go_wp2_with fail
      go_region_held3 (fun w' => w'.cell? ⟨p, 0, none⟩ = some (.int .i64 a.supply)) (first | go_keep | exact (hF.cell (lt_obj h.hp) id).trans k0)
        (first | (go_at_call 24; refine (demand_any _ p q a h.drew hok.bd).mono ?_; rintro e w1 ⟨rfl, hF⟩))
      have hA := h.fr (Fr.trans (Fr.refl nob w).drew hF) id id
      have HF := Lib.hid (Fr.trans (Fr.refl nob w).drew hF)
      clear hF k0 k1 k2 k3 k4' k5 h
      obtain ⟨k0, k1, k2, k3, k4, k5⟩ := hA.cells
      have fz := hA.frozenP 4
      have H1 := Lib.hid (hA.setState 1)
      go_wp2
      go_ret2
      rw [hb.out]; exact ⟨rfl, H1.out, (HF.out.mono (fun _ _ h => h.elim)).setCell (fun _ => .inl rfl) _⟩
    · have e1 : IntKind.i64.wrap (1099511627776 - a.step) = 1099511627776 - a.step := by have := hok.step0; have := hok.step1; rw [IntKind.wrap_i64]; omega
      by_cases hp : a.price > 1099511627776 - a.step
      · have hb : Hid (a.next = ({ a with state := 2 }, true, 0)) := by show Auc.next a = _; unfold Auc.next; rw [if_neg (by simpa using hs), if_neg hd, if_pos hp]
        clear hs
        go_enter Try.func15, Try.ntmps15
        go_wp2_with fail
        go_region_held3 (fun w' => w'.cell? ⟨p, 0, none⟩ = some (.int .i64 a.supply)) (first | go_keep | exact (hF.cell (lt_obj h.hp) id).trans k0)
          (first | (go_at_call 24; refine (demand_any _ p q a h.drew hok.bd).mono ?_; rintro e w1 ⟨rfl, hF⟩))
        have hA := h.fr (Fr.trans (Fr.refl nob w).drew hF) id id
        have HF := Lib.hid (Fr.trans (Fr.refl nob w).drew hF)
        clear hF k0 k1 k2 k3 k4' k5 h
        obtain ⟨k0, k1, k2, k3, k4, k5⟩ := hA.cells
        have fz := hA.frozenP 4
        have H1 := Lib.hid (hA.setState 2)
        go_wp2
        go_quiet ((go_at_call 20; refine Calls.quiet_of (price_any _ p q a (hA.drewN _) hok.bd)))
        go_wp2
        go_ret2
        rw [hb.out]; exact ⟨rfl, H1.out.drewN _, ((HF.out.mono (fun _ _ h => h.elim)).setCell (fun _ => .inl rfl) _).drewN _⟩
      · have hb : Hid (a.next = ({ a with round := a.round + 1, l := a.l.map fun b => (b.2, b.2) }, false, 0)) := by show Auc.next a = _; unfold Auc.next; rw [if_neg (by simpa using hs), if_neg hd, if_neg hp]
        have hr1 := hok.round_le
        have hr0 := hok.round0
        have Hs := Lib.hid hs
        clear hs
        go_enter Try.func15, Try.ntmps15
        go_wp2_with fail
        go_region_held3 (fun w' => w'.cell? ⟨p, 0, none⟩ = some (.int .i64 a.supply)) (first | go_keep | exact (hF.cell (lt_obj h.hp) id).trans k0)
          (first | (go_at_call 24; refine (demand_any _ p q a h.drew hok.bd).mono ?_; rintro e w1 ⟨rfl, hF⟩))
        have hA := h.fr (Fr.trans (Fr.refl nob w).drew hF) id id
        have HF := Lib.hid (Fr.trans (Fr.refl nob w).drew hF)
        clear hF k0 k1 k2 k3 k4' k5 h
        obtain ⟨k0, k1, k2, k3, k4, k5⟩ := hA.cells
        have fz := hA.frozenP 3
        have H1 := Lib.hid (hA.setRound (a.round + 1))
        go_wp2
        go_quiet ((go_at_call 20; refine Calls.quiet_of (price_any _ p q a (hA.drewN _) hok.bd)))
        go_wp2
        have H2 := Lib.hid (H1.out.drewN nq)
        have HF2 := Lib.hid (((HF.out.mono (T := fun k => k = p ∨ k = q) (fun _ _ h => h.elim)).setCell (p := ⟨p, 3, none⟩) (fun _ => .inl rfl) (.int .i64 (a.round + 1))).drewN nq)
        clear H1 HF k0 k1 k2 k3 k4 k5 fz
        go_loopg [17] a.l.length (fun k vi wr => ∃ (i : Nat), vi = .int .i64 i ∧ Hid (i + k = a.l.length) ∧ Hid (AucAt wr p q { a with round := a.round + 1, l := Auc.turned a.l i }) ∧ Hid (Fr (fun k => k = p ∨ k = q) w wr))
        case atStart => exact ⟨0, rfl, by show 0 + a.l.length = _; omega, H2.out, HF2.out⟩
        case round =>
          obtain ⟨i, rfl, hik, hAr, hFr⟩ := hrel
          obtain ⟨k0, k1, k2, k3, k4, k5⟩ := hAr.out.cells
          simp only [Auc.turned_length] at k5
          clear hA H2 HF2
          by_cases hi : i < a.l.length
          · obtain ⟨b, hb⟩ : ∃ b, (a.l[i]'hi) = b := ⟨_, rfl⟩
            have hg := Auc.turned_get a.l i hi
            rw [hb] at hg
            obtain ⟨c1, c2⟩ := hAr.out.bidder (b := b) hg
            have fz := hAr.out.frozenQ (i * 2)
            have hS := Lib.hid (hAr.out.setWas hg b.2)
            have hst := Auc.turned_set a.l i hi
            rw [hb] at hst
            have hi' : (i : Int) < (a.l.length : Int) := by omega
            have Hst := Lib.hid hst
            clear hg hb hst
            go_wp2
            go_still_tail 15, (by kernel_rfl)
            go_wp2
            go_roundg (gk - 1)
            case measure => have := hik.out; omega
            case rel =>
              refine ⟨i + 1, by go_num, by have := hik.out; show i + 1 + (gk - 1) = _; omega, ?_, (hFr.out.setCell (fun _ => .inr rfl) _).drew⟩
              have h3 := hS.out
              simp only [Hst.out] at h3
              exact h3.drew
          · have k4' : wr.cell? ⟨p, 4, none⟩ = some (.int .i64 0) := by rw [← Hs.out]; exact k4
            clear k4
            go_wp2
            go_ret2
            have e := Auc.turned_all a.l i (by omega)
            have h3 := hAr.out
            rw [e] at h3
            rw [hb.out]; exact ⟨rfl, h3, hFr.out⟩
end Go.Proofs.Ytpkongocabnciaa
