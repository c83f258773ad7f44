/- The walks of the clock auction's small calls: Price, Demand, Last, Supply, Round, State, Wants, Bid, Next, New. -/
import Derived.Test.YtpkongocabnciaaClkM
import Derived.Deep.RegionHeld3
namespace Go.Proofs.Ytpkongocabnciaa
open Go.RowKit
set_option linter.unusedVariables false
set_option linter.unusedSimpArgs false

def bidEnc (b : Int × Int) : List Value := [.int .i64 b.1, .int .i64 b.2]
theorem bidEnc_len (b : Int × Int) : (bidEnc b).length = 2 := rfl

/-- An auction lies at block p, its bidders at block q. -/
structure AucAt (w : World) (p q : Nat) (a : Auc) : Prop where
  hp : w.heap[p]? = some (.cells #[.int .i64 a.supply, .int .i64 a.start, .int .i64 a.step, .int .i64 a.round, .int .i64 a.state, .slice (some ⟨q, 0, none⟩) a.l.length a.l.length] 54 (0, 0))
  hq : w.heap[q]? = some (.cells (rowsOf bidEnc a.l).toArray 70 (0, 0))

namespace AucAt
variable {w : World} {p q : Nat} {a : Auc}
theorem ne (h : AucAt w p q a) : p ≠ q := ne_obj h.hp h.hq (by simp)
theorem fr {S : Nat → Prop} {w' : World} (h : AucAt w p q a) (hf : Fr S w w') (h1 : ¬ S p) (h2 : ¬ S q) : AucAt w' p q a := ⟨hf.obj h.hp h1, hf.obj h.hq h2⟩
theorem cells (h : AucAt w p q a) : w.cell? ⟨p, 0, none⟩ = some (.int .i64 a.supply) ∧ w.cell? ⟨p, 1, none⟩ = some (.int .i64 a.start) ∧ w.cell? ⟨p, 2, none⟩ = some (.int .i64 a.step) ∧
    w.cell? ⟨p, 3, none⟩ = some (.int .i64 a.round) ∧ w.cell? ⟨p, 4, none⟩ = some (.int .i64 a.state) ∧ w.cell? ⟨p, 5, none⟩ = some (.slice (some ⟨q, 0, none⟩) a.l.length a.l.length) :=
  ⟨cell_obj h.hp 0, cell_obj h.hp 1, cell_obj h.hp 2, cell_obj h.hp 3, cell_obj h.hp 4, cell_obj h.hp 5⟩
theorem bidder (h : AucAt w p q a) {i : Nat} {b : Int × Int} (hi : a.l[i]? = some b) : w.cell? ⟨q, i * 2, none⟩ = some (.int .i64 b.1) ∧ w.cell? ⟨q, i * 2 + 1, none⟩ = some (.int .i64 b.2) := by
  constructor
  · rw [cell_obj h.hq, List.getElem?_toArray]
    have := rowsOf_get bidEnc_len a.l i 0 (by omega) b hi
    rw [Nat.add_zero] at this; rw [this]; rfl
  · rw [cell_obj h.hq, List.getElem?_toArray, rowsOf_get bidEnc_len a.l i 1 (by omega) b hi]; rfl
theorem drewN (h : AucAt w p q a) (n : Nat) : AucAt (w.drewN n) p q a := ⟨h.hp, h.hq⟩
theorem drew (h : AucAt w p q a) : AucAt w.drew p q a := ⟨h.hp, h.hq⟩
theorem frozenP (h : AucAt w p q a) (o : Nat) : w.frozen? ⟨p, o, none⟩ = false := frozen_obj h.hp o
theorem frozenQ (h : AucAt w p q a) (o : Nat) : w.frozen? ⟨q, o, none⟩ = false := frozen_obj h.hq o
end AucAt

theorem price_any (w : World) (p q : Nat) (a : Auc) (h : AucAt w p q a) (hok : a.Bd) :
    Calls Try.prog 20 #[.pointer (some ⟨p, 0, none⟩)] w fun e w' => e = .returned (.int .i64 a.price) ∧ ∃ n, w' = w.drewN n := by
  obtain ⟨k0, k1, k2, k3, k4, k5⟩ := h.cells
  have e1 : IntKind.i64.wrap (a.round - 1) = a.round - 1 := by have := hok.round0; have := hok.round_le; rw [IntKind.wrap_i64]; omega
  have e2 : IntKind.i64.wrap ((a.round - 1) * a.step) = (a.round - 1) * a.step := by have := hok.prod; rw [IntKind.wrap_i64]; omega
  have e3 : IntKind.i64.wrap (a.start + (a.round - 1) * a.step) = a.start + (a.round - 1) * a.step := by have := hok.prod; have := hok.start0; have := hok.start1; rw [IntKind.wrap_i64]; omega
  clear hok
  go_enter Try.func20, Try.ntmps20
  go_wp2
  go_quiet (fail)
  go_wp2
  go_ret
  exact ⟨rfl, _, rfl⟩
theorem demand_any (w : World) (p q : Nat) (a : Auc) (h : AucAt w p q a) (hok : a.Bd) :
    Calls Try.prog 24 #[.pointer (some ⟨p, 0, none⟩)] w fun e w' => e = .returned (.int .i64 a.demand) ∧ Fr nob w w' := by
  have hl := hok.len1
  obtain ⟨_, _, _, _, _, k5⟩ := h.cells
  go_enter Try.func24, Try.ntmps24
  go_wp2
  go_loopg [3, 13] a.l.length (fun k vn vi wr => ∃ (i : Nat) (n : Int), vn = .int .i64 n ∧ vi = .int .i64 i ∧ Hid (i + k = a.l.length) ∧ Hid (n = ((a.l.take i).map (·.2)).sum) ∧ 0 ≤ n ∧ n ≤ 1048576 * i ∧ Hid (Fr nob w wr))
  case atStart => exact ⟨0, 0, rfl, rfl, by show 0 + a.l.length = _; omega, rfl, by omega, by omega, Fr.refl _ _⟩
  case round =>
    obtain ⟨i, n, rfl, rfl, hik, hn, hn0, hn1, hF⟩ := hrel
    have hA := h.fr hF.out id id
    clear k5
    by_cases hi : i < a.l.length
    · obtain ⟨b, hb⟩ : ∃ b, a.l[i]? = some b := ⟨_, List.getElem?_eq_getElem hi⟩
      obtain ⟨c1, c2⟩ := hA.bidder hb
      have hbn := hok.now b (List.mem_of_getElem? hb)
      obtain ⟨hbn0, hbn1⟩ := hbn
      have Hb := Lib.hid hb
      clear hb
      go_wp2
      go_roundg (gk - 1)
      case measure => have := hik.out; omega
      case rel =>
        refine ⟨i + 1, n + b.2, rfl, by go_num, by have := hik.out; show i + 1 + (gk - 1) = _; omega, ?_, by omega, by omega, (hF.out).alloc _⟩
        show n + b.2 = _
        rw [List.take_add_one, Hb.out, hn.out]; simp
    · go_wp2
      go_ret
      have : a.l.take i = a.l := List.take_of_length_le (by omega)
      exact ⟨by rw [hn.out, this]; rfl, hF.out⟩
theorem supply_any (w : World) (p q : Nat) (a : Auc) (h : AucAt w p q a) :
    Calls Try.prog 30 #[.pointer (some ⟨p, 0, none⟩)] w fun e w' => e = .returned (.int .i64 a.supply) ∧ w = w' := by
  obtain ⟨k0, k1, k2, k3, k4, k5⟩ := h.cells
  go_enter Try.func30, Try.ntmps30
  go_wp2
  go_ret
  exact ⟨rfl, rfl⟩

theorem round_any (w : World) (p q : Nat) (a : Auc) (h : AucAt w p q a) :
    Calls Try.prog 31 #[.pointer (some ⟨p, 0, none⟩)] w fun e w' => e = .returned (.int .i64 a.round) ∧ w = w' := by
  obtain ⟨k0, k1, k2, k3, k4, k5⟩ := h.cells
  go_enter Try.func31, Try.ntmps31
  go_wp2
  go_ret
  exact ⟨rfl, rfl⟩

theorem state_any (w : World) (p q : Nat) (a : Auc) (h : AucAt w p q a) :
    Calls Try.prog 32 #[.pointer (some ⟨p, 0, none⟩)] w fun e w' => e = .returned (.int .i64 a.state) ∧ w = w' := by
  obtain ⟨k0, k1, k2, k3, k4, k5⟩ := h.cells
  go_enter Try.func32, Try.ntmps32
  go_wp2
  go_ret
  exact ⟨rfl, rfl⟩

theorem last_any (w : World) (p q : Nat) (a : Auc) (h : AucAt w p q a) (hok : a.Ok) :
    Calls Try.prog 28 #[.pointer (some ⟨p, 0, none⟩)] w fun e w' => e = .returned (.int .i64 a.last) ∧ ∃ n, w' = w.drewN n := by
  obtain ⟨k0, k1, k2, k3, k4, k5⟩ := h.cells
  by_cases h1 : a.round = 1
  · have hl : Hid (a.last = 0) := by show Auc.last a = 0; unfold Auc.last; rw [if_pos h1]
    have k3' : w.cell? ⟨p, 3, none⟩ = some (.int .i64 1) := by rw [← h1]; exact k3
    clear k3 h1
    go_enter Try.func28, Try.ntmps28
    go_wp2
    go_ret
    exact ⟨by rw [hl.out]; rfl, 0, rfl⟩
  · have hl : Hid (a.last = a.price - a.step) := by show Auc.last a = _; unfold Auc.last; rw [if_neg h1]
    have hr : (a.round == 1) = false := by simpa using h1
    have e1 : IntKind.i64.wrap (a.price - a.step) = a.price - a.step := by have := hok.price_le; have := hok.step0; have := hok.step1; rw [IntKind.wrap_i64]; omega
    clear h1
    go_enter Try.func28, Try.ntmps28
    go_wp2
    go_quiet ((go_at_call 20; refine Calls.quiet_of (price_any _ p q a (h.drewN _) hok.bd)))
    go_wp2
    go_ret
    exact ⟨by rw [hl.out]; rfl, _, rfl⟩

theorem wants_any (w : World) (p q : Nat) (a : Auc) (who : Int) (h : AucAt w p q a) (hok : a.Ok) :
    Calls Try.prog 33 #[.pointer (some ⟨p, 0, none⟩), .int .i64 who] w fun e w' => e = .returned (.tuple #[.int .i64 (a.wants who).1, .int .i64 (a.wants who).2]) ∧ ∃ n, w' = w.drewN n := by
  obtain ⟨k0, k1, k2, k3, k4, k5⟩ := h.cells
  have hlen := hok.len1
  by_cases h0 : 0 ≤ who
  · obtain ⟨i, rfl⟩ := Int.eq_ofNat_of_zero_le h0
    by_cases h1 : i < a.l.length
    · obtain ⟨b, hb⟩ : ∃ b, a.l[i]? = some b := ⟨_, List.getElem?_eq_getElem h1⟩
      obtain ⟨c1, c2⟩ := h.bidder hb
      have hw : Hid (a.wants i = b) := by show Auc.wants a i = b; unfold Auc.wants; rw [if_pos h0, Int.toNat_natCast, List.getD_eq_getElem?_getD, hb]; rfl
      have h1' : (i : Int) < (a.l.length : Int) := by omega
      clear hb
      go_enter Try.func33, Try.ntmps33
      go_wp2
      go_quiet (fail)
      go_wp2
      go_ret2
      exact ⟨by rw [hw.out]; rfl, _, rfl⟩
    · have hw : Hid (a.wants i = (0, 0)) := by show Auc.wants a i = _; unfold Auc.wants; rw [if_pos h0, Int.toNat_natCast, List.getD_eq_getElem?_getD, List.getElem?_eq_none (by omega)]; rfl
      go_enter Try.func33, Try.ntmps33
      go_wp2
      go_ret2
      exact ⟨by rw [hw.out]; rfl, 0, rfl⟩
  · have hw : Hid (a.wants who = (0, 0)) := by show Auc.wants a who = _; unfold Auc.wants; rw [if_neg h0]
    go_enter Try.func33, Try.ntmps33
    go_wp2
    go_ret2
    exact ⟨by rw [hw.out]; rfl, 0, rfl⟩
end Go.Proofs.Ytpkongocabnciaa
