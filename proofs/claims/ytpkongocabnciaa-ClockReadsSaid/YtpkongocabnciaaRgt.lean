/- The walk of (*clock.Auction).right. -/
import Derived.Test.YtpkongocabnciaaClk2
import Derived.Test.YtpkongocabnciaaRgtM
namespace Go.Proofs.Ytpkongocabnciaa
open Go.RowKit
set_option linter.unusedVariables false
set_option linter.unusedSimpArgs false

set_option maxHeartbeats 1600000 in
theorem right_head (w : World) (p q : Nat) (a : Auc) (h : AucAt w p q a) (hok : a.Pre) (hr : ¬ a.HeadOk) :
    Calls Try.prog 37 #[.pointer (some ⟨p, 0, none⟩)] w fun e w' => e = .returned (.bool false) ∧ Fr nob w w' := by
  obtain ⟨k0, k1, k2, k3, k4, k5⟩ := h.cells
  have hr0 := hok.round0
  have hr1 := hok.round1
  have hd0 : 0 ≤ (1099511627776 - a.start) / a.step := Int.ediv_nonneg (by have := hok.start1; omega) (by have := hok.step0; omega)
  have hd1 : (1099511627776 - a.start) / a.step ≤ 1099511627776 := Int.le_trans (Int.ediv_le_self _ (by have := hok.start1; omega)) (by have := hok.start0; omega)
  have e1 : IntKind.i64.wrap (a.round - 1) = a.round - 1 := by rw [IntKind.wrap_i64]; omega
  have e2 : IntKind.i64.wrap (1099511627776 - a.start) = 1099511627776 - a.start := by have := hok.start0; have := hok.start1; rw [IntKind.wrap_i64]; omega
  have e3 : IntKind.i64.wrap (Int.tdiv (1099511627776 - a.start) a.step) = (1099511627776 - a.start) / a.step := by
    rw [Int.tdiv_eq_ediv_of_nonneg (by have := hok.start1; omega), IntKind.wrap_i64]; omega
  have hs0 : ¬ a.step = 0 := by have := hok.step0; omega
  have hs0' : (a.step == 0) = false := by simpa using hs0
  by_cases h1 : a.round < 1
  · have h1' : decide (a.round < 1) = true := by simpa using h1
    clear hd0 hd1 hr0 hr1 hr
    go_enter Try.func37, Try.ntmps37
    go_wp2_with fail
    go_quiet (fail)
    go_wp2
    go_ret
    exact ⟨rfl, (Fr.refl nob w).drewN _⟩
  · have h1' : decide (a.round < 1) = false := by simpa using h1
    by_cases h2 : (1099511627776 - a.start) / a.step < a.round - 1
    · have h2' : decide ((1099511627776 - a.start) / a.step < a.round - 1) = true := by simpa using h2
      clear hd0 hd1 hr0 hr1 hr
      go_enter Try.func37, Try.ntmps37
      go_wp2_with fail
      go_quiet (fail)
      go_wp2
      go_ret
      exact ⟨rfl, (Fr.refl nob w).drewN _⟩
    · have h2' : decide ((1099511627776 - a.start) / a.step < a.round - 1) = false := by simpa using h2
      have h3 : 2 < a.state := by
        unfold Auc.HeadOk at hr; omega
      have h3' : decide (2 < a.state) = true := by simpa using h3
      clear hd0 hd1 hr0 hr1 hr
      go_enter Try.func37, Try.ntmps37
      go_wp2_with fail
      go_quiet (fail)
      go_wp2
      go_ret
      exact ⟨rfl, (Fr.refl nob w).drewN _⟩
theorem sum1_bound (l : List (Int × Int)) (r : Int) (h : ∀ b ∈ l, Auc.BidOk r b) (h0 : ∀ b ∈ l, 0 ≤ b.1) : 0 ≤ (l.map (·.1)).sum ∧ (l.map (·.1)).sum ≤ 1048576 * l.length := by
  induction l with
  | nil => simp
  | cons x l ih =>
    have h1 := ih (fun b hb => h b (List.mem_cons_of_mem _ hb)) (fun b hb => h0 b (List.mem_cons_of_mem _ hb))
    have h2 := (h x (List.mem_cons_self ..)).1
    have h3 := h0 x (List.mem_cons_self ..)
    simp only [List.map_cons, List.sum_cons, List.length_cons]
    omega

/-- What the look at an auction leaves. -/
def RightPost (w : World) (a : Auc) (e : Ending) (w' : World) : Prop := e = .returned (.bool (decide a.Right)) ∧ Fr nob w w'

set_option maxHeartbeats 6400000 in
theorem right_tail (w : World) (p q : Nat) (a : Auc) (h : AucAt w p q a) (hok : a.Pre) (hr : a.HeadOk) :
    Calls Try.prog 37 #[.pointer (some ⟨p, 0, none⟩)] w (RightPost w a) := by
  obtain ⟨k0, k1, k2, k3, k4, k5⟩ := h.cells
  have hr0 := hok.round0
  have hr1 := hok.round1
  have hlen := hok.len1
  have hrr := hr
  obtain ⟨g1, g2, g3⟩ := hr
  have hd1 : (1099511627776 - a.start) / a.step ≤ 1099511627776 := Int.le_trans (Int.ediv_le_self _ (by have := hok.start1; omega)) (by have := hok.start0; omega)
  have e1 : IntKind.i64.wrap (a.round - 1) = a.round - 1 := by rw [IntKind.wrap_i64]; omega
  have e2 : IntKind.i64.wrap (1099511627776 - a.start) = 1099511627776 - a.start := by have := hok.start0; have := hok.start1; rw [IntKind.wrap_i64]; omega
  have hd0 : 0 ≤ (1099511627776 - a.start) / a.step := Int.ediv_nonneg (by have := hok.start1; omega) (by have := hok.step0; omega)
  have e3 : IntKind.i64.wrap (Int.tdiv (1099511627776 - a.start) a.step) = (1099511627776 - a.start) / a.step := by
    rw [Int.tdiv_eq_ediv_of_nonneg (by have := hok.start1; omega), IntKind.wrap_i64]; omega
  have hs0 : ¬ a.step = 0 := by have := hok.step0; omega
  have hs0' : (a.step == 0) = false := by simpa using hs0
  have h1' : decide (a.round < 1) = false := by simp; omega
  have h2' : decide ((1099511627776 - a.start) / a.step < a.round - 1) = false := by simp; omega
  have h3' : decide (2 < a.state) = false := by simp; omega
  clear hd0 hd1
  go_enter Try.func37, Try.ntmps37
  go_wp2_with fail
  go_quiet (fail)
  clear e1 e2 e3 hs0 hs0' h1' h2' h3'
  go_wp2
  go_loopg [3, 42] a.l.length (fun k vs vi wr => ∃ (i : Nat) (s : Int), vs = .int .i64 s ∧ vi = .int .i64 i ∧ Hid (i + k = a.l.length) ∧ Hid (s = ((a.l.take i).map (·.1)).sum) ∧ 0 ≤ s ∧ s ≤ 1048576 * i ∧ Hid (∀ b ∈ a.l.take i, Auc.BidOk a.round b) ∧ Hid (Fr nob w wr))
  case atStart => exact ⟨0, 0, rfl, rfl, by show 0 + a.l.length = _; omega, rfl, by omega, by omega, by intro b hb; simp at hb, (Fr.refl nob w).drewN _⟩
  case round =>
    obtain ⟨i, s, rfl, rfl, hik, hsm, hs0, hs1, hall, hFr⟩ := hrel
    have hA := h.fr hFr.out id id
    have Hr := Lib.hid hrr
    clear k0 k1 k2 k3 k4 k5 hrr
    obtain ⟨k0, k1, k2, k3, k4, k5⟩ := hA.cells
    by_cases hlt : i < a.l.length
    · obtain ⟨b, hb⟩ : ∃ b, a.l[i]? = some b := ⟨_, List.getElem?_eq_getElem hlt⟩
      obtain ⟨c1, c2⟩ := hA.bidder hb
      obtain ⟨hb0, hb1⟩ := hok.was b (List.mem_of_getElem? hb)
      obtain ⟨hb2, hb3⟩ := hok.now b (List.mem_of_getElem? hb)
      have hbm := Lib.hid (List.mem_of_getElem? hb)
      have htk : Hid (a.l.take (i + 1) = a.l.take i ++ [b]) := by show _ = _; rw [List.take_add_one, hb]; rfl
      have hlp := lt_obj hA.hp
      clear hb
      by_cases hok1 : Auc.BidOk a.round b
      · obtain ⟨o1, o2, o3, o4⟩ := hok1
        have Ho : Hid (Auc.BidOk a.round b) := ⟨o1, o2, o3, o4⟩
        rcases (show a.round = 1 ∨ 1 < a.round by omega) with hrd | hrd
        · have o3' := o3 hrd
          have hrd' : (a.round == 1) = true := by simpa using hrd
          have hrd2 : a.round ≤ 1 := by omega
          clear o3 o4 hrd
          go_wp2
          go_roundg (gk - 1)
          case measure => have := hik.out; omega
          case rel => 
            refine ⟨i + 1, s + b.1, rfl, by go_num, by have := hik.out; show i + 1 + (gk - 1) = _; omega, by show s + b.1 = _; rw [htk.out, hsm.out]; simp, by omega, by omega, ?_, hFr.out.alloc _⟩
            intro x hx
            rw [htk.out] at hx
            rcases List.mem_append.1 hx with hx | hx
            · exact hall.out x hx
            · rw [List.mem_singleton.1 hx]; exact Ho.out
        · have o4' := o4 hrd
          have hrd' : (a.round == 1) = false := by simp; omega
          clear o3 o4
          go_wp2
          go_roundg (gk - 1)
          case measure => have := hik.out; omega
          case rel => 
            refine ⟨i + 1, s + b.1, rfl, by go_num, by have := hik.out; show i + 1 + (gk - 1) = _; omega, by show s + b.1 = _; rw [htk.out, hsm.out]; simp, by omega, by omega, ?_, hFr.out.alloc _⟩
            intro x hx
            rw [htk.out] at hx
            rcases List.mem_append.1 hx with hx | hx
            · exact hall.out x hx
            · rw [List.mem_singleton.1 hx]; exact Ho.out
      · have hF : Hid (decide a.Right = false) := by
          show _ = _
          rw [decide_eq_false_iff_not]
          exact fun hR => hok1 (hR.2.1 b hbm.out)
        have hcases : (1048576 < b.1) ∨ (b.1 ≤ 1048576 ∧ 1048576 < b.2) ∨ (b.1 ≤ 1048576 ∧ b.2 ≤ 1048576 ∧ (a.round == 1) = true ∧ 0 < b.1) ∨ (b.1 ≤ 1048576 ∧ b.2 ≤ 1048576 ∧ (a.round == 1) = false ∧ 1 < a.round ∧ b.1 < b.2) := by
          rcases (show a.round = 1 ∨ 1 < a.round by omega) with hrd | hrd
          · have h1 : (a.round == 1) = true := by simpa using hrd
            by_cases x1 : b.1 ≤ 1048576
            · by_cases x2 : b.2 ≤ 1048576
              · refine .inr (.inr (.inl ⟨x1, x2, h1, ?_⟩))
                by_cases x3 : 0 < b.1
                · exact x3
                · exact (hok1 ⟨x1, x2, fun _ => by omega, fun h => by omega⟩).elim
              · exact .inr (.inl ⟨x1, by omega⟩)
            · exact .inl (by omega)
          · have h1 : (a.round == 1) = false := by simp; omega
            by_cases x1 : b.1 ≤ 1048576
            · by_cases x2 : b.2 ≤ 1048576
              · refine .inr (.inr (.inr ⟨x1, x2, h1, hrd, ?_⟩))
                by_cases x3 : b.1 < b.2
                · exact x3
                · exact (hok1 ⟨x1, x2, fun h => by omega, fun _ => by omega⟩).elim
              · exact .inr (.inl ⟨x1, by omega⟩)
            · exact .inl (by omega)
        clear hok1
        rcases hcases with hc | ⟨hc1, hc⟩ | ⟨hc1, hc2, hc3, hc⟩ | ⟨hc1, hc2, hc3, hc4, hc⟩
        all_goals
          go_wp2
          all_goals go_ret
          all_goals exact ⟨by rw [hF.out]; rfl, hFr.out.alloc _⟩
    · have hseq : s = (a.l.map (·.1)).sum := by rw [hsm.out, List.take_of_length_le (by omega)]
      have hall' : ∀ b ∈ a.l, Auc.BidOk a.round b := by have h1 := hall.out; rw [List.take_of_length_le (by omega)] at h1; exact h1
      have Hs := Lib.hid hseq
      have Hall := Lib.hid hall'
      have hbd := Auc.right_bd hok Hr.out hall'
      clear hseq hall' hall hsm
      by_cases hm : 1 < a.round ∧ s ≤ a.supply
      · obtain ⟨hm1, hm2⟩ := hm
        have hF : Hid (decide a.Right = false) := by
          show _ = _
          rw [decide_eq_false_iff_not]
          intro hR
          have := hR.2.2.1 hm1
          rw [← Hs.out] at this; omega
        go_wp2
        go_ret
        exact ⟨by rw [hF.out]; rfl, hFr.out⟩
      · have hmid : a.MidOk := by intro h1; rw [← Hs.out]; omega
        have hsup := hok.supply1
        have hdm := hbd.demand_le
        obtain ⟨hdm0, hdm1⟩ := hdm
        have hst0 := hok.step0
        have hst1 := hok.step1
        have hpr := hbd.price_le
        obtain ⟨hpr0, hpr1⟩ := hpr
        have ew : IntKind.i64.wrap (1099511627776 - a.step) = 1099511627776 - a.step := by rw [IntKind.wrap_i64]; omega
        have hR : Hid (a.Right ↔ a.TailOk) := ⟨fun hR => hR.2.2.2, fun ht => ⟨Hr.out, Hall.out, hmid, ht⟩⟩
        have hcase : ¬ 1 < a.round ∨ 1 < a.round ∧ a.supply < s := by omega
        clear hm
        rcases hcase with hm | ⟨hm1, hm2⟩
        all_goals
          go_wp2
          go_region_held3 (fun w' => w'.cell? ⟨p, 0, none⟩ = some (.int .i64 a.supply)) (first | go_keep | exact (hF.cell (lt_obj hA.hp) id).trans k0)
            (first | (go_at_call 24; refine (demand_any _ p q a hA.drew hbd).mono ?_; rintro e w2 ⟨rfl, hF⟩))
          have hF2 := Fr.trans (Fr.refl nob _).drew hF
          have hA2 := hA.fr hF2 id id
          have HF2 := Lib.hid (hFr.out.trans hF2)
          clear hF hF2 hA k0 k1 k2 k3 k4 k5
          obtain ⟨k0, k1, k2, k3, k4, k5⟩ := hA2.cells
          have Hst := Lib.hid g3
          have hcs : (a.state = 0) ∨ (a.state = 1 ∧ decide (a.supply < a.demand) = false) ∨ (a.state = 1 ∧ decide (a.supply < a.demand) = true) ∨ (a.state = 2 ∧ decide (a.supply < a.demand) = false) ∨
              (a.state = 2 ∧ decide (a.supply < a.demand) = true ∧ decide (1099511627776 - a.step < a.price) = true) ∨ (a.state = 2 ∧ decide (a.supply < a.demand) = true ∧ decide (1099511627776 - a.step < a.price) = false) := by
            have hs0 := hok.state0
            rcases (show a.state = 0 ∨ a.state = 1 ∨ a.state = 2 by omega) with h1 | h1 | h1
            · exact .inl h1
            · cases h2 : decide (a.supply < a.demand)
              · exact .inr (.inl ⟨h1, rfl⟩)
              · exact .inr (.inr (.inl ⟨h1, rfl⟩))
            · cases h2 : decide (a.supply < a.demand)
              · exact .inr (.inr (.inr (.inl ⟨h1, rfl⟩)))
              · cases h3 : decide (1099511627776 - a.step < a.price)
                · exact .inr (.inr (.inr (.inr (.inr ⟨h1, rfl, rfl⟩))))
                · exact .inr (.inr (.inr (.inr (.inl ⟨h1, rfl, rfl⟩))))
          rcases hcs with h1 | ⟨h1, h2⟩ | ⟨h1, h2⟩ | ⟨h1, h2⟩ | ⟨h1, h2, h3⟩ | ⟨h1, h2, h3⟩
          all_goals
            have H1 := Lib.hid h1
            rw [h1] at k4
            clear h1
            go_wp2
            go_quiet ((go_at_call 20; refine Calls.quiet_of (price_any _ p q a (hA2.drewN _) hbd)))
            go_wp2
            go_ret
            refine ⟨?_, HF2.out.drewN _⟩
            have e : decide a.Right = decide a.TailOk := decide_eq_decide.2 hR.out
            rw [e, Auc.tail_dec, H1.out]
            first | rfl | (rw [h2]; rfl) | (rw [h2, h3]; rfl)

theorem right_any (w : World) (p q : Nat) (a : Auc) (h : AucAt w p q a) (hok : a.Pre) :
    Calls Try.prog 37 #[.pointer (some ⟨p, 0, none⟩)] w (RightPost w a) := by
  by_cases hr : a.HeadOk
  · exact right_tail w p q a h hok hr
  · refine (right_head w p q a h hok hr).mono fun e w' hx => ⟨?_, hx.2⟩
    rw [hx.1, decide_eq_false (fun hR => hr hR.1)]
end Go.Proofs.Ytpkongocabnciaa
