/- The law ClockPlays: does the program's auction tell what the reference's does? The calls, each by its contract, over one view of the world. -/
import Derived.Test.YtpkongocabnciaaStep
import Derived.Test.YtpkongocabnciaaClk
namespace Go.Proofs.Ytpkongocabnciaa
open Go.RowKit Go.Proofs.Ytpkongocabnciaa.PClockPlays
open Go.Proofs.YtpkongocabnciaaW.PrintWords (Kd.V Kd.V_slice Kd.V_reads' Kd.V_step Kd.V_mono Kd.V_below Kd.V_bound Kd Drawn0 Drawn0.below Kd.own_of_R Kd.at_int)
set_option linter.unusedVariables false
set_option linter.unusedSimpArgs false

/-- What 'like' holds of the world all the while. -/
structure LA (w0 : World) (p q : Nat) (a : Auc) (bx : Nat) (A : Option Addr) (c : Nat) (rs : List (List Int)) (vg va : Value) (lg la : List Int) (w : World) : Prop where
  auc : AucAt w p q a
  ref : Kd.V (Kd.slice 3 (Kd.int .i64)) 46 w 0 (fun k => ¬ (k = p ∨ k = q)) (.slice A rs.length c) rs
  box : w.heap[bx]? = some (.cells #[.int .i64 a.supply, .int .i64 a.start, .int .i64 a.step, .int .i64 a.state, .slice A rs.length c] 30 (0, 0))
  got : w.ownsRow 0 3 1 vg lg.length (ints lg)
  all : w.ownsRow 0 3 1 va la.length (ints la)
  fr : Fr nob w0 w
  rd : RdAt rs a
  ok : a.Ok
namespace LA
variable {w0 w w' : World} {p q bx c : Nat} {a : Auc} {A : Option Addr} {rs : List (List Int)} {vg va : Value} {lg la : List Int}
theorem step (h : LA w0 p q a bx A c rs vg va lg la w) (hF : Fr nob w w') : LA w0 p q a bx A c rs vg va lg la w' :=
  ⟨h.auc.fr hF id id, Kd.V_step h.ref (fun k _ hl => hF.block k hl id), hF.obj h.box id, ownsRow_fr h.got hF (fun _ _ => id), ownsRow_fr h.all hF (fun _ _ => id), h.fr.trans hF, h.rd, h.ok⟩
theorem drew (h : LA w0 p q a bx A c rs vg va lg la w) : LA w0 p q a bx A c rs vg va lg la w.drew := h.step (Fr.refl _ _).drew
theorem drewN (h : LA w0 p q a bx A c rs vg va lg la w) (n : Nat) : LA w0 p q a bx A c rs vg va lg la (w.drewN n) := h.step ((Fr.refl _ _).drewN n)
theorem keep (h : LA w0 p q a bx A c rs vg va lg la w) : w.cell? ⟨bx, 0, none⟩ = some (.int .i64 a.supply) ∧ w.cell? ⟨bx, 1, none⟩ = some (.int .i64 a.start) ∧ w.cell? ⟨bx, 2, none⟩ = some (.int .i64 a.step) ∧ w.cell? ⟨bx, 3, none⟩ = some (.int .i64 a.state) ∧ w.cell? ⟨bx, 4, none⟩ = some (.slice A rs.length c) :=
  ⟨cell_obj h.box 0, cell_obj h.box 1, cell_obj h.box 2, cell_obj h.box 3, cell_obj h.box 4⟩
theorem reads (h : LA w0 p q a bx A c rs vg va lg la w) : rs.length ≤ c ∧ Kd.C (Kd.slice 3 (Kd.int .i64)) w A rs.length rs := ⟨(Kd.V_reads' h.ref).2.1, (Kd.V_reads' h.ref).2.2⟩

variable (W : World)
theorem demand (h : LA w0 p q a bx A c rs vg va lg la W) : Calls Try.prog 24 #[.pointer (some ⟨p, 0, none⟩)] W fun e w' => e = .returned (.int .i64 a.demand) ∧ LA w0 p q a bx A c rs vg va lg la w' :=
  (demand_any W p q a h.auc h.ok.bd).mono fun e w' ⟨h1, h2⟩ => ⟨h1, h.step h2⟩
theorem price (h : LA w0 p q a bx A c rs vg va lg la W) : Calls Try.prog 20 #[.pointer (some ⟨p, 0, none⟩)] W fun e w' => e = .returned (.int .i64 a.price) ∧ LA w0 p q a bx A c rs vg va lg la w' :=
  (price_any W p q a h.auc h.ok.bd).mono fun e w' ⟨h1, n, h2⟩ => ⟨h1, h2 ▸ h.drewN n⟩
theorem last (h : LA w0 p q a bx A c rs vg va lg la W) : Calls Try.prog 28 #[.pointer (some ⟨p, 0, none⟩)] W fun e w' => e = .returned (.int .i64 a.last) ∧ LA w0 p q a bx A c rs vg va lg la w' :=
  (last_any W p q a h.auc h.ok).mono fun e w' ⟨h1, n, h2⟩ => ⟨h1, h2 ▸ h.drewN n⟩
theorem supply (h : LA w0 p q a bx A c rs vg va lg la W) : Calls Try.prog 30 #[.pointer (some ⟨p, 0, none⟩)] W fun e w' => e = .returned (.int .i64 a.supply) ∧ LA w0 p q a bx A c rs vg va lg la w' :=
  (supply_any W p q a h.auc).mono fun e w' ⟨h1, h2⟩ => ⟨h1, h2 ▸ h⟩
theorem round (h : LA w0 p q a bx A c rs vg va lg la W) : Calls Try.prog 31 #[.pointer (some ⟨p, 0, none⟩)] W fun e w' => e = .returned (.int .i64 rs.length) ∧ LA w0 p q a bx A c rs vg va lg la w' :=
  (round_any W p q a h.auc).mono fun e w' ⟨h1, h2⟩ => ⟨by rw [h1, h.rd.len], h2 ▸ h⟩
theorem state (h : LA w0 p q a bx A c rs vg va lg la W) : Calls Try.prog 32 #[.pointer (some ⟨p, 0, none⟩)] W fun e w' => e = .returned (.int .i64 a.state) ∧ LA w0 p q a bx A c rs vg va lg la w' :=
  (state_any W p q a h.auc).mono fun e w' ⟨h1, h2⟩ => ⟨h1, h2 ▸ h⟩
theorem wants (h : LA w0 p q a bx A c rs vg va lg la W) (i : Int) : Calls Try.prog 33 #[.pointer (some ⟨p, 0, none⟩), .int .i64 i] W fun e w' => e = .returned (.tuple #[.int .i64 (a.wants i).1, .int .i64 (a.wants i).2]) ∧ LA w0 p q a bx A c rs vg va lg la w' :=
  (wants_any W p q a i h.auc h.ok).mono fun e w' ⟨h1, n, h2⟩ => ⟨h1, h2 ▸ h.drewN n⟩
theorem bytes (h : LA w0 p q a bx A c rs vg va lg la W) : Calls Try.prog 13 #[.pointer (some ⟨p, 0, none⟩)] W fun e w' => e = .returned (.string a.bytes) ∧ LA w0 p q a bx A c rs vg va lg la w' :=
  (bytes_any W p q a h.auc h.ok).mono fun e w' ⟨h1, h2⟩ => ⟨h1, h.step h2⟩
/-- The reference's auction, as a value. -/
def rv (a : Auc) (A : Option Addr) (n c : Nat) : Value := .agg #[.int .i64 a.supply, .int .i64 a.start, .int .i64 a.step, .int .i64 a.state, .slice A n c]
theorem rnow (h : LA w0 p q a bx A c rs vg va lg la W) : Calls Try.prog 26 #[.agg #[.int .i64 a.supply, .int .i64 a.start, .int .i64 a.step, .int .i64 a.state, .slice A rs.length c]] W
    fun e w' => (∃ A1 c1, e = .returned (.slice A1 a.l.length c1) ∧ a.l.length ≤ c1 ∧ Kd.C (Kd.int .i64) w' A1 a.l.length (a.l.map (·.2))) ∧ LA w0 p q a bx A c rs vg va lg la w' := by
  refine (gavelref07_Now.calls _ _ _ _ (fun k => ¬ (k = p ∨ k = q)) A c rs _ W h.ref (Now_f _ _ _ _ h.rd h.ok)).mono ?_
  rintro e w' ⟨v, rfl, hV, hB⟩
  obtain ⟨A1, c1, rfl⟩ := Kd.V_slice hV
  have h2 := Kd.V_reads' hV
  simp only [List.length_map] at h2 ⊢
  exact ⟨⟨A1, c1, rfl, h2.2.1, h2.2.2⟩, h.step (Fr.of_below hB)⟩
theorem rsum (h : LA w0 p q a bx A c rs vg va lg la W) {A1 : Option Addr} {c1 : Nat} (hc : a.l.length ≤ c1) (hC : Kd.C (Kd.int .i64) W A1 a.l.length (a.l.map (·.2))) :
    Calls Try.prog 25 #[.slice A1 a.l.length c1] W fun e w' => e = .returned (.int .i64 a.demand) ∧ LA w0 p q a bx A c rs vg va lg la w' := by
  have hl : (a.l.map (·.2)).length = a.l.length := List.length_map _
  have hlen := h.ok.len1
  have h1 := gavelref07_Sum.calls 30 A1 c1 (a.l.map (·.2)) _ W (by rw [hl]; exact hC) (by rw [hl]; exact hc) (Sum_f _ 1048576 (nowB h.ok) (by omega) (by omega) 30 (by omega))
  rw [hl] at h1
  exact h1.mono fun e w' ⟨h2, h3⟩ => ⟨h2, h.step (Fr.of_below h3.below)⟩
theorem rprice (h : LA w0 p q a bx A c rs vg va lg la W) : Calls Try.prog 27 #[.agg #[.int .i64 a.supply, .int .i64 a.start, .int .i64 a.step, .int .i64 a.state, .slice A rs.length c]] W
    fun e w' => e = .returned (.int .i64 a.price) ∧ LA w0 p q a bx A c rs vg va lg la w' :=
  (gavelref07_Price.calls _ _ _ _ A c rs _ W h.reads.2 h.reads.1 (Price_f _ _ h.rd h.ok)).mono fun e w' ⟨h2, h3⟩ => ⟨h2, h.step (Fr.of_below h3)⟩
theorem rlast (h : LA w0 p q a bx A c rs vg va lg la W) : Calls Try.prog 29 #[.agg #[.int .i64 a.supply, .int .i64 a.start, .int .i64 a.step, .int .i64 a.state, .slice A rs.length c]] W
    fun e w' => e = .returned (.int .i64 a.last) ∧ LA w0 p q a bx A c rs vg va lg la w' :=
  (gavelref07_Last.calls _ _ _ _ A c rs _ W h.reads.2 h.reads.1 (Last_f _ _ h.rd h.ok)).mono fun e w' ⟨h2, h3⟩ => ⟨h2, h.step (Fr.of_below h3)⟩
theorem rwas (h : LA w0 p q a bx A c rs vg va lg la W) (i : Nat) (hi : i < a.l.length) : Calls Try.prog 34 #[.agg #[.int .i64 a.supply, .int .i64 a.start, .int .i64 a.step, .int .i64 a.state, .slice A rs.length c], .int .i64 i] W
    fun e w' => e = .returned (.int .i64 (a.wants i).1) ∧ LA w0 p q a bx A c rs vg va lg la w' :=
  (gavelref07_Was.calls _ _ _ _ A c rs i _ W h.reads.2 h.reads.1 (Was_f _ _ _ _ h.rd h.ok i hi)).mono fun e w' ⟨h2, h3⟩ => ⟨h2, h.step (Fr.of_below h3)⟩
theorem rbytes (h : LA w0 p q a bx A c rs vg va lg la W) : Calls Try.prog 35 #[.agg #[.int .i64 a.supply, .int .i64 a.start, .int .i64 a.step, .int .i64 a.state, .slice A rs.length c]] W
    fun e w' => e = .returned (.string a.bytes) ∧ LA w0 p q a bx A c rs vg va lg la w' :=
  (gavelref07_Bytes.calls 300 _ _ _ _ A c rs _ W h.reads.2 h.reads.1 (Bytes_f h.rd h.ok 300 (by omega))).mono fun e w' ⟨h2, h3⟩ => ⟨h2, h.step (Fr.of_below h3)⟩
theorem nums (h : LA w0 p q a bx A c rs vg va lg lg W) (hl : lg.length ≤ 1000000) : Calls Try.prog 18 #[vg, va] W fun e w' => e = .returned (.bool true) ∧ LA w0 p q a bx A c rs vg va lg lg w' :=
  (numbers_any W vg va lg 0 0 h.got h.all hl).mono fun e w' ⟨h2, h3⟩ => ⟨h2, h.step h3⟩
end LA

theorem rsale_any (w : World) (ok : Nat → Prop) (v : Value) (a : Auc) (h : RefIs w ok v a) (hok : a.Ok) :
    Calls Try.prog 23 #[v] w fun e w' => ∃ v', e = .returned (.tuple #[.int .i64 a.sale.1, v', .int .i64 a.sale.2.2]) ∧ w'.ownsRow 0 3 1 v' a.sale.2.1.length (ints a.sale.2.1) ∧ Fr nob w w' := by
  obtain ⟨A, c, rs, rfl, hV, hR⟩ := h
  have h2 := Kd.V_reads' hV
  refine (gavelref07_Sale.calls 300 _ _ _ _ A c rs _ _ _ w h2.2.2 h2.2.1 (Sale_f hR hok 300 (by omega))).mono ?_
  rintro e w' ⟨v', rfl, hR', hB⟩
  exact ⟨v', rfl, ownsRow_mono (Kd.own_of_R hR') (Nat.zero_le _), Fr.of_below hB⟩
theorem sale_len {a : Auc} (hok : a.Ok) : a.sale.2.1.length ≤ 1000000 := by
  have := hok.len1
  unfold Auc.sale
  split
  · simp
  · split
    · simp; omega
    · split
      · simp; omega
      · simp only [Auc.shares_length, List.length_map, List.length_zipWith]; omega

set_option maxHeartbeats 6400000 in
set_option maxRecDepth 100000 in
theorem like_any (w : World) (p q : Nat) (v : Value) (a : Auc) (hA : AucAt w p q a) (hR : RefIs w (fun k => ¬ (k = p ∨ k = q)) v a) (hok : a.Ok) :
    Calls Try.prog 10 #[.pointer (some ⟨p, 0, none⟩), v] w fun e w' => e = .returned (.bool true) ∧ Fr nob w w' := by
  have HR := Lib.hid hR
  obtain ⟨A, c, rs, rfl, hV, hRd⟩ := hR
  have HV := Lib.hid hV
  have HRd := Lib.hid hRd
  clear hV hRd
  go_enter Try.func10, Try.ntmps10
  go_wp2_with fail
  obtain ⟨w1, hw1, b1, hF1⟩ := box1 w (.cells #[.int .i64 a.supply, .int .i64 a.start, .int .i64 a.step, .int .i64 a.state, .slice A rs.length c] 30 (0, 0))
  simp only [hw1]
  clear hw1
  refine (sale_any w1 p q a (hA.fr hF1 id id) hok).mono ?_
  rintro e w2 ⟨vg, rfl, hg, hF2, _⟩
  have b2 := hF2.obj b1 id
  have c2 : ∀ o, w2.cell? ⟨w.heap.size, o, none⟩ = #[.int .i64 a.supply, .int .i64 a.start, .int .i64 a.step, .int .i64 a.state, .slice A rs.length c][o]? := cell_obj b2
  have HR2 := Lib.hid (HR.out.fr0 (hF1.trans hF2))
  go_wp2_with fail
  refine (rsale_any w2 _ _ a HR2.out hok).mono ?_
  rintro e w3 ⟨va, rfl, ha, hF3⟩
  obtain ⟨Ag, cg, rfl⟩ := ownsRow_shape hg
  obtain ⟨Aa, ca, rfl⟩ := ownsRow_shape ha
  have HX : Hid (LA w p q a w.heap.size A c rs (.slice Ag a.sale.2.1.length cg) (.slice Aa a.sale.2.1.length ca) a.sale.2.1 a.sale.2.1 w3.drew) := by
    have hF := (hF1.trans hF2).trans hF3
    exact LA.drew ⟨hA.fr hF id id, Kd.V_step HV.out (fun k _ hl => hF.block k hl id), hF3.obj b2 id, ownsRow_mono (ownsRow_fr hg hF3 (fun _ _ => id)) (Nat.zero_le _), ha, hF, HRd.out, hok⟩
  obtain ⟨k0, k1, k2, k3, k4⟩ := HX.out.keep
  change w3.cell? _ = _ at k0
  change w3.cell? _ = _ at k1
  change w3.cell? _ = _ at k2
  change w3.cell? _ = _ at k3
  change w3.cell? _ = _ at k4
  have hsl := sale_len hok
  clear hg ha hF1 hF2 hF3 b1 b2 c2 HR2 HV HR
  go_wp2_with fail
  go_region_held3 (fun w' => w'.cell? ⟨w.heap.size, 0, none⟩ = some (.int .i64 a.supply) ∧ w'.cell? ⟨w.heap.size, 1, none⟩ = some (.int .i64 a.start) ∧ w'.cell? ⟨w.heap.size, 2, none⟩ = some (.int .i64 a.step) ∧ w'.cell? ⟨w.heap.size, 3, none⟩ = some (.int .i64 a.state) ∧ w'.cell? ⟨w.heap.size, 4, none⟩ = some (.slice A rs.length c))
    (first | go_keep | exact HX.out.keep)
    (first
      | (go_at_call 24; ((with_reducible refine (LA.demand _ HX.out).mono ?_); rintro e w4 ⟨rfl, hX⟩; (have n_ := Lib.hid hX); clear HX hX; (have HX := n_); clear n_))
      | (go_at_call 20; ((with_reducible refine (LA.price _ HX.out).mono ?_); rintro e w4 ⟨rfl, hX⟩; (have n_ := Lib.hid hX); clear HX hX; (have HX := n_); clear n_))
      | (go_at_call 28; ((with_reducible refine (LA.last _ HX.out).mono ?_); rintro e w4 ⟨rfl, hX⟩; (have n_ := Lib.hid hX); clear HX hX; (have HX := n_); clear n_))
      | (go_at_call 30; ((with_reducible refine (LA.supply _ HX.out).mono ?_); rintro e w4 ⟨rfl, hX⟩; (have n_ := Lib.hid hX); clear HX hX; (have HX := n_); clear n_))
      | (go_at_call 31; ((with_reducible refine (LA.round _ HX.out).mono ?_); rintro e w4 ⟨rfl, hX⟩; (have n_ := Lib.hid hX); clear HX hX; (have HX := n_); clear n_))
      | (go_at_call 32; ((with_reducible refine (LA.state _ HX.out).mono ?_); rintro e w4 ⟨rfl, hX⟩; (have n_ := Lib.hid hX); clear HX hX; (have HX := n_); clear n_))
      | (go_at_call 27; ((with_reducible refine (LA.rprice _ HX.out).mono ?_); rintro e w4 ⟨rfl, hX⟩; (have n_ := Lib.hid hX); clear HX hX; (have HX := n_); clear n_))
      | (go_at_call 29; ((with_reducible refine (LA.rlast _ HX.out).mono ?_); rintro e w4 ⟨rfl, hX⟩; (have n_ := Lib.hid hX); clear HX hX; (have HX := n_); clear n_))
      | (go_at_call 18; ((with_reducible refine (LA.nums _ HX.out hsl).mono ?_); rintro e w4 ⟨rfl, hX⟩; (have n_ := Lib.hid hX); clear HX hX; (have HX := n_); clear n_))
      | (go_at_call 26; ((with_reducible refine (LA.rnow _ HX.out).mono ?_); rintro e w4 ⟨⟨A1, c1, rfl, hc1, hC1⟩, hX⟩; (have n_ := Lib.hid hX); clear HX hX; (have HX := n_); clear n_; (have HC1 := Lib.hid hC1); clear hC1))
      | (go_at_call 25; ((with_reducible refine (LA.rsum _ HX.out hc1 HC1.out).mono ?_); rintro e w4 ⟨rfl, hX⟩; (have n_ := Lib.hid hX); clear HX hX; (have HX := n_); clear n_)))
  clear k0 k1 k2 k3 k4 hc1 HC1
  have hl1 := hok.len1
  go_wp2
  go_loopg [11] (a.l.length + 2) (fun k vi wr => ∃ j : Nat, vi = .int .i64 ((j : Int) - 1) ∧ Hid (j + k = a.l.length + 2) ∧ Hid (LA w p q a w.heap.size A c rs (.slice Ag a.sale.2.1.length cg) (.slice Aa a.sale.2.1.length ca) a.sale.2.1 a.sale.2.1 wr))
  case atStart => exact ⟨0, rfl, by show 0 + _ = _; omega, HX.out⟩
  case round =>
    obtain ⟨j, rfl, hjk, hXr⟩ := hrel
    clear HX
    have HX := Lib.hid hXr.out
    clear hXr
    have hj : j ≤ a.l.length + 2 := by have := hjk.out; omega
    have cb : ∀ o, wr.cell? ⟨w.heap.size, o, none⟩ = #[.int .i64 a.supply, .int .i64 a.start, .int .i64 a.step, .int .i64 a.state, .slice A rs.length c][o]? := cell_obj HX.out.box
    have hj2 : (j : Int) ≤ (a.l.length : Int) + 2 := by omega
    by_cases h0 : j = 0
    · subst h0
      have hw0 : a.wants (-1) = (0, 0) := by unfold Auc.wants; rw [if_neg (by omega)]
      have Hw0 := Lib.hid hw0
      clear hw0
      go_wp2_with fail
      (with_reducible refine (LA.rnow _ HX.out).mono ?_)
      rintro e w5 ⟨⟨A2, cA2, rfl, hcA2, hCA2⟩, hX⟩
      have n_ := Lib.hid hX
      clear HX hX cb
      have HX := n_
      clear n_
      have cb : ∀ o, w5.cell? ⟨w.heap.size, o, none⟩ = #[.int .i64 a.supply, .int .i64 a.start, .int .i64 a.step, .int .i64 a.state, .slice A rs.length c][o]? := cell_obj HX.out.box
      go_wp2_with fail
      ((with_reducible refine (LA.wants _ HX.out (-1)).mono ?_))
      rw [Hw0.out]
      rintro e w6 ⟨rfl, hX⟩
      have n_ := Lib.hid hX
      clear HX hX cb
      have HX := n_
      clear n_
      have cb : ∀ o, w6.cell? ⟨w.heap.size, o, none⟩ = #[.int .i64 a.supply, .int .i64 a.start, .int .i64 a.step, .int .i64 a.state, .slice A rs.length c][o]? := cell_obj HX.out.box
      go_wp2
      go_roundg (gk - 1)
      case measure => have := hjk.out; omega
      case rel => exact ⟨1, by go_num, by have := hjk.out; show _ = _; omega, HX.out⟩
    · obtain ⟨m, rfl⟩ : ∃ m, j = m + 1 := ⟨j - 1, by omega⟩
      clear h0
      have em : (((m + 1 : Nat) : Int) - 1) = (m : Int) := by omega
      simp only [em]
      clear em
      by_cases h1 : m < a.l.length
      · obtain ⟨b, hb⟩ : ∃ b, a.l[m]? = some b := ⟨_, List.getElem?_eq_getElem h1⟩
        have Hw := Lib.hid (wants_nat m hb)
        have Hb := Lib.hid hb
        have hne : ((m : Int) == (a.l.length : Int)) = false := by simp; omega
        have hlt : (m : Int) < (a.l.length : Int) := by omega
        have hbb := hok.now b (List.mem_of_getElem? hb)
        clear hb
        go_wp2_with fail
        (with_reducible refine (LA.rnow _ HX.out).mono ?_)
        rintro e w5 ⟨⟨A2, cA2, rfl, hcA2, hCA2⟩, hX⟩
        have n_ := Lib.hid hX
        clear HX hX cb
        have HX := n_
        clear n_
        have cb : ∀ o, w5.cell? ⟨w.heap.size, o, none⟩ = #[.int .i64 a.supply, .int .i64 a.start, .int .i64 a.step, .int .i64 a.state, .slice A rs.length c][o]? := cell_obj HX.out.box
        go_wp2_with fail
        ((with_reducible refine (LA.wants _ HX.out (m : Int)).mono ?_))
        rw [Hw.out]
        rintro e w6 ⟨rfl, hX⟩
        have n_ := Lib.hid hX
        clear HX hX cb
        have HX := n_
        clear n_
        have cb : ∀ o, w6.cell? ⟨w.heap.size, o, none⟩ = #[.int .i64 a.supply, .int .i64 a.start, .int .i64 a.step, .int .i64 a.state, .slice A rs.length c][o]? := cell_obj HX.out.box
        go_wp2_with fail
        (with_reducible refine (LA.rnow _ HX.out).mono ?_)
        rintro e w7 ⟨⟨A3, cA3, rfl, hcA3, hCA3⟩, hX⟩
        have n_ := Lib.hid hX
        clear HX hX cb
        have HX := n_
        clear n_
        have cb : ∀ o, w7.cell? ⟨w.heap.size, o, none⟩ = #[.int .i64 a.supply, .int .i64 a.start, .int .i64 a.step, .int .i64 a.state, .slice A rs.length c][o]? := cell_obj HX.out.box
        go_wp2_with fail
        ((with_reducible refine (LA.rwas _ HX.out m h1).mono ?_))
        rw [Hw.out]
        rintro e w8 ⟨rfl, hX⟩
        have n_ := Lib.hid hX
        clear HX hX cb
        have HX := n_
        clear n_
        have cb : ∀ o, w8.cell? ⟨w.heap.size, o, none⟩ = #[.int .i64 a.supply, .int .i64 a.start, .int .i64 a.step, .int .i64 a.state, .slice A rs.length c][o]? := cell_obj HX.out.box
        go_wp2_with fail
        (with_reducible refine (LA.rnow _ HX.out).mono ?_)
        rintro e w9 ⟨⟨A4, cA4, rfl, hcA4, hCA4⟩, hX⟩
        have n_ := Lib.hid hX
        clear HX hX cb
        have HX := n_
        clear n_
        have cb : ∀ o, w9.cell? ⟨w.heap.size, o, none⟩ = #[.int .i64 a.supply, .int .i64 a.start, .int .i64 a.step, .int .i64 a.state, .slice A rs.length c][o]? := cell_obj HX.out.box
        obtain ⟨ad, rfl, hx⟩ := Kd.at_int hCA4 (m : Int) (by omega) hlt
        rw [rd_at (x := b.2) (by rw [List.getElem?_map, Hb.out]; rfl), Int.toNat_natCast] at hx
        go_wp2
        go_roundg (gk - 1)
        case measure => have := hjk.out; omega
        case rel => exact ⟨m + 1 + 1, by go_num, by have := hjk.out; show _ = _; omega, HX.out⟩
      · by_cases h2 : m = a.l.length
        · have hwn : a.wants (m : Int) = (0, 0) := by
            unfold Auc.wants; rw [if_pos (by omega), Int.toNat_natCast, List.getD_eq_getElem?_getD, List.getElem?_eq_none (by omega)]; rfl
          have Hwn := Lib.hid hwn
          clear hwn
          have heq : ((m : Int) == (a.l.length : Int)) = true := by simp; omega
          have hle : (m : Int) ≤ (a.l.length : Int) := by omega
          have H2 := Lib.hid h2
          clear h2 h1
          go_wp2_with fail
          (with_reducible refine (LA.rnow _ HX.out).mono ?_)
          rintro e w5 ⟨⟨A2, cA2, rfl, hcA2, hCA2⟩, hX⟩
          have n_ := Lib.hid hX
          clear HX hX cb
          have HX := n_
          clear n_
          have cb : ∀ o, w5.cell? ⟨w.heap.size, o, none⟩ = #[.int .i64 a.supply, .int .i64 a.start, .int .i64 a.step, .int .i64 a.state, .slice A rs.length c][o]? := cell_obj HX.out.box
          go_wp2_with fail
          ((with_reducible refine (LA.wants _ HX.out (m : Int)).mono ?_))
          rw [Hwn.out]
          rintro e w6 ⟨rfl, hX⟩
          have n_ := Lib.hid hX
          clear HX hX cb
          have HX := n_
          clear n_
          have cb : ∀ o, w6.cell? ⟨w.heap.size, o, none⟩ = #[.int .i64 a.supply, .int .i64 a.start, .int .i64 a.step, .int .i64 a.state, .slice A rs.length c][o]? := cell_obj HX.out.box
          go_wp2_with fail
          (with_reducible refine (LA.rnow _ HX.out).mono ?_)
          rintro e w7 ⟨⟨A3, cA3, rfl, hcA3, hCA3⟩, hX⟩
          have n_ := Lib.hid hX
          clear HX hX cb
          have HX := n_
          clear n_
          have cb : ∀ o, w7.cell? ⟨w.heap.size, o, none⟩ = #[.int .i64 a.supply, .int .i64 a.start, .int .i64 a.step, .int .i64 a.state, .slice A rs.length c][o]? := cell_obj HX.out.box
          go_wp2
          go_roundg (gk - 1)
          case measure => have := hjk.out; omega
          case rel => exact ⟨m + 1 + 1, by go_num, by have := hjk.out; show _ = _; omega, HX.out⟩
        · have hgt : ¬ ((m : Int) ≤ (a.l.length : Int)) := by omega
          clear h1 h2
          go_wp2_with fail
          (with_reducible refine (LA.rnow _ HX.out).mono ?_)
          rintro e w5 ⟨⟨A2, cA2, rfl, hcA2, hCA2⟩, hX⟩
          have n_ := Lib.hid hX
          clear HX hX cb
          have HX := n_
          clear n_
          have cb : ∀ o, w5.cell? ⟨w.heap.size, o, none⟩ = #[.int .i64 a.supply, .int .i64 a.start, .int .i64 a.step, .int .i64 a.state, .slice A rs.length c][o]? := cell_obj HX.out.box
          go_wp2_with fail
          have HX := Lib.hid HX.out.drew
          have k0 := cb 0
          have k1 := cb 1
          have k2 := cb 2
          have k3 := cb 3
          have k4 := cb 4
          go_region_held3 (fun w' => w'.cell? ⟨w.heap.size, 0, none⟩ = some (.int .i64 a.supply) ∧ w'.cell? ⟨w.heap.size, 1, none⟩ = some (.int .i64 a.start) ∧ w'.cell? ⟨w.heap.size, 2, none⟩ = some (.int .i64 a.step) ∧ w'.cell? ⟨w.heap.size, 3, none⟩ = some (.int .i64 a.state) ∧ w'.cell? ⟨w.heap.size, 4, none⟩ = some (.slice A rs.length c))
            (first | go_keep | exact HX.out.keep)
            (first
              | (go_at_call 13; ((with_reducible refine (LA.bytes _ HX.out).mono ?_); rintro e w6 ⟨rfl, hX⟩; (have n_ := Lib.hid hX); clear HX hX; (have HX := n_); clear n_))
              | (go_at_call 35; ((with_reducible refine (LA.rbytes _ HX.out).mono ?_); rintro e w7 ⟨rfl, hX⟩; (have n_ := Lib.hid hX); clear HX hX; (have HX := n_); clear n_)))
          go_wp2
          go_ret
          exact ⟨by simp, HX.out.fr⟩
end Go.Proofs.Ytpkongocabnciaa
