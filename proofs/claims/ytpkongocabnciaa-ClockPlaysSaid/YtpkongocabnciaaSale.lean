/- The walks of clock.New and (*clock.Auction).Sale. -/
import Derived.Test.YtpkongocabnciaaShr
namespace Go.Proofs.Ytpkongocabnciaa
open Go.RowKit
set_option linter.unusedVariables false
set_option linter.unusedSimpArgs false

theorem Try.infoBid : (Try.prog.info? 70).map (fun i => (i.zero, i.size, i.bytes)) = some (some (.agg #[.int .i64 0, .int .i64 0]), 2, 16) := by kernel_rfl

theorem madeCells_bids (n : Nat) : (madeCells #[Value.int .i64 0, Value.int .i64 0] (n * 2)).toList = rowsOf bidEnc (List.replicate n (0, 0)) := by
  have e : ∀ m, rowsOf bidEnc (List.replicate m ((0 : Int), (0 : Int))) = List.replicate (m * 2) (Value.int .i64 0) := by
    intro m
    induction m with
    | zero => rfl
    | succ m ih =>
      have e1 : rowsOf bidEnc (List.replicate (m + 1) ((0 : Int), (0 : Int))) = bidEnc (0, 0) ++ rowsOf bidEnc (List.replicate m (0, 0)) := rfl
      rw [e1, ih, show (m + 1) * 2 = m * 2 + 1 + 1 by omega, List.replicate_succ, List.replicate_succ]; rfl
  rw [e]
  apply List.ext_getElem?
  intro j
  by_cases hj : j < n * 2
  · rcases (show j % 2 = 0 ∨ j % 2 = 1 by omega) with h | h <;> simp [madeCells, hj, h]
  · simp [madeCells, hj]

/-- What New answers. -/
def NewPost (w : World) (r : Option Auc) (e : Ending) (w' : World) : Prop :=
  Fr nob w w' ∧ (match r with
    | none => e = .returned (.tuple #[.pointer none, .int .i64 1])
    | some a => ∃ p q, e = .returned (.tuple #[.pointer (some ⟨p, 0, none⟩), .int .i64 0]) ∧ w.heap.size ≤ p ∧ w.heap.size ≤ q ∧ AucAt w' p q a)

set_option maxHeartbeats 1600000 in
theorem new_any (w : World) (s p d n : Int) : Calls Try.prog 6 #[.int .i64 s, .int .i64 p, .int .i64 d, .int .i64 n] w (NewPost w (Auc.made s p d n)) := by
  obtain ⟨i0, hi, hz0, hz1, hz2⟩ := info_parts Try.infoBid
  by_cases hc : s < 1 ∨ s > 1048576 ∨ p < 0 ∨ p > 1099511627776 ∨ d < 1 ∨ d > 1099511627776 ∨ n < 1 ∨ n > 16
  · have hm : Hid (Auc.made s p d n = none) := by show Auc.made s p d n = none; unfold Auc.made; rw [if_pos hc]
    rcases hc with hc | hc | hc | hc | hc | hc | hc | hc
    all_goals
      go_enter Try.func6, Try.ntmps6
      go_wp2
      all_goals go_ret2
      all_goals (rw [hm.out]; exact ⟨Fr.refl _ _, rfl⟩)
  · have hm : Hid (Auc.made s p d n = some { supply := s, start := p, step := d, round := 1, state := 0, l := List.replicate n.toNat (0, 0) }) := by show Auc.made s p d n = _; unfold Auc.made; rw [if_neg hc]
    obtain ⟨k, rfl⟩ := Int.eq_ofNat_of_zero_le (show 0 ≤ n by omega)
    have h1 : 1 ≤ s := by omega
    have h2 : s ≤ 1048576 := by omega
    have h3 : 0 ≤ p := by omega
    have h4 : p ≤ 1099511627776 := by omega
    have h5 : 1 ≤ d := by omega
    have h6 : d ≤ 1099511627776 := by omega
    have h7 : 1 ≤ k := by omega
    have h8 : k ≤ 16 := by omega
    clear hc
    go_enter Try.func6, Try.ntmps6
    go_wp2_with (first | (at_make; go_loud (refine wpList_make_full _ rfl _ _ 52 rfl 0 70 i0 (.agg #[.int .i64 0, .int .i64 0]) 2 Try.underlying52 hi hz0 hz1 .i64 .i64 _ _ k rfl rfl rfl rfl (by rw [hz2]; omega) (by unfold maxLen; omega) (Nat.zero_le _) ?_)))
    intro w1 hown1 hgr
    have hrow : Hid (w1.heap[w.heap.size]? = some (.cells (rowsOf bidEnc (List.replicate k (0, 0))).toArray 70 (0, 0))) := by
      have h := ownsRow_full hown1
      have e : (madeCells (Value.agg #[.int .i64 0, .int .i64 0]).cells (k * 2)).toList = _ := madeCells_bids k
      simp only [Value.cells] at e h
      rw [e] at h
      exact h
    have hF1 : Hid (Fr nob w w1) := (Fr.refl nob w).grown hgr (fun k hk h => by cases h)
    clear hown1 hgr
    go_wp2
    go_ret2
    rw [hm.out]
    have hlt := lt_obj hrow.out
    refine ⟨hF1.out.alloc _, w1.heap.size, w.heap.size, rfl, hF1.out.size, Nat.le_refl _, ?_, ?_⟩
    · rw [heap_alloc_new]; simp
    · rw [Below.heap_alloc _ _ _ hlt, hrow.out, Int.toNat_natCast]

/-- What Sale answers. -/
def SalePost (w : World) (n : Nat) (p : Int) (l : List Int) (c : Int) (e : Ending) (w' : World) : Prop :=
  ∃ v, e = .returned (.tuple #[.int .i64 p, v, .int .i64 c]) ∧ w'.ownsRow w.heap.size 3 1 v l.length (ints l) ∧ Fr nob w w' ∧ (l = [] → v = .slice none 0 0)

theorem IntRow.ownAt {w : World} {g B : Nat} {l : List Int} (h : IntRow w g l) (hB : B ≤ g) (hm : l.length ≤ maxLen) : w.ownsRow B 3 1 (.slice (some ⟨g, 0, none⟩) l.length l.length) l.length (ints l) := by
  have h1 := h.own hm
  refine ⟨h1.1, ?_⟩
  rcases h1.2 with ⟨h2, _⟩ | ⟨g', cap, cur, hv, hb, r⟩
  · cases h2
  · refine .inr ⟨g', cap, cur, hv, ?_, r⟩
    simp only [Value.slice.injEq, Option.some.injEq, Addr.mk.injEq, and_true] at hv
    omega

set_option maxHeartbeats 1600000 in
theorem sale_open (w : World) (p q : Nat) (a : Auc) (h : AucAt w p q a) (hs : a.state = 0) :
    Calls Try.prog 17 #[.pointer (some ⟨p, 0, none⟩)] w (SalePost w a.l.length 0 [] 3) := by
  obtain ⟨k0, k1, k2, k3, k4, k5⟩ := h.cells
  rw [hs] at k4
  clear hs
  go_enter Try.func17, Try.ntmps17
  go_wp2
  go_ret3
  exact ⟨_, rfl, World.ownsRow_nil _ _ _ _, Fr.refl _ _, fun _ => rfl⟩

set_option maxHeartbeats 1600000 in
theorem sale_void (w : World) (p q : Nat) (a : Auc) (h : AucAt w p q a) (hok : a.Ok) (hs : a.state = 2) :
    Calls Try.prog 17 #[.pointer (some ⟨p, 0, none⟩)] w (SalePost w a.l.length 0 (List.replicate a.l.length 0) 0) := by
  obtain ⟨i0, hi, hz0, hz1, hz2⟩ := info_parts Try.infoInt
  obtain ⟨k0, k1, k2, k3, k4, k5⟩ := h.cells
  have hlen := hok.len1
  have hlen0 := hok.len0
  rw [hs] at k4
  have Hs := Lib.hid hs
  clear hs
  go_enter Try.func17, Try.ntmps17
  go_wp2_with (first | (at_make; go_loud (refine wpList_make_full _ rfl _ _ 46 rfl 0 3 i0 (.int .i64 0) 1 Try.underlying46 hi hz0 hz1 .i64 .i64 _ _ a.l.length rfl rfl rfl rfl (by rw [hz2]; omega) (by unfold maxLen; omega) (Nat.zero_le _) ?_)))
  intro w1 hown1 hgr
  have hF1 : Fr nob w w1 := (Fr.refl nob w).grown hgr (fun k hk h => by cases h)
  have hrow : Hid (IntRow w1 w.heap.size (List.replicate a.l.length 0)) := by
    have h := ownsRow_full hown1
    rw [madeCells_ints] at h
    exact h
  have HF1 := Lib.hid hF1
  have hA1 := h.fr hF1 id id
  have k4' : w1.cell? ⟨p, 4, none⟩ = some (.int .i64 2) := by rw [hA1.cells.2.2.2.2.1, Hs.out]
  clear hown1 hgr hF1 h k0 k1 k2 k3 k4 k5
  obtain ⟨k0, k1, k2, k3, _, k5⟩ := hA1.cells
  go_wp2
  go_ret3
  refine ⟨.slice (some ⟨w.heap.size, 0, none⟩) (List.replicate a.l.length (0 : Int)).length (List.replicate a.l.length (0 : Int)).length, by simp, hrow.out.ownAt (Nat.le_refl _) (by unfold maxLen; simp; omega), HF1.out, fun h => by simp at h; rw [h] at hlen0; simp at hlen0⟩

set_option maxHeartbeats 3200000 in
theorem sale_first (w : World) (p q : Nat) (a : Auc) (h : AucAt w p q a) (hok : a.Ok) (hs : a.state = 1) (hr : (a.round == 1) = true ∨ (a.round == 1) = false ∧ a.supply - a.demand = 0) :
    Calls Try.prog 17 #[.pointer (some ⟨p, 0, none⟩)] w (SalePost w a.l.length a.price (a.l.map (·.2)) 0) := by
  obtain ⟨i0, hi, hz0, hz1, hz2⟩ := info_parts Try.infoInt
  obtain ⟨k0, k1, k2, k3, k4, k5⟩ := h.cells
  have hlen := hok.len1
  have hlen0 := hok.len0
  have hsd := hok.sold hs
  have hdm := hok.demand_le
  obtain ⟨hdm0, hdm1⟩ := hdm
  have hsp1 := hok.supply1
  rw [hs] at k4
  have Hs := Lib.hid hs
  clear hs
  have hlr : Hid ((a.round == 1) = false → (a.supply - a.demand == 0) = true) := by
    intro h1; rcases hr with h | h
    · rw [h] at h1; cases h1
    · rw [h.2]; rfl
  have hr' : (a.round == 1) = true ∨ (a.round == 1) = false := by rcases hr with h | h; exact .inl h; exact .inr h.1
  clear hr
  go_enter Try.func17, Try.ntmps17
  go_wp2_with (first | (at_make; go_loud (refine wpList_make_full _ rfl _ _ 46 rfl 0 3 i0 (.int .i64 0) 1 Try.underlying46 hi hz0 hz1 .i64 .i64 _ _ a.l.length rfl rfl rfl rfl (by rw [hz2]; omega) (by unfold maxLen; omega) (Nat.zero_le _) ?_)))
  intro w1 hown1 hgr
  have hF1 : Fr nob w w1 := (Fr.refl nob w).grown hgr (fun k hk h => by cases h)
  have hrow : Hid (IntRow w1 w.heap.size (List.replicate a.l.length 0)) := by
    have h := ownsRow_full hown1
    rw [madeCells_ints] at h
    exact h
  have HF1 := Lib.hid hF1
  have hA1 := h.fr hF1 id id
  have k4' : w1.cell? ⟨p, 4, none⟩ = some (.int .i64 1) := by rw [hA1.cells.2.2.2.2.1, Hs.out]
  clear hown1 hgr hF1 h k0 k1 k2 k3 k4 k5
  obtain ⟨k0, k1, k2, k3, _, k5⟩ := hA1.cells
  have ew : IntKind.i64.wrap (a.supply - a.demand) = a.supply - a.demand := by rw [IntKind.wrap_i64]; omega
  go_wp2_with fail
  go_region_held3 (fun w' => w'.cell? ⟨p, 0, none⟩ = some (.int .i64 a.supply)) (first | go_keep | exact (hF.cell (lt_obj hA1.hp) id).trans k0)
    (first | (go_at_call 24; refine (demand_any _ p q a hA1.drew hok.bd).mono ?_; rintro e w2 ⟨rfl, hF⟩))
  have hF2 := Fr.trans (Fr.refl nob w1).drew hF
  have hA2 := hA1.fr hF2 id id
  have HF2 := Lib.hid (HF1.out.trans hF2)
  have hrow2 := Lib.hid (hrow.out.fr hF2 id)
  have k4'' : w2.cell? ⟨p, 4, none⟩ = some (.int .i64 1) := by rw [hA2.cells.2.2.2.2.1, Hs.out]
  clear hF hF2 hA1 HF1 hrow k0 k1 k2 k3 k4' k5
  obtain ⟨k0, k1, k2, k3, _, k5⟩ := hA2.cells
  rcases hr' with hra | hra
  all_goals
    try have hlr' := hlr.out hra
    go_wp2_with fail
    go_loopg [56] a.l.length (fun k vi wr => ∃ (i : Nat), vi = .int .i64 i ∧ Hid (i + k = a.l.length) ∧ Hid (IntRow wr w.heap.size (part (a.l.map (·.2)) i)) ∧ Hid (AucAt wr p q a) ∧ Hid (Fr nob w wr))
    case atStart => exact ⟨0, rfl, by show 0 + a.l.length = _; omega, by show IntRow _ _ _; rw [part_zero, List.length_map]; exact hrow2.out, hA2, HF2.out⟩
    case round =>
      obtain ⟨i, rfl, hik, hrw, hAr, hFr⟩ := hrel
      clear hA2 HF2 hrow2 k0 k1 k2 k3 k4'' k5
      by_cases hlt : i < a.l.length
      · obtain ⟨b, hb⟩ : ∃ b, a.l[i]? = some b := ⟨_, List.getElem?_eq_getElem hlt⟩
        obtain ⟨c1, c2⟩ := hAr.out.bidder hb
        have hq := hrw.out.cell (part_get (a.l.map (·.2)) i (by simpa using hlt))
        have hS := Lib.hid (hrw.out.set i b.2)
        have hps := Lib.hid (part_set (a.l.map (·.2)) i b.2 (by rw [List.getElem?_map, hb]; rfl))
        have fz := hrw.out.frozen i
        have hgq : w.heap.size ≠ q := ne_obj hrw.out hAr.out.hq (by simp)
        have hgp : w.heap.size ≠ p := ne_obj hrw.out hAr.out.hp (by simp)
        have hl2 := lt_obj hrw.out
        clear hb
        go_wp2
        go_roundg (gk - 1)
        case measure => have := hik.out; omega
        case rel =>
          refine ⟨i + 1, by go_num, by have := hik.out; show i + 1 + (gk - 1) = _; omega, ?_, ?_, (hFr.out.setCell (fun h => by simp at h) _).alloc _⟩
          · have h3 := hS.out
            rw [hps.out] at h3
            exact h3.alloc _
          · exact hAr.out.fr (((Fr.refl (fun k => k = w.heap.size) wr).setCell (p := ⟨w.heap.size, i, none⟩) (fun _ => rfl) _).alloc _) (Ne.symm hgp) (Ne.symm hgq)
      · obtain ⟨k0, k1, k2, k3, k4, k5⟩ := hAr.out.cells
        go_wp2_with (first | (go_at_call 20; refine (price_any _ p q a hAr.out hok.bd).mono ?_; rintro e w3 ⟨rfl, nd, rfl⟩))
        go_ret3
        have e := part_all (a.l.map (·.2)) i (by simp; omega)
        have h3 := hrw.out
        rw [e] at h3
        have h4 := IntRow.ownAt h3 (Nat.le_refl w.heap.size) (by unfold maxLen; simp; omega)
        rw [List.length_map] at h4
        refine ⟨.slice (some ⟨w.heap.size, 0, none⟩) a.l.length a.l.length, by simp, ?_, hFr.out.drewN _, fun h => by simp at h; rw [h] at hlen0; simp at hlen0⟩
        rw [List.length_map]
        exact ownsRow_fr h4 ((Fr.refl nob wr).drewN nd) (fun k _ => id)

set_option maxHeartbeats 3200000 in
theorem sale_next (w : World) (p q : Nat) (a : Auc) (h : AucAt w p q a) (hok : a.Ok) (hs : a.state = 1) (hr : (a.round == 1) = false) (hz : (a.supply - a.demand == 0) = false) :
    Calls Try.prog 17 #[.pointer (some ⟨p, 0, none⟩)] w (SalePost w a.l.length (a.price - a.step) (List.zipWith (· + ·) (a.l.map (·.2)) (Auc.shares (a.supply - a.demand) (a.l.map fun b => b.1 - b.2))) 0) := by
  obtain ⟨i0, hi, hz0, hz1, hz2⟩ := info_parts Try.infoInt
  obtain ⟨k0, k1, k2, k3, k4, k5⟩ := h.cells
  have hlen := hok.len1
  have hlen0 := hok.len0
  have hsd := hok.sold hs
  have hdm := hok.demand_le
  obtain ⟨hdm0, hdm1⟩ := hdm
  have hsp1 := hok.supply1
  rw [hs] at k4
  have Hs := Lib.hid hs
  clear hs
  go_enter Try.func17, Try.ntmps17
  go_wp2_with (first | (at_make; go_loud (refine wpList_make_full _ rfl _ _ 46 rfl 0 3 i0 (.int .i64 0) 1 Try.underlying46 hi hz0 hz1 .i64 .i64 _ _ a.l.length rfl rfl rfl rfl (by rw [hz2]; omega) (by unfold maxLen; omega) (Nat.zero_le _) ?_)))
  intro w1 hown1 hgr
  have hF1 : Fr nob w w1 := (Fr.refl nob w).grown hgr (fun k hk h => by cases h)
  have hrow : Hid (IntRow w1 w.heap.size (List.replicate a.l.length 0)) := by
    have h := ownsRow_full hown1
    rw [madeCells_ints] at h
    exact h
  have HF1 := Lib.hid hF1
  have hA1 := h.fr hF1 id id
  have k4' : w1.cell? ⟨p, 4, none⟩ = some (.int .i64 1) := by rw [hA1.cells.2.2.2.2.1, Hs.out]
  clear hown1 hgr hF1 h k0 k1 k2 k3 k4 k5
  obtain ⟨k0, k1, k2, k3, _, k5⟩ := hA1.cells
  have ew : IntKind.i64.wrap (a.supply - a.demand) = a.supply - a.demand := by rw [IntKind.wrap_i64]; omega
  go_wp2_with fail
  go_region_held3 (fun w' => w'.cell? ⟨p, 0, none⟩ = some (.int .i64 a.supply)) (first | go_keep | exact (hF.cell (lt_obj hA1.hp) id).trans k0)
    (first | (go_at_call 24; refine (demand_any _ p q a hA1.drew hok.bd).mono ?_; rintro e w2 ⟨rfl, hF⟩))
  have hF2 := Fr.trans (Fr.refl nob w1).drew hF
  have hA2 := hA1.fr hF2 id id
  have HF2 := Lib.hid (HF1.out.trans hF2)
  have hrow2 := Lib.hid (hrow.out.fr hF2 id)
  have k4'' : w2.cell? ⟨p, 4, none⟩ = some (.int .i64 1) := by rw [hA2.cells.2.2.2.2.1, Hs.out]
  clear hF hF2 hA1 HF1 hrow k0 k1 k2 k3 k4' k5
  obtain ⟨k0, k1, k2, k3, _, k5⟩ := hA2.cells
  go_wp2_with (first | (at_make; go_loud (refine wpList_make_full _ rfl _ _ 46 rfl 0 3 i0 (.int .i64 0) 1 Try.underlying46 hi hz0 hz1 .i64 .i64 _ _ a.l.length rfl rfl rfl rfl (by rw [hz2]; omega) (by unfold maxLen; omega) (Nat.zero_le _) ?_)))
  intro w3 hown3 hgr
  have hF3 : Fr nob w2 w3 := (Fr.refl nob w2).grown hgr (fun k hk h => by cases h)
  have hrow3 : Hid (IntRow w3 w2.heap.size (List.replicate a.l.length 0)) := by
    have h := ownsRow_full hown3
    rw [madeCells_ints] at h
    exact h
  have hA3 := hA2.fr hF3 id id
  have HF3 := Lib.hid (HF2.out.trans hF3)
  have hgot3 := Lib.hid (hrow2.out.fr hF3 id)
  have hgg : w.heap.size ≠ w2.heap.size := by have := lt_obj hrow2.out; omega
  have hle : w.heap.size ≤ w2.heap.size := HF2.out.size
  have hrd : 1 < a.round := by have := hok.round0; have : a.round ≠ 1 := by simpa using hr
                               omega
  clear hown3 hgr hF3 hA2 HF2 hrow2 k0 k1 k2 k3 k4'' k5
  obtain ⟨k0, k1, k2, k3, k4, k5⟩ := hA3.cells
  go_wp2
  go_loopg [81] a.l.length (fun k vi wr => ∃ (i : Nat), vi = .int .i64 i ∧ Hid (i + k = a.l.length) ∧ Hid (IntRow wr w2.heap.size (part (a.l.map fun b => b.1 - b.2) i)) ∧ Hid (IntRow wr w.heap.size (List.replicate a.l.length 0)) ∧ Hid (AucAt wr p q a) ∧ Hid (Fr nob w wr))
  case atStart => exact ⟨0, rfl, by show 0 + a.l.length = _; omega, by show IntRow _ _ _; rw [part_zero, List.length_map]; exact hrow3.out, hgot3, hA3, HF3.out⟩
  case round =>
    obtain ⟨i, rfl, hik, hrw, hgot, hAr, hFr⟩ := hrel
    clear hA3 HF3 hgot3 hrow3 k0 k1 k2 k3 k4 k5
    have hgq : w2.heap.size ≠ q := ne_obj hrw.out hAr.out.hq (by simp)
    have hgp : w2.heap.size ≠ p := ne_obj hrw.out hAr.out.hp (by simp)
    by_cases hlt : i < a.l.length
    · obtain ⟨b, hb⟩ : ∃ b, a.l[i]? = some b := ⟨_, List.getElem?_eq_getElem hlt⟩
      obtain ⟨c1, c2⟩ := hAr.out.bidder hb
      obtain ⟨hb0, hb1⟩ := hok.was b (List.mem_of_getElem? hb)
      obtain ⟨hb2, hb3⟩ := hok.now b (List.mem_of_getElem? hb)
      have hq := hrw.out.cell (part_get (a.l.map fun b => b.1 - b.2) i (by simpa using hlt))
      have hS := Lib.hid (hrw.out.set i (b.1 - b.2))
      have hps := Lib.hid (part_set (a.l.map fun b => b.1 - b.2) i (b.1 - b.2) (by rw [List.getElem?_map, hb]; rfl))
      have fz := hrw.out.frozen i
      have hl2 := lt_obj hrw.out
      clear hb
      go_wp2
      go_roundg (gk - 1)
      case measure => have := hik.out; omega
      case rel =>
        refine ⟨i + 1, by go_num, by have := hik.out; show i + 1 + (gk - 1) = _; omega, ?_, ?_, ?_, (hFr.out.setCell (fun h => by simp at h; omega) _).alloc _⟩
        · have h3 := hS.out
          rw [hps.out] at h3
          exact h3.alloc _
        · exact hgot.out.fr (((Fr.refl (fun k => k = w2.heap.size) wr).setCell (p := ⟨w2.heap.size, i, none⟩) (fun _ => rfl) _).alloc _) hgg
        · exact hAr.out.fr (((Fr.refl (fun k => k = w2.heap.size) wr).setCell (p := ⟨w2.heap.size, i, none⟩) (fun _ => rfl) _).alloc _) (Ne.symm hgp) (Ne.symm hgq)
    · have hG : IntRow wr w2.heap.size (a.l.map fun b => b.1 - b.2) := by
        have h3 := hrw.out
        rw [part_all (a.l.map fun b => b.1 - b.2) i (by simp; omega)] at h3
        exact h3
      have hgaps : Hid (∀ g ∈ a.l.map (fun b => b.1 - b.2), 0 ≤ g ∧ g ≤ 1048576) := by
        intro g hg
        obtain ⟨b, hb, rfl⟩ := List.mem_map.1 hg
        have h1 := hok.was b hb
        have h2 := hok.now b hb
        have h3 := hok.falls hrd b hb
        constructor <;> omega
      have hsum : Hid (a.supply - a.demand ≤ (a.l.map fun b => b.1 - b.2).sum) := by
        have h1 := hok.over hrd
        have h2 : ∀ l : List (Int × Int), (l.map fun b => b.1 - b.2).sum = (l.map (·.1)).sum - (l.map (·.2)).sum := by
          intro l
          induction l with
          | nil => rfl
          | cons x l ih => simp only [List.map_cons, List.sum_cons, ih]; omega
        show _ ≤ _
        rw [h2]; unfold Auc.demand; omega
      have hown := hG.own (by unfold maxLen; simp; omega)
      rw [List.length_map] at hown
      obtain ⟨k0, k1, k2, k3, k4, k5⟩ := hAr.out.cells
      go_wp2_with (first | (go_at_call 39; go_loud (refine (shares_any _ (a.supply - a.demand) (.slice (some ⟨w2.heap.size, 0, none⟩) a.l.length a.l.length) (a.l.map fun b => b.1 - b.2) ?ho hgaps.out (by simp; omega) (by simp; omega) (by omega) (by omega) hsum.out).mono ?_)))
      case ho => rw [List.length_map]; exact hown
      rintro e w4 ⟨k, rfl, hk, hM, hF⟩
      rw [List.length_map]
      have hM' := Lib.hid hM
      have hA4 := hAr.out.fr hF id id
      have hgot4 := Lib.hid (hgot.out.fr hF id)
      have HF4 := Lib.hid (hFr.out.trans hF)
      have hkg : w.heap.size ≠ k := by have := hFr.out.size; have := lt_obj hgot.out; omega
      have hkl : Hid ((Auc.shares (a.supply - a.demand) (a.l.map fun b => b.1 - b.2)).length = a.l.length) := by show _ = _; rw [Auc.shares_length, List.length_map]
      obtain ⟨M, hMM⟩ : ∃ M, Auc.shares (a.supply - a.demand) (a.l.map fun b => b.1 - b.2) = M := ⟨_, rfl⟩
      have HM := Lib.hid hMM
      rw [hMM] at hM' hkl
      have hMb : Hid (∀ x ∈ M, 0 ≤ x ∧ x ≤ 1099511627777) := by
        intro x hx
        rw [← hMM] at hx
        exact Auc.shares_bound _ _ (by omega) (by omega) hgaps.out x hx
      clear hM hMM hF hAr hgot hFr hrw hG hown k0 k1 k2 k3 k4 k5 hgaps hsum
      obtain ⟨k0, k1, k2, k3, k4, k5⟩ := hA4.cells
      go_wp2
      go_loopg [106] a.l.length (fun kk vi wr => ∃ (i : Nat), vi = .int .i64 i ∧ Hid (i + kk = a.l.length) ∧ Hid (IntRow wr w.heap.size (part (List.zipWith (· + ·) (a.l.map (·.2)) M) i)) ∧ Hid (IntRow wr k M) ∧ Hid (AucAt wr p q a) ∧ Hid (Fr nob w wr))
      case atStart => exact ⟨0, rfl, by show 0 + a.l.length = _; omega, by show IntRow _ _ _; rw [part_zero, List.length_zipWith, List.length_map, hkl.out, Nat.min_self]; exact hgot4.out, hM'.out, hA4, HF4.out⟩
      case round =>
        rename_i wr5 hrel5
        obtain ⟨i, rfl, hik, hrw, hMr, hAr, hFr⟩ := hrel
        clear hA4 HF4 hgot4 hM' k0 k1 k2 k3 k4 k5
        have hgq : w.heap.size ≠ q := ne_obj hrw.out hAr.out.hq (by simp)
        have hgp : w.heap.size ≠ p := ne_obj hrw.out hAr.out.hp (by simp)
        by_cases hlt : i < a.l.length
        · obtain ⟨b, hb⟩ : ∃ b, a.l[i]? = some b := ⟨_, List.getElem?_eq_getElem hlt⟩
          obtain ⟨m, hm⟩ : ∃ m, M[i]? = some m := ⟨_, List.getElem?_eq_getElem (by have := hkl.out; omega)⟩
          obtain ⟨c1, c2⟩ := hAr.out.bidder hb
          obtain ⟨hb0, hb1⟩ := hok.now b (List.mem_of_getElem? hb)
          obtain ⟨hm0, hm1⟩ := hMb.out m (List.mem_of_getElem? hm)
          have hmc := hMr.out.cell hm
          have hlz : Hid ((List.zipWith (· + ·) (a.l.map (·.2)) M).length = a.l.length) := by show _ = _; rw [List.length_zipWith, List.length_map, hkl.out, Nat.min_self]
          have hq := hrw.out.cell (part_get (List.zipWith (· + ·) (a.l.map (·.2)) M) i (by rw [hlz.out]; exact hlt))
          have hS := Lib.hid (hrw.out.set i (b.2 + m))
          have hps := Lib.hid (part_set (List.zipWith (· + ·) (a.l.map (·.2)) M) i (b.2 + m) (by rw [List.getElem?_zipWith, List.getElem?_map, hb, hm]; rfl))
          have fz := hrw.out.frozen i
          have hl2 := lt_obj hrw.out
          have hl3 := lt_obj hMr.out
          have hlt' : (i : Int) < (a.l.length : Int) := by omega
          have ew5 : IntKind.i64.wrap (b.2 + m) = b.2 + m := by rw [IntKind.wrap_i64]; omega
          have Hb := Lib.hid hb
          have Hm := Lib.hid hm
          clear hb hm
          go_wp2_with fail
          have d1 : (wr.alloc (.cells #[.int .i64 b.1, .int .i64 b.2] 70)).cell? ⟨wr.heap.size, 1, none⟩ = some (.int .i64 b.2) := by rw [World.cell?_alloc_at _ _ _ _ rfl]; rfl
          have hW1 := hrw.out.alloc (.cells #[.int .i64 b.1, .int .i64 b.2] 70)
          have hW2 := hMr.out.alloc (.cells #[.int .i64 b.1, .int .i64 b.2] 70)
          have hW3 := hAr.out.fr (Fr.alloc (Fr.refl nob wr) (.cells #[.int .i64 b.1, .int .i64 b.2] 70)) id id
          have hW4 := hFr.out.alloc (.cells #[.int .i64 b.1, .int .i64 b.2] 70)
          generalize wr.alloc (.cells #[.int .i64 b.1, .int .i64 b.2] 70) = W at d1 hW1 hW2 hW3 hW4 ⊢
          have d2 := hW2.cell Hm.out
          have d3 := hW1.cell (part_get (List.zipWith (· + ·) (a.l.map (·.2)) M) i (by rw [hlz.out]; exact hlt))
          have d4 := hW1.frozen i
          have hS := Lib.hid (hW1.set i (b.2 + m))
          have H3 := Lib.hid hW3
          have H2 := Lib.hid hW2
          have H4 := Lib.hid hW4
          clear hW1 hW2 hW3 hW4 c1 c2 hmc hq fz hl2 hl3
          go_still_tail 10, (by kernel_rfl)
          go_wp2
          go_roundg (gk - 1)
          case measure => have := hik.out; omega
          case rel =>
            refine ⟨i + 1, by go_num, by have := hik.out; show i + 1 + (gk - 1) = _; omega, ?_, ?_, ?_, (H4.out.setCell (fun h => by simp at h) _).drew⟩
            · have h3 := hS.out
              rw [hps.out] at h3
              exact h3
            · exact IntRow.fr (S := fun k => k = w.heap.size) H2.out (((Fr.refl (fun k => k = w.heap.size) W).setCell (p := ⟨w.heap.size, i, none⟩) (fun _ => rfl) _).drew) (Ne.symm hkg)
            · exact (H3.out.fr ((Fr.refl (fun k => k = w.heap.size) W).setCell (p := ⟨w.heap.size, i, none⟩) (fun _ => rfl) _) (Ne.symm hgp) (Ne.symm hgq)).drew
        · obtain ⟨k0, k1, k2, k3, k4, k5⟩ := hAr.out.cells
          have e2 : IntKind.i64.wrap (a.price - a.step) = a.price - a.step := by have := hok.price_le; have := hok.step0; have := hok.step1; rw [IntKind.wrap_i64]; omega
          go_wp2_with fail
          go_quiet ((go_at_call 20; refine Calls.quiet_of (price_any _ p q a (hAr.out.drewN _) hok.bd)))
          go_wp2
          go_ret3
          have hlz : (List.zipWith (· + ·) (a.l.map (·.2)) M).length = a.l.length := by rw [List.length_zipWith, List.length_map, hkl.out, Nat.min_self]
          have e := part_all (List.zipWith (· + ·) (a.l.map (·.2)) M) i (by rw [hlz]; omega)
          have h3 := hrw.out
          rw [e] at h3
          have h4 := IntRow.ownAt h3 (Nat.le_refl w.heap.size) (by rw [hlz]; unfold maxLen; omega)
          rw [HM.out]
          refine ⟨.slice (some ⟨w.heap.size, 0, none⟩) a.l.length a.l.length, by simp, ?_, hFr.out.drewN _, fun h => by rw [h] at hlz; simp at hlz; omega⟩
          rw [hlz] at h4 ⊢
          exact ownsRow_fr h4 ((Fr.refl nob wr).drewN _) (fun k _ => id)

theorem sale_any (w : World) (p q : Nat) (a : Auc) (h : AucAt w p q a) (hok : a.Ok) :
    Calls Try.prog 17 #[.pointer (some ⟨p, 0, none⟩)] w (SalePost w a.l.length a.sale.1 a.sale.2.1 a.sale.2.2) := by
  unfold Auc.sale
  by_cases hs : a.state = 0
  · rw [if_pos hs]; exact sale_open w p q a h hs
  · rw [if_neg hs]
    by_cases hs2 : a.state = 2
    · rw [if_pos hs2]; exact sale_void w p q a h hok hs2
    · rw [if_neg hs2]
      have hst : a.state = 1 := by have := hok.state0; have := hok.state1; omega
      by_cases hr : a.round = 1 ∨ a.supply - a.demand = 0
      · rw [if_pos hr]
        refine sale_first w p q a h hok hst ?_
        rcases hr with hr | hr
        · exact .inl (by simp [hr])
        · by_cases h1 : a.round = 1
          · exact .inl (by simp [h1])
          · exact .inr ⟨by simp [h1], hr⟩
      · rw [if_neg hr]
        exact sale_next w p q a h hok hst (by simp; omega) (by simp; omega)
end Go.Proofs.Ytpkongocabnciaa
