/- The law ClockPlays: one call of both, the program's auction and the reference's. -/
import Derived.Test.YtpkongocabnciaaRefM3
import Derived.Test.YtpkongocabnciaaBeg
import Derived.Test.YtpkongocabnciaaCbyt
import Derived.Handy
import Derived.Laws.ResultCell
import Derived.Deep.RegionHeld3
import Derived.BigRegion
namespace Go.Proofs.Ytpkongocabnciaa
open Go.RowKit Go.Proofs.Ytpkongocabnciaa.PClockPlays
open Go.Proofs.YtpkongocabnciaaW.PrintWords (Kd.V Kd.V_slice Kd.V_reads' Kd.V_step Kd.V_mono Kd.V_below Kd.V_bound Kd Drawn0)
set_option linter.unusedVariables false
set_option linter.unusedSimpArgs false

/-- The reference's auction lies in blocks of ok. -/
def RefIs (w : World) (ok : Nat → Prop) (v : Value) (a : Auc) : Prop :=
  ∃ (A : Option Addr) (c : Nat) (rs : List (List Int)), v = .agg #[.int .i64 a.supply, .int .i64 a.start, .int .i64 a.step, .int .i64 a.state, .slice A rs.length c] ∧
    Kd.V (Kd.slice 3 (Kd.int .i64)) 46 w 0 ok (.slice A rs.length c) rs ∧ RdAt rs a

theorem RefIs.mono {w : World} {ok ok' : Nat → Prop} {v : Value} {a : Auc} (h : RefIs w ok v a) (hk : ∀ k, ok k → ok' k) : RefIs w ok' v a := by
  obtain ⟨A, c, rs, rfl, hV, hR⟩ := h
  exact ⟨A, c, rs, rfl, Kd.V_mono hV hk, hR⟩
theorem RefIs.fr {w w' : World} {S ok : Nat → Prop} {v : Value} {a : Auc} (h : RefIs w ok v a) (hF : Fr S w w') (hS : ∀ k, ok k → ¬ S k) : RefIs w' ok v a := by
  obtain ⟨A, c, rs, rfl, hV, hR⟩ := h
  exact ⟨A, c, rs, rfl, Kd.V_step hV (fun k hk hlt => hF.block k hlt (hS k hk)), hR⟩
theorem RefIs.fr0 {w w' : World} {ok : Nat → Prop} {v : Value} {a : Auc} (h : RefIs w ok v a) (hF : Fr nob w w') : RefIs w' ok v a := by
  obtain ⟨A, c, rs, rfl, hV, hR⟩ := h
  exact ⟨A, c, rs, rfl, Kd.V_step hV (fun k hk hlt => hF.block k hlt id), hR⟩
theorem RefIs.drew {w : World} {ok : Nat → Prop} {v : Value} {a : Auc} (h : RefIs w ok v a) : RefIs w.drew ok v a := h.fr0 (Fr.refl _ _).drew

theorem RefIs.bound {w : World} {ok : Nat → Prop} {v : Value} {a : Auc} (h : RefIs w ok v a) : RefIs w (fun k => ok k ∧ k < w.heap.size) v a := by
  obtain ⟨A, c, rs, rfl, hV, hR⟩ := h
  exact ⟨A, c, rs, rfl, Kd.V_bound hV, hR⟩
theorem set5_obj {w : World} {b : Nat} {c0 c1 c2 c3 c4 : Value} {t : TypeId} {fz : Nat × Nat} (h : w.heap[b]? = some (.cells #[c0, c1, c2, c3, c4] t fz)) (v0 v1 v2 v3 v4 : Value) :
    ((((((w.setCell ⟨b, 0, none⟩ v0).setCell ⟨b, 1, none⟩ v1).setCell ⟨b, 2, none⟩ v2).setCell ⟨b, 3, none⟩ v3).setCell ⟨b, 4, none⟩ v4).drew).heap[b]? = some (.cells #[v0, v1, v2, v3, v4] t fz) :=
  by
  have h0 : (w.setCell ⟨b, 0, none⟩ v0).heap[b]? = some (.cells #[v0, c1, c2, c3, c4] t fz) := setCell_obj h 0 v0
  generalize w.setCell ⟨b, 0, none⟩ v0 = w0 at h0 ⊢
  have h1 : (w0.setCell ⟨b, 1, none⟩ v1).heap[b]? = some (.cells #[v0, v1, c2, c3, c4] t fz) := setCell_obj h0 1 v1
  generalize w0.setCell ⟨b, 1, none⟩ v1 = w1 at h1 ⊢
  have h2 : (w1.setCell ⟨b, 2, none⟩ v2).heap[b]? = some (.cells #[v0, v1, v2, c3, c4] t fz) := setCell_obj h1 2 v2
  generalize w1.setCell ⟨b, 2, none⟩ v2 = w2 at h2 ⊢
  have h3 : (w2.setCell ⟨b, 3, none⟩ v3).heap[b]? = some (.cells #[v0, v1, v2, v3, c4] t fz) := setCell_obj h2 3 v3
  generalize w2.setCell ⟨b, 3, none⟩ v3 = w3 at h3 ⊢
  have h4 : (w3.setCell ⟨b, 4, none⟩ v4).heap[b]? = some (.cells #[v0, v1, v2, v3, v4] t fz) := setCell_obj h3 4 v4
  exact h4
theorem set5_fr {S : Nat → Prop} {w0 w : World} {b : Nat} (h : Fr S w0 w) (hb : b < w0.heap.size → S b) (v0 v1 v2 v3 v4 : Value) :
    Fr S w0 ((((((w.setCell ⟨b, 0, none⟩ v0).setCell ⟨b, 1, none⟩ v1).setCell ⟨b, 2, none⟩ v2).setCell ⟨b, 3, none⟩ v3).setCell ⟨b, 4, none⟩ v4).drew) :=
  (((((h.setCell (p := ⟨b, 0, none⟩) hb v0).setCell (p := ⟨b, 1, none⟩) hb v1).setCell (p := ⟨b, 2, none⟩) hb v2).setCell (p := ⟨b, 3, none⟩) hb v3).setCell (p := ⟨b, 4, none⟩) hb v4).drew
theorem set5_obj' {w : World} {b : Nat} {c0 c1 c2 c3 c4 : Value} {t : TypeId} {fz : Nat × Nat} (h : w.heap[b]? = some (.cells #[c0, c1, c2, c3, c4] t fz)) (v0 v1 v2 v3 v4 : Value) :
    (((((w.setCell ⟨b, 0, none⟩ v0).setCell ⟨b, 1, none⟩ v1).setCell ⟨b, 2, none⟩ v2).setCell ⟨b, 3, none⟩ v3).setCell ⟨b, 4, none⟩ v4).heap[b]? = some (.cells #[v0, v1, v2, v3, v4] t fz) :=
  by
  have h0 : (w.setCell ⟨b, 0, none⟩ v0).heap[b]? = some (.cells #[v0, c1, c2, c3, c4] t fz) := setCell_obj h 0 v0
  generalize w.setCell ⟨b, 0, none⟩ v0 = w0 at h0 ⊢
  have h1 : (w0.setCell ⟨b, 1, none⟩ v1).heap[b]? = some (.cells #[v0, v1, c2, c3, c4] t fz) := setCell_obj h0 1 v1
  generalize w0.setCell ⟨b, 1, none⟩ v1 = w1 at h1 ⊢
  have h2 : (w1.setCell ⟨b, 2, none⟩ v2).heap[b]? = some (.cells #[v0, v1, v2, c3, c4] t fz) := setCell_obj h1 2 v2
  generalize w1.setCell ⟨b, 2, none⟩ v2 = w2 at h2 ⊢
  have h3 : (w2.setCell ⟨b, 3, none⟩ v3).heap[b]? = some (.cells #[v0, v1, v2, v3, c4] t fz) := setCell_obj h2 3 v3
  generalize w2.setCell ⟨b, 3, none⟩ v3 = w3 at h3 ⊢
  have h4 : (w3.setCell ⟨b, 4, none⟩ v4).heap[b]? = some (.cells #[v0, v1, v2, v3, v4] t fz) := setCell_obj h3 4 v4
  exact h4
theorem set5_fr' {S : Nat → Prop} {w0 w : World} {b : Nat} (h : Fr S w0 w) (hb : b < w0.heap.size → S b) (v0 v1 v2 v3 v4 : Value) :
    Fr S w0 (((((w.setCell ⟨b, 0, none⟩ v0).setCell ⟨b, 1, none⟩ v1).setCell ⟨b, 2, none⟩ v2).setCell ⟨b, 3, none⟩ v3).setCell ⟨b, 4, none⟩ v4) :=
  ((((h.setCell (p := ⟨b, 0, none⟩) hb v0).setCell (p := ⟨b, 1, none⟩) hb v1).setCell (p := ⟨b, 2, none⟩) hb v2).setCell (p := ⟨b, 3, none⟩) hb v3).setCell (p := ⟨b, 4, none⟩) hb v4
theorem ret_auc {W : World} {b : Nat} {v0 v1 v2 v3 v4 : Value} {fz : Nat × Nat} {t : TypeId} (hb : W.heap[b]? = some (.cells #[v0, v1, v2, v3, v4] t fz)) {tmps : Array Value} {p u : Tmp} (hp : tmps.getD p undef = .pointer (some ⟨b, 0, none⟩)) {fn : Func} (h : fn.results = #[.cell p 30, .tmp u]) :
    (results fn tmps).run Try.prog W = .ok (.tuple #[.agg #[v0, v1, v2, v3, v4], tmps.getD u undef]) W := by
  rw [results_cell_tmp h, hp]
  have c0 : W.cell? ⟨b, 0, none⟩ = some v0 := cell_obj hb 0
  have c1 : W.cell? ⟨b, 1, none⟩ = some v1 := cell_obj hb 1
  have c2 : W.cell? ⟨b, 2, none⟩ = some v2 := cell_obj hb 2
  have c3 : W.cell? ⟨b, 3, none⟩ = some v3 := cell_obj hb 3
  have c4 : W.cell? ⟨b, 4, none⟩ = some v4 := cell_obj hb 4
  simp [go_sem, c0, c1, c2, c3, c4]

theorem rnext_any (w : World) (ok : Nat → Prop) (v : Value) (a : Auc) (h : RefIs w ok v a) (hok : a.Ok) :
    Calls Try.prog 21 #[v] w fun e w' => ∃ v', e = .returned (.tuple #[v', .int .i64 a.next.2.2]) ∧ RefIs w' (fun k => ok k ∨ w.heap.size ≤ k) v' a.next.1 ∧ Fr nob w w' := by
  obtain ⟨A, c, rs, rfl, hV, hR⟩ := h
  obtain ⟨rs', hf, hR', _⟩ := Next_f hR hok 30 (by omega)
  refine (gavelref07_Next.calls 30 _ _ _ _ ok A c rs _ _ _ _ _ _ w hV hf).mono ?_
  rintro e w' ⟨v4, rfl, hV', hB⟩
  obtain ⟨A', c', rfl⟩ := Kd.V_slice hV'
  exact ⟨_, rfl, ⟨A', c', rs', rfl, hV', hR'⟩, Fr.of_below hB⟩
theorem rbid_any (w : World) (ok : Nat → Prop) (v : Value) (a : Auc) (who n : Int) (h : RefIs w ok v a) (hok : a.Ok) :
    Calls Try.prog 22 #[v, .int .i64 who, .int .i64 n] w fun e w' => ∃ v', e = .returned (.tuple #[v', .int .i64 (a.bid who n).2]) ∧ RefIs w' (fun k => ok k ∨ w.heap.size ≤ k) v' (a.bid who n).1 ∧ Fr nob w w' := by
  obtain ⟨A, c, rs, rfl, hV, hR⟩ := h
  obtain ⟨rs', hf, hR'⟩ := Bid_f hR hok who n 30 (by omega)
  refine (gavelref07_Bid.calls 30 _ _ _ _ ok A c rs who n _ _ _ _ _ _ w hV hf).mono ?_
  rintro e w' ⟨v4, rfl, hV', hB⟩
  obtain ⟨A', c', rfl⟩ := Kd.V_slice hV'
  exact ⟨_, rfl, ⟨A', c', rs', rfl, hV', hR'⟩, Fr.of_below hB⟩

theorem box3 (w : World) (o1 o2 o3 : Obj) : ∃ w1, ((w.alloc o1).alloc o2).alloc o3 = w1 ∧ w1.heap[w.heap.size]? = some o1 ∧ w1.heap[w.heap.size + 1]? = some o2 ∧ w1.heap[w.heap.size + 2]? = some o3 ∧ Fr nob w w1 := by
  have h1 := MapKept.heap_alloc w o1
  have h2 := MapKept.heap_alloc (w.alloc o1) o2
  have h3 := MapKept.heap_alloc ((w.alloc o1).alloc o2) o3
  have hs1 : (w.alloc o1).heap.size = w.heap.size + 1 := by show (w.heap.push _).size = _; simp
  have hs2 : ((w.alloc o1).alloc o2).heap.size = w.heap.size + 2 := by show ((w.heap.push _).push _).size = _; simp
  rw [hs1] at h2
  rw [hs2] at h3
  exact ⟨_, rfl, (h3.2 _ (by omega)).trans ((h2.2 _ (by omega)).trans h1.1), (h3.2 _ (by omega)).trans h2.1, h3.1, (((Fr.refl _ _).alloc _).alloc _).alloc _⟩
theorem box1 (w : World) (o1 : Obj) : ∃ w1, w.alloc o1 = w1 ∧ w1.heap[w.heap.size]? = some o1 ∧ Fr nob w w1 := by
  have h1 := MapKept.heap_alloc w o1
  exact ⟨_, rfl, h1.1, (Fr.refl _ _).alloc _⟩

theorem next_over (a : Auc) : a.next.2.1 = (decide (a.next.2.2 = 0) && decide (¬ a.next.1.state = 0)) := by
  unfold Auc.next
  by_cases h0 : a.state ≠ 0
  · rw [if_pos h0]; rfl
  · have h1 : a.state = 0 := by simpa using h0
    rw [if_neg h0]
    by_cases h2 : a.demand ≤ a.supply
    · rw [if_pos h2]; rfl
    · rw [if_neg h2]
      by_cases h3 : a.price > 1099511627776 - a.step
      · rw [if_pos h3]; rfl
      · rw [if_neg h3]
        simp [h1]

/-- What a call of both answers: the reference's auction then, and yes. -/
def StepPost (w : World) (p q : Nat) (ok : Nat → Prop) (a : Auc) (e : Ending) (w' : World) : Prop := ∃ v, e = .returned (.tuple #[v, .bool true]) ∧ RefIs w' (fun k => ok k ∨ w.heap.size ≤ k) v a ∧ AucAt w' p q a ∧ Fr (fun k => k = p ∨ k = q) w w'

set_option maxHeartbeats 3200000 in
set_option maxRecDepth 100000 in
theorem step_next (w : World) (p q : Nat) (v : Value) (a : Auc) (x0 x1 x2 : Int) (ok : Nat → Prop) (hkk : ∀ k, ok k → k ≠ p ∧ k ≠ q) (hA : AucAt w p q a) (hR : RefIs w ok v a) (hok : a.Ok) (hk : arnd x0 3 = 2) :
    Calls Try.prog 9 #[.pointer (some ⟨p, 0, none⟩), v, .agg #[.int .i64 x0, .int .i64 x1, .int .i64 x2]] w (StepPost w p q ok a.next.1) := by
  have HR := Lib.hid hR
  obtain ⟨A, c, rs, rfl, _, _⟩ := hR
  have HK := Lib.hid hk
  clear hk
  go_enter Try.func9, Try.ntmps9
  go_wp2_with fail
  obtain ⟨w1, hw1, b1, b2, b3, hF1⟩ := box3 w (.cells #[.int .i64 a.supply, .int .i64 a.start, .int .i64 a.step, .int .i64 a.state, .slice A rs.length c] 30 (0, 0)) (.cells #[.int .i64 x0, .int .i64 x1, .int .i64 x2] 36 (0, 0)) (.cells #[.int .i64 0, .int .i64 0, .int .i64 0, .int .i64 0, .slice none 0 0] 30 (0, 0))
  simp only [hw1]
  clear hw1
  have HR1 := Lib.hid (HR.out.bound.fr0 hF1)
  have hs1 := hF1.size
  have HA1 := Lib.hid (hA.fr hF1 id id)
  have c1 : ∀ o, w1.cell? ⟨w.heap.size, o, none⟩ = #[.int .i64 a.supply, .int .i64 a.start, .int .i64 a.step, .int .i64 a.state, .slice A rs.length c][o]? := cell_obj b1
  have c2 : ∀ o, w1.cell? ⟨w.heap.size + 1, o, none⟩ = #[.int .i64 x0, .int .i64 x1, .int .i64 x2][o]? := cell_obj b2
  refine (around_any w1 x0 3 (by omega) (by omega)).mono ?_
  rw [HK.out]
  rintro e w2 ⟨rfl, rfl⟩
  go_wp2_with fail
  refine (rnext_any w1 _ _ a HR1.out hok).mono ?_
  rintro e w2 ⟨v', rfl, hR2, hF2⟩
  have hb1 := lt_obj b3
  obtain ⟨A', c', rs', rfl, hV2, hRd2⟩ := id hR2
  have HR2 := Lib.hid hR2
  have B1 := hF2.obj b1 id
  have B2 := hF2.obj b2 id
  have B3 := hF2.obj b3 id
  have HA2 := Lib.hid (HA1.out.fr hF2 id id)
  have HF2 := Lib.hid (hF1.trans hF2)
  clear c1 c2 b1 b2 b3 hF1 hF2 hR2 hV2 hRd2 HR1 HA1
  go_wp2_with fail
  obtain ⟨w3, hw3, D, hF3⟩ := box1 w2 (.cells #[.int .i64 a.next.1.supply, .int .i64 a.next.1.start, .int .i64 a.next.1.step, .int .i64 a.next.1.state, .slice A' rs'.length c'] 30 (0, 0))
  simp only [hw3]
  clear hw3
  have HA3 := Lib.hid (HA2.out.fr hF3 id id)
  have hov := next_over a
  refine (next_any w3 p q a HA3.out hok).mono ?_
  rintro e w4 ⟨rfl, hA4, hF4⟩
  have n1 : ¬ (w.heap.size = p ∨ w.heap.size = q) := by have := lt_obj hA.hp; have := lt_obj hA.hq; omega
  have n2 : ¬ (w.heap.size + 2 = p ∨ w.heap.size + 2 = q) := by have := lt_obj hA.hp; have := lt_obj hA.hq; omega
  have hlw := HF2.out.size
  have n3 : ¬ (w2.heap.size = p ∨ w2.heap.size = q) := by have := lt_obj HA2.out.hp; have := lt_obj HA2.out.hq; omega
  have n4 := lt_obj B3
  have E3 := hF4.obj (hF3.obj B3 id) n2
  have E4 := hF4.obj D n3
  have HF4 := Lib.hid (((HF2.out.trans hF3).mono (T := fun k => k = p ∨ k = q) (fun _ _ h => h.elim)).trans hF4)
  have hlp := lt_obj hA.hp
  have hlq := lt_obj hA.hq
  have HR4 := Lib.hid ((HR2.out.fr0 hF3).fr hF4 (fun k hk => hk.elim (fun h => by have := hkk k h.1; omega) (fun h => by omega)))
  have HA4 := Lib.hid hA4
  clear B1 B2 B3 D hF3 hF4 HA3 HA2 HR2 HF2 hA4 n1 n3
  have k3 := cell_obj E3
  have k4 : ∀ o, w4.cell? ⟨w2.heap.size, o, none⟩ = #[.int .i64 a.next.1.supply, .int .i64 a.next.1.start, .int .i64 a.next.1.step, .int .i64 a.next.1.state, .slice A' rs'.length c'][o]? := cell_obj E4
  have f3 : ∀ o, w4.frozen? ⟨w.heap.size + 2, o, none⟩ = false := frozen_obj E3
  have hl3 := lt_obj E3
  have Hov := Lib.hid hov
  clear hov
  generalize a.next.2.1 = ov at *
  generalize a.next.2.2 = cd at *
  generalize a.next.1 = a' at *
  have hcases : (cd = 0 ∧ (a'.state != 0) = false ∧ ov = false) ∨ (cd = 0 ∧ (a'.state != 0) = true ∧ ov = true) ∨ ((cd == 0) = false ∧ ov = false) := by
    rw [Hov.out]
    by_cases h1 : cd = 0
    · by_cases h2 : a'.state = 0
      · exact .inl ⟨h1, by simp [h2], by simp [h2]⟩
      · exact .inr (.inl ⟨h1, by simp [h2], by simp [h1, h2]⟩)
    · exact .inr (.inr ⟨by simpa using h1, by simp [h1]⟩)
  clear Hov
  have F5 := set5_fr HF4.out (b := w.heap.size + 2) (fun h => absurd h (by omega)) (.int .i64 a'.supply) (.int .i64 a'.start) (.int .i64 a'.step) (.int .i64 a'.state) (.slice A' rs'.length c')
  have B5 := set5_obj E3 (.int .i64 a'.supply) (.int .i64 a'.start) (.int .i64 a'.step) (.int .i64 a'.state) (.slice A' rs'.length c')
  have G5 := set5_fr (Fr.refl (fun k => k = p ∨ k = q ∨ k = w.heap.size + 2) w4) (b := w.heap.size + 2) (fun _ => .inr (.inr rfl)) (.int .i64 a'.supply) (.int .i64 a'.start) (.int .i64 a'.step) (.int .i64 a'.state) (.slice A' rs'.length c')
  have G6 := set5_fr (Fr.refl (fun k => k = w.heap.size + 2) w4) (b := w.heap.size + 2) (fun _ => rfl) (.int .i64 a'.supply) (.int .i64 a'.start) (.int .i64 a'.step) (.int .i64 a'.state) (.slice A' rs'.length c')
  have R5 := Lib.hid ((HR4.out.fr G5 (fun k hk => hk.elim (fun h => by have := hkk k h.1; omega) (fun h => by omega))).mono (ok' := fun k => ok k ∨ w.heap.size ≤ k) (fun k hk => hk.elim (fun h => .inl h.1) (fun h => .inr (by omega))))
  have A5 := Lib.hid (HA4.out.fr G6 (by omega) (by omega))
  have F5 := Lib.hid F5
  have B5 := Lib.hid B5
  clear G5 G6
  rcases hcases with ⟨rfl, hst, rfl⟩ | ⟨rfl, hst, rfl⟩ | ⟨hcd, rfl⟩
  all_goals
    go_wp2_with fail
    go_region
    go_wp2
    exact bodyPost_ret (ret_auc (b := w.heap.size + 2) B5.out rfl rfl) rfl ⟨_, rfl, R5.out, A5.out, F5.out⟩

end Go.Proofs.Ytpkongocabnciaa
