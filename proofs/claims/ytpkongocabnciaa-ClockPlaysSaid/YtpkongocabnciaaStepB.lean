/- The law ClockPlays: one call of both: the bid. -/
import Derived.Test.YtpkongocabnciaaStep
namespace Go.Proofs.Ytpkongocabnciaa
open Go.RowKit Go.Proofs.Ytpkongocabnciaa.PClockPlays
open Go.Proofs.YtpkongocabnciaaW.PrintWords (Kd.V Kd.V_slice Kd.V_reads' Kd.V_step Kd.V_mono Kd.V_below Kd.V_bound Kd Drawn0)
set_option linter.unusedVariables false
set_option linter.unusedSimpArgs false

set_option maxHeartbeats 6400000 in
set_option maxRecDepth 100000 in
theorem step_bid (w : World) (p q : Nat) (v : Value) (a : Auc) (x0 x1 x2 : Int) (ok : Nat → Prop) (hkk : ∀ k, ok k → k ≠ p ∧ k ≠ q) (hA : AucAt w p q a) (hR : RefIs w ok v a) (hok : a.Ok) (hk : ¬ arnd x0 3 = 2) :
    Calls Try.prog 9 #[.pointer (some ⟨p, 0, none⟩), v, .agg #[.int .i64 x0, .int .i64 x1, .int .i64 x2]] w (StepPost w p q ok (a.bid x1 x2).1) := by
  have HR := Lib.hid hR
  obtain ⟨A, c, rs, rfl, _, _⟩ := hR
  have hk2 : (arnd x0 3 == 2) = false := by simpa using hk
  have hkb := arnd_bound x0 3 (by omega)
  clear hk
  go_enter Try.func9, Try.ntmps9
  go_wp2_with fail
  obtain ⟨w1, hw1, b1, b2, b3, hF1⟩ := box3 w (.cells #[.int .i64 a.supply, .int .i64 a.start, .int .i64 a.step, .int .i64 a.state, .slice A rs.length c] 30 (0, 0)) (.cells #[.int .i64 x0, .int .i64 x1, .int .i64 x2] 36 (0, 0)) (.cells #[.int .i64 0, .int .i64 0, .int .i64 0, .int .i64 0, .slice none 0 0] 30 (0, 0))
  simp only [hw1]
  clear hw1
  have HR1 := Lib.hid (HR.out.bound.fr0 hF1)
  have hs1 := hF1.size
  have HA1 := Lib.hid (hA.fr hF1 id id)
  have c1 : ∀ o, w1.cell? ⟨w.heap.size, o, none⟩ = #[.int .i64 a.supply, .int .i64 a.start, .int .i64 a.step, .int .i64 a.state, .slice A rs.length c][o]? := cell_obj b1
  have c2 : ∀ o, w1.cell? ⟨w.heap.size + 1, o, none⟩ = #[.int .i64 x0, .int .i64 x1, .int .i64 x2][o]? := cell_obj b2
  refine (around_any w1 x0 3 (by omega) (by omega)).mono ?_
  rintro e w2 ⟨rfl, rfl⟩
  go_wp2_with fail
  refine (rbid_any w1 _ _ a x1 x2 HR1.out hok).mono ?_
  rintro e w2 ⟨v', rfl, hR2, hF2⟩
  have hb1 := lt_obj b3
  obtain ⟨A', c', rs', rfl, hV2, hRd2⟩ := id hR2
  have HR2 := Lib.hid hR2
  have B1 := hF2.obj b1 id
  have B2 := hF2.obj b2 id
  have B3 := hF2.obj b3 id
  have HA2 := Lib.hid (HA1.out.fr hF2 id id)
  have HF2 := Lib.hid (hF1.trans hF2)
  clear c1 c2 b1 b2 b3 hF1 hF2 hR2 hV2 hRd2 HR1 HA1
  obtain ⟨a', ha'⟩ : ∃ a', (a.bid x1 x2).1 = a' := ⟨_, rfl⟩
  obtain ⟨cd, hcd⟩ : ∃ cd, (a.bid x1 x2).2 = cd := ⟨_, rfl⟩
  simp only [ha', hcd] at HR2 ⊢
  have Ha' := Lib.hid ha'
  have Hcd := Lib.hid hcd
  clear ha' hcd
  have HC : Hid (∀ W, AucAt W p q a → Calls Try.prog 16 #[.pointer (some ⟨p, 0, none⟩), .int .i64 x1, .int .i64 x2] W (AucPost W p q a' (.int .i64 cd))) := by
    show ∀ W, _
    intro W hW
    have h := bid_any W p q a x1 x2 hW hok
    rw [Ha'.out, Hcd.out] at h
    exact h
  go_wp2_with fail
  obtain ⟨w3, hw3, D, hF3⟩ := box1 w2 (.cells #[.int .i64 a'.supply, .int .i64 a'.start, .int .i64 a'.step, .int .i64 a'.state, .slice A' rs'.length c'] 30 (0, 0))
  simp only [hw3]
  clear hw3
  have HA3 := Lib.hid (HA2.out.fr hF3 id id)
  have hlw := HF2.out.size
  have hlp := lt_obj hA.hp
  have hlq := lt_obj hA.hq
  have n1 : ¬ (w.heap.size + 1 = p ∨ w.heap.size + 1 = q) := by omega
  have n2 : ¬ (w.heap.size + 2 = p ∨ w.heap.size + 2 = q) := by omega
  have n3 : ¬ (w2.heap.size = p ∨ w2.heap.size = q) := by omega
  have n4 := lt_obj B3
  have E2 := hF3.obj B2 id
  have E3 := hF3.obj B3 id
  have HR3 := Lib.hid (HR2.out.fr0 hF3)
  have HF3 := Lib.hid ((HF2.out.trans hF3).mono (T := fun k => k = p ∨ k = q) (fun _ _ h => h.elim))
  have c2 : ∀ o, w3.cell? ⟨w.heap.size + 1, o, none⟩ = #[.int .i64 x0, .int .i64 x1, .int .i64 x2][o]? := cell_obj E2
  have c3 : ∀ o, w3.cell? ⟨w.heap.size + 2, o, none⟩ = #[.int .i64 0, .int .i64 0, .int .i64 0, .int .i64 0, .slice none 0 0][o]? := cell_obj E3
  have c4 : ∀ o, w3.cell? ⟨w2.heap.size, o, none⟩ = #[.int .i64 a'.supply, .int .i64 a'.start, .int .i64 a'.step, .int .i64 a'.state, .slice A' rs'.length c'][o]? := cell_obj D
  have f3 : ∀ o, w3.frozen? ⟨w.heap.size + 2, o, none⟩ = false := frozen_obj E3
  have hl3 := lt_obj E3
  clear B1 B2 B3 hF3 HA2 HR2 HF2
  have G5 := set5_fr (Fr.refl (fun k => k = p ∨ k = q ∨ k = w.heap.size + 2) w3) (b := w.heap.size + 2) (fun _ => .inr (.inr rfl)) (.int .i64 a'.supply) (.int .i64 a'.start) (.int .i64 a'.step) (.int .i64 a'.state) (.slice A' rs'.length c')
  have G6 := set5_fr (Fr.refl (fun k => k = w.heap.size + 2) w3) (b := w.heap.size + 2) (fun _ => rfl) (.int .i64 a'.supply) (.int .i64 a'.start) (.int .i64 a'.step) (.int .i64 a'.state) (.slice A' rs'.length c')
  have B5 := set5_obj E3 (.int .i64 a'.supply) (.int .i64 a'.start) (.int .i64 a'.step) (.int .i64 a'.state) (.slice A' rs'.length c')
  have A5 := Lib.hid (HA3.out.fr G6 (by omega) (by omega))
  have G5 := Lib.hid G5
  have B5 := Lib.hid B5
  clear G6
  have Had := Lib.hid (HA3.out.drew)
  have F5 := Lib.hid (set5_fr HF3.out (b := w.heap.size + 2) (fun h => absurd h (by omega)) (.int .i64 a'.supply) (.int .i64 a'.start) (.int .i64 a'.step) (.int .i64 a'.state) (.slice A' rs'.length c'))
  have fin1 : Hid (∀ w4, AucAt w4 p q a' → Fr (fun k => k = p ∨ k = q) ((((((w3.setCell ⟨w.heap.size + 2, 0, none⟩ (.int .i64 a'.supply)).setCell ⟨w.heap.size + 2, 1, none⟩ (.int .i64 a'.start)).setCell ⟨w.heap.size + 2, 2, none⟩ (.int .i64 a'.step)).setCell ⟨w.heap.size + 2, 3, none⟩ (.int .i64 a'.state)).setCell ⟨w.heap.size + 2, 4, none⟩ (.slice A' rs'.length c')).drew) w4 →
      w4.heap[w.heap.size + 2]? = some (.cells #[.int .i64 a'.supply, .int .i64 a'.start, .int .i64 a'.step, .int .i64 a'.state, .slice A' rs'.length c'] 30 (0, 0)) ∧
      StepPost w p q ok (a.bid x1 x2).1 (.returned (.tuple #[.agg #[.int .i64 a'.supply, .int .i64 a'.start, .int .i64 a'.step, .int .i64 a'.state, .slice A' rs'.length c'], .bool true])) w4) := by
    show ∀ w4, _
    intro w4 hA4 hF4
    rw [Ha'.out]
    exact ⟨hF4.obj B5.out n2, _, rfl, ((HR3.out.fr G5.out (fun k hk => hk.elim (fun h => by have := hkk k h.1; omega) (fun h => by omega))).fr hF4 (fun k hk => hk.elim (fun h => by have := hkk k h.1; omega) (fun h => by omega))).mono (fun k hk => hk.elim (fun h => .inl h.1) (fun h => .inr (by omega))), hA4, F5.out.trans hF4⟩
  have fin2 : Hid (∀ w4, AucAt w4 p q a' → Fr (fun k => k = p ∨ k = q) w3.drew w4 →
      (((((w4.setCell ⟨w.heap.size + 2, 0, none⟩ (.int .i64 a'.supply)).setCell ⟨w.heap.size + 2, 1, none⟩ (.int .i64 a'.start)).setCell ⟨w.heap.size + 2, 2, none⟩ (.int .i64 a'.step)).setCell ⟨w.heap.size + 2, 3, none⟩ (.int .i64 a'.state)).setCell ⟨w.heap.size + 2, 4, none⟩ (.slice A' rs'.length c')).heap[w.heap.size + 2]? = some (.cells #[.int .i64 a'.supply, .int .i64 a'.start, .int .i64 a'.step, .int .i64 a'.state, .slice A' rs'.length c'] 30 (0, 0)) ∧
      StepPost w p q ok (a.bid x1 x2).1 (.returned (.tuple #[.agg #[.int .i64 a'.supply, .int .i64 a'.start, .int .i64 a'.step, .int .i64 a'.state, .slice A' rs'.length c'], .bool true]))
        (((((w4.setCell ⟨w.heap.size + 2, 0, none⟩ (.int .i64 a'.supply)).setCell ⟨w.heap.size + 2, 1, none⟩ (.int .i64 a'.start)).setCell ⟨w.heap.size + 2, 2, none⟩ (.int .i64 a'.step)).setCell ⟨w.heap.size + 2, 3, none⟩ (.int .i64 a'.state)).setCell ⟨w.heap.size + 2, 4, none⟩ (.slice A' rs'.length c'))) := by
    show ∀ w4, _
    intro w4 hA4 hF4
    rw [Ha'.out]
    have e3 := hF4.obj (w := w3.drew) E3 n2
    have hR4 := (HR3.out.drew).fr hF4 (fun k hk => hk.elim (fun h => by have := hkk k h.1; omega) (fun h => by omega))
    have g1 := set5_fr' (Fr.refl (fun k => k = p ∨ k = q ∨ k = w.heap.size + 2) w4) (b := w.heap.size + 2) (fun _ => .inr (.inr rfl)) (.int .i64 a'.supply) (.int .i64 a'.start) (.int .i64 a'.step) (.int .i64 a'.state) (.slice A' rs'.length c')
    have g2 := set5_fr' (Fr.refl (fun k => k = w.heap.size + 2) w4) (b := w.heap.size + 2) (fun _ => rfl) (.int .i64 a'.supply) (.int .i64 a'.start) (.int .i64 a'.step) (.int .i64 a'.state) (.slice A' rs'.length c')
    exact ⟨set5_obj' e3 _ _ _ _ _, _, rfl, (hR4.fr g1 (fun k hk => hk.elim (fun h => by have := hkk k h.1; omega) (fun h => by omega))).mono (fun k hk => hk.elim (fun h => .inl h.1) (fun h => .inr (by omega))), hA4.fr g2 (by omega) (by omega), set5_fr' (HF3.out.drew.trans hF4) (fun h => absurd h (by omega)) _ _ _ _ _⟩
  go_region_with (first
    | (go_at_call 16; ((with_reducible refine (HC.out w3.drew Had.out).mono ?_); rintro e w4 ⟨rfl, hA4, hF4⟩; (have e3 := hF4.obj (w := w3.drew) E3 n2); (have d4 := hF4.obj (w := w3.drew) D n3); (have k3 := cell_obj e3); (have g3 : ∀ o, w4.frozen? ⟨w.heap.size + 2, o, none⟩ = false := frozen_obj e3); (have k4 : ∀ o, w4.cell? ⟨w2.heap.size, o, none⟩ = #[.int .i64 a'.supply, .int .i64 a'.start, .int .i64 a'.step, .int .i64 a'.state, .slice A' rs'.length c'][o]? := cell_obj d4); (have l4 := lt_obj e3)))
    | (go_at_call 16; ((with_reducible refine (HC.out _ A5.out).mono ?_); rintro e w4 ⟨rfl, hA4, hF4⟩)))
  all_goals
    go_wp2
    first
      | exact bodyPost_ret (ret_auc (b := w.heap.size + 2) (fin1.out _ hA4 hF4).1 rfl rfl) rfl (fin1.out _ hA4 hF4).2
      | exact bodyPost_ret (ret_auc (b := w.heap.size + 2) (fin2.out _ hA4 hF4).1 rfl rfl) rfl (fin2.out _ hA4 hF4).2
end Go.Proofs.Ytpkongocabnciaa
