/- The law ClockPlays: the walk: an auction of any supply, start, step and bidders answers whatever calls, and stands then, as the document says. -/
import Derived.Test.YtpkongocabnciaaStepB
import Derived.Test.YtpkongocabnciaaLike
import Derived.Test.YtpkongocabnciaaCawk
namespace Go.Proofs.Ytpkongocabnciaa
open Go.RowKit Go.Proofs.Ytpkongocabnciaa.PClockPlays
open Go.Proofs.YtpkongocabnciaaW.PrintWords (Kd.V Kd.V_slice Kd.V_reads' Kd.V_step Kd.V_mono Kd.V_below Kd.V_bound Kd Kd.N_V)
set_option linter.unusedVariables false
set_option linter.unusedSimpArgs false

/-- What the reference's New answers. -/
def RNewPost (w : World) (r : Option Auc) (e : Ending) (w' : World) : Prop :=
  Fr nob w w' ∧ (match r with
    | none => ∃ A c, e = .returned (.tuple #[.agg #[.int .i64 0, .int .i64 0, .int .i64 0, .int .i64 0, .slice A 0 c], .bool false])
    | some a => ∃ v, e = .returned (.tuple #[v, .bool true]) ∧ RefIs w' (fun k => w.heap.size ≤ k) v a)
theorem rnew_any (w : World) (s p d n : Int) : Calls Try.prog 7 #[.int .i64 s, .int .i64 p, .int .i64 d, .int .i64 n] w (RNewPost w (Auc.made s p d n)) := by
  have h := New_f s p d n 40 (by omega)
  cases hm : Auc.made s p d n with
  | none =>
    refine (gavelref07_New.calls 40 s p d n _ _ _ _ _ _ w (h.2 hm)).mono ?_
    rintro e w' ⟨v, rfl, hN, hB⟩
    obtain ⟨A, c, rfl⟩ := Kd.V_slice (Kd.N_V (base' := 0) hN)
    exact ⟨Fr.of_below hB, A, c, rfl⟩
  | some a =>
    obtain ⟨rs, hf, hR⟩ := h.1 a hm
    refine (gavelref07_New.calls 40 s p d n _ _ _ _ _ _ w hf).mono ?_
    rintro e w' ⟨v, rfl, hN, hB⟩
    have hV := Kd.N_V (base' := 0) hN
    obtain ⟨A, c, rfl⟩ := Kd.V_slice hV
    exact ⟨Fr.of_below hB, _, rfl, A, c, rs, rfl, hV, hR⟩

/-- A call of both. -/
def stepOk (a : Auc) (x : Int × Int × Int) : Auc := Auc.stepA a x
theorem step_any (w : World) (p q : Nat) (v : Value) (a : Auc) (x : Int × Int × Int) (ok : Nat → Prop) (hkk : ∀ k, ok k → k ≠ p ∧ k ≠ q) (hA : AucAt w p q a) (hR : RefIs w ok v a) (hok : a.Ok) :
    Calls Try.prog 9 #[.pointer (some ⟨p, 0, none⟩), v, .agg #[.int .i64 x.1, .int .i64 x.2.1, .int .i64 x.2.2]] w (StepPost w p q ok (Auc.stepA a x)) := by
  unfold Auc.stepA
  by_cases h : arnd x.1 3 = 2
  · rw [if_pos h]; exact step_next w p q v a x.1 x.2.1 x.2.2 ok hkk hA hR hok h
  · rw [if_neg h]; exact step_bid w p q v a x.1 x.2.1 x.2.2 ok hkk hA hR hok h

/-- What the loop holds of the world. -/
def PL (w0 : World) (p q bx : Nat) (cu : Auc) (w : World) : Prop :=
  AucAt w p q cu ∧ cu.Ok ∧ Fr nob w0 w ∧ ∃ A n c, RefIs w (fun k => k ≠ p ∧ k ≠ q ∧ k ≠ bx) (.agg #[.int .i64 cu.supply, .int .i64 cu.start, .int .i64 cu.step, .int .i64 cu.state, .slice A n c]) cu ∧
    w.heap[bx]? = some (.cells #[.int .i64 cu.supply, .int .i64 cu.start, .int .i64 cu.step, .int .i64 cu.state, .slice A n c] 30 (0, 0))

set_option maxHeartbeats 6400000 in
set_option maxRecDepth 100000 in
theorem plays_law (l0 l1 l2 l3 : Int) (v : Value) (script : List (Int × Int × Int)) (w : World) (hs : ScrAt w v script) :
    Calls Try.prog 3 #[.agg #[.int .i64 l0, .int .i64 l1, .int .i64 l2, .int .i64 l3], v] w fun e w' => e = .returned (.bool true) ∧ Below w.heap.size w w' := by
  obtain ⟨A, c, rfl, hml, _, _⟩ := id hs
  go_enter Try.func3, Try.ntmps3
  go_wp2_with fail
  obtain ⟨w1, hw1, b1, hF1⟩ := box1 w (.cells #[.int .i64 l0, .int .i64 l1, .int .i64 l2, .int .i64 l3] 22 (0, 0))
  simp only [hw1]
  clear hw1
  refine (new_any w1 l0 l1 l2 l3).mono ?_
  cases hm : Auc.made l0 l1 l2 l3 with
  | none =>
    have Hm := Lib.hid hm
    clear hm
    rintro e w2 ⟨hF2, rfl⟩
    have b2 := hF2.obj b1 id
    have c2 : ∀ o, w2.cell? ⟨w.heap.size, o, none⟩ = #[.int .i64 l0, .int .i64 l1, .int .i64 l2, .int .i64 l3][o]? := cell_obj b2
    go_wp2_with fail
    refine (rnew_any w2 l0 l1 l2 l3).mono ?_
    rw [Hm.out]
    rintro e w3 ⟨hF3, A', c', rfl⟩
    have HF := Lib.hid ((hF1.trans hF2).trans hF3)
    clear hF1 hF2 hF3 c2 b1 b2
    go_wp2_with fail
    refine (awake_any _).mono ?_
    rintro e w4 ⟨rfl, hF4⟩
    have HF4 := Lib.hid ((HF.out.alloc _).trans hF4)
    clear hF4
    go_wp2
    go_ret
    exact ⟨rfl, HF4.out.below (Nat.le_refl _) (fun k _ => id)⟩
  | some a =>
    have Hm := Lib.hid hm
    have hok := (Auc.made_ok hm).1
    clear hm
    rintro e w2 ⟨hF2, p, q, rfl, hp, hq, hA2⟩
    have b2 := hF2.obj b1 id
    have c2 : ∀ o, w2.cell? ⟨w.heap.size, o, none⟩ = #[.int .i64 l0, .int .i64 l1, .int .i64 l2, .int .i64 l3][o]? := cell_obj b2
    go_wp2_with fail
    refine (rnew_any w2 l0 l1 l2 l3).mono ?_
    rw [Hm.out]
    rintro e w3 ⟨hF3, vb, rfl, hR3⟩
    have HR3 := Lib.hid hR3
    obtain ⟨A', c', rs', rfl, _, _⟩ := hR3
    have HA3 := Lib.hid (hA2.fr hF3 id id)
    have HF := Lib.hid ((hF1.trans hF2).trans hF3)
    have hp1 := hF1.size
    have hp2 := lt_obj hA2.hp
    have hq2 := lt_obj hA2.hq
    have hp3 := hF3.size
    clear hF1 hF2 hF3 c2 b1 b2 hA2
    go_wp2_with fail
    have HP : Hid (PL w p q w3.heap.size a (w3.alloc (.cells #[.int .i64 a.supply, .int .i64 a.start, .int .i64 a.step, .int .i64 a.state, .slice A' rs'.length c'] 30 (0, 0)))) := by
      have hF := (Fr.refl nob w3).alloc (.cells #[.int .i64 a.supply, .int .i64 a.start, .int .i64 a.step, .int .i64 a.state, .slice A' rs'.length c'] 30 (0, 0))
      exact ⟨HA3.out.fr hF id id, hok, HF.out.trans hF, A', rs'.length, c', (HR3.out.bound.fr0 hF).mono (fun k hk => ⟨by omega, by omega, by omega⟩), (MapKept.heap_alloc w3 _).1⟩
    have hbx : w.heap.size ≤ w3.heap.size := HF.out.size
    have hbp : ¬ (w3.heap.size = p ∨ w3.heap.size = q) := by omega
    have Hbp := Lib.hid hbp
    clear hbp hp3 HR3 HA3 HF
    generalize w3.heap.size = bx at *
    go_loopg [9] script.length (fun k vi wr => ∃ (i : Nat) (cu : Auc), vi = .int .i64 i ∧ i ≤ 100 ∧ Hid (i + k = script.length) ∧ Hid (PL w p q bx cu wr))
    case atStart => exact ⟨0, a, rfl, by omega, by show 0 + _ = _; omega, HP.out⟩
    case round =>
      obtain ⟨i, cu, rfl, h100, hik, hP⟩ := hrel
      clear HP hok
      obtain ⟨hA, hoc, hF, Ar, n, cr, hR, hB⟩ := hP.out
      clear hP
      have hle : i ≤ script.length := by have := hik.out; omega
      have HF := Lib.hid hF
      have HA := Lib.hid hA
      have HR := Lib.hid hR
      have HB := Lib.hid hB
      have cb : ∀ o, wr.cell? ⟨bx, o, none⟩ = #[.int .i64 cu.supply, .int .i64 cu.start, .int .i64 cu.step, .int .i64 cu.state, .slice Ar n cr][o]? := cell_obj hB
      clear hA hR hB
      by_cases hgo : i < script.length ∧ i < 100
      · obtain ⟨hlt, hlt2⟩ := hgo
        obtain ⟨x, hx⟩ : ∃ x, script[i]? = some x := ⟨_, List.getElem?_eq_getElem hlt⟩
        have hsr := hs.fr hF (fun _ _ h => h)
        obtain ⟨A2, c2, e2, _, _, hc2⟩ := hsr
        obtain ⟨b, o, hA2, hbl, hcl⟩ := hc2 (by intro h; rw [h] at hlt; simp at hlt)
        simp only [Value.slice.injEq, true_and] at e2
        obtain ⟨rfl, rfl⟩ := e2
        subst hA2
        obtain ⟨x1, x2, x3⟩ := hcl i x hx
        have v1 : (i : Int) < (script.length : Int) := by omega
        clear hcl hc2 hx hF
        go_wp2_with fail
        have k0 := cb 0
        have k1 := cb 1
        have k2 := cb 2
        have k3 := cb 3
        have k4 := cb 4
        have HAd := Lib.hid HA.out.drew
        have HRd := Lib.hid HR.out.bound.drew
        have hkk : ∀ k, ((k ≠ p ∧ k ≠ q ∧ k ≠ bx) ∧ k < wr.heap.size) → k ≠ p ∧ k ≠ q := fun k h => ⟨h.1.1, h.1.2.1⟩
        have Hkk := Lib.hid hkk
        clear hkk cb
        have hbr : b < wr.heap.size := by have := HF.out.size; omega
        have hbw : b < w.heap.size := by
          obtain ⟨A3, c5, e3, _, _, hc3⟩ := hs
          obtain ⟨b3, o3, hA3, hbl3, _⟩ := hc3 (by intro h; rw [h] at hlt; simp at hlt)
          rw [hA3] at e3
          simp only [Value.slice.injEq, Option.some.injEq, Addr.mk.injEq] at e3
          omega
        have hnb : ¬ (b = p ∨ b = q) := by omega
        have Hnb := Lib.hid hnb
        clear hnb
        have hlb := lt_obj HB.out
        obtain ⟨wz, hwz, hz, hFz⟩ := box1 wr (.cells #[.int .i64 0, .int .i64 0, .int .i64 0, .int .i64 0, .slice none 0 0] 30 (0, 0))
        have HAz : Hid (AucAt wz.drew p q cu) := (HA.out.fr hFz id id).drew
        have HRz : Hid (RefIs wz.drew (fun k => (k ≠ p ∧ k ≠ q ∧ k ≠ bx) ∧ k < wr.heap.size) _ cu) := (HR.out.bound.fr0 hFz).drew
        have hwzs : wz.heap.size = wr.heap.size + 1 := by rw [← hwz]; show (wr.heap.push _).size = _; simp
        have Hz := Lib.hid hz
        have HFz := Lib.hid hFz
        have hlbz : bx < wz.heap.size := Nat.lt_of_lt_of_le hlb hFz.size
        have hbrz : b < wz.heap.size := Nat.lt_of_lt_of_le hbr hFz.size
        have z0 := (hFz.cell (p := ⟨bx, 0, none⟩) hlb id).trans k0
        have z1 := (hFz.cell (p := ⟨bx, 1, none⟩) hlb id).trans k1
        have z2 := (hFz.cell (p := ⟨bx, 2, none⟩) hlb id).trans k2
        have z3 := (hFz.cell (p := ⟨bx, 3, none⟩) hlb id).trans k3
        have z4 := (hFz.cell (p := ⟨bx, 4, none⟩) hlb id).trans k4
        have y1 := (hFz.cell (p := ⟨b, o + i * 3, none⟩) hbr id).trans x1
        have y2 := (hFz.cell (p := ⟨b, o + i * 3 + 1, none⟩) hbr id).trans x2
        have y3 := (hFz.cell (p := ⟨b, o + i * 3 + 2, none⟩) hbr id).trans x3
        have hwp := lt_obj HA.out.hp
        have hwq := lt_obj HA.out.hq
        have hnz : ¬ (wr.heap.size = p ∨ wr.heap.size = q) := by omega
        clear hz hFz
        subst hwz
        have hoc' := Auc.stepA_ok hoc x
        have hps : w.heap.size ≤ p := by omega
        have hqs : w.heap.size ≤ q := by omega
        have HC : Hid (∀ (W0 w5 W : World) (v : Value), (W0 = wr.drew ∨ W0 = (wr.alloc (.cells #[.int .i64 0, .int .i64 0, .int .i64 0, .int .i64 0, .slice none 0 0] 30 (0, 0))).drew) → AucAt w5 p q (Auc.stepA cu x) →
            RefIs w5 (fun k => ((k ≠ p ∧ k ≠ q ∧ k ≠ bx) ∧ k < wr.heap.size) ∨ W0.heap.size ≤ k) v (Auc.stepA cu x) → Fr (fun k => k = p ∨ k = q) W0 w5 →
            ((W0 = wr.drew ∧ Fr (fun k => k = bx) w5 W) ∨ (W0.heap.size = wr.heap.size + 1 ∧ Fr (fun k => k = bx ∨ k = wr.heap.size) w5 W)) →
            AucAt W p q (Auc.stepA cu x) ∧ RefIs W (fun k => k ≠ p ∧ k ≠ q ∧ k ≠ bx) v (Auc.stepA cu x) ∧ Fr nob w W) := by
          show ∀ (W0 w5 W : World) (v : Value), _
          intro W0 w5 W v hW0 h1 h2 h3 h4
          have hF0 : Fr nob w W0 := by
            rcases hW0 with rfl | rfl
            · exact HF.out.drew
            · exact (HF.out.alloc _).drew
          have hF5 : Fr nob w w5 := hF0.trans' h3 (fun k hk h => by omega)
          have hpb : p ≠ bx := by have := Hbp.out; omega
          have hqb : q ≠ bx := by have := Hbp.out; omega
          rcases h4 with ⟨h4, h5⟩ | ⟨h4, h5⟩
          · subst h4
            refine ⟨h1.fr h5 hpb hqb, (h2.fr h5 (fun k hk => ?_)).mono (fun k hk => ?_), hF5.trans' h5 (fun k hk h => by omega)⟩
            · rcases hk with hk | hk
              · exact hk.1.2.2
              · have : wr.drew.heap.size = wr.heap.size := rfl
                omega
            · rcases hk with hk | hk
              · exact hk.1
              · have : wr.drew.heap.size = wr.heap.size := rfl
                exact ⟨by omega, by omega, by omega⟩
          · refine ⟨h1.fr h5 (by omega) (by omega), (h2.fr h5 (fun k hk => ?_)).mono (fun k hk => ?_), hF5.trans' h5 (fun k hk h => by have := HF.out.size; omega)⟩
            · rcases hk with hk | hk
              · have := hk.1.2.2; omega
              · omega
            · rcases hk with hk | hk
              · exact hk.1
              · exact ⟨by omega, by omega, by omega⟩
        go_region_with
          (first
            | (go_at_call 9; ((with_reducible refine (step_any wr.drew p q _ cu x _ Hkk.out HAd.out HRd.out hoc).mono ?_); rintro e w5 ⟨v', rfl, hR5, hA5, hF5⟩; (have e5 := hF5.obj (w := wr.drew) HB.out Hbp.out); (have cb5 : ∀ o, w5.cell? ⟨bx, o, none⟩ = #[.int .i64 cu.supply, .int .i64 cu.start, .int .i64 cu.step, .int .i64 cu.state, .slice Ar n cr][o]? := cell_obj e5); (have fb5 : ∀ o, w5.frozen? ⟨bx, o, none⟩ = false := frozen_obj e5); (have lb5 := lt_obj e5); (obtain ⟨A5, c5, rs5, rfl, hV5, hRd5⟩ := id hR5); (have E5 := Lib.hid e5); (have HCa := Lib.hid (fun W hW => HC.out wr.drew w5 W _ (.inl rfl) hA5 hR5 hF5 (.inl ⟨rfl, hW⟩))); clear e5 hR5 hA5 hF5 hV5 hRd5))
            | (go_at_call 9; ((with_reducible refine (step_any _ p q _ cu x _ Hkk.out HAz.out HRz.out hoc).mono ?_); rintro e w5 ⟨v', rfl, hR5, hA5, hF5⟩; (have t5 := hF5.obj Hz.out hnz); (have ct : ∀ o, w5.cell? ⟨wr.heap.size, o, none⟩ = #[.int .i64 0, .int .i64 0, .int .i64 0, .int .i64 0, .slice none 0 0][o]? := cell_obj t5); (have ft : ∀ o, w5.frozen? ⟨wr.heap.size, o, none⟩ = false := frozen_obj t5); (have lt5 := lt_obj t5); (have T5 := Lib.hid t5); clear t5; (have e5 := hF5.obj (HFz.out.obj HB.out id) Hbp.out); (have cb5 : ∀ o, w5.cell? ⟨bx, o, none⟩ = #[.int .i64 cu.supply, .int .i64 cu.start, .int .i64 cu.step, .int .i64 cu.state, .slice Ar n cr][o]? := cell_obj e5); (have fb5 : ∀ o, w5.frozen? ⟨bx, o, none⟩ = false := frozen_obj e5); (have lb5 := lt_obj e5); (obtain ⟨A5, c5, rs5, rfl, hV5, hRd5⟩ := id hR5); (have E5 := Lib.hid e5); (have HCb := Lib.hid (fun W hW => HC.out _ w5 W _ (.inr rfl) hA5 hR5 hF5 (.inr ⟨hwzs, hW⟩))); clear e5 hR5 hA5 hF5 hV5 hRd5)))
        all_goals
          go_wp2_with fail
        all_goals first
          | (have X5 := HCa.out _ ((set5_fr' (Fr.refl (fun k => k = bx) w5) (b := bx) (fun _ => rfl) (.int .i64 (Auc.stepA cu x).supply) (.int .i64 (Auc.stepA cu x).start) (.int .i64 (Auc.stepA cu x).step) (.int .i64 (Auc.stepA cu x).state) (.slice A5 rs5.length c5)).alloc (.cells #[.int .i64 (Auc.stepA cu x).supply, .int .i64 (Auc.stepA cu x).start, .int .i64 (Auc.stepA cu x).step, .int .i64 (Auc.stepA cu x).state, .slice A5 rs5.length c5] 30 (0, 0)))
             have B5 := ((Fr.refl nob _).alloc (.cells #[.int .i64 (Auc.stepA cu x).supply, .int .i64 (Auc.stepA cu x).start, .int .i64 (Auc.stepA cu x).step, .int .i64 (Auc.stepA cu x).state, .slice A5 rs5.length c5] 30 (0, 0))).obj (set5_obj' E5.out (.int .i64 (Auc.stepA cu x).supply) (.int .i64 (Auc.stepA cu x).start) (.int .i64 (Auc.stepA cu x).step) (.int .i64 (Auc.stepA cu x).state) (.slice A5 rs5.length c5)) id
             clear HCa E5
             (with_reducible refine (like_any _ p q _ (Auc.stepA cu x) X5.1 (X5.2.1.mono (fun k h => by omega)) hoc').mono ?_)
             rintro e w7 ⟨rfl, hF7⟩
             have HP7 : Hid (PL w p q bx (Auc.stepA cu x) w7) := ⟨X5.1.fr hF7 id id, hoc', X5.2.2.trans hF7, A5, rs5.length, c5, X5.2.1.fr0 hF7, hF7.obj B5 id⟩
             clear X5 B5 hF7
             go_wp2
             go_roundg (gk - 1)
             case measure => have := hik.out; omega
             case rel => exact ⟨i + 1, Auc.stepA cu x, by go_num, by omega, by have := hik.out; show i + 1 + (gk - 1) = _; omega, HP7.out⟩)
          | (have X5 := HCb.out _ (set5_fr' (set5_fr' (Fr.refl (fun k => k = bx ∨ k = wr.heap.size) w5) (b := wr.heap.size) (fun _ => .inr rfl) (.int .i64 (Auc.stepA cu x).supply) (.int .i64 (Auc.stepA cu x).start) (.int .i64 (Auc.stepA cu x).step) (.int .i64 (Auc.stepA cu x).state) (.slice A5 rs5.length c5)) (b := bx) (fun _ => .inl rfl) (.int .i64 (Auc.stepA cu x).supply) (.int .i64 (Auc.stepA cu x).start) (.int .i64 (Auc.stepA cu x).step) (.int .i64 (Auc.stepA cu x).state) (.slice A5 rs5.length c5))
             have B5 := set5_obj' ((set5_fr' (Fr.refl (fun k => k = wr.heap.size) w5) (b := wr.heap.size) (fun _ => rfl) (.int .i64 (Auc.stepA cu x).supply) (.int .i64 (Auc.stepA cu x).start) (.int .i64 (Auc.stepA cu x).step) (.int .i64 (Auc.stepA cu x).state) (.slice A5 rs5.length c5)).obj E5.out (by omega)) (.int .i64 (Auc.stepA cu x).supply) (.int .i64 (Auc.stepA cu x).start) (.int .i64 (Auc.stepA cu x).step) (.int .i64 (Auc.stepA cu x).state) (.slice A5 rs5.length c5)
             clear HCb E5
             (with_reducible refine (like_any _ p q _ (Auc.stepA cu x) X5.1 (X5.2.1.mono (fun k h => by omega)) hoc').mono ?_)
             rintro e w7 ⟨rfl, hF7⟩
             have HP7 : Hid (PL w p q bx (Auc.stepA cu x) w7) := ⟨X5.1.fr hF7 id id, hoc', X5.2.2.trans hF7, A5, rs5.length, c5, X5.2.1.fr0 hF7, hF7.obj B5 id⟩
             clear X5 B5 hF7
             go_wp2
             go_roundg (gk - 1)
             case measure => have := hik.out; omega
             case rel => exact ⟨i + 1, Auc.stepA cu x, by go_num, by omega, by have := hik.out; show i + 1 + (gk - 1) = _; omega, HP7.out⟩)
      · by_cases hlt : i < script.length
        · have h100' : (100 : Int) ≤ (i : Int) := by omega
          clear hgo
          go_wp2_with fail
          (with_reducible refine (like_any wr p q _ cu HA.out (HR.out.mono (fun k h => by omega)) hoc).mono ?_)
          rintro e w7 ⟨rfl, hF7⟩
          have HF7 := Lib.hid (HF.out.trans hF7)
          clear hF7 cb hF
          go_wp2_with fail
          refine (awake_any w7).mono ?_
          rintro e w8 ⟨rfl, hF8⟩
          have HF8 := Lib.hid (HF7.out.trans hF8)
          clear hF8
          go_wp2
          go_ret
          exact ⟨rfl, HF8.out.below (Nat.le_refl _) (fun k _ => id)⟩
        · clear hgo
          go_wp2_with fail
          (with_reducible refine (like_any wr p q _ cu HA.out (HR.out.mono (fun k h => by omega)) hoc).mono ?_)
          rintro e w7 ⟨rfl, hF7⟩
          have HF7 := Lib.hid (HF.out.trans hF7)
          clear hF7 cb hF
          go_wp2_with fail
          refine (awake_any w7).mono ?_
          rintro e w8 ⟨rfl, hF8⟩
          have HF8 := Lib.hid (HF7.out.trans hF8)
          clear hF8
          go_wp2
          go_ret
          exact ⟨rfl, HF8.out.below (Nat.le_refl _) (fun k _ => id)⟩
end Go.Proofs.Ytpkongocabnciaa
