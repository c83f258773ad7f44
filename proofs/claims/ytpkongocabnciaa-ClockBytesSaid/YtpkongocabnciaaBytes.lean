/- The law ClockBytes: the walk: an auction behind whatever calls comes back from its bytes, and goes on alike. -/
import Derived.Test.YtpkongocabnciaaBeg
import Derived.Test.YtpkongocabnciaaOf
import Derived.Test.YtpkongocabnciaaOfC
import Derived.Test.YtpkongocabnciaaCbyt
import Derived.Test.YtpkongocabnciaaCawk
namespace Go.Proofs.Ytpkongocabnciaa
open Go.RowKit
set_option linter.unusedVariables false
set_option linter.unusedSimpArgs false

theorem sale_len {a : Auc} (hok : a.Ok) : a.sale.2.1.length ≤ 1000000 := by
  have := hok.len1
  unfold Auc.sale
  split
  · simp
  · split
    · simp; omega
    · split
      · simp; omega
      · simp only [Auc.shares_length, List.length_map, List.length_zipWith]; omega

set_option maxHeartbeats 6400000 in
set_option maxRecDepth 100000 in
theorem bytes_law (supply : Int) (v1 v2 : Value) (script more : List (Int × Int × Int)) (w : World) (hs1 : ScrAt w v1 script) (hs2 : ScrAt w v2 more) :
    Calls Try.prog 4 #[.int .i64 supply, v1, v2] w fun e w' => e = .returned (.bool true) ∧ Below w.heap.size w w' := by
  obtain ⟨A, c, rfl, hml, _, _⟩ := id hs2
  go_enter Try.func4, Try.ntmps4
  go_wp2_with fail
  refine (begun_any w supply v1 script hs1).mono ?_
  obtain ⟨a, ha⟩ : ∃ a, Auc.runA (Auc.beg supply) (script.take 100) = a := ⟨_, rfl⟩
  have hok : a.Ok := by rw [← ha]; exact Auc.runA_ok (Auc.beg_ok supply) _
  rw [ha]
  clear ha
  rintro e w1 ⟨p, q, rfl, hp, hq, hA1, hF1⟩
  go_wp2_with fail
  refine (bytes_any w1 p q a hA1 hok).mono ?_
  rintro e w2 ⟨rfl, hF2⟩
  have hA2 := hA1.fr hF2 id id
  go_wp2_with fail
  refine (of_any w2 a.bytes (by have := Auc.bytes_size hok; omega)).mono ?_
  rw [Auc.of_back hok]
  rintro e w3 ⟨hF3, hres⟩
  obtain ⟨p', q', rfl, hp', hq', hB3⟩ := hres
  have hA3 := hA2.fr hF3 id id
  go_wp2_with fail
  refine (bytes_any w3 p' q' a hB3 hok).mono ?_
  rintro e w4 ⟨rfl, hF4⟩
  have hA4 := hA3.fr hF4 id id
  have hB4 := hB3.fr hF4 id id
  go_wp2_with fail
  refine (bytes_any w4 p q a hA4 hok).mono ?_
  rintro e w5 ⟨rfl, hF5⟩
  have hA5 := Lib.hid (hA4.fr hF5 id id)
  have hB5 := Lib.hid (hB4.fr hF5 id id)
  have HF5 := Lib.hid ((((hF1.trans hF2).trans hF3).trans hF4).trans hF5)
  have d1 : p < p' := by have := lt_obj hA2.hp; omega
  have d2 : p < q' := by have := lt_obj hA2.hp; omega
  have d3 : q < p' := by have := lt_obj hA2.hq; omega
  have d4 : q < q' := by have := lt_obj hA2.hq; omega
  clear hA1 hF1 hF2 hA2 hF3 hB3 hA3 hF4 hA4 hB4 hF5 hp' hq'
  go_wp2
  go_loopg [10] more.length (fun k vi wr => ∃ (i : Nat) (cu : Auc), vi = .int .i64 i ∧ i ≤ 20 ∧ Hid (i + k = more.length) ∧ Hid cu.Ok ∧ Hid (AucAt wr p q cu) ∧ Hid (AucAt wr p' q' cu) ∧ Hid (Fr nob w wr))
  case atStart => exact ⟨0, a, rfl, by omega, by show 0 + _ = _; omega, hok, hA5.out, hB5.out, HF5.out⟩
  case round =>
    obtain ⟨i, cu, rfl, h20, hik, hoc, hAr, hBr, hFr⟩ := hrel
    clear hA5 hB5 HF5 hok
    have hle : i ≤ more.length := by have := hik.out; omega
    by_cases hgo : i < more.length ∧ i < 20
    · obtain ⟨hlt, hlt2⟩ := hgo
      obtain ⟨x, hx⟩ : ∃ x, more[i]? = some x := ⟨_, List.getElem?_eq_getElem hlt⟩
      have hsr := hs2.fr hFr.out (fun _ _ h => h)
      obtain ⟨A2, c2, e2, _, _, hc2⟩ := hsr
      obtain ⟨b, o, hA2, hbl, hcl⟩ := hc2 (by intro h; rw [h] at hlt; simp at hlt)
      simp only [Value.slice.injEq, true_and] at e2
      obtain ⟨rfl, rfl⟩ := e2
      subst hA2
      obtain ⟨c1, c3, c4⟩ := hcl i x hx
      have hbw : b < w.heap.size := by
        obtain ⟨A3, c5, e3, _, _, hc3⟩ := hs2
        obtain ⟨b3, o3, hA3, hbl3, _⟩ := hc3 (by intro h; rw [h] at hlt; simp at hlt)
        rw [hA3] at e3
        simp only [Value.slice.injEq, Option.some.injEq, Addr.mk.injEq] at e3
        omega
      have v1 : (i : Int) < (more.length : Int) := by omega
      clear hcl hc2 hx
      by_cases h2 : arnd x.1 3 = 2
      · have Ha := Lib.hid h2
        clear h2
        go_wp2_with fail
        refine (around_any wr x.1 3 (by omega) (by omega)).mono ?_
        rw [Ha.out]
        rintro e w' ⟨rfl, rfl⟩
        go_wp2_with fail
        refine (next_any wr p q cu hAr.out hoc.out).mono ?_
        rintro e w2 ⟨rfl, hA6, hF6⟩
        have hB6 := hBr.out.fr hF6 (by omega) (by omega)
        go_wp2_with fail
        refine (next_any w2 p' q' cu hB6 hoc.out).mono ?_
        rintro e w3 ⟨rfl, hB7, hF7⟩
        have hA7 := hA6.fr hF7 (by omega) (by omega)
        have HF7 := Lib.hid (fr_pq (fr_pq hFr.out hp hq hF6) (by omega) (by omega) hF7)
        clear hF6 hF7
        go_wp2
        go_roundg (gk - 1)
        case measure => have := hik.out; omega
        case rel => exact ⟨i + 1, cu.next.1, by go_num, by omega, by have := hik.out; show i + 1 + (gk - 1) = _; omega, Auc.next_ok hoc.out, hA7, hB7, HF7.out⟩
      · have h2' : (arnd x.1 3 == 2) = false := by simpa using h2
        clear h2
        go_wp2_with fail
        refine (around_any wr x.1 3 (by omega) (by omega)).mono ?_
        rintro e w' ⟨rfl, rfl⟩
        have hAd := hAr.out.drew
        have hBd := hBr.out.drew
        have hbr : b < wr.heap.size := by have := hFr.out.size; omega
        have hnp : ¬ (b = p ∨ b = q) := by omega
        have hnp' : ¬ (b = p' ∨ b = q') := by omega
        have hnn : ¬ (p' = p ∨ p' = q) := by omega
        have hnn' : ¬ (q' = p ∨ q' = q) := by omega
        have Hnp := Lib.hid hnp
        have Hnp' := Lib.hid hnp'
        have Hnn := Lib.hid hnn
        have Hnn' := Lib.hid hnn'
        clear hnp hnp' hnn hnn'
        go_wp2_with fail
        go_region_held3 (fun w' => w'.cell? ⟨b, o + i * 3 + 1, none⟩ = some (.int .i64 x.2.1) ∧ w'.cell? ⟨b, o + i * 3 + 2, none⟩ = some (.int .i64 x.2.2))
          (first | go_keep | exact K4.out | exact K3.out)
          (first
            | (go_at_call 16; ((with_reducible refine (bid_any _ p q cu x.2.1 x.2.2 hAd hoc.out).mono ?_); rintro e w2 ⟨rfl, hA6, hF3⟩; (have K3 := Lib.hid (And.intro ((hF3.cell hbr Hnp.out).trans c3) ((hF3.cell hbr Hnp.out).trans c4)))))
            | (go_at_call 16; ((with_reducible refine (bid_any _ p' q' cu x.2.1 x.2.2 (hBd.fr hF3 Hnn.out Hnn'.out) hoc.out).mono ?_); rintro e w3 ⟨rfl, hB7, hF4⟩; (have K4 := Lib.hid (And.intro ((hF4.cell (Nat.lt_of_lt_of_le hbr hF3.size) Hnp'.out).trans K3.out.1) ((hF4.cell (Nat.lt_of_lt_of_le hbr hF3.size) Hnp'.out).trans K3.out.2))))))
        have hA7 := hA6.fr hF4 (by omega) (by omega)
        have HF7 := Lib.hid (fr_pq (fr_pq hFr.out.drew hp hq hF3) (by omega) (by omega) hF4)
        have Hnx := Lib.hid (Auc.bid_ok hoc.out x.2.1 x.2.2)
        clear hF3 hF4 hA6 K3 K4
        go_wp2
        go_roundg (gk - 1)
        case measure => have := hik.out; omega
        case rel => exact ⟨i + 1, (cu.bid x.2.1 x.2.2).1, by go_num, by omega, by have := hik.out; show i + 1 + (gk - 1) = _; omega, Hnx.out, hA7, hB7, HF7.out⟩
    · have hlen := sale_len hoc.out
      rcases Nat.lt_or_ge i more.length with hl | hl
      · have hl2 : ¬ ((i : Int) < 20) := by omega
        have v1 : (i : Int) < (more.length : Int) := by omega
        clear hgo hl
        go_wp2_with fail
        refine (sale_any _ p q cu hAr.out hoc.out).mono ?_
        rintro e w2 ⟨v, rfl, hv, hF6, _⟩
        have hA6 := hAr.out.fr hF6 id id
        have hB6 := hBr.out.fr hF6 id id
        go_wp2_with fail
        refine (sale_any w2 p' q' cu hB6 hoc.out).mono ?_
        rintro e w3 ⟨u, rfl, hu, hF7, _⟩
        have hA7 := hA6.fr hF7 id id
        have hB7 := hB6.fr hF7 id id
        have hv7 := ownsRow_fr hv hF7 (fun _ _ => id)
        go_wp2_with fail
        refine (numbers_any w3 v u _ _ _ hv7 hu hlen).mono ?_
        rintro e w4 ⟨rfl, hF8⟩
        have hA8 := hA7.fr hF8 id id
        have hB8 := hB7.fr hF8 id id
        go_wp2_with fail
        refine (bytes_any w4 p q cu hA8 hoc.out).mono ?_
        rintro e w5 ⟨rfl, hF9⟩
        have hB9 := hB8.fr hF9 id id
        go_wp2_with fail
        refine (bytes_any w5 p' q' cu hB9 hoc.out).mono ?_
        rintro e w6 ⟨rfl, hF10⟩
        go_wp2_with fail
        refine (awake_any w6).mono ?_
        rintro e w7 ⟨rfl, hF11⟩
        have HF := Lib.hid ((((((hFr.out.trans hF6).trans hF7).trans hF8).trans hF9).trans hF10).trans hF11)
        clear hF6 hF7 hF8 hF9 hF10 hF11 hA6 hB6 hA7 hB7 hA8 hB8 hB9 hv hu hv7
        go_wp2
        go_ret
        exact ⟨rfl, HF.out.below' (fun _ _ h => h)⟩
      · have v1 : ¬ ((i : Int) < (more.length : Int)) := by omega
        clear hgo hl
        go_wp2_with fail
        refine (sale_any _ p q cu hAr.out hoc.out).mono ?_
        rintro e w2 ⟨v, rfl, hv, hF6, _⟩
        have hA6 := hAr.out.fr hF6 id id
        have hB6 := hBr.out.fr hF6 id id
        go_wp2_with fail
        refine (sale_any w2 p' q' cu hB6 hoc.out).mono ?_
        rintro e w3 ⟨u, rfl, hu, hF7, _⟩
        have hA7 := hA6.fr hF7 id id
        have hB7 := hB6.fr hF7 id id
        have hv7 := ownsRow_fr hv hF7 (fun _ _ => id)
        go_wp2_with fail
        refine (numbers_any w3 v u _ _ _ hv7 hu hlen).mono ?_
        rintro e w4 ⟨rfl, hF8⟩
        have hA8 := hA7.fr hF8 id id
        have hB8 := hB7.fr hF8 id id
        go_wp2_with fail
        refine (bytes_any w4 p q cu hA8 hoc.out).mono ?_
        rintro e w5 ⟨rfl, hF9⟩
        have hB9 := hB8.fr hF9 id id
        go_wp2_with fail
        refine (bytes_any w5 p' q' cu hB9 hoc.out).mono ?_
        rintro e w6 ⟨rfl, hF10⟩
        go_wp2_with fail
        refine (awake_any w6).mono ?_
        rintro e w7 ⟨rfl, hF11⟩
        have HF := Lib.hid ((((((hFr.out.trans hF6).trans hF7).trans hF8).trans hF9).trans hF10).trans hF11)
        clear hF6 hF7 hF8 hF9 hF10 hF11 hA6 hB6 hA7 hB7 hA8 hB8 hB9 hv hu hv7
        go_wp2
        go_ret
        exact ⟨rfl, HF.out.below' (fun _ _ h => h)⟩
end Go.Proofs.Ytpkongocabnciaa
