/- The walk of clock.Shares. -/
import Derived.Test.YtpkongocabnciaaClk2
namespace Go.Proofs.Ytpkongocabnciaa
open Go.RowKit
set_option linter.unusedVariables false
set_option linter.unusedSimpArgs false

theorem Try.infoInt : (Try.prog.info? 3).map (fun i => (i.zero, i.size, i.bytes)) = some (some (.int .i64 0), 1, 8) := by kernel_rfl

theorem sum_take (l : List Int) (i : Nat) (x : Int) (h : l[i]? = some x) : (l.take (i + 1)).sum = (l.take i).sum + x := by
  rw [List.take_add_one, h]; simp

set_option maxHeartbeats 1600000 in
theorem shares_any (w : World) (n : Int) (v : Value) (gaps : List Int) (hv : w.ownsRow 0 3 1 v gaps.length (ints gaps)) (hg : ∀ g ∈ gaps, 0 ≤ g ∧ g ≤ 1048576) (hl : gaps.length ≤ 16) (hl0 : 0 < gaps.length)
    (hn0 : 0 ≤ n) (hn1 : n ≤ 1048576) (hs : n ≤ gaps.sum) :
    Calls Try.prog 39 #[.int .i64 n, v] w fun e w' => ∃ k, e = .returned (.tuple #[.slice (some ⟨k, 0, none⟩) gaps.length gaps.length, .int .i64 0]) ∧ w.heap.size ≤ k ∧ IntRow w' k (Auc.shares n gaps) ∧ Fr nob w w' := by
  obtain ⟨i0, hi, hz0, hz1, hz2⟩ := info_parts Try.infoInt
  obtain ⟨g, c, rfl⟩ := ownsRow_some hv hl0
  go_enter Try.func39, Try.ntmps39
  go_wp2
  go_loopg [6, 17] gaps.length (fun k vs vi wr => ∃ (i : Nat) (s : Int), vs = .int .i64 s ∧ vi = .int .i64 i ∧ Hid (i + k = gaps.length) ∧ Hid (s = (gaps.take i).sum) ∧ 0 ≤ s ∧ s ≤ 1048576 * i ∧ w = wr)
  case atStart => exact ⟨0, 0, rfl, rfl, by show 0 + gaps.length = _; omega, rfl, by omega, by omega, rfl⟩
  case round =>
    obtain ⟨i, s, rfl, rfl, hik, hsm, hs0, hs1, rfl⟩ := hrel
    by_cases hlt : i < gaps.length
    · obtain ⟨x, hx⟩ : ∃ x, gaps[i]? = some x := ⟨_, List.getElem?_eq_getElem hlt⟩
      have hc := own_get hv (ints_get _ _ _ hx)
      obtain ⟨hx0, hx1⟩ := hg x (List.mem_of_getElem? hx)
      have hst := Lib.hid (sum_take gaps i x hx)
      clear hx
      go_wp2
      go_roundg (gk - 1)
      case measure => have := hik.out; omega
      case rel => exact ⟨i + 1, s + x, rfl, by go_num, by have := hik.out; show i + 1 + (gk - 1) = _; omega, by show s + x = _; rw [hst.out, hsm.out], by omega, by omega, rfl⟩
    · have hse : s = gaps.sum := by rw [hsm.out, List.take_of_length_le (by omega)]
      have hsn : n ≤ s := by omega
      have Hse := Lib.hid hse
      clear hse hs
      go_wp2_with (first | (at_make; go_loud (refine wpList_make_full _ rfl _ _ 46 rfl 0 3 i0 (.int .i64 0) 1 Try.underlying46 hi hz0 hz1 .i64 .i64 _ _ gaps.length rfl rfl rfl rfl (by rw [hz2]; omega) (by unfold maxLen; omega) (Nat.zero_le _) ?_)))
      intro w1 hown1 hgr
      have hrow : IntRow w1 w.heap.size (List.replicate gaps.length 0) := by
        have h := ownsRow_full hown1
        rw [madeCells_ints] at h
        exact h
      have hF1 : Fr nob w w1 := (Fr.refl nob w).grown hgr (fun k hk h => by cases h)
      have hv1 := ownsRow_fr hv hF1 (fun k _ => id)
      have hgw : g ≠ w.heap.size := by have := (World.ownsRow.lt hv g rfl).2; omega
      have hss : Hid (s = gaps.sum ∧ n ≤ s) := ⟨Hse.out, hsn⟩
      have hss1 : s ≤ 16777216 := by have := hik.out; omega
      clear hown1 hgr hv hsn hs1 Hse hsm hik
      go_wp2
      go_loopg [10, 53] gaps.length (fun k vl vi wr => ∃ (i : Nat) (left : Int) (done : List Int), vl = .int .i64 left ∧ vi = .int .i64 i ∧ Hid (i + k = gaps.length) ∧ Hid (done.length = i) ∧ Hid (done ++ (gaps.drop i).map (Auc.quotOf n s) = gaps.map (Auc.quotOf n s)) ∧ Hid (left = n - done.sum) ∧
        Hid (IntRow wr w.heap.size (done ++ List.replicate (gaps.length - i) 0)) ∧ Hid (Fr nob w wr) ∧ Hid (wr.ownsRow 0 3 1 (.slice (some ⟨g, 0, none⟩) gaps.length c) gaps.length (ints gaps)) ∧ -1099511627776 * i ≤ left ∧ left ≤ n)
      case atStart => exact ⟨0, n, [], rfl, rfl, by show 0 + gaps.length = _; omega, rfl, rfl, by show n = n - 0; omega, hrow, hF1, hv1, by omega, by omega⟩
      case round =>
        obtain ⟨i, left, done, rfl, rfl, hik, hdl, hdd, hlf, hrw, hFr, hvr, hl1, hl2⟩ := hrel
        clear hrow hF1 hv1
        by_cases hlt : i < gaps.length
        · obtain ⟨x, hx⟩ : ∃ x, gaps[i]? = some x := ⟨_, List.getElem?_eq_getElem hlt⟩
          have hc := own_get hvr.out (ints_get _ _ _ hx)
          obtain ⟨hx0, hx1⟩ := hg x (List.mem_of_getElem? hx)
          have hq := hrw.out.cell (i := i) (x := 0) (by have := hdl.out; rw [List.getElem?_append_right (by omega), List.getElem?_replicate, if_pos (by omega)])
          have fz := hrw.out.frozen i
          have hm0 : 0 ≤ n * x := Int.mul_nonneg hn0 hx0
          have hm1 : n * x ≤ 1048576 * 1048576 := Int.mul_le_mul hn1 hx1 hx0 (by omega)
          have hdrop : Hid ((gaps.drop i) = x :: gaps.drop (i + 1)) := by
            show gaps.drop i = _
            rw [List.drop_eq_getElem_cons hlt]
            rw [List.getElem?_eq_getElem hlt] at hx
            rw [Option.some.inj hx]
          clear hx
          have hlen : Hid ((done ++ List.replicate (gaps.length - i) 0).set i (Auc.quotOf n s x) = (done ++ [Auc.quotOf n s x]) ++ List.replicate (gaps.length - (i + 1)) 0) := by
            show _ = _
            have := hdl.out
            rw [List.set_append_right _ _ (by omega), show i - done.length = 0 by omega, show gaps.length - i = (gaps.length - (i + 1)) + 1 by omega, List.replicate_succ, List.set_cons_zero, List.append_assoc]; rfl
          by_cases hsp : 0 < s
          · have hq0 : 0 ≤ n * x / s := Int.ediv_nonneg hm0 (by omega)
            have hq1 : n * x / s ≤ 1099511627776 := Int.le_trans (Int.ediv_le_self _ hm0) (by omega)
            have hS := Lib.hid (hrw.out.set i (n * x / s))
            have hqo : Hid (Auc.quotOf n s x = n * x / s) := by show Auc.quotOf n s x = _; unfold Auc.quotOf; rw [if_pos hsp]
            go_wp2
            go_roundg (gk - 1)
            case measure => have := hik.out; omega
            case rel =>
              refine ⟨i + 1, left - n * x / s, done ++ [n * x / s], rfl, by go_num, by have := hik.out; show i + 1 + (gk - 1) = _; omega, by have := hdl.out; show (done ++ [_]).length = i + 1; simp; omega, ?_, ?_, ?_, ?_, ?_, by omega, by omega⟩
              · show _ = _
                rw [← hdd.out, hdrop.out, List.map_cons, hqo.out, List.append_assoc]; rfl
              · show left - n * x / s = _
                rw [hlf.out]; simp; omega
              · have h3 := hS.out
                rw [← hqo.out, hlen.out, hqo.out] at h3
                exact h3
              · exact hFr.out.setCell (fun h => by simp at h) _
              · exact ownsRow_setCell hvr.out (own_some hgw) _
          · have hqo : Hid (Auc.quotOf n s x = 0) := by show Auc.quotOf n s x = _; unfold Auc.quotOf; rw [if_neg hsp]
            go_wp2
            go_roundg (gk - 1)
            case measure => have := hik.out; omega
            case rel =>
              refine ⟨i + 1, left, done ++ [0], rfl, by go_num, by have := hik.out; show i + 1 + (gk - 1) = _; omega, by have := hdl.out; show (done ++ [_]).length = i + 1; simp; omega, ?_, ?_, ?_, hFr.out, hvr.out, by omega, by omega⟩
              · show _ = _
                rw [← hdd.out, hdrop.out, List.map_cons, hqo.out, List.append_assoc]; rfl
              · show left = _
                rw [hlf.out]; simp
              · have h3 := hrw.out
                show IntRow wr w.heap.size _
                have e : done ++ List.replicate (gaps.length - i) 0 = (done ++ [0]) ++ List.replicate (gaps.length - (i + 1)) 0 := by
                  rw [show gaps.length - i = (gaps.length - (i + 1)) + 1 by omega, List.replicate_succ, List.append_assoc]; rfl
                rw [← e]; exact h3
        · have hdone : Hid (done = gaps.map (Auc.quotOf n s)) := by
            show _ = _
            rw [← hdd.out, List.drop_eq_nil_of_le (by omega)]; simp
          have hrow2 : IntRow wr w.heap.size done := by
            have h3 := hrw.out
            rw [show gaps.length - i = 0 by have := hik.out; omega] at h3
            simpa using h3
          go_wp2
          have hFin : Hid (Auc.shares n gaps = Auc.give done gaps left) := by
            show Auc.shares n gaps = _
            show Auc.give (gaps.map (Auc.quotOf n gaps.sum)) gaps (n - (gaps.map (Auc.quotOf n gaps.sum)).sum) = _
            rw [← hss.out.1, ← hdone.out, ← hlf.out]
          have hdl2 : Hid (done.length = gaps.length) := by show _ = _; rw [hdone.out, List.length_map]
          have hnn : Hid (∀ o ∈ done, 0 ≤ o) := by
            intro o ho
            rw [hdone.out] at ho
            obtain ⟨x, hx, rfl⟩ := List.mem_map.1 ho
            unfold Auc.quotOf
            split
            · exact Int.ediv_nonneg (Int.mul_nonneg hn0 (hg x hx).1) (by omega)
            · omega
          have hl3 : -17592186044416 ≤ left := by have := hik.out; omega
          have Hvr := hvr
          have HFr := hFr
          clear hl1 hik hdl hdd hlf hrw hdone hFr hvr
          go_loopg [10, 77] gaps.length (fun k vl vi wr => ∃ (i : Nat) (lf : Int) (dn os : List Int), vl = .int .i64 lf ∧ vi = .int .i64 i ∧ Hid (i + k = gaps.length) ∧ Hid (dn.length = i) ∧ Hid (os.length = gaps.length - i) ∧ Hid (dn ++ Auc.give os (gaps.drop i) lf = Auc.give done gaps left) ∧
            Hid (∀ o ∈ os, 0 ≤ o) ∧ Hid (IntRow wr w.heap.size (dn ++ os)) ∧ Hid (Fr nob w wr) ∧ Hid (wr.ownsRow 0 3 1 (.slice (some ⟨g, 0, none⟩) gaps.length c) gaps.length (ints gaps)) ∧ -17592186044416 - i ≤ lf ∧ lf ≤ n)
          case atStart => exact ⟨0, left, [], done, rfl, rfl, by show 0 + gaps.length = _; omega, rfl, by have := hdl2.out; show done.length = _; omega, rfl, hnn, hrow2, HFr, Hvr, by omega, by omega⟩
          case round =>
            rename_i wr' hrel'
            obtain ⟨i, lf, dn, os, rfl, rfl, hik, hdn, hos, hgv, hon, hrw, hFr, hvr, hb1, hb2⟩ := hrel
            have hfin := hFin
            clear hrow2 hFin HFr Hvr hdl2 hnn
            by_cases hlt : i < gaps.length
            · obtain ⟨o, os', rfl⟩ : ∃ o os', os = o :: os' := by
                cases os with
                | nil => have := hos.out; simp at this; omega
                | cons o os' => exact ⟨o, os', rfl⟩
              obtain ⟨x, hx⟩ : ∃ x, gaps[i]? = some x := ⟨_, List.getElem?_eq_getElem hlt⟩
              have hc := own_get hvr.out (ints_get _ _ _ hx)
              obtain ⟨hx0, hx1⟩ := hg x (List.mem_of_getElem? hx)
              have hq := hrw.out.cell (i := i) (x := o) (by have := hdn.out; rw [List.getElem?_append_right (by omega), show i - dn.length = 0 by omega]; rfl)
              have fz := hrw.out.frozen i
              have ho0 : 0 ≤ o := hon.out o (List.mem_cons_self ..)
              have hdrop : Hid ((gaps.drop i) = x :: gaps.drop (i + 1)) := by
                show gaps.drop i = _
                rw [List.drop_eq_getElem_cons hlt]
                rw [List.getElem?_eq_getElem hlt] at hx
                rw [Option.some.inj hx]
              have hik' : Hid (i + 1 + (gk - 1) = gaps.length) := by have := hik.out; show _ = _; omega
              have hos' : Hid (os'.length = gaps.length - (i + 1)) := by have := hos.out; simp at this; show _ = _; omega
              have hon' : Hid (∀ o ∈ os', 0 ≤ o) := fun y hy => hon.out y (List.mem_cons_of_mem _ hy)
              have hmeas : Hid (gk - 1 < gk) := by have := hik.out; show _ < _; omega
              have hset : Hid ((dn ++ o :: os').set i (o + 1) = (dn ++ [o + 1]) ++ os') := by
                have := hdn.out
                show _ = _
                rw [List.set_append_right _ _ (by omega), show i - dn.length = 0 by omega, List.set_cons_zero, List.append_assoc]; rfl
              have hS := Lib.hid (hrw.out.set i (o + 1))
              have happ : Hid (dn ++ o :: os' = (dn ++ [o]) ++ os') := by show _ = _; rw [List.append_assoc]; rfl
              clear hx
              by_cases hp : 0 < lf
              · by_cases hox : o < x
                · have hgs : Hid (Auc.give (o :: os') (x :: gaps.drop (i + 1)) lf = (o + 1) :: Auc.give os' (gaps.drop (i + 1)) (lf - 1)) := by show _ = _; rw [Auc.give, if_pos ⟨hp, hox⟩]
                  go_wp2
                  go_roundg (gk - 1)
                  case measure => exact hmeas.out
                  case rel =>
                    refine ⟨i + 1, lf - 1, dn ++ [o + 1], os', rfl, by go_num, hik', by have := hdn.out; show (dn ++ [_]).length = i + 1; simp; omega, hos', ?_, hon', ?_, hFr.out.setCell (fun h => by simp at h) _, ownsRow_setCell hvr.out (own_some hgw) _, by omega, by omega⟩
                    · show _ = _
                      rw [← hgv.out, hdrop.out, hgs.out, List.append_assoc]; rfl
                    · have h3 := hS.out
                      rw [hset.out] at h3
                      exact h3
                · have hgs : Hid (Auc.give (o :: os') (x :: gaps.drop (i + 1)) lf = o :: Auc.give os' (gaps.drop (i + 1)) lf) := by show _ = _; rw [Auc.give, if_neg (by omega)]
                  go_wp2
                  go_roundg (gk - 1)
                  case measure => exact hmeas.out
                  case rel =>
                    refine ⟨i + 1, lf, dn ++ [o], os', rfl, by go_num, hik', by have := hdn.out; show (dn ++ [_]).length = i + 1; simp; omega, hos', ?_, hon', ?_, hFr, hvr, by omega, by omega⟩
                    · show _ = _
                      rw [← hgv.out, hdrop.out, hgs.out, List.append_assoc]; rfl
                    · have h3 := hrw.out
                      rw [happ.out] at h3
                      exact h3
              · have hgs : Hid (Auc.give (o :: os') (x :: gaps.drop (i + 1)) lf = o :: Auc.give os' (gaps.drop (i + 1)) lf) := by show _ = _; rw [Auc.give, if_neg (by omega)]
                go_wp2
                go_roundg (gk - 1)
                case measure => exact hmeas.out
                case rel =>
                  refine ⟨i + 1, lf, dn ++ [o], os', rfl, by go_num, hik', by have := hdn.out; show (dn ++ [_]).length = i + 1; simp; omega, hos', ?_, hon', ?_, hFr, hvr, by omega, by omega⟩
                  · show _ = _
                    rw [← hgv.out, hdrop.out, hgs.out, List.append_assoc]; rfl
                  · have h3 := hrw.out
                    rw [happ.out] at h3
                    exact h3
            · obtain rfl : os = [] := List.eq_nil_of_length_eq_zero (by have := hos.out; omega)
              go_wp2
              go_ret2
              refine ⟨w.heap.size, rfl, Nat.le_refl _, ?_, hFr.out⟩
              have h3 := hrw.out
              have h4 := hgv.out
              have h5 : Auc.give [] (gaps.drop i) lf = [] := by unfold Auc.give; rfl
              rw [h5] at h4
              rw [List.append_nil] at h3 h4
              rw [hfin.out, ← h4]
              exact h3
end Go.Proofs.Ytpkongocabnciaa
