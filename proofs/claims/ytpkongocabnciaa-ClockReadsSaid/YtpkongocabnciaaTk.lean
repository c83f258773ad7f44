/- The walk of gavelref07.Taken. -/
import Derived.Test.YtpkongocabnciaaTkM
import Derived.Test.YtpkongocabnciaaRInt
import Derived.Test.YtpkongocabnciaaShr
namespace Go.Proofs.Ytpkongocabnciaa
open Go.RowKit
set_option linter.unusedVariables false
set_option linter.unusedSimpArgs false

def TkPost (w : World) (r : Bool) (e : Ending) (w' : World) : Prop := e = .returned (.bool r) ∧ Fr nob w w'
theorem TkPost.mk' {w w' : World} {r b : Bool} (hr : r = b) (h : Fr nob w w') : TkPost w r (.returned (.bool b)) w' := by subst hr; exact ⟨rfl, h⟩
theorem taken_none {s : ByteArray} (h : rdAll 37 s.size (byts s) 0 = none) : Auc.taken s = false := by unfold Auc.taken; rw [h]
theorem taken_some {s : ByteArray} {l : List Int} (h : rdAll 37 s.size (byts s) 0 = some l) : Auc.taken s = decide (Auc.Tk l) := by unfold Auc.taken; rw [h]

set_option maxHeartbeats 25600000 in
set_option maxRecDepth 100000 in
theorem taken_any (w : World) (s : ByteArray) (hs : s.size ≤ 1152921504606846976) :
    Calls Try.prog 19 #[.string s] w (TkPost w (Auc.taken s)) := by
  obtain ⟨i0, hi, hz0, hz1, hz2⟩ := info_parts Try.infoInt
  go_enter Try.func19, Try.ntmps19
  go_wp2
  go_loopg [3, 4] s.size (fun k vl va wr => ∃ (a : Nat) (done : List Int), va = .int .i64 a ∧ a ≤ s.size ∧ Hid (s.size - a ≤ k) ∧ Hid (rdAll 37 s.size (byts s) 0 = (rdAll 37 k ((byts s).drop a) done.length).map (done ++ ·)) ∧ done.length ≤ 38 ∧ Hid (∀ n ∈ done, 0 ≤ n ∧ n ≤ 9007199254740992) ∧
    Hid (wr.ownsRow 0 3 1 vl done.length (ints done)) ∧ Hid (∀ k, vl.ownBlock = some k → w.heap.size ≤ k) ∧ Hid (Fr nob w wr))
  case atStart => exact ⟨0, [], rfl, by omega, by show s.size - 0 ≤ s.size; omega, by show _ = Option.map _ _; simp, by simp, by simp [Hid], World.ownsRow_nil _ _ _ _, (fun k hk => by cases hk), Fr.refl _ _⟩
  case round =>
    obtain ⟨a, done, rfl, has, hk, hrd, hdl, hdn, hown, hblk, hFr⟩ := hrel
    obtain ⟨A, c, rfl⟩ := ownsRow_shape hown.out
    by_cases hlt : a < s.size
    · obtain ⟨x, hx⟩ : ∃ x, (s[a]'hlt).toNat = x := ⟨_, rfl⟩
      have hdp : (byts s).drop a = x :: (byts s).drop (a + 1) := by rw [byts_drop s a hlt, hx]
      obtain ⟨f, rfl⟩ : ∃ f, gk = f + 1 := ⟨gk - 1, by have := hk.out; omega⟩
      cases hr : rdNum ((byts s).drop a) 0 0 with
      | error e =>
        have hg : Hid (getInt s (a : Int) = (0, 0, e)) := by show getInt s a = _; unfold getInt; rw [if_pos ⟨by omega, by omega⟩, Int.toNat_natCast, hr]
        have hno : Hid (Auc.taken s = false) := by
          refine taken_none ?_
          rw [hrd.out]
          rw [hdp] at hr ⊢
          rw [rdAll_err hr]; rfl
        have hen : e = 10 ∨ e = 11 := rdNum_err _ _ _ _ hr
        clear hr hdp hx
        rcases hen with rfl | rfl
        all_goals
          go_wp2_with (first | (go_at_call 40; refine (rint_any _ s a hs has).mono ?_; rintro e w2 ⟨he, rfl⟩; rw [hg.out] at he; subst he))
          go_ret
          exact TkPost.mk' hno.out hFr.out
      | ok q =>
        obtain ⟨n, r⟩ := q
        obtain ⟨k, hk1, hk2⟩ := rdNum_drop _ _ _ _ _ hr
        have hn1 := rdNum_le _ _ _ _ _ hr
        have hrl : r.length = s.size - (a + (k + 1)) := by rw [hk1, List.length_drop, List.length_drop, byts_length]; omega
        have hk3 : a + (k + 1) ≤ s.size := by rw [List.length_drop, byts_length] at hk2; omega
        have hg : Hid (getInt s (a : Int) = ((n : Int), ((a + (k + 1) : Nat) : Int), 0)) := by
          show getInt s a = _; unfold getInt; rw [if_pos ⟨by omega, by omega⟩, Int.toNat_natCast, hr]
          show ((n : Int), ((s.size - r.length : Nat) : Int), (0 : Int)) = _
          rw [hrl, show s.size - (s.size - (a + (k + 1))) = a + (k + 1) by omega]
        by_cases hfull : 37 < done.length
        · have hno : Hid (Auc.taken s = false) := by
            refine taken_none ?_
            rw [hrd.out]
            rw [hdp] at hr ⊢
            rw [rdAll_full hr hfull]; rfl
          have hf2 : (38 : Int) ≤ (done.length : Int) := by omega
          clear hr hdp hx hk1 hk2 hrl
          go_wp2_with (first | (go_at_call 40; refine (rint_any _ s a hs has).mono ?_; rintro e w2 ⟨he, rfl⟩; rw [hg.out] at he; subst he))
          go_ret
          exact TkPost.mk' hno.out hFr.out
        · have hgo : Hid (rdAll 37 s.size (byts s) 0 = (rdAll 37 f ((byts s).drop (a + (k + 1))) (done ++ [(n : Int)]).length).map ((done ++ [(n : Int)]) ++ ·)) := by
            show _ = _
            rw [hrd.out]
            rw [List.drop_drop] at hk1
            rw [hdp] at hr
            rw [hdp, rdAll_go hr hfull, hk1, Option.map_map, List.length_append]
            congr 1
            funext y
            simp
          have hf2 : (done.length : Int) < 38 := by omega
          clear hr hdp hx hk1 hk2 hrl
          go_wp2_with (first | (go_at_call 40; refine (rint_any _ s a hs has).mono ?_; rintro e w2 ⟨he, rfl⟩; rw [hg.out] at he; subst he) | (at_builtin; go_loud (refine wpList_append_one rfl (.tmp 32) (.tmp 34) 46 rfl 3 i0 (.int .i64 0) 1 8 Try.underlying46 hi hz0 hz1 hz2 rfl (by decide) (by decide) _ _ _ _ rfl hown.out _ rfl rfl (by intro u hu; simp at hu; subst hu; rfl) (by omega) ?_)))
          intro g c' w3 hown3 hgb hgr
          have hgw : w.heap.size ≤ g := by
            rcases hgb with h | h
            · exact hblk.out g h
            · have := hFr.out.size; omega
          have HF := Lib.hid (hFr.out.grown hgr (fun k hk e => by have := hblk.out k e; omega))
          go_wp2
          go_roundg f
          case measure => exact Nat.lt_succ_self f
          case rel =>
            refine ⟨a + (k + 1), done ++ [(n : Int)], rfl, hk3, by have := hk.out; show s.size - (a + (k + 1)) ≤ f; omega, hgo, by simp; omega, ?_, ?_, own_some hgw, HF.out⟩
            · intro y hy
              rcases List.mem_append.1 hy with hy | hy
              · exact hdn.out y hy
              · rw [List.mem_singleton.1 hy]; omega
            · show w3.ownsRow _ _ _ _ _ _
              rw [List.length_append, ints_append]
              exact hown3
    · have hdone : Hid (rdAll 37 s.size (byts s) 0 = some done) := by
        show _ = _
        rw [hrd.out, List.drop_eq_nil_of_le (by rw [byts_length]; omega), rdAll_nil]; simp
      have htk := Lib.hid (taken_some hdone.out)
      clear hrd hdone
      by_cases h8 : done.length < 8
      · have hno : Hid (Auc.taken s = false) := by show _ = _; rw [htk.out]; exact decide_eq_false (fun h => by have := h.1.1; omega)
        go_wp2
        go_ret
        exact TkPost.mk' hno.out hFr.out
      · obtain ⟨g, c', e⟩ := ownsRow_some hown.out (by omega)
        simp only [Value.slice.injEq, true_and] at e
        obtain ⟨rfl, rfl⟩ := e
        have hcell : ∀ i, i < done.length → wr.cell? ⟨g, i, none⟩ = some (.int .i64 (Auc.nth done i)) := by
          intro i hi
          refine own_get hown.out (ints_get _ _ _ ?_)
          unfold Auc.nth
          rw [List.getD_eq_getElem?_getD, List.getElem?_eq_getElem hi]; rfl
        have hnn : ∀ i, 0 ≤ Auc.nth done i ∧ Auc.nth done i ≤ 9007199254740992 := by
          intro i
          unfold Auc.nth
          rw [List.getD_eq_getElem?_getD]
          cases hg : done[i]? with
          | none => simp
          | some x => exact hdn.out x (List.mem_of_getElem? hg)
        have c0 := hcell 0 (by omega)
        have c1 := hcell 1 (by omega)
        have c2 := hcell 2 (by omega)
        have c3 := hcell 3 (by omega)
        have c4 := hcell 4 (by omega)
        have c5 := hcell 5 (by omega)
        obtain ⟨n5a, n5b⟩ := hnn 5
        have Hc := Lib.hid hcell
        have Hnn := Lib.hid hnn
        have h00 : 0 < done.length := by omega
        have h10 : (1 : Int) < (done.length : Int) := by omega
        have h20 : (2 : Int) < (done.length : Int) := by omega
        have h30 : (3 : Int) < (done.length : Int) := by omega
        have h40 : (4 : Int) < (done.length : Int) := by omega
        have h50 : (5 : Int) < (done.length : Int) := by omega
        have h8' : (8 : Int) ≤ (done.length : Int) := by omega
        clear hcell hnn
        by_cases t1 : Auc.T1 done
        · have T1 := Lib.hid t1
          obtain ⟨_, q5, q6⟩ := t1
          have q6' : ((done.length : Int) != 6 + 2 * Auc.nth done 5) = false := by simp; omega
          obtain ⟨n0a, n0b⟩ := Hnn.out 0
          obtain ⟨n1a, n1b⟩ := Hnn.out 1
          obtain ⟨n2a, n2b⟩ := Hnn.out 2
          obtain ⟨n3a, n3b⟩ := Hnn.out 3
          obtain ⟨n4a, n4b⟩ := Hnn.out 4
          have Q6 := Lib.hid q6
          clear q6
          by_cases t2 : Auc.T2 done
          · have T2 := Lib.hid t2
            obtain ⟨r1, r2, r3, r4, r5, r6, r7⟩ := t2
            have hd1 : (1099511627776 - Auc.nth done 1) / Auc.nth done 2 ≤ 1099511627776 := Int.le_trans (Int.ediv_le_self _ (by omega)) (by omega)
            have hd0 : 0 ≤ (1099511627776 - Auc.nth done 1) / Auc.nth done 2 := Int.ediv_nonneg (by omega) (by omega)
            have e1 : IntKind.i64.wrap (Auc.nth done 3 - 1) = Auc.nth done 3 - 1 := by rw [IntKind.wrap_i64]; omega
            have e2 : IntKind.i64.wrap (1099511627776 - Auc.nth done 1) = 1099511627776 - Auc.nth done 1 := by rw [IntKind.wrap_i64]; omega
            have e3 : IntKind.i64.wrap (Int.tdiv (1099511627776 - Auc.nth done 1) (Auc.nth done 2)) = (1099511627776 - Auc.nth done 1) / Auc.nth done 2 := by
              rw [Int.tdiv_eq_ediv_of_nonneg (by omega), IntKind.wrap_i64]; omega
            have hs0 : ¬ Auc.nth done 2 = 0 := by omega
            have hs0' : (Auc.nth done 2 == 0) = false := by simpa using hs0
            by_cases t3 : Auc.T3 done
            · have T3 := Lib.hid t3
              have h3' : decide ((1099511627776 - Auc.nth done 1) / Auc.nth done 2 < Auc.nth done 3 - 1) = false := by unfold Auc.T3 at t3; simp; omega
              have hpr0 : 0 ≤ (Auc.nth done 3 - 1) * Auc.nth done 2 := Int.mul_nonneg (by omega) (by omega)
              have hpr1 : (Auc.nth done 3 - 1) * Auc.nth done 2 ≤ 1099511627776 - Auc.nth done 1 := by
                have h1 : (Auc.nth done 3 - 1) * Auc.nth done 2 ≤ (1099511627776 - Auc.nth done 1) / Auc.nth done 2 * Auc.nth done 2 := Int.mul_le_mul_of_nonneg_right t3 (by omega)
                have h2 := Int.ediv_mul_le (1099511627776 - Auc.nth done 1) hs0
                omega
              have e4 : IntKind.i64.wrap ((Auc.nth done 3 - 1) * Auc.nth done 2) = (Auc.nth done 3 - 1) * Auc.nth done 2 := by rw [IntKind.wrap_i64]; omega
              have e5 : IntKind.i64.wrap (Auc.nth done 1 + (Auc.nth done 3 - 1) * Auc.nth done 2) = Auc.nth done 1 + (Auc.nth done 3 - 1) * Auc.nth done 2 := by rw [IntKind.wrap_i64]; omega
              clear t3 hd0 hd1
              go_wp2
              go_quiet (fail)
              go_wp2
              go_quiet (fail)
              clear e1 e2 e3 e4 h3' hs0 hs0'
              obtain ⟨P, hP⟩ : ∃ P, Auc.nth done 1 + (Auc.nth done 3 - 1) * Auc.nth done 2 = P := ⟨_, rfl⟩
              have HP := Lib.hid hP
              have hPb : P ≤ 1099511627776 ∧ 0 ≤ P := by omega
              obtain ⟨hPb1, hPb2⟩ := hPb
              rw [hP] at e5 ⊢
              clear hP hpr0 hpr1 e5
              obtain ⟨kk, hkk⟩ : ∃ kk : Nat, Auc.nth done 5 = kk := ⟨(Auc.nth done 5).toNat, by omega⟩
              have Hkk := Lib.hid hkk
              have hdk : Hid (done.length = 6 + 2 * kk) := by have := Q6.out; show _ = _; omega
              have hkk16 : kk ≤ 16 := by omega
              clear hkk
              obtain ⟨PP, hPP⟩ : ∃ PP, pairs (done.drop 6) = PP := ⟨_, rfl⟩
              have HPP := Lib.hid hPP
              have hPl : PP.length = kk := by rw [← hPP]; exact pairs_length kk _ (by have := hdk.out; simp; omega)
              clear hPP
              go_wp2
              go_loopg [9, 10, 11] kk (fun k v1 v2 vi wx => ∃ (j m : Nat) (s1 s2 : Int), v1 = .int .i64 s1 ∧ v2 = .int .i64 s2 ∧ vi = .int .i64 m ∧ Hid (j + k = kk) ∧ Hid (m = 6 + 2 * j) ∧ Hid (s1 = ((PP.take j).map (·.1)).sum) ∧ Hid (s2 = ((PP.take j).map (·.2)).sum) ∧ 0 ≤ s1 ∧ s1 ≤ 1048576 * j ∧ 0 ≤ s2 ∧ s2 ≤ 1048576 * j ∧ Hid (∀ b ∈ PP.take j, Auc.BidOk (Auc.nth done 3) b) ∧ Hid (∃ n, wx = wr.drewN n))
              case atStart => exact ⟨0, 6, 0, 0, rfl, rfl, rfl, by show 0 + kk = kk; omega, rfl, rfl, rfl, by omega, by omega, by omega, by omega, (by intro b hb; simp at hb), ⟨_, World.drewN_drewN _ _ _⟩⟩
              case round =>
                rename_i wr2 hrel2
                obtain ⟨j, m, s1, s2, rfl, rfl, rfl, hjk, hmj, hs1, hs2, b1, b2, b3, b4, hall, hwx⟩ := hrel
                obtain ⟨nw, rfl⟩ := hwx.out
                by_cases hlj : j < kk
                · have hdl2 : done.length = 6 + 2 * kk := hdk.out
                  have hm6 : m = 6 + 2 * j := hmj.out
                  have hml : m + 1 < done.length := by omega
                  obtain ⟨b, hb⟩ : ∃ b, PP[j]? = some b := ⟨_, List.getElem?_eq_getElem (by omega)⟩
                  have cx := Hc.out m (by omega)
                  have cy := Hc.out (m + 1) (by omega)
                  have hbx : b = (Auc.nth done m, Auc.nth done (m + 1)) := by
                    have h1 := pairs_get j (done.drop 6) (Auc.nth done m) (Auc.nth done (m + 1)) (by rw [List.getElem?_drop]; unfold Auc.nth; rw [List.getD_eq_getElem?_getD, ← hm6, List.getElem?_eq_getElem (by omega)]; rfl) (by rw [List.getElem?_drop]; unfold Auc.nth; rw [List.getD_eq_getElem?_getD, show 6 + (2 * j + 1) = m + 1 by omega, List.getElem?_eq_getElem (by omega)]; rfl)
                    rw [HPP.out, hb] at h1
                    exact Option.some.inj h1
                  obtain ⟨x, hx⟩ : ∃ x, Auc.nth done m = x := ⟨_, rfl⟩
                  obtain ⟨y, hy⟩ : ∃ y, Auc.nth done (m + 1) = y := ⟨_, rfl⟩
                  have hx0 := Hnn.out m
                  have hy0 := Hnn.out (m + 1)
                  rw [hx] at cx hx0 hbx
                  rw [hy] at cy hy0 hbx
                  obtain ⟨hx1, hx2⟩ := hx0
                  obtain ⟨hy1, hy2⟩ := hy0
                  have u1 : IntKind.i64.wrap ((m : Int) + 1) = (m : Int) + 1 := by rw [IntKind.wrap_i64]; omega
                  have u2 : (0 : Int) ≤ (m : Int) + 1 := by omega
                  have u3 : ((m : Int) + 1).toNat = m + 1 := by omega
                  have u4 : (m : Int) + 1 < (done.length : Int) := by omega
                  have u5 : (m : Int) < (done.length : Int) := by omega
                  have hbm : Hid ((x, y) ∈ PP) := by show _ ∈ _; rw [← hbx]; exact List.mem_of_getElem? hb
                  have htk2 : Hid (PP.take (j + 1) = PP.take j ++ [(x, y)]) := by show _ = _; rw [List.take_add_one, hb, hbx]; rfl
                  have Hm6 := Lib.hid hm6
                  have hm46 : m ≤ 40 := by omega
                  clear hb hbx hx hy hdl2 hm6 hml
                  by_cases hok1 : Auc.BidOk (Auc.nth done 3) (x, y)
                  · obtain ⟨o1, o2, o3, o4⟩ := hok1
                    simp only at o1 o2 o3 o4
                    have Ho : Hid (Auc.BidOk (Auc.nth done 3) (x, y)) := ⟨o1, o2, o3, o4⟩
                    have hcs : ((Auc.nth done 3 == 1) = true ∧ Auc.nth done 3 ≤ 1 ∧ (x != 0) = false) ∨ ((Auc.nth done 3 == 1) = false ∧ 1 < Auc.nth done 3 ∧ y ≤ x) := by
                      rcases (show Auc.nth done 3 = 1 ∨ 1 < Auc.nth done 3 by omega) with h | h
                      · exact .inl ⟨by simpa using h, by omega, by have := o3 h; simp; omega⟩
                      · exact .inr ⟨by simp; omega, h, o4 h⟩
                    clear o3 o4
                    rcases hcs with ⟨g1, g2, g3⟩ | ⟨g1, g2, g3⟩
                    all_goals
                      go_wp2
                      go_quiet (fail)
                      go_wp2
                      go_roundg (gk - 1)
                      case measure => have := hjk.out; omega
                      case rel =>
                        refine ⟨j + 1, m + 2, s1 + x, s2 + y, rfl, rfl, by go_num, by have := hjk.out; show j + 1 + (gk - 1) = _; omega, by have := Hm6.out; show m + 2 = _; omega, by show s1 + x = _; rw [htk2.out, hs1.out]; simp, by show s2 + y = _; rw [htk2.out, hs2.out]; simp, by omega, by omega, by omega, by omega, ?_, ?_⟩
                        · intro z hz
                          rw [htk2.out] at hz
                          rcases List.mem_append.1 hz with hz | hz
                          · exact hall.out z hz
                          · rw [List.mem_singleton.1 hz]; exact Ho.out
                        · exact ⟨_, rfl⟩
                  · have hno : Hid (Auc.taken s = false) := by show _ = _; rw [htk.out]; exact decide_eq_false (fun h => hok1 (h.2.2.2.1 (x, y) (by rw [HPP.out]; exact hbm.out)))
                    have hcs : (1048576 < x) ∨ (x ≤ 1048576 ∧ 1048576 < y) ∨ (x ≤ 1048576 ∧ y ≤ 1048576 ∧ (Auc.nth done 3 == 1) = true ∧ (x != 0) = true) ∨ (x ≤ 1048576 ∧ y ≤ 1048576 ∧ (Auc.nth done 3 == 1) = false ∧ 1 < Auc.nth done 3 ∧ x < y) := by
                      by_cases x1 : x ≤ 1048576
                      · by_cases x2 : y ≤ 1048576
                        · rcases (show Auc.nth done 3 = 1 ∨ 1 < Auc.nth done 3 by omega) with hrd | hrd
                          · refine .inr (.inr (.inl ⟨x1, x2, by simpa using hrd, ?_⟩))
                            by_cases x3 : 0 < x
                            · simp; omega
                            · exact (hok1 ⟨x1, x2, fun _ => by simp only; omega, fun h => by omega⟩).elim
                          · refine .inr (.inr (.inr ⟨x1, x2, by simp; omega, hrd, ?_⟩))
                            by_cases x3 : x < y
                            · exact x3
                            · exact (hok1 ⟨x1, x2, fun h => by omega, fun _ => by simp only; omega⟩).elim
                        · exact .inr (.inl ⟨x1, by omega⟩)
                      · exact .inl (by omega)
                    clear hok1
                    rcases hcs with g1 | ⟨g1, g2⟩ | ⟨g1, g2, g3, g4⟩ | ⟨g1, g2, g3, g4, g5⟩
                    all_goals
                      go_wp2
                      go_quiet (fail)
                      go_wp2
                      all_goals go_ret
                      all_goals exact TkPost.mk' hno.out (hFr.out.drewN _)
                · have hdl2 : Hid (done.length = 6 + 2 * kk) := hdk.out
                  have hmge : (done.length : Int) ≤ (m : Int) := by have := hmj.out; have := hdk.out; have := hjk.out; omega
                  have hse1 : Hid (s1 = (PP.map (·.1)).sum) := by show _ = _; rw [hs1.out, List.take_of_length_le (by omega)]
                  have hse2 : Hid (s2 = (PP.map (·.2)).sum) := by show _ = _; rw [hs2.out, List.take_of_length_le (by omega)]
                  have hall2 : Hid (∀ b ∈ PP, Auc.BidOk (Auc.nth done 3) b) := by have h := hall.out; rw [List.take_of_length_le (by omega)] at h; exact h
                  have hj16 : j ≤ 16 := by have := hjk.out; omega
                  have hTk : Hid (Auc.Tk done ↔ (1 < Auc.nth done 3 → Auc.nth done 0 < s1) ∧ (Auc.nth done 4 = 1 → s2 ≤ Auc.nth done 0) ∧ (Auc.nth done 4 = 2 → Auc.nth done 0 < s2 ∧ 1099511627776 - Auc.nth done 2 < P)) := by
                    show _ ↔ _
                    rw [hse1.out, hse2.out, ← HP.out]
                    constructor
                    · rintro ⟨_, _, _, _, h5, h6⟩
                      unfold Auc.T5 at h5
                      unfold Auc.T6 at h6
                      rw [HPP.out] at h5 h6
                      exact ⟨h5.1, h5.2, h6⟩
                    · rintro ⟨h5, h5', h6⟩
                      refine ⟨T1.out, T2.out, T3.out, ?_, ⟨?_, ?_⟩, ?_⟩
                      · unfold Auc.T4; rw [HPP.out]; exact hall2.out
                      · rw [HPP.out]; exact h5
                      · rw [HPP.out]; exact h5'
                      · unfold Auc.T6; rw [HPP.out]; exact h6
                  have ew : IntKind.i64.wrap (1099511627776 - Auc.nth done 2) = 1099511627776 - Auc.nth done 2 := by rw [IntKind.wrap_i64]; omega
                  clear hmj hjk hs1 hs2 hse1 hse2 hdk
                  by_cases f1 : 1 < Auc.nth done 3 ∧ s1 ≤ Auc.nth done 0
                  · obtain ⟨f11, f12⟩ := f1
                    have hno : Hid (Auc.taken s = false) := by show _ = _; rw [htk.out]; exact decide_eq_false (fun h => by have := (hTk.out.1 h).1 f11; omega)
                    go_wp2
                    go_ret
                    exact TkPost.mk' hno.out (hFr.out.drewN _)
                  · have f1' : Auc.nth done 3 ≤ 1 ∨ (1 < Auc.nth done 3 ∧ Auc.nth done 0 < s1) := by omega
                    have hcs : ((Auc.nth done 4 == 1) = true ∧ (Auc.nth done 4 != 2) = true ∧ Auc.nth done 0 < s2 ∧ Auc.taken s = false) ∨ ((Auc.nth done 4 == 1) = true ∧ (Auc.nth done 4 != 2) = true ∧ s2 ≤ Auc.nth done 0 ∧ Auc.taken s = true) ∨
                        ((Auc.nth done 4 == 1) = false ∧ (Auc.nth done 4 != 2) = true ∧ Auc.taken s = true) ∨ ((Auc.nth done 4 == 1) = false ∧ (Auc.nth done 4 != 2) = false ∧ s2 ≤ Auc.nth done 0 ∧ Auc.taken s = false) ∨
                        ((Auc.nth done 4 == 1) = false ∧ (Auc.nth done 4 != 2) = false ∧ Auc.nth done 0 < s2 ∧ 1099511627776 - Auc.nth done 2 < P ∧ Auc.taken s = true) ∨ ((Auc.nth done 4 == 1) = false ∧ (Auc.nth done 4 != 2) = false ∧ Auc.nth done 0 < s2 ∧ P ≤ 1099511627776 - Auc.nth done 2 ∧ Auc.taken s = false) := by
                      rw [htk.out]
                      have hi := hTk.out
                      rcases (show Auc.nth done 4 = 0 ∨ Auc.nth done 4 = 1 ∨ Auc.nth done 4 = 2 by omega) with h4 | h4 | h4
                      · exact .inr (.inr (.inl ⟨by rw [h4]; rfl, by rw [h4]; rfl, decide_eq_true (hi.2 ⟨fun h => by omega, fun h => by omega, fun h => by omega⟩)⟩))
                      · by_cases h5 : s2 ≤ Auc.nth done 0
                        · exact .inr (.inl ⟨by rw [h4]; rfl, by rw [h4]; rfl, h5, decide_eq_true (hi.2 ⟨fun h => by omega, fun h => by omega, fun h => by omega⟩)⟩)
                        · exact .inl ⟨by rw [h4]; rfl, by rw [h4]; rfl, by omega, decide_eq_false (fun h => by have := (hi.1 h).2.1 h4; omega)⟩
                      · by_cases h5 : s2 ≤ Auc.nth done 0
                        · exact .inr (.inr (.inr (.inl ⟨by rw [h4]; rfl, by rw [h4]; rfl, h5, decide_eq_false (fun h => by have := ((hi.1 h).2.2 h4).1; omega)⟩)))
                        · by_cases h6 : 1099511627776 - Auc.nth done 2 < P
                          · exact .inr (.inr (.inr (.inr (.inl ⟨by rw [h4]; rfl, by rw [h4]; rfl, by omega, h6, decide_eq_true (hi.2 ⟨fun h => by omega, fun h => by omega, fun h => by omega⟩)⟩))))
                          · exact .inr (.inr (.inr (.inr (.inr ⟨by rw [h4]; rfl, by rw [h4]; rfl, by omega, by omega, decide_eq_false (fun h => by have := ((hi.1 h).2.2 h4).2; omega)⟩))))
                    clear f1 hTk htk
                    rcases f1' with f1 | ⟨f1, f2⟩
                    all_goals
                      rcases hcs with ⟨g1, g2, g3, ht⟩ | ⟨g1, g2, g3, ht⟩ | ⟨g1, g2, ht⟩ | ⟨g1, g2, g3, ht⟩ | ⟨g1, g2, g3, g4, ht⟩ | ⟨g1, g2, g3, g4, ht⟩
                      all_goals
                        have Ht := Lib.hid ht
                        clear ht
                        go_wp2
                        go_ret
                        exact TkPost.mk' (by first | exact Ht.out | (rw [Ht.out]; symm; simp; omega)) (hFr.out.drewN _)
            · have hno : Hid (Auc.taken s = false) := by show _ = _; rw [htk.out]; exact decide_eq_false (fun h => t3 h.2.2.1)
              have h3' : decide ((1099511627776 - Auc.nth done 1) / Auc.nth done 2 < Auc.nth done 3 - 1) = true := by unfold Auc.T3 at t3; simp; omega
              clear t3 hd0 hd1
              go_wp2
              go_quiet (fail)
              go_wp2
              go_ret
              exact TkPost.mk' hno.out (hFr.out.drewN _)
          · have hno : Hid (Auc.taken s = false) := by show _ = _; rw [htk.out]; exact decide_eq_false (fun h => t2 h.2.1)
            have hcs : Auc.nth done 0 < 1 ∨ (1 ≤ Auc.nth done 0 ∧ 1048576 < Auc.nth done 0) ∨ (1 ≤ Auc.nth done 0 ∧ Auc.nth done 0 ≤ 1048576 ∧ 1099511627776 < Auc.nth done 1) ∨ (1 ≤ Auc.nth done 0 ∧ Auc.nth done 0 ≤ 1048576 ∧ Auc.nth done 1 ≤ 1099511627776 ∧ Auc.nth done 2 < 1) ∨
                (1 ≤ Auc.nth done 0 ∧ Auc.nth done 0 ≤ 1048576 ∧ Auc.nth done 1 ≤ 1099511627776 ∧ 1 ≤ Auc.nth done 2 ∧ 1099511627776 < Auc.nth done 2) ∨ (1 ≤ Auc.nth done 0 ∧ Auc.nth done 0 ≤ 1048576 ∧ Auc.nth done 1 ≤ 1099511627776 ∧ 1 ≤ Auc.nth done 2 ∧ Auc.nth done 2 ≤ 1099511627776 ∧ Auc.nth done 3 < 1) ∨
                (1 ≤ Auc.nth done 0 ∧ Auc.nth done 0 ≤ 1048576 ∧ Auc.nth done 1 ≤ 1099511627776 ∧ 1 ≤ Auc.nth done 2 ∧ Auc.nth done 2 ≤ 1099511627776 ∧ 1 ≤ Auc.nth done 3 ∧ 2 < Auc.nth done 4) := by
              unfold Auc.T2 at t2; omega
            clear t2
            rcases hcs with g1 | ⟨g1, g2⟩ | ⟨g1, g2, g3⟩ | ⟨g1, g2, g3, g4⟩ | ⟨g1, g2, g3, g4, g5⟩ | ⟨g1, g2, g3, g4, g5, g6⟩ | ⟨g1, g2, g3, g4, g5, g6, g7⟩
            all_goals
              go_wp2
              all_goals go_ret
              all_goals exact TkPost.mk' hno.out hFr.out
        · have hno : Hid (Auc.taken s = false) := by show _ = _; rw [htk.out]; exact decide_eq_false (fun h => t1 h.1)
          have hcs : 16 < Auc.nth done 5 ∨ Auc.nth done 5 ≤ 16 ∧ ((done.length : Int) != 6 + 2 * Auc.nth done 5) = true := by
            unfold Auc.T1 at t1
            by_cases h16 : 16 < Auc.nth done 5
            · exact .inl h16
            · refine .inr ⟨by omega, ?_⟩
              simp; omega
          clear t1
          rcases hcs with hc | ⟨hc, hc2⟩
          all_goals
            go_wp2
            all_goals go_ret
            all_goals exact TkPost.mk' hno.out hFr.out
end Go.Proofs.Ytpkongocabnciaa
