/- The walk of clock.Of. -/
import Derived.Test.YtpkongocabnciaaRgt
import Derived.Test.YtpkongocabnciaaOfM
import Derived.Test.YtpkongocabnciaaSale
import Derived.Test.YtpkongocabnciaaGet
import Derived.BigRegion
namespace Go.Proofs.Ytpkongocabnciaa
open Go.RowKit
set_option linter.unusedVariables false
set_option linter.unusedSimpArgs false

/-- What Of answers. -/
def OfPost (w : World) (r : Option Auc) (e : Ending) (w' : World) : Prop :=
  Fr nob w w' ∧ (match r with
    | none => e = .returned (.tuple #[.pointer none, .int .i64 92])
    | some a => ∃ p q, e = .returned (.tuple #[.pointer (some ⟨p, 0, none⟩), .int .i64 0]) ∧ w.heap.size ≤ p ∧ w.heap.size ≤ q ∧ AucAt w' p q a)
theorem OfPost.no {w w' : World} {r : Option Auc} (hr : r = none) (h : Fr nob w w') : OfPost w r (.returned (.tuple #[.pointer none, .int .i64 92])) w' := by subst hr; exact ⟨h, rfl⟩
theorem OfPost.yes {w w' : World} {r : Option Auc} {a : Auc} {p q : Nat} (hr : r = some a) (h : Fr nob w w') (hp : w.heap.size ≤ p) (hq : w.heap.size ≤ q) (hA : AucAt w' p q a) : OfPost w r (.returned (.tuple #[.pointer (some ⟨p, 0, none⟩), .int .i64 0])) w' := by
  subst hr; exact ⟨h, p, q, rfl, hp, hq, hA⟩

theorem Auc.of_none {s : ByteArray} (h : rdAll 38 s.size (byts s) 0 = none) : Auc.of s = none := by unfold Auc.of; rw [h]
theorem Auc.of_some {s : ByteArray} {l : List Int} (h : rdAll 38 s.size (byts s) 0 = some l) : Auc.of s = (match Auc.ofNums l with | none => none | some a => if a.Right then some a else none) := by unfold Auc.of; rw [h]; rfl

set_option maxHeartbeats 6400000 in
theorem of_any (w : World) (s : ByteArray) (hs : s.size ≤ 1152921504606846976) :
    Calls Try.prog 12 #[.string s] w (OfPost w (Auc.of s)) := by
  obtain ⟨i0, hi, hz0, hz1, hz2⟩ := info_parts Try.infoInt
  go_enter Try.func12, Try.ntmps12
  go_wp2
  go_loopg [4, 5] s.size (fun k vl va wr => ∃ (a : Nat) (done : List Int), va = .int .i64 a ∧ a ≤ s.size ∧ Hid (s.size - a ≤ k) ∧ Hid (rdAll 38 s.size (byts s) 0 = (rdAll 38 k ((byts s).drop a) done.length).map (done ++ ·)) ∧ done.length ≤ 39 ∧ Hid (∀ n ∈ done, 0 ≤ n ∧ n ≤ 9007199254740992) ∧
    Hid (wr.ownsRow 0 3 1 vl done.length (ints done)) ∧ Hid (∀ k, vl.ownBlock = some k → w.heap.size ≤ k) ∧ Hid (Fr nob w wr))
  case atStart => exact ⟨0, [], rfl, by omega, by show s.size - 0 ≤ s.size; omega, by show _ = Option.map _ _; simp, by simp, by simp [Hid], World.ownsRow_nil _ _ _ _, (fun k hk => by cases hk), Fr.refl _ _⟩
  case round =>
    obtain ⟨a, done, rfl, has, hk, hrd, hdl, hdn, hown, hblk, hFr⟩ := hrel
    obtain ⟨A, c, rfl⟩ := ownsRow_shape hown.out
    by_cases hlt : a < s.size
    · obtain ⟨x, hx⟩ : ∃ x, (s[a]'hlt).toNat = x := ⟨_, rfl⟩
      have hdp : (byts s).drop a = x :: (byts s).drop (a + 1) := by rw [byts_drop s a hlt, hx]
      obtain ⟨f, rfl⟩ : ∃ f, gk = f + 1 := ⟨gk - 1, by have := hk.out; omega⟩
      cases hr : rdNum ((byts s).drop a) 0 0 with
      | error e =>
        have hg : Hid (getInt s (a : Int) = (0, 0, e)) := by show getInt s a = _; unfold getInt; rw [if_pos ⟨by omega, by omega⟩, Int.toNat_natCast, hr]
        have hno : Hid (Auc.of s = none) := by
          refine Auc.of_none ?_
          rw [hrd.out]
          rw [hdp] at hr ⊢
          rw [rdAll_err hr]; rfl
        have hen : e = 10 ∨ e = 11 := rdNum_err _ _ _ _ hr
        clear hr hdp hx
        rcases hen with rfl | rfl
        all_goals
          go_wp2_with (first | (go_at_call 36; refine (get_int _ s a hs).mono ?_; rw [hg.out]; rintro e w2 ⟨rfl, hF⟩))
          go_ret2
          exact OfPost.no hno.out (hFr.out.trans hF)
      | ok q =>
        obtain ⟨n, r⟩ := q
        obtain ⟨k, hk1, hk2⟩ := rdNum_drop _ _ _ _ _ hr
        have hn1 := rdNum_le _ _ _ _ _ hr
        have hrl : r.length = s.size - (a + (k + 1)) := by rw [hk1, List.length_drop, List.length_drop, byts_length]; omega
        have hk3 : a + (k + 1) ≤ s.size := by rw [List.length_drop, byts_length] at hk2; omega
        have hg : Hid (getInt s (a : Int) = ((n : Int), ((a + (k + 1) : Nat) : Int), 0)) := by
          show getInt s a = _; unfold getInt; rw [if_pos ⟨by omega, by omega⟩, Int.toNat_natCast, hr]
          show ((n : Int), ((s.size - r.length : Nat) : Int), (0 : Int)) = _
          rw [hrl, show s.size - (s.size - (a + (k + 1))) = a + (k + 1) by omega]
        by_cases hfull : 38 < done.length
        · have hno : Hid (Auc.of s = none) := by
            refine Auc.of_none ?_
            rw [hrd.out]
            rw [hdp] at hr ⊢
            rw [rdAll_full hr hfull]; rfl
          clear hr hdp hx hk1 hk2 hrl
          go_wp2_with (first | (go_at_call 36; refine (get_int _ s a hs).mono ?_; rw [hg.out]; rintro e w2 ⟨rfl, hF⟩))
          go_ret2
          exact OfPost.no hno.out (hFr.out.trans hF)
        · have hgo : Hid (rdAll 38 s.size (byts s) 0 = (rdAll 38 f ((byts s).drop (a + (k + 1))) (done ++ [(n : Int)]).length).map ((done ++ [(n : Int)]) ++ ·)) := by
            show _ = _
            rw [hrd.out]
            rw [List.drop_drop] at hk1
            rw [hdp] at hr
            rw [hdp, rdAll_go hr hfull, hk1, Option.map_map, List.length_append]
            congr 1
            funext y
            simp
          clear hr hdp hx hk1 hk2 hrl
          go_wp2_with (first | (go_at_call 36; refine (get_int _ s a hs).mono ?_; rw [hg.out]; rintro e w2 ⟨rfl, hF⟩) | (at_builtin; go_loud (refine wpList_append_one rfl (.tmp 30) (.tmp 32) 46 rfl 3 i0 (.int .i64 0) 1 8 Try.underlying46 hi hz0 hz1 hz2 rfl (by decide) (by decide) _ _ _ _ rfl (ownsRow_fr hown.out hF (fun k _ => id)) _ rfl rfl (by intro u hu; simp at hu; subst hu; rfl) (by omega) ?_)))
          intro g c' w3 hown3 hgb hgr
          have hgw : w.heap.size ≤ g := by
            rcases hgb with h | h
            · exact hblk.out g h
            · have := hFr.out.size; have := hF.size; omega
          have HF := Lib.hid ((hFr.out.trans hF).grown hgr (fun k hk e => by have := hblk.out k e; omega))
          go_wp2
          go_roundg f
          case measure => exact Nat.lt_succ_self f
          case rel =>
            refine ⟨a + (k + 1), done ++ [(n : Int)], rfl, hk3, by have := hk.out; show s.size - (a + (k + 1)) ≤ f; omega, hgo, by simp; omega, ?_, ?_, own_some hgw, HF.out⟩
            · intro y hy
              rcases List.mem_append.1 hy with hy | hy
              · exact hdn.out y hy
              · rw [List.mem_singleton.1 hy]; omega
            · show w3.ownsRow _ _ _ _ _ _
              rw [List.length_append, ints_append]
              exact hown3
    · have hdone : Hid (rdAll 38 s.size (byts s) 0 = some done) := by
        show _ = _
        rw [hrd.out, List.drop_eq_nil_of_le (by rw [byts_length]; omega), rdAll_nil]; simp
      have hof := Lib.hid (Auc.of_some hdone.out)
      clear hrd
      have hcase : done.length < 6 ∨ (6 ≤ done.length ∧ ((done.length : Int) % 2 != 0) = true) ∨ (6 ≤ done.length ∧ ((done.length : Int) % 2 != 0) = false) := by
        by_cases h6 : done.length < 6
        · exact .inl h6
        · cases hp : ((done.length : Int) % 2 != 0)
          · exact .inr (.inr ⟨by omega, rfl⟩)
          · exact .inr (.inl ⟨by omega, rfl⟩)
      rcases hcase with h6 | ⟨h6, hp⟩ | ⟨h6, hp⟩
      · have hno : Hid (Auc.of s = none) := by show _ = _; rw [hof.out]; unfold Auc.ofNums; rw [if_pos (.inl h6)]
        go_wp2
        go_ret2
        exact OfPost.no hno.out hFr.out
      · have hno : Hid (Auc.of s = none) := by
          show _ = _; rw [hof.out]; unfold Auc.ofNums; rw [if_pos (.inr (.inl (by simp at hp; omega)))]
        go_wp2
        go_ret2
        exact OfPost.no hno.out hFr.out
      · obtain ⟨g, c', e⟩ := ownsRow_some hown.out (by omega)
        simp only [Value.slice.injEq, true_and] at e
        obtain ⟨rfl, rfl⟩ := e
        have hcell : ∀ i, i < done.length → wr.cell? ⟨g, i, none⟩ = some (.int .i64 (done.getD i 0)) := by
          intro i hi
          refine own_get hown.out (ints_get _ _ _ ?_)
          rw [List.getD_eq_getElem?_getD, List.getElem?_eq_getElem hi]; rfl
        have c5 := hcell 5 (by omega)
        have Hc := Lib.hid hcell
        clear hcell
        have hev : done.length % 2 = 0 := by simp at hp; omega
        obtain ⟨kk, hkk⟩ : ∃ kk, done.length = 6 + 2 * kk := ⟨(done.length - 6) / 2, by omega⟩
        have hq5 : (((done.length - 6) / 2 : Nat) : Int) = kk := by omega
        have h50 : (5 : Int) < (done.length : Int) := by omega
        have h6' : (6 : Int) ≤ (done.length : Int) := by omega
        by_cases h5 : done.getD 5 0 = kk
        · obtain ⟨d5, hd5⟩ : ∃ d, done.getD 5 0 = d := ⟨_, rfl⟩
          obtain ⟨d0, hd0⟩ : ∃ d, done.getD 0 0 = d := ⟨_, rfl⟩
          obtain ⟨d1, hd1⟩ : ∃ d, done.getD 1 0 = d := ⟨_, rfl⟩
          obtain ⟨d2, hd2⟩ : ∃ d, done.getD 2 0 = d := ⟨_, rfl⟩
          have c0 := Hc.out 0 (by omega)
          have c1 := Hc.out 1 (by omega)
          have c2 := Hc.out 2 (by omega)
          rw [hd5] at c5 h5
          rw [hd0] at c0
          rw [hd1] at c1
          rw [hd2] at c2
          have hon : Hid (Auc.ofNums done = (Auc.made d0 d1 d2 d5).map fun a => { a with round := done.getD 3 0, state := done.getD 4 0, l := pairs (done.drop 6) }) := by
            show _ = _
            unfold Auc.ofNums
            rw [if_neg (by rw [hd5, hq5, h5]; simp; omega), hd0, hd1, hd2, hd5]
          have h5' : (d5 != ((done.length : Int) - 6) / 2) = false := by simp; omega
          have hkd : Hid (done.length = 6 + 2 * kk) := hkk
          have Hd5 := Lib.hid h5
          clear hq5 hev hd5 h5 hkk hd0 hd1 hd2
          have hgl := (World.ownsRow.lt hown.out g rfl).2
          have h00 : 0 < done.length := by omega
          have h10 : (1 : Int) < (done.length : Int) := by omega
          have h20 : (2 : Int) < (done.length : Int) := by omega
          have h30 : (3 : Int) < (done.length : Int) := by omega
          have h40 : (4 : Int) < (done.length : Int) := by omega
          cases hm : Auc.made d0 d1 d2 d5 with
          | none =>
            have hno : Hid (Auc.of s = none) := by show _ = _; rw [hof.out, hon.out, hm]; rfl
            have Hm := Lib.hid hm
            clear hm
            go_wp2
            go_region_held3 (fun w' => w'.cell? ⟨g, 0, none⟩ = some (.int .i64 d0) ∧ w'.cell? ⟨g, 1, none⟩ = some (.int .i64 d1) ∧ w'.cell? ⟨g, 2, none⟩ = some (.int .i64 d2) ∧ w'.cell? ⟨g, 5, none⟩ = some (.int .i64 d5)) (first | go_keep | exact ⟨(hF.cell hgl id).trans c0, (hF.cell hgl id).trans c1, (hF.cell hgl id).trans c2, (hF.cell hgl id).trans c5⟩)
              (first | (go_at_call 6; refine (new_any _ d0 d1 d2 d5).mono ?_; rintro e w1 ⟨hF, hres⟩; rw [Hm.out] at hres; (have he : e = .returned (.tuple #[.pointer none, .int .i64 1]) := hres); subst he; clear hres))
            have HF := Lib.hid (hFr.out.trans (Fr.trans (Fr.refl nob wr).drew hF))
            go_wp2
            go_ret2
            exact OfPost.no hno.out HF.out
          | some b =>
            have Hm := Lib.hid hm
            have hmo := Auc.made_ok hm
            clear hm
            go_wp2
            go_region_held3 (fun w' => w'.cell? ⟨g, 0, none⟩ = some (.int .i64 d0) ∧ w'.cell? ⟨g, 1, none⟩ = some (.int .i64 d1) ∧ w'.cell? ⟨g, 2, none⟩ = some (.int .i64 d2) ∧ w'.cell? ⟨g, 5, none⟩ = some (.int .i64 d5)) (first | go_keep | exact ⟨(hF.cell hgl id).trans c0, (hF.cell hgl id).trans c1, (hF.cell hgl id).trans c2, (hF.cell hgl id).trans c5⟩)
              (first | (go_at_call 6; refine (new_any _ d0 d1 d2 d5).mono ?_; rintro e w1 ⟨hF, hres⟩; rw [Hm.out] at hres; (have hres2 : ∃ p q, e = .returned (.tuple #[.pointer (some ⟨p, 0, none⟩), .int .i64 0]) ∧ wr.drew.heap.size ≤ p ∧ wr.drew.heap.size ≤ q ∧ AucAt w1 p q b := hres); clear hres; obtain ⟨p, q, rfl, hp, hq, hA⟩ := hres2))
            have hF1 := Fr.trans (Fr.refl nob wr).drew hF
            have HF := Lib.hid (hFr.out.trans hF1)
            have hown1 := ownsRow_fr hown.out hF1 (fun k _ => id)
            have hp' : wr.heap.size ≤ p := hp
            have hq' : wr.heap.size ≤ q := hq
            have hgp : g ≠ p := by omega
            have hgq : g ≠ q := by omega
            have hle := hFr.out.size
            have hpw : w.heap.size ≤ p := by omega
            have hqw : w.heap.size ≤ q := by omega
            clear hF hF1 hp hq c0 c1 c2 c5
            obtain ⟨d3, hd3⟩ : ∃ d, done.getD 3 0 = d := ⟨_, rfl⟩
            obtain ⟨d4, hd4⟩ : ∃ d, done.getD 4 0 = d := ⟨_, rfl⟩
            have hget1 : ∀ i, i < done.length → w1.cell? ⟨g, i, none⟩ = some (.int .i64 (done.getD i 0)) := by
              intro i hi
              refine own_get hown1 (ints_get _ _ _ ?_)
              rw [List.getD_eq_getElem?_getD, List.getElem?_eq_getElem hi]; rfl
            have c3 := hget1 3 (by omega)
            have c4 := hget1 4 (by omega)
            rw [hd3] at c3
            rw [hd4] at c4
            have z3 := hA.frozenP 3
            have z4 := hA.frozenP 4
            have kc := hA.cells
            obtain ⟨k0, k1, k2, k3, k4, k5⟩ := kc
            have hS := Lib.hid ((hA.setRound d3).setState d4)
            have Hd3 := Lib.hid hd3
            have Hd4 := Lib.hid hd4
            clear hget1 hd3 hd4
            go_wp2
            go_region
            have hFW : Fr nob w (((w1.setCell ⟨p, 3, none⟩ (.int .i64 d3)).setCell ⟨p, 4, none⟩ (.int .i64 d4)).drew) := ((HF.out.setCell (p := ⟨p, 3, none⟩) (fun h => by simp at h; omega) _).setCell (p := ⟨p, 4, none⟩) (fun h => by simp at h; omega) _).drew
            have hownW : (((w1.setCell ⟨p, 3, none⟩ (.int .i64 d3)).setCell ⟨p, 4, none⟩ (.int .i64 d4)).drew).ownsRow 0 3 1 (.slice (some ⟨g, 0, none⟩) done.length c) done.length (ints done) := (ownsRow_setCell (ownsRow_setCell hown1 (own_some hgp) _) (own_some hgp) _).drew
            have hAW := hS.out.drew
            generalize ((w1.setCell ⟨p, 3, none⟩ (.int .i64 d3)).setCell ⟨p, 4, none⟩ (.int .i64 d4)).drew = W at hFW hownW hAW ⊢
            clear HF hown1 hA k0 k1 k2 k3 k4 k5 c3 c4 z3 z4 hS hown hFr
            obtain ⟨b0, b1, b2, b3, b4, b5, b6, b7, b8⟩ := hmo
            have hkd5 : d5.toNat = kk := by rw [Hd5.out]; rfl
            rw [hkd5] at b6
            have hbl : b.l.length = kk := by rw [b6]; simp
            have hPl : (pairs (done.drop 6)).length = b.l.length := by rw [hbl]; exact pairs_length kk _ (by have := hkd.out; simp; omega)
            have k5 := hAW.cells.2.2.2.2.2
            have hlk : kk ≤ 16 := by omega
            go_wp2
            go_loopg [89] kk (fun k vi wx => ∃ (i : Nat), vi = .int .i64 i ∧ Hid (i + k = kk) ∧ Hid (AucAt wx p q { b with round := d3, state := d4, l := overl (pairs (done.drop 6)) b.l i }) ∧ Hid (wx.ownsRow 0 3 1 (.slice (some ⟨g, 0, none⟩) done.length c) done.length (ints done)) ∧ Hid (Fr nob w wx))
            case atStart => exact ⟨0, rfl, by show 0 + kk = _; omega, hAW, hownW, hFW⟩
            case round =>
              obtain ⟨i, rfl, hik, hAx, hownx, hFx⟩ := hrel
              clear hAW hownW hFW k5
              have k5 := hAx.out.cells.2.2.2.2.2
              have hkl : Hid (kk = b.l.length) := hbl.symm
              have hov := overl_length (pairs (done.drop 6)) b.l i hPl
              simp only [hov] at k5
              by_cases hli : i < b.l.length
              · have hdl2 : done.length = 6 + 2 * kk := hkd.out
                obtain ⟨x, hx⟩ : ∃ x, done[6 + 2 * i]? = some x := ⟨_, List.getElem?_eq_getElem (by omega)⟩
                obtain ⟨y, hy⟩ : ∃ y, done[7 + 2 * i]? = some y := ⟨_, List.getElem?_eq_getElem (by omega)⟩
                have hP : (pairs (done.drop 6))[i]? = some (x, y) := pairs_get i _ x y (by rw [List.getElem?_drop]; exact hx) (by rw [List.getElem?_drop, ← hy]; congr 1; omega)
                have cx := own_get hownx.out (ints_get _ _ _ hx)
                have cy := own_get hownx.out (ints_get _ _ _ hy)
                have hgt := overl_get (pairs (done.drop 6)) b.l i hPl hli
                obtain ⟨o1, o2⟩ := hAx.out.bidder hgt
                have z1 := hAx.out.frozenQ (i * 2)
                have z2 := hAx.out.frozenQ (i * 2 + 1)
                have hS1 := hAx.out.setWas hgt x
                have hS2 := Lib.hid (hS1.setNow (i := i) (b := (x, (b.l[i]'hli).2)) (by simp only []; rw [List.getElem?_set_self (by rw [hov]; exact hli)]) y)
                have hst := Lib.hid (overl_set (pairs (done.drop 6)) b.l i (x, y) hPl hP)
                have u1 : IntKind.i64.wrap (2 * (i : Int)) = 2 * (i : Int) := by rw [IntKind.wrap_i64]; omega
                have u2 : IntKind.i64.wrap (6 + 2 * (i : Int)) = 6 + 2 * (i : Int) := by rw [IntKind.wrap_i64]; omega
                have u3 : IntKind.i64.wrap (7 + 2 * (i : Int)) = 7 + 2 * (i : Int) := by rw [IntKind.wrap_i64]; omega
                have v1 : (6 : Int) + 2 * (i : Int) < (done.length : Int) := by omega
                have v2 : (7 : Int) + 2 * (i : Int) < (done.length : Int) := by omega
                have v3 : (0 : Int) ≤ 6 + 2 * (i : Int) := by omega
                have v4 : (0 : Int) ≤ 7 + 2 * (i : Int) := by omega
                have v5 : ((6 : Int) + 2 * (i : Int)).toNat = 6 + 2 * i := by omega
                have v6 : ((7 : Int) + 2 * (i : Int)).toNat = 7 + 2 * i := by omega
                have v7 : (i : Int) < (b.l.length : Int) := by omega
                have hlx := hFx.out.size
                have hdl3 := Lib.hid hdl2
                clear hx hy hP hgt hS1 hdl2 hov
                go_wp2
                go_still_tail 19, (by kernel_rfl)
                go_wp2
                go_roundg (gk - 1)
                case measure => have := hik.out; omega
                case rel =>
                  refine ⟨i + 1, by go_num, by have := hik.out; show i + 1 + (gk - 1) = kk; omega, ?_, (ownsRow_setCell (ownsRow_setCell hownx.out (own_some hgq) _) (own_some hgq) _).drew, ((hFx.out.setCell (p := ⟨q, i * 2, none⟩) (fun h => by simp at h; omega) _).setCell (p := ⟨q, i * 2 + 1, none⟩) (fun h => by simp at h; omega) _).drew⟩
                  have h3 := hS2.out.drew
                  simp only [List.set_set, hst.out] at h3
                  exact h3
              · have hall : overl (pairs (done.drop 6)) b.l i = pairs (done.drop 6) := overl_all _ _ _ (by omega) (by omega)
                have hAf := hAx.out
                rw [hall] at hAf
                have hof2 : Auc.ofNums done = some { b with round := d3, state := d4, l := pairs (done.drop 6) } := by rw [hon.out, Hm.out, ← Hd3.out, ← Hd4.out]; rfl
                have hpre := Auc.ofNums_pre hof2 hdn.out
                rw [hof2] at hof
                have Hof := Lib.hid hof.out
                have k5' := k5
                clear hAx k5 hof hof2 hall hon
                by_cases hR : ({ b with round := d3, state := d4, l := pairs (done.drop 6) } : Auc).Right
                · have hyes : Hid (Auc.of s = some { b with round := d3, state := d4, l := pairs (done.drop 6) }) := by show _ = _; rw [Hof.out]; exact if_pos hR
                  have hdec := Lib.hid (decide_eq_true hR)
                  clear hR
                  go_wp2_with (first | (go_at_call 37; refine (right_any _ p q { b with round := d3, state := d4, l := pairs (done.drop 6) } hAf hpre).mono ?_; rintro e w5 ⟨he, hF5⟩; rw [hdec.out] at he; subst he))
                  go_ret2
                  exact OfPost.yes hyes.out (hFx.out.trans hF5) hpw hqw (hAf.fr hF5 id id)
                · have hno : Hid (Auc.of s = none) := by show _ = _; rw [Hof.out]; exact if_neg hR
                  have hdec := Lib.hid (decide_eq_false hR)
                  clear hR
                  go_wp2_with (first | (go_at_call 37; refine (right_any _ p q { b with round := d3, state := d4, l := pairs (done.drop 6) } hAf hpre).mono ?_; rintro e w5 ⟨he, hF5⟩; rw [hdec.out] at he; subst he))
                  go_ret2
                  exact OfPost.no hno.out (hFx.out.trans hF5)
        · have hno : Hid (Auc.of s = none) := by show _ = _; rw [hof.out]; unfold Auc.ofNums; rw [if_pos (.inr (.inr (by rw [hq5]; exact h5)))]
          obtain ⟨d5, hd5⟩ : ∃ d, done.getD 5 0 = d := ⟨_, rfl⟩
          rw [hd5] at c5 h5
          have h5' : (d5 != ((done.length : Int) - 6) / 2) = true := by simp; omega
          clear hq5 hev hd5 h5 hkk
          go_wp2
          go_ret2
          exact OfPost.no hno.out hFr.out
end Go.Proofs.Ytpkongocabnciaa
