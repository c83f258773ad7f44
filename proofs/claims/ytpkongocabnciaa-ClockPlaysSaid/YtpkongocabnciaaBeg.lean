/- The walks of gavellaw07's around, numbers and begun; a script that came in. -/
import Derived.Test.YtpkongocabnciaaClk2
import Derived.Test.YtpkongocabnciaaSale
import Derived.StillTailTactics
namespace Go.Proofs.Ytpkongocabnciaa
open Go.RowKit
set_option linter.unusedVariables false
set_option linter.unusedSimpArgs false

/-- around: the remainder, without its sign. -/
def arnd (n m : Int) : Int := if n.tmod m < 0 then -(n.tmod m) else n.tmod m
theorem arnd_bound (n : Int) (m : Int) (hm : 0 < m) : 0 ≤ arnd n m ∧ arnd n m < m := by
  unfold arnd
  have h1 := Int.tmod_lt_of_pos n hm
  have h2 : -m < n.tmod m := by
    have := Int.tmod_lt_of_pos (-n) hm
    rw [Int.neg_tmod] at this
    omega
  split <;> omega

theorem around_any (w : World) (n m : Int) (hm : 0 < m) (hm2 : m ≤ 1000000) : Calls Try.prog 14 #[.int .i64 n, .int .i64 m] w fun e w' => e = .returned (.int .i64 (arnd n m)) ∧ w = w' := by
  have hb := arnd_bound n m hm
  have h0 : ¬ m = 0 := by omega
  by_cases hneg : n.tmod m < 0
  · have ha : Hid (arnd n m = -(n.tmod m)) := if_pos hneg
    have hlo : -1000000 < n.tmod m := by have := ha.out; omega
    go_enter Try.func14, Try.ntmps14
    go_wp2
    go_ret
    exact ⟨by rw [ha.out]; simp, rfl⟩
  · have ha : Hid (arnd n m = n.tmod m) := if_neg hneg
    have hlo : 0 ≤ n.tmod m := by omega
    go_enter Try.func14, Try.ntmps14
    go_wp2
    go_ret
    exact ⟨by rw [ha.out]; simp, rfl⟩

theorem numbers_any (w : World) (v u : Value) (l : List Int) (b1 b2 : Nat) (hv : w.ownsRow b1 3 1 v l.length (ints l)) (hu : w.ownsRow b2 3 1 u l.length (ints l)) (hl : l.length ≤ 1000000) :
    Calls Try.prog 18 #[v, u] w fun e w' => e = .returned (.bool true) ∧ Fr nob w w' := by
  obtain ⟨A1, c1, rfl⟩ := ownsRow_shape hv
  obtain ⟨A2, c2, rfl⟩ := ownsRow_shape hu
  go_enter Try.func18, Try.ntmps18
  go_wp2
  go_loopg [5] l.length (fun k vi wr => ∃ i : Nat, vi = .int .i64 i ∧ Hid (i + k = l.length) ∧ Hid (Fr nob w wr))
  case atStart => exact ⟨0, rfl, by show 0 + _ = _; omega, Fr.refl _ _⟩
  case round =>
    obtain ⟨i, rfl, hik, hF⟩ := hrel
    by_cases hlt : i < l.length
    · obtain ⟨g1, d1, e1⟩ := ownsRow_some hv (by omega)
      obtain ⟨g2, d2, e2⟩ := ownsRow_some hu (by omega)
      simp only [Value.slice.injEq, true_and] at e1 e2
      obtain ⟨rfl, rfl⟩ := e1
      obtain ⟨rfl, rfl⟩ := e2
      obtain ⟨x, hx⟩ : ∃ x, l[i]? = some x := ⟨_, List.getElem?_eq_getElem hlt⟩
      have hv' := ownsRow_fr hv hF.out (fun k _ => id)
      have hu' := ownsRow_fr hu hF.out (fun k _ => id)
      have x1 := own_get hv' (ints_get _ _ _ hx)
      have x2 := own_get hu' (ints_get _ _ _ hx)
      have v1 : (i : Int) < (l.length : Int) := by omega
      clear hx hv' hu' hv hu
      go_wp2
      go_quiet (fail)
      go_wp2
      go_roundg (gk - 1)
      case measure => have := hik.out; omega
      case rel => exact ⟨i + 1, by go_num, by have := hik.out; show i + 1 + (gk - 1) = _; omega, hF.out.drewN _⟩
    · go_wp2
      go_ret
      exact ⟨rfl, hF.out⟩
/-- A script that came in: its acts' three numbers. -/
def ScrAt (w : World) (v : Value) (acts : List (Int × Int × Int)) : Prop :=
  ∃ A c, v = .slice A acts.length c ∧ acts.length ≤ 1000000000000000 ∧ (∀ x ∈ acts, True) ∧ (acts ≠ [] → ∃ b o, A = some ⟨b, o, none⟩ ∧ b < w.heap.size ∧
    ∀ i x, acts[i]? = some x → w.cell? ⟨b, o + i * 3, none⟩ = some (.int .i64 x.1) ∧ w.cell? ⟨b, o + i * 3 + 1, none⟩ = some (.int .i64 x.2.1) ∧ w.cell? ⟨b, o + i * 3 + 2, none⟩ = some (.int .i64 x.2.2))
theorem ScrAt.fr {w w' : World} {v : Value} {acts : List (Int × Int × Int)} {S : Nat → Prop} (h : ScrAt w v acts) (hF : Fr S w w') (hS : ∀ k, k < w.heap.size → ¬ S k) : ScrAt w' v acts := by
  obtain ⟨A, c, hv, hl, ht, hc⟩ := h
  refine ⟨A, c, hv, hl, ht, fun hne => ?_⟩
  obtain ⟨b, o, hA, hb, hcells⟩ := hc hne
  refine ⟨b, o, hA, by have := hF.size; omega, fun i x hx => ?_⟩
  obtain ⟨h1, h2, h3⟩ := hcells i x hx
  exact ⟨(hF.cell hb (hS b hb)).trans h1, (hF.cell hb (hS b hb)).trans h2, (hF.cell hb (hS b hb)).trans h3⟩

namespace Auc
/-- What an act makes of an auction. -/
def stepA (a : Auc) (x : Int × Int × Int) : Auc := if arnd x.1 3 = 2 then a.next.1 else (a.bid x.2.1 x.2.2).1
def runA (a : Auc) (l : List (Int × Int × Int)) : Auc := l.foldl stepA a
theorem stepA_ok {a : Auc} (h : a.Ok) (x : Int × Int × Int) : (stepA a x).Ok := by
  unfold stepA; split
  · exact next_ok h
  · exact bid_ok h _ _
theorem runA_ok {a : Auc} (h : a.Ok) (l : List (Int × Int × Int)) : (runA a l).Ok := by
  unfold runA
  induction l generalizing a with
  | nil => exact h
  | cons x l ih => exact ih (stepA_ok h x)
theorem runA_snoc (a : Auc) (l : List (Int × Int × Int)) (x : Int × Int × Int) : runA a (l ++ [x]) = stepA (runA a l) x := by unfold runA; rw [List.foldl_append]; rfl
def beg (supply : Int) : Auc := { supply := 1 + arnd supply 300, start := 10, step := 3, round := 1, state := 0, l := List.replicate 4 (0, 0) }
theorem beg_made (supply : Int) : made (1 + arnd supply 300) 10 3 4 = some (beg supply) := by
  have := arnd_bound supply 300 (by omega)
  unfold made
  rw [if_neg (by omega)]; rfl
theorem beg_ok (supply : Int) : (beg supply).Ok := (made_ok (beg_made supply)).1
end Auc

def BegPost (w : World) (a : Auc) (e : Ending) (w' : World) : Prop := ∃ p q, e = .returned (.pointer (some ⟨p, 0, none⟩)) ∧ w.heap.size ≤ p ∧ w.heap.size ≤ q ∧ AucAt w' p q a ∧ Fr nob w w'

set_option maxHeartbeats 3200000 in
theorem begun_any (w : World) (supply : Int) (v : Value) (acts : List (Int × Int × Int)) (hs : ScrAt w v acts) :
    Calls Try.prog 11 #[.int .i64 supply, v] w (BegPost w (Auc.runA (Auc.beg supply) (acts.take 100))) := by
  obtain ⟨A, c, rfl, hl, _, _⟩ := id hs
  have hb := arnd_bound supply 300 (by omega)
  obtain ⟨hb0, hb1⟩ := hb
  go_enter Try.func11, Try.ntmps11
  go_wp2_with fail
  refine (around_any w supply 300 (by omega) (by omega)).mono ?_
  rintro e w' ⟨rfl, rfl⟩
  go_wp2_with fail
  refine (new_any w (1 + arnd supply 300) 10 3 4).mono ?_
  rintro e w1 ⟨hF, hres⟩
  rw [Auc.beg_made] at hres
  obtain ⟨p, q, rfl, hp, hq, hA⟩ := hres
  have HF := Lib.hid hF
  clear hF
  go_wp2
  go_loopg [7] (acts.length) (fun k vi wr => ∃ i : Nat, vi = .int .i64 i ∧ i ≤ 100 ∧ Hid (i + k = acts.length) ∧ Hid (AucAt wr p q (Auc.runA (Auc.beg supply) (acts.take i))) ∧ Hid (Fr nob w wr))
  case atStart => exact ⟨0, rfl, by omega, by show 0 + _ = _; omega, hA, HF.out⟩
  case round =>
    obtain ⟨i, rfl, h100, hik, hAr, hFr⟩ := hrel
    clear hA HF
    have hle : i ≤ acts.length := by have := hik.out; omega
    have hokr := Auc.runA_ok (Auc.beg_ok supply) (acts.take i)
    obtain ⟨cu, hcu⟩ : ∃ cu, Auc.runA (Auc.beg supply) (acts.take i) = cu := ⟨_, rfl⟩
    rw [hcu] at hAr hokr
    have Hcu := Lib.hid hcu
    clear hcu
    by_cases hlt : i < acts.length
    · by_cases hlt2 : i < 100
      · obtain ⟨x, hx⟩ : ∃ x, acts[i]? = some x := ⟨_, List.getElem?_eq_getElem hlt⟩
        have hsr := hs.fr hFr.out (fun _ _ h => h)
        obtain ⟨A2, c2, e2, _, _, hc2⟩ := hsr
        obtain ⟨b, o, hA2, hbl, hcl⟩ := hc2 (by intro h; rw [h] at hlt; simp at hlt)
        simp only [Value.slice.injEq, true_and] at e2
        obtain ⟨rfl, rfl⟩ := e2
        subst hA2
        obtain ⟨c1, c3, c4⟩ := hcl i x hx
        have hrs : Hid (Auc.runA (Auc.beg supply) (acts.take (i + 1)) = Auc.stepA cu x) := by
          show _ = _
          rw [List.take_add_one, hx, Option.toList_some, Auc.runA_snoc, Hcu.out]
        have v1 : (i : Int) < (acts.length : Int) := by omega
        have har := arnd_bound x.1 3 (by omega)
        clear hcl hc2 hx
        by_cases h2 : arnd x.1 3 = 2
        · have hst : Hid (Auc.stepA cu x = cu.next.1) := if_pos h2
          have Ha := Lib.hid h2
          clear h2
          go_wp2_with fail
          refine (around_any wr x.1 3 (by omega) (by omega)).mono ?_
          rw [Ha.out]
          rintro e w' ⟨rfl, rfl⟩
          go_wp2_with fail
          refine (next_any wr p q cu hAr.out hokr).mono ?_
          rintro e w2 ⟨rfl, hA3, hF3⟩
          go_wp2
          go_roundg (gk - 1)
          case measure => have := hik.out; omega
          case rel => exact ⟨i + 1, by go_num, by omega, by have := hik.out; show i + 1 + (gk - 1) = _; omega, by show AucAt _ _ _ _; rw [hrs.out, hst.out]; exact hA3, hFr.out.trans' hF3 (fun k hk h => by rcases h with h | h <;> omega)⟩
        · have hst : Hid (Auc.stepA cu x = (cu.bid x.2.1 x.2.2).1) := if_neg h2
          have h2' : (arnd x.1 3 == 2) = false := by simpa using h2
          clear h2
          go_wp2_with fail
          refine (around_any wr x.1 3 (by omega) (by omega)).mono ?_
          rintro e w' ⟨rfl, rfl⟩
          go_wp2_with fail
          go_still_tail 11, (by kernel_rfl)
          change wpList _ _ _ _ _ wr.drew
          have hAd := hAr.out.drew
          have hFd := Lib.hid hFr.out.drew
          generalize wr.drew = W at hAd hFd ⊢
          go_wp2_with fail
          refine (bid_any W p q cu x.2.1 x.2.2 hAd hokr).mono ?_
          rintro e w2 ⟨rfl, hA3, hF3⟩
          go_wp2
          go_roundg (gk - 1)
          case measure => have := hik.out; omega
          case rel => exact ⟨i + 1, by go_num, by omega, by have := hik.out; show i + 1 + (gk - 1) = _; omega, by show AucAt _ _ _ _; rw [hrs.out, hst.out]; exact hA3, hFd.out.trans' hF3 (fun k hk h => by rcases h with h | h <;> omega)⟩
      · have h100' : (100 : Int) ≤ (i : Int) := by omega
        go_wp2
        go_ret
        have e : acts.take i = acts.take 100 := by rw [show i = 100 by omega]
        rw [← e, Hcu.out]
        exact ⟨p, q, rfl, hp, hq, hAr.out, hFr.out⟩
    · go_wp2
      go_ret
      have e : acts.take i = acts.take 100 := by rw [List.take_of_length_le (by omega), List.take_of_length_le (by omega)]
      rw [← e, Hcu.out]
      exact ⟨p, q, rfl, hp, hq, hAr.out, hFr.out⟩
end Go.Proofs.Ytpkongocabnciaa
