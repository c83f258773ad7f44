/- The walk of the layer's own example (gavellaw07.awake). -/
import Derived.Test.YtpkongocabnciaaSale
namespace Go.Proofs.Ytpkongocabnciaa
open Go.RowKit
set_option linter.unusedVariables false
set_option linter.unusedSimpArgs false

namespace Awk
def a0 : Auc := ⟨5, 10, 2, 1, 0, [(0, 0), (0, 0)]⟩
def a1 : Auc := ⟨5, 10, 2, 1, 0, [(0, 4), (0, 0)]⟩
def a2 : Auc := ⟨5, 10, 2, 1, 0, [(0, 4), (0, 3)]⟩
def a3 : Auc := ⟨5, 10, 2, 2, 0, [(4, 4), (3, 3)]⟩
def a4 : Auc := ⟨5, 10, 2, 2, 0, [(4, 1), (3, 3)]⟩
def a5 : Auc := ⟨5, 10, 2, 2, 1, [(4, 1), (3, 3)]⟩
theorem m0 : Auc.made 5 10 2 2 = some a0 := by decide
theorem b1 : a0.bid 0 4 = (a1, 0) := by decide
theorem b2 : a1.bid 1 3 = (a2, 0) := by decide
theorem n3 : a2.next = (a3, false, 0) := by decide
theorem p3 : a3.price = 12 := by decide
theorem b3 : a3.bid 0 5 = (a3, 71) := by decide
theorem b4 : a3.bid 0 1 = (a4, 0) := by decide
theorem n5 : a4.next = (a5, true, 0) := by decide
theorem s5 : a5.sale = (10, [2, 3], 0) := by decide
theorem ok0 : a0.Ok := (Auc.made_ok m0).1
theorem ok1 : a1.Ok := by have h := Auc.bid_ok ok0 0 4; rw [b1] at h; exact h
theorem ok2 : a2.Ok := by have h := Auc.bid_ok ok1 1 3; rw [b2] at h; exact h
theorem ok3 : a3.Ok := by have h := Auc.next_ok ok2; rw [n3] at h; exact h
theorem ok4 : a4.Ok := by have h := Auc.bid_ok ok3 0 1; rw [b4] at h; exact h
theorem ok5 : a5.Ok := by have h := Auc.next_ok ok4; rw [n5] at h; exact h
end Awk

theorem fr_pq {w w1 w2 : World} {p q : Nat} (h : Fr nob w w1) (hp : w.heap.size ≤ p) (hq : w.heap.size ≤ q) (h2 : Fr (fun k => k = p ∨ k = q) w1 w2) : Fr nob w w2 :=
  h.trans' h2 (fun k hk h => by rcases h with h | h <;> omega)

set_option maxHeartbeats 3200000 in
theorem awake_any (w : World) : Calls Try.prog 8 #[] w fun e w' => e = .returned (.bool true) ∧ Fr nob w w' := by
  go_enter Try.func8, Try.ntmps8
  go_wp2_with fail
  refine (new_any w 5 10 2 2).mono ?_
  rintro e w1 ⟨hF, hres⟩
  rw [Awk.m0] at hres
  obtain ⟨p, q, rfl, hp, hq, hA⟩ := hres
  have HF := Lib.hid hF
  clear hF
  go_wp2_with fail
  refine (bid_any _ p q Awk.a0 0 4 hA Awk.ok0).mono ?_
  rw [Awk.b1]
  rintro e w2 ⟨rfl, hA1, hF1⟩
  have HF1 := Lib.hid (fr_pq HF.out hp hq hF1)
  clear hF1 HF hA
  go_wp2_with fail
  refine (bid_any _ p q Awk.a1 1 3 hA1 Awk.ok1).mono ?_
  rw [Awk.b2]
  rintro e w3 ⟨rfl, hA2, hF2⟩
  have HF2 := Lib.hid (fr_pq HF1.out hp hq hF2)
  clear hF2 HF1 hA1
  go_wp2_with fail
  refine (next_any _ p q Awk.a2 hA2 Awk.ok2).mono ?_
  rw [Awk.n3]
  rintro e w4 ⟨rfl, hA3, hF3⟩
  have HF3 := Lib.hid (fr_pq HF2.out hp hq hF3)
  clear hF3 HF2 hA2
  go_wp2_with fail
  refine (price_any _ p q Awk.a3 hA3 Awk.ok3.bd).mono ?_
  rw [Awk.p3]
  rintro e w5 ⟨rfl, n5, rfl⟩
  have hA3' := hA3.drewN n5
  have HF3' := Lib.hid (HF3.out.drewN n5)
  clear hA3 HF3
  go_wp2_with fail
  refine (bid_any _ p q Awk.a3 0 5 hA3' Awk.ok3).mono ?_
  rw [Awk.b3]
  rintro e w6 ⟨rfl, hA4, hF4⟩
  have HF4 := Lib.hid (fr_pq HF3'.out hp hq hF4)
  clear hF4 HF3' hA3'
  go_wp2_with fail
  refine (bid_any _ p q Awk.a3 0 1 hA4 Awk.ok3).mono ?_
  rw [Awk.b4]
  rintro e w7 ⟨rfl, hA5, hF5⟩
  have HF5 := Lib.hid (fr_pq HF4.out hp hq hF5)
  clear hF5 HF4 hA4
  go_wp2_with fail
  refine (next_any _ p q Awk.a4 hA5 Awk.ok4).mono ?_
  rw [Awk.n5]
  rintro e w8 ⟨rfl, hA6, hF6⟩
  have HF6 := Lib.hid (fr_pq HF5.out hp hq hF6)
  clear hF6 HF5 hA5
  go_wp2_with fail
  refine (sale_any _ p q Awk.a5 hA6 Awk.ok5).mono ?_
  rw [Awk.s5]
  rintro e w9 ⟨v, rfl, hown, hF7, hnil⟩
  have HF7 := Lib.hid (HF6.out.trans hF7)
  obtain ⟨g, c, rfl⟩ := ownsRow_some hown (by simp)
  have c0 := own_get (j := 0) hown (u := .int .i64 2) rfl
  have c1 := own_get (j := 1) hown (u := .int .i64 3) rfl
  clear hF7 HF6 hnil hown hA6
  go_wp2
  go_ret
  exact ⟨rfl, HF7.out⟩
end Go.Proofs.Ytpkongocabnciaa
