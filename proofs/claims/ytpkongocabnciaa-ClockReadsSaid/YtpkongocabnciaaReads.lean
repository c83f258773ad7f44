/- The law ClockReads: any bytes are an auction's just if they are such as one can have; then they are its bytes. No condition. -/
import Derived.Test.YtpkongocabnciaaRows
import Derived.Test.YtpkongocabnciaaTk
import Derived.Test.YtpkongocabnciaaOf
import Derived.Test.YtpkongocabnciaaOfB
import Derived.Test.YtpkongocabnciaaCbyt
import Derived.Test.YtpkongocabnciaaCawk
import Derived.WalkKit
import Derived.ProofKit
import Derived.OpenShut
import Derived.ShutString
import Derived.ChangeOld
import Derived.Below
import Derived.SizedLaws
namespace Go.Proofs.Ytpkongocabnciaa.clockReads
open Go.ChangeShapes Go.WideShapes Go.ChangeAt Go.RowKit
open Go.ChangeMaps (open_string shut_string)
set_option linter.unusedVariables false
set_option linter.unusedSimpArgs false

theorem own : ownKnob Try.prog.godebug = none := by kernel_rfl

set_option maxHeartbeats 1600000 in
theorem walk (s : ByteArray) (hs : s.size ≤ 140737488351232) (w : World) :
    Calls Try.prog 5 #[.string s] w fun e w' => e = .returned (.bool true) ∧ Below w.heap.size w w' := by
  have htk := Auc.taken_of s
  cases ho : Auc.of s with
  | none =>
    rw [ho] at htk
    have Ho := Lib.hid ho
    have Htk := Lib.hid htk
    clear ho htk
    go_enter Try.func5, Try.ntmps5
    go_wp2_with fail
    refine (of_any _ s (by omega)).mono ?_
    rintro e w1 ⟨hF1, hres⟩
    rw [Ho.out] at hres
    have he : e = .returned (.tuple #[.pointer none, .int .i64 92]) := hres
    subst he
    clear hres
    go_wp2_with fail
    refine (taken_any _ s (by omega)).mono ?_
    rw [Htk.out]
    rintro e w2 ⟨rfl, hF2⟩
    go_wp2_with fail
    refine (awake_any _).mono ?_
    rintro e w3 ⟨rfl, hF3⟩
    have HF := Lib.hid ((hF1.trans hF2).trans hF3)
    clear hF1 hF2 hF3
    go_wp2
    go_ret
    exact ⟨rfl, HF.out.below' (fun _ _ h => h)⟩
  | some a =>
    rw [ho] at htk
    obtain ⟨hb, hok⟩ := Auc.of_bytes ho
    have Ho := Lib.hid ho
    have Htk := Lib.hid htk
    have Hb := Lib.hid hb
    clear ho htk hb
    go_enter Try.func5, Try.ntmps5
    go_wp2_with fail
    refine (of_any _ s (by omega)).mono ?_
    rintro e w1 ⟨hF1, hres⟩
    rw [Ho.out] at hres
    obtain ⟨p, q, rfl, hp, hq, hA⟩ := hres
    go_wp2_with fail
    refine (taken_any _ s (by omega)).mono ?_
    rw [Htk.out]
    rintro e w2 ⟨rfl, hF2⟩
    have hA2 := hA.fr hF2 id id
    go_wp2_with fail
    refine (bytes_any _ p q a hA2 hok).mono ?_
    rw [Hb.out]
    rintro e w3 ⟨rfl, hF3⟩
    go_wp2_with fail
    refine (awake_any _).mono ?_
    rintro e w4 ⟨rfl, hF4⟩
    have HF := Lib.hid (((hF1.trans hF2).trans hF3).trans hF4)
    clear hF1 hF2 hF3 hF4 hA hA2
    go_wp2
    go_ret
    exact ⟨rfl, HF.out.below' (fun _ _ h => h)⟩

set_option maxRecDepth 100000 in
theorem lifted (os : Os) (started : os.Started) (H : Type) (enc : TypeId × Value → H) :
    ReturnsInHanded {} Try.checked os 5 .any (Rows.clockReadsSpec.pre6 enc Try.prog Try.f5 Rows.clockReadsRow.domain false) (Rows.clockReadsSpec.post enc Try.prog Try.f5 false true false false) := by
  refine returnsInHanded_of_change_sized (C := Try.checked) own started (by kernel_rfl) Try.func5
    (ChangeSpec.witness6 (enc := enc) (C := Try.checked) false ⟨#[], #[.string ByteArray.empty], []⟩ 8 (by kernel_rfl) (by kernel_rfl) (by kernel_rfl) (by kernel_rfl)) ?_
  intro W base args ds gs before hval0 hW hcnd hsz0 _
  have hsz : (DataW.weightsEach Try.prog (Try.f5.params.toList ++ Rows.clockReadsSpec.plain.varTypes Try.prog) (ds ++ gs)).all (· ≤ reachBytes) = true := hsz0
  have hval : ∀ (j : Nat) t v, Try.f5.params[j]? = some t → args[j]? = some v → Value.okWide Try.prog W .any base t v := hval0
  have hW' := hW
  obtain ⟨p, q, hA0, hV, rfl, hfz, hnd⟩ := hW
  have hA : DataW.TrodAll enc Try.prog W 0 (fun _ => true) true Try.f5.params.toList args.toList ds p := hA0
  rw [Try.params5] at hA hval hsz
  obtain ⟨v0, vs0, d0, ds0, p0, q0, hargs, rfl, rfl, h0, r0⟩ := trodAll_cons hA
  obtain ⟨rfl, rfl, rfl⟩ := trodAll_nil r0
  obtain rfl : args = #[v0] := by cases args; simp_all
  obtain ⟨rfl, rfl⟩ := trodVars_none hV
  obtain ⟨a0, rfl, rfl, rfl, y0⟩ := open_string Try.underlying9 (hval 0 9 v0 rfl rfl) h0
  have w0 : a0.size ≤ 140737488351232 := by
    have z := sized_string hsz (j := 0) (t := 9) rfl rfl
    rw [Array.length_toList] at z
    exact z
  clear hA0 hval0 hsz0 hsz
  refine (walk a0 w0 W).mono fun e W' ⟨he, bel⟩ => ?_
  subst he
  exact ⟨_, rfl, _, _, _, [], _, [], hW', trodAll_mk1 (shut_bool Try.underlying4 _), (trodAll_cons_mk (shut_string Try.underlying9 y0) trodAll_mk0), rfl, bel.frame _, fun h => by cases h⟩

theorem over : Rows.clockReadsRow.holds Try.pinned (OpenSpec.ofChange Rows.clockReadsSpec) :=
  OpenClaim.holds_of_wide 5 Try.f5 rfl rfl rfl rfl rfl rfl rfl ⟨rfl, rfl, rfl, rfl, rfl⟩ rfl rfl rfl rfl rfl (by kernel_rfl) Try.func5 (by kernel_rfl)
    (of_decide_eq_true (by kernel_rfl)) (by unfold Func.isWrapper; first | (rw [if_pos (by decide +kernel)]; kernel_rfl) | (rw [if_neg (by decide +kernel)]; exact ⟨rfl, rfl⟩))
    (fun os started H enc _ => lifted os started H enc)

theorem proved : Rows.ClockReadsSaid := over
end Go.Proofs.Ytpkongocabnciaa.clockReads
namespace Go.Proofs.Ytpkongocabnciaa
/-- The row, under a short name, for the claim. -/
theorem clockReads_holds : Rows.ClockReadsSaid := clockReads.proved
#print axioms clockReads_holds
end Go.Proofs.Ytpkongocabnciaa
