/- The walks of (*wire.reader).number, wire.caught, the deferred closure and wire.GetInt: a number is read. -/
import Derived.Test.YtpkongocabnciaaNum
import Derived.Defers
import Derived.Recover
import Derived.WalkLawsBesides
namespace Go.Proofs.Ytpkongocabnciaa
open Go.RowKit
set_option linter.unusedVariables false
set_option linter.unusedSimpArgs false

def faultV (e : Int) : List PanicEntry := [{ v := .iface 86 (.int .i64 e), recovered := false }]

/-- What a reader's number answers. -/
def NumPost (w : World) (p : Nat) (s : ByteArray) (r : Except Int (Nat × List Nat)) (e : Ending) (w' : World) : Prop :=
  Fr (fun k => k = p) w w' ∧
    (match r with
    | .error c => e = .panicked (faultV c)
    | .ok (n, l) => e = .returned (.int .i64 n) ∧ w'.cell? ⟨p, 0, none⟩ = some (.string s) ∧ w'.cell? ⟨p, 1, none⟩ = some (.int .i64 ((s.size - l.length : Nat) : Int)) ∧ w'.frozen? ⟨p, 1, none⟩ = false)

theorem NumPost.err {w : World} {p : Nat} {s : ByteArray} {r : Except Int (Nat × List Nat)} {w' : World} {c : Int} (hr : r = .error c) (hF : Fr (fun k => k = p) w w') : NumPost w p s r (.panicked (faultV c)) w' := by
  subst hr; exact ⟨hF, rfl⟩
theorem NumPost.ok {w : World} {p : Nat} {s : ByteArray} {r : Except Int (Nat × List Nat)} {w' : World} {n m : Nat} {l : List Nat} (hr : r = .ok (n, l)) (hF : Fr (fun k => k = p) w w') (hm : m = s.size - l.length)
    (h0 : w'.cell? ⟨p, 0, none⟩ = some (.string s)) (h1 : w'.cell? ⟨p, 1, none⟩ = some (.int .i64 m)) (h2 : w'.frozen? ⟨p, 1, none⟩ = false) : NumPost w p s r (.returned (.int .i64 n)) w' := by
  subst hr; subst hm; exact ⟨hF, rfl, h0, h1, h2⟩

theorem orstep (n c i : Nat) (hn : n < 128 ^ i) (hi : i < 8) : bits BinOp.or IntKind.i64 (n : Int) (wrap64 (bits BinOp.and IntKind.i64 (c : Int) 127 * 2 ^ (7 * i))) = ((n + c % 128 * 128 ^ i : Nat) : Int) := by
  have hp : (128 : Nat) ^ i = 2 ^ (7 * i) := by rw [Nat.pow_mul]
  have hle : 2 ^ (7 * i) ≤ 2 ^ 49 := Nat.pow_le_pow_right (by omega) (by omega)
  have h3 : c % 128 * 2 ^ (7 * i) ≤ 127 * 2 ^ 49 := Nat.mul_le_mul (by omega) hle
  have hx : bits BinOp.and IntKind.i64 (c : Int) 127 * 2 ^ (7 * i) = ((c % 128 * 2 ^ (7 * i) : Nat) : Int) := by
    rw [i64_and127]; simp
  have hw : wrap64 ((c % 128 * 2 ^ (7 * i) : Nat) : Int) = ((c % 128 * 2 ^ (7 * i) : Nat) : Int) := by unfold wrap64; omega
  rw [hp] at hn ⊢
  rw [hx, hw]
  have hc : ∀ x y : Int, bits .or .i64 x y = bits .or .i64 y x := by intro x y; simp only [bits, BitVec.or_comm]
  rw [hc, bits_join .i64 63 (by decide) (fun n h0 h1 => by rw [IntKind.wrap_i64]; omega) (7 * i) _ _ (by omega) ?_ (by omega) (by omega) ?_ (by omega)]
  · omega
  · rw [Int.natCast_mul]
    show ((c % 128 : Nat) : Int) * ((2 ^ (7 * i) : Nat) : Int) % 2 ^ (7 * i) = 0
    rw [Int.natCast_pow]
    exact Int.mul_emod_left _ _
  · have h := Int.ofNat_lt.2 hn
    rw [Int.natCast_pow] at h
    exact h

set_option maxHeartbeats 1600000 in
set_option maxRecDepth 100000 in
theorem reader_number (w : World) (p : Nat) (s : ByteArray) (at_ : Nat) (hs : s.size ≤ 1152921504606846976) (h0 : w.cell? ⟨p, 0, none⟩ = some (.string s)) (h1 : w.cell? ⟨p, 1, none⟩ = some (.int .i64 at_))
    (hf : w.frozen? ⟨p, 1, none⟩ = false) :
    Calls Try.prog 45 #[.pointer (some ⟨p, 0, none⟩)] w (NumPost w p s (rdNum ((byts s).drop at_) 0 0)) := by
  go_enter Try.func45, Try.ntmps45
  go_wp2
  go_loopg [3, 4] 8 (fun k vn vi wr => ∃ (n i a : Nat), vn = .int .i64 n ∧ vi = .int .i64 i ∧ Hid (i + k = 8) ∧ i < 8 ∧ Hid (n < 128 ^ i) ∧ wr.cell? ⟨p, 0, none⟩ = some (.string s) ∧ wr.cell? ⟨p, 1, none⟩ = some (.int .i64 a) ∧ wr.frozen? ⟨p, 1, none⟩ = false ∧
    Hid (rdNum ((byts s).drop at_) 0 0 = rdNum ((byts s).drop a) i n) ∧ Hid (Fr (fun k => k = p) w wr))
  case atStart => exact ⟨0, 0, at_, rfl, rfl, rfl, by omega, by show 0 < 128 ^ 0; decide, h0, h1, hf, rfl, Fr.refl _ _⟩
  case round =>
    obtain ⟨n, i, a, rfl, rfl, hik, hi8, hn, hc0, hc1, hfr1, hrd, hFr⟩ := hrel
    clear h0 h1 hf
    by_cases ha : a < s.size
    · obtain ⟨c, hc⟩ : ∃ c, (s[a]'ha).toNat = c := ⟨_, rfl⟩
      have hc8 : c < 256 := by rw [← hc]; exact UInt8.toNat_lt _
      have hor := orstep n c i hn.out hi8
      obtain ⟨m, hm⟩ : ∃ m, n + c % 128 * 128 ^ i = m := ⟨_, rfl⟩
      rw [hm] at hor
      have Hm := Lib.hid hm
      clear hm
      have Hd := Lib.hid (byts_drop s a ha)
      by_cases h128 : 128 ≤ c
      · by_cases h7 : ((i : Int) == 7) = true
        · have hi7 : Hid (i = 7) := by have h := h7; simp at h; show i = 7; omega
          go_wp2
          go_quiet (fail)
          go_wp2
          go_quiet (fail)
          go_wp2
          exact ⟨rfl, NumPost.err (by rw [hrd.out, Hd.out, hc, rdNum, if_pos h128, if_pos hi7.out]) (by repeat (first | exact hFr.out | (refine Fr.setCell ?_ ?hS _; (case hS => intro _; rfl)) | refine Fr.drewN ?_ _ | refine Fr.drew ?_))⟩
        · have hi7 : Hid (¬ i = 7) := by intro h; apply h7; subst h; rfl
          simp only [Bool.not_eq_true] at h7
          go_wp2
          go_quiet (fail)
          go_wp2
          go_quiet (fail)
          go_wp2
          go_roundg (7 - i)
          case measure => have := hik.out; omega
          case rel =>
            refine ⟨m, i + 1, a + 1, rfl, by go_num, by have := hik.out; have := hi7.out; show i + 1 + (7 - i) = 8; omega, by have := hi7.out; omega, ?_, ?_, ?_, ?_, ?_, (by repeat (first | exact hFr.out | (refine Fr.setCell ?_ ?hS _; (case hS => intro _; rfl)) | refine Fr.drewN ?_ _ | refine Fr.drew ?_))⟩
            · have h1 := Hm.out
              have h2 := hn.out
              have h3 : c % 128 * 128 ^ i ≤ 127 * 128 ^ i := Nat.mul_le_mul_right _ (by omega)
              show m < 128 ^ (i + 1)
              rw [Nat.pow_succ]; omega
            · exact (World.cell?_setCell_other _ _ _ _ (by simp)).trans hc0
            · have e : ((a + 1 : Nat) : Int) = (a : Int) + 1 := by omega
              rw [e]
              exact World.cell?_setCell_same _ _ _ (u := .int .i64 a) (by simp [hc1])
            · simp [hfr1]
            · show _ = _
              rw [hrd.out, Hd.out, hc, rdNum, if_pos h128, if_neg hi7.out, Hm.out]
      · have hx : Hid (¬ 128 ≤ c) := h128
        go_wp2
        go_quiet (fail)
        go_wp2
        go_quiet (fail)
        go_wp2
        · exact ⟨rfl, NumPost.err (by rw [hrd.out, Hd.out, hc, rdNum, if_neg hx.out, if_neg (by omega), if_pos (by rw [Hm.out]; omega)]) (by repeat (first | exact hFr.out | (refine Fr.setCell ?_ ?hS _; (case hS => intro _; rfl)) | refine Fr.drewN ?_ _ | refine Fr.drew ?_))⟩
        · go_ret
          refine NumPost.ok (m := a + 1) (l := (byts s).drop (a + 1)) (by rw [hrd.out, Hd.out, hc, rdNum, if_neg hx.out, if_neg (by omega), if_neg (by rw [Hm.out]; omega), Hm.out]) (by repeat (first | exact hFr.out | (refine Fr.setCell ?_ ?hS _; (case hS => intro _; rfl)) | refine Fr.drewN ?_ _ | refine Fr.drew ?_)) (by rw [List.length_drop, byts_length]; omega) ((World.cell?_setCell_other _ _ _ _ (by simp)).trans hc0) ?_ (by simp [hfr1])
          have e : ((a + 1 : Nat) : Int) = (a : Int) + 1 := by omega
          rw [e]
          exact World.cell?_setCell_same _ _ _ (u := .int .i64 a) (by simp [hc1])
        · exact ⟨rfl, NumPost.err (by rw [hrd.out, Hd.out, hc, rdNum, if_neg hx.out, if_pos (by omega)]) (by repeat (first | exact hFr.out | (refine Fr.setCell ?_ ?hS _; (case hS => intro _; rfl)) | refine Fr.drewN ?_ _ | refine Fr.drew ?_))⟩
        · exact ⟨rfl, NumPost.err (by rw [hrd.out, Hd.out, hc, rdNum, if_neg hx.out, if_neg (by omega), if_pos (by rw [Hm.out]; omega)]) (by repeat (first | exact hFr.out | (refine Fr.setCell ?_ ?hS _; (case hS => intro _; rfl)) | refine Fr.drewN ?_ _ | refine Fr.drew ?_))⟩
        · go_ret
          refine NumPost.ok (m := a + 1) (l := (byts s).drop (a + 1)) (by rw [hrd.out, Hd.out, hc, rdNum, if_neg hx.out, if_neg (by omega), if_neg (by rw [Hm.out]; omega), Hm.out]) (by repeat (first | exact hFr.out | (refine Fr.setCell ?_ ?hS _; (case hS => intro _; rfl)) | refine Fr.drewN ?_ _ | refine Fr.drew ?_)) (by rw [List.length_drop, byts_length]; omega) ((World.cell?_setCell_other _ _ _ _ (by simp)).trans hc0) ?_ (by simp [hfr1])
          have e : ((a + 1 : Nat) : Int) = (a : Int) + 1 := by omega
          rw [e]
          exact World.cell?_setCell_same _ _ _ (u := .int .i64 a) (by simp [hc1])
    · go_wp2
      go_quiet (fail)
      go_wp2
      exact ⟨rfl, NumPost.err (by rw [hrd.out, List.drop_eq_nil_of_le (by rw [byts_length]; omega), rdNum]) (by repeat (first | exact hFr.out | (refine Fr.setCell ?_ ?hS _; (case hS => intro _; rfl)) | refine Fr.drewN ?_ _ | refine Fr.drew ?_))⟩
theorem caught_assert (c : Int) (w : World) : (Instr.typeAssert (.iface 86 (.int .i64 c)) 20 86 true).run Try.prog w = .ok (.tuple #[.int .i64 c, .bool true]) w := by kernel_rfl

theorem caught_fault (c : Int) (w : World) : Calls Try.prog 44 #[.iface 86 (.int .i64 c)] w fun e w' => e = .returned (.int .i64 c) ∧ w = w' := by
  have hta := caught_assert c
  go_enter Try.func44, Try.ntmps44
  go_wp2
  go_ret
  exact ⟨rfl, rfl⟩

theorem got_panicking (a b d : Nat) (x y z c : Int) (older : List PanicEntry) (w : World) (ha : w.cell? ⟨a, 0, none⟩ = some (.int .i64 x)) (hb : w.cell? ⟨b, 0, none⟩ = some (.int .i64 y)) (hd : w.cell? ⟨d, 0, none⟩ = some (.int .i64 z))
    (fa : w.frozen? ⟨a, 0, none⟩ = false) (fb : w.frozen? ⟨b, 0, none⟩ = false) (fd : w.frozen? ⟨d, 0, none⟩ = false) (hab : a ≠ b) (had : a ≠ d) (hbd : b ≠ d) :
    CallsD Try.prog 43 #[.pointer (some ⟨a, 0, none⟩), .pointer (some ⟨b, 0, none⟩), .pointer (some ⟨d, 0, none⟩)] (.panicking ({ v := .iface 86 (.int .i64 c), recovered := false } :: older)) w fun e u' w' =>
      e = .returned (.tuple #[]) ∧ u' = .panicking ({ v := .iface 86 (.int .i64 c), recovered := true } :: older) ∧ w' = ((w.setCell ⟨a, 0, none⟩ (.int .i64 0)).setCell ⟨b, 0, none⟩ (.int .i64 0)).setCell ⟨d, 0, none⟩ (.int .i64 c) := by
  refine callsD_of_wpS Try.func43 rfl fun c₀ cs hu => ?_
  apply wpS_seq
  apply wpS_region
  change wpOpsS _ _ _ _ { tmps := #[.pointer (some ⟨a, 0, none⟩), .pointer (some ⟨b, 0, none⟩), .pointer (some ⟨d, 0, none⟩), undef, undef, undef, undef, undef, undef], defers := [] } _ _
  simp [wpOpsS, go_sem, recoverD, hu, Try.ntmps43, Exit.thenS]
  refine wpS_of_wp ?_
  go_wp2_with (first | (go_at_call 44; refine (caught_fault c _).mono ?_; rintro e w' ⟨rfl, rfl⟩))
  simp [bodyPostS, results, Try.results43]

theorem got_idle (p q r : Addr) (w : World) :
    CallsD Try.prog 43 #[.pointer (some p), .pointer (some q), .pointer (some r)] .returning w fun e u' w' => e = .returned (.tuple #[]) ∧ u' = .returning ∧ w' = w := by
  refine callsD_of_wpS Try.func43 rfl fun c₀ cs hu => ?_
  apply wpS_seq
  apply wpS_region
  change wpOpsS _ _ _ _ { tmps := #[.pointer (some p), .pointer (some q), .pointer (some r), undef, undef, undef, undef, undef, undef], defers := [] } _ _
  simp [wpOpsS, go_sem, recoverD, hu, Try.ntmps43, Exit.thenS]
  refine wpS_of_wp ?_
  go_wp2
  cases c₀
  simp_all [bodyPostS, results, Try.results43]

/-- What GetInt answers. -/
def getInt (s : ByteArray) (at_ : Int) : Int × Int × Int :=
  if 0 ≤ at_ ∧ at_ ≤ s.size then
    match rdNum ((byts s).drop at_.toNat) 0 0 with
    | .ok (n, l) => (n, ((s.size - l.length : Nat) : Int), 0)
    | .error c => (0, 0, c)
  else (0, 0, 1)

set_option maxHeartbeats 1600000 in
set_option maxRecDepth 100000 in
theorem get_int (w : World) (s : ByteArray) (at_ : Int) (hs : s.size ≤ 1152921504606846976) :
    Calls Try.prog 36 #[.string s, .int .i64 at_] w fun e w' => e = .returned (.tuple #[.int .i64 (getInt s at_).1, .int .i64 (getInt s at_).2.1, .int .i64 (getInt s at_).2.2]) ∧ Fr nob w w' := by
  have hmf : ∀ (fn : Fn) (first cap : Array Value) (w : World), (Instr.makeFunc fn first cap).run Try.prog w = .ok (.func fn first cap) w := fun _ _ _ _ => rfl
  by_cases h0 : 0 ≤ at_
  · by_cases h1 : at_ ≤ s.size
    · obtain ⟨m, rfl⟩ := Int.eq_ofNat_of_zero_le h0
      cases hr : rdNum ((byts s).drop m) 0 0 with
      | error c =>
        have hg : Hid (getInt s (m : Int) = (0, 0, c)) := by show getInt s m = _; unfold getInt; rw [if_pos ⟨h0, h1⟩, Int.toNat_natCast, hr]
        have Hr := Lib.hid hr
        clear hr
        go_enter_defers Try.func36, Try.ntmps36
        go_wp2_with fail
        refine (reader_number _ (w.heap.size + 1 + 1 + 1) s m hs ?_ ?_ ?_).mono ?_
        · rw [World.cell?_alloc_at _ _ _ _ (by simp)]; rfl
        · rw [World.cell?_alloc_at _ _ _ _ (by simp)]; rfl
        · exact World.frozen?_alloc_at _ _ _ _ (by simp)
        rintro e w1 ⟨hF, hres⟩
        rw [Hr.out] at hres
        have he : e = .panicked (faultV c) := hres
        subst he
        have k0 : w1.cell? ⟨w.heap.size, 0, none⟩ = some (.int .i64 0) := by rw [hF.cell (by simp; try omega) (by simp; try omega)]; simp [go_sem]
        have f0 : w1.frozen? ⟨w.heap.size, 0, none⟩ = false := by rw [hF.frozen (by simp; try omega) (by simp; try omega)]; simp [go_sem]
        have k1 : w1.cell? ⟨w.heap.size + 1, 0, none⟩ = some (.int .i64 0) := by rw [hF.cell (by simp; try omega) (by simp; try omega)]; simp [go_sem]
        have f1 : w1.frozen? ⟨w.heap.size + 1, 0, none⟩ = false := by rw [hF.frozen (by simp; try omega) (by simp; try omega)]; simp [go_sem]
        have k2 : w1.cell? ⟨w.heap.size + 1 + 1, 0, none⟩ = some (.int .i64 0) := by rw [hF.cell (by simp; try omega) (by simp; try omega)]; simp [go_sem]
        have f2 : w1.frozen? ⟨w.heap.size + 1 + 1, 0, none⟩ = false := by rw [hF.frozen (by simp; try omega) (by simp; try omega)]; simp [go_sem]
        have HF : Hid (Fr nob w w1) := ((((((Fr.refl nob w).alloc _).alloc _).alloc _).alloc _)).trans' hF (fun i hi h => by omega)
        unfold faultV
        refine leaves_cons (f := 43) (args := #[.pointer (some ⟨w.heap.size, 0, none⟩), .pointer (some ⟨w.heap.size + 1, 0, none⟩), .pointer (some ⟨w.heap.size + 1 + 1, 0, none⟩)]) (by simp) (by simp [go_sem]) ?_
        refine (got_panicking w.heap.size (w.heap.size + 1) (w.heap.size + 1 + 1) 0 0 0 c [] _ k0 k1 k2 f0 f1 f2 (by omega) (by omega) (by omega)).mono ?_
        rintro e u' w'' ⟨rfl, rfl, rfl⟩
        simp [Leaves, settle, results, Try.results36, go_sem, k0, k1, k2, f0, f1, f2]
        exact ⟨by rw [hg.out]; exact ⟨rfl, rfl, rfl⟩, (by repeat (first | exact HF.out | (refine Fr.setCell ?_ ?hS _; (case hS => intro h; simp at h; try omega)) | refine Fr.drewN ?_ _ | refine Fr.drew ?_))⟩
      | ok r =>
        obtain ⟨n, l⟩ := r
        have hg : Hid (getInt s (m : Int) = ((n : Int), ((s.size - l.length : Nat) : Int), 0)) := by show getInt s m = _; unfold getInt; rw [if_pos ⟨h0, h1⟩, Int.toNat_natCast, hr]
        have Hr := Lib.hid hr
        clear hr
        go_enter_defers Try.func36, Try.ntmps36
        go_wp2_with fail
        refine (reader_number _ (w.heap.size + 1 + 1 + 1) s m hs ?_ ?_ ?_).mono ?_
        · rw [World.cell?_alloc_at _ _ _ _ (by simp)]; rfl
        · rw [World.cell?_alloc_at _ _ _ _ (by simp)]; rfl
        · exact World.frozen?_alloc_at _ _ _ _ (by simp)
        rintro e w1 ⟨hF, hres⟩
        rw [Hr.out] at hres
        obtain ⟨rfl, c0, c1, z1⟩ := hres
        have k0 : w1.cell? ⟨w.heap.size, 0, none⟩ = some (.int .i64 0) := by rw [hF.cell (by simp; try omega) (by simp; try omega)]; simp [go_sem]
        have f0 : w1.frozen? ⟨w.heap.size, 0, none⟩ = false := by rw [hF.frozen (by simp; try omega) (by simp; try omega)]; simp [go_sem]
        have k1 : w1.cell? ⟨w.heap.size + 1, 0, none⟩ = some (.int .i64 0) := by rw [hF.cell (by simp; try omega) (by simp; try omega)]; simp [go_sem]
        have f1 : w1.frozen? ⟨w.heap.size + 1, 0, none⟩ = false := by rw [hF.frozen (by simp; try omega) (by simp; try omega)]; simp [go_sem]
        have k2 : w1.cell? ⟨w.heap.size + 1 + 1, 0, none⟩ = some (.int .i64 0) := by rw [hF.cell (by simp; try omega) (by simp; try omega)]; simp [go_sem]
        have f2 : w1.frozen? ⟨w.heap.size + 1 + 1, 0, none⟩ = false := by rw [hF.frozen (by simp; try omega) (by simp; try omega)]; simp [go_sem]
        have HF : Hid (Fr nob w w1) := ((((((Fr.refl nob w).alloc _).alloc _).alloc _).alloc _)).trans' hF (fun i hi h => by omega)
        clear c0 hF
        go_wp2
        go_region
        all_goals go_wp2
        all_goals (refine leaves_cons (f := 43) (args := #[.pointer (some ⟨w.heap.size, 0, none⟩), .pointer (some ⟨w.heap.size + 1, 0, none⟩), .pointer (some ⟨w.heap.size + 1 + 1, 0, none⟩)]) (by simp) (by simp [go_sem]) ?_)
        all_goals (refine (got_idle ⟨w.heap.size, 0, none⟩ ⟨w.heap.size + 1, 0, none⟩ ⟨w.heap.size + 1 + 1, 0, none⟩ _).mono ?_)
        all_goals (rintro e u' w'' ⟨rfl, rfl, rfl⟩)
        all_goals (simp [Leaves, settle, results, Try.results36, go_sem, k0, k1, k2, f0, f1, f2])
        all_goals exact ⟨by rw [hg.out]; exact ⟨rfl, rfl, rfl⟩, (by repeat (first | exact HF.out | (refine Fr.setCell ?_ ?hS _; (case hS => intro h; simp at h; try omega)) | refine Fr.drewN ?_ _ | refine Fr.drew ?_))⟩
    · have hg : Hid (getInt s at_ = (0, 0, 1)) := by show getInt s at_ = _; unfold getInt; rw [if_neg (by omega)]
      go_enter_defers Try.func36, Try.ntmps36
      go_wp2
      refine ⟨.tuple #[.int .i64 0, .int .i64 0, .int .i64 1], by simp [results, Try.results36, go_sem], by rw [hg.out], ?_⟩
      exact by repeat (first | exact Fr.refl _ _ | (refine Fr.setCell ?_ ?hS _; (case hS => intro h; simp at h; try omega)) | refine Fr.alloc ?_ _)
  · have hg : Hid (getInt s at_ = (0, 0, 1)) := by show getInt s at_ = _; unfold getInt; rw [if_neg (by omega)]
    go_enter_defers Try.func36, Try.ntmps36
    go_wp2
    refine ⟨.tuple #[.int .i64 0, .int .i64 0, .int .i64 1], by simp [results, Try.results36, go_sem], by rw [hg.out], ?_⟩
    exact by repeat (first | exact Fr.refl _ _ | (refine Fr.setCell ?_ ?hS _; (case hS => intro h; simp at h; try omega)) | refine Fr.alloc ?_ _)
end Go.Proofs.Ytpkongocabnciaa
