/- The walks of (*wire.writer).number and wire.PutInt: a number's bytes. -/
import Derived.Test.YtpkongocabnciaaNum
namespace Go.Proofs.Ytpkongocabnciaa
open Go.RowKit
set_option linter.unusedVariables false
set_option linter.unusedSimpArgs false

theorem Try.infoU8 : (Try.prog.info? 5).map (fun i => (i.zero, i.size, i.bytes)) = some (some (.int .u8 0), 1, 1) := by kernel_rfl

theorem i64_or128_right (y : Int) (h₀ : 0 ≤ y) (h₁ : y < 128) : bits .or .i64 y 128 = y + 128 := by
  have hc : bits .or .i64 y 128 = bits .or .i64 128 y := by simp only [bits, BitVec.or_comm]
  rw [hc, bits_join .i64 63 (by decide) (fun n h0 h1 => by rw [IntKind.wrap_i64]; omega) 7 128 y (by decide) (by decide) (by decide) h₀ h₁ (by omega)]
  omega
theorem byte_next (m : Nat) : bits .or .i64 (bits .and .i64 (m : Int) 127) 128 % 256 = ((m % 128 + 128 : Nat) : Int) := by
  rw [i64_and127, i64_or128_right _ (by omega) (by omega)]; omega

set_option maxHeartbeats 800000 in
set_option maxRecDepth 100000 in
theorem writer_number (w : World) (p n : Nat) (v : Value) (len : Nat) (xs : List Value) (hn : n ≤ 9007199254740992) (hp : w.cell? ⟨p, 0, none⟩ = some v) (hf : w.frozen? ⟨p, 0, none⟩ = false)
    (hown : w.ownsRow 0 5 1 v len xs) (hpv : ∀ k, v.ownBlock = some k → k ≠ p) (hlen : len ≤ 1099511627000) :
    Calls Try.prog 46 #[.pointer (some ⟨p, 0, none⟩), .int .i64 n] w fun e w' => e = .returned (.pointer (some ⟨p, 0, none⟩)) ∧
      ∃ v', w'.cell? ⟨p, 0, none⟩ = some v' ∧ w'.frozen? ⟨p, 0, none⟩ = false ∧ w'.ownsRow 0 5 1 v' (len + (numB n).length) (xs ++ u8s (numB n)) ∧ (∀ k, v'.ownBlock = some k → k ≠ p) ∧
        (∀ k, v'.ownBlock = some k → v.ownBlock = some k ∨ w.heap.size ≤ k) ∧ Fr (fun k => k = p ∨ v.ownBlock = some k) w w' := by
  obtain ⟨i0, hi, hz0, hz1, hz2⟩ := info_parts Try.infoU8
  go_enter Try.func46, Try.ntmps46
  go_wp2
  go_loopg [1] (n + 1) (fun k i wr => ∃ (m : Nat) (pre : List Nat) (u : Value), i = .int .i64 m ∧ Hid (m < k) ∧ m ≤ 9007199254740992 ∧ Hid (pre ++ numB m = numB n) ∧ wr.cell? ⟨p, 0, none⟩ = some u ∧ wr.frozen? ⟨p, 0, none⟩ = false ∧
    wr.ownsRow 0 5 1 u (len + pre.length) (xs ++ u8s pre) ∧ Hid (∀ k, u.ownBlock = some k → k ≠ p) ∧ Hid (∀ k, u.ownBlock = some k → v.ownBlock = some k ∨ w.heap.size ≤ k) ∧ Hid (Fr (fun k => k = p ∨ v.ownBlock = some k) w wr))
  case atStart => exact ⟨n, [], v, rfl, Nat.lt_succ_self n, hn, rfl, hp, hf, by simpa [u8s] using hown, hpv, fun k hk => .inl hk, Fr.refl _ _⟩
  case round =>
    obtain ⟨m, pre, u, rfl, hmk, hm, hpre, hp1, hf1, hown1, hpu, hub, hfr⟩ := hrel
    obtain ⟨A, c, rfl⟩ := ownsRow_shape hown1
    by_cases hlt : 128 ≤ m
    · go_wp2_with (first | (at_builtin; go_loud (refine wpList_append_one rfl (.tmp 11) (.tmp 16) 81 rfl 5 i0 (.int .u8 0) 1 1 Try.underlying81 hi hz0 hz1 hz2 rfl (by decide) (by decide) _ _ _ _ rfl hown1 _ rfl rfl (by intro u hu; simp at hu; subst hu; rfl) (by have := numB_len8 n hn; have := congrArg List.length hpre.out; simp at this; omega) ?_)))
      intro g c' w1 hown2 hg hgr
      have hcell := hgr.cell hp1 (by intro e; exact hpu.out p e.symm rfl)
      have hfz : w1.frozen? ⟨p, 0, none⟩ = false := by rw [World.frozen?_of_block (hgr.block _ (World.block_lt_of_cell? _ _ hp1) (by intro e; exact hpu.out p e.symm rfl))]; exact hf1
      have hgp : g ≠ p := by
        rcases hg with hg | hg
        · exact hpu.out g hg
        · have := World.block_lt_of_cell? _ _ hp1; simp at this; omega
      go_wp2
      go_roundg m
      case measure => exact hmk.out
      case rel => 
        rw [byte_next] at hown2
        refine ⟨m / 128, pre ++ [m % 128 + 128], .slice (some ⟨g, 0, none⟩) (len + pre.length + 1) c', by go_num, by show m / 128 < m; omega, by omega, ?_, World.cell?_setCell_same _ _ _ hcell, by simp [hfz], ?_, ?_, ?_, ?_⟩
        · show pre ++ [m % 128 + 128] ++ numB (m / 128) = numB n
          rw [← hpre.out, numB_big hlt]; simp
        · have h := ownsRow_setCell (a := ⟨p, 0, none⟩) hown2 (own_some hgp) (.slice (some ⟨g, 0, none⟩) (len + pre.length + 1) c')
          simpa [u8s, Nat.add_assoc] using h
        · exact own_some hgp
        · refine own_some ?_
          rcases hg with hg | hg
          · exact hub.out g hg
          · exact .inr (by have := hfr.out.size; omega)
        · exact (hfr.out.grown hgr (fun k hk e => by rcases hub.out k e with h | h; exact .inr h; omega)).setCell (fun _ => .inl rfl) _
    · go_wp2_with (first | (at_builtin; go_loud (refine wpList_append_one rfl (.tmp 26) (.tmp 29) 81 rfl 5 i0 (.int .u8 0) 1 1 Try.underlying81 hi hz0 hz1 hz2 rfl (by decide) (by decide) _ _ _ _ rfl hown1 _ rfl rfl (by intro u hu; simp at hu; subst hu; rfl) (by have := numB_len8 n hn; have := congrArg List.length hpre.out; simp at this; omega) ?_)))
      intro g c' w1 hown2 hg hgr
      have hcell := hgr.cell hp1 (by intro e; exact hpu.out p e.symm rfl)
      have hfz : w1.frozen? ⟨p, 0, none⟩ = false := by rw [World.frozen?_of_block (hgr.block _ (World.block_lt_of_cell? _ _ hp1) (by intro e; exact hpu.out p e.symm rfl))]; exact hf1
      have hgp : g ≠ p := by
        rcases hg with hg | hg
        · exact hpu.out g hg
        · have := World.block_lt_of_cell? _ _ hp1; simp at this; omega
      go_wp2
      go_ret
      have e2 : pre ++ [m] = numB n := by rw [← hpre.out, numB_small (by omega)]
      refine ⟨rfl, .slice (some ⟨g, 0, none⟩) (len + pre.length + 1) c', World.cell?_setCell_same _ _ _ hcell, by simp [hfz], ?_, own_some hgp, ?_, ?_⟩
      · have h := ownsRow_setCell (a := ⟨p, 0, none⟩) hown2 (own_some hgp) (.slice (some ⟨g, 0, none⟩) (len + pre.length + 1) c')
        rw [← e2]
        simpa [u8s, Nat.add_assoc] using h
      · refine own_some ?_
        rcases hg with hg | hg
        · exact hub.out g hg
        · exact .inr (by have := hfr.out.size; omega)
      · exact (hfr.out.grown hgr (fun k hk e => by rcases hub.out k e with h | h; exact .inr h; omega)).setCell (fun _ => .inl rfl) _
/-- What PutInt answers: the bytes, and 0; or nothing, and 1. -/
def putInt (n : Int) : ByteArray × Int := if 0 ≤ n ∧ n ≤ 9007199254740992 then (strN (numB n.toNat), 0) else (ByteArray.empty, 1)

theorem putInt_of (n : Int) (h0 : 0 ≤ n) (h1 : n ≤ 9007199254740992) : putInt n = (strN (numB n.toNat), 0) := by unfold putInt; rw [if_pos ⟨h0, h1⟩]

set_option maxHeartbeats 800000 in
set_option maxRecDepth 100000 in
theorem put_int (w : World) (n : Int) : Calls Try.prog 38 #[.int .i64 n] w fun e w' => e = .returned (.tuple #[.string (putInt n).1, .int .i64 (putInt n).2]) ∧ Fr nob w w' := by
  by_cases h0 : 0 ≤ n
  · by_cases h1 : n ≤ 9007199254740992
    · obtain ⟨m, rfl⟩ := Int.eq_ofNat_of_zero_le h0
      have hp : Hid (putInt (m : Int) = (strN (numB m), 0)) := by unfold putInt; rw [if_pos ⟨h0, h1⟩]; rfl
      go_enter Try.func38, Try.ntmps38
      go_wp2_with fail
      refine (writer_number _ w.heap.size m (.slice none 0 0) 0 [] (by omega) (by simp [cell_obj (heap_alloc_new w _)]) (frozen_obj (heap_alloc_new w _) 0) (World.ownsRow_nil _ _ _ _) (fun k hk => by cases hk) (by omega)).mono ?_
      rintro e w1 ⟨rfl, v', hc1, hf1, hown1, hne1, hblk, hfr⟩
      obtain ⟨A, c, rfl⟩ := ownsRow_shape hown1
      simp only [Nat.zero_add, List.nil_append] at hown1 hc1
      have hcv := run_convert_own (dst := 9) Try.underlying81 Try.underlying5 Try.underlying9 hown1
      have HF : Hid (Fr nob w w1) := ((Fr.refl nob w).alloc _).trans' hfr (fun k hk h => by rcases h with h | h; omega; cases h)
      clear hown1 hne1 hblk hfr
      go_wp2
      go_ret2
      exact ⟨by rw [hp.out]; rfl, HF.out⟩
    · have hp : Hid (putInt n = (ByteArray.empty, 1)) := by unfold putInt; rw [if_neg (by omega)]; rfl
      go_enter Try.func38, Try.ntmps38
      go_wp2
      go_ret2
      exact ⟨by rw [hp.out]; rfl, Fr.refl _ _⟩
  · have hp : Hid (putInt n = (ByteArray.empty, 1)) := by unfold putInt; rw [if_neg (by omega)]; rfl
    go_enter Try.func38, Try.ntmps38
    go_wp2
    go_ret2
    exact ⟨by rw [hp.out]; rfl, Fr.refl _ _⟩
end Go.Proofs.Ytpkongocabnciaa
