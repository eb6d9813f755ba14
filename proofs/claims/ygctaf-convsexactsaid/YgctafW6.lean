/-
  WALKS: fft.level, fft.fits.
-/
import Derived.Test.YgctafW5
namespace Go.Proofs.Ygctaf
open Go.RowKit

theorem pow_inj {j k : Nat} (h : 2 ^ k = 2 ^ j) : k = j := Nat.pow_right_inj (by decide) |>.1 h
theorem wrap_pow {j : Nat} (h : j ≤ 62) : wrap64 ((2 : Int) ^ j) = ((2 ^ j : Nat) : Int) := by
  have h1 : 2 ^ j ≤ 2 ^ 62 := Nat.pow_le_pow_right (by decide) h
  have e : (2 : Int) ^ j = ((2 ^ j : Nat) : Int) := by rw [Int.natCast_pow]; rfl
  rw [e]
  generalize 2 ^ j = x at *
  unfold wrap64; omega
theorem level_yes {n k j : Nat} (hn : n = 2 ^ k) (hj : j ≤ 11) (h : ((n : Int) == wrap64 ((2 : Int) ^ j)) = true) : k = j := by
  rw [wrap_pow (by omega), beq_iff_eq] at h
  have : n = 2 ^ j := by exact_mod_cast h
  exact pow_inj (hn.symm.trans this)
theorem level_not {n k j : Nat} (hn : n = 2 ^ k) (hj : j ≤ 11) (h : ((n : Int) == wrap64 ((2 : Int) ^ j)) = false) : k ≠ j := by
  rintro rfl
  rw [wrap_pow (by omega), hn] at h
  simp at h

theorem level_pow (k n : Nat) (hk : k ≤ 11) (hn : n = 2 ^ k) (w : World) :
    Calls Tafg.prog 78 #[.int .i64 (n : Int)] w fun e w' => e = .returned (.int .i64 k) ∧ w' = w := by
  have HN : Hid (n = 2 ^ k) := hn
  clear hn
  go_enter Tafg.func78, Tafg.ntmps78
  go_wp2
  go_loop [2, 3] (fun _ i => ∃ j : Nat, j ≤ k ∧ i = .int .i64 j) (fun _ i => 12 - (intOf i).toNat)
  case atStart => exact ⟨0, Nat.zero_le _, rfl⟩
  case round =>
    obtain ⟨j, hj, rfl⟩ := hrel
    have b1 : (j : Int) ≤ 11 := by omega
    go_wp2
    · have e := level_yes (j := j) HN.out (by omega) (by assumption)
      subst e
      go_ret
      exact ⟨rfl, rfl⟩
    · have e := level_not (j := j) HN.out (by omega) (by assumption)
      go_round
      case rel => exact ⟨j + 1, by omega, by go_num⟩
      case measure => simp [intOf]; omega

theorem fits_two (k h : Nat) (hk : 1 ≤ k) (hk2 : k ≤ 11) (hh : 2 * h = 2 ^ k) (w : World) :
    Calls Tafg.prog 74 #[.int .i64 ((2 * h : Nat) : Int), .int .i64 (h : Int)] w fun e w' => e = .returned (.bool true) ∧ w' = w := by
  have hl := level_pow k (2 * h) hk2 hh
  have hb : 2 ^ k ≤ 2 ^ 11 := Nat.pow_le_pow_right (by decide) hk2
  have b0 : h ≤ 1024 := by omega
  have b1 : (1 : Int) ≤ (k : Int) := by omega
  clear hh hb
  go_enter Tafg.func74, Tafg.ntmps74
  go_wp2_with (first | (go_at_call 78; refine same_mono (hl _) ?_))
  go_ret
  exact ⟨rfl, rfl⟩

theorem fits_one (w : World) :
    Calls Tafg.prog 74 #[.int .i64 1, .int .i64 0] w fun e w' => e = .returned (.bool true) ∧ w' = w := by
  go_enter Tafg.func74, Tafg.ntmps74
  go_wp2
  go_ret
  exact ⟨rfl, rfl⟩
end Go.Proofs.Ygctaf
