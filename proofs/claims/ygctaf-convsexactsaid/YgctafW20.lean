/-
  WALK: law.cut of a power of two
-/
import Derived.Test.YgctafW16
namespace Go.Proofs.Ygctaf
open Go.RowKit Ieee

theorem cut_full (n : Nat) (w : World) :
    Calls Tafg.prog 46 #[.int .i64 (n : Int)] w fun e w' => ∃ kk : Nat, e = .returned (.int .i64 ((kk : Int) - 1)) ∧ w' = w ∧ kk ≤ 12 ∧ (kk = 0 ∨ 2 ^ (kk - 1) ≤ n) ∧ (kk = 12 ∨ n < 2 ^ kk) := by
  go_enter Tafg.func46, Tafg.ntmps46
  go_wp2
  go_loop [3] (fun s => ∃ kk : Nat, kk ≤ 12 ∧ s = .int .i64 ((kk : Int) - 1) ∧ (kk = 0 ∨ 2 ^ (kk - 1) ≤ n)) (fun s => 20 - (intOf s + 1).toNat)
  case atStart => exact ⟨0, by omega, rfl, .inl rfl⟩
  case round =>
    obtain ⟨kk, hkk, rfl, hle⟩ := hrel
    have HLE := hid hle
    clear hle
    by_cases hlt : kk < 12
    · have d1 : (kk : Int) - 1 < 11 := by omega
      obtain ⟨pp, hpp⟩ : ∃ x, x = 2 ^ kk := ⟨_, rfl⟩
      have w1 := wrap_at (j := kk) (by omega) hpp
      have HPP := hid hpp
      clear hpp
      by_cases hm : pp ≤ n
      · have c1 : (pp : Int) ≤ (n : Int) := by omega
        go_wp2
        go_round
        case rel => exact ⟨kk + 1, by omega, by go_num, .inr (by rw [Nat.add_sub_cancel, ← HPP.out]; exact hm)⟩
        case measure => simp [intOf]; omega
      · have c1 : ¬ ((pp : Int) ≤ (n : Int)) := by omega
        go_wp2
        go_ret
        exact ⟨kk, rfl, rfl, hkk, HLE.out, .inr (by rw [← HPP.out]; omega)⟩
    · have e : kk = 12 := by omega
      subst e
      go_wp2
      go_ret
      exact ⟨12, rfl, rfl, hkk, HLE.out, .inl rfl⟩
theorem cut_pow (n k : Nat) (hk : k ≤ 11) (hn : n = 2 ^ k) (w : World) :
    Calls Tafg.prog 46 #[.int .i64 (n : Int)] w fun e w' => e = .returned (.int .i64 (k : Int)) ∧ w' = w := by
  refine (cut_full n w).mono ?_
  rintro e w' ⟨kk, rfl, rfl, hkk, h1, h2⟩
  have e : kk = k + 1 := by
    rcases h1 with rfl | h1
    · rcases h2 with h2 | h2
      · omega
      · have := Nat.two_pow_pos k
        omega
    · rw [hn] at h1 h2
      have a := (Nat.pow_le_pow_iff_right (by decide : 1 < 2)).1 h1
      rcases h2 with h2 | h2
      · omega
      · have b := (Nat.pow_lt_pow_iff_right (by decide : 1 < 2)).1 h2
        omega
  subst e
  refine ⟨?_, rfl⟩
  rw [show ((k + 1 : Nat) : Int) - 1 = (k : Int) from by omega]
end Go.Proofs.Ygctaf
