/-
  WALKS: law.ends, law.atMost, law.quarter.
-/
import Derived.Test.YgctafW3
namespace Go.Proofs.Ygctaf
open Go.RowKit

theorem and_bit (m k : Nat) (hm : m < 2 ^ 64) : (bits .and .u64 ((m : Int) / 2 ^ k) 1 != 0) = m.testBit k := by
  have e : ((m : Int) / 2 ^ k) = ((m / 2 ^ k : Nat) : Int) := by
    rw [Int.natCast_ediv, Int.natCast_pow]; rfl
  have hle : m / 2 ^ k < 18446744073709551616 := Nat.lt_of_le_of_lt (Nat.div_le_self _ _) hm
  have := u64_and_nat (m / 2 ^ k) 1 hle (by decide)
  rw [e, show (1 : Int) = ((1 : Nat) : Int) from rfl, this, nat_mask1]
  rw [Nat.testBit_eq_decide_div_mod_eq, Bool.eq_iff_iff, bne_iff_ne, decide_eq_true_eq]
  omega
theorem lowN_succ (m n : Nat) : lowN m (n + 1) = if lowN m n < 0 then (if m.testBit n then (n : Int) else -1) else lowN m n := rfl
theorem highN_succ (m n : Nat) : highN m (n + 1) = if m.testBit n then (n : Int) else highN m n := rfl
theorem lowN_neg {m n : Nat} (h : lowN m n < 0) : lowN m n = -1 := by
  rcases lowN_spec m n with ⟨h1, _⟩ | ⟨l, h1, _⟩ <;> omega
theorem ends_low1 {m k : Nat} (hm : m < 2 ^ 64) (h : (bits .and .u64 ((m : Int) / 2 ^ k) 1 != 0) = true) (hl : lowN m k < 0) : lowN m (k + 1) = k ∧ highN m (k + 1) = k := by
  rw [and_bit m k hm] at h
  rw [lowN_succ, highN_succ, if_pos hl, if_pos h, if_pos h]; exact ⟨rfl, rfl⟩
theorem ends_low2 {m k : Nat} (hm : m < 2 ^ 64) (h : (bits .and .u64 ((m : Int) / 2 ^ k) 1 != 0) = true) (hl : 0 ≤ lowN m k) : lowN m (k + 1) = lowN m k ∧ highN m (k + 1) = k := by
  rw [and_bit m k hm] at h
  rw [lowN_succ, highN_succ, if_neg (by omega), if_pos h]; exact ⟨rfl, rfl⟩
theorem ends_low3 {m k : Nat} (hm : m < 2 ^ 64) (h : (bits .and .u64 ((m : Int) / 2 ^ k) 1 != 0) = false) : lowN m (k + 1) = lowN m k ∧ highN m (k + 1) = highN m k := by
  rw [and_bit m k hm] at h
  rw [lowN_succ, highN_succ]
  simp only [h]
  refine ⟨?_, rfl⟩
  by_cases hl : lowN m k < 0
  · rw [if_pos hl, lowN_neg hl]; rfl
  · rw [if_neg hl]

set_option maxHeartbeats 400000 in
theorem ends_any (m : Nat) (hm : m < 2 ^ 64) (w : World) :
    Calls Tafg.prog 83 #[.int .u64 m] w fun e w' => e = .returned (.tuple #[.int .i64 (lowN m 64), .int .i64 (highN m 64)]) ∧ w' = w := by
  have HM : Hid (m < 2 ^ 64) := hm
  clear hm
  go_enter Tafg.func83, Tafg.ntmps83
  go_wp2
  go_loop [2, 3, 4] (fun l h i => ∃ k : Nat, k ≤ 64 ∧ i = .int .i64 k ∧ l = .int .i64 (lowN m k) ∧ h = .int .i64 (highN m k)) (fun _ _ i => 64 - (intOf i).toNat)
  case atStart => exact ⟨0, Nat.zero_le _, rfl, rfl, rfl⟩
  case round =>
    obtain ⟨k, hk, rfl, rfl, rfl⟩ := hrel
    by_cases hlt : k < 64
    · have hb : (k : Int) < 64 := by omega
      go_wp2
      · go_round
        case rel => 
          have := ends_low1 HM.out (by assumption) (by assumption)
          exact ⟨k + 1, by omega, by go_num, by rw [this.1], by rw [this.2]⟩
        case measure => simp [intOf]; omega
      · go_round
        case rel => 
          have := ends_low2 HM.out (by assumption) (by assumption)
          exact ⟨k + 1, by omega, by go_num, by rw [this.1], by rw [this.2]⟩
        case measure => simp [intOf]; omega
      · go_round
        case rel => 
          have := ends_low3 HM.out (by assumption)
          exact ⟨k + 1, by omega, by go_num, by rw [this.1], by rw [this.2]⟩
        case measure => simp [intOf]; omega
    · have e : k = 64 := by omega
      subst e
      go_wp2
      go_ret2
      exact ⟨rfl, rfl⟩

theorem bool_not (b : Bool) : (b = true ∨ b = false) := by cases b <;> simp

set_option maxHeartbeats 400000 in
theorem atMost_any (x : Nat) (hx : x < 2 ^ 64) (e0 : Int) (w : World) :
    Calls Tafg.prog 27 #[.float .f64 x, .int .i64 e0] w fun e w' => e = .returned (.bool (atMostB x e0)) ∧ w' = w := by
  unfold atMostB
  have hsp := split_any x hx
  have hcs := split_cases x hx
  generalize splitF x = s at *
  obtain ⟨sn, sm, se, sc⟩ := s
  have hb : sc = 0 ∨ sc = 2 ∨ sc = 3 ∨ (sc = 1 ∧ sm < 2 ^ 53 ∧ -1074 ≤ se ∧ se ≤ 971 ∧ sm ≠ 0) := by
    rcases hcs with ⟨h, _⟩ | ⟨h, _⟩ | ⟨h, _⟩ | ⟨m, i, h, _, _, h1, h2, h3, h4, _⟩
    · cases h; simp
    · cases h; simp
    · cases h; simp
    · cases h; simp [h1]; omega
  clear hcs hx
  unfold splitV at hsp
  dsimp only at hsp ⊢
  rcases hb with rfl | rfl | rfl | ⟨rfl, h1, h2, h3, h4⟩
  · go_enter Tafg.func27, Tafg.ntmps27
    go_wp2_with (first | (go_at_call 82; refine (hsp _).mono ?_; rintro e w' ⟨rfl, rfl⟩))
    go_ret
    exact ⟨rfl, rfl⟩
  · go_enter Tafg.func27, Tafg.ntmps27
    go_wp2_with (first | (go_at_call 82; refine (hsp _).mono ?_; rintro e w' ⟨rfl, rfl⟩))
    go_ret
    exact ⟨rfl, rfl⟩
  · go_enter Tafg.func27, Tafg.ntmps27
    go_wp2_with (first | (go_at_call 82; refine (hsp _).mono ?_; rintro e w' ⟨rfl, rfl⟩))
    go_ret
    exact ⟨rfl, rfl⟩
  · have hen := ends_any sm (by omega)
    have b1 : 0 ≤ highN sm 64 ∧ highN sm 64 < 64 := by have := ends_spec sm h4 (by omega); omega
    obtain ⟨b1, b2⟩ := b1
    clear h1 h4
    rw [if_neg (by simp)]
    generalize highN sm 64 = H at *
    generalize lowN sm 64 = L at *
    by_cases g1 : se + H < e0
    · have e1 : decide (se + H < e0) = true := by simpa using g1
      rw [e1]
      go_enter Tafg.func27, Tafg.ntmps27
      go_wp2_with (first | (go_at_call 82; refine (hsp _).mono ?_; rintro e w' ⟨rfl, rfl⟩) | (go_at_call 83; refine (hen _).mono ?_; rintro e w' ⟨rfl, rfl⟩))
      go_ret
      exact ⟨rfl, rfl⟩
    · have e1 : decide (se + H < e0) = false := by simpa using g1
      by_cases g2 : se + H = e0
      · have e2 : decide (se + H = e0) = true := by simpa using g2
        by_cases g3 : L = H
        · subst g3; subst g2
          rw [e1, e2]
          have e3 : decide (L = L) = true := by simp
          rw [e3]
          go_enter Tafg.func27, Tafg.ntmps27
          go_wp2_with (first | (go_at_call 82; refine (hsp _).mono ?_; rintro e w' ⟨rfl, rfl⟩) | (go_at_call 83; refine (hen _).mono ?_; rintro e w' ⟨rfl, rfl⟩))
          go_ret
          exact ⟨rfl, rfl⟩
        · subst g2
          have e3 : (L == H) = false := by simpa using g3
          have e4 : decide (L = H) = false := by simpa using g3
          rw [e1, e2, e4]
          go_enter Tafg.func27, Tafg.ntmps27
          go_wp2_with (first | (go_at_call 82; refine (hsp _).mono ?_; rintro e w' ⟨rfl, rfl⟩) | (go_at_call 83; refine (hen _).mono ?_; rintro e w' ⟨rfl, rfl⟩))
          go_ret
          exact ⟨rfl, rfl⟩
      · have e2 : decide (se + H = e0) = false := by simpa using g2
        have e3 : (se + H == e0) = false := by simpa using g2
        rw [e1, e2]
        go_enter Tafg.func27, Tafg.ntmps27
        go_wp2_with (first | (go_at_call 82; refine (hsp _).mono ?_; rintro e w' ⟨rfl, rfl⟩) | (go_at_call 83; refine (hen _).mono ?_; rintro e w' ⟨rfl, rfl⟩))
        go_ret
        exact ⟨rfl, rfl⟩

theorem lquarter_any (x : Nat) (hx : x < 2 ^ 64) (w : World) :
    Calls Tafg.prog 25 #[.float .f64 x] w fun e w' => e = .returned (.bool (quarterB x)) ∧ w' = w := by
  have h := atMost_any x hx (-2)
  rw [quarter_eq x hx] at h
  clear hx
  go_enter Tafg.func25, Tafg.ntmps25
  go_wp2_with (first | (go_at_call 27; refine (h _).mono ?_; rintro e w' ⟨rfl, rfl⟩))
  go_ret
  exact ⟨rfl, rfl⟩
end Go.Proofs.Ygctaf
