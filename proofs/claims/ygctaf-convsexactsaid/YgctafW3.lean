/-
  WALKS: fbits.Split64, law.ends, law.atMost, law.quarter.
-/
import Derived.Test.YgctafMem
import Derived.Test.YgctafW1
import Derived.Test.YgctafSplit
namespace Go.Proofs.Ygctaf
open Go.RowKit

theorem and_field (x : Nat) (hx : x < 2 ^ 64) : bits .and .u64 ((x : Int) / 4503599627370496) 2047 = ((fieldN x : Nat) : Int) := by
  have e : ((x : Int) / 4503599627370496) = ((x / 4503599627370496 : Nat) : Int) := by omega
  have := u64_and_nat (x / 4503599627370496) 2047 (by omega) (by decide)
  rw [e, show (2047 : Int) = ((2047 : Nat) : Int) from rfl, this, nat_mask11]
  rfl
theorem and_man (x : Nat) (hx : x < 2 ^ 64) : bits .and .u64 (x : Int) 4503599627370495 = ((manN x : Nat) : Int) := by
  have := u64_and_nat x 4503599627370495 (by omega) (by decide)
  rw [show (4503599627370495 : Int) = ((4503599627370495 : Nat) : Int) from rfl, this]
  congr 1
  exact Nat.and_two_pow_sub_one_eq_mod x 52
theorem or_man (m : Nat) (hm : m < 2 ^ 52) : bits .or .u64 (m : Int) 4503599627370496 = ((m + 2 ^ 52 : Nat) : Int) := by
  have := u64_or_nat m 4503599627370496 (by omega) (by decide)
  rw [show (4503599627370496 : Int) = ((4503599627370496 : Nat) : Int) from rfl, this]
  congr 1
  rw [Nat.or_comm]
  have h := nat_join 52 4503599627370496 m (by decide) hm
  rw [h, Nat.add_comm]
theorem neg_shift (x : Nat) : ((x : Int) / 9223372036854775808 != 0) = negN x := by
  unfold negN
  rw [Bool.eq_iff_iff]
  simp only [bne_iff_ne, ne_eq]
  omega

def splitV (s : Bool × Nat × Int × Nat) : Value := .tuple #[.bool s.1, .int .u64 s.2.1, .int .i16 s.2.2.1, .int .u8 s.2.2.2]

set_option maxRecDepth 100000 in
theorem split_any (x : Nat) (hx : x < 2 ^ 64) (w : World) :
    Calls Tafg.prog 82 #[.float .f64 x] w fun e w' => e = .returned (splitV (splitF x)) ∧ w' = w := by
  have h1 := and_field x hx
  have h2 := and_man x hx
  have h3 := neg_shift x
  have h4 := or_man (manN x) (by unfold manN; omega)
  have hm : manN x < 2 ^ 52 := by unfold manN; omega
  have hf : fieldN x < 2048 := by unfold fieldN; omega
  have hs : splitF x = (if fieldN x = 2047 then
    if manN x ≠ 0 then (false, 0, 0, 3) else (negN x, 0, 0, 2)
  else if fieldN x ≠ 0 then (negN x, manN x + 2 ^ 52, (fieldN x : Int) - 1075, 1)
  else if manN x = 0 then (negN x, 0, 0, 0)
  else (negN x, manN x, -1074, 1)) := rfl
  rw [hs]
  generalize fieldN x = F at *
  generalize manN x = M at *
  generalize negN x = S at *
  have w1 : IntKind.i16.wrap (F : Int) = F := by simp [IntKind.wrap, IntKind.bits, IntKind.signed]; omega
  have w2 : IntKind.i16.wrap ((F : Int) - 1075) = F - 1075 := by simp [IntKind.wrap, IntKind.bits, IntKind.signed]; omega
  clear hs hx hm
  by_cases g1 : F = 2047
  · subst g1
    by_cases g2 : M = 0
    · subst g2
      clear h4
      go_enter Tafg.func82, Tafg.ntmps82
      go_wp2_with (first | (go_at_call 112; refine (bits64_any _ _).mono ?_; rintro e w' ⟨rfl, rfl⟩))
      exact bodyPost_ret (v := splitV (S, 0, 0, 2)) (by simp [results, Tafg.results82, go_sem, splitV]) rfl ⟨rfl, rfl⟩
    · have g3 : ((M : Int) != 0) = true := by simp [g2]
      rw [if_pos rfl, if_pos g2]
      go_enter Tafg.func82, Tafg.ntmps82
      go_wp2_with (first | (go_at_call 112; refine (bits64_any _ _).mono ?_; rintro e w' ⟨rfl, rfl⟩))
      exact bodyPost_ret (v := splitV (false, 0, 0, 3)) (by simp [results, Tafg.results82, go_sem, splitV]) rfl ⟨rfl, rfl⟩
  · have g1' : ((F : Int) == 2047) = false := by simp; omega
    rw [if_neg g1]
    by_cases g2 : F = 0
    · subst g2
      by_cases g3 : M = 0
      · subst g3
        clear h4
        go_enter Tafg.func82, Tafg.ntmps82
        go_wp2_with (first | (go_at_call 112; refine (bits64_any _ _).mono ?_; rintro e w' ⟨rfl, rfl⟩))
        exact bodyPost_ret (v := splitV (S, 0, 0, 0)) (by simp [results, Tafg.results82, go_sem, splitV]) rfl ⟨rfl, rfl⟩
      · have g4 : ((M : Int) == 0) = false := by simp [g3]
        rw [if_neg (by decide), if_neg g3]
        go_enter Tafg.func82, Tafg.ntmps82
        go_wp2_with (first | (go_at_call 112; refine (bits64_any _ _).mono ?_; rintro e w' ⟨rfl, rfl⟩))
        exact bodyPost_ret (v := splitV (S, M, -1074, 1)) (by simp [results, Tafg.results82, go_sem, splitV]) rfl ⟨rfl, rfl⟩
    · have g3 : ((F : Int) != 0) = true := by simp [g2]
      rw [if_pos g2]
      go_enter Tafg.func82, Tafg.ntmps82
      go_wp2_with (first | (go_at_call 112; refine (bits64_any _ _).mono ?_; rintro e w' ⟨rfl, rfl⟩))
      exact bodyPost_ret (v := splitV (S, M + 2 ^ 52, (F : Int) - 1075, 1)) (by simp [results, Tafg.results82, go_sem, splitV]) rfl ⟨rfl, rfl⟩

end Go.Proofs.Ygctaf
