/-
  WALK: math/bits.Mul64, acc.mul
-/
import Derived.Test.YgctafAcc3
namespace Go.Proofs.Ygctaf
open Go.RowKit

theorem mul_parts (x0 x1 y0 y1 : Nat) (h0 : x0 < 4294967296) (h1 : x1 < 4294967296) (k0 : y0 < 4294967296) (k1 : y1 < 4294967296) :
    ∃ p00 p10 p01 p11 : Nat, x0 * y0 = p00 ∧ x1 * y0 = p10 ∧ x0 * y1 = p01 ∧ x1 * y1 = p11 ∧ p00 ≤ 18446744065119617025 ∧ p10 ≤ 18446744065119617025 ∧ p01 ≤ 18446744065119617025 ∧ p11 ≤ 18446744065119617025 ∧
      (x0 + 4294967296 * x1) * (y0 + 4294967296 * y1) = p00 + 4294967296 * (p10 + p01) + 18446744073709551616 * p11 := by
  have b : ∀ a c : Nat, a < 4294967296 → c < 4294967296 → a * c ≤ 18446744065119617025 := fun a c ha hc => by
    have := Nat.mul_le_mul (show a ≤ 4294967295 by omega) (show c ≤ 4294967295 by omega)
    omega
  refine ⟨_, _, _, _, rfl, rfl, rfl, rfl, b _ _ h0 k0, b _ _ h1 k0, b _ _ h0 k1, b _ _ h1 k1, ?_⟩
  rw [Nat.add_mul, Nat.mul_add, Nat.mul_add]
  have e1 : x0 * (4294967296 * y1) = 4294967296 * (x0 * y1) := by rw [Nat.mul_left_comm]
  have e2 : 4294967296 * x1 * y0 = 4294967296 * (x1 * y0) := by rw [Nat.mul_assoc]
  have e3 : 4294967296 * x1 * (4294967296 * y1) = 18446744073709551616 * (x1 * y1) := by
    rw [Nat.mul_assoc, Nat.mul_left_comm x1, ← Nat.mul_assoc]
  rw [e1, e2, e3]; omega

set_option maxHeartbeats 1000000 in
theorem mul64_any (x y : Nat) (hx : x < 2 ^ 64) (hy : y < 2 ^ 64) (w : World) :
    Calls Tafg.prog 120 #[.int .u64 (x : Int), .int .u64 (y : Int)] w fun e w' => e = .returned (.tuple #[.int .u64 ((x * y / 18446744073709551616 : Nat) : Int), .int .u64 ((x * y % 18446744073709551616 : Nat) : Int)]) ∧ w' = w := by
  obtain ⟨x0, x1, ex, h0, h1⟩ : ∃ a b : Nat, x = a + 4294967296 * b ∧ a < 4294967296 ∧ b < 4294967296 := ⟨x % 4294967296, x / 4294967296, by omega, by omega, by omega⟩
  obtain ⟨y0, y1, ey, k0, k1⟩ : ∃ a b : Nat, y = a + 4294967296 * b ∧ a < 4294967296 ∧ b < 4294967296 := ⟨y % 4294967296, y / 4294967296, by omega, by omega, by omega⟩
  obtain ⟨p00, p10, p01, p11, m00, m10, m01, m11, b00, b10, b01, b11, hm⟩ := mul_parts x0 x1 y0 y1 h0 h1 k0 k1
  rw [← ex, ← ey] at hm
  have a1 : bits .and .u64 (x : Int) 4294967295 = (x0 : Int) := by
    have := u64_and_nat x 4294967295 hx (by decide)
    rw [show (4294967295 : Int) = ((4294967295 : Nat) : Int) from rfl, this, show (4294967295 : Nat) = 2 ^ 32 - 1 from rfl, Nat.and_two_pow_sub_one_eq_mod]; omega
  have a2 : bits .and .u64 (y : Int) 4294967295 = (y0 : Int) := by
    have := u64_and_nat y 4294967295 hy (by decide)
    rw [show (4294967295 : Int) = ((4294967295 : Nat) : Int) from rfl, this, show (4294967295 : Nat) = 2 ^ 32 - 1 from rfl, Nat.and_two_pow_sub_one_eq_mod]; omega
  have s1 : (x : Int) / 4294967296 = (x1 : Int) := by omega
  have s2 : (y : Int) / 4294967296 = (y1 : Int) := by omega
  have c00 : (x0 : Int) * (y0 : Int) = (p00 : Int) := by rw [← m00]; simp
  have c10 : (x1 : Int) * (y0 : Int) = (p10 : Int) := by rw [← m10]; simp
  have c01 : (x0 : Int) * (y1 : Int) = (p01 : Int) := by rw [← m01]; simp
  have c11 : (x1 : Int) * (y1 : Int) = (p11 : Int) := by rw [← m11]; simp
  obtain ⟨t, ht⟩ : ∃ t : Nat, t = p10 + p00 / 4294967296 := ⟨_, rfl⟩
  have d1 : (p10 : Int) + (p00 : Int) / 4294967296 = (t : Int) := by omega
  have d0 : IntKind.u64.wrap ((p10 : Int) + (p00 : Int) / 4294967296) = (t : Int) := by rw [IntKind.wrap_u64]; omega
  have a3 : bits .and .u64 (t : Int) 4294967295 = ((t % 4294967296 : Nat) : Int) := by
    have := u64_and_nat t 4294967295 (by omega) (by decide)
    rw [show (4294967295 : Int) = ((4294967295 : Nat) : Int) from rfl, this, show (4294967295 : Nat) = 2 ^ 32 - 1 from rfl, Nat.and_two_pow_sub_one_eq_mod]
  obtain ⟨z, hz⟩ : ∃ z, z = x * y := ⟨_, rfl⟩
  have cxy : (x : Int) * (y : Int) = (z : Int) := by rw [hz]; simp
  rw [← hz] at hm ⊢
  have HM := hid hm
  have HT := hid ht
  clear hx hy ex ey hm ht hz m00 m10 m01 m11
  go_enter Tafg.func120, Tafg.ntmps120
  go_wp2
  go_ret2
  have e1 : (p11 : Int) + (t : Int) / 4294967296 + ((t : Int) % 4294967296 + (p01 : Int)) / 4294967296 = ((z / 18446744073709551616 : Nat) : Int) := by
    have := HM.out
    have := HT.out
    omega
  have e2 : IntKind.u64.wrap (z : Int) = ((z % 18446744073709551616 : Nat) : Int) := by rw [IntKind.wrap_u64]; omega
  refine ⟨?_, rfl⟩
  rw [← e1, ← e2]
  rfl

theorem accMul_any (x y : Nat) (hx : x < 2 ^ 64) (hy : y < 2 ^ 64) (w : World) :
    Calls Tafg.prog 115 #[.int .u64 (x : Int), .int .u64 (y : Int)] w fun e w' => e = .returned (.tuple #[.int .u64 ((x * y / 18446744073709551616 : Nat) : Int), .int .u64 ((x * y % 18446744073709551616 : Nat) : Int)]) ∧ w' = w := by
  have h := mul64_any x y hx hy
  generalize x * y / 18446744073709551616 = a at *
  generalize x * y % 18446744073709551616 = b at *
  go_enter Tafg.func115, Tafg.ntmps115
  go_wp2_with (first | (go_at_call 120; refine same_mono (h _) ?_))
  go_ret2
  exact ⟨rfl, rfl⟩
end Go.Proofs.Ygctaf
