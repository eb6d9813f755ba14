/-
  Acc.Shl, PLAIN (by less than 64 places).
-/
import Derived.Test.YgctafAccNum
namespace Go.Proofs.Ygctaf

theorem emod_mul_l (a b n : Int) : a % n * b % n = a * b % n := by rw [Int.mul_emod, Int.emod_emod, ← Int.mul_emod]
theorem dg_shl_zero (x : Int) (s : Nat) : dg (x * 2 ^ s) 0 = (dg x 0 * 2 ^ s) % 18446744073709551616 := by
  unfold dg
  rw [Nat.mul_zero, Int.pow_zero, Int.ediv_one, Int.ediv_one, emod_mul_l]
theorem dg_shl_succ (x : Int) (s t i : Nat) (ht : t + s = 64) : dg (x * 2 ^ s) (i + 1) = (dg x (i + 1) * 2 ^ s) % 18446744073709551616 + dg x i / 2 ^ t := by
  have hM := M_pos i
  have hS : (0 : Int) < 2 ^ s := Int.pow_pos (by decide)
  have hT : (0 : Int) < 2 ^ t := Int.pow_pos (by decide)
  have eB : (18446744073709551616 : Int) = 2 ^ t * 2 ^ s := by rw [← Int.pow_add, ht]; rfl
  unfold dg
  rw [M_succ]
  generalize (2 : Int) ^ (64 * i) = M at *
  rw [← Int.ediv_ediv_of_nonneg (Int.le_of_lt hM) (x := x), ← Int.ediv_ediv_of_nonneg (Int.le_of_lt hM) (x := x * 2 ^ s)]
  have x1 := Int.mul_ediv_add_emod x M
  have r1 := Int.emod_nonneg x (Int.ne_of_gt hM)
  have r2 := Int.emod_lt_of_pos x hM
  generalize x / M = u at *
  generalize x % M = r at *
  -- the lower part moves at most 2^s
  have c1 : x * 2 ^ s / M = u * 2 ^ s + r * 2 ^ s / M := by
    rw [← x1, Int.add_mul, Int.mul_assoc, Int.add_comm (M * (u * 2 ^ s)), Int.add_mul_ediv_left _ _ (Int.ne_of_gt hM), Int.add_comm]
  have d1 : 0 ≤ r * 2 ^ s / M := Int.ediv_nonneg (Int.mul_nonneg r1 (Int.le_of_lt hS)) (Int.le_of_lt hM)
  have d2 : r * 2 ^ s / M < 2 ^ s := Int.ediv_lt_of_lt_mul hM (by rw [Int.mul_comm]; exact Int.mul_lt_mul_of_pos_left r2 hS)
  rw [c1]
  generalize r * 2 ^ s / M = de at *
  have u1 : u = 18446744073709551616 * (u / 18446744073709551616) + u % 18446744073709551616 := by omega
  have u2 : 0 ≤ u % 18446744073709551616 := by omega
  have u3 : u % 18446744073709551616 < 18446744073709551616 := by omega
  generalize u / 18446744073709551616 = U at *
  generalize u % 18446744073709551616 = d at *
  have c2 : (u * 2 ^ s + de) / 18446744073709551616 = U * 2 ^ s + d / 2 ^ t := by
    have e1 : u * 2 ^ s + de = (d * 2 ^ s + de) + 18446744073709551616 * (U * 2 ^ s) := by rw [u1, Int.add_mul, Int.mul_assoc]; omega
    rw [e1, Int.add_mul_ediv_left _ _ (by decide), Int.add_comm]
    congr 1
    rw [eB, Int.mul_comm (2 ^ t), ← Int.ediv_ediv_of_nonneg (Int.le_of_lt hS), Int.add_comm, Int.mul_comm d, Int.add_mul_ediv_left _ _ (Int.ne_of_gt hS), Int.ediv_eq_zero_of_lt d1 d2, Int.zero_add]
  rw [c2]
  have hd2 : d / 2 ^ t < 2 ^ s := Int.ediv_lt_of_lt_mul hT (by rw [Int.mul_comm, ← eB]; exact u3)
  have hd1 : 0 ≤ d / 2 ^ t := Int.ediv_nonneg u2 (Int.le_of_lt hT)
  generalize d / 2 ^ t = g at *
  -- U*2^s mod B is a multiple of 2^s
  have e3 : U * 2 ^ s % 18446744073709551616 = 2 ^ s * (U % 2 ^ t) := by
    rw [eB, Int.mul_comm U, Int.mul_comm (2 ^ t), Int.mul_emod_mul_of_pos _ _ hS]
  have e4 : (U % 18446744073709551616) * 2 ^ s % 18446744073709551616 = U * 2 ^ s % 18446744073709551616 := by rw [emod_mul_l]
  rw [e4, e3]
  have hu1 := Int.emod_nonneg U (Int.ne_of_gt hT)
  have hu2 := Int.emod_lt_of_pos U hT
  have e5 : U * 2 ^ s + g = (2 ^ s * (U % 2 ^ t) + g) + 18446744073709551616 * (U / 2 ^ t) := by
    have := Int.mul_ediv_add_emod U (2 ^ t)
    generalize U / 2 ^ t = A at *
    generalize U % 2 ^ t = C at *
    rw [← this, eB, Int.add_mul, Int.mul_comm C, Int.mul_right_comm]; omega
  rw [e5, Int.add_mul_emod_self_left]
  generalize U % 2 ^ t = C at *
  have e6 : 2 ^ s * (C + 1) ≤ 2 ^ s * 2 ^ t := Int.mul_le_mul_of_nonneg_left (by omega) (Int.le_of_lt hS)
  rw [Int.mul_comm (2 ^ s) (2 ^ t), ← eB, Int.mul_add, Int.mul_one] at e6
  have e7 := Int.mul_nonneg (Int.le_of_lt hS) hu1
  exact Int.emod_eq_of_lt (by omega) (by omega)
end Go.Proofs.Ygctaf
