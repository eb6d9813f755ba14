/-
  THE ACCUMULATOR's ARITHMETIC, PLAIN: an integer's 64-bit places, by floor division (so a negative number's are those of its two's complement).
-/
import Derived.Test.YgctafMem
namespace Go.Proofs.Ygctaf

def dg (x : Int) (i : Nat) : Int := x / 2 ^ (64 * i) % 18446744073709551616
def cy (x y : Int) (i : Nat) : Int := (x % 2 ^ (64 * i) + y % 2 ^ (64 * i)) / 2 ^ (64 * i)
def bw (x y : Int) (i : Nat) : Int := -((x % 2 ^ (64 * i) - y % 2 ^ (64 * i)) / 2 ^ (64 * i))

theorem M_pos (i : Nat) : (0 : Int) < 2 ^ (64 * i) := Int.pow_pos (by decide)
theorem M_succ (i : Nat) : (2 : Int) ^ (64 * (i + 1)) = 2 ^ (64 * i) * 18446744073709551616 := by
  rw [Nat.mul_add, Int.pow_add]; rfl
theorem dg_range (x : Int) (i : Nat) : 0 ≤ dg x i ∧ dg x i < 18446744073709551616 := by unfold dg; omega

theorem emod_split (x M : Int) (hM : 0 < M) : x % (M * 18446744073709551616) = x % M + M * (x / M % 18446744073709551616) := by
  have h1 := Int.emod_nonneg x (Int.ne_of_gt hM)
  have h2 := Int.emod_lt_of_pos x hM
  have e1 := Int.mul_ediv_add_emod x M
  generalize hq : x / M = q at *
  generalize hr : x % M = r at *
  have e2 : q = 18446744073709551616 * (q / 18446744073709551616) + q % 18446744073709551616 := by omega
  have b1 : 0 ≤ q % 18446744073709551616 := by omega
  have b2 : q % 18446744073709551616 ≤ 18446744073709551615 := by omega
  generalize q / 18446744073709551616 = h at *
  generalize q % 18446744073709551616 = a at *
  have e3 : x = (r + M * a) + M * 18446744073709551616 * h := by
    rw [← e1, e2, Int.mul_add, ← Int.mul_assoc]; omega
  rw [e3, Int.add_mul_emod_self_left]
  have c1 := Int.mul_nonneg (Int.le_of_lt hM) b1
  have c2 := Int.mul_le_mul_of_nonneg_left b2 (Int.le_of_lt hM)
  exact Int.emod_eq_of_lt (by omega) (by omega)

theorem step_div (M t s : Int) (hM : 0 < M) (h1 : 0 ≤ t) (h2 : t < M) : (t + M * s) / (M * 18446744073709551616) = s / 18446744073709551616 := by
  rw [← Int.ediv_ediv_of_nonneg (Int.le_of_lt hM), Int.add_mul_ediv_left _ _ (Int.ne_of_gt hM), Int.ediv_eq_zero_of_lt h1 h2, Int.zero_add]

theorem add_step (x y : Int) (i : Nat) : dg x i + dg y i + cy x y i = dg (x + y) i + 18446744073709551616 * cy x y (i + 1) := by
  unfold dg cy
  rw [M_succ]
  have hM := M_pos i
  generalize (2 : Int) ^ (64 * i) = M at *
  rw [emod_split x M hM, emod_split y M hM]
  have x1 := Int.mul_ediv_add_emod x M
  have y1 := Int.mul_ediv_add_emod y M
  have c1 := Int.mul_ediv_add_emod (x % M + y % M) M
  have t1 := Int.emod_nonneg (x % M + y % M) (Int.ne_of_gt hM)
  have t2 := Int.emod_lt_of_pos (x % M + y % M) hM
  generalize hc : (x % M + y % M) / M = c at *
  generalize (x % M + y % M) % M = t at *
  have e1 : (x + y) / M = x / M + y / M + c := by
    have : x + y = t + M * (x / M + y / M + c) := by rw [Int.mul_add, Int.mul_add]; omega
    rw [this, Int.add_mul_ediv_left _ _ (Int.ne_of_gt hM), Int.ediv_eq_zero_of_lt t1 t2, Int.zero_add]
  rw [e1]
  have e2 : x % M + M * (x / M % 18446744073709551616) + (y % M + M * (y / M % 18446744073709551616)) = t + M * (x / M % 18446744073709551616 + y / M % 18446744073709551616 + c) := by
    rw [Int.mul_add, Int.mul_add]; omega
  rw [e2, step_div M t _ hM t1 t2]
  generalize x / M = q
  generalize y / M = p
  omega
theorem sub_step (x y : Int) (i : Nat) : dg x i - dg y i - bw x y i = dg (x - y) i - 18446744073709551616 * bw x y (i + 1) := by
  unfold dg bw
  rw [M_succ]
  have hM := M_pos i
  generalize (2 : Int) ^ (64 * i) = M at *
  rw [emod_split x M hM, emod_split y M hM]
  have x1 := Int.mul_ediv_add_emod x M
  have y1 := Int.mul_ediv_add_emod y M
  have c1 := Int.mul_ediv_add_emod (x % M - y % M) M
  have t1 := Int.emod_nonneg (x % M - y % M) (Int.ne_of_gt hM)
  have t2 := Int.emod_lt_of_pos (x % M - y % M) hM
  generalize hc : (x % M - y % M) / M = c at *
  generalize (x % M - y % M) % M = t at *
  have e1 : (x - y) / M = x / M - y / M + c := by
    have : x - y = t + M * (x / M - y / M + c) := by rw [Int.mul_add, Int.mul_sub]; omega
    rw [this, Int.add_mul_ediv_left _ _ (Int.ne_of_gt hM), Int.ediv_eq_zero_of_lt t1 t2, Int.zero_add]
  rw [e1]
  have e2 : x % M + M * (x / M % 18446744073709551616) - (y % M + M * (y / M % 18446744073709551616)) = t + M * (x / M % 18446744073709551616 - y / M % 18446744073709551616 + c) := by
    rw [Int.mul_add, Int.mul_sub]; omega
  rw [e2, step_div M t _ hM t1 t2]
  generalize x / M = q
  generalize y / M = p
  omega
theorem cy_range (x y : Int) (i : Nat) : 0 ≤ cy x y i ∧ cy x y i ≤ 1 := by
  unfold cy
  have hM := M_pos i
  generalize (2 : Int) ^ (64 * i) = M at *
  have a1 := Int.emod_nonneg x (Int.ne_of_gt hM)
  have a2 := Int.emod_lt_of_pos x hM
  have b1 := Int.emod_nonneg y (Int.ne_of_gt hM)
  have b2 := Int.emod_lt_of_pos y hM
  refine ⟨Int.ediv_nonneg (by omega) (Int.le_of_lt hM), ?_⟩
  have := Int.ediv_lt_of_lt_mul hM (show x % M + y % M < 2 * M by omega)
  omega
theorem bw_range (x y : Int) (i : Nat) : 0 ≤ bw x y i ∧ bw x y i ≤ 1 := by
  unfold bw
  have hM := M_pos i
  generalize (2 : Int) ^ (64 * i) = M at *
  have a1 := Int.emod_nonneg x (Int.ne_of_gt hM)
  have a2 := Int.emod_lt_of_pos x hM
  have b1 := Int.emod_nonneg y (Int.ne_of_gt hM)
  have b2 := Int.emod_lt_of_pos y hM
  have h1 := Int.ediv_lt_of_lt_mul hM (show x % M - y % M < 1 * M by omega)
  have h2 : -1 ≤ (x % M - y % M) / M := Int.le_ediv_of_mul_le hM (by omega)
  omega
theorem cy_zero (x y : Int) : cy x y 0 = 0 := by unfold cy; simp
theorem bw_zero (x y : Int) : bw x y 0 = 0 := by unfold bw; simp
/-- One place of a sum, as bits.Add64 gives it. -/
theorem add64_dg (x y : Int) (i : Nat) : (dg x i + dg y i + cy x y i) % 18446744073709551616 = dg (x + y) i ∧ (dg x i + dg y i + cy x y i) / 18446744073709551616 = cy x y (i + 1) := by
  have h := add_step x y i
  have r := dg_range (x + y) i
  rw [h]
  generalize dg (x + y) i = d at *
  generalize cy x y (i + 1) = c at *
  omega
theorem sub64_dg (x y : Int) (i : Nat) : (dg x i - dg y i - bw x y i) % 18446744073709551616 = dg (x - y) i ∧ -((dg x i - dg y i - bw x y i) / 18446744073709551616) = bw x y (i + 1) := by
  have h := sub_step x y i
  have r := dg_range (x - y) i
  rw [h]
  generalize dg (x - y) i = d at *
  generalize bw x y (i + 1) = c at *
  omega
/-- Below the second number's lowest place nothing turns. -/
theorem dg_add_low (x y : Int) (i w : Nat) (h : y % 2 ^ (64 * w) = 0) (hi : i < w) : dg (x + y) i = dg x i := by
  obtain ⟨q, rfl⟩ := Int.dvd_of_emod_eq_zero h
  unfold dg
  have e : (2 : Int) ^ (64 * w) * q = 2 ^ (64 * i) * (18446744073709551616 * (2 ^ (64 * (w - 1 - i)) * q)) := by
    rw [show 64 * w = 64 * i + (64 + 64 * (w - 1 - i)) from by omega, Int.pow_add, Int.pow_add, show (2 : Int) ^ 64 = 18446744073709551616 from rfl, Int.mul_assoc, Int.mul_assoc]
  rw [e, Int.add_mul_ediv_left _ _ (Int.ne_of_gt (M_pos i)), Int.add_mul_emod_self_left]
theorem cy_low (x y : Int) (w : Nat) (h : y % 2 ^ (64 * w) = 0) : cy x y w = 0 := by
  unfold cy
  rw [h, Int.add_zero]
  exact Int.ediv_eq_zero_of_lt (Int.emod_nonneg _ (Int.ne_of_gt (M_pos w))) (Int.emod_lt_of_pos _ (M_pos w))
theorem bw_low (x y : Int) (w : Nat) (h : y % 2 ^ (64 * w) = 0) : bw x y w = 0 := by
  unfold bw
  rw [h, Int.sub_zero, Int.ediv_eq_zero_of_lt (Int.emod_nonneg _ (Int.ne_of_gt (M_pos w))) (Int.emod_lt_of_pos _ (M_pos w))]; rfl
theorem dg_sub_low (x y : Int) (i w : Nat) (h : y % 2 ^ (64 * w) = 0) (hi : i < w) : dg (x - y) i = dg x i := by
  have := dg_add_low x (-y) i w (by obtain ⟨q, rfl⟩ := Int.dvd_of_emod_eq_zero h; rw [← Int.mul_neg, Int.mul_emod_right]) hi
  rw [Int.sub_eq_add_neg]; exact this
/-- From a place on where the second number has nothing left and nothing is carried, nothing turns. -/
theorem dg_add_high (x y : Int) (w : Nat) (hy : ∀ j, w ≤ j → dg y j = 0) (hc : cy x y w = 0) : ∀ j, w ≤ j → cy x y j = 0 ∧ dg (x + y) j = dg x j := by
  intro j hj
  obtain ⟨d, rfl⟩ := Nat.exists_eq_add_of_le hj
  clear hj
  induction d with
  | zero =>
    rw [Nat.add_zero]
    have h := add_step x y w
    have := cy_range x y (w + 1)
    have r1 := dg_range x w
    have r2 := dg_range (x + y) w
    rw [hc, hy w (Nat.le_refl _)] at h
    exact ⟨hc, by omega⟩
  | succ d ih =>
    generalize hjd : w + d = j at *
    have hj : w ≤ j := by omega
    rw [show w + (d + 1) = j + 1 from by omega]
    have h := add_step x y j
    have h2 := add_step x y (j + 1)
    have := cy_range x y (j + 1)
    have := cy_range x y (j + 1 + 1)
    have r1 := dg_range x j
    have r2 := dg_range (x + y) j
    have r3 := dg_range x (j + 1)
    have r4 := dg_range (x + y) (j + 1)
    rw [hy j hj, ih.1] at h
    rw [hy (j + 1) (by omega)] at h2
    omega
theorem dg_sub_high (x y : Int) (w : Nat) (hy : ∀ j, w ≤ j → dg y j = 0) (hc : bw x y w = 0) : ∀ j, w ≤ j → bw x y j = 0 ∧ dg (x - y) j = dg x j := by
  intro j hj
  obtain ⟨d, rfl⟩ := Nat.exists_eq_add_of_le hj
  clear hj
  induction d with
  | zero =>
    rw [Nat.add_zero]
    have h := sub_step x y w
    have := bw_range x y (w + 1)
    have r1 := dg_range x w
    have r2 := dg_range (x - y) w
    rw [hc, hy w (Nat.le_refl _)] at h
    exact ⟨hc, by omega⟩
  | succ d ih =>
    generalize hjd : w + d = j at *
    have hj : w ≤ j := by omega
    rw [show w + (d + 1) = j + 1 from by omega]
    have h := sub_step x y j
    have h2 := sub_step x y (j + 1)
    have := bw_range x y (j + 1)
    have := bw_range x y (j + 1 + 1)
    have r1 := dg_range x j
    have r2 := dg_range (x - y) j
    have r3 := dg_range x (j + 1)
    have r4 := dg_range (x - y) (j + 1)
    rw [hy j hj, ih.1] at h
    rw [hy (j + 1) (by omega)] at h2
    omega
end Go.Proofs.Ygctaf
