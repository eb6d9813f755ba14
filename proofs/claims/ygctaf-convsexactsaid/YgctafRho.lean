/-
  IDEAL ROOTS OF EVERY ORDER: powers of the fine root. Powers of a number of length 1; its nearest neighbour of length 1.
-/
import Derived.Test.YgctafEta
namespace Go.Proofs.Ygctaf
open Ieee

/-! ### Powers -/
theorem pow_one_near {v : Cx} {d : Rat} (hv : v.nsq = 1) (h : Len (v.sub .one) d) : ∀ n, Len ((v.pow n).sub .one) ((n : Rat) * d)
  | 0 => by
    have := Len.self Cx.one
    rw [show ((0 : Nat) : Rat) = 0 from rfl, Rat.zero_mul]; exact this
  | n + 1 => by
    have ih := pow_one_near hv h n
    have a := (ih.mul (Len.unit hv)).add h
    have e : (((v.pow n).sub .one).mul v).add (v.sub .one) = (v.pow (n + 1)).sub .one := by
      show _ = ((v.pow n).mul v).sub .one
      generalize v.pow n = p
      exact Cx.eq (by unfold Cx.add Cx.sub Cx.mul Cx.one; simp only; grind) (by unfold Cx.add Cx.sub Cx.mul Cx.one; simp only; grind)
    rw [e] at a
    refine a.mono ?_
    rw [Rat.natCast_add, show ((1 : Nat) : Rat) = 1 from rfl]; grind
theorem pow_near {a b : Cx} {d : Rat} (ha : a.nsq = 1) (hb : b.nsq = 1) (h : Len (a.sub b) d) : ∀ n, Len ((a.pow n).sub (b.pow n)) ((n : Rat) * d)
  | 0 => by
    have := Len.self Cx.one
    rw [show ((0 : Nat) : Rat) = 0 from rfl, Rat.zero_mul]; exact this
  | n + 1 => by
    have ih := pow_near ha hb h n
    have x := (ih.mul (Len.unit ha)).add ((Len.unit (Cx.nsq_pow hb n)).mul h)
    have e : (((a.pow n).sub (b.pow n)).mul a).add ((b.pow n).mul (a.sub b)) = (a.pow (n + 1)).sub (b.pow (n + 1)) := by
      show _ = ((a.pow n).mul a).sub ((b.pow n).mul b)
      generalize a.pow n = p
      generalize b.pow n = q
      exact Cx.eq (by unfold Cx.add Cx.sub Cx.mul; simp only; grind) (by unfold Cx.add Cx.sub Cx.mul; simp only; grind)
    rw [e] at x
    refine x.mono ?_
    rw [Rat.natCast_add, show ((1 : Nat) : Rat) = 1 from rfl]; grind
theorem Len.flip {a b : Cx} {r : Rat} (h : Len (a.sub b) r) : Len (b.sub a) r := ⟨h.1, by rw [Cx.nsq_sub_comm]; exact h.2⟩

/-! ### The fine root's powers -/
theorem eta_near (a d : Nat) : Len ((eta.pow (a + d)).sub (eta.pow a)) ((d : Rat) * p2 (-88)) := by
  have h := (Len.unit (Cx.nsq_pow eta_unit a)).mul (pow_one_near eta_unit eta_step d)
  rw [Rat.one_mul, Cx.mul_sub, Cx.mul_one, ← Cx.pow_add] at h
  exact h
theorem eta_ze_pow (m : Nat) : Len ((eta.pow (2 ^ 80 * m)).sub (ze.pow m)) ((m : Rat) * tE) := by
  rw [Cx.pow_mul]
  exact pow_near (Cx.nsq_pow eta_unit _) ze_unit eta_ze m
def tC : Rat := p2 (-208)
theorem eta_round : Len ((eta.pow (2 ^ 91)).sub .one) tC := by
  have a := eta_ze_pow (2 ^ 11)
  rw [← Nat.pow_add] at a
  have b := pow_sgn (Cx.nsq_pow ze_unit (2 ^ 10)) ze_half 2
  rw [show sgnC 2 = .one from rfl, ← Cx.pow_mul, ← Nat.pow_succ] at b
  refine (a.tri b).mono ?_
  unfold tE tH tC
  decide +kernel
theorem eta_rounds (q : Nat) : Len ((eta.pow (2 ^ 91 * q)).sub .one) ((q : Rat) * tC) := by
  rw [Cx.pow_mul]
  exact pow_one_near (Cx.nsq_pow eta_unit _) eta_round q
/-- The ideal root. -/
def rho (n j : Nat) : Cx := eta.pow (j * 2 ^ 91 / n)
theorem rho_unit (n j : Nat) : (rho n j).nsq = 1 := Cx.nsq_pow eta_unit _
def tau : Rat := p2 (-76)
theorem rho_pow {n j : Nat} (h0 : 0 < n) (hn : n ≤ 2048) (hj : j ≤ n) : Len (((rho n j).pow n).sub .one) tau := by
  unfold rho
  rw [← Cx.pow_mul]
  obtain ⟨T, hT⟩ : ∃ T, T = j * 2 ^ 91 / n := ⟨_, rfl⟩
  obtain ⟨r, hr⟩ : ∃ r, r = j * 2 ^ 91 % n := ⟨_, rfl⟩
  have hrn : r < n := by rw [hr]; exact Nat.mod_lt _ h0
  have e : T * n + r = 2 ^ 91 * j := by
    have := Nat.mod_add_div (j * 2 ^ 91) n
    rw [← hT, ← hr, Nat.mul_comm n T] at this
    rw [Nat.mul_comm (2 ^ 91) j]; omega
  rw [← hT]
  have a := (eta_near (T * n) r).flip
  rw [e] at a
  refine (a.tri (eta_rounds j)).mono ?_
  have q1 : (r : Rat) ≤ ((2048 : Nat) : Rat) := Rat.natCast_le_natCast.2 (by omega)
  have q2 : (j : Rat) ≤ ((2048 : Nat) : Rat) := Rat.natCast_le_natCast.2 (by omega)
  have c1 := Rat.mul_le_mul_of_nonneg_right q1 (p2_nonneg (-88))
  have c2 := Rat.mul_le_mul_of_nonneg_right q2 (show 0 ≤ tC from p2_nonneg _)
  have c3 : ((2048 : Nat) : Rat) * p2 (-88) + ((2048 : Nat) : Rat) * tC ≤ tau := by unfold tC tau; decide +kernel
  grind
theorem rho_add {n a b : Nat} (h0 : 0 < n) : Len (((rho n a).mul (rho n b)).sub (rho n (a + b))) (p2 (-88)) := by
  unfold rho
  rw [← Cx.pow_add]
  obtain ⟨A, hA⟩ : ∃ A, A = a * 2 ^ 91 := ⟨_, rfl⟩
  obtain ⟨B, hB⟩ : ∃ B, B = b * 2 ^ 91 := ⟨_, rfl⟩
  rw [Nat.add_mul, ← hA, ← hB]
  have d1 := Nat.add_div (a := A) (b := B) h0
  rw [d1]
  split
  · have := (eta_near (A / n + B / n) 1).flip
    refine this.mono (by rw [show ((1 : Nat) : Rat) = 1 from rfl]; grind)
  · rw [Nat.add_zero]
    exact (Len.self _).mono (p2_nonneg _)
theorem rho_zero (n : Nat) : rho n 0 = .one := by unfold rho; rw [Nat.zero_mul, Nat.zero_div]; rfl
theorem rho_full {n : Nat} (h0 : 0 < n) : Len ((rho n n).sub .one) tC := by
  unfold rho
  rw [Nat.mul_comm, Nat.mul_div_cancel _ h0]
  exact eta_round

/-! ### A number of length 1 and its powers' imaginary parts -/
def triQ : Nat → Rat
  | 0 => 0
  | n + 1 => triQ n + (n : Rat) * ((n : Rat) + 1)
theorem triQ_nonneg : ∀ n, 0 ≤ triQ n
  | 0 => Rat.le_refl
  | n + 1 => by
    have := triQ_nonneg n
    have h : (0 : Rat) ≤ (n : Rat) := Rat.natCast_nonneg
    have := Rat.mul_nonneg h (show 0 ≤ (n : Rat) + 1 by grind)
    show 0 ≤ triQ n + (n : Rat) * ((n : Rat) + 1)
    grind
theorem triQ_le : ∀ n : Nat, 3 * triQ n + (n : Rat) = (n : Rat) * ((n : Rat) * (n : Rat))
  | 0 => by show 3 * (0 : Rat) + ((0 : Nat) : Rat) = _; rw [show ((0 : Nat) : Rat) = 0 from rfl]; grind
  | n + 1 => by
    have ih := triQ_le n
    show 3 * (triQ n + (n : Rat) * ((n : Rat) + 1)) + ((n + 1 : Nat) : Rat) = _
    rw [Rat.natCast_add, show ((1 : Nat) : Rat) = 1 from rfl]
    grind
theorem unit_parts {v : Cx} (hv : v.nsq = 1) : v.re ≤ 1 ∧ -1 ≤ v.re ∧ (v.sub .one).nsq = 2 * (1 - v.re) := by
  unfold Cx.nsq at hv
  have h2 := sq_nonneg v.im
  have a : v.re * v.re ≤ 1 * 1 := by grind
  have b := le_of_sq (x := v.re) (y := 1) (by decide) a
  have c := le_of_sq (x := -v.re) (y := 1) (by decide) (by grind)
  refine ⟨b, by grind, ?_⟩
  unfold Cx.sub Cx.one Cx.nsq
  simp only
  grind
theorem cheb {v : Cx} (hv : v.nsq = 1) : ∀ n : Nat, ((n : Rat) * v.im - (v.pow n).im).abs ≤ v.im.abs * ((1 - v.re) * triQ n)
  | 0 => by
    show (((0 : Nat) : Rat) * v.im - 0).abs ≤ v.im.abs * ((1 - v.re) * 0)
    rw [show ((0 : Nat) : Rat) = 0 from rfl, Rat.zero_mul, Rat.sub_self, Rat.abs_zero, Rat.mul_zero, Rat.mul_zero]; exact Rat.le_refl
  | n + 1 => by
    have ih := cheb hv n
    obtain ⟨h1, h2, h3⟩ := unit_parts hv
    obtain ⟨g1, g2, g3⟩ := unit_parts (Cx.nsq_pow hv n)
    have hb : Len (v.sub .one) 2 := ⟨by decide, by rw [h3]; grind⟩
    -- 1 - Re v^n <= n^2 (1 - c)
    have hpn : 1 - (v.pow n).re ≤ (n : Rat) * (n : Rat) * (1 - v.re) := by
      have key : ((v.pow n).sub .one).nsq ≤ (n : Rat) * (n : Rat) * (v.sub .one).nsq := by
        clear ih hb
        induction n with
        | zero =>
          show (Cx.one.sub .one).nsq ≤ ((0 : Nat) : Rat) * ((0 : Nat) : Rat) * _
          rw [show ((0 : Nat) : Rat) = 0 from rfl]
          unfold Cx.one Cx.sub Cx.nsq; simp only; grind
        | succ n ihn =>
          have ihn' := ihn (unit_parts (Cx.nsq_pow hv n)).1 (unit_parts (Cx.nsq_pow hv n)).2.1 (unit_parts (Cx.nsq_pow hv n)).2.2
          have e : (v.pow (n + 1)).sub .one = (((v.pow n).sub .one).mul v).add (v.sub .one) := by
            show ((v.pow n).mul v).sub .one = _
            generalize v.pow n = p
            exact Cx.eq (by unfold Cx.add Cx.sub Cx.mul Cx.one; simp only; grind) (by unfold Cx.add Cx.sub Cx.mul Cx.one; simp only; grind)
          rw [e]
          -- |x + y|^2 <= (1 + 1/n) |x|^2 + (1 + n) |y|^2, in the form n |x+y|^2 <= (n+1) |x|^2 + n (n+1) |y|^2
          have hx : (((v.pow n).sub .one).mul v).nsq = ((v.pow n).sub .one).nsq := by rw [Cx.nsq_mul, hv, Rat.mul_one]
          rw [← hx] at ihn'
          generalize ((v.pow n).sub .one).mul v = x at *
          generalize v.sub .one = y at *
          rcases Nat.eq_zero_or_pos n with h0 | h0
          · subst h0
            have hx0 : x.nsq = 0 := by
              have := x.nsq_nonneg
              rw [show ((0 : Nat) : Rat) = 0 from rfl] at ihn'
              grind
            have r0 : x.re = 0 ∧ x.im = 0 := by
              unfold Cx.nsq at hx0
              have a := sq_nonneg x.re
              have b := sq_nonneg x.im
              constructor
              · have : x.re * x.re = 0 := by grind
                rcases Rat.mul_eq_zero.1 this with h | h <;> exact h
              · have : x.im * x.im = 0 := by grind
                rcases Rat.mul_eq_zero.1 this with h | h <;> exact h
            have ex : x.add y = y := Cx.eq (by show x.re + y.re = y.re; rw [r0.1]; grind) (by show x.im + y.im = y.im; rw [r0.2]; grind)
            rw [ex]
            show y.nsq ≤ ((0 + 1 : Nat) : Rat) * ((0 + 1 : Nat) : Rat) * y.nsq
            rw [show ((0 + 1 : Nat) : Rat) = 1 from rfl]; grind
          · have hn : (0 : Rat) < (n : Rat) := Rat.natCast_pos.2 h0
            have sq1 := sq_nonneg (x.re - (n : Rat) * y.re)
            have sq2 := sq_nonneg (x.im - (n : Rat) * y.im)
            have m : (n : Rat) * (x.add y).nsq ≤ ((n : Rat) + 1) * x.nsq + (n : Rat) * ((n : Rat) + 1) * y.nsq := by
              unfold Cx.nsq Cx.add; simp only; grind
            have m2 := Rat.mul_le_mul_of_nonneg_left ihn' (show 0 ≤ (n : Rat) + 1 by grind)
            have m3 : (n : Rat) * (x.add y).nsq ≤ (n : Rat) * (((n + 1 : Nat) : Rat) * ((n + 1 : Nat) : Rat) * y.nsq) := by
              rw [Rat.natCast_add, show ((1 : Nat) : Rat) = 1 from rfl]
              have : (n : Rat) * (((n : Rat) + 1) * ((n : Rat) + 1) * y.nsq) = ((n : Rat) + 1) * ((n : Rat) * (n : Rat) * y.nsq) + (n : Rat) * ((n : Rat) + 1) * y.nsq := by grind
              grind
            exact Rat.le_of_mul_le_mul_left m3 hn
      rw [g3, h3] at key
      grind
    have hq0 : (0 : Rat) ≤ (n : Rat) := Rat.natCast_nonneg
    have e1 : ((n + 1 : Nat) : Rat) * v.im - (v.pow (n + 1)).im = v.re * ((n : Rat) * v.im - (v.pow n).im) + v.im * ((n : Rat) * (1 - v.re) + (1 - (v.pow n).re)) := by
      show ((n + 1 : Nat) : Rat) * v.im - ((v.pow n).re * v.im + (v.pow n).im * v.re) = _
      rw [Rat.natCast_add, show ((1 : Nat) : Rat) = 1 from rfl]; grind
    rw [e1]
    have t := abs_add (v.re * ((n : Rat) * v.im - (v.pow n).im)) (v.im * ((n : Rat) * (1 - v.re) + (1 - (v.pow n).re)))
    rw [abs_mul, abs_mul] at t
    have c1 : v.re.abs ≤ 1 := abs_le.2 ⟨by grind, h1⟩
    have c2 : ((n : Rat) * (1 - v.re) + (1 - (v.pow n).re)).abs ≤ (1 - v.re) * ((n : Rat) * ((n : Rat) + 1)) := by
      have p1 := Rat.mul_nonneg hq0 (show 0 ≤ 1 - v.re by grind)
      rw [Rat.abs_of_nonneg (by grind)]
      grind
    have m1 := Rat.mul_le_mul_of_nonneg_right c1 (Rat.abs_nonneg (x := (n : Rat) * v.im - (v.pow n).im))
    have m2 := Rat.mul_le_mul_of_nonneg_left c2 (Rat.abs_nonneg (x := v.im))
    show _ ≤ v.im.abs * ((1 - v.re) * (triQ n + (n : Rat) * ((n : Rat) + 1)))
    grind

/-! ### The neighbour of length 1 -/
/-- w's direction, by the half angle. -/
def dirC (w : Cx) : Cx :=
  ⟨((1 + w.re) * (1 + w.re) - w.im * w.im) * ((1 + w.re) * (1 + w.re) + w.im * w.im)⁻¹, 2 * w.im * (1 + w.re) * ((1 + w.re) * (1 + w.re) + w.im * w.im)⁻¹⟩
theorem dir_unit {w : Cx} (h : 0 < 1 + w.re) : (dirC w).nsq = 1 := by
  unfold dirC Cx.nsq
  simp only
  have hp : 0 < (1 + w.re) * (1 + w.re) + w.im * w.im := by
    have := Rat.mul_pos h h
    have := sq_nonneg w.im
    grind
  have hi := Rat.mul_inv_cancel _ (Rat.ne_of_gt hp)
  generalize ((1 + w.re) * (1 + w.re) + w.im * w.im)⁻¹ = v at *
  generalize 1 + w.re = x at *
  generalize w.im = y at *
  have : (x * x - y * y) * v * ((x * x - y * y) * v) + 2 * y * x * v * (2 * y * x * v) = ((x * x + y * y) * v) * ((x * x + y * y) * v) := by grind
  rw [this, hi]; grind
/-- How far: |w - dir w|^2 = (|w|^2 - 1)^2 / |1 + w|^2. -/
theorem dir_near {w : Cx} {y : Rat} (h : 1/2 ≤ w.re) (hy : (w.nsq - 1).abs ≤ y) : Len (w.sub (dirC w)) y := by
  have hy0 : 0 ≤ y := Rat.le_trans Rat.abs_nonneg hy
  refine ⟨hy0, ?_⟩
  have hs := sq_le_of_abs hy
  refine Rat.le_trans ?_ hs
  unfold dirC Cx.sub Cx.nsq
  simp only
  have hx : 0 < 1 + w.re := by grind
  have hp : 1 ≤ (1 + w.re) * (1 + w.re) + w.im * w.im := by
    have h1 : 1 ≤ 1 + w.re := by grind
    have := Rat.mul_le_mul_of_nonneg_left h1 (show 0 ≤ 1 + w.re by grind)
    have := sq_nonneg w.im
    grind
  have hi := Rat.mul_inv_cancel _ (show (1 + w.re) * (1 + w.re) + w.im * w.im ≠ 0 by grind)
  have hv0 : 0 ≤ ((1 + w.re) * (1 + w.re) + w.im * w.im)⁻¹ := Rat.le_of_lt (Rat.inv_pos.2 (by grind))
  have hv1 : ((1 + w.re) * (1 + w.re) + w.im * w.im)⁻¹ ≤ 1 := by
    have := Rat.mul_le_mul_of_nonneg_right hp hv0
    rw [Rat.one_mul, hi] at this; exact this
  generalize hN : (1 + w.re) * (1 + w.re) + w.im * w.im = N at *
  generalize N⁻¹ = v at *
  generalize hX : w.re = X at *
  generalize hZ : w.im = Z at *
  have k1 : X - ((1 + X) * (1 + X) - Z * Z) * v = (X * X + Z * Z - 1) * ((1 + X) * v) := by
    have : X = X * (N * v) := by rw [hi, Rat.mul_one]
    have e : X * (N * v) - ((1 + X) * (1 + X) - Z * Z) * v = (X * X + Z * Z - 1) * ((1 + X) * v) := by rw [← hN]; grind
    rw [← e, ← this]
  have k2 : Z - 2 * Z * (1 + X) * v = (X * X + Z * Z - 1) * (Z * v) := by
    have : Z = Z * (N * v) := by rw [hi, Rat.mul_one]
    have e : Z * (N * v) - 2 * Z * (1 + X) * v = (X * X + Z * Z - 1) * (Z * v) := by rw [← hN]; grind
    rw [← e, ← this]
  rw [k1, k2]
  generalize X * X + Z * Z - 1 = Y at *
  have e3 : Y * ((1 + X) * v) * (Y * ((1 + X) * v)) + Y * (Z * v) * (Y * (Z * v)) = Y * Y * (v * (N * v)) := by rw [← hN]; grind
  rw [e3, hi, Rat.mul_one]
  have := Rat.mul_le_mul_of_nonneg_left hv1 (sq_nonneg Y)
  grind
end Go.Proofs.Ygctaf
