/-
  THE FINE ROOT: its powers stand for every angle.
-/
import Derived.Test.YgctafEtaLit
import Derived.Test.YgctafLvl2
namespace Go.Proofs.Ygctaf
open Ieee

def eU : Rat := p2 (-400)
theorem eU_pos : 0 < eU := p2_pos _
theorem p2_inv (k : Nat) : ((2 ^ k : Nat) : Rat) * p2 (-(k : Int)) = 1 := by rw [p2_shift, Int.add_left_neg]; exact p2_zero
theorem eU_mul : ((2 ^ 400 : Nat) : Rat) * eU = 1 := p2_inv 400
theorem castP (k : Nat) : ((2 ^ k : Int) : Rat) = ((2 ^ k : Nat) : Rat) := by
  rw [show (2 ^ k : Int) = ((2 ^ k : Nat) : Int) from (Int.natCast_pow 2 k).symm]; rfl
theorem cast400 : ((2 ^ 400 : Int) : Rat) = ((2 ^ 400 : Nat) : Rat) := castP 400
theorem ediv_two {n d : Int} (hd : 0 < d) : d * (n / d) ≤ n ∧ n ≤ d * (n / d) + d := ⟨Int.mul_ediv_self_le (by omega), Int.le_of_lt (Int.lt_mul_ediv_self_add hd)⟩
theorem pos400 : (0 : Int) < 2 ^ 400 := Int.pow_pos (by decide)
def ec (z : Int × Int) : Cx := ⟨(z.1 : Rat) * eU, (z.2 : Rat) * eU⟩

theorem ediv_nearE (n : Int) : ((n / 2 ^ 400 : Int) : Rat) * eU - (n : Rat) * eU * eU ≤ 0 ∧ -eU ≤ ((n / 2 ^ 400 : Int) : Rat) * eU - (n : Rat) * eU * eU := by
  obtain ⟨h1, h2⟩ := ediv_two (n := n) pos400
  generalize n / 2 ^ 400 = q at *
  have a1 := Rat.intCast_le_intCast.2 h1
  have a2 := Rat.intCast_le_intCast.2 h2
  rw [Rat.intCast_mul] at a1
  rw [Rat.intCast_add, Rat.intCast_mul] at a2
  rw [cast400] at a1 a2
  have hz := eU_mul
  have hp := Rat.le_of_lt eU_pos
  generalize ((2 ^ 400 : Nat) : Rat) = P at *
  generalize (q : Rat) = Q at *
  generalize (n : Rat) = N at *
  generalize eU = u at *
  have hpp : 0 ≤ u * u := sq_nonneg u
  have b1 := Rat.mul_le_mul_of_nonneg_right a1 hpp
  have b2 := Rat.mul_le_mul_of_nonneg_right a2 hpp
  have e1 : P * Q * (u * u) = Q * u := by rw [show P * Q * (u * u) = (P * u) * (Q * u) from by grind, hz, Rat.one_mul]
  have e2 : (P * Q + P) * (u * u) = Q * u + u := by rw [show (P * Q + P) * (u * u) = (P * u) * (Q * u) + (P * u) * u from by grind, hz, Rat.one_mul, Rat.one_mul]
  rw [e1] at b1; rw [e2] at b2
  constructor
  · grind
  · grind
theorem gmulZ_near (x y : Int × Int) : Len ((ec (gmulZ x y)).sub ((ec x).mul (ec y))) (2 * eU) := by
  obtain ⟨a1, a2⟩ := ediv_nearE (x.1 * y.1 - x.2 * y.2)
  obtain ⟨b1, b2⟩ := ediv_nearE (x.1 * y.2 + x.2 * y.1)
  rw [Rat.intCast_sub, Rat.intCast_mul, Rat.intCast_mul] at a1 a2
  rw [Rat.intCast_add, Rat.intCast_mul, Rat.intCast_mul] at b1 b2
  unfold gmulZ ec Cx.mul Cx.sub Len Cx.nsq
  simp only
  have hp := Rat.le_of_lt eU_pos
  generalize (((x.1 * y.1 - x.2 * y.2) / 2 ^ 400 : Int) : Rat) = p at *
  generalize (((x.1 * y.2 + x.2 * y.1) / 2 ^ 400 : Int) : Rat) = q at *
  generalize (x.1 : Rat) = c1 at *
  generalize (x.2 : Rat) = c2 at *
  generalize (y.1 : Rat) = d1 at *
  generalize (y.2 : Rat) = d2 at *
  generalize eU = u at *
  have e1 : p * u - (c1 * u * (d1 * u) - c2 * u * (d2 * u)) = p * u - (c1 * d1 - c2 * d2) * u * u := by grind
  have e2 : q * u - (c1 * u * (d2 * u) + c2 * u * (d1 * u)) = q * u - (c1 * d2 + c2 * d1) * u * u := by grind
  rw [e1, e2]
  generalize p * u - (c1 * d1 - c2 * d2) * u * u = r at *
  generalize q * u - (c1 * d2 + c2 * d1) * u * u = s at *
  have h1 : r * r ≤ u * u := sq_le_of_abs (abs_le.2 ⟨a2, by grind⟩)
  have h2 : s * s ≤ u * u := sq_le_of_abs (abs_le.2 ⟨b2, by grind⟩)
  refine ⟨by grind, ?_⟩
  have := sq_nonneg u
  grind

/-- The root. -/
def eR : Rat := (eDn : Rat)
def eta : Cx := ⟨(eA : Rat) * eR⁻¹, (eB : Rat) * eR⁻¹⟩
theorem eDn_pos : 0 < eDn := by decide +kernel
theorem eR_pos : 0 < eR := Rat.natCast_pos.2 eDn_pos
theorem eR_inv : eR * eR⁻¹ = 1 := Rat.mul_inv_cancel _ (Rat.ne_of_gt eR_pos)
theorem eta_sq : eA * eA + eB * eB = (eDn : Int) * (eDn : Int) := by decide +kernel
theorem eta_unit : eta.nsq = 1 := by
  unfold eta Cx.nsq
  simp only
  have h := eR_inv
  have e := congrArg (fun z : Int => (z : Rat)) eta_sq
  simp only [Rat.intCast_add, Rat.intCast_mul] at e
  have e2 : ((eDn : Int) : Rat) = eR := rfl
  rw [e2] at e
  generalize eR⁻¹ = v at *
  generalize eR = d at *
  generalize (eA : Rat) = A at *
  generalize (eB : Rat) = B at *
  have : A * v * (A * v) + B * v * (B * v) = (A * A + B * B) * (v * v) := by grind
  rw [this, e]
  have : d * d * (v * v) = (d * v) * (d * v) := by grind
  rw [this, h]; grind
theorem div_nearD (n : Int) : -eU ≤ ((n * 2 ^ 400 / (eDn : Int) : Int) : Rat) * eU - (n : Rat) * eR⁻¹ ∧ ((n * 2 ^ 400 / (eDn : Int) : Int) : Rat) * eU - (n : Rat) * eR⁻¹ ≤ eU := by
  have hd : (0 : Int) < (eDn : Int) := by have := eDn_pos; omega
  have h1 : (eDn : Int) * (n * 2 ^ 400 / (eDn : Int)) ≤ n * 2 ^ 400 := Int.mul_ediv_self_le (by omega)
  have h2 : n * 2 ^ 400 < (eDn : Int) * (n * 2 ^ 400 / (eDn : Int)) + (eDn : Int) := by
    have := Int.lt_mul_ediv_self_add (x := n * 2 ^ 400) hd
    exact this
  generalize n * 2 ^ 400 / (eDn : Int) = q at *
  have a1 := Rat.intCast_le_intCast.2 h1
  have a2 := Rat.intCast_le_intCast.2 (Int.le_of_lt h2)
  rw [Rat.intCast_mul, Rat.intCast_mul, cast400] at a1
  rw [Rat.intCast_add, Rat.intCast_mul, Rat.intCast_mul, cast400] at a2
  have e2 : ((eDn : Int) : Rat) = eR := rfl
  rw [e2] at a1 a2
  have k1 := eU_mul
  have k2 := eR_inv
  have hv : 0 ≤ eR⁻¹ := Rat.le_of_lt (Rat.inv_pos.2 eR_pos)
  have hu := Rat.le_of_lt eU_pos
  generalize ((2 ^ 400 : Nat) : Rat) = P at *
  generalize (q : Rat) = Q at *
  generalize (n : Rat) = N at *
  generalize eR⁻¹ = v at *
  generalize eR = d at *
  generalize eU = u at *
  have huv : 0 ≤ u * v := Rat.mul_nonneg hu hv
  have c1 := Rat.mul_le_mul_of_nonneg_right a1 huv
  have c2 := Rat.mul_le_mul_of_nonneg_right a2 huv
  have f1 : d * Q * (u * v) = Q * u := by rw [show d * Q * (u * v) = Q * u * (d * v) from by grind, k2, Rat.mul_one]
  have f2 : N * P * (u * v) = N * v := by rw [show N * P * (u * v) = N * v * (P * u) from by grind, k1, Rat.mul_one]
  have f3 : (d * Q + d) * (u * v) = Q * u + u := by rw [show (d * Q + d) * (u * v) = Q * u * (d * v) + u * (d * v) from by grind, k2, Rat.mul_one, Rat.mul_one]
  rw [f1, f2] at c1
  rw [f2, f3] at c2
  constructor
  · grind
  · grind
theorem eb0_near : Len ((ec eb0).sub eta) (2 * eU) := by
  obtain ⟨a1, a2⟩ := div_nearD eA
  obtain ⟨b1, b2⟩ := div_nearD eB
  have g1 := sq_le_of_abs (abs_le.2 ⟨a1, a2⟩)
  have g2 := sq_le_of_abs (abs_le.2 ⟨b1, b2⟩)
  have hu := Rat.le_of_lt eU_pos
  unfold ec eb0 eta Len Cx.sub Cx.nsq
  simp only
  refine ⟨by grind, ?_⟩
  have := sq_nonneg eU
  generalize ((eA * 2 ^ 400 / (eDn : Int) : Int) : Rat) * eU - (eA : Rat) * eR⁻¹ = r at *
  generalize ((eB * 2 ^ 400 / (eDn : Int) : Int) : Rat) * eU - (eB : Rat) * eR⁻¹ = s at *
  generalize eU = u at *
  grind
def rE (b : Nat) : Rat := 3 * p2 (2 * (b : Int) - 400)
theorem rE_succ (b : Nat) : rE (b + 1) = 4 * rE b := by
  unfold rE
  rw [show 2 * ((b + 1 : Nat) : Int) - 400 = (2 * (b : Int) - 400) + 2 from by omega, p2_add, show p2 2 = 4 from rfl]; grind
theorem rE_ge (b : Nat) : 3 * eU ≤ rE b := by
  unfold rE eU
  have := p2_le (i := -400) (j := 2 * (b : Int) - 400) (by omega)
  grind
theorem rE_le (b : Nat) (h : b ≤ 80) : rE b ≤ 1/2 := by
  unfold rE
  have := p2_le (i := 2 * (b : Int) - 400) (j := -10) (by omega)
  have e : p2 (-10) = 1/1024 := by decide +kernel
  rw [e] at this; grind
theorem eb_near : ∀ b, b ≤ 80 → Len ((ec (eb b)).sub (eta.pow (2 ^ b))) (rE b)
  | 0, _ => by
    have := eb0_near
    rw [show eta.pow (2 ^ 0) = eta from Cx.pow_one eta]
    exact this.mono (by have := rE_ge 0; have := eU_pos; grind)
  | b + 1, h => by
    have ih := eb_near b (by omega)
    have h1 := prod_near ih ih (Cx.nsq_pow eta_unit _) (Cx.nsq_pow eta_unit _)
    rw [← Cx.pow_add, ← Nat.two_mul, ← Nat.pow_succ'] at h1
    have h2 := (gmulZ_near (eb b) (eb b)).tri h1
    refine h2.mono ?_
    rw [rE_succ]
    have g1 := rE_ge b
    have g2 := rE_le b (by omega)
    have g3 := eU_pos
    have g4 := Rat.mul_le_mul_of_nonneg_left g2 (show 0 ≤ rE b from by grind)
    grind
/-- The 2^80-th power is the table's root. -/
def tE : Rat := p2 (-230)
theorem eta_ze : Len ((eta.pow (2 ^ 80)).sub ze) tE := by
  have h := eb_ok
  simp only [Bool.and_eq_true, decide_eq_true_eq] at h
  obtain ⟨h1, h2⟩ := h
  have n := eb_near 80 (by omega)
  have z := zb0_near
  generalize eb 80 = e at *
  have k : Len ((ec e).sub (zc zb0)) (p2 (-236)) := by
    clear n z
    have aux : ∀ (d : Int), d.natAbs ≤ 2 ^ 163 → -((2 ^ 163 : Nat) : Rat) ≤ (d : Rat) ∧ (d : Rat) ≤ ((2 ^ 163 : Nat) : Rat) := by
      intro d hd
      have a1 : -((2 ^ 163 : Nat) : Int) ≤ d := by omega
      have a2 : d ≤ ((2 ^ 163 : Nat) : Int) := by omega
      have b1 := Rat.intCast_le_intCast.2 a1
      have b2 := Rat.intCast_le_intCast.2 a2
      rw [Rat.intCast_neg] at b1
      exact ⟨b1, b2⟩
    obtain ⟨a1, a2⟩ := aux _ h1
    obtain ⟨b1, b2⟩ := aux _ h2
    rw [Rat.intCast_sub, Rat.intCast_mul] at a1 a2 b1 b2
    have e1 : ((2 ^ 160 : Int) : Rat) * eU = zU := by unfold eU zU; decide +kernel
    have e2 : ((2 ^ 163 : Nat) : Rat) * eU = p2 (-237) := by unfold eU; decide +kernel
    have hu := Rat.le_of_lt eU_pos
    unfold ec zc Cx.sub Len Cx.nsq
    simp only
    have c1 := Rat.mul_le_mul_of_nonneg_right a1 hu
    have c2 := Rat.mul_le_mul_of_nonneg_right a2 hu
    have d1 := Rat.mul_le_mul_of_nonneg_right b1 hu
    have d2 := Rat.mul_le_mul_of_nonneg_right b2 hu
    have e3 : p2 (-236) = 2 * p2 (-237) := by decide +kernel
    rw [e3]
    generalize (e.1 : Rat) = p at *
    generalize (e.2 : Rat) = q at *
    generalize (zb0.1 : Rat) = r at *
    generalize (zb0.2 : Rat) = s at *
    generalize ((2 ^ 160 : Int) : Rat) = K at *
    generalize ((2 ^ 163 : Nat) : Rat) = M at *
    have f1 : (p - r * K) * eU = p * eU - r * zU := by rw [← e1]; grind
    have f2 : (q - s * K) * eU = q * eU - s * zU := by rw [← e1]; grind
    rw [f1] at c1 c2
    rw [f2] at d1 d2
    rw [Rat.neg_mul, e2] at c1 d1
    rw [e2] at c2 d2
    have g1 := sq_le_of_abs (abs_le.2 ⟨c1, c2⟩)
    have g2 := sq_le_of_abs (abs_le.2 ⟨d1, d2⟩)
    have hp := p2_nonneg (-237)
    refine ⟨by grind, ?_⟩
    have := sq_nonneg (p2 (-237))
    generalize p * eU - r * zU = x at *
    generalize q * eU - s * zU = y at *
    generalize p2 (-237) = w at *
    grind
  have n' : Len ((eta.pow (2 ^ 80)).sub (ec e)) (rE 80) := ⟨n.1, by rw [Cx.nsq_sub_comm]; exact n.2⟩
  refine ((n'.tri k).tri z).mono ?_
  unfold rE zU tE
  decide +kernel
/-- The step. -/
theorem eta_step : Len (eta.sub .one) (p2 (-88)) := by
  have hk : (eA - (eDn : Int)) * (eA - (eDn : Int)) + eB * eB ≤ (eDn : Int) * (eDn : Int) / 2 ^ 176 := by decide +kernel
  have hk2 : ((eA - (eDn : Int)) * (eA - (eDn : Int)) + eB * eB) * 2 ^ 176 ≤ (eDn : Int) * (eDn : Int) := by
    have := Int.ediv_mul_le ((eDn : Int) * (eDn : Int)) (show (2 ^ 176 : Int) ≠ 0 by decide)
    omega
  have a := Rat.intCast_le_intCast.2 hk2
  simp only [Rat.intCast_mul, Rat.intCast_add, Rat.intCast_sub] at a
  have e2 : ((eDn : Int) : Rat) = eR := rfl
  have e3 : ((2 ^ 176 : Int) : Rat) * (p2 (-88) * p2 (-88)) = 1 := by decide +kernel
  rw [e2] at a
  have h := eR_inv
  have hv : 0 ≤ eR⁻¹ := Rat.le_of_lt (Rat.inv_pos.2 eR_pos)
  refine ⟨p2_nonneg _, ?_⟩
  unfold eta Cx.one Cx.sub Cx.nsq
  simp only
  have hpp : 0 ≤ p2 (-88) * p2 (-88) := sq_nonneg _
  generalize p2 (-88) * p2 (-88) = w at *
  generalize ((2 ^ 176 : Int) : Rat) = K at *
  generalize eR⁻¹ = v at *
  generalize eR = d at *
  generalize (eA : Rat) = A at *
  generalize (eB : Rat) = B at *
  have hvv : 0 ≤ v * v * w := Rat.mul_nonneg (sq_nonneg v) hpp
  have c := Rat.mul_le_mul_of_nonneg_right a hvv
  have f1 : ((A - d) * (A - d) + B * B) * K * (v * v * w) = (A * v - d * v) * (A * v - d * v) * (K * w) + B * v * (B * v) * (K * w) := by grind
  have f2 : d * d * (v * v * w) = (d * v) * (d * v) * w := by grind
  rw [f1, f2, e3, h] at c
  grind
end Go.Proofs.Ygctaf
