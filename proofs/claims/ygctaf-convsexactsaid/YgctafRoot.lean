/-
  THE ROOT'S POWERS AND THE TABLE: each entry of every level is within four roundings of a power of a root of length 1.
-/
import Derived.Test.YgctafRootLit
namespace Go.Proofs.Ygctaf
open Ieee

def zU : Rat := p2 (-240)
theorem zU_pos : 0 < zU := p2_pos _
theorem zU_mul : ((2 ^ 240 : Nat) : Rat) * zU = 1 := by unfold zU; rw [p2_shift]; exact p2_zero
def zc (z : Int × Int) : Cx := ⟨(z.1 : Rat) * zU, (z.2 : Rat) * zU⟩

theorem ediv_near (n : Int) : ((n / 2 ^ 240 : Int) : Rat) * zU - (n : Rat) * zU * zU ≤ 0 ∧ -zU ≤ ((n / 2 ^ 240 : Int) : Rat) * zU - (n : Rat) * zU * zU := by
  have h1 : (2 ^ 240 : Int) * (n / 2 ^ 240) ≤ n := by omega
  have h2 : n ≤ (2 ^ 240 : Int) * (n / 2 ^ 240) + 2 ^ 240 := by omega
  generalize n / 2 ^ 240 = q at *
  have a1 := Rat.intCast_le_intCast.2 h1
  have a2 := Rat.intCast_le_intCast.2 h2
  rw [Rat.intCast_mul] at a1
  rw [Rat.intCast_add, Rat.intCast_mul] at a2
  have e : ((2 ^ 240 : Int) : Rat) = ((2 ^ 240 : Nat) : Rat) := by decide +kernel
  rw [e] at a1 a2
  have hz := zU_mul
  have hp := Rat.le_of_lt zU_pos
  generalize ((2 ^ 240 : Nat) : Rat) = P at *
  generalize (q : Rat) = Q at *
  generalize (n : Rat) = N at *
  generalize zU = u at *
  have hpp : 0 ≤ u * u := sq_nonneg u
  have b1 := Rat.mul_le_mul_of_nonneg_right a1 hpp
  have b2 := Rat.mul_le_mul_of_nonneg_right a2 hpp
  have e1 : P * Q * (u * u) = Q * u := by rw [show P * Q * (u * u) = (P * u) * (Q * u) from by grind, hz, Rat.one_mul]
  have e2 : (P * Q + P) * (u * u) = Q * u + u := by rw [show (P * Q + P) * (u * u) = (P * u) * (Q * u) + (P * u) * u from by grind, hz, Rat.one_mul, Rat.one_mul]
  rw [e1] at b1; rw [e2] at b2
  constructor
  · grind
  · grind

theorem fmulZ_near (x y : Int × Int) : Len ((zc (fmulZ x y)).sub ((zc x).mul (zc y))) (2 * zU) := by
  obtain ⟨a1, a2⟩ := ediv_near (x.1 * y.1 - x.2 * y.2)
  obtain ⟨b1, b2⟩ := ediv_near (x.1 * y.2 + x.2 * y.1)
  rw [Rat.intCast_sub, Rat.intCast_mul, Rat.intCast_mul] at a1 a2
  rw [Rat.intCast_add, Rat.intCast_mul, Rat.intCast_mul] at b1 b2
  unfold fmulZ zc Cx.mul Cx.sub Len Cx.nsq
  simp only
  have hp := Rat.le_of_lt zU_pos
  generalize (((x.1 * y.1 - x.2 * y.2) / 2 ^ 240 : Int) : Rat) = p at *
  generalize (((x.1 * y.2 + x.2 * y.1) / 2 ^ 240 : Int) : Rat) = q at *
  generalize (x.1 : Rat) = c1 at *
  generalize (x.2 : Rat) = c2 at *
  generalize (y.1 : Rat) = d1 at *
  generalize (y.2 : Rat) = d2 at *
  generalize zU = u at *
  have e1 : p * u - (c1 * u * (d1 * u) - c2 * u * (d2 * u)) = p * u - (c1 * d1 - c2 * d2) * u * u := by grind
  have e2 : q * u - (c1 * u * (d2 * u) + c2 * u * (d1 * u)) = q * u - (c1 * d2 + c2 * d1) * u * u := by grind
  rw [e1, e2]
  generalize p * u - (c1 * d1 - c2 * d2) * u * u = r at *
  generalize q * u - (c1 * d2 + c2 * d1) * u * u = s at *
  have h1 : r * r ≤ u * u := sq_le_of_abs (abs_le.2 ⟨a2, by grind⟩)
  have h2 : s * s ≤ u * u := sq_le_of_abs (abs_le.2 ⟨b2, by grind⟩)
  refine ⟨by grind, ?_⟩
  have := sq_nonneg u
  grind

/-- The root. -/
def zeR : Rat := ((rQ * rQ + rT * rT : Nat) : Rat)
def ze : Cx := ⟨(((rQ * rQ : Nat) : Rat) - ((rT * rT : Nat) : Rat)) * zeR⁻¹, -(((2 * rT * rQ : Nat) : Rat) * zeR⁻¹)⟩
theorem zeR_pos : 0 < zeR := Rat.natCast_pos.2 (by decide)
theorem zeR_inv : zeR * zeR⁻¹ = 1 := Rat.mul_inv_cancel _ (Rat.ne_of_gt zeR_pos)
theorem ze_unit : ze.nsq = 1 := by
  unfold ze Cx.nsq
  simp only
  have h := zeR_inv
  have e : zeR = (rQ : Rat) * rQ + (rT : Rat) * rT := by unfold zeR; rw [Rat.natCast_add, Rat.natCast_mul, Rat.natCast_mul]
  rw [Rat.natCast_mul, Rat.natCast_mul, Rat.natCast_mul, Rat.natCast_mul]
  generalize zeR⁻¹ = v at *
  generalize zeR = d at *
  generalize (rQ : Rat) = Q at *
  generalize (rT : Rat) = T at *
  have e2 : ((2 : Nat) : Rat) = 2 := rfl
  rw [e2]
  have : (Q * Q - T * T) * v * ((Q * Q - T * T) * v) + -(2 * T * Q * v) * -(2 * T * Q * v) = (d * v) * (d * v) := by rw [e]; grind
  rw [this, h]; grind
theorem zb0_near : Len ((zc zb0).sub ze) (2 * zU) := by
  have h := zb0_ok
  simp only [Bool.and_eq_true, decide_eq_true_eq] at h
  obtain ⟨h1, h2⟩ := h
  have aux : ∀ (e : Int) (d : Nat), e.natAbs ≤ d → -(d : Rat) ≤ (e : Rat) ∧ (e : Rat) ≤ (d : Rat) := by
    intro e d h
    have a1 : -(d : Int) ≤ e := by omega
    have a2 : e ≤ (d : Int) := by omega
    have b1 := Rat.intCast_le_intCast.2 a1
    have b2 := Rat.intCast_le_intCast.2 a2
    rw [Rat.intCast_neg] at b1
    exact ⟨b1, b2⟩
  obtain ⟨a1, a2⟩ := aux _ _ h1
  obtain ⟨b1, b2⟩ := aux _ _ h2
  rw [Rat.intCast_sub, Rat.intCast_mul, Rat.intCast_mul, Rat.intCast_sub] at a1 a2
  rw [Rat.intCast_add, Rat.intCast_mul, Rat.intCast_mul] at b1 b2
  have e : ((2 ^ 240 : Int) : Rat) = ((2 ^ 240 : Nat) : Rat) := by decide +kernel
  rw [e] at a1 a2 b1 b2
  unfold zc ze Len Cx.sub Cx.nsq
  simp only
  have k1 := zU_mul
  have k2 := zeR_inv
  have k3 : ((( rQ * rQ + rT * rT : Nat) : Int) : Rat) = zeR := rfl
  have k4 : ((rQ * rQ + rT * rT : Nat) : Rat) = zeR := rfl
  have k5 : (((rQ * rQ : Nat) : Int) : Rat) = ((rQ * rQ : Nat) : Rat) := rfl
  have k6 : (((rT * rT : Nat) : Int) : Rat) = ((rT * rT : Nat) : Rat) := rfl
  have k7 : (((2 * rT * rQ : Nat) : Int) : Rat) = ((2 * rT * rQ : Nat) : Rat) := rfl
  rw [k3, k4, k5, k6] at a1 a2
  rw [k3, k4, k7] at b1 b2
  have hd := zeR_pos
  have hv : 0 ≤ zeR⁻¹ := Rat.le_of_lt (Rat.inv_pos.2 hd)
  have hu := Rat.le_of_lt zU_pos
  clear k3 k4 k5 k6 k7 e aux h1 h2
  generalize (zb0.1 : Rat) = p at *
  generalize (zb0.2 : Rat) = q at *
  generalize ((2 ^ 240 : Nat) : Rat) = P at *
  generalize ((rQ * rQ : Nat) : Rat) = A at *
  generalize ((rT * rT : Nat) : Rat) = B at *
  generalize ((2 * rT * rQ : Nat) : Rat) = C at *
  generalize zeR⁻¹ = v at *
  generalize zeR = d at *
  generalize zU = u at *
  have huv : 0 ≤ u * v := Rat.mul_nonneg hu hv
  have c1 := Rat.mul_le_mul_of_nonneg_right a1 huv
  have c2 := Rat.mul_le_mul_of_nonneg_right a2 huv
  have d1 := Rat.mul_le_mul_of_nonneg_right b1 huv
  have d2 := Rat.mul_le_mul_of_nonneg_right b2 huv
  have f1 : d * (u * v) = u := by rw [show d * (u * v) = u * (d * v) from by grind, k2, Rat.mul_one]
  have f2 : -d * (u * v) = -u := by rw [show -d * (u * v) = -(d * (u * v)) from by grind, f1]
  have f3 : (p * d - (A - B) * P) * (u * v) = p * u - (A - B) * v := by
    rw [show (p * d - (A - B) * P) * (u * v) = p * u * (d * v) - (A - B) * v * (P * u) from by grind, k1, k2, Rat.mul_one, Rat.mul_one]
  have f4 : (q * d + C * P) * (u * v) = q * u - -(C * v) := by
    rw [show (q * d + C * P) * (u * v) = q * u * (d * v) + C * v * (P * u) from by grind, k1, k2, Rat.mul_one, Rat.mul_one]; grind
  rw [f2, f3] at c1; rw [f1, f3] at c2; rw [f2, f4] at d1; rw [f1, f4] at d2
  have g1 := sq_le_of_abs (abs_le.2 ⟨c1, c2⟩)
  have g2 := sq_le_of_abs (abs_le.2 ⟨d1, d2⟩)
  refine ⟨by grind, ?_⟩
  have := sq_nonneg u
  generalize p * u - (A - B) * v = r at *
  generalize q * u - -(C * v) = s at *
  grind

/-- The powers in fixed point, as a function. -/
def zL : Nat → Nat → Int × Int
  | 0 => fun _ => (2 ^ 240, 0)
  | b + 1 => fun j => if j < 2 ^ b then zL b j else fmulZ (zL b (j - 2 ^ b)) (zb b)
theorem zL_low (b j : Nat) (h : j < 2 ^ b) : zL (b + 1) j = zL b j := if_pos h
theorem zL_high (b j : Nat) : zL (b + 1) (2 ^ b + j) = fmulZ (zL b j) (zb b) := by
  show (if 2 ^ b + j < 2 ^ b then _ else _) = _
  rw [if_neg (by omega), Nat.add_sub_cancel_left]
theorem zl_succ (b : Nat) : zl (b + 1) = zl b ++ (zl b).map fun z => fmulZ z (zb b) := rfl
theorem zl_len : ∀ b, (zl b).length = 2 ^ b
  | 0 => rfl
  | b + 1 => by
    rw [zl_succ, List.length_append, List.length_map, zl_len b, Nat.pow_succ]; omega
theorem zl_get : ∀ (b j : Nat) (h : j < (zl b).length), (zl b)[j] = zL b j
  | 0, j, h => by
    have h' : j < 1 := h
    have : j = 0 := by omega
    subst this; rfl
  | b + 1, j, h => by
    have hl := zl_len b
    have h' : j < 2 ^ (b + 1) := by rw [← zl_len]; exact h
    rw [Nat.pow_succ] at h'
    have hs := zl_succ b
    simp only [hs]
    rcases Nat.lt_or_ge j (2 ^ b) with h1 | h1
    · rw [List.getElem_append_left (by omega), zl_get b j (by omega), zL_low _ _ h1]
    · obtain ⟨i, rfl⟩ : ∃ i, j = 2 ^ b + i := ⟨j - 2 ^ b, by omega⟩
      rw [List.getElem_append_right (by omega), List.getElem_map, zL_high]
      congr 1
      have : 2 ^ b + i - (zl b).length = i := by omega
      simp only [this]
      exact zl_get b i (by omega)

def rB (b : Nat) : Rat := 3 * p2 (2 * (b : Int) - 240)
theorem rB_zero : rB 0 = 3 * zU := rfl
theorem rB_succ (b : Nat) : rB (b + 1) = 4 * rB b := by
  unfold rB
  rw [show 2 * ((b + 1 : Nat) : Int) - 240 = (2 * (b : Int) - 240) + 2 from by omega, p2_add, show p2 2 = 4 from rfl]; grind
theorem rB_ge (b : Nat) : 3 * zU ≤ rB b := by
  unfold rB zU
  have := p2_le (i := -240) (j := 2 * (b : Int) - 240) (by omega)
  grind
theorem rB_le (b : Nat) (h : b ≤ 10) : rB b ≤ 1/2 := by
  unfold rB
  have := p2_le (i := 2 * (b : Int) - 240) (j := -10) (by omega)
  have e : p2 (-10) = 1/1024 := by decide +kernel
  rw [e] at this; grind

theorem prod_near {a b x y : Cx} {r s : Rat} (ha : Len (a.sub x) r) (hb : Len (b.sub y) s) (hx : x.nsq = 1) (hy : y.nsq = 1) :
    Len ((a.mul b).sub (x.mul y)) (r * s + r + s) := by
  have h := ((ha.mul hb).add (ha.mul (Len.unit hy))).add ((Len.unit hx).mul hb)
  have e : (((a.sub x).mul (b.sub y)).add ((a.sub x).mul y)).add (x.mul (b.sub y)) = (a.mul b).sub (x.mul y) :=
    Cx.eq (by unfold Cx.add Cx.mul Cx.sub; simp only; grind) (by unfold Cx.add Cx.mul Cx.sub; simp only; grind)
  rw [e] at h
  exact h.mono (by grind)

theorem zb_near : ∀ b, b ≤ 10 → Len ((zc (zb b)).sub (ze.pow (2 ^ b))) (rB b)
  | 0, _ => by
    have := zb0_near
    rw [show ze.pow (2 ^ 0) = ze from Cx.pow_one ze]
    exact this.mono (by rw [rB_zero]; have := zU_pos; grind)
  | b + 1, h => by
    have ih := zb_near b (by omega)
    have h1 := prod_near ih ih (Cx.nsq_pow ze_unit _) (Cx.nsq_pow ze_unit _)
    rw [← Cx.pow_add, ← Nat.two_mul, ← Nat.pow_succ'] at h1
    have h2 := (fmulZ_near (zb b) (zb b)).tri h1
    refine h2.mono ?_
    rw [rB_succ]
    have g1 := rB_ge b
    have g2 := rB_le b (by omega)
    have g3 := zU_pos
    have g4 := Rat.mul_le_mul_of_nonneg_left g2 (show 0 ≤ rB b from by grind)
    grind
theorem zL_near : ∀ b, b ≤ 10 → ∀ j, j < 2 ^ b → Len ((zc (zL b j)).sub (ze.pow j)) (rB b)
  | 0, _, j, hj => by
    have : j = 0 := by omega
    subst this
    have e : zc (zL 0 0) = Cx.one := Cx.eq (by
      show ((2 ^ 240 : Int) : Rat) * zU = 1
      have e : ((2 ^ 240 : Int) : Rat) = ((2 ^ 240 : Nat) : Rat) := by decide +kernel
      rw [e]; exact zU_mul) (by show ((0 : Int) : Rat) * zU = 0; exact Rat.zero_mul _)
    rw [e]
    exact (Len.self Cx.one).mono (by rw [rB_zero]; have := zU_pos; grind)
  | b + 1, h, j, hj => by
    rcases Nat.lt_or_ge j (2 ^ b) with h1 | h1
    · rw [zL_low b j h1]
      refine (zL_near b (by omega) j h1).mono ?_
      rw [rB_succ]; have := rB_ge b; have := zU_pos; grind
    · obtain ⟨i, rfl⟩ : ∃ i, j = 2 ^ b + i := ⟨j - 2 ^ b, by omega⟩
      rw [Nat.pow_succ] at hj
      rw [zL_high]
      have ih := zL_near b (by omega) i (by omega)
      have h1 := prod_near ih (zb_near b (by omega)) (Cx.nsq_pow ze_unit _) (Cx.nsq_pow ze_unit _)
      rw [← Cx.pow_add, Nat.add_comm i] at h1
      have h2 := (fmulZ_near (zL b i) (zb b)).tri h1
      refine h2.mono ?_
      rw [rB_succ]
      have g1 := rB_ge b
      have g2 := rB_le b (by omega)
      have g3 := zU_pos
      have g4 := Rat.mul_le_mul_of_nonneg_left g2 (show 0 ≤ rB b from by grind)
      grind

/-- How far the root's power 1024 is from -1. -/
def tH : Rat := p2 (-210)
theorem ze_half : Len ((ze.pow (2 ^ 10)).add .one) tH := by
  have h := zb_ok
  simp only [Bool.and_eq_true, decide_eq_true_eq] at h
  obtain ⟨⟨⟨h1, h2⟩, h3⟩, h4⟩ := h
  have n := zb_near 10 (by omega)
  generalize zb 10 = z at *
  have k : Len ((zc z).add .one) (2 * ((2 ^ 12 : Nat) : Rat) * zU) := by
    clear n
    have a1 := Rat.intCast_le_intCast.2 h1
    have a2 := Rat.intCast_le_intCast.2 h2
    have a3 := Rat.intCast_le_intCast.2 h3
    have a4 := Rat.intCast_le_intCast.2 h4
    rw [Rat.intCast_add] at a1 a2
    rw [Rat.intCast_neg] at a4
    have e : ((2 ^ 240 : Int) : Rat) = ((2 ^ 240 : Nat) : Rat) := by decide +kernel
    have e2 : ((2 ^ 12 : Int) : Rat) = ((2 ^ 12 : Nat) : Rat) := by decide +kernel
    rw [e, e2] at a1; rw [e] at a2; rw [e2] at a3 a4
    have e3 : ((0 : Int) : Rat) = 0 := rfl
    rw [e3] at a2
    have k1 := zU_mul
    have hu := Rat.le_of_lt zU_pos
    unfold zc Cx.add Cx.one Len Cx.nsq
    simp only
    have hb : (0 : Rat) ≤ ((2 ^ 12 : Nat) : Rat) := by norm_cast
    generalize ((2 ^ 240 : Nat) : Rat) = P at *
    generalize ((2 ^ 12 : Nat) : Rat) = B at *
    generalize (z.1 : Rat) = p at *
    generalize (z.2 : Rat) = q at *
    generalize zU = u at *
    have e4 : p * u + 1 = (p + P) * u := by rw [← k1]; grind
    have e5 : q * u + 0 = q * u := by grind
    rw [e4, e5]
    have c1 := Rat.mul_le_mul_of_nonneg_right a1 hu
    have c2 := Rat.mul_le_mul_of_nonneg_right a2 hu
    have c3 := Rat.mul_le_mul_of_nonneg_right a3 hu
    have c4 := Rat.mul_le_mul_of_nonneg_right a4 hu
    have hBu := Rat.mul_nonneg hb hu
    have g1 : ((p + P) * u) * ((p + P) * u) ≤ (B * u) * (B * u) := sq_le_of_abs (abs_le.2 ⟨by grind, c1⟩)
    have g2 : (q * u) * (q * u) ≤ (B * u) * (B * u) := sq_le_of_abs (abs_le.2 ⟨by grind, c3⟩)
    refine ⟨by grind, ?_⟩
    have := sq_nonneg (B * u)
    generalize (p + P) * u = r at *
    generalize q * u = s at *
    grind
  have e : ((ze.pow (2 ^ 10)).add .one) = (((ze.pow (2 ^ 10)).sub (zc z)).add ((zc z).add .one)) :=
    Cx.eq (by unfold Cx.add Cx.sub; simp only; grind) (by unfold Cx.add Cx.sub; simp only; grind)
  rw [e]
  have n' : Len ((ze.pow (2 ^ 10)).sub (zc z)) (rB 10) := ⟨n.1, by rw [Cx.nsq_sub_comm]; exact n.2⟩
  refine (n'.add k).mono ?_
  unfold rB zU tH
  decide +kernel
end Go.Proofs.Ygctaf
