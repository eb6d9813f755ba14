/-
  fftx.refine BRINGS NEARER, far off: the law.
-/
import Derived.Test.YgctafRef2
namespace Go.Proofs.Ygctaf
open Ieee

theorem nsq_diff {a c : Cx} {E C : Rat} (h : Len (a.sub c) E) (hc : Len c C) : (a.nsq - c.nsq).abs ≤ E * (2 * C + E) := by
  have d1 := dot_le hc h
  have d2 := dot_le hc.neg h
  have n := h.2
  have n0 := (a.sub c).nsq_nonneg
  unfold Cx.sub Cx.neg at *
  unfold Cx.nsq at *
  simp only at *
  rw [abs_le]
  have hE := h.1
  have hC := hc.1
  generalize a.re = p at *
  generalize a.im = q at *
  generalize c.re = u at *
  generalize c.im = w at *
  constructor
  · grind
  · grind
theorem tri_third {n : Nat} (h0 : 0 < n) (hn : n ≤ 2048) : triQ n * (n : Rat)⁻¹ ≤ 4194304/3 := by
  have t := triQ_le n
  have h1 : (1 : Rat) ≤ (n : Rat) := Rat.natCast_le_natCast.2 h0
  have h2 : (n : Rat) ≤ 2048 := Rat.natCast_le_natCast.2 hn
  have hn0 : (0 : Rat) < (n : Rat) := by grind
  have hinv : (n : Rat) * (n : Rat)⁻¹ = 1 := Rat.mul_inv_cancel _ (Rat.ne_of_gt hn0)
  have hi0 : 0 ≤ (n : Rat)⁻¹ := Rat.le_of_lt (Rat.inv_pos.2 hn0)
  have hn2 : (n : Rat) * (n : Rat) ≤ 4194304 := by
    have := Rat.mul_le_mul_of_nonneg_left h2 (show 0 ≤ (n : Rat) by grind)
    grind
  have e : 3 * triQ n ≤ (n : Rat) * ((n : Rat) * (n : Rat)) := by grind
  have m := Rat.mul_le_mul_of_nonneg_right e hi0
  have e2 : (n : Rat) * ((n : Rat) * (n : Rat)) * (n : Rat)⁻¹ = (n : Rat) * (n : Rat) * ((n : Rat) * (n : Rat)⁻¹) := by grind
  rw [e2, hinv, Rat.mul_one] at m
  grind

/-- The unit number near 1 - i h. -/
def eUn (h : Rat) : Cx := ⟨(1 - 1/4 * (h * h)) * (1 + 1/4 * (h * h))⁻¹, -(h * (1 + 1/4 * (h * h))⁻¹)⟩
theorem eUn_facts (h : Rat) {b : Rat} (hb : h.abs ≤ b) (hb1 : b ≤ 1/100) : (eUn h).nsq = 1 ∧ Len ((eUn h).sub .one) b ∧ Len ((Cx.scale (1 - 1/2 * (h * h)) (onI (-h))).sub (eUn h)) (b * b * b) := by
  have hb0 : 0 ≤ b := Rat.le_trans Rat.abs_nonneg hb
  have hs := sq_le_of_abs hb
  have hq := sq_nonneg h
  have hD : 1 ≤ 1 + 1/4 * (h * h) := by grind
  have hi := Rat.mul_inv_cancel (1 + 1/4 * (h * h)) (by grind)
  have hv0 : 0 ≤ (1 + 1/4 * (h * h))⁻¹ := Rat.le_of_lt (Rat.inv_pos.2 (by grind))
  have hv1 : (1 + 1/4 * (h * h))⁻¹ ≤ 1 := by
    have := Rat.mul_le_mul_of_nonneg_right hD hv0
    rw [Rat.one_mul, hi] at this; exact this
  unfold eUn
  generalize hv : (1 + 1/4 * (h * h))⁻¹ = v at *
  have vv : v * v ≤ 1 := by have := Rat.mul_le_mul_of_nonneg_left hv1 hv0; grind
  have hbb : b * b ≤ 1/10000 := by
    have := Rat.mul_le_mul_of_nonneg_left hb1 hb0
    grind
  obtain ⟨q, hqe⟩ : ∃ q, q = 1/4 * (h * h) := ⟨_, rfl⟩
  have h4 : h * h = 4 * q := by grind
  rw [h4] at hs hi ⊢
  have hq0 : 0 ≤ q := by grind
  have hq1 : q ≤ 1/40000 := by grind
  have hi' : (1 + q) * v = 1 := by rw [show 1 + q = 1 + 1/4 * (4 * q) from by grind]; exact hi
  refine ⟨?_, ⟨hb0, ?_⟩, ⟨by have := Rat.mul_nonneg hb0 hb0; exact Rat.mul_nonneg this hb0, ?_⟩⟩
  · unfold Cx.nsq
    simp only
    have e : (1 - 1/4 * (4 * q)) * v * ((1 - 1/4 * (4 * q)) * v) + -(h * v) * -(h * v) = ((1 - q) * (1 - q) + h * h) * (v * v) := by grind
    rw [e, h4]
    have e2 : ((1 - q) * (1 - q) + 4 * q) * (v * v) = ((1 + q) * v) * ((1 + q) * v) := by grind
    rw [e2, hi']; grind
  · unfold Cx.nsq Cx.sub Cx.one
    simp only
    have k1 : (1 - 1/4 * (4 * q)) * v - 1 = -(2 * q) * v := by
      have : (1 : Rat) = (1 + q) * v := hi'.symm
      grind
    have k2 : -(h * v) - 0 = -(h * v) := by grind
    rw [k1, k2]
    have e : -(2 * q) * v * (-(2 * q) * v) + -(h * v) * -(h * v) = (4 * (q * q) + h * h) * (v * v) := by grind
    rw [e, h4]
    have e3 : (4 * (q * q) + 4 * q) * (v * v) = 4 * q * v * ((1 + q) * v) := by grind
    rw [e3, hi', Rat.mul_one]
    have := Rat.mul_le_mul_of_nonneg_left hv1 (show 0 ≤ 4 * q by grind)
    grind
  · unfold Cx.nsq Cx.sub Cx.scale onI
    simp only
    have one : (1 : Rat) = (1 + q) * v := hi'.symm
    have k1 : (1 - 1/2 * (4 * q)) * 1 - (1 - 1/4 * (4 * q)) * v = -(2 * (q * q)) * v := by
      have : (1 - 2 * q) * ((1 + q) * v) - (1 - q) * v = -(2 * (q * q)) * v := by grind
      rw [hi'] at this; grind
    have k2 : (1 - 1/2 * (4 * q)) * -h - -(h * v) = h * (q + 2 * (q * q)) * v := by
      have : -(1 - 2 * q) * h * ((1 + q) * v) + h * v = h * (q + 2 * (q * q)) * v := by grind
      rw [hi'] at this; grind
    rw [k1, k2]
    have e : -(2 * (q * q)) * v * (-(2 * (q * q)) * v) + h * (q + 2 * (q * q)) * v * (h * (q + 2 * (q * q)) * v) = (4 * (q * q) * (q * q) + (h * h) * ((q + 2 * (q * q)) * (q + 2 * (q * q)))) * (v * v) := by grind
    rw [e, h4]
    have qq : q * q ≤ 1/40000 * q := Rat.mul_le_mul_of_nonneg_right hq1 hq0
    have q3 : 0 ≤ q * q * q := Rat.mul_nonneg (Rat.mul_nonneg hq0 hq0) hq0
    have body : 4 * (q * q) * (q * q) + 4 * q * ((q + 2 * (q * q)) * (q + 2 * (q * q))) ≤ 5 * (q * q * q) := by
      have e4 : 4 * (q * q) * (q * q) + 4 * q * ((q + 2 * (q * q)) * (q + 2 * (q * q))) = 4 * (q * q * q) + q * (20 * (q * q * q)) + (q * q) * (16 * (q * q * q)) := by grind
      rw [e4]
      have m1 := Rat.mul_le_mul_of_nonneg_right hq1 (show 0 ≤ 20 * (q * q * q) by grind)
      have m2 := Rat.mul_le_mul_of_nonneg_right (show q * q ≤ 1/40000 by grind) (show 0 ≤ 16 * (q * q * q) by grind)
      grind
    have nb : 0 ≤ 4 * (q * q) * (q * q) + 4 * q * ((q + 2 * (q * q)) * (q + 2 * (q * q))) := by
      have := Rat.mul_nonneg (show 0 ≤ 4 * (q * q) by have := sq_nonneg q; grind) (sq_nonneg q)
      have := Rat.mul_nonneg (show 0 ≤ 4 * q by grind) (sq_nonneg (q + 2 * (q * q)))
      grind
    have m := Rat.mul_le_mul_of_nonneg_left vv nb
    -- 4 q <= b^2
    have hqb : q ≤ 1/4 * (b * b) := by grind
    have p1 := Rat.mul_le_mul_of_nonneg_left hqb hq0
    have p2' : q * q ≤ 1/16 * (b * b * (b * b)) := by
      have := Rat.mul_le_mul_of_nonneg_right hqb (show 0 ≤ 1/4 * (b * b) by grind)
      grind
    have p3 : q * q * q ≤ 1/64 * (b * b * b * (b * b * b)) := by
      have a1 := Rat.mul_le_mul_of_nonneg_left hqb (sq_nonneg q)
      have a2 := Rat.mul_le_mul_of_nonneg_right p2' (show 0 ≤ 1/4 * (b * b) by grind)
      grind
    have b6 : 0 ≤ b * b * b * (b * b * b) := sq_nonneg _
    grind
end Go.Proofs.Ygctaf
