/-
  fftx.refine BRINGS NEARER: far off (the coarse law).
-/
import Derived.Test.YgctafRef
namespace Go.Proofs.Ygctaf
open Ieee

theorem qp_mul (x y : Rat) : ∀ n, qp (x * y) n = qp x n * qp y n
  | 0 => by show (1 : Rat) = 1 * 1; grind
  | n + 1 => by show qp (x * y) n * (x * y) = qp x n * x * (qp y n * y); rw [qp_mul x y n]; grind
/-- Powers of a number near one of length 1. -/
theorem pow_near_unit {a b : Cx} {d : Rat} (hb : b.nsq = 1) (h : Len (a.sub b) d) : ∀ n, Len ((a.pow n).sub (b.pow n)) (qp (1 + d) n - 1)
  | 0 => (Len.self Cx.one).mono (by show (0 : Rat) ≤ 1 - 1; grind)
  | n + 1 => by
    have ih := pow_near_unit hb h n
    have hd := h.1
    have la : Len a (1 + d) := (h.of_sub (Len.unit hb)).mono (by grind)
    have x := (ih.mul la).add ((Len.unit (Cx.nsq_pow hb n)).mul h)
    have e : (((a.pow n).sub (b.pow n)).mul a).add ((b.pow n).mul (a.sub b)) = (a.pow (n + 1)).sub (b.pow (n + 1)) := by
      show _ = ((a.pow n).mul a).sub ((b.pow n).mul b)
      generalize a.pow n = p
      generalize b.pow n = q
      exact Cx.eq (by unfold Cx.add Cx.sub Cx.mul; simp only; grind) (by unfold Cx.add Cx.sub Cx.mul; simp only; grind)
    rw [e] at x
    refine x.mono ?_
    show _ ≤ qp (1 + d) n * (1 + d) - 1
    grind

theorem qp_big {x : Rat} (h0 : 0 ≤ x) (h : 4096 * x ≤ 1/100) (N K : Nat) (hN : N = 2048) (hK : K = N + N) : qp (1 + x) K ≤ 2 := by
  have hc : (N : Rat) = 2048 := by rw [hN]; rfl
  have s := qp_small h0 (N := N) (by rw [hc]; grind) N (Nat.le_refl _)
  rw [hc] at s
  have o := qp_one_le (show 1 ≤ 1 + x by grind) N
  rw [hK, qp_add]
  generalize qp (1 + x) N = Q at *
  have t : Q ≤ 102/100 := by grind
  have := Rat.mul_le_mul_of_nonneg_left t (show 0 ≤ Q by grind)
  grind
def xK (k : Rat) : Rat := k + rM + k * rM
/-- power and the quotient: the turn's amount. -/
theorem turn_amount {z : Nat × Nat} {n : Nat} {rh v : Cx} {k b : Rat} (hz : Bd 1 z) (h0 : 0 < n) (hn : n ≤ 2048) (hr : rh.nsq = 1) (hrn : Len ((rh.pow n).sub .one) tau) (hv : v.nsq = 1)
    (hk : Len ((cv z).sub (rh.mul v)) k) (hx : 4096 * xK k ≤ 1/100) (hb : (v.pow n).im.abs ≤ (n : Rat) * b) (hb1 : b ≤ 1/4) :
    B1 1 (trnG z n) ∧ (V (trnG z n) + (v.pow n).im * (n : Rat)⁻¹).abs ≤ 101/100 * xK k + tau + 2 * EE * (b + 101/100 * xK k + tau) + TT := by
  have hk0 := hk.1
  have hrM := rM_nonneg
  have hxk0 : 0 ≤ xK k := by
    unfold xK
    have := Rat.mul_nonneg hk0 hrM
    generalize rM = r at *
    clear hx
    grind
  have hrv : (rh.mul v).nsq = 1 := by rw [Cx.nsq_mul, hr, hv]; grind
  have lz : Len (cv z) (1 + k) := (hk.of_sub (Len.unit hrv)).mono (by grind)
  have eM : (1 + k) * (1 + rM) = 1 + xK k := by unfold xK; generalize rM = r; grind
  have hbig : qp (1 + k) 4096 * qp (1 + rM) 4096 ≤ 2 := by
    have key : ∀ K : Nat, K = 4096 → qp (1 + k) K * qp (1 + rM) K ≤ 2 := fun K hK => by
      rw [← qp_mul, eM]; exact qp_big hxk0 hx 2048 K rfl hK
    exact key 4096 rfl
  obtain ⟨bp, pe⟩ := pow_err (n := n) hz lz (by grind) hbig hn
  have zn := pow_near_unit hrv hk n
  have hP := pe.tri zn
  have hnN : (n : Rat) ≤ 2048 := Rat.natCast_le_natCast.2 hn
  have h1n : (1 : Rat) ≤ (n : Rat) := Rat.natCast_le_natCast.2 h0
  have hn0 : (0 : Rat) < (n : Rat) := by grind
  have sm := qp_small hxk0 (N := 2048) (by rw [show ((2048 : Nat) : Rat) = 2048 from rfl]; grind) n hn
  rw [← eM, qp_mul] at sm
  have hP2 : Len ((cv (powF z n)).sub ((rh.mul v).pow n)) (101/100 * ((n : Rat) * xK k)) := hP.mono (by grind)
  have pm : ∀ n, (rh.mul v).pow n = (rh.pow n).mul (v.pow n) := by
    intro n
    induction n with
    | zero => exact (Cx.mul_one _).symm
    | succ n ih =>
      show ((rh.mul v).pow n).mul (rh.mul v) = ((rh.pow n).mul rh).mul ((v.pow n).mul v)
      rw [ih]
      generalize rh.pow n = p
      generalize v.pow n = q
      exact Cx.eq (by unfold Cx.mul; simp only; grind) (by unfold Cx.mul; simp only; grind)
  rw [pm] at hP2
  have q1 := hrn.mul (Len.unit (Cx.nsq_pow hv n))
  have e1 : ((rh.pow n).sub .one).mul (v.pow n) = ((rh.pow n).mul (v.pow n)).sub (v.pow n) := by rw [Cx.sub_mul, Cx.one_mul]
  rw [e1, Rat.mul_one] at q1
  have hP3 := (hP2.tri q1).parts.2
  have hf : (V (powF z n).2 - (v.pow n).im).abs ≤ 101/100 * ((n : Rat) * xK k) + tau := hP3
  -- the quotient
  obtain ⟨fb, fv⟩ := fintN_val n hn
  have hinv : (n : Rat) * (n : Rat)⁻¹ = 1 := Rat.mul_inv_cancel _ (Rat.ne_of_gt hn0)
  have hi0 : 0 ≤ (n : Rat)⁻¹ := Rat.le_of_lt (Rat.inv_pos.2 hn0)
  have hi1 : (n : Rat)⁻¹ ≤ 1 := by have := Rat.mul_le_mul_of_nonneg_right h1n hi0; grind
  have ediv : V (powF z n).2 / V (fint (n : Int)) = V (powF z n).2 * (n : Rat)⁻¹ := by rw [fv]; exact Rat.div_def _ _
  have htau : 0 ≤ tau := p2_nonneg _
  have hq : (V (powF z n).2 * (n : Rat)⁻¹ - (v.pow n).im * (n : Rat)⁻¹).abs ≤ 101/100 * xK k + tau := by
    have e2 : V (powF z n).2 * (n : Rat)⁻¹ - (v.pow n).im * (n : Rat)⁻¹ = (V (powF z n).2 - (v.pow n).im) * (n : Rat)⁻¹ := by grind
    rw [e2, abs_mul, Rat.abs_of_nonneg hi0]
    have := Rat.mul_le_mul_of_nonneg_right hf hi0
    have e3 : (101/100 * ((n : Rat) * xK k) + tau) * (n : Rat)⁻¹ = 101/100 * xK k * ((n : Rat) * (n : Rat)⁻¹) + tau * (n : Rat)⁻¹ := by grind
    rw [e3, hinv, Rat.mul_one] at this
    have t2 := Rat.mul_le_mul_of_nonneg_left hi1 htau
    grind
  have hvn : ((v.pow n).im * (n : Rat)⁻¹).abs ≤ b := by
    rw [abs_mul, Rat.abs_of_nonneg hi0]
    have := Rat.mul_le_mul_of_nonneg_right hb hi0
    have e3 : (n : Rat) * b * (n : Rat)⁻¹ = b * ((n : Rat) * (n : Rat)⁻¹) := by grind
    rw [e3, hinv, Rat.mul_one] at this; exact this
  have hF : (V (powF z n).2 * (n : Rat)⁻¹).abs ≤ b + 101/100 * xK k + tau := by
    have := abs_add (V (powF z n).2 * (n : Rat)⁻¹ - (v.pow n).im * (n : Rat)⁻¹) ((v.pow n).im * (n : Rat)⁻¹)
    rw [show V (powF z n).2 * (n : Rat)⁻¹ - (v.pow n).im * (n : Rat)⁻¹ + (v.pow n).im * (n : Rat)⁻¹ = V (powF z n).2 * (n : Rat)⁻¹ from by grind] at this
    grind
  have htau1 : tau ≤ 1/1000 := by unfold tau; decide +kernel
  have hF1 : (V (powF z n).2 * (n : Rat)⁻¹).abs ≤ 1/2 := Rat.le_trans hF (by grind)
  have hne : V (fint (n : Int)) ≠ 0 := by rw [fv]; exact Rat.ne_of_gt hn0
  obtain ⟨dn, dl, de⟩ := div_near bp.im.num fb.num hne (by
    rw [ediv]
    have : (1/2 : Rat) < p2 1022 := by decide +kernel
    grind)
  rw [ediv] at de
  have E2 : p2 (-52) = 2 * EE := by unfold EE; decide +kernel
  rw [E2] at de
  have de2 : (V (fdiv (powF z n).2 (fint (n : Int))) - V (powF z n).2 * (n : Rat)⁻¹).abs ≤ 2 * EE * (b + 101/100 * xK k + tau) + TT := by
    refine Rat.le_trans de ?_
    have := Rat.mul_le_mul_of_nonneg_left hF (show 0 ≤ 2 * EE by have := EE_pos; grind)
    show _ ≤ _ + p2 (-1075)
    grind
  obtain ⟨nn, nv⟩ := neg_num dl dn
  have vg : V (trnG z n) = - V (fdiv (powF z n).2 (fint (n : Int))) := nv
  have fin : (V (trnG z n) + (v.pow n).im * (n : Rat)⁻¹).abs ≤ 101/100 * xK k + tau + 2 * EE * (b + 101/100 * xK k + tau) + TT := by
    rw [vg]
    have := abs_add (V (fdiv (powF z n).2 (fint (n : Int))) - V (powF z n).2 * (n : Rat)⁻¹) (V (powF z n).2 * (n : Rat)⁻¹ - (v.pow n).im * (n : Rat)⁻¹)
    rw [show - V (fdiv (powF z n).2 (fint (n : Int))) + (v.pow n).im * (n : Rat)⁻¹ = -((V (fdiv (powF z n).2 (fint (n : Int))) - V (powF z n).2 * (n : Rat)⁻¹) + (V (powF z n).2 * (n : Rat)⁻¹ - (v.pow n).im * (n : Rat)⁻¹)) from by grind, Rat.abs_neg]
    grind
  refine ⟨⟨nn, neg_lt dl, ?_⟩, fin⟩
  have e2 : p2 1 = 2 := by decide +kernel
  rw [e2]
  have hE2 := EE_small
  have hE0 := EE_pos
  have hTT : TT ≤ 1/1000 := by unfold TT; decide +kernel
  have hx2 : xK k ≤ 1/100 := by grind
  have k1 : 2 * EE * (b + 101/100 * xK k + tau) ≤ 1/1000 := by
    have := Rat.mul_le_mul_of_nonneg_left (show b + 101/100 * xK k + tau ≤ 1 by grind) (show 0 ≤ 2 * EE by grind)
    grind
  have := abs_le.1 fin
  have := abs_le.1 hvn
  show (V (trnG z n)).abs ≤ 2
  rw [abs_le]
  grind
end Go.Proofs.Ygctaf
