/-
  fftx.refine, far off: one step.
-/
import Derived.Test.YgctafRef3
namespace Go.Proofs.Ygctaf
open Ieee

/-- z lies within k of rh times a number of length 1 that lies within b of 1. -/
structure NrSt (rh : Cx) (k b : Rat) (z : Nat × Nat) : Prop where
  bd : Bd 1 z
  at' : ∃ v : Cx, v.nsq = 1 ∧ Len ((cv z).sub (rh.mul v)) k ∧ Len (v.sub .one) b
theorem NrSt.mono {rh : Cx} {k b k' b' : Rat} {z : Nat × Nat} (h : NrSt rh k b z) (hk : k ≤ k') (hb : b ≤ b') : NrSt rh k' b' z := by
  obtain ⟨v, h1, h2, h3⟩ := h.at'
  exact ⟨h.bd, v, h1, h2.mono hk, h3.mono hb⟩

theorem onI_diff {a c g : Rat} (h : (a - c).abs ≤ g) : Len ((onI a).sub (onI c)) g := by
  refine ⟨Rat.le_trans Rat.abs_nonneg h, ?_⟩
  unfold onI Cx.sub Cx.nsq
  simp only
  have := sq_le_of_abs h
  grind
theorem scale_diff {a c g X : Rat} {z : Cx} (h : (a - c).abs ≤ g) (hz : Len z X) : Len ((Cx.scale a z).sub (Cx.scale c z)) (g * X) := by
  have hg : 0 ≤ g := Rat.le_trans Rat.abs_nonneg h
  refine ⟨Rat.mul_nonneg hg hz.1, ?_⟩
  have e : ((Cx.scale a z).sub (Cx.scale c z)).nsq = (a - c) * (a - c) * z.nsq := by unfold Cx.scale Cx.sub Cx.nsq; simp only; grind
  rw [e]
  have s := sq_le_of_abs h
  have m1 := Rat.mul_le_mul_of_nonneg_right s z.nsq_nonneg
  have m2 := Rat.mul_le_mul_of_nonneg_left hz.2 (sq_nonneg g)
  grind
theorem scale_len {a W X : Rat} {z : Cx} (h : a.abs ≤ W) (hz : Len z X) : Len (Cx.scale a z) (W * X) := by
  have hW : 0 ≤ W := Rat.le_trans Rat.abs_nonneg h
  refine ⟨Rat.mul_nonneg hW hz.1, ?_⟩
  rw [Cx.nsq_scale]
  have s := sq_le_of_abs h
  have m1 := Rat.mul_le_mul_of_nonneg_right s z.nsq_nonneg
  have m2 := Rat.mul_le_mul_of_nonneg_left hz.2 (sq_nonneg W)
  grind
/-- A unit number by its imaginary part. -/
theorem unit_im {v : Cx} {I : Rat} (hv : v.nsq = 1) (hr : 49/50 ≤ v.re) (hi : v.im.abs ≤ I) : Len (v.sub .one) (101/100 * I) := by
  have hI : 0 ≤ I := Rat.le_trans Rat.abs_nonneg hi
  refine ⟨by grind, ?_⟩
  obtain ⟨h1, h2, h3⟩ := unit_parts hv
  rw [h3]
  have s := sq_le_of_abs hi
  unfold Cx.nsq at hv
  have e : (1 - v.re) * (1 + v.re) = v.im * v.im := by grind
  have m := Rat.mul_le_mul_of_nonneg_left (show 99/50 ≤ 1 + v.re by grind) (show 0 ≤ 1 - v.re by grind)
  grind

/-- The turn, in numbers. -/
theorem turn_far {z : Nat × Nat} {n : Nat} {rh v : Cx} {k b g E : Rat} (hz : Bd 1 z) (h0 : 0 < n) (hn : n ≤ 2048) (hr : rh.nsq = 1) (hrn : Len ((rh.pow n).sub .one) tau) (hv : v.nsq = 1)
    (hk : Len ((cv z).sub (rh.mul v)) k) (hvb : Len (v.sub .one) b) (hx : 4096 * xK k ≤ 1/100) (heg : 101/100 * xK k + tau + 2 * EE * (b + 101/100 * xK k + tau) + TT ≤ g)
    (hE : EE * ((1 + k) * (1 + 4 * (b + g))) + 6 * TT + k * (1 + (b + g)) + g ≤ E) (hb1 : b ≤ 1/1000) :
    ∃ h : Rat, h = (v.pow n).im * (n : Rat)⁻¹ ∧ h.abs ≤ b ∧ Bd 5 (trnF z n) ∧ Len ((cv (trnF z n)).sub (rh.mul (v.mul (onI (-h))))) E := by
  have hk0 := hk.1
  have hb0 := hvb.1
  have hn0 : (0 : Rat) < (n : Rat) := Rat.natCast_pos.2 h0
  have hinv : (n : Rat) * (n : Rat)⁻¹ = 1 := Rat.mul_inv_cancel _ (Rat.ne_of_gt hn0)
  have hi0 : 0 ≤ (n : Rat)⁻¹ := Rat.le_of_lt (Rat.inv_pos.2 hn0)
  have vi : (v.pow n).im.abs ≤ (n : Rat) * b := by
    have := (pow_one_near hv hvb n).parts.2
    have e : ((v.pow n).sub .one).im = (v.pow n).im := by show (v.pow n).im - 0 = _; grind
    rw [e] at this; exact this
  obtain ⟨bg, ge⟩ := turn_amount hz h0 hn hr hrn hv hk hx vi (by grind)
  have ge' := Rat.le_trans ge heg
  refine ⟨(v.pow n).im * (n : Rat)⁻¹, rfl, ?_, ?_⟩
  · rw [abs_mul, Rat.abs_of_nonneg hi0]
    have := Rat.mul_le_mul_of_nonneg_right vi hi0
    have e3 : (n : Rat) * b * (n : Rat)⁻¹ = b * ((n : Rat) * (n : Rat)⁻¹) := by grind
    rw [e3, hinv, Rat.mul_one] at this; exact this
  · have hh : ((v.pow n).im * (n : Rat)⁻¹).abs ≤ b := by
      rw [abs_mul, Rat.abs_of_nonneg hi0]
      have := Rat.mul_le_mul_of_nonneg_right vi hi0
      have e3 : (n : Rat) * b * (n : Rat)⁻¹ = b * ((n : Rat) * (n : Rat)⁻¹) := by grind
      rw [e3, hinv, Rat.mul_one] at this; exact this
    generalize (v.pow n).im * (n : Rat)⁻¹ = h at *
    have hG : (V (trnG z n)).abs ≤ b + g := by
      have a := abs_le.1 ge'
      have c := abs_le.1 hh
      rw [abs_le]; grind
    have hrv : (rh.mul v).nsq = 1 := by rw [Cx.nsq_mul, hr, hv]; grind
    have lz : Len (cv z) (1 + k) := (hk.of_sub (Len.unit hrv)).mono (by grind)
    obtain ⟨tb, te⟩ := turn_err hz bg lz hG
    refine ⟨tb, ?_⟩
    have p2' := hk.mul (onI_len hG)
    have p3 := (Len.unit hrv).mul (onI_diff (a := V (trnG z n)) (c := -h) (g := g) (by rw [show V (trnG z n) - -h = V (trnG z n) + h from by grind]; exact ge'))
    have e1 : ((cv (cmul z (4607182418800017408, trnG z n))).sub ((cv z).mul (onI (V (trnG z n))))).add ((((cv z).sub (rh.mul v)).mul (onI (V (trnG z n)))).add ((rh.mul v).mul ((onI (V (trnG z n))).sub (onI (-h))))) = (cv (trnF z n)).sub (rh.mul (v.mul (onI (-h)))) := by
      show _ = (cv (cmul z (4607182418800017408, trnG z n))).sub _
      generalize cv (cmul z (4607182418800017408, trnG z n)) = p
      generalize onI (V (trnG z n)) = o
      generalize onI (-h) = q
      generalize cv z = Z
      exact Cx.eq (by unfold Cx.add Cx.sub Cx.mul; simp only; grind) (by unfold Cx.add Cx.sub Cx.mul; simp only; grind)
    have s := te.add (p2'.add p3)
    rw [e1] at s
    exact s.mono (by grind)

/-- The mend, in numbers. -/
theorem mend_far {z : Nat × Nat} {rh t : Cx} {h b E X : Rat} (hz : Bd 5 z) (hr : rh.nsq = 1) (ht : t.nsq = 1 + h * h) (hh : h.abs ≤ b) (hE : Len ((cv z).sub (rh.mul t)) E) (hb1 : b ≤ 1/1000) (hE1 : E ≤ 1/1000) (hX : b * b + E * (2 + 2 * b + E) ≤ X) (hX1 : X ≤ 1/64) :
    Bd 1 (scaF z (menF z)) ∧ ((cv (scaF z (menF z))).nsq - 1).abs ≤ X * X + 10 * EE ∧ Len ((cv (scaF z (menF z))).sub (rh.mul (Cx.scale (1 - 1/2 * (h * h)) t))) (5 * EE + 21/10 * E) := by
  have hE0 := hE.1
  have hb0 : 0 ≤ b := Rat.le_trans Rat.abs_nonneg hh
  have hs := sq_le_of_abs hh
  have hq := sq_nonneg h
  have lt' : Len t (1 + b) := ⟨by grind, by rw [ht]; grind⟩
  have lrt : Len (rh.mul t) (1 + b) := by have := (Len.unit hr).mul lt'; rw [Rat.one_mul] at this; exact this
  have lz : Len (cv z) (65/64) := (hE.of_sub lrt).mono (by grind)
  have bz := hz.of_len (lz.mono (by decide +kernel))
  have nd := nsq_diff hE lrt
  have nrt : (rh.mul t).nsq = 1 + h * h := by rw [Cx.nsq_mul, hr, ht]; grind
  rw [nrt] at nd
  have nd' : ((cv z).nsq - (1 + h * h)).abs ≤ E * (2 + 2 * b + E) := by
    refine Rat.le_trans nd ?_
    have : E * (2 * (1 + b) + E) = E * (2 + 2 * b + E) := by grind
    rw [this]; exact Rat.le_refl
  have hY : ((cv z).nsq - 1).abs ≤ X := by
    have a := abs_le.1 nd'
    rw [abs_le]; grind
  obtain ⟨bm, me⟩ := men_err bz (Rat.le_trans hY hX1)
  have hEE := EE_pos
  have hEE2 := EE_small
  have hTE : TT ≤ 1/1000 * EE := by unfold TT EE; decide +kernel
  have hTT := TT_pos
  have vm : (V (menF z)).abs ≤ 65/64 := by
    have a := abs_le.1 me
    have c := abs_le.1 (Rat.le_trans hY hX1)
    rw [abs_le]; grind
  obtain ⟨sb, se⟩ := sca_err bz bm lz vm
  have se' : Len ((cv (scaF z (menF z))).sub (Cx.scale (V (menF z)) (cv z))) (11/10 * EE) := se.mono (by grind)
  have lmz := scale_len vm lz
  have l2 : Len (cv (scaF z (menF z))) 2 := (se'.of_sub lmz).mono (by grind)
  refine ⟨sb.of_len l2, ?_, ?_⟩
  · have d1 := nsq_diff se' lmz
    have e1 : (Cx.scale (V (menF z)) (cv z)).nsq = V (menF z) * V (menF z) * (cv z).nsq := Cx.nsq_scale _ _
    rw [e1] at d1
    have d2 : (V (menF z) * V (menF z) * (cv z).nsq - 1).abs ≤ X * X + 11/2 * EE := by
      have hYl := abs_le.1 hY
      have hYs := sq_le_of_abs hY
      obtain ⟨D, hD⟩ : ∃ D, D = V (menF z) - (3/2 - 1/2 * (cv z).nsq) := ⟨_, rfl⟩
      rw [← hD] at me
      have hDl := abs_le.1 me
      have eV : V (menF z) = 1 - 1/2 * ((cv z).nsq - 1) + D := by rw [hD]; grind
      rw [eV]
      have hS : (cv z).nsq = 1 + ((cv z).nsq - 1) := by grind
      rw [hS]
      generalize (cv z).nsq - 1 = Y at *
      clear hS eV hD d1 e1 se se' lmz l2 sb bm me nd nd' vm lz bz
      have hXs : X ≤ 1/64 := hX1
      have y1 : Y ≤ 1/64 := by grind
      have y0 : -(1/64) ≤ Y := by grind
      -- (1 + Y)(1 - Y/2)^2 = 1 - 3/4 Y^2 + 1/4 Y^3
      have ex : (1 - 1/2 * (1 + Y - 1) + D) * (1 - 1/2 * (1 + Y - 1) + D) * (1 + Y) - 1 = -(3/4) * (Y * Y) + 1/4 * (Y * (Y * Y)) + D * ((1 + Y) * (2 - Y + D)) := by grind
      rw [ex]
      have yy0 := sq_nonneg Y
      have c1 := Rat.mul_le_mul_of_nonneg_right y1 yy0
      have c0 := Rat.mul_le_mul_of_nonneg_right y0 yy0
      have w1 : (1 + Y) * (2 - Y + D) ≤ 21/10 := by
        have a1 : 2 - Y + D ≤ 203/100 := by grind
        have a0 : 0 ≤ 2 - Y + D := by grind
        have := Rat.mul_le_mul_of_nonneg_right (show 1 + Y ≤ 65/64 by grind) a0
        grind
      have w0 : 0 ≤ (1 + Y) * (2 - Y + D) := Rat.mul_nonneg (by grind) (by grind)
      have hm : (D * ((1 + Y) * (2 - Y + D))).abs ≤ 13/5 * EE * (21/10) := by
        rw [abs_mul, Rat.abs_of_nonneg w0]
        have t1 := Rat.mul_le_mul_of_nonneg_right (abs_le.2 hDl) w0
        have t2 := Rat.mul_le_mul_of_nonneg_left w1 (show 0 ≤ 13/5 * EE by grind)
        grind
      have hml := abs_le.1 hm
      rw [abs_le]
      constructor
      · grind
      · grind
    have k1 := abs_le.1 d1
    have k2 := abs_le.1 d2
    have k3 : 11/10 * EE * (2 * (65/64 * (65/64)) + 11/10 * EE) ≤ 5/2 * EE := by
      have := Rat.mul_le_mul_of_nonneg_left (show 2 * (65/64 * (65/64)) + 11/10 * EE ≤ 21/10 by grind) (show 0 ≤ 11/10 * EE by grind)
      grind
    rw [abs_le]
    grind
  · have q2 := scale_len vm hE
    have e1 : Cx.scale (V (menF z)) ((cv z).sub (rh.mul t)) = (Cx.scale (V (menF z)) (cv z)).sub (Cx.scale (V (menF z)) (rh.mul t)) := Cx.eq (by unfold Cx.scale Cx.sub; simp only; grind) (by unfold Cx.scale Cx.sub; simp only; grind)
    rw [e1] at q2
    have vd : (V (menF z) - (1 - 1/2 * (h * h))).abs ≤ 13/5 * EE + 1/2 * (E * (2 + 2 * b + E)) := by
      have a := abs_le.1 me
      have c := abs_le.1 nd'
      rw [abs_le]; grind
    have q3 := scale_diff vd lrt
    have e2 : Cx.scale (1 - 1/2 * (h * h)) (rh.mul t) = rh.mul (Cx.scale (1 - 1/2 * (h * h)) t) := Cx.eq (by unfold Cx.scale Cx.mul; simp only; grind) (by unfold Cx.scale Cx.mul; simp only; grind)
    rw [e2] at q3
    refine ((se'.tri q2).tri q3).mono ?_
    have k1 : E * (2 + 2 * b + E) ≤ 2003/1000 * E := by
      have := Rat.mul_le_mul_of_nonneg_left (show 2 + 2 * b + E ≤ 2003/1000 by grind) hE0
      grind
    have k2 := Rat.mul_le_mul_of_nonneg_left (show 1 + b ≤ 1001/1000 by grind) (show 0 ≤ 13/5 * EE + 1/2 * (2003/1000 * E) by grind)
    have k3 := Rat.mul_le_mul_of_nonneg_right (show 13/5 * EE + 1/2 * (E * (2 + 2 * b + E)) ≤ 13/5 * EE + 1/2 * (2003/1000 * E) by grind) (show 0 ≤ 1 + b by grind)
    grind

theorem refine_far {z : Nat × Nat} {n : Nat} {rh : Cx} {k b g E X k' b' : Rat} (h0 : 0 < n) (hn : n ≤ 2048) (hr : rh.nsq = 1) (hrn : Len ((rh.pow n).sub .one) tau) (hst : NrSt rh k b z)
    (hx : 4096 * xK k ≤ 1/100) (heg : 101/100 * xK k + tau + 2 * EE * (b + 101/100 * xK k + tau) + TT ≤ g)
    (hE : EE * ((1 + k) * (1 + 4 * (b + g))) + 6 * TT + k * (1 + (b + g)) + g ≤ E) (hb1 : b ≤ 1/1000) (hE1 : E ≤ 1/1000) (hX : b * b + E * (2 + 2 * b + E) ≤ X) (hX1 : X ≤ 1/64)
    (hk' : X * X + 10 * EE ≤ k') (hb' : k' + (5 * EE + 21/10 * E + b * b * b) + 101/100 * (699052 * (b * b * b)) ≤ b') :
    NrSt rh k' b' (refF z n) := by
  obtain ⟨hz, v, hv, hk, hvb⟩ := hst
  have hb0 := hvb.1
  obtain ⟨h, hh, hhb, tb, te⟩ := turn_far hz h0 hn hr hrn hv hk hvb hx heg hE hb1
  have ht : (v.mul (onI (-h))).nsq = 1 + h * h := by
    rw [Cx.nsq_mul, hv]
    unfold onI Cx.nsq
    simp only
    grind
  obtain ⟨bz, hy, hm⟩ := mend_far tb hr ht hhb te hb1 hE1 hX hX1
  obtain ⟨eu, e1, e2⟩ := eUn_facts h hhb (by grind)
  -- v' = v e
  have hv' : (v.mul (eUn h)).nsq = 1 := by rw [Cx.nsq_mul, hv, eu]; grind
  have near : Len ((cv (refF z n)).sub (rh.mul (v.mul (eUn h)))) (5 * EE + 21/10 * E + b * b * b) := by
    have q := ((Len.unit hr).mul (Len.unit hv)).mul e2
    have e3 : (rh.mul v).mul ((Cx.scale (1 - 1/2 * (h * h)) (onI (-h))).sub (eUn h)) = (rh.mul (Cx.scale (1 - 1/2 * (h * h)) (v.mul (onI (-h))))).sub (rh.mul (v.mul (eUn h))) := by
      generalize onI (-h) = o
      generalize eUn h = w
      exact Cx.eq (by unfold Cx.scale Cx.sub Cx.mul; simp only; grind) (by unfold Cx.scale Cx.sub Cx.mul; simp only; grind)
    rw [e3] at q
    exact (hm.tri q).mono (by grind)
  -- how far v' is from 1
  have one' : Len ((v.mul (eUn h)).sub .one) (2 * b) := by
    have a := (Len.unit hv).mul e1
    rw [Cx.mul_sub, Cx.mul_one, Rat.one_mul] at a
    exact (a.tri hvb).mono (by grind)
  have re' : 49/50 ≤ (v.mul (eUn h)).re := by
    have := abs_le.1 one'.parts.1
    have e : ((v.mul (eUn h)).sub .one).re = (v.mul (eUn h)).re - 1 := rfl
    rw [e] at this
    grind
  have im' : (v.mul (eUn h)).im.abs ≤ 699052 * (b * b * b) := by
    have ch := cheb hv n
    obtain ⟨u1, u2, u3⟩ := unit_parts hv
    have hn0 : (0 : Rat) < (n : Rat) := Rat.natCast_pos.2 h0
    have hinv : (n : Rat) * (n : Rat)⁻¹ = 1 := Rat.mul_inv_cancel _ (Rat.ne_of_gt hn0)
    have hi0 : 0 ≤ (n : Rat)⁻¹ := Rat.le_of_lt (Rat.inv_pos.2 hn0)
    have sb : v.im.abs ≤ b := by
      have := hvb.parts.2
      have e : (v.sub .one).im = v.im := by show v.im - 0 = _; grind
      rw [e] at this; exact this
    have cb : 1 - v.re ≤ 1/2 * (b * b) := by have := hvb.2; rw [u3] at this; grind
    have c0 : 0 ≤ 1 - v.re := by grind
    have bb0 := sq_nonneg b
    have s1 : (v.im - h).abs ≤ b * (1/2 * (b * b) * (4194304/3)) := by
      have e : v.im - h = ((n : Rat) * v.im - (v.pow n).im) * (n : Rat)⁻¹ := by
        rw [hh]
        have : v.im = v.im * ((n : Rat) * (n : Rat)⁻¹) := by rw [hinv, Rat.mul_one]
        grind
      rw [e, abs_mul, Rat.abs_of_nonneg hi0]
      have m1 := Rat.mul_le_mul_of_nonneg_right ch hi0
      have m2 : v.im.abs * ((1 - v.re) * triQ n) * (n : Rat)⁻¹ = v.im.abs * ((1 - v.re) * (triQ n * (n : Rat)⁻¹)) := by grind
      rw [m2] at m1
      have t0 : 0 ≤ triQ n * (n : Rat)⁻¹ := Rat.mul_nonneg (triQ_nonneg n) hi0
      have m3 := Rat.mul_le_mul_of_nonneg_left (tri_third h0 hn) c0
      have m4 := Rat.mul_le_mul_of_nonneg_right cb (show (0 : Rat) ≤ 4194304/3 by decide +kernel)
      have m5 := Rat.mul_le_mul_of_nonneg_left (Rat.le_trans m3 m4) (Rat.abs_nonneg (x := v.im))
      have m6 := Rat.mul_le_mul_of_nonneg_right sb (show 0 ≤ 1/2 * (b * b) * (4194304/3) by grind)
      exact Rat.le_trans m1 (Rat.le_trans m5 m6)
    -- Im v' = (Im v (1 - q) - Re v h) / (1 + q)
    have hq := sq_nonneg h
    have hsq := sq_le_of_abs hhb
    have hD : 1 ≤ 1 + 1/4 * (h * h) := by grind
    have hv0 : 0 ≤ (1 + 1/4 * (h * h))⁻¹ := Rat.le_of_lt (Rat.inv_pos.2 (by grind))
    have hv1 : (1 + 1/4 * (h * h))⁻¹ ≤ 1 := by
      have := Rat.mul_le_mul_of_nonneg_right hD hv0
      rw [Rat.one_mul, Rat.mul_inv_cancel _ (show 1 + 1/4 * (h * h) ≠ 0 by grind)] at this; exact this
    have eI : (v.mul (eUn h)).im = ((v.im - h) - v.im * (1/4 * (h * h)) + (1 - v.re) * h) * (1 + 1/4 * (h * h))⁻¹ := by
      unfold Cx.mul eUn
      simp only
      grind
    rw [eI, abs_mul, Rat.abs_of_nonneg hv0]
    have a1 := abs_add ((v.im - h) - v.im * (1/4 * (h * h))) ((1 - v.re) * h)
    have a2 := abs_add (v.im - h) (-(v.im * (1/4 * (h * h))))
    rw [Rat.abs_neg, show v.im - h + -(v.im * (1/4 * (h * h))) = v.im - h - v.im * (1/4 * (h * h)) from by grind] at a2
    rw [abs_mul, Rat.abs_of_nonneg c0] at a1
    rw [abs_mul, Rat.abs_of_nonneg (show 0 ≤ 1/4 * (h * h) by grind)] at a2
    have b1 := Rat.mul_le_mul_of_nonneg_right sb (show 0 ≤ 1/4 * (h * h) by grind)
    have b2 := Rat.mul_le_mul_of_nonneg_left hsq hb0
    have b3 := Rat.mul_le_mul_of_nonneg_left hhb c0
    have b4 := Rat.mul_le_mul_of_nonneg_right cb hb0
    have tot : ((v.im - h) - v.im * (1/4 * (h * h)) + (1 - v.re) * h).abs ≤ 699052 * (b * b * b) := by
      have := Rat.mul_nonneg bb0 hb0
      grind
    have := Rat.mul_le_mul_of_nonneg_left hv1 (Rat.abs_nonneg (x := (v.im - h) - v.im * (1/4 * (h * h)) + (1 - v.re) * h))
    grind
  have v1 := unit_im hv' re' im'
  -- the neighbour of length 1
  obtain ⟨w, hw⟩ : ∃ w, w = (cv (refF z n)).mul rh.conj := ⟨_, rfl⟩
  have uc : rh.conj.nsq = 1 := by rw [Cx.nsq_conj]; exact hr
  have wn : w.nsq = (cv (refF z n)).nsq := by rw [hw, Cx.nsq_mul, uc, Rat.mul_one]
  have back : rh.mul w = cv (refF z n) := by
    rw [hw, Cx.mul_comm (cv (refF z n)), ← Cx.mul_assoc, Cx.mul_conj_self hr, Cx.one_mul]
  have wv : Len (w.sub (v.mul (eUn h))) (5 * EE + 21/10 * E + b * b * b) := by
    have q := (Len.unit uc).mul near
    have e3 : rh.conj.mul ((cv (refF z n)).sub (rh.mul (v.mul (eUn h)))) = w.sub (v.mul (eUn h)) := by
      rw [Cx.mul_sub, ← Cx.mul_assoc rh.conj rh, Cx.mul_comm rh.conj rh, Cx.mul_conj_self hr, Cx.one_mul, hw, Cx.mul_comm rh.conj]
    rw [e3, Rat.one_mul] at q
    exact q
  have yk : (w.nsq - 1).abs ≤ k' := by rw [wn]; exact Rat.le_trans hy hk'
  have hEE := EE_pos
  have hEE2 := EE_small
  have hb3 : b * b * b ≤ 1/1000 := by
    have a := Rat.mul_le_mul_of_nonneg_left hb1 hb0
    have c := Rat.mul_le_mul_of_nonneg_right (show b * b ≤ 1/1000 by grind) hb0
    grind
  have wre : 1/2 ≤ w.re := by
    have a := abs_le.1 wv.parts.1
    have e : (w.sub (v.mul (eUn h))).re = w.re - (v.mul (eUn h)).re := rfl
    rw [e] at a
    grind
  have dn := dir_near wre yk
  have du := dir_unit (w := w) (by grind)
  refine ⟨bz, dirC w, du, ?_, ?_⟩
  · have q := (Len.unit hr).mul dn
    rw [Cx.mul_sub, back, Rat.one_mul] at q
    exact q
  · exact ((dn.flip.tri wv).tri v1).mono (by grind)
end Go.Proofs.Ygctaf
