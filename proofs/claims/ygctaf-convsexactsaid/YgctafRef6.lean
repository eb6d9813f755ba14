/-
  fftx.refine AT THE ROOT: the fine step.
-/
import Derived.Test.YgctafRef5
namespace Go.Proofs.Ygctaf
open Ieee

theorem EE_tiny : EE ≤ 1/1000000000000000 := by unfold EE; decide +kernel
theorem tau_tiny : tau ≤ 1/1000 * EE := by unfold EE tau; decide +kernel
theorem TT_tiny : TT ≤ 1/1000000 * EE := by unfold EE TT; decide +kernel
theorem rM_tiny : rM ≤ 2501/1000 * EE := by unfold rM EE TT; decide +kernel

/-- The power of a number near 1. -/
theorem pow_first {w : Cx} {d : Rat} (h : Len (w.sub .one) d) : ∀ n : Nat, Len ((w.pow n).sub (Cx.one.add (Cx.scale (n : Rat) (w.sub .one)))) ((n : Rat) * (n : Rat) * (d * d) * qp (1 + d) n)
  | 0 => by
    have e : (w.pow 0).sub (Cx.one.add (Cx.scale ((0 : Nat) : Rat) (w.sub .one))) = Cx.one.sub .one := by
      show Cx.one.sub _ = _
      rw [show ((0 : Nat) : Rat) = 0 from rfl]
      exact Cx.eq (by unfold Cx.add Cx.sub Cx.scale; simp only; grind) (by unfold Cx.add Cx.sub Cx.scale; simp only; grind)
    rw [e]
    refine (Len.self _).mono ?_
    rw [show ((0 : Nat) : Rat) = 0 from rfl]; grind
  | n + 1 => by
    have ih := pow_first h n
    have hd := h.1
    have lw : Len w (1 + d) := (h.of_sub (Len.unit Cx.nsq_one)).mono (by grind)
    have hn : (0 : Rat) ≤ (n : Rat) := Rat.natCast_nonneg
    have q := (ih.mul lw).add ((h.mul h).scale hn)
    have e : (((w.pow n).sub (Cx.one.add (Cx.scale (n : Rat) (w.sub .one)))).mul w).add (Cx.scale (n : Rat) ((w.sub .one).mul (w.sub .one))) = (w.pow (n + 1)).sub (Cx.one.add (Cx.scale ((n + 1 : Nat) : Rat) (w.sub .one))) := by
      show _ = ((w.pow n).mul w).sub _
      rw [Rat.natCast_add, show ((1 : Nat) : Rat) = 1 from rfl]
      generalize w.pow n = p
      exact Cx.eq (by unfold Cx.add Cx.sub Cx.mul Cx.one Cx.scale; simp only; grind) (by unfold Cx.add Cx.sub Cx.mul Cx.one Cx.scale; simp only; grind)
    rw [e] at q
    refine q.mono ?_
    rw [Rat.natCast_add, show ((1 : Nat) : Rat) = 1 from rfl]
    show _ ≤ _ * (qp (1 + d) n * (1 + d))
    have o := qp_one_le (show 1 ≤ 1 + d by grind) n
    have o2 := qp_one_le (show 1 ≤ 1 + d by grind) (n + 1)
    have o3 : 1 ≤ qp (1 + d) n * (1 + d) := o2
    have hdd := sq_nonneg d
    have m1 := Rat.mul_le_mul_of_nonneg_left o3 (show 0 ≤ (n : Rat) * (d * d) from Rat.mul_nonneg hn hdd)
    have m2 := Rat.mul_nonneg (show 0 ≤ ((n : Rat) + 1) * (d * d) from Rat.mul_nonneg (by grind) hdd) (show 0 ≤ qp (1 + d) n * (1 + d) by grind)
    have e3 : (n : Rat) * (n : Rat) * (d * d) * qp (1 + d) n * (1 + d) = (n : Rat) * (n : Rat) * (d * d) * (qp (1 + d) n * (1 + d)) := by grind
    rw [e3]
    generalize qp (1 + d) n * (1 + d) = Q at *
    grind

/-- power and the quotient, near the root. -/
theorem amount_fine {z : Nat × Nat} {n : Nat} {rh : Cx} (hz : Bd 1 z) (h0 : 0 < n) (hn : n ≤ 2048) (hr : rh.nsq = 1) (hrn : Len ((rh.pow n).sub .one) tau) (hd : Len ((cv z).sub rh) (80 * EE)) :
    B1 1 (trnG z n) ∧ (V (trnG z n) + (((cv z).mul rh.conj).sub .one).im).abs ≤ 256/100 * EE := by
  have hE := EE_pos
  have hE1 := EE_tiny
  have ht := tau_tiny
  have hT := TT_tiny
  have hT0 := TT_pos
  have hm := rM_tiny
  have hm0 := rM_nonneg
  have htau0 : 0 ≤ tau := p2_nonneg _
  have uc : rh.conj.nsq = 1 := by rw [Cx.nsq_conj]; exact hr
  obtain ⟨w, hw⟩ : ∃ w, w = (cv z).mul rh.conj := ⟨_, rfl⟩
  rw [← hw]
  have back : rh.mul w = cv z := by rw [hw, Cx.mul_comm (cv z), ← Cx.mul_assoc, Cx.mul_conj_self hr, Cx.one_mul]
  have hD : Len (w.sub .one) (80 * EE) := by
    have q := hd.mul (Len.unit uc)
    rw [Cx.sub_mul, Cx.mul_conj_self hr, ← hw, Rat.mul_one] at q; exact q
  have lz : Len (cv z) (1 + 80 * EE) := (hd.of_sub (Len.unit hr)).mono (by grind)
  have hnN : (n : Rat) ≤ 2048 := Rat.natCast_le_natCast.2 hn
  have h1n : (1 : Rat) ≤ (n : Rat) := Rat.natCast_le_natCast.2 h0
  have hn0 : (0 : Rat) < (n : Rat) := by grind
  have hx : 4096 * xK (80 * EE) ≤ 1/100 := by unfold xK rM EE TT; decide +kernel
  have hxk0 : 0 ≤ xK (80 * EE) := by unfold xK rM EE TT; decide +kernel
  have eM : (1 + 80 * EE) * (1 + rM) = 1 + xK (80 * EE) := by unfold xK; generalize rM = r; generalize 80 * EE = k; grind
  have hbig : qp (1 + 80 * EE) 4096 * qp (1 + rM) 4096 ≤ 2 := by
    have key : ∀ K : Nat, K = 4096 → qp (1 + 80 * EE) K * qp (1 + rM) K ≤ 2 := fun K hK => by
      rw [← qp_mul, eM]; exact qp_big hxk0 hx 2048 K rfl hK
    exact key 4096 rfl
  obtain ⟨bp, pe⟩ := pow_err (n := n) hz lz (by grind) hbig hn
  have c80 : ((2048 : Nat) : Rat) * (80 * EE) ≤ 1/200 := by unfold EE; decide +kernel
  have crM : ((2048 : Nat) : Rat) * rM ≤ 1/200 := by unfold rM EE TT; decide +kernel
  have s1 := qp_small (x := 80 * EE) (by grind) (N := 2048) c80 n hn
  have s2 := qp_small (x := rM) hm0 (N := 2048) crM n hn
  have o1 := qp_one_le (x := 1 + 80 * EE) (by grind) n
  have nE : (n : Rat) * (80 * EE) ≤ 1/1000000 := by
    have := Rat.mul_le_mul_of_nonneg_right hnN (show 0 ≤ 80 * EE by grind)
    grind
  have s1' : qp (1 + 80 * EE) n ≤ 1001/1000 := by
    generalize (n : Rat) * (80 * EE) = y at *
    grind
  have nrM : (n : Rat) * rM ≤ (n : Rat) * (2501/1000 * EE) := Rat.mul_le_mul_of_nonneg_left hm (by grind)
  have hnE : 0 ≤ (n : Rat) * EE := Rat.mul_nonneg (by grind) (Rat.le_of_lt hE)
  have pe1 : qp (1 + 80 * EE) n * qp (1 + rM) n - qp (1 + 80 * EE) n ≤ 2535/1000 * ((n : Rat) * EE) := by
    have a : qp (1 + rM) n - 1 ≤ 101/100 * ((n : Rat) * (2501/1000 * EE)) := by
      generalize qp (1 + rM) n = Q at *
      generalize (n : Rat) * rM = y at *
      grind
    have b := Rat.mul_le_mul_of_nonneg_left a (show 0 ≤ qp (1 + 80 * EE) n by grind)
    have c := Rat.mul_le_mul_of_nonneg_right s1' (show 0 ≤ 101/100 * ((n : Rat) * (2501/1000 * EE)) by grind)
    generalize qp (1 + 80 * EE) n = P at *
    generalize qp (1 + rM) n = Q at *
    generalize rM = r at *
    grind
  have pe2 := pe.mono pe1
  have pm : ∀ n, (rh.mul w).pow n = (rh.pow n).mul (w.pow n) := by
    intro n
    induction n with
    | zero => exact (Cx.mul_one _).symm
    | succ n ih =>
      show ((rh.mul w).pow n).mul (rh.mul w) = ((rh.pow n).mul rh).mul ((w.pow n).mul w)
      rw [ih]
      generalize rh.pow n = p
      generalize w.pow n = q
      exact Cx.eq (by unfold Cx.mul; simp only; grind) (by unfold Cx.mul; simp only; grind)
  rw [← back, pm] at pe2
  have lw : Len w (1 + 80 * EE) := (hD.of_sub (Len.unit Cx.nsq_one)).mono (by grind)
  have q1 := hrn.mul (pow_len lw n)
  have e1 : ((rh.pow n).sub .one).mul (w.pow n) = ((rh.pow n).mul (w.pow n)).sub (w.pow n) := by rw [Cx.sub_mul, Cx.one_mul]
  rw [e1] at q1
  have q2 : Len (((rh.pow n).mul (w.pow n)).sub (w.pow n)) (2/1000 * EE) := q1.mono (by
    have := Rat.mul_le_mul_of_nonneg_left s1' htau0
    grind)
  have q3 := pow_first hD n
  have q4 : Len ((w.pow n).sub (Cx.one.add (Cx.scale (n : Rat) (w.sub .one)))) (1/1000 * ((n : Rat) * EE)) := q3.mono (by
    have t1 := Rat.mul_le_mul_of_nonneg_left s1' (show 0 ≤ (n : Rat) * (n : Rat) * (80 * EE * (80 * EE)) from Rat.mul_nonneg (sq_nonneg _) (sq_nonneg _))
    have t2 := Rat.mul_le_mul_of_nonneg_right nE (show 0 ≤ 80 * ((n : Rat) * EE) by grind)
    generalize qp (1 + 80 * EE) n = P at *
    clear pe pe1 pe2 q1 q2 q3 hbig s1 s2 eM hx hxk0
    grind)
  have hP := ((pe2.tri q2).tri q4).parts.2
  have hf : (V (powF z n).2 - (n : Rat) * (w.sub .one).im).abs ≤ 254/100 * ((n : Rat) * EE) := by
    refine Rat.le_trans ?_ (Rat.le_trans hP ?_)
    · have : ((cv (powF z n)).sub (Cx.one.add (Cx.scale (n : Rat) (w.sub .one)))).im = V (powF z n).2 - (n : Rat) * (w.sub .one).im := by
        show V (powF z n).2 - (0 + (n : Rat) * (w.sub .one).im) = _
        grind
      rw [this]; exact Rat.le_refl
    · have := Rat.mul_le_mul_of_nonneg_right h1n (Rat.le_of_lt hE)
      grind
  clear hP q4 q3 q2 q1 pe2 pe1 pe
  -- the quotient
  obtain ⟨fb, fv⟩ := fintN_val n hn
  have hinv : (n : Rat) * (n : Rat)⁻¹ = 1 := Rat.mul_inv_cancel _ (Rat.ne_of_gt hn0)
  have hi0 : 0 ≤ (n : Rat)⁻¹ := Rat.le_of_lt (Rat.inv_pos.2 hn0)
  have ediv : V (powF z n).2 / V (fint (n : Int)) = V (powF z n).2 * (n : Rat)⁻¹ := by rw [fv]; exact Rat.div_def _ _
  have hq : (V (powF z n).2 * (n : Rat)⁻¹ - (w.sub .one).im).abs ≤ 254/100 * EE := by
    have e2 : V (powF z n).2 * (n : Rat)⁻¹ - (w.sub .one).im = (V (powF z n).2 - (n : Rat) * (w.sub .one).im) * (n : Rat)⁻¹ := by
      have : (w.sub .one).im = (w.sub .one).im * ((n : Rat) * (n : Rat)⁻¹) := by rw [hinv, Rat.mul_one]
      grind
    rw [e2, abs_mul, Rat.abs_of_nonneg hi0]
    have := Rat.mul_le_mul_of_nonneg_right hf hi0
    have e3 : 254/100 * ((n : Rat) * EE) * (n : Rat)⁻¹ = 254/100 * EE * ((n : Rat) * (n : Rat)⁻¹) := by grind
    rw [e3, hinv, Rat.mul_one] at this
    exact this
  have hI := hD.parts.2
  have hF : (V (powF z n).2 * (n : Rat)⁻¹).abs ≤ 83 * EE := by
    have a := abs_le.1 hq
    have c := abs_le.1 hI
    rw [abs_le]; grind
  have hne : V (fint (n : Int)) ≠ 0 := by rw [fv]; exact Rat.ne_of_gt hn0
  obtain ⟨dn, dl, de⟩ := div_near bp.im.num fb.num hne (by
    rw [ediv]
    have : (1/2 : Rat) < p2 1022 := by decide +kernel
    grind)
  rw [ediv] at de
  have E2 : p2 (-52) = 2 * EE := by unfold EE; decide +kernel
  have T2 : p2 (-1075) = TT := rfl
  rw [E2, T2] at de
  have de2 : (V (fdiv (powF z n).2 (fint (n : Int))) - V (powF z n).2 * (n : Rat)⁻¹).abs ≤ 1/1000 * EE := by
    refine Rat.le_trans de ?_
    have := Rat.mul_le_mul_of_nonneg_left hF (show 0 ≤ 2 * EE by grind)
    have := Rat.mul_le_mul_of_nonneg_right hE1 (Rat.le_of_lt hE)
    grind
  obtain ⟨nn, nv⟩ := neg_num dl dn
  have vg : V (trnG z n) = - V (fdiv (powF z n).2 (fint (n : Int))) := nv
  have fin : (V (trnG z n) + (w.sub .one).im).abs ≤ 256/100 * EE := by
    rw [vg]
    have a := abs_le.1 hq
    have c := abs_le.1 de2
    rw [abs_le]; grind
  refine ⟨⟨nn, neg_lt dl, ?_⟩, fin⟩
  have e2 : p2 1 = 2 := by decide +kernel
  rw [e2]
  show (V (trnG z n)).abs ≤ 2
  have a := abs_le.1 fin
  have c := abs_le.1 hI
  rw [abs_le]; grind

/-- The last refinement. -/
theorem refine_fine {z : Nat × Nat} {n : Nat} {rh : Cx} (hz : Bd 1 z) (h0 : 0 < n) (hn : n ≤ 2048) (hr : rh.nsq = 1) (hrn : Len ((rh.pow n).sub .one) tau) (hd : Len ((cv z).sub rh) (80 * EE)) :
    Bd 1 (refF z n) ∧ Len ((cv (refF z n)).sub rh) (15/2 * EE) := by
  obtain ⟨bg, ge⟩ := amount_fine hz h0 hn hr hrn hd
  have hE := EE_pos
  have hE1 := EE_tiny
  have hT := TT_tiny
  have hT0 := TT_pos
  have hEs := Rat.mul_le_mul_of_nonneg_right hE1 (Rat.le_of_lt hE)
  have uc : rh.conj.nsq = 1 := by rw [Cx.nsq_conj]; exact hr
  obtain ⟨w, hw⟩ : ∃ w, w = (cv z).mul rh.conj := ⟨_, rfl⟩
  rw [← hw] at ge
  have back : rh.mul w = cv z := by rw [hw, Cx.mul_comm (cv z), ← Cx.mul_assoc, Cx.mul_conj_self hr, Cx.one_mul]
  have hD : Len (w.sub .one) (80 * EE) := by
    have q := hd.mul (Len.unit uc)
    rw [Cx.sub_mul, Cx.mul_conj_self hr, ← hw, Rat.mul_one] at q; exact q
  have lz : Len (cv z) (1 + 80 * EE) := (hd.of_sub (Len.unit hr)).mono (by grind)
  have eI : (w.sub .one).im = w.im := by show w.im - 0 = _; grind
  have eR : (w.sub .one).re = w.re - 1 := rfl
  have hI := hD.parts.2
  have hR := hD.parts.1
  rw [eI] at hI ge
  rw [eR] at hR
  have hG : (V (trnG z n)).abs ≤ 83 * EE := by
    have a := abs_le.1 ge
    have c := abs_le.1 hI
    rw [abs_le]; grind
  obtain ⟨tb, te⟩ := turn_err hz bg lz hG
  have te' : Len ((cv (trnF z n)).sub ((cv z).mul (onI (V (trnG z n))))) (101/100 * EE) := te.mono (by
    have a := Rat.mul_le_mul_of_nonneg_left (show (1 + 80 * EE) * (1 + 4 * (83 * EE)) ≤ 1001/1000 by grind) (Rat.le_of_lt hE)
    grind)
  -- in the root's frame
  obtain ⟨y, hy⟩ : ∃ y, y = (cv (trnF z n)).mul rh.conj := ⟨_, rfl⟩
  have backy : rh.mul y = cv (trnF z n) := by rw [hy, Cx.mul_comm (cv (trnF z n)), ← Cx.mul_assoc, Cx.mul_conj_self hr, Cx.one_mul]
  have yw : Len (y.sub (w.mul (onI (V (trnG z n))))) (101/100 * EE) := by
    have q := te'.mul (Len.unit uc)
    have e : ((cv (trnF z n)).sub ((cv z).mul (onI (V (trnG z n))))).mul rh.conj = y.sub (w.mul (onI (V (trnG z n)))) := by
      rw [Cx.sub_mul, ← hy, hw, Cx.mul_assoc, Cx.mul_comm (onI _), ← Cx.mul_assoc]
    rw [e, Rat.mul_one] at q; exact q
  have y1 := abs_le.1 yw.parts.1
  have y2 := abs_le.1 yw.parts.2
  have er : (y.sub (w.mul (onI (V (trnG z n))))).re = y.re - (w.re - w.im * V (trnG z n)) := by show y.re - (w.re * 1 - w.im * V (trnG z n)) = _; grind
  have ei : (y.sub (w.mul (onI (V (trnG z n))))).im = y.im - (w.re * V (trnG z n) + w.im) := by show y.im - (w.re * V (trnG z n) + w.im * 1) = _; grind
  rw [er] at y1
  rw [ei] at y2
  -- small products
  have pr : (w.im * V (trnG z n)).abs ≤ 1/1000 * EE := by
    rw [abs_mul]
    have a := Rat.mul_le_mul_of_nonneg_right hI (Rat.abs_nonneg (x := V (trnG z n)))
    have c := Rat.mul_le_mul_of_nonneg_left hG (show 0 ≤ 80 * EE by grind)
    grind
  have pi : ((w.re - 1) * V (trnG z n)).abs ≤ 1/1000 * EE := by
    rw [abs_mul]
    have a := Rat.mul_le_mul_of_nonneg_right hR (Rat.abs_nonneg (x := V (trnG z n)))
    have c := Rat.mul_le_mul_of_nonneg_left hG (show 0 ≤ 80 * EE by grind)
    grind
  have pr' := abs_le.1 pr
  have pi' := abs_le.1 pi
  have ge' := abs_le.1 ge
  have hR' := abs_le.1 hR
  have hp : (y.re - 1).abs ≤ 82 * EE := by rw [abs_le]; grind
  have hq : y.im.abs ≤ 358/100 * EE := by rw [abs_le]; grind
  clear y1 y2 er ei pr pi pr' pi' ge' hR' yw te' te ge
  have ly : Len y (1 + 100 * EE) := by
    refine ⟨by grind, ?_⟩
    unfold Cx.nsq
    have a := sq_le_of_abs hp
    have c := sq_le_of_abs hq
    obtain ⟨_, d⟩ := abs_le.1 hp
    have e : y.re * y.re = (y.re - 1) * (y.re - 1) + 2 * (y.re - 1) + 1 := by grind
    rw [e]
    have eE := sq_nonneg EE
    generalize (y.re - 1) * (y.re - 1) = u at *
    generalize y.im * y.im = u2 at *
    generalize y.re - 1 = u3 at *
    clear hp hq hI hR hG
    grind
  have lt : Len (cv (trnF z n)) (1 + 100 * EE) := by
    have := (Len.unit hr).mul ly
    rw [backy, Rat.one_mul] at this; exact this
  have bt : Bd 1 (trnF z n) := tb.of_len (lt.mono (by grind))
  have nt : (cv (trnF z n)).nsq = y.nsq := by rw [← backy, Cx.nsq_mul, hr, Rat.one_mul]
  have hp' := abs_le.1 hp
  have hpp : (y.re - 1) * (y.re - 1) ≤ 1/1000 * EE := by
    have := sq_le_of_abs hp
    grind
  have hqq : y.im * y.im ≤ 1/1000 * EE := by
    have := sq_le_of_abs hq
    grind
  have hpp0 := sq_nonneg (y.re - 1)
  have hqq0 := sq_nonneg y.im
  have hn1 : ((cv (trnF z n)).nsq - 1).abs ≤ 1/64 := by
    rw [nt]
    unfold Cx.nsq
    rw [abs_le]; grind
  obtain ⟨bm, me⟩ := men_err bt hn1
  rw [nt] at me
  have me' := abs_le.1 me
  unfold Cx.nsq at me'
  have vm : (V (menF (trnF z n)) - (2 - y.re)).abs ≤ 261/100 * EE := by rw [abs_le]; grind
  have vm' := abs_le.1 vm
  have vm1 : (V (menF (trnF z n))).abs ≤ 1 + 100 * EE := by rw [abs_le]; grind
  obtain ⟨sb, se⟩ := sca_err bt bm lt vm1
  have se' : Len ((cv (refF z n)).sub (Cx.scale (V (menF (trnF z n))) (cv (trnF z n)))) (101/100 * EE) := se.mono (by
    have a := Rat.mul_le_mul_of_nonneg_left (show (1 + 100 * EE) * (1 + 100 * EE) ≤ 1001/1000 by grind) (Rat.le_of_lt hE)
    grind)
  -- m y - 1
  have my : Len ((Cx.scale (V (menF (trnF z n))) y).sub .one) (63/10 * EE) := by
    obtain ⟨m, hm⟩ : ∃ m, m = V (menF (trnF z n)) := ⟨_, rfl⟩
    rw [← hm] at vm' vm1 ⊢
    have a1 : (m * y.re - 1).abs ≤ 263/100 * EE := by
      obtain ⟨f, hf⟩ : ∃ f, f = m - (2 - y.re) := ⟨_, rfl⟩
      have e : m * y.re - 1 = f + f * (y.re - 1) - (y.re - 1) * (y.re - 1) := by rw [hf]; grind
      have hfa : f.abs ≤ 261/100 * EE := by rw [hf, abs_le]; exact vm'
      have fp : (f * (y.re - 1)).abs ≤ 1/1000 * EE := by
        rw [abs_mul]
        have a := Rat.mul_le_mul_of_nonneg_right hfa (Rat.abs_nonneg (x := y.re - 1))
        have c := Rat.mul_le_mul_of_nonneg_left hp (show 0 ≤ 261/100 * EE by grind)
        grind
      have k1 := abs_le.1 hfa
      have k2 := abs_le.1 fp
      rw [e, abs_le]; grind
    have a2 : (m * y.im).abs ≤ 359/100 * EE := by
      rw [abs_mul]
      have a := Rat.mul_le_mul_of_nonneg_right vm1 (Rat.abs_nonneg (x := y.im))
      have c := Rat.mul_le_mul_of_nonneg_left hq (show 0 ≤ 1 + 100 * EE by grind)
      grind
    refine ⟨by grind, ?_⟩
    have s1 := sq_le_of_abs a1
    have s2 := sq_le_of_abs a2
    have eE := sq_nonneg EE
    show (m * y.re - 1) * (m * y.re - 1) + (m * y.im - 0) * (m * y.im - 0) ≤ _
    rw [show m * y.im - 0 = m * y.im from by grind]
    grind
  have q := (Len.unit hr).mul my
  have e : rh.mul ((Cx.scale (V (menF (trnF z n))) y).sub .one) = (Cx.scale (V (menF (trnF z n))) (cv (trnF z n))).sub rh := by
    rw [← backy]
    exact Cx.eq (by unfold Cx.scale Cx.sub Cx.mul Cx.one; simp only; grind) (by unfold Cx.scale Cx.sub Cx.mul Cx.one; simp only; grind)
  rw [e, Rat.one_mul] at q
  have fin := (se'.tri q).mono (show 101/100 * EE + 63/10 * EE ≤ 15/2 * EE by grind)
  exact ⟨sb.of_len ((fin.of_sub (Len.unit hr)).mono (by grind)), fin⟩
/-- Five steps. -/
theorem refine_five {z : Nat × Nat} {n : Nat} {rh : Cx} (h0 : 0 < n) (hn : n ≤ 2048) (hr : rh.nsq = 1) (hrn : Len ((rh.pow n).sub .one) tau) (hst : NrSt rh (13/10000000) (782/1000000) z) :
    Bd 1 (refF (refF (refF (refF (refF z n) n) n) n) n) ∧ Len ((cv (refF (refF (refF (refF (refF z n) n) n) n) n)).sub rh) (15/2 * EE) := by
  have f := refine_four h0 hn hr hrn hst
  exact refine_fine f.bd h0 hn hr hrn (f.close hr)
end Go.Proofs.Ygctaf
