/-
  THE BUTTERFLY's ERROR; THE IDEAL PIPELINE.
-/
import Derived.Test.YgctafNum1
namespace Go.Proofs.Ygctaf

theorem sq_rel {x A : Rat} (h : x.abs ≤ EE * A.abs + TT) : x * x ≤ 2 * (EE * EE) * (A * A) + 2 * (TT * TT) := by
  have r1 := sq_le_of_abs h
  have q1 := sq_add2 (EE * A.abs) TT
  have e : EE * A.abs * (EE * A.abs) = EE * EE * (A * A) := by rw [← sq_abs A]; grind
  rw [e] at q1
  grind
theorem cv_add_err {x y : Nat × Nat} {e : Int} (hx : Bd e x) (hy : Bd e y) (h0 : 0 ≤ e) (h1 : e ≤ 1000) :
    ((cv (cadd x y)).sub ((cv x).add (cv y))).nsq ≤ 2 * (EE * EE) * ((cv x).add (cv y)).nsq + 4 * (TT * TT) := by
  have r1 := sq_rel (add_rounded hx.re.num hy.re.num (le_lt_1023 (two_p2 hx.re.le hy.re.le).1 (by omega))).rel
  have r2 := sq_rel (add_rounded hx.im.num hy.im.num (le_lt_1023 (two_p2 hx.im.le hy.im.le).1 (by omega))).rel
  unfold Cx.nsq Cx.sub Cx.add cv cadd
  simp only
  clear hx hy h0 h1
  generalize V x.1 + V y.1 = A at *
  generalize V x.2 + V y.2 = B at *
  generalize V (fadd x.1 y.1) - A = C at *
  generalize V (fadd x.2 y.2) - B = D at *
  clear x y
  grind
theorem cv_sub_err {x y : Nat × Nat} {e : Int} (hx : Bd e x) (hy : Bd e y) (h0 : 0 ≤ e) (h1 : e ≤ 1000) :
    ((cv (csub x y)).sub ((cv x).sub (cv y))).nsq ≤ 2 * (EE * EE) * ((cv x).sub (cv y)).nsq + 4 * (TT * TT) := by
  have r1 := sq_rel (sub_rounded hx.re.num hy.re.num (le_lt_1023 (two_p2 hx.re.le hy.re.le).2 (by omega))).rel
  have r2 := sq_rel (sub_rounded hx.im.num hy.im.num (le_lt_1023 (two_p2 hx.im.le hy.im.le).2 (by omega))).rel
  unfold Cx.nsq Cx.sub cv csub
  simp only
  clear hx hy h0 h1
  generalize V x.1 - V y.1 = A at *
  generalize V x.2 - V y.2 = B at *
  generalize V (fsub x.1 y.1) - A = C at *
  generalize V (fsub x.2 y.2) - B = D at *
  clear x y
  grind

theorem EE2 : EE * EE ≤ 1 / 16777216 := by
  have h := EE_small
  have h0 := EE_pos
  have h1 : EE ≤ 1 / 4096 := by grind
  have h2 := Rat.mul_le_mul_of_nonneg_right h1 (Rat.le_of_lt h0)
  grind
theorem EE2_nonneg : 0 ≤ EE * EE := sq_nonneg EE
theorem TT2_nonneg : 0 ≤ TT * TT := sq_nonneg TT

/-- w is near a root: a number of length 1 lies within 4 eps of it. -/
structure NearRoot (w om : Cx) : Prop where
  unit : om.nsq = 1
  near : (w.sub om).nsq ≤ 16 * (EE * EE)
theorem NearRoot.len {w om : Cx} (h : NearRoot w om) : w.nsq ≤ 9/8 := by
  have h1 := Cx.nsq_add17 om (w.sub om)
  have e : om.add (w.sub om) = w := Cx.eq (by unfold Cx.add Cx.sub; simp only; grind) (by unfold Cx.add Cx.sub; simp only; grind)
  rw [e, h.unit] at h1
  have h2 := h.near
  have h3 := EE2
  grind

theorem cv_mul_root {y w : Nat × Nat} {om : Cx} {e f : Int} (hy : Bd e y) (hw : Bd f w) (h0 : 0 ≤ e + f) (h1 : e + f ≤ 990) (hr : NearRoot (cv w) om) :
    ((cv (cmul y w)).sub (om.mul (cv y))).nsq ≤ 78 * (EE * EE) * (cv y).nsq + 128 * (TT * TT) := by
  have m := cv_mul_err hy hw h0 h1
  have l := hr.len
  have s := Cx.nsq_add2 ((cv (cmul y w)).sub ((cv y).mul (cv w))) ((cv y).mul ((cv w).sub om))
  have e1 : ((cv (cmul y w)).sub ((cv y).mul (cv w))).add ((cv y).mul ((cv w).sub om)) = (cv (cmul y w)).sub (om.mul (cv y)) := by
    rw [Cx.mul_sub, Cx.mul_comm om]
    exact Cx.eq (by unfold Cx.add Cx.sub; simp only; grind) (by unfold Cx.add Cx.sub; simp only; grind)
  rw [e1, Cx.nsq_mul] at s
  have ny := Cx.nsq_nonneg (cv y)
  have n1 := Rat.mul_le_mul_of_nonneg_left hr.near ny
  have n2 := Rat.mul_le_mul_of_nonneg_left l ny
  have n3 := Rat.mul_le_mul_of_nonneg_left n2 (show 0 ≤ 81/4 * (EE * EE) by have := EE2_nonneg; grind)
  have n4 : 0 ≤ EE * EE * (cv y).nsq := Rat.mul_nonneg EE2_nonneg ny
  clear l e1 hr hy hw h0 h1
  generalize (cv y).nsq = NY at *
  generalize (cv w).nsq = NW at *
  generalize ((cv w).sub om).nsq = ND at *
  generalize ((cv (cmul y w)).sub ((cv y).mul (cv w))).nsq = M at *
  generalize ((cv (cmul y w)).sub (om.mul (cv y))).nsq = G at *
  generalize EE * EE = E2 at *
  generalize TT * TT = T2 at *
  grind

theorem butterfly {x y w : Nat × Nat} {om : Cx} {e : Int} (hx : Bd e x) (hy : Bd e y) (hw : Bd 1 w) (h0 : 0 ≤ e) (h1 : e ≤ 900) (hr : NearRoot (cv w) om) :
    ((cv (cadd x (cmul y w))).sub ((cv x).add (om.mul (cv y)))).nsq + ((cv (csub x (cmul y w))).sub ((cv x).sub (om.mul (cv y)))).nsq ≤
      336 * (EE * EE) * ((cv x).nsq + (cv y).nsq) + 530 * (TT * TT) := by
  have hm := hy.mul hw (by omega) (by omega)
  have hx' := hx.mono (show e ≤ e + 1 + 3 by omega)
  have ra := cv_add_err hx' hm (by omega) (by omega)
  have rs := cv_sub_err hx' hm (by omega) (by omega)
  have u := cv_mul_root hy hw (by omega) (by omega) hr
  generalize hV : cv (cmul y w) = v at *
  generalize hW : om.mul (cv y) = z at *
  have nz : z.nsq = (cv y).nsq := by rw [← hW, Cx.nsq_mul, hr.unit]; grind
  have pm := Cx.nsq_pm (cv x) v
  have nv := Cx.nsq_add2 z (v.sub z)
  have e1 : z.add (v.sub z) = v := Cx.eq (by unfold Cx.add Cx.sub; simp only; grind) (by unfold Cx.add Cx.sub; simp only; grind)
  rw [e1, nz] at nv
  have sa := Cx.nsq_add2 ((cv (cadd x (cmul y w))).sub ((cv x).add v)) (v.sub z)
  have e2 : ((cv (cadd x (cmul y w))).sub ((cv x).add v)).add (v.sub z) = (cv (cadd x (cmul y w))).sub ((cv x).add z) :=
    Cx.eq (by unfold Cx.add Cx.sub; simp only; grind) (by unfold Cx.add Cx.sub; simp only; grind)
  rw [e2] at sa
  have ss := Cx.nsq_sub2 ((cv (csub x (cmul y w))).sub ((cv x).sub v)) (v.sub z)
  have e3 : ((cv (csub x (cmul y w))).sub ((cv x).sub v)).sub (v.sub z) = (cv (csub x (cmul y w))).sub ((cv x).sub z) :=
    Cx.eq (by unfold Cx.sub; simp only; grind) (by unfold Cx.sub; simp only; grind)
  rw [e3] at ss
  have nx := Cx.nsq_nonneg (cv x)
  have ny := Cx.nsq_nonneg (cv y)
  have hE := EE2
  have hE0 := EE2_nonneg
  have hT0 := TT2_nonneg
  clear e1 e2 e3 hm hx' hV hW hr hx hy hw
  generalize (cv x).nsq = NX at *
  generalize (cv y).nsq = NY at *
  generalize v.nsq = NV at *
  generalize (v.sub z).nsq = U at *
  generalize ((cv x).add v).nsq = PA at *
  generalize ((cv x).sub v).nsq = PS at *
  generalize ((cv (cadd x (cmul y w))).sub ((cv x).add v)).nsq = RA at *
  generalize ((cv (csub x (cmul y w))).sub ((cv x).sub v)).nsq = RS at *
  generalize ((cv (cadd x (cmul y w))).sub ((cv x).add z)).nsq = GA at *
  generalize ((cv (csub x (cmul y w))).sub ((cv x).sub z)).nsq = GS at *
  generalize EE * EE = E2 at *
  generalize TT * TT = T2 at *
  -- E2 * PA + E2 * PS etc.
  have k1 : E2 * (PA + PS) = E2 * (2 * NX + 2 * NV) := by rw [pm]
  have k2 := Rat.mul_le_mul_of_nonneg_left nv hE0
  have k3 := Rat.mul_le_mul_of_nonneg_left u hE0
  have k4 := Rat.mul_le_mul_of_nonneg_right hE (show 0 ≤ E2 * NY from Rat.mul_nonneg hE0 ny)
  have k5 := Rat.mul_le_mul_of_nonneg_right hE hT0
  have k6 : 0 ≤ E2 * NX := Rat.mul_nonneg hE0 nx
  have k7 : 0 ≤ E2 * NY := Rat.mul_nonneg hE0 ny
  grind

/-! ### The ideal pipeline -/
/-- 2^t points; om: the roots by their places on the circle; st: the step on the circle. -/
def pip (om : Nat → Cx) : Nat → Nat → (Nat → Cx) → Nat → Cx
  | 0, _, y => fun _ => y 0
  | t + 1, st, y => fun j =>
    if j < 2 ^ t then (pip om t (2 * st) (fun i => y (2 * i)) j).add ((om (j * st)).mul (pip om t (2 * st) (fun i => y (2 * i + 1)) j))
    else (pip om t (2 * st) (fun i => y (2 * i)) (j - 2 ^ t)).sub ((om ((j - 2 ^ t) * st)).mul (pip om t (2 * st) (fun i => y (2 * i + 1)) (j - 2 ^ t)))
theorem pip_low (om : Nat → Cx) (t st : Nat) (y : Nat → Cx) (j : Nat) (h : j < 2 ^ t) :
    pip om (t + 1) st y j = (pip om t (2 * st) (fun i => y (2 * i)) j).add ((om (j * st)).mul (pip om t (2 * st) (fun i => y (2 * i + 1)) j)) := if_pos h
theorem pip_high (om : Nat → Cx) (t st : Nat) (y : Nat → Cx) (j : Nat) :
    pip om (t + 1) st y (2 ^ t + j) = (pip om t (2 * st) (fun i => y (2 * i)) j).sub ((om (j * st)).mul (pip om t (2 * st) (fun i => y (2 * i + 1)) j)) := by
  show (if 2 ^ t + j < 2 ^ t then _ else _) = _
  rw [if_neg (by omega), Nat.add_sub_cancel_left]

theorem S2_halves (t : Nat) (x : Nat → Cx) : S2 (2 ^ (t + 1)) x = sumR (2 ^ t) (fun j => (x j).nsq + (x (2 ^ t + j)).nsq) := by
  unfold S2
  rw [show 2 ^ (t + 1) = 2 ^ t + 2 ^ t from by rw [Nat.pow_succ]; omega, sumR_split, sumR_add]
theorem S2_evenodd (t : Nat) (x : Nat → Cx) : S2 (2 ^ (t + 1)) x = S2 (2 ^ t) (fun i => x (2 * i)) + S2 (2 ^ t) (fun i => x (2 * i + 1)) := by
  unfold S2
  rw [show 2 ^ (t + 1) = 2 * 2 ^ t from by rw [Nat.pow_succ]; omega, sumR_pairs]

/-- The pipeline doubles the energy at each level. -/
theorem pip_energy (om : Nat → Cx) (hu : ∀ m, (om m).nsq = 1) : ∀ (t st : Nat) (y : Nat → Cx), S2 (2 ^ t) (pip om t st y) = p2 t * S2 (2 ^ t) y
  | 0, st, y => by
    show 0 + (y 0).nsq = p2 0 * (0 + (y 0).nsq)
    rw [p2_zero]; grind
  | t + 1, st, y => by
    have h1 := pip_energy om hu t (2 * st) (fun i => y (2 * i))
    have h2 := pip_energy om hu t (2 * st) (fun i => y (2 * i + 1))
    rw [S2_halves, S2_evenodd t y]
    have e : sumR (2 ^ t) (fun j => (pip om (t + 1) st y j).nsq + (pip om (t + 1) st y (2 ^ t + j)).nsq) =
        sumR (2 ^ t) (fun j => 2 * (pip om t (2 * st) (fun i => y (2 * i)) j).nsq + 2 * (pip om t (2 * st) (fun i => y (2 * i + 1)) j).nsq) := by
      refine sumR_congr fun j hj => ?_
      rw [pip_low om t st y j hj, pip_high, Cx.nsq_pm, Cx.nsq_mul, hu]; grind
    rw [e, sumR_add, sumR_mul, sumR_mul]
    unfold S2 at h1 h2 ⊢
    rw [h1, h2]
    rw [show ((t + 1 : Nat) : Int) = (t : Int) + 1 from by omega, p2_succ]; grind

end Go.Proofs.Ygctaf
