/-
  THE ERRORS OF A FLOATING BUTTERFLY, IN SQUARES. eps = 2^-53, tiny = 2^-1075.
-/
import Derived.Test.YgctafCx
import Derived.Test.YgctafStage
namespace Go.Proofs.Ygctaf

/-- The value of a pair of words. -/
def cv (z : Nat × Nat) : Cx := ⟨V z.1, V z.2⟩
def EE : Rat := p2 (-53)
def TT : Rat := p2 (-1075)
theorem EE_pos : 0 < EE := p2_pos _
theorem TT_pos : 0 < TT := p2_pos _
theorem EE_small : EE * 4096 ≤ 1 := by
  have h : EE * 4096 = p2 (-41) := by
    unfold EE
    have : (4096 : Rat) = p2 12 := by
      have := p2_nat 12
      rw [show ((12 : Nat) : Int) = 12 from rfl] at this
      rw [this]; rfl
    rw [this, ← p2_add]; rfl
  rw [h, ← p2_zero]; exact p2_le (by decide)
theorem TT_le_EE : TT ≤ EE := p2_le (by decide)

/-- |x| + |y| below in squares -/
theorem sq_abs (x : Rat) : x.abs * x.abs = x * x := by
  rcases Rat.le_total (a := 0) (b := x) with h | h
  · rw [Rat.abs_of_nonneg h]
  · rw [Rat.abs_of_nonpos h]; grind
theorem sq_le_of_abs {x e : Rat} (h : x.abs ≤ e) : x * x ≤ e * e := by
  rw [← sq_abs]
  have h0 := Rat.abs_nonneg (x := x)
  have h1 := Rat.mul_le_mul_of_nonneg_right h h0
  have h2 := Rat.mul_le_mul_of_nonneg_left h (Rat.le_trans h0 h)
  grind
theorem sq_add2 (a b : Rat) : (a + b) * (a + b) ≤ 2 * (a * a) + 2 * (b * b) := by
  have := sq_nonneg (a - b); grind

/-- A sum or difference of two products, each rounded, and rounded. -/
theorem prod2_err {p q p' q' r : Rat} (h1 : (p' - p).abs ≤ EE * p.abs + TT) (h2 : (q' - q).abs ≤ EE * q.abs + TT) (h3 : (r - (p' + q')).abs ≤ EE * (p' + q').abs + TT) :
    (r - (p + q)).abs ≤ (9/4) * EE * (p.abs + q.abs) + 4 * TT := by
  have hE := EE_pos
  have hE2 := EE_small
  have hT := TT_pos
  have a1 := abs_add (p' - p) p
  rw [show p' - p + p = p' from by grind] at a1
  have a2 := abs_add (q' - q) q
  rw [show q' - q + q = q' from by grind] at a2
  have a3 := abs_add p' q'
  have a4 := abs_add (r - (p' + q')) ((p' - p) + (q' - q))
  rw [show r - (p' + q') + ((p' - p) + (q' - q)) = r - (p + q) from by grind] at a4
  have a5 := abs_add (p' - p) (q' - q)
  have n1 := Rat.abs_nonneg (x := p)
  have n2 := Rat.abs_nonneg (x := q)
  generalize p.abs = P at *
  generalize q.abs = Q at *
  generalize (p' - p).abs = dp at *
  generalize (q' - q).abs = dq at *
  generalize p'.abs = P' at *
  generalize q'.abs = Q' at *
  generalize (p' + q').abs = PQ at *
  generalize (r - (p' + q')).abs = R1 at *
  generalize (r - (p + q)).abs = R at *
  generalize (p' - p + (q' - q)).abs = D at *
  clear hE2
  have hE3 : EE ≤ 1/4096 := by have := EE_small; grind
  -- PQ ≤ (1 + EE)(P + Q) + 2 TT
  have b1 : PQ ≤ P + Q + EE * (P + Q) + 2 * TT := by grind
  have b2 := Rat.mul_le_mul_of_nonneg_left b1 (Rat.le_of_lt hE)
  have b3 : 0 ≤ EE * (P + Q) := Rat.mul_nonneg (Rat.le_of_lt hE) (by grind)
  have b4 := Rat.mul_le_mul_of_nonneg_right hE3 b3
  have b5 := Rat.mul_le_mul_of_nonneg_right hE3 (Rat.le_of_lt hT)
  grind

/-- |ac| + |bd|, |ad| + |bc| in squares. -/
theorem cross_le (a b c d : Rat) : (a * c).abs + (b * d).abs = a.abs * c.abs + b.abs * d.abs ∧
    ((a * c).abs + (b * d).abs) * ((a * c).abs + (b * d).abs) + ((a * d).abs + (b * c).abs) * ((a * d).abs + (b * c).abs) ≤ 2 * ((a * a + b * b) * (c * c + d * d)) := by
  rw [abs_mul, abs_mul, abs_mul, abs_mul]
  refine ⟨rfl, ?_⟩
  have e1 := sq_abs a; have e2 := sq_abs b; have e3 := sq_abs c; have e4 := sq_abs d
  have na := Rat.abs_nonneg (x := a); have nb := Rat.abs_nonneg (x := b); have nc := Rat.abs_nonneg (x := c); have nd := Rat.abs_nonneg (x := d)
  generalize a.abs = A at *
  generalize b.abs = B at *
  generalize c.abs = C at *
  generalize d.abs = D at *
  rw [← e1, ← e2, ← e3, ← e4]
  have h1 := sq_nonneg (A * C - B * D)
  have h2 := sq_nonneg (A * D - B * C)
  have h3 := sq_nonneg (A - B)
  have h4 := sq_nonneg (C - D)
  have h5 : 0 ≤ (A - B) * (A - B) * (C * C + D * D) := Rat.mul_nonneg h3 (by have := sq_nonneg C; have := sq_nonneg D; grind)
  have h6 : 0 ≤ (C - D) * (C - D) * (A * B) := Rat.mul_nonneg h4 (Rat.mul_nonneg na nb)
  grind

theorem cv_mul_err {x w : Nat × Nat} {e f : Int} (hx : Bd e x) (hw : Bd f w) (h0 : 0 ≤ e + f) (h1 : e + f ≤ 990) :
    ((cv (cmul x w)).sub ((cv x).mul (cv w))).nsq ≤ 81/4 * (EE * EE) * ((cv x).nsq * (cv w).nsq) + 64 * (TT * TT) := by
  have m1 := hx.re.mul hw.re h0 (by omega)
  have m2 := hx.im.mul hw.im h0 (by omega)
  have m3 := hx.re.mul hw.im h0 (by omega)
  have m4 := hx.im.mul hw.re h0 (by omega)
  have bnd : ∀ {u v : Nat} (hu : B1 e u) (hv : B1 f v), (V u * V v).abs < p2 1023 := fun {u v} hu hv => by
    refine le_lt_1023 (e := e + f) ?_ (by omega)
    rw [abs_mul, p2_add]
    exact Rat.le_trans (Rat.mul_le_mul_of_nonneg_right hu.le Rat.abs_nonneg) (Rat.mul_le_mul_of_nonneg_left hv.le (p2_nonneg e))
  have r1 := (mul_rounded hx.re.num hw.re.num (bnd hx.re hw.re)).rel
  have r2 := (mul_rounded hx.im.num hw.im.num (bnd hx.im hw.im)).rel
  have r3 := (mul_rounded hx.re.num hw.im.num (bnd hx.re hw.im)).rel
  have r4 := (mul_rounded hx.im.num hw.re.num (bnd hx.im hw.re)).rel
  have r5 := (sub_rounded m1.num m2.num (le_lt_1023 (two_p2 m1.le m2.le).2 (by omega))).rel
  have r6 := (add_rounded m3.num m4.num (le_lt_1023 (two_p2 m3.le m4.le).1 (by omega))).rel
  have E : p2 (-53) = EE := rfl
  have T : p2 (-1075) = TT := rfl
  rw [E, T] at r1 r2 r3 r4 r5 r6
  obtain ⟨a, b⟩ := x
  obtain ⟨c, d⟩ := w
  simp only at r1 r2 r3 r4 r5 r6
  have r2' : (-(V (fmul b d)) - -(V b * V d)).abs ≤ EE * (-(V b * V d)).abs + TT := by
    rw [Rat.abs_neg, show -(V (fmul b d)) - -(V b * V d) = -(V (fmul b d) - V b * V d) from by grind, Rat.abs_neg]; exact r2
  have r5' : (V (fsub (fmul a c) (fmul b d)) - (V (fmul a c) + -(V (fmul b d)))).abs ≤ EE * (V (fmul a c) + -(V (fmul b d))).abs + TT := by
    rw [show V (fmul a c) + -(V (fmul b d)) = V (fmul a c) - V (fmul b d) from by grind]; exact r5
  have t1 := prod2_err r1 r2' r5'
  have t2 := prod2_err r3 r4 r6
  rw [Rat.abs_neg] at t1
  have s1 := sq_le_of_abs t1
  have s2 := sq_le_of_abs t2
  have cr := (cross_le (V a) (V b) (V c) (V d)).2
  unfold Cx.nsq Cx.sub Cx.mul cv cmul
  simp only
  generalize V (fsub (fmul a c) (fmul b d)) = R at *
  generalize V (fadd (fmul a d) (fmul b c)) = I at *
  rw [show R - (V a * V c + -(V b * V d)) = R - (V a * V c - V b * V d) from by grind] at s1
  have q1 := sq_add2 (9/4 * EE * ((V a * V c).abs + (V b * V d).abs)) (4 * TT)
  have q2 := sq_add2 (9/4 * EE * ((V a * V d).abs + (V b * V c).abs)) (4 * TT)
  generalize (V a * V c).abs + (V b * V d).abs = X at *
  generalize (V a * V d).abs + (V b * V c).abs = Y at *
  have hEE : 0 ≤ 81/8 * (EE * EE) := by have := sq_nonneg EE; grind
  have q3 := Rat.mul_le_mul_of_nonneg_left cr hEE
  clear r1 r2 r3 r4 r5 r6 r2' r5' t1 t2 cr m1 m2 m3 m4 bnd hx hw h0 h1 hEE
  generalize V a * V a + V b * V b = NX at *
  generalize V c * V c + V d * V d = NW at *
  generalize R - (V a * V c - V b * V d) = RR at *
  generalize I - (V a * V d + V b * V c) = II at *
  grind

end Go.Proofs.Ygctaf
