/-
  fftx.power: the product's error, sharper; powers by squaring.
-/
import Derived.Test.YgctafRho
import Derived.Test.YgctafExact3
namespace Go.Proofs.Ygctaf
open Ieee

theorem Len.of_abs {e z : Cx} {r : Rat} (h : Len z r) (h1 : e.re.abs ≤ z.re) (h2 : e.im.abs ≤ z.im) : Len e r := by
  refine ⟨h.1, Rat.le_trans ?_ h.2⟩
  unfold Cx.nsq
  have a := sq_le_of_abs h1
  have b := sq_le_of_abs h2
  grind
/-- One part: a sum of two products, each rounded, and rounded. -/
theorem part_err {p q p' q' r : Rat} (h1 : (p' - p).abs ≤ EE * p.abs + TT) (h2 : (q' - q).abs ≤ EE * q.abs + TT) (h3 : (r - (p' + q')).abs ≤ EE * (p' + q').abs + TT) :
    (r - (p + q)).abs ≤ EE * (p.abs + q.abs) + EE * (EE * (p.abs + q.abs)) + EE * (p + q).abs + 4 * TT := by
  have hE := EE_pos
  have hE2 := EE_small
  have hT := TT_pos
  have a3 := abs_add (p' - p) (q' - q)
  have a4 := abs_add (p + q) ((p' - p) + (q' - q))
  rw [show p + q + (p' - p + (q' - q)) = p' + q' from by grind] at a4
  have a5 := abs_add (r - (p' + q')) ((p' - p) + (q' - q))
  rw [show r - (p' + q') + ((p' - p) + (q' - q)) = r - (p + q) from by grind] at a5
  have n1 := Rat.abs_nonneg (x := p)
  have n2 := Rat.abs_nonneg (x := q)
  generalize p.abs = P at *
  generalize q.abs = Q at *
  generalize (p' - p).abs = dp at *
  generalize (q' - q).abs = dq at *
  generalize (p' + q').abs = PQ at *
  generalize (p + q).abs = S at *
  generalize (r - (p' + q')).abs = R1 at *
  generalize (r - (p + q)).abs = R at *
  generalize (p' - p + (q' - q)).abs = D at *
  have hD : D ≤ EE * (P + Q) + 2 * TT := by grind
  have hPQ : PQ ≤ S + (EE * (P + Q) + 2 * TT) := by grind
  have b2 := Rat.mul_le_mul_of_nonneg_left hPQ (Rat.le_of_lt hE)
  have hET : EE * (2 * TT) ≤ TT := by
    have := Rat.mul_le_mul_of_nonneg_right hE2 (Rat.le_of_lt hT)
    grind
  grind
theorem mul_err2 {x w : Nat × Nat} {e f : Int} {X W : Rat} (hx : Bd e x) (hw : Bd f w) (h0 : 0 ≤ e + f) (h1 : e + f ≤ 990) (lx : Len (cv x) X) (lw : Len (cv w) W) :
    Len ((cv (cmul x w)).sub ((cv x).mul (cv w))) (5/2 * (EE * (X * W)) + 6 * TT) := by
  have m1 := hx.re.mul hw.re h0 (by omega)
  have m2 := hx.im.mul hw.im h0 (by omega)
  have m3 := hx.re.mul hw.im h0 (by omega)
  have m4 := hx.im.mul hw.re h0 (by omega)
  have bnd : ∀ {u v : Nat} (hu : B1 e u) (hv : B1 f v), (V u * V v).abs < p2 1023 := fun {u v} hu hv => by
    refine le_lt_1023 (e := e + f) ?_ (by omega)
    rw [abs_mul, p2_add]
    exact Rat.le_trans (Rat.mul_le_mul_of_nonneg_right hu.le Rat.abs_nonneg) (Rat.mul_le_mul_of_nonneg_left hv.le (p2_nonneg e))
  have r1 := (mul_rounded hx.re.num hw.re.num (bnd hx.re hw.re)).rel
  have r2 := (mul_rounded hx.im.num hw.im.num (bnd hx.im hw.im)).rel
  have r3 := (mul_rounded hx.re.num hw.im.num (bnd hx.re hw.im)).rel
  have r4 := (mul_rounded hx.im.num hw.re.num (bnd hx.im hw.re)).rel
  have r5 := (sub_rounded m1.num m2.num (le_lt_1023 (two_p2 m1.le m2.le).2 (by omega))).rel
  have r6 := (add_rounded m3.num m4.num (le_lt_1023 (two_p2 m3.le m4.le).1 (by omega))).rel
  have E : p2 (-53) = EE := rfl
  have T : p2 (-1075) = TT := rfl
  rw [E, T] at r1 r2 r3 r4 r5 r6
  obtain ⟨a, b⟩ := x
  obtain ⟨c, d⟩ := w
  simp only at r1 r2 r3 r4 r5 r6
  have r2' : (-(V (fmul b d)) - -(V b * V d)).abs ≤ EE * (-(V b * V d)).abs + TT := by
    rw [Rat.abs_neg, show -(V (fmul b d)) - -(V b * V d) = -(V (fmul b d) - V b * V d) from by grind, Rat.abs_neg]; exact r2
  have r5' : (V (fsub (fmul a c) (fmul b d)) - (V (fmul a c) + -(V (fmul b d)))).abs ≤ EE * (V (fmul a c) + -(V (fmul b d))).abs + TT := by
    rw [show V (fmul a c) + -(V (fmul b d)) = V (fmul a c) - V (fmul b d) from by grind]; exact r5
  have t1 := part_err r1 r2' r5'
  have t2 := part_err r3 r4 r6
  rw [Rat.abs_neg] at t1
  have cr := (cross_le (V a) (V b) (V c) (V d)).2
  have lxw := lx.mul lw
  have hE := Rat.le_of_lt EE_pos
  have hE2 := EE_small
  have hT := Rat.le_of_lt TT_pos
  have hXW := lxw.1
  -- three vectors
  have lA : Len ⟨(V a * V c).abs + (V b * V d).abs, (V a * V d).abs + (V b * V c).abs⟩ (17/12 * (X * W)) := by
    refine ⟨by grind, ?_⟩
    unfold Cx.nsq
    simp only
    refine Rat.le_trans cr ?_
    have l2 := lxw.2
    rw [Cx.nsq_mul] at l2
    have l3 : (V a * V a + V b * V b) * (V c * V c + V d * V d) ≤ X * W * (X * W) := l2
    have := Rat.mul_nonneg hXW hXW
    grind
  have lB : Len ⟨(V a * V c + -(V b * V d)).abs, (V a * V d + V b * V c).abs⟩ (X * W) := by
    refine ⟨hXW, ?_⟩
    unfold Cx.nsq
    simp only
    rw [sq_abs, sq_abs]
    have l2 := lxw.2
    unfold Cx.nsq Cx.mul cv at l2
    simp only at l2
    grind
  have lC : Len ⟨4 * TT, 4 * TT⟩ (6 * TT) := by
    refine ⟨by grind, ?_⟩
    unfold Cx.nsq
    simp only
    have := sq_nonneg TT
    grind
  have total := ((lA.scale (show 0 ≤ EE + EE * EE by have := sq_nonneg EE; grind)).add (lB.scale hE)).add lC
  refine (Len.of_abs (total.mono ?_) ?_ ?_)
  · have hEX := Rat.mul_nonneg hE hXW
    have : EE * (EE * (X * W)) ≤ 1/4096 * (EE * (X * W)) := Rat.mul_le_mul_of_nonneg_right (by grind) hEX
    generalize X * W = Y at *
    grind
  · show (V (fsub (fmul a c) (fmul b d)) - (V a * V c - V b * V d)).abs ≤ ((EE + EE * EE) * ((V a * V c).abs + (V b * V d).abs) + EE * (V a * V c + -(V b * V d)).abs) + 4 * TT
    rw [show V (fsub (fmul a c) (fmul b d)) - (V a * V c - V b * V d) = V (fsub (fmul a c) (fmul b d)) - (V a * V c + -(V b * V d)) from by grind]
    refine Rat.le_trans t1 ?_
    grind
  · show (V (fadd (fmul a d) (fmul b c)) - (V a * V d + V b * V c)).abs ≤ ((EE + EE * EE) * ((V a * V d).abs + (V b * V c).abs) + EE * (V a * V d + V b * V c).abs) + 4 * TT
    refine Rat.le_trans t2 ?_
    grind

/-! ### Powers of rationals -/
def qp (x : Rat) : Nat → Rat
  | 0 => 1
  | n + 1 => qp x n * x
theorem qp_add (x : Rat) (m : Nat) : ∀ n, qp x (m + n) = qp x m * qp x n
  | 0 => by show qp x m = qp x m * 1; rw [Rat.mul_one]
  | n + 1 => by show qp x (m + n) * x = qp x m * (qp x n * x); rw [qp_add x m n, Rat.mul_assoc]
theorem qp_one_le {x : Rat} (h : 1 ≤ x) : ∀ n, 1 ≤ qp x n
  | 0 => Rat.le_refl
  | n + 1 => by
    have ih := qp_one_le h n
    show 1 ≤ qp x n * x
    have := Rat.mul_le_mul_of_nonneg_left h (show 0 ≤ qp x n by grind)
    grind
theorem qp_mono {x : Rat} (h : 1 ≤ x) {m n : Nat} (hmn : m ≤ n) : qp x m ≤ qp x n := by
  obtain ⟨d, rfl⟩ : ∃ d, n = m + d := ⟨n - m, by omega⟩
  rw [qp_add]
  have a := qp_one_le h m
  have b := qp_one_le h d
  have := Rat.mul_le_mul_of_nonneg_left b (show 0 ≤ qp x m by grind)
  grind
theorem qp_small {x : Rat} (h0 : 0 ≤ x) {N : Nat} (hN : (N : Rat) * x ≤ 1/200) : ∀ n, n ≤ N → qp (1 + x) n ≤ 1 + 101/100 * ((n : Rat) * x)
  | 0, _ => by show (1 : Rat) ≤ 1 + 101/100 * (((0 : Nat) : Rat) * x); rw [show ((0 : Nat) : Rat) = 0 from rfl]; grind
  | n + 1, h => by
    have ih := qp_small h0 hN n (by omega)
    show qp (1 + x) n * (1 + x) ≤ _
    have a := Rat.mul_le_mul_of_nonneg_right ih (show 0 ≤ 1 + x by grind)
    have hn : (n : Rat) ≤ (N : Rat) := Rat.natCast_le_natCast.2 (by omega)
    have b := Rat.mul_le_mul_of_nonneg_right hn h0
    have c := Rat.mul_le_mul_of_nonneg_right (Rat.le_trans b hN) h0
    rw [Rat.natCast_add, show ((1 : Nat) : Rat) = 1 from rfl, show ((n : Rat) + 1) * x = (n : Rat) * x + x from by grind]
    generalize (n : Rat) * x = y at *
    grind
theorem pow_len {Z : Cx} {M : Rat} (h : Len Z M) : ∀ n, Len (Z.pow n) (qp M n)
  | 0 => Len.unit Cx.nsq_one
  | n + 1 => (pow_len h n).mul h

/-! ### power -/
def rM : Rat := 5/2 * EE + 6 * TT
theorem rM_nonneg : 0 ≤ rM := by unfold rM; have := EE_pos; have := TT_pos; grind
theorem Bd.of_len {e : Int} {v : Nat × Nat} (h : Bd e v) (l : Len (cv v) 2) : Bd 1 v := by
  have := l.parts
  have e2 : p2 1 = 2 := by decide +kernel
  exact ⟨⟨h.re.num, h.re.lt, by rw [e2]; exact this.1⟩, ⟨h.im.num, h.im.lt, by rw [e2]; exact this.2⟩⟩
theorem mul_pow_err {x y : Nat × Nat} {X0 Y0 : Cx} {A B M1 M2 : Rat} (hx : Bd 1 x) (hy : Bd 1 y) (dx : Len ((cv x).sub X0) (A - M1)) (lx : Len X0 M1) (dy : Len ((cv y).sub Y0) (B - M2)) (ly : Len Y0 M2) (h1 : 1 ≤ A) (h2 : 1 ≤ B) :
    Bd 5 (cmul x y) ∧ Len ((cv (cmul x y)).sub (X0.mul Y0)) (A * B * (1 + rM) - M1 * M2) ∧ Len (X0.mul Y0) (M1 * M2) := by
  have lxA : Len (cv x) A := (dx.of_sub lx).mono (by grind)
  have lyB : Len (cv y) B := (dy.of_sub ly).mono (by grind)
  have m := mul_err2 hx hy (by decide) (by decide) lxA lyB
  have a := lxA.mul dy
  have b := dx.mul ly
  have e1 : ((cv (cmul x y)).sub ((cv x).mul (cv y))).add (((cv x).mul ((cv y).sub Y0)).add (((cv x).sub X0).mul Y0)) = (cv (cmul x y)).sub (X0.mul Y0) :=
    Cx.eq (by unfold Cx.add Cx.sub Cx.mul; simp only; grind) (by unfold Cx.add Cx.sub Cx.mul; simp only; grind)
  have s := m.add (a.add b)
  rw [e1] at s
  refine ⟨hx.mul hy (by decide) (by decide), s.mono ?_, lx.mul ly⟩
  have hAB : 1 ≤ A * B := by
    have := Rat.mul_le_mul_of_nonneg_left h2 (show 0 ≤ A by grind)
    grind
  have := Rat.mul_le_mul_of_nonneg_left hAB (Rat.le_of_lt TT_pos)
  unfold rM
  grind

def powL : Nat → (Nat × Nat) → (Nat × Nat) → Nat → Nat × Nat
  | 0, p, _, _ => p
  | F + 1, p, z, n => if n = 0 then p else powL F (if n % 2 = 1 then cmul p z else p) (cmul z z) (n / 2)
def powF (z : Nat × Nat) (n : Nat) : Nat × Nat := powL 12 oneC z n

/-- The state of the loop. -/
structure PwSt (Z : Cx) (M : Rat) (i L : Nat) (p z : Nat × Nat) : Prop where
  bp : Bd 1 p
  bz : Bd 1 z
  dp : Len ((cv p).sub (Z.pow L)) (qp M L * qp (1 + rM) L - qp M L)
  dz : Len ((cv z).sub (Z.pow (2 ^ i))) (qp M (2 ^ i) * qp (1 + rM) (2 ^ i - 1) - qp M (2 ^ i))
theorem PwSt.step {Z : Cx} {M : Rat} (hZ : Len Z M) (hM : 1 ≤ M) (hbig : qp M 4096 * qp (1 + rM) 4096 ≤ 2) {i L n : Nat} {p z : Nat × Nat} (hL : L + 2 ^ i * n ≤ 2048) (hn : 0 < n) (h : PwSt Z M i L p z) :
    PwSt Z M (i + 1) (if n % 2 = 1 then L + 2 ^ i else L) (if n % 2 = 1 then cmul p z else p) (cmul z z) := by
  have h1r : 1 ≤ 1 + rM := by have := rM_nonneg; grind
  have lm : ∀ a b, a ≤ 4096 → b ≤ 4096 → qp M a * qp (1 + rM) b ≤ 2 := fun a b ha hb => by
    have x := qp_mono hM ha
    have y := qp_mono h1r hb
    have x1 := qp_one_le hM a
    have y1 := qp_one_le h1r 4096
    exact Rat.le_trans (Rat.mul_le_mul_of_nonneg_left y (by grind)) (Rat.le_trans (Rat.mul_le_mul_of_nonneg_right x (by grind)) hbig)
  have one : ∀ a b, 1 ≤ qp M a * qp (1 + rM) b := fun a b => by
    have x1 := qp_one_le hM a
    have y1 := qp_one_le h1r b
    have := Rat.mul_le_mul_of_nonneg_left y1 (show 0 ≤ qp M a by grind)
    grind
  have h2i : 2 ^ i ≤ 2048 := by
    have : 2 ^ i * 1 ≤ 2 ^ i * n := Nat.mul_le_mul_left _ hn
    omega
  have hpi := Nat.two_pow_pos i
  have hps : 2 ^ (i + 1) = 2 ^ i + 2 ^ i := by rw [Nat.pow_succ]; omega
  obtain ⟨zb, zd, zl⟩ := mul_pow_err h.bz h.bz h.dz (pow_len hZ _) h.dz (pow_len hZ _) (one _ _) (one _ _)
  rw [← Cx.pow_add, ← hps] at zd zl
  have ez : qp M (2 ^ i) * qp (1 + rM) (2 ^ i - 1) * (qp M (2 ^ i) * qp (1 + rM) (2 ^ i - 1)) * (1 + rM) - qp M (2 ^ i) * qp M (2 ^ i) = qp M (2 ^ (i + 1)) * qp (1 + rM) (2 ^ (i + 1) - 1) - qp M (2 ^ (i + 1)) := by
    have e2 : qp (1 + rM) (2 ^ (i + 1) - 1) = qp (1 + rM) (2 ^ i - 1) * (qp (1 + rM) (2 ^ i - 1) * (1 + rM)) := by
      rw [show 2 ^ (i + 1) - 1 = (2 ^ i - 1) + ((2 ^ i - 1) + 1) from by omega, qp_add]; rfl
    rw [e2, hps, qp_add]; grind
  rw [ez] at zd
  have zz : Bd 1 (cmul z z) := zb.of_len ((zd.of_sub (pow_len hZ _)).mono (by
    have := lm (2 ^ (i + 1)) (2 ^ (i + 1) - 1) (by omega) (by omega)
    grind))
  by_cases ho : n % 2 = 1
  · rw [if_pos ho, if_pos ho]
    obtain ⟨pb, pd, pl⟩ := mul_pow_err h.bp h.bz h.dp (pow_len hZ _) h.dz (pow_len hZ _) (one _ _) (one _ _)
    rw [← Cx.pow_add] at pd pl
    have ep : qp M L * qp (1 + rM) L * (qp M (2 ^ i) * qp (1 + rM) (2 ^ i - 1)) * (1 + rM) - qp M L * qp M (2 ^ i) = qp M (L + 2 ^ i) * qp (1 + rM) (L + 2 ^ i) - qp M (L + 2 ^ i) := by
      have e2 : qp (1 + rM) (L + 2 ^ i) = qp (1 + rM) L * (qp (1 + rM) (2 ^ i - 1) * (1 + rM)) := by
        rw [show L + 2 ^ i = L + ((2 ^ i - 1) + 1) from by omega, qp_add]; rfl
      rw [e2, qp_add]; grind
    rw [ep] at pd
    have hLi : L + 2 ^ i ≤ 4096 := by omega
    exact ⟨pb.of_len ((pd.of_sub (pow_len hZ _)).mono (by have := lm (L + 2 ^ i) (L + 2 ^ i) hLi hLi; grind)), zz, pd, zd⟩
  · rw [if_neg ho, if_neg ho]
    exact ⟨h.bp, zz, h.dp, zd⟩
theorem powL_err {Z : Cx} {M : Rat} (hZ : Len Z M) (hM : 1 ≤ M) (hbig : qp M 4096 * qp (1 + rM) 4096 ≤ 2) : ∀ (F i L n : Nat) (p z : Nat × Nat), i + F = 12 → n < 2 ^ F → L + 2 ^ i * n ≤ 2048 → PwSt Z M i L p z →
    Bd 1 (powL F p z n) ∧ Len ((cv (powL F p z n)).sub (Z.pow (L + 2 ^ i * n))) (qp M (L + 2 ^ i * n) * qp (1 + rM) (L + 2 ^ i * n) - qp M (L + 2 ^ i * n))
  | 0, i, L, n, p, z, hi, hn, hL, h => by
    have : n = 0 := by have : n < 1 := hn; omega
    subst this
    rw [Nat.mul_zero, Nat.add_zero]
    exact ⟨h.bp, h.dp⟩
  | F + 1, i, L, n, p, z, hi, hn, hL, h => by
    show Bd 1 (if n = 0 then p else _) ∧ Len ((cv (if n = 0 then p else _)).sub _) _
    by_cases h0 : n = 0
    · subst h0
      rw [if_pos rfl, Nat.mul_zero, Nat.add_zero]
      exact ⟨h.bp, h.dp⟩
    · rw [if_neg h0]
      have st := h.step hZ hM hbig hL (by omega)
      have hps : 2 ^ (i + 1) = 2 * 2 ^ i := by rw [Nat.pow_succ, Nat.mul_comm]
      have key : (if n % 2 = 1 then L + 2 ^ i else L) + 2 ^ (i + 1) * (n / 2) = L + 2 ^ i * n := by
        have e1 : 2 ^ i * n = 2 ^ i * (n % 2) + 2 ^ (i + 1) * (n / 2) := by
          have := Nat.mod_add_div n 2
          rw [hps, Nat.mul_comm 2 (2 ^ i), Nat.mul_assoc, ← Nat.mul_add, this]
        split
        · rename_i g
          rw [g, Nat.mul_one] at e1; omega
        · rename_i g
          have g0 : n % 2 = 0 := by omega
          rw [g0, Nat.mul_zero] at e1; omega
      have := powL_err hZ hM hbig F (i + 1) (if n % 2 = 1 then L + 2 ^ i else L) (n / 2) _ _ (by omega) (by rw [Nat.pow_succ] at hn; omega) (by rw [key]; exact hL) st
      rw [key] at this
      exact this
theorem oneC_bd : Bd 1 oneC := ⟨⟨oneC_num.1, by decide, by show (V 4607182418800017408).abs ≤ p2 1; rw [oneC_num.2]; decide +kernel⟩, B1.zero 1⟩
theorem pow_err {z : Nat × Nat} {M : Rat} {n : Nat} (hb : Bd 1 z) (hZ : Len (cv z) M) (hM : 1 ≤ M) (hbig : qp M 4096 * qp (1 + rM) 4096 ≤ 2) (hn : n ≤ 2048) :
    Bd 1 (powF z n) ∧ Len ((cv (powF z n)).sub ((cv z).pow n)) (qp M n * qp (1 + rM) n - qp M n) := by
  have st : PwSt (cv z) M 0 0 oneC z := by
    refine ⟨oneC_bd, hb, ?_, ?_⟩
    · rw [cv_oneC]
      refine (Len.self Cx.one).mono ?_
      show 0 ≤ 1 * 1 - 1
      decide +kernel
    · rw [show (cv z).pow (2 ^ 0) = cv z from Cx.pow_one _]
      refine (Len.self _).mono ?_
      show 0 ≤ qp M 1 * 1 - qp M 1
      grind
  have := powL_err hZ hM hbig 12 0 0 n oneC z rfl (by have : (2 : Nat) ^ 12 = 4096 := rfl; omega) (by rw [Nat.pow_zero]; omega) st
  rw [Nat.pow_zero, Nat.one_mul, Nat.zero_add] at this
  exact this
end Go.Proofs.Ygctaf
