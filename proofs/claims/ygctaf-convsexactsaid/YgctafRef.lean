/-
  fftx.refine, piece by piece: the turn, the size, the mend.
-/
import Derived.Test.YgctafPow
import Derived.Test.YgctafReal
namespace Go.Proofs.Ygctaf
open Ieee

/-! ### Products that are exact -/
theorem mul_one_exact {x : Nat} (hx : x < 2 ^ 64) (hn : Num x) (hb : (V x).abs ≤ p2 1000) : V (fmul x 4607182418800017408) = V x := by
  have e1 : V x * V 4607182418800017408 = V x := by rw [oneC_num.2, Rat.mul_one]
  have r := mul_rounded hn oneC_num.1 (by rw [e1]; exact le_lt_1023 hb (by decide))
  obtain ⟨s, m, e, c, _, _, hm, he, _, hvx⟩ := split_num hx hn
  have := r.exact (if s then -(m : Int) else m) e he (by split <;> omega) (by
    rw [e1, hvx]
    cases s
    · rw [sgn_false]; show _ = (((m : Int)) : Rat) * p2 e; rw [show (((m : Int)) : Rat) = (m : Rat) from rfl]; grind
    · rw [sgn_true]; show _ = ((-(m : Int) : Int) : Rat) * p2 e; rw [Rat.intCast_neg, show (((m : Int)) : Rat) = (m : Rat) from rfl]; grind)
  rw [this, e1]
/-- 1 + i g. -/
def onI (g : Rat) : Cx := ⟨1, g⟩
theorem onI_len {g G : Rat} (h : g.abs ≤ G) : Len (onI g) (1 + G) := by
  have h0 : 0 ≤ G := Rat.le_trans Rat.abs_nonneg h
  refine ⟨by grind, ?_⟩
  unfold onI Cx.nsq
  simp only
  have := sq_le_of_abs h
  grind
theorem part_one {a q q' r : Rat} (h2 : (q' - q).abs ≤ EE * q.abs + TT) (h3 : (r - (a + q')).abs ≤ EE * (a + q').abs + TT) :
    (r - (a + q)).abs ≤ EE * (a + q).abs + 2 * EE * q.abs + 3 * TT := by
  have hE := EE_pos
  have hE2 := EE_small
  have hT := TT_pos
  have a4 := abs_add (a + q) (q' - q)
  rw [show a + q + (q' - q) = a + q' from by grind] at a4
  have a5 := abs_add (r - (a + q')) (q' - q)
  rw [show r - (a + q') + (q' - q) = r - (a + q) from by grind] at a5
  have n2 := Rat.abs_nonneg (x := q)
  have b := Rat.mul_le_mul_of_nonneg_left a4 (Rat.le_of_lt hE)
  have b2 := Rat.mul_le_mul_of_nonneg_left h2 (Rat.le_of_lt hE)
  have b3 : EE * (EE * q.abs + TT) ≤ EE * q.abs + TT := by
    have : 0 ≤ EE * q.abs + TT := by have := Rat.mul_nonneg (Rat.le_of_lt hE) n2; grind
    have := Rat.mul_le_mul_of_nonneg_right (show EE ≤ 1 by grind) this
    grind
  generalize q.abs = Q at *
  generalize (q' - q).abs = dq at *
  generalize (a + q').abs = PQ at *
  generalize (a + q).abs = S at *
  generalize (r - (a + q')).abs = R1 at *
  generalize (r - (a + q)).abs = R at *
  grind
/-- The turn: a product by 1 + i g. -/
theorem turn_err {z : Nat × Nat} {g : Nat} {X G : Rat} (hz : Bd 1 z) (hg : B1 1 g) (lz : Len (cv z) X) (lg : (V g).abs ≤ G) :
    Bd 5 (cmul z (4607182418800017408, g)) ∧ Len ((cv (cmul z (4607182418800017408, g))).sub ((cv z).mul (onI (V g)))) (EE * (X * (1 + 4 * G)) + 6 * TT) := by
  have hG0 : 0 ≤ G := Rat.le_trans Rat.abs_nonneg lg
  have bw : Bd 1 (4607182418800017408, g) := ⟨oneC_bd.re, hg⟩
  refine ⟨hz.mul bw (by decide) (by decide), ?_⟩
  obtain ⟨a, b⟩ := z
  have ha := hz.re
  have hb := hz.im
  simp only at ha hb
  have big : ∀ {x : Nat}, B1 1 x → (V x).abs ≤ p2 1000 := fun h => Rat.le_trans h.le (p2_le (by decide))
  have ea := mul_one_exact ha.lt ha.num (big ha)
  have eb := mul_one_exact hb.lt hb.num (big hb)
  have m1 := ha.mul bw.re (by decide) (by decide)
  have m2 := hb.mul hg (by decide) (by decide)
  have m3 := ha.mul hg (by decide) (by decide)
  have m4 := hb.mul bw.re (by decide) (by decide)
  have bnd : ∀ {u v : Nat} (hu : B1 1 u) (hv : B1 1 v), (V u * V v).abs < p2 1023 := fun {u v} hu hv => by
    refine le_lt_1023 (e := 2) ?_ (by decide)
    rw [abs_mul, show p2 2 = p2 1 * p2 1 from by decide +kernel]
    exact Rat.le_trans (Rat.mul_le_mul_of_nonneg_right hu.le Rat.abs_nonneg) (Rat.mul_le_mul_of_nonneg_left hv.le (p2_nonneg 1))
  have r2 := (mul_rounded hb.num hg.num (bnd hb hg)).rel
  have r3 := (mul_rounded ha.num hg.num (bnd ha hg)).rel
  have r5 := (sub_rounded m1.num m2.num (le_lt_1023 (two_p2 m1.le m2.le).2 (by decide))).rel
  have r6 := (add_rounded m3.num m4.num (le_lt_1023 (two_p2 m3.le m4.le).1 (by decide))).rel
  have E : p2 (-53) = EE := rfl
  have T : p2 (-1075) = TT := rfl
  rw [E, T] at r2 r3 r5 r6
  simp only at r5 r6
  rw [ea] at r5
  rw [eb] at r6
  have r2' : (-(V (fmul b g)) - -(V b * V g)).abs ≤ EE * (-(V b * V g)).abs + TT := by
    rw [Rat.abs_neg, show -(V (fmul b g)) - -(V b * V g) = -(V (fmul b g) - V b * V g) from by grind, Rat.abs_neg]; exact r2
  have t1 := part_one (a := V a) r2' (r := V (fsub (fmul a 4607182418800017408) (fmul b g))) (by
    rw [show V a + -(V (fmul b g)) = V a - V (fmul b g) from by grind]; exact r5)
  have t2 := part_one (a := V b) r3 (r := V (fadd (fmul a g) (fmul b 4607182418800017408))) (by
    rw [show V b + V (fmul a g) = V (fmul a g) + V b from by grind]; exact r6)
  rw [Rat.abs_neg] at t1
  -- vectors
  have lB := lz.mul (onI_len lg)
  have lB' : Len ⟨(V a + -(V b * V g)).abs, (V b + V a * V g).abs⟩ (X * (1 + G)) := by
    refine ⟨lB.1, ?_⟩
    have := lB.2
    unfold Cx.nsq Cx.mul onI cv at this
    simp only at this
    unfold Cx.nsq
    simp only
    rw [sq_abs, sq_abs]
    grind
  have lA : Len ⟨(V b * V g).abs, (V a * V g).abs⟩ (X * G) := by
    refine ⟨Rat.mul_nonneg lz.1 hG0, ?_⟩
    unfold Cx.nsq
    simp only
    rw [sq_abs, sq_abs]
    have l := lz.2
    unfold Cx.nsq cv at l
    simp only at l
    have k1 := sq_le_of_abs lg
    have k2 := Rat.mul_le_mul_of_nonneg_left k1 (show 0 ≤ V a * V a + V b * V b by have := sq_nonneg (V a); have := sq_nonneg (V b); grind)
    have k3 := Rat.mul_le_mul_of_nonneg_right l (sq_nonneg G)
    grind
  have lC : Len ⟨3 * TT, 3 * TT⟩ (6 * TT) := by
    have hT := TT_pos
    refine ⟨by grind, ?_⟩
    unfold Cx.nsq
    simp only
    have := sq_nonneg TT
    grind
  have hE := Rat.le_of_lt EE_pos
  have total := ((lB'.scale hE).add (lA.scale (show 0 ≤ 2 * EE by grind))).add lC
  refine Len.of_abs (total.mono ?_) ?_ ?_
  · have := Rat.mul_nonneg hE (Rat.mul_nonneg lz.1 hG0)
    grind
  · show (V (fsub (fmul a 4607182418800017408) (fmul b g)) - (V a * 1 - V b * V g)).abs ≤ EE * (V a + -(V b * V g)).abs + 2 * EE * (V b * V g).abs + 3 * TT
    rw [show V a * 1 - V b * V g = V a + -(V b * V g) from by grind]
    exact t1
  · show (V (fadd (fmul a g) (fmul b 4607182418800017408)) - (V a * V g + V b * 1)).abs ≤ EE * (V b + V a * V g).abs + 2 * EE * (V a * V g).abs + 3 * TT
    rw [show V a * V g + V b * 1 = V b + V a * V g from by grind]
    exact t2

/-! ### The size and the mend -/
def sizF (z : Nat × Nat) : Nat := fadd (fmul z.1 z.1) (fmul z.2 z.2)
def menF (z : Nat × Nat) : Nat := fsub 4609434218613702656 (fdiv (sizF z) 4611686018427387904)
def scaF (z : Nat × Nat) (m : Nat) : Nat × Nat := (fmul z.1 m, fmul z.2 m)
theorem ohalf_val : Num 4609434218613702656 ∧ V 4609434218613702656 = 3/2 := by
  have h : double.read 4609434218613702656 = .number false 6755399441055744 (-52) := by decide +kernel
  refine ⟨⟨_, _, _, h⟩, ?_⟩
  unfold V
  rw [h]
  show sgn false * (((6755399441055744 : Nat) : Rat) * p2 (-52)) = 3/2
  decide +kernel
theorem siz_err {z : Nat × Nat} (hz : Bd 1 z) : B1 5 (sizF z) ∧ (V (sizF z) - (cv z).nsq).abs ≤ 2 * EE * (cv z).nsq + EE * (EE * (cv z).nsq) + 4 * TT := by
  obtain ⟨a, b⟩ := z
  have ha := hz.re
  have hb := hz.im
  simp only at ha hb
  have m1 := ha.mul ha (by decide) (by decide)
  have m2 := hb.mul hb (by decide) (by decide)
  have bnd : ∀ {u v : Nat} (hu : B1 1 u) (hv : B1 1 v), (V u * V v).abs < p2 1023 := fun {u v} hu hv => by
    refine le_lt_1023 (e := 2) ?_ (by decide)
    rw [abs_mul, show p2 2 = p2 1 * p2 1 from by decide +kernel]
    exact Rat.le_trans (Rat.mul_le_mul_of_nonneg_right hu.le Rat.abs_nonneg) (Rat.mul_le_mul_of_nonneg_left hv.le (p2_nonneg 1))
  have r1 := (mul_rounded ha.num ha.num (bnd ha ha)).rel
  have r2 := (mul_rounded hb.num hb.num (bnd hb hb)).rel
  have r6 := (add_rounded m1.num m2.num (le_lt_1023 (two_p2 m1.le m2.le).1 (by decide))).rel
  have E : p2 (-53) = EE := rfl
  have T : p2 (-1075) = TT := rfl
  rw [E, T] at r1 r2 r6
  have t := part_err r1 r2 r6
  have ea : (V a * V a).abs = V a * V a := Rat.abs_of_nonneg (sq_nonneg _)
  have eb : (V b * V b).abs = V b * V b := Rat.abs_of_nonneg (sq_nonneg _)
  have es : (V a * V a + V b * V b).abs = V a * V a + V b * V b := Rat.abs_of_nonneg (by have := sq_nonneg (V a); have := sq_nonneg (V b); grind)
  rw [ea, eb, es] at t
  refine ⟨(m1.add m2 (by decide) (by decide)).mono (by decide), ?_⟩
  show (V (fadd (fmul a a) (fmul b b)) - (V a * V a + V b * V b)).abs ≤ 2 * EE * (V a * V a + V b * V b) + EE * (EE * (V a * V a + V b * V b)) + 4 * TT
  generalize V a * V a + V b * V b = S at *
  grind
theorem men_err {z : Nat × Nat} (hz : Bd 1 z) (hS : ((cv z).nsq - 1).abs ≤ 1/64) : B1 1 (menF z) ∧ (V (menF z) - (3/2 - 1/2 * (cv z).nsq)).abs ≤ 13/5 * EE := by
  obtain ⟨b1, s1⟩ := siz_err hz
  obtain ⟨b2, s2⟩ := half_b1 b1 (by decide) (by decide)
  have b3 : B1 5 4609434218613702656 := ⟨ohalf_val.1, by decide, by rw [ohalf_val.2]; decide +kernel⟩
  have r := sub_rounded ohalf_val.1 b2.num (le_lt_1023 (two_p2 b3.le b2.le).2 (by decide))
  have s3 := r.rel
  have E : p2 (-53) = EE := rfl
  have T : p2 (-1075) = TT := rfl
  rw [E, T, ohalf_val.2] at s3
  obtain ⟨q1, q2⟩ := abs_le.1 hS
  have hE := EE_pos
  have hE2 := EE_small
  have hT := TT_pos
  have hTE : TT ≤ 1/1000 * EE := by unfold TT EE; decide +kernel
  have c := abs_le.1 s1
  have d := abs_le.1 s2
  have err : (V (menF z) - (3/2 - 1/2 * (cv z).nsq)).abs ≤ 13/5 * EE := by
    unfold menF at *
    generalize (cv z).nsq = S at *
    generalize V (sizF z) = s at *
    generalize V (fdiv (sizF z) 4611686018427387904) = h at *
    generalize V (fsub 4609434218613702656 (fdiv (sizF z) 4611686018427387904)) = m at *
    have hS1 : S ≤ 65/64 := by grind
    have hS0 : 63/64 ≤ S := by grind
    have e1 : EE * S ≤ EE * (65/64) := Rat.mul_le_mul_of_nonneg_left hS1 (Rat.le_of_lt hE)
    have e2 : EE * (EE * S) ≤ 1/4096 * (EE * (65/64)) := by
      have := Rat.mul_le_mul_of_nonneg_left e1 (Rat.le_of_lt hE)
      have k := Rat.mul_le_mul_of_nonneg_right (show EE ≤ 1/4096 by grind) (show 0 ≤ EE * (65/64) by grind)
      grind
    have hEE1 : EE ≤ 1/4096 := by grind
    have f1 : (s - S).abs ≤ 203/100 * EE + 1/100 * EE := by rw [abs_le]; grind
    have hs1 : s ≤ 66/64 := by have := abs_le.1 f1; grind
    have hs0 : 62/64 ≤ s := by have := abs_le.1 f1; grind
    have a1 : (1/2 * s).abs = 1/2 * s := Rat.abs_of_nonneg (by grind)
    rw [a1] at s2
    have e3 : EE * (1/2 * s) ≤ EE * (33/64) := Rat.mul_le_mul_of_nonneg_left (by grind) (Rat.le_of_lt hE)
    have f2 : (h - 1/2 * s).abs ≤ 33/64 * EE + 1/1000 * EE := by rw [abs_le] at s2 ⊢; grind
    have hh1 : h ≤ 67/128 := by have := abs_le.1 f2; grind
    have hh0 : 61/128 ≤ h := by have := abs_le.1 f2; grind
    have a2 : (3/2 - h).abs = 3/2 - h := Rat.abs_of_nonneg (by grind)
    rw [a2] at s3
    have e4 : EE * (3/2 - h) ≤ EE * (131/128) := Rat.mul_le_mul_of_nonneg_left (by grind) (Rat.le_of_lt hE)
    have g1 := abs_le.1 s3
    have g2 := abs_le.1 f2
    have g3 := abs_le.1 f1
    rw [abs_le]
    grind
  refine ⟨⟨r.num, r.lt, ?_⟩, err⟩
  have e2 : p2 1 = 2 := by decide +kernel
  rw [e2]
  have := abs_le.1 err
  show (V (menF z)).abs ≤ 2
  rw [abs_le]
  grind
theorem sca_err {z : Nat × Nat} {m : Nat} {X W : Rat} (hz : Bd 1 z) (hm : B1 1 m) (lz : Len (cv z) X) (lm : (V m).abs ≤ W) :
    Bd 3 (scaF z m) ∧ Len ((cv (scaF z m)).sub (Cx.scale (V m) (cv z))) (EE * (W * X) + 2 * TT) := by
  have hW : 0 ≤ W := Rat.le_trans Rat.abs_nonneg lm
  obtain ⟨a, b⟩ := z
  have ha := hz.re
  have hb := hz.im
  simp only at ha hb
  have m1 := ha.mul hm (by decide) (by decide)
  have m2 := hb.mul hm (by decide) (by decide)
  have bnd : ∀ {u v : Nat} (hu : B1 1 u) (hv : B1 1 v), (V u * V v).abs < p2 1023 := fun {u v} hu hv => by
    refine le_lt_1023 (e := 2) ?_ (by decide)
    rw [abs_mul, show p2 2 = p2 1 * p2 1 from by decide +kernel]
    exact Rat.le_trans (Rat.mul_le_mul_of_nonneg_right hu.le Rat.abs_nonneg) (Rat.mul_le_mul_of_nonneg_left hv.le (p2_nonneg 1))
  have r1 := (mul_rounded ha.num hm.num (bnd ha hm)).rel
  have r2 := (mul_rounded hb.num hm.num (bnd hb hm)).rel
  have E : p2 (-53) = EE := rfl
  have T : p2 (-1075) = TT := rfl
  rw [E, T] at r1 r2
  refine ⟨⟨m1, m2⟩, ?_⟩
  have lA : Len ⟨(V a * V m).abs, (V b * V m).abs⟩ (W * X) := by
    refine ⟨Rat.mul_nonneg hW lz.1, ?_⟩
    unfold Cx.nsq
    simp only
    rw [sq_abs, sq_abs]
    have l := lz.2
    unfold Cx.nsq cv at l
    simp only at l
    have k1 := sq_le_of_abs lm
    have k2 := Rat.mul_le_mul_of_nonneg_left k1 (show 0 ≤ V a * V a + V b * V b by have := sq_nonneg (V a); have := sq_nonneg (V b); grind)
    have k3 := Rat.mul_le_mul_of_nonneg_right l (sq_nonneg W)
    grind
  have lC : Len ⟨TT, TT⟩ (2 * TT) := by
    have hT := TT_pos
    refine ⟨by grind, ?_⟩
    unfold Cx.nsq
    simp only
    have := sq_nonneg TT
    grind
  have hE := Rat.le_of_lt EE_pos
  have total := (lA.scale hE).add lC
  refine Len.of_abs total ?_ ?_
  · show (V (fmul a m) - V m * V a).abs ≤ EE * (V a * V m).abs + TT
    rw [Rat.mul_comm (V m) (V a)]; exact r1
  · show (V (fmul b m) - V m * V b).abs ≤ EE * (V b * V m).abs + TT
    rw [Rat.mul_comm (V m) (V b)]; exact r2

/-- The turn's amount. -/
def trnG (z : Nat × Nat) (n : Nat) : Nat := fneg (fdiv (powF z n).2 (fint (n : Int)))
def trnF (z : Nat × Nat) (n : Nat) : Nat × Nat := cmul z (4607182418800017408, trnG z n)
/-- fftx.refine -/
def refF (z : Nat × Nat) (n : Nat) : Nat × Nat := scaF (trnF z n) (menF (trnF z n))
theorem fintN_val (n : Nat) (h : n ≤ 2048) : B1 11 (fint (n : Int)) ∧ V (fint (n : Int)) = (n : Rat) := by
  have hr := fint_rounded (n : Int) (by omega)
  refine ⟨⟨hr.1.num, hr.1.lt, ?_⟩, hr.2⟩
  rw [hr.2, natAbs_abs, show (11 : Int) = ((11 : Nat) : Int) from rfl, p2_nat]
  exact Rat.natCast_le_natCast.2 (by simp; omega)
end Go.Proofs.Ygctaf
