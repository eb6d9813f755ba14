/-
  THE TRANSFORM OF REALS BY ONE OF HALF THE POINTS: the plain laws.
-/
import Derived.Test.YgctafFwdAp
namespace Go.Proofs.Ygctaf
open Ieee

/-! ### Halving -/
def chalf (z : Nat × Nat) : Nat × Nat := (fdiv z.1 4611686018427387904, fdiv z.2 4611686018427387904)
theorem two_read : double.read 4611686018427387904 = .number false (2 ^ 52) (-51) := by decide +kernel
theorem two_val : Num 4611686018427387904 ∧ V 4611686018427387904 = p2 1 := by
  have := const_val two_read
  rw [sgn_false, Rat.one_mul] at this
  exact this
theorem half_b1 {e : Int} {x : Nat} (h : B1 e x) (h0 : 0 ≤ e) (h1 : e ≤ 1000) : B1 e (fdiv x 4611686018427387904) ∧ (V (fdiv x 4611686018427387904) - 1/2 * V x).abs ≤ EE * (1/2 * V x).abs + TT := by
  have hq : V x / V 4611686018427387904 = 1/2 * V x := by
    rw [two_val.2, div_p2, show p2 (-1) = 1/2 from by decide +kernel]; grind
  have hb : (1/2 * V x).abs ≤ p2 (e - 1) := by
    rw [abs_mul, show (1/2 : Rat).abs = 1/2 from by decide +kernel]
    have := h.le
    have e1 : p2 e = 2 * p2 (e - 1) := by rw [← p2_succ]; congr 1; omega
    grind
  have r := div_rounded h.num two_read (by rw [hq]; exact le_lt_1023 hb (by omega))
  rw [hq] at r
  have rel := r.rel
  refine ⟨⟨r.num, r.lt, ?_⟩, rel⟩
  have t1 := abs_add (V (fdiv x 4611686018427387904) - 1/2 * V x) (1/2 * V x)
  rw [show V (fdiv x 4611686018427387904) - 1/2 * V x + 1/2 * V x = V (fdiv x 4611686018427387904) from by grind] at t1
  have e1 : p2 e = 2 * p2 (e - 1) := by rw [← p2_succ]; congr 1; omega
  have hE : EE * 4096 ≤ 1 := EE_small
  have hE0 := EE_pos
  have hT : p2 (-1075) ≤ p2 (e - 1) * (1/2) := by
    have : p2 (-1075) ≤ p2 (e - 2) := p2_le (by omega)
    have e2 : p2 (e - 1) = 2 * p2 (e - 2) := by rw [← p2_succ]; congr 1; omega
    grind
  have hr : (V (fdiv x 4611686018427387904) - 1/2 * V x).abs ≤ EE * (1/2 * V x).abs + p2 (-1075) := rel
  have m := Rat.mul_le_mul_of_nonneg_left hb (Rat.le_of_lt hE0)
  have hp := p2_nonneg (e - 1)
  have m2 := Rat.mul_le_mul_of_nonneg_right hE hp
  generalize p2 (e - 1) = P at *
  generalize p2 (-1075) = T at *
  grind
theorem Ap.halved {e : Int} {v : Nat × Nat} {a : Cx} {M c : Rat} (h : Ap e v a (2 * M) c) (h0 : 0 ≤ e) (h1 : e ≤ 900) (hM : p2 (-1015) ≤ M) (hc : c + 4 ≤ 1024) : Ap e (chalf v) (Cx.scale (1/2) a) M (c + 4) := by
  obtain ⟨b1, r1⟩ := half_b1 h.bd.re h0 (by omega)
  obtain ⟨b2, r2⟩ := half_b1 h.bd.im h0 (by omega)
  have hM0 : 0 ≤ M := Rat.le_trans (p2_nonneg _) hM
  have l2 := h.len2.scale (show (0 : Rat) ≤ 1/2 by decide +kernel)
  have near := h.near.scale (show (0 : Rat) ≤ 1/2 by decide +kernel)
  have ln := h.len.scale (show (0 : Rat) ≤ 1/2 by decide +kernel)
  have hE := Rat.le_of_lt EE_pos
  have hEM := Rat.mul_nonneg hE hM0
  have err : Len ((cv (chalf v)).sub (Cx.scale (1/2) (cv v))) (3/2 * (EE * (2 * M)) + 2 * TT) := by
    have s1 := sq_rel r1
    have s2 := sq_rel r2
    have hT := Rat.le_of_lt TT_pos
    have l := l2.2
    · refine len_of_sq (by grind) (by grind) ?_
      unfold Cx.nsq Cx.sub Cx.scale cv chalf at *
      simp only at *
      have m := Rat.mul_le_mul_of_nonneg_left l (show 0 ≤ 2 * (EE * EE) by have := EE2_nonneg; grind)
      have h9 : 0 ≤ EE * (2 * M) * (EE * (2 * M)) := by have := Rat.mul_nonneg hEM hEM; grind
      generalize V (fdiv v.1 4611686018427387904) - 1/2 * V v.1 = A at *
      generalize V (fdiv v.2 4611686018427387904) - 1/2 * V v.2 = B at *
      generalize 1/2 * V v.1 = X at *
      generalize 1/2 * V v.2 = Y at *
      have e9 : 1/2 * (2 * (2 * M)) = 2 * M := by grind
      rw [e9] at m
      have hT2 := TT2_nonneg
      grind
  have e1 : Cx.scale (1/2) ((cv v).sub a) = (Cx.scale (1/2) (cv v)).sub (Cx.scale (1/2) a) := Cx.eq (by unfold Cx.scale Cx.sub; simp only; grind) (by unfold Cx.scale Cx.sub; simp only; grind)
  rw [e1] at near
  have tt : 64 * TT ≤ EE * M := by
    have h1 := Rat.mul_le_mul_of_nonneg_left hM hE
    have h2 : 64 * TT ≤ EE * p2 (-1015) := by unfold TT EE; decide +kernel
    exact Rat.le_trans h2 h1
  refine ⟨⟨b1, b2⟩, ln.mono (by grind), (err.tri near).mono ?_, hM, by have := h.c0; grind, hc⟩
  have a1 : EE * (2 * M) = 2 * (EE * M) := by grind
  rw [a1]
  generalize EE * M = U at *
  have hT := Rat.le_of_lt TT_pos
  grind
theorem Ap.conj {e : Int} {v : Nat × Nat} {a : Cx} {M c : Rat} (h : Ap e v a M c) : Ap e (cconj v) a.conj M c :=
  ⟨h.bd.conj, h.len.conj, by rw [cv_conjN h.bd.nm, ← Cx.conj_sub]; exact h.near.conj, h.lo, h.c0, h.c1⟩

/-! ### Sums of reals -/
theorem scale_mul (r : Rat) (a : Cx) : Cx.scale r a = (⟨r, 0⟩ : Cx).mul a := Cx.eq (by unfold Cx.scale Cx.mul; simp only; grind) (by unfold Cx.scale Cx.mul; simp only; grind)
theorem dft_evenodd (z : Cx) (m : Nat) (y : Nat → Cx) (j : Nat) : dft z (2 * m) y j = (dft (z.pow 2) m (fun i => y (2 * i)) j).add ((z.pow j).mul (dft (z.pow 2) m (fun i => y (2 * i + 1)) j)) := by
  unfold dft
  rw [sumC_pairs, ← sumC_mul]
  congr 1
  · refine sumC_congr fun i _ => ?_
    rw [← Cx.pow_mul, ← Nat.mul_assoc]
  · refine sumC_congr fun i _ => ?_
    rw [← Cx.pow_mul, show (2 * i + 1) * j = j + 2 * (i * j) from by rw [Nat.add_mul, Nat.one_mul, Nat.mul_assoc]; omega, Cx.pow_add]
    generalize z.pow j = p
    generalize z.pow (2 * (i * j)) = q
    rw [← Cx.mul_assoc, Cx.mul_comm (y _) p, Cx.mul_assoc]
/-- The halves of a sum and of a difference of transforms. -/
theorem dft_half_sum (z : Cx) (m : Nat) (y : Nat → Cx) (j : Nat) : Cx.scale (1/2) ((dft z m y j).add (dft z m (fun i => (y i).conj) j)) = dft z m (fun i => ⟨(y i).re, 0⟩) j := by
  unfold dft
  rw [← sumC_add, scale_mul, ← sumC_mul]
  refine sumC_congr fun i _ => ?_
  generalize z.pow (i * j) = p
  exact Cx.eq (by unfold Cx.mul Cx.add Cx.conj; simp only; grind) (by unfold Cx.mul Cx.add Cx.conj; simp only; grind)
theorem dft_half_diff (z : Cx) (m : Nat) (y : Nat → Cx) (j : Nat) : mI.mul (Cx.scale (1/2) ((dft z m y j).sub (dft z m (fun i => (y i).conj) j))) = dft z m (fun i => ⟨(y i).im, 0⟩) j := by
  unfold dft
  rw [← sumC_sub, scale_mul, ← sumC_mul, ← sumC_mul]
  refine sumC_congr fun i _ => ?_
  generalize z.pow (i * j) = p
  exact Cx.eq (by unfold mI Cx.mul Cx.sub Cx.conj; simp only; grind) (by unfold mI Cx.mul Cx.sub Cx.conj; simp only; grind)
/-- Even and odd parts joined again. -/
theorem dft_join (z : Cx) (m : Nat) (y : Nat → Cx) (j : Nat) : (dft z m (fun i => ⟨(y i).re, 0⟩) j).sub (mI.mul (dft z m (fun i => ⟨(y i).im, 0⟩) j)) = dft z m y j := by
  unfold dft
  rw [← sumC_mul, ← sumC_sub]
  refine sumC_congr fun i _ => ?_
  generalize z.pow (i * j) = p
  exact Cx.eq (by unfold mI Cx.mul Cx.sub; simp only; grind) (by unfold mI Cx.mul Cx.sub; simp only; grind)
/-- Sums over near roots. -/
theorem sum_diff {m : Nat} {y p q : Nat → Cx} {L d : Rat} (hy : ∀ i, i < m → Len (y i) L) (h : ∀ i, i < m → Len ((p i).sub (q i)) d) : Len ((sumC m fun i => (y i).mul (p i)).sub (sumC m fun i => (y i).mul (q i))) ((m : Rat) * (L * d)) := by
  rw [← sumC_sub]
  refine Len.sum_const fun i hi => ?_
  rw [← Cx.mul_sub]
  exact (hy i hi).mul (h i hi)

theorem tH_small {i : Nat} (hi : i ≤ 2048) : ((2 * i : Nat) : Rat) * tH ≤ EE := by
  have q1 : ((2 * i : Nat) : Rat) ≤ ((4096 : Nat) : Rat) := Rat.natCast_le_natCast.2 (by omega)
  have q2 := Rat.mul_le_mul_of_nonneg_right q1 (show 0 ≤ tH from p2_nonneg _)
  have q3 : ((4096 : Nat) : Rat) * tH ≤ EE := by unfold tH EE; decide +kernel
  exact Rat.le_trans q2 q3

section
variable {w : Cx} {m : Nat} (hw : w.nsq = 1) (hth : Len ((w.pow m).add .one) tH)
include hw hth
theorem round_two (i : Nat) : Len ((w.pow (2 * (i * m))).sub .one) (((2 * i : Nat) : Rat) * tH) := by
  have a := pow_sgn (Cx.nsq_pow hw m) hth (2 * i)
  rw [show sgnC (2 * i) = .one from by unfold sgnC; rw [if_pos (by omega)], ← Cx.pow_mul] at a
  rw [show 2 * (i * m) = m * (2 * i) from by rw [Nat.mul_comm i m, Nat.mul_left_comm]]
  exact a
/-- The index of p. -/
theorem dft_mod {y : Nat → Cx} {L : Rat} (hm : m ≤ 1024) (hm0 : 0 < m) (hy : ∀ i, i < m → Len (y i) L) (kk : Nat) (hk : kk ≤ m) : Len ((dft (w.pow 2) m y (kk % m)).sub (dft (w.pow 2) m y kk)) ((m : Rat) * (L * EE)) := by
  unfold dft
  refine sum_diff hy fun i hi => ?_
  rcases Nat.lt_or_ge kk m with h | h
  · rw [Nat.mod_eq_of_lt h]
    exact (Len.self _).mono (Rat.le_of_lt EE_pos)
  · have e : kk = m := by omega
    subst e
    rw [Nat.mod_self, Nat.mul_zero, ← Cx.pow_mul, ← Cx.pow_mul, Nat.mul_zero]
    have a := round_two hw hth i
    have b : Len (Cx.one.sub (w.pow (2 * (i * kk)))) (((2 * i : Nat) : Rat) * tH) := ⟨a.1, by rw [Cx.nsq_sub_comm]; exact a.2⟩
    exact b.mono (tH_small (by omega))
/-- The index of q. -/
theorem dft_conj {y : Nat → Cx} {L : Rat} (hm : m ≤ 1024) (hm0 : 0 < m) (hy : ∀ i, i < m → Len (y i) L) (kk : Nat) (hk : kk ≤ m) : Len ((dft (w.pow 2) m y ((m - kk) % m)).conj.sub (dft (w.pow 2) m (fun i => (y i).conj) kk)) ((m : Rat) * (L * EE)) := by
  have e1 : (dft (w.pow 2) m y ((m - kk) % m)).conj = sumC m fun i => (y i).conj.mul ((w.pow 2).pow (i * ((m - kk) % m))).conj := by
    unfold dft
    have : ∀ n, (sumC n fun i => (y i).mul ((w.pow 2).pow (i * ((m - kk) % m)))).conj = sumC n fun i => (y i).conj.mul ((w.pow 2).pow (i * ((m - kk) % m))).conj := by
      intro n
      induction n with
      | zero => exact Cx.eq rfl (by show -(0 : Rat) = 0; grind)
      | succ n ih => rw [sumC_succ, sumC_succ, Cx.conj_add, ih, Cx.conj_mul]
    exact this m
  rw [e1]
  unfold dft
  refine sum_diff (fun i hi => (hy i hi).conj) fun i hi => ?_
  rw [← Cx.pow_mul, ← Cx.pow_mul]
  obtain ⟨a, ha⟩ : ∃ a, a = (m - kk) % m := ⟨_, rfl⟩
  rw [← ha]
  -- conj w^(2ia) - w^(2ik) = conj w^(2ia) (1 - w^(2i(a+k)))
  have e2 : (w.pow (2 * (i * a))).conj.sub (w.pow (2 * (i * kk))) = (w.pow (2 * (i * a))).conj.mul (Cx.one.sub (w.pow (2 * (i * (a + kk))))) := by
    have hu := Cx.mul_conj_self (Cx.nsq_pow hw (2 * (i * a)))
    rw [Cx.mul_sub, Cx.mul_one, show 2 * (i * (a + kk)) = 2 * (i * a) + 2 * (i * kk) from by rw [Nat.mul_add i, Nat.mul_add 2], Cx.pow_add, ← Cx.mul_assoc, Cx.mul_comm _ (w.pow (2 * (i * a))), hu, Cx.one_mul]
  rw [e2]
  have hc : (w.pow (2 * (i * a))).conj.nsq = 1 := by rw [Cx.nsq_conj]; exact Cx.nsq_pow hw _
  have fin : Len (Cx.one.sub (w.pow (2 * (i * (a + kk))))) EE := by
    have hcase : a + kk = 0 ∨ a + kk = m := by
      rcases Nat.eq_zero_or_pos kk with h | h
      · left; rw [ha, h, Nat.sub_zero, Nat.mod_self]
      · right
        rw [ha, Nat.mod_eq_of_lt (by omega)]; omega
    rcases hcase with h | h
    · rw [h, Nat.mul_zero, Nat.mul_zero]
      exact (Len.self Cx.one).mono (Rat.le_of_lt EE_pos)
    · rw [h]
      have b := round_two hw hth i
      have b' : Len (Cx.one.sub (w.pow (2 * (i * m)))) (((2 * i : Nat) : Rat) * tH) := ⟨b.1, by rw [Cx.nsq_sub_comm]; exact b.2⟩
      exact b'.mono (tH_small (by omega))
  have := (Len.unit hc).mul fin
  rw [Rat.one_mul] at this; exact this
/-- The transform of reals at m - k, conjugate. -/
theorem dft_real_conj {y : Nat → Cx} {L : Rat} (hm : m ≤ 1024) (hy : ∀ i, i < 2 * m → Len (y i) L) (hr : ∀ i, (y i).im = 0) (kk : Nat) (hk : kk ≤ m) :
    Len ((dft w (2 * m) y (m - kk)).conj.sub ((dft (w.pow 2) m (fun i => y (2 * i)) kk).sub ((w.pow kk).mul (dft (w.pow 2) m (fun i => y (2 * i + 1)) kk)))) (((2 * m : Nat) : Rat) * (L * EE)) := by
  have e0 : (dft (w.pow 2) m (fun i => y (2 * i)) kk).sub ((w.pow kk).mul (dft (w.pow 2) m (fun i => y (2 * i + 1)) kk)) = sumC (2 * m) fun i => (y i).mul ((sgnC i).mul (w.pow (i * kk))) := by
    unfold dft
    rw [sumC_pairs, ← sumC_mul]
    have ee : (sumC m fun i => (w.pow kk).mul ((y (2 * i + 1)).mul ((w.pow 2).pow (i * kk)))) = (sumC m fun i => (⟨-1, 0⟩ : Cx).mul ((y (2 * i + 1)).mul ((sgnC (2 * i + 1)).mul (w.pow ((2 * i + 1) * kk))))) := by
      refine sumC_congr fun i _ => ?_
      rw [show sgnC (2 * i + 1) = Cx.one.neg from by unfold sgnC; rw [if_neg (by omega)], ← Cx.pow_mul, show (2 * i + 1) * kk = kk + 2 * (i * kk) from by rw [Nat.add_mul, Nat.one_mul, Nat.mul_assoc]; omega, Cx.pow_add]
      generalize w.pow kk = p
      generalize w.pow (2 * (i * kk)) = q
      generalize y (2 * i + 1) = r
      exact Cx.eq (by unfold Cx.neg Cx.one Cx.mul; simp only; grind) (by unfold Cx.neg Cx.one Cx.mul; simp only; grind)
    rw [ee, sumC_mul]
    have e2 : (sumC m fun i => (y (2 * i)).mul ((w.pow 2).pow (i * kk))) = (sumC m fun i => (y (2 * i)).mul ((sgnC (2 * i)).mul (w.pow (2 * i * kk)))) := by
      refine sumC_congr fun i _ => ?_
      rw [show sgnC (2 * i) = .one from by unfold sgnC; rw [if_pos (by omega)], ← Cx.pow_mul, Cx.one_mul, Nat.mul_assoc]
    rw [e2]
    generalize (sumC m fun i => (y (2 * i)).mul ((sgnC (2 * i)).mul (w.pow (2 * i * kk)))) = A
    generalize (sumC m fun i => (y (2 * i + 1)).mul ((sgnC (2 * i + 1)).mul (w.pow ((2 * i + 1) * kk)))) = B
    exact Cx.eq (by unfold Cx.sub Cx.add Cx.mul; simp only; grind) (by unfold Cx.sub Cx.add Cx.mul; simp only; grind)
  have e1 : (dft w (2 * m) y (m - kk)).conj = sumC (2 * m) fun i => (y i).mul (w.pow (i * (m - kk))).conj := by
    unfold dft
    have : ∀ n, (sumC n fun i => (y i).mul (w.pow (i * (m - kk)))).conj = sumC n fun i => (y i).mul (w.pow (i * (m - kk))).conj := by
      intro n
      induction n with
      | zero => exact Cx.eq rfl (by show -(0 : Rat) = 0; grind)
      | succ n ih =>
        rw [sumC_succ, sumC_succ, Cx.conj_add, ih, Cx.conj_mul]
        congr 2
        exact Cx.eq rfl (by show -(y n).im = (y n).im; rw [hr n]; grind)
    exact this (2 * m)
  rw [e0, e1]
  refine sum_diff hy fun i hi => ?_
  have e2 : (w.pow (i * (m - kk))).conj.sub ((sgnC i).mul (w.pow (i * kk))) = (w.pow (i * (m - kk))).conj.mul (Cx.one.sub ((sgnC i).mul (w.pow (i * m)))) := by
    have hu := Cx.mul_conj_self (Cx.nsq_pow hw (i * (m - kk)))
    rw [show i * m = i * (m - kk) + i * kk from by rw [← Nat.mul_add]; congr 1; omega, Cx.pow_add]
    generalize w.pow (i * (m - kk)) = p at *
    generalize w.pow (i * kk) = q
    generalize sgnC i = s
    rw [Cx.mul_sub, Cx.mul_one]
    congr 1
    rw [← Cx.mul_assoc, Cx.mul_comm p.conj s, Cx.mul_assoc, ← Cx.mul_assoc p.conj p q, Cx.mul_comm p.conj p, hu, Cx.one_mul]
  rw [e2]
  have hc : (w.pow (i * (m - kk))).conj.nsq = 1 := by rw [Cx.nsq_conj]; exact Cx.nsq_pow hw _
  have a := pow_sgn (Cx.nsq_pow hw m) hth i
  rw [← Cx.pow_mul, Nat.mul_comm m i] at a
  have ss : (sgnC i).mul (sgnC i) = .one := by
    unfold sgnC
    split
    · exact Cx.mul_one _
    · exact Cx.eq (by unfold Cx.neg Cx.one Cx.mul; simp only; grind) (by unfold Cx.neg Cx.one Cx.mul; simp only; grind)
  have b := (Len.unit (sgnC_nsq i)).mul a
  rw [Cx.mul_sub, ss] at b
  have b' : Len (Cx.one.sub ((sgnC i).mul (w.pow (i * m)))) (1 * ((i : Rat) * tH)) := ⟨b.1, by rw [Cx.nsq_sub_comm]; exact b.2⟩
  have := (Len.unit hc).mul b'
  refine this.mono ?_
  have q0 : ((i : Nat) : Rat) ≤ ((2 * i : Nat) : Rat) := Rat.natCast_le_natCast.2 (by omega)
  have q1 := Rat.mul_le_mul_of_nonneg_right q0 hth.1
  have q2 := tH_small (i := i) (by omega)
  grind
end

/-! ### The points -/
/-- What ForwardReal makes of p, q and the root. -/
def rfF (P Q T : Nat × Nat) : Nat × Nat := cadd (chalf (cadd P (cconj Q))) (cmul (cturn (chalf (csub P (cconj Q)))) T)
/-- What InverseReal makes of p, q and the root. -/
def riF (P Q T : Nat × Nat) : Nat × Nat := csub (chalf (cadd P (cconj Q))) (cturn (cmul (chalf (csub P (cconj Q))) (cconj T)))
theorem zeK_two (k : Nat) (h1 : 1 ≤ k) (h2 : k ≤ 11) : (zeK k).pow 2 = zeK (k - 1) := by
  unfold zeK
  rw [← Cx.pow_mul, ← Nat.pow_succ]
  congr 2; omega
def rxC (f : Nat → Nat) (i : Nat) : Cx := ⟨V (f i), 0⟩
def zxC (f : Nat → Nat) (j : Nat) : Cx := ⟨V (f (2 * j)), V (f (2 * j + 1))⟩

theorem rf_ap {k m kk : Nat} {f : Nat → Nat} {P Q T : Nat × Nat} {L c : Rat} {e : Int} (hk1 : 1 ≤ k) (hk : k ≤ 11) (hm : m = 2 ^ (k - 1)) (hkk : kk ≤ m) (h0 : 0 ≤ e) (h1 : e ≤ 800) (hc : c ≤ 500) (hz : ∀ j, j < m → Len (zxC f j) L)
    (hP : Ap e P (dft (zeK (k - 1)) m (zxC f) (kk % m)) ((m : Rat) * L) c) (hQ : Ap e Q (dft (zeK (k - 1)) m (zxC f) ((m - kk) % m)) ((m : Rat) * L) c) (bT : Bd 1 T) (rT : Len ((cv T).sub ((zeK k).pow kk)) (5 * EE)) :
    Ap (e + 8) (rfF P Q T) (dft (zeK k) (2 * m) (rxC f) kk) (2 * ((m : Rat) * L)) (c + 25) := by
  have hth := zeK_half k hk1 hk
  rw [← hm] at hth
  have hu := zeK_unit k
  have hm0 : 0 < m := by rw [hm]; exact Nat.two_pow_pos _
  have hmb : m ≤ 1024 := by rw [hm]; exact Nat.pow_le_pow_right (n := 2) (by decide) (show k - 1 ≤ 10 by omega)
  rw [← zeK_two k hk1 hk] at hP hQ
  have hu2 : ((zeK k).pow 2).nsq = 1 := Cx.nsq_pow hu 2
  have hzl : ∀ kk, Len (dft ((zeK k).pow 2) m (zxC f) kk) ((m : Rat) * L) := fun kk => dft_len hu2 hz kk
  have hzc : Len (dft ((zeK k).pow 2) m (fun i => (zxC f i).conj) kk) ((m : Rat) * L) := dft_len hu2 (fun i hi => (hz i hi).conj) kk
  have ap := hP.other (d := 1) (hzl kk) ((dft_mod hu hth hmb hm0 hz kk hkk).mono (by grind)) (by decide) (by grind)
  have aq := hQ.conj.other (d := 1) hzc ((dft_conj hu hth hmb hm0 hz kk hkk).mono (by grind)) (by decide) (by grind)
  have hlo := hP.lo
  have s := ap.add aq (q := c + 5) h0 (by omega) (by grind) (by grind)
  have d := ap.sub aq (q := c + 5) h0 (by omega) (by grind) (by grind)
  have ev := s.halved (by omega) (by omega) hlo (by grind)
  have od := (d.halved (by omega) (by omega) hlo (by grind)).turn
  rw [dft_half_sum] at ev
  rw [dft_half_diff] at od
  have mo := od.mul (by omega) (by omega) bT (Cx.nsq_pow hu kk) rT (by grind)
  have ev' := ev.mono (show e + 2 ≤ e + 2 + 4 by omega) Rat.le_refl ev.c1
  have r := ev'.add mo (q := c + 25) (by omega) (by omega) (by grind) (by grind)
  have e1 : dft (zeK k) (2 * m) (rxC f) kk = (dft ((zeK k).pow 2) m (fun i => ⟨(zxC f i).re, 0⟩) kk).add (((zeK k).pow kk).mul (dft ((zeK k).pow 2) m (fun i => ⟨(zxC f i).im, 0⟩) kk)) := dft_evenodd (zeK k) m (rxC f) kk
  rw [e1]
  exact r.mono (by omega) Rat.le_refl r.c1

theorem ri_ap {k m kk : Nat} {f : Nat → Nat} {P Q T : Nat × Nat} {L c : Rat} {e : Int} (hk1 : 1 ≤ k) (hk : k ≤ 11) (hm : m = 2 ^ (k - 1)) (hkk : kk ≤ m) (h0 : 0 ≤ e) (h1 : e ≤ 800) (hc : c ≤ 500) (hx : ∀ i, i < 2 * m → Len (rxC f i) L)
    (hP : Ap e P (dft (zeK k) (2 * m) (rxC f) kk) (2 * ((m : Rat) * L)) c) (hQ : Ap e Q (dft (zeK k) (2 * m) (rxC f) (m - kk)) (2 * ((m : Rat) * L)) c) (bT : Bd 1 T) (rT : Len ((cv T).sub ((zeK k).pow kk)) (5 * EE)) :
    Ap (e + 8) (riF P Q T) (dft (zeK (k - 1)) m (zxC f) kk) (2 * (2 * ((m : Rat) * L))) (c + 25) := by
  have hth := zeK_half k hk1 hk
  rw [← hm] at hth
  have hu := zeK_unit k
  have hmb : m ≤ 1024 := by rw [hm]; exact Nat.pow_le_pow_right (n := 2) (by decide) (show k - 1 ≤ 10 by omega)
  have hu2 : ((zeK k).pow 2).nsq = 1 := Cx.nsq_pow hu 2
  rw [← zeK_two k hk1 hk]
  have hlo := hP.lo
  -- the two halves of the transform
  obtain ⟨E, hE⟩ : ∃ E, E = dft ((zeK k).pow 2) m (fun i => rxC f (2 * i)) kk := ⟨_, rfl⟩
  obtain ⟨O, hO⟩ : ∃ O, O = dft ((zeK k).pow 2) m (fun i => rxC f (2 * i + 1)) kk := ⟨_, rfl⟩
  have lE : Len E ((m : Rat) * L) := by rw [hE]; exact dft_len hu2 (fun i hi => hx _ (by omega)) kk
  have lO : Len O ((m : Rat) * L) := by rw [hO]; exact dft_len hu2 (fun i hi => hx _ (by omega)) kk
  have eP : dft (zeK k) (2 * m) (rxC f) kk = E.add (((zeK k).pow kk).mul O) := by rw [hE, hO]; exact dft_evenodd (zeK k) m (rxC f) kk
  have cQ := dft_real_conj hu hth hmb hx (fun i => rfl) kk hkk
  rw [← hE, ← hO] at cQ
  rw [eP] at hP
  generalize hW : (zeK k).pow kk = W at *
  have uW : W.nsq = 1 := by rw [← hW]; exact Cx.nsq_pow hu kk
  have lWO := (Len.unit uW).mul lO
  have aq := hQ.conj.other (id' := E.sub (W.mul O)) (d := 1) ((lE.sub lWO).mono (by grind)) (cQ.mono (by rw [Rat.natCast_mul, show ((2 : Nat) : Rat) = 2 from rfl]; grind)) (by decide) (by grind)
  have s := hP.add aq (q := c + 5) h0 (by omega) (by grind) (by grind)
  have d := hP.sub aq (q := c + 5) h0 (by omega) (by grind) (by grind)
  have ev := s.halved (by omega) (by omega) hlo (by grind)
  have od := d.halved (by omega) (by omega) hlo (by grind)
  have e1 : Cx.scale (1/2) ((E.add (W.mul O)).add (E.sub (W.mul O))) = E := Cx.eq (by unfold Cx.scale Cx.add Cx.sub; simp only; grind) (by unfold Cx.scale Cx.add Cx.sub; simp only; grind)
  have e2 : Cx.scale (1/2) ((E.add (W.mul O)).sub (E.sub (W.mul O))) = W.mul O := Cx.eq (by unfold Cx.scale Cx.add Cx.sub; simp only; grind) (by unfold Cx.scale Cx.add Cx.sub; simp only; grind)
  rw [e1] at ev
  rw [e2] at od
  have ucW : W.conj.nsq = 1 := by rw [Cx.nsq_conj]; exact uW
  have rC : Len ((cv (cconj T)).sub W.conj) (5 * EE) := by rw [cv_conjN bT.nm, ← Cx.conj_sub]; exact rT.conj
  have mo := od.mul (by omega) (by omega) bT.conj ucW rC (by grind)
  have e3 : W.conj.mul (W.mul O) = O := by rw [← Cx.mul_assoc, Cx.mul_comm W.conj W, Cx.mul_conj_self uW, Cx.one_mul]
  rw [e3] at mo
  have ev' := ev.mono (show e + 2 ≤ e + 2 + 4 by omega) Rat.le_refl ev.c1
  have r := ev'.sub mo.turn (q := c + 25) (by omega) (by omega) (by grind) (by grind)
  have e4 : dft ((zeK k).pow 2) m (zxC f) kk = E.sub (mI.mul O) := by rw [hE, hO]; exact (dft_join ((zeK k).pow 2) m (zxC f) kk).symm
  rw [e4]
  exact r.mono (by omega) Rat.le_refl r.c1
end Go.Proofs.Ygctaf
