/-
  A CONVOLUTION BY TRANSFORMS: the error.
-/
import Derived.Test.YgctafCv2
namespace Go.Proofs.Ygctaf
open Ieee

theorem prod_num {t P L Lc : Rat} (ht0 : 0 ≤ t) (ht : t ≤ 1) (hP : 1 ≤ P) (hL : 0 ≤ L) (hLc : 0 ≤ Lc) : t * L * (t * Lc + P * Lc) + P * L * (t * Lc) ≤ 3 * (t * (P * (L * Lc))) := by
  have hM := Rat.mul_nonneg hL hLc
  have a := Rat.mul_le_mul_of_nonneg_right (Rat.le_trans ht hP) (Rat.mul_nonneg ht0 hM)
  generalize hm : L * Lc = M at *
  have e : t * L * (t * Lc + P * Lc) + P * L * (t * Lc) = t * (t * M) + 2 * (P * (t * M)) := by rw [← hm]; grind
  rw [e]
  grind
/-- The products' transforms. -/
theorem prod_dft {k : Nat} {f g : Nat → Nat × Nat} {e1 e2 : Int} {L Lc : Rat} (tf : Tr k f L) (tg : Tr k g Lc) (he : 0 ≤ e1 + e2) (he2 : e1 + e2 ≤ 990) (hL : p2 (-400) ≤ L) (hLc : p2 (-400) ≤ Lc)
    (bf : ∀ i, i < 2 ^ k → Bd e1 (fwdF k (tabF k) f i)) (bg : ∀ i, i < 2 ^ k → Bd e2 (fwdF k (tabF k) g i)) (l : Nat) :
    Len ((dft (zeK k).conj (2 ^ k) (fun i => cv (prW k f g i)) l).sub (dft (zeK k).conj (2 ^ k) (fun i => (dft (zeK k) (2 ^ k) (fun i => cv (f i)) i).mul (dft (zeK k) (2 ^ k) (fun i => cv (g i)) i)) l))
      (p2 k * (26/10 * (EE * (p2 k * L * (p2 k * Lc)))) + 3 * (p2 (-44) * (p2 k * L * (p2 k * Lc)))) := by
  have hzc : (zeK k).conj.nsq = 1 := by rw [Cx.nsq_conj]; exact zeK_unit k
  have hL0 : 0 < L := by have := p2_pos (-400); grind
  have hLc0 : 0 < Lc := by have := p2_pos (-400); grind
  have hp := p2_pos (k : Int)
  have hpL := Rat.mul_pos hp hL0
  have hpLc := Rat.mul_pos hp hLc0
  have hd := p2_pos (-44)
  obtain ⟨z, hz⟩ : ∃ z, z = (zeK k).conj := ⟨_, rfl⟩
  rw [← hz] at hzc ⊢
  obtain ⟨FY, hFY⟩ : ∃ F : Nat → Cx, F = fun i => cv (fwdF k (tabF k) f i) := ⟨_, rfl⟩
  obtain ⟨FC, hFC⟩ : ∃ F : Nat → Cx, F = fun i => cv (fwdF k (tabF k) g i) := ⟨_, rfl⟩
  obtain ⟨Yp, hYp⟩ : ∃ F : Nat → Cx, F = pip (fun m => (zeK k).pow m) k 1 (fun i => cv (f i)) := ⟨_, rfl⟩
  obtain ⟨Cp, hCp⟩ : ∃ F : Nat → Cx, F = pip (fun m => (zeK k).pow m) k 1 (fun i => cv (g i)) := ⟨_, rfl⟩
  obtain ⟨Y, hY⟩ : ∃ F : Nat → Cx, F = dft (zeK k) (2 ^ k) (fun i => cv (f i)) := ⟨_, rfl⟩
  obtain ⟨C, hC⟩ : ∃ F : Nat → Cx, F = dft (zeK k) (2 ^ k) (fun i => cv (g i)) := ⟨_, rfl⟩
  have w := pr_words tf tg he he2 hL hLc bf bg
  have d1 : S2 (2 ^ k) (fun j => (FY j).sub (Yp j)) ≤ p2 (-44) * (p2 k * L) * (p2 (-44) * (p2 k * L)) := by rw [hFY, hYp]; exact tf.d
  have d2 : S2 (2 ^ k) (fun j => (FC j).sub (Cp j)) ≤ p2 (-44) * (p2 k * Lc) * (p2 (-44) * (p2 k * Lc)) := by rw [hFC, hCp]; exact tg.d
  have s1 : S2 (2 ^ k) Yp ≤ p2 k * L * (p2 k * L) := by rw [hYp]; exact tf.p
  have s2 : S2 (2 ^ k) FC ≤ 3/2 * (p2 k * Lc) * (3/2 * (p2 k * Lc)) := by
    rw [hFC]
    refine Rat.le_trans tg.e ?_
    have := sq_nonneg (p2 k * Lc)
    generalize p2 k * Lc = x at *
    grind
  have t1 : ∀ j, j < 2 ^ k → Len ((Yp j).sub (Y j)) (p2 (-180) * L) := fun j hj => by rw [hYp, hY]; exact tf.t j hj
  have t2 : ∀ j, j < 2 ^ k → Len ((Cp j).sub (C j)) (p2 (-180) * Lc) := fun j hj => by rw [hCp, hC]; exact tg.t j hj
  have y1 : ∀ j, j < 2 ^ k → Len (Y j) (p2 k * L) := fun j hj => by rw [hY]; exact tf.y j hj
  have y2 : ∀ j, j < 2 ^ k → Len (C j) (p2 k * Lc) := fun j hj => by rw [hC]; exact tg.y j hj
  rw [← hY, ← hC]
  have w2 : ∀ i, i < 2 ^ k → Len ((cv (prW k f g i)).sub ((FY i).mul (FC i))) (26/10 * (EE * (p2 k * L * (p2 k * Lc)))) := fun i hi => by rw [hFY, hFC]; exact w i hi
  clear w tf tg bf bg hFY hFC hYp hCp hY hC
  -- the steps
  have q1 : Len ((dft z (2 ^ k) (fun i => cv (prW k f g i)) l).sub (dft z (2 ^ k) (fun i => (FY i).mul (FC i)) l)) (p2 k * (26/10 * (EE * (p2 k * L * (p2 k * Lc))))) := by
    rw [dft_diff, p2_nat]
    have := dft_len hzc w2 l
    rw [← p2_nat] at this ⊢
    exact this
  have q2 : Len ((dft z (2 ^ k) (fun i => (FY i).mul (FC i)) l).sub (dft z (2 ^ k) (fun i => (Yp i).mul (FC i)) l)) (p2 (-44) * (p2 k * L) * (3/2 * (p2 k * Lc))) := by
    rw [dft_diff]
    have := dft_cs hzc (Rat.mul_pos hd hpL) (show 0 < 3/2 * (p2 k * Lc) by grind) d1 s2 l
    rw [dft_congr (y := fun i => ((FY i).sub (Yp i)).mul (FC i)) (fun i _ => (Cx.sub_mul _ _ _).symm)]
    exact this
  have q3 : Len ((dft z (2 ^ k) (fun i => (Yp i).mul (FC i)) l).sub (dft z (2 ^ k) (fun i => (Yp i).mul (Cp i)) l)) (p2 k * L * (p2 (-44) * (p2 k * Lc))) := by
    rw [dft_diff]
    have := dft_cs hzc hpL (Rat.mul_pos hd hpLc) s1 d2 l
    rw [dft_congr (y := fun i => (Yp i).mul ((FC i).sub (Cp i))) (fun i _ => (Cx.mul_sub _ _ _).symm)]
    exact this
  have q4 : Len ((dft z (2 ^ k) (fun i => (Yp i).mul (Cp i)) l).sub (dft z (2 ^ k) (fun i => (Y i).mul (C i)) l)) (p2 k * (3 * (p2 (-180) * (p2 k * (L * Lc))))) := by
    rw [dft_diff, p2_nat]
    have := dft_len (y := fun i => ((Yp i).mul (Cp i)).sub ((Y i).mul (C i))) (L := 3 * (p2 (-180) * (p2 k * (L * Lc)))) hzc (fun i hi => by
      have a := (t1 i hi).mul ((t2 i hi).of_sub (y2 i hi))
      have b := (y1 i hi).mul (t2 i hi)
      have e : (((Yp i).sub (Y i)).mul (Cp i)).add ((Y i).mul ((Cp i).sub (C i))) = ((Yp i).mul (Cp i)).sub ((Y i).mul (C i)) :=
        Cx.eq (by unfold Cx.add Cx.sub Cx.mul; simp only; grind) (by unfold Cx.add Cx.sub Cx.mul; simp only; grind)
      have s := a.add b
      rw [e] at s
      exact s.mono (prod_num (p2_nonneg _) (by decide +kernel) (p2_nat_ge k) (Rat.le_of_lt hL0) (Rat.le_of_lt hLc0))) l
    rw [← p2_nat] at this ⊢
    exact this
  refine (((q1.tri q2).tri q3).tri q4).mono ?_
  have c1 : 3 * p2 (-180) ≤ 1/2 * p2 (-44) := by decide +kernel
  have hM := Rat.mul_nonneg (Rat.le_of_lt hpL) (Rat.le_of_lt hpLc)
  have c2 := Rat.mul_le_mul_of_nonneg_right c1 hM
  have e1 : p2 k * (3 * (p2 (-180) * (p2 k * (L * Lc)))) = 3 * p2 (-180) * (p2 k * L * (p2 k * Lc)) := by grind
  rw [e1]
  generalize p2 k * (26/10 * (EE * (p2 k * L * (p2 k * Lc)))) = u at *
  generalize 3 * p2 (-180) * (p2 k * L * (p2 k * Lc)) = v at *
  generalize p2 k * L = x at *
  generalize p2 k * Lc = y at *
  grind
end Go.Proofs.Ygctaf
