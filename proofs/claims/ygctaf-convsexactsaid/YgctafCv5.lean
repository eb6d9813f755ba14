/-
  A CONVOLUTION BY TRANSFORMS: the whole error.
-/
import Derived.Test.YgctafCv4
namespace Go.Proofs.Ygctaf
open Ieee

theorem conv_err {k : Nat} {f g : Nat → Nat × Nat} {e1 e2 eW : Int} {L Lc : Rat} (hk1 : 1 ≤ k) (hk : k ≤ 11) (tf : Tr k f L) (tg : Tr k g Lc) (he : 0 ≤ e1 + e2) (he2 : e1 + e2 ≤ 990) (hL : p2 (-400) ≤ L) (hLc : p2 (-400) ≤ Lc)
    (hf : ∀ i, i < 2 ^ k → Len (cv (f i)) L) (hg : ∀ i, i < 2 ^ k → Len (cv (g i)) Lc)
    (bf : ∀ i, i < 2 ^ k → Bd e1 (fwdF k (tabF k) f i)) (bg : ∀ i, i < 2 ^ k → Bd e2 (fwdF k (tabF k) g i)) (hw0 : 0 ≤ eW) (hw1 : eW ≤ 800) (bw : ∀ i, i < 2 ^ k → Bd eW (prW k f g i)) (l : Nat) (hl : l < 2 ^ k) :
    Len ((cv (invF k (tabF k) (prW k f g) l)).sub (circ (2 ^ k) (fun i => cv (f i)) (fun i => cv (g i)) l)) (3/2 * p2 (-27) * (L * Lc)) := by
  have hzc : (zeK k).conj.nsq = 1 := by rw [Cx.nsq_conj]; exact zeK_unit k
  have hkk : k - 1 + 1 = k := by omega
  have t0 := p2_nonneg (-800)
  have hM := tiny_of hL hLc
  have hM0 := Rat.le_trans t0 hM
  have hP := p2_nat_ge k
  have hp0 := p2_nonneg (k : Int)
  have hPn : p2 k ≤ 2048 := by
    have := p2_le (i := (k : Int)) (j := 11) (by omega)
    have e : p2 11 = 2048 := by decide +kernel
    rw [e] at this; exact this
  have q1 := inv_pass hk1 hk tf tg he he2 hL hLc bf bg hw0 hw1 bw l hl
  have lw : ∀ i, i < 2 ^ k → Len (cv (prW k f g i)) (11/10 * (p2 k * L * (p2 k * Lc))) := fun i hi => by
    refine ((pr_words tf tg he he2 hL hLc bf bg i hi).of_sub ((tf.s i hi).mul (tg.s i hi))).mono ?_
    have hX := Rat.le_trans t0 (sq_of (k := k) hL hLc)
    have a := Rat.mul_le_mul_of_nonneg_right (show EE ≤ 1/1000 by unfold EE; decide +kernel) hX
    generalize p2 k * L = x at *
    generalize p2 k * Lc = y at *
    grind
  have q2 : Len ((pip (fun m => (zeK k).conj.pow m) k 1 (fun i => cv (prW k f g i)) l).sub (dft (zeK k).conj (2 ^ k) (fun i => cv (prW k f g i)) l)) (p2 (-180) * (11/10 * (p2 k * L * (p2 k * Lc)))) := by
    have q := pip_dft hzc k (zeK_half_conj k hk1 hk) k 1 (fun i => cv (prW k f g i)) (Nat.le_refl _) (by rw [Nat.sub_self]) lw l hl
    rw [Cx.pow_one] at q
    refine q.mono ?_
    have c : (k : Rat) * (p2 k * (p2 k * tH)) ≤ p2 (-180) := by
      have h : ∀ k : Fin 12, (k.1 : Rat) * (p2 k.1 * (p2 k.1 * tH)) ≤ p2 (-180) := by unfold tH; decide +kernel
      exact h ⟨k, by omega⟩
    have := Rat.mul_le_mul_of_nonneg_right c (lw l hl).1
    grind
  have q3 := prod_dft tf tg he he2 hL hLc bf bg l
  have q4 : Len ((dft (zeK k).conj (2 ^ k) (fun i => (dft (zeK k) (2 ^ k) (fun i => cv (f i)) i).mul (dft (zeK k) (2 ^ k) (fun i => cv (g i)) i)) l).sub (dft (zeK k).conj (2 ^ k) (dft (zeK k) (2 ^ k) (circ (2 ^ k) (fun i => cv (f i)) (fun i => cv (g i)))) l)) (p2 k * (p2 k * (L * (p2 k * (Lc * (p2 k * (2 * tH))))))) := by
    have hd := dft_len (y := fun i => ((dft (zeK k) (2 ^ k) (fun i => cv (f i)) i).mul (dft (zeK k) (2 ^ k) (fun i => cv (g i)) i)).sub (dft (zeK k) (2 ^ k) (circ (2 ^ k) (fun i => cv (f i)) (fun i => cv (g i))) i)) hzc
      (fun i hi => (circ_dft (zeK_unit k) hi (zeK_round k hk1 hk) hf hg).flip) l
    rw [← p2_nat] at hd
    rw [dft_diff]
    exact hd
  have q5 := dft_back (k - 1) (zeK_unit k) (zeK_half k hk1 hk) (circ (2 ^ k) (fun i => cv (f i)) (fun i => cv (g i))) (L := p2 k * (L * Lc)) (by rw [hkk]; intro i hi; have := circ_len (l := i) hf hg; rw [← p2_nat] at this; exact this) l (by rw [hkk]; exact hl)
  rw [hkk] at q5
  have m := (((q1.tri q2).tri q3).tri q4).tri q5
  have hpp : p2 (-(k : Int)) * p2 k = 1 := by rw [← p2_add, Int.add_left_neg, p2_zero]
  have m2 := m.scale (p2_nonneg (-(k : Int)))
  have es : ∀ F c : Cx, Cx.scale (p2 (-(k : Int))) (F.sub (Cx.scale (p2 k) c)) = (Cx.scale (p2 (-(k : Int))) F).sub c := fun F c => by
    unfold Cx.scale Cx.sub
    refine Cx.eq ?_ ?_
    · show p2 (-(k : Int)) * (F.re - p2 k * c.re) = p2 (-(k : Int)) * F.re - c.re
      rw [show p2 (-(k : Int)) * (F.re - p2 k * c.re) = p2 (-(k : Int)) * F.re - (p2 (-(k : Int)) * p2 k) * c.re from by grind, hpp, Rat.one_mul]
    · show p2 (-(k : Int)) * (F.im - p2 k * c.im) = p2 (-(k : Int)) * F.im - c.im
      rw [show p2 (-(k : Int)) * (F.im - p2 k * c.im) = p2 (-(k : Int)) * F.im - (p2 (-(k : Int)) * p2 k) * c.im from by grind, hpp, Rat.one_mul]
  rw [es] at m2
  have e3 : p2 (-(k : Int)) * (p2 k * (kap * (L * Lc)) + p2 (-180) * (11/10 * (p2 k * L * (p2 k * Lc))) + (p2 k * (26/10 * (EE * (p2 k * L * (p2 k * Lc)))) + 3 * (p2 (-44) * (p2 k * L * (p2 k * Lc)))) + p2 k * (p2 k * (L * (p2 k * (Lc * (p2 k * (2 * tH)))))) + p2 k * (p2 k * (L * Lc) * (p2 k * (p2 k * tH)))) =
      (p2 (-(k : Int)) * p2 k) * (kap * (L * Lc) + p2 (-180) * (11/10) * (p2 k * (L * Lc)) + (26/10 * EE * (p2 k * p2 k * (L * Lc)) + 3 * p2 (-44) * (p2 k * (L * Lc))) + 2 * tH * (p2 k * p2 k * p2 k * (L * Lc)) + tH * (p2 k * p2 k * p2 k * (L * Lc))) := by
    generalize p2 (-(k : Int)) = a
    generalize p2 (k : Int) = b
    generalize p2 (-180) = c
    generalize p2 (-44) = d
    generalize kap = kk
    grind
  rw [e3, hpp, Rat.one_mul] at m2
  have num := fin_num (P := p2 k) (M := L * Lc) (E := EE) (d := p2 (-44)) (t := p2 (-180)) (h := tH) (q := p2 (-48)) hP hPn hM0 (Rat.le_of_lt EE_pos) (p2_nonneg _) (p2_nonneg _) (by unfold tH; exact p2_nonneg _) (by unfold kap EE tH; decide +kernel) (p2_nonneg _)
  have q0 := p2_nonneg (-48)
  -- the quotient's own rounding
  have cl := circ_len (l := l) hf hg
  rw [← p2_nat] at cl
  have g2 := m2.of_sub cl
  have hPM : L * Lc ≤ p2 k * (L * Lc) := by
    have := Rat.mul_le_mul_of_nonneg_right hP hM0
    grind
  have hqPM := Rat.mul_nonneg q0 (show 0 ≤ p2 k * (L * Lc) by grind)
  have hs : 3/2 * p2 (-27) ≤ 1 := by decide +kernel
  have hs2 := Rat.mul_le_mul_of_nonneg_right hs hM0
  have hbd : Bd (eW + 66) (fwdF k (fun i => cconj (tabF k i)) (prW k f g) l) :=
    fwdF_bd hk hw0 hw1 (h := 2 ^ (k - 1)) (.inr (by rw [← Nat.pow_succ']; congr 1; omega)) (fun i hi => Bd.conj (x := tabF k i) (tab_bd k (k - 1) i hk1 hk (by omega) hi)) bw l hl
  have g3 := divn_err (L := p2 k * (L * Lc)) hk (by omega) (by omega) hbd (Rat.le_trans (Rat.le_trans (p2_le (by decide)) hM) hPM) (g2.mono (by
    generalize p2 (-27) = pp at *
    generalize kap * (L * Lc) + p2 (-180) * (11/10) * (p2 k * (L * Lc)) + (26/10 * EE * (p2 k * p2 k * (L * Lc)) + 3 * p2 (-44) * (p2 k * (L * Lc))) + 2 * tH * (p2 k * p2 k * p2 k * (L * Lc)) + tH * (p2 k * p2 k * p2 k * (L * Lc)) = z at *
    generalize p2 k * (L * Lc) = y at *
    generalize p2 (-48) * y = x at *
    grind))
  exact (g3.tri m2).mono num
end Go.Proofs.Ygctaf
