/-
  A CONVOLUTION BY TRANSFORMS: the product's transform back.
-/
import Derived.Test.YgctafCv1
namespace Go.Proofs.Ygctaf
open Ieee

/-- The product of two transforms, in words. -/
def prW (k : Nat) (f g : Nat → Nat × Nat) (i : Nat) : Nat × Nat := cmul (fwdF k (tabF k) f i) (fwdF k (tabF k) g i)
theorem tiny_of {L Lc : Rat} (hL : p2 (-400) ≤ L) (hLc : p2 (-400) ≤ Lc) : p2 (-800) ≤ L * Lc := by
  have h0 := p2_nonneg (-400)
  have a := Rat.mul_le_mul_of_nonneg_left hLc h0
  have b := Rat.mul_le_mul_of_nonneg_right hL (Rat.le_trans h0 hLc)
  rw [← p2_add] at a
  exact Rat.le_trans a b
theorem sq_of {k : Nat} {L Lc : Rat} (hL : p2 (-400) ≤ L) (hLc : p2 (-400) ≤ Lc) : p2 (-800) ≤ p2 k * L * (p2 k * Lc) := by
  have h := tiny_of hL hLc
  have h1 := p2_nat_ge k
  have h0 := p2_nonneg (-800)
  have h2 : 1 ≤ p2 k * p2 k := by
    have := Rat.mul_le_mul_of_nonneg_left h1 (show 0 ≤ p2 k by grind)
    grind
  have := Rat.mul_le_mul_of_nonneg_right h2 (show 0 ≤ L * Lc by grind)
  rw [show p2 k * L * (p2 k * Lc) = p2 k * p2 k * (L * Lc) from by grind]
  grind
theorem pr_num {x y q E T : Rat} (hq : q = 5/2 * (E * (1001/1000 * x * (1001/1000 * y))) + 6 * T) (hT : 6 * T ≤ 1/100 * (E * (x * y))) (h0 : 0 ≤ E * (x * y)) : q ≤ 26/10 * (E * (x * y)) := by grind
theorem pr_words {k : Nat} {f g : Nat → Nat × Nat} {e1 e2 : Int} {L Lc : Rat} (tf : Tr k f L) (tg : Tr k g Lc) (he : 0 ≤ e1 + e2) (he2 : e1 + e2 ≤ 990) (hL : p2 (-400) ≤ L) (hLc : p2 (-400) ≤ Lc)
    (bf : ∀ i, i < 2 ^ k → Bd e1 (fwdF k (tabF k) f i)) (bg : ∀ i, i < 2 ^ k → Bd e2 (fwdF k (tabF k) g i)) (i : Nat) (hi : i < 2 ^ k) :
    Len ((cv (prW k f g i)).sub ((cv (fwdF k (tabF k) f i)).mul (cv (fwdF k (tabF k) g i)))) (26/10 * (EE * (p2 k * L * (p2 k * Lc)))) := by
  have m := mul_err2 (bf i hi) (bg i hi) he he2 (tf.s i hi) (tg.s i hi)
  have t := sq_of (k := k) hL hLc
  have h1 : 6 * TT ≤ 1/100 * (EE * p2 (-800)) := by unfold TT EE; decide +kernel
  have h2 := Rat.mul_le_mul_of_nonneg_left t (Rat.le_of_lt EE_pos)
  have h0 : 0 ≤ EE * (p2 k * L * (p2 k * Lc)) := Rat.mul_nonneg (Rat.le_of_lt EE_pos) (Rat.le_trans (p2_nonneg _) t)
  exact m.mono (pr_num rfl (by grind) h0)

theorem s2_num {a b c X E : Rat} (h : a ≤ 2 * b + 2 * c) (hb : b ≤ 2048 * (26/10 * (E * X) * (26/10 * (E * X)))) (hE0 : 0 ≤ E) (hE : E ≤ 1/1000000) (hc : c ≤ 40101/20000 * (X * X)) : a ≤ 402/100 * (X * X) := by
  have hX := sq_nonneg X
  have h1 : E * E ≤ 1/1000000 * (1/1000000) := by
    have a := Rat.mul_le_mul_of_nonneg_left hE hE0
    grind
  have h2 := Rat.mul_le_mul_of_nonneg_right h1 hX
  grind
theorem pr_s2 {k : Nat} {f g : Nat → Nat × Nat} {e1 e2 : Int} {L Lc : Rat} (hk : k ≤ 11) (tf : Tr k f L) (tg : Tr k g Lc) (he : 0 ≤ e1 + e2) (he2 : e1 + e2 ≤ 990) (hL : p2 (-400) ≤ L) (hLc : p2 (-400) ≤ Lc)
    (bf : ∀ i, i < 2 ^ k → Bd e1 (fwdF k (tabF k) f i)) (bg : ∀ i, i < 2 ^ k → Bd e2 (fwdF k (tabF k) g i)) :
    S2 (2 ^ k) (fun i => cv (prW k f g i)) ≤ 402/100 * (p2 k * L * (p2 k * Lc) * (p2 k * L * (p2 k * Lc))) := by
  have a := S2_add_le (2 ^ k) (fun i => (cv (prW k f g i)).sub ((cv (fwdF k (tabF k) f i)).mul (cv (fwdF k (tabF k) g i)))) (fun i => (cv (fwdF k (tabF k) f i)).mul (cv (fwdF k (tabF k) g i)))
  have e : S2 (2 ^ k) (fun i => ((cv (prW k f g i)).sub ((cv (fwdF k (tabF k) f i)).mul (cv (fwdF k (tabF k) g i)))).add ((cv (fwdF k (tabF k) f i)).mul (cv (fwdF k (tabF k) g i)))) = S2 (2 ^ k) (fun i => cv (prW k f g i)) :=
    S2_congr fun i _ => Cx.eq (by unfold Cx.sub Cx.add; simp only; grind) (by unfold Cx.sub Cx.add; simp only; grind)
  rw [e] at a
  have w := S2_le_len (pr_words tf tg he he2 hL hLc bf bg)
  have hN : ((2 ^ k : Nat) : Rat) ≤ 2048 := Rat.natCast_le_natCast.2 (show 2 ^ k ≤ 2048 from Nat.pow_le_pow_right (n := 2) (by decide) (show k ≤ 11 from hk))
  have hb := Rat.mul_le_mul_of_nonneg_right hN (sq_nonneg (26/10 * (EE * (p2 k * L * (p2 k * Lc)))))
  have c := S2_mul_le (a := fun i => cv (fwdF k (tabF k) f i)) tg.s
  have c2 := Rat.mul_le_mul_of_nonneg_left tf.e (sq_nonneg (1001/1000 * (p2 k * Lc)))
  refine s2_num a (Rat.le_trans w hb) (Rat.le_of_lt EE_pos) (by unfold EE; decide +kernel) (Rat.le_trans c (Rat.le_trans c2 ?_))
  have := sq_nonneg (p2 k * L * (p2 k * Lc))
  generalize p2 k * L = x at *
  generalize p2 k * Lc = y at *
  grind
end Go.Proofs.Ygctaf
