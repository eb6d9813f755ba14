/-
  A CONVOLUTION BY TRANSFORMS: the transforms' product, in the mean.
-/
import Derived.Test.YgctafCirc
import Derived.Test.YgctafPow
namespace Go.Proofs.Ygctaf
open Ieee

/-- Cauchy and Schwarz. -/
theorem dft_cs {z : Cx} {N : Nat} {a b : Nat → Cx} {A B : Rat} (hz : z.nsq = 1) (hA0 : 0 < A) (hB0 : 0 < B) (hA : S2 N a ≤ A * A) (hB : S2 N b ≤ B * B) (l : Nat) : Len (dft z N (fun i => (a i).mul (b i)) l) (A * B) := by
  have iA := Rat.mul_inv_cancel _ (Rat.ne_of_gt hA0)
  have iB := Rat.mul_inv_cancel _ (Rat.ne_of_gt hB0)
  have pA := Rat.le_of_lt (Rat.inv_pos.2 hA0)
  have pB := Rat.le_of_lt (Rat.inv_pos.2 hB0)
  have h := dft_prod hz (t := B * A⁻¹) (s := A * B⁻¹) (Rat.mul_nonneg (Rat.le_of_lt hB0) pA) (Rat.mul_nonneg (Rat.le_of_lt hA0) pB) (by
    rw [show B * A⁻¹ * (A * B⁻¹) = (A * A⁻¹) * (B * B⁻¹) from by grind, iA, iB]; grind) hA hB l
  refine h.mono ?_
  rw [show B * A⁻¹ * (A * A) = A * B * (A * A⁻¹) from by grind, show A * B⁻¹ * (B * B) = A * B * (B * B⁻¹) from by grind, iA, iB]
  grind
theorem zeK_round (k : Nat) (h1 : 1 ≤ k) (h2 : k ≤ 11) : Len (((zeK k).pow (2 ^ k)).sub .one) (2 * tH) := by
  have b := pow_sgn (Cx.nsq_pow (zeK_unit k) (2 ^ (k - 1))) (zeK_half k h1 h2) 2
  rw [show sgnC 2 = .one from rfl, ← Cx.pow_mul, ← Nat.pow_succ, show (k - 1).succ = k from by omega] at b
  refine b.mono ?_
  have : ((2 : Nat) : Rat) = 2 := rfl
  rw [this]; exact Rat.le_refl

/-- What stands of one transform. -/
structure Tr (k : Nat) (f : Nat → Nat × Nat) (L : Rat) : Prop where
  d : S2 (2 ^ k) (fun j => (cv (fwdF k (tabF k) f j)).sub (pip (fun m => (zeK k).pow m) k 1 (fun i => cv (f i)) j)) ≤ p2 (-44) * (p2 k * L) * (p2 (-44) * (p2 k * L))
  p : S2 (2 ^ k) (pip (fun m => (zeK k).pow m) k 1 (fun i => cv (f i))) ≤ p2 k * L * (p2 k * L)
  s : ∀ j, j < 2 ^ k → Len (cv (fwdF k (tabF k) f j)) (1001/1000 * (p2 k * L))
  t : ∀ j, j < 2 ^ k → Len ((pip (fun m => (zeK k).pow m) k 1 (fun i => cv (f i)) j).sub (dft (zeK k) (2 ^ k) (fun i => cv (f i)) j)) (p2 (-180) * L)
  y : ∀ j, j < 2 ^ k → Len (dft (zeK k) (2 ^ k) (fun i => cv (f i)) j) (p2 k * L)
theorem Tr.of {k : Nat} {f : Nat → Nat × Nat} {e : Int} {L : Rat} (hk1 : 1 ≤ k) (hk : k ≤ 11) (h0 : 0 ≤ e) (h1 : e ≤ 800) (hF : ∀ i, i < 2 ^ k → Bd e (f i)) (hL : p2 (-1015) ≤ L) (hf : ∀ i, i < 2 ^ k → Len (cv (f i)) L) : Tr k f L := by
  have hLp : 0 ≤ L := Rat.le_trans (p2_nonneg _) hL
  have hp := p2_nonneg (k : Int)
  have hpL := Rat.mul_nonneg hp hLp
  have tb : ∀ i, i < 2 ^ (k - 1) → Bd 1 (tabF k i) := fun i hi => tab_bd k (k - 1) i hk1 hk (by omega) hi
  obtain ⟨a, b⟩ := fwd_s2L hk1 hk h0 h1 tb hF (om := fun m => (zeK k).pow m) (fun m => Cx.nsq_pow (zeK_unit k) m) (fun j hj => tab_near k j hk1 hk hj) hL hf
  have ylen : ∀ j, j < 2 ^ k → Len (dft (zeK k) (2 ^ k) (fun i => cv (f i)) j) (p2 k * L) := fun j _ => by
    have := dft_len (zeK_unit k) hf j
    rw [← p2_nat] at this; exact this
  refine ⟨a, b, fun j hj => ?_, fun j hj => ?_, ylen⟩
  · refine ((fwd_right hk1 hk h0 h1 hF hL hf j hj).of_sub (ylen j hj)).mono ?_
    have : p2 (-43) ≤ 1/1000 := by decide +kernel
    have := Rat.mul_le_mul_of_nonneg_right this hpL
    grind
  · have q := pip_dft (zeK_unit k) k (zeK_half k hk1 hk) k 1 (fun i => cv (f i)) (Nat.le_refl _) (by rw [Nat.sub_self]) hf j hj
    rw [Cx.pow_one] at q
    refine q.mono ?_
    have c : (k : Rat) * (p2 k * (p2 k * tH)) ≤ p2 (-180) := by
      have h : ∀ k : Fin 12, (k.1 : Rat) * (p2 k.1 * (p2 k.1 * tH)) ≤ p2 (-180) := by unfold tH; decide +kernel
      exact h ⟨k, by omega⟩
    have := Rat.mul_le_mul_of_nonneg_right c hLp
    grind
/-- The computed transform's energy. -/
theorem energy_num {a b c d X : Rat} (h : a ≤ 2 * b + 2 * c) (h1 : b ≤ d * X * (d * X)) (h2 : c ≤ X * X) (h4 : d * d * (X * X) ≤ 1/4000 * (X * X)) : a ≤ 2001/1000 * (X * X) := by
  have := sq_nonneg X
  grind
theorem Tr.e {k : Nat} {f : Nat → Nat × Nat} {L : Rat} (h : Tr k f L) : S2 (2 ^ k) (fun j => cv (fwdF k (tabF k) f j)) ≤ 2001/1000 * (p2 k * L * (p2 k * L)) := by
  have a := S2_add_le (2 ^ k) (fun j => (cv (fwdF k (tabF k) f j)).sub (pip (fun m => (zeK k).pow m) k 1 (fun i => cv (f i)) j)) (pip (fun m => (zeK k).pow m) k 1 (fun i => cv (f i)))
  have e : S2 (2 ^ k) (fun i => ((cv (fwdF k (tabF k) f i)).sub (pip (fun m => (zeK k).pow m) k 1 (fun i => cv (f i)) i)).add (pip (fun m => (zeK k).pow m) k 1 (fun i => cv (f i)) i)) = S2 (2 ^ k) (fun j => cv (fwdF k (tabF k) f j)) :=
    S2_congr fun i _ => Cx.eq (by unfold Cx.sub Cx.add; simp only; grind) (by unfold Cx.sub Cx.add; simp only; grind)
  rw [e] at a
  have h3 : p2 (-44) * p2 (-44) ≤ 1/4000 := by decide +kernel
  exact energy_num a h.d h.p (Rat.mul_le_mul_of_nonneg_right h3 (sq_nonneg (p2 k * L)))
end Go.Proofs.Ygctaf
