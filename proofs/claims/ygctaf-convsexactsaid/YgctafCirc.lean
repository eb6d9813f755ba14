/-
  CONVOLUTIONS ROUND THE CIRCLE.
-/
import Derived.Test.YgctafL2
import Derived.Test.YgctafRho
namespace Go.Proofs.Ygctaf
open Ieee

def circ (N : Nat) (y c : Nat → Cx) (l : Nat) : Cx := sumC N fun i => (y i).mul (c ((l + N - i) % N))
theorem mulC_sum (n : Nat) (c : Cx) (f : Nat → Cx) : (sumC n f).mul c = sumC n (fun i => (f i).mul c) := by
  rw [Cx.mul_comm, ← sumC_mul]
  exact sumC_congr fun i _ => Cx.mul_comm _ _
theorem circ_row {z : Cx} {N i j : Nat} {c : Nat → Cx} {Lc t : Rat} (hz : z.nsq = 1) (hi : i < N) (hj : j < N) (hzN : Len ((z.pow N).sub .one) t) (hc : ∀ m, m < N → Len (c m) Lc) :
    Len ((sumC N fun l => (c ((l + N - i) % N)).mul (z.pow (l * j))).sub ((z.pow (i * j)).mul (dft z N c j))) ((N : Rat) * (Lc * ((N : Rat) * t))) := by
  have ht := hzN.1
  have hL := (hc i hi).1
  have eA : (sumC N fun l => (c ((l + N - i) % N)).mul (z.pow (l * j))) = (sumC i fun l => (c (N - i + l)).mul (z.pow (l * j))).add (sumC (N - i) fun m => (c m).mul (z.pow ((i + m) * j))) := by
    have := sumC_split i (fun l => (c ((l + N - i) % N)).mul (z.pow (l * j))) (N - i)
    rw [show i + (N - i) = N from by omega] at this
    rw [this]
    congr 1
    · refine sumC_congr fun l hl => ?_
      rw [show (l + N - i) % N = N - i + l from by rw [show l + N - i = N - i + l from by omega]; exact Nat.mod_eq_of_lt (by omega)]
    · refine sumC_congr fun m hm => ?_
      rw [show (i + m + N - i) % N = m from by rw [show i + m + N - i = m + N from by omega, Nat.add_mod_right]; exact Nat.mod_eq_of_lt (by omega)]
  have eB : (z.pow (i * j)).mul (dft z N c j) = (sumC i fun l => (c (N - i + l)).mul (z.pow ((N + l) * j))).add (sumC (N - i) fun m => (c m).mul (z.pow ((i + m) * j))) := by
    unfold dft
    rw [← sumC_mul]
    have := sumC_split (N - i) (fun m => (z.pow (i * j)).mul ((c m).mul (z.pow (m * j)))) i
    rw [show N - i + i = N from by omega] at this
    rw [this, Cx.add_comm]
    congr 1
    · refine sumC_congr fun l hl => ?_
      rw [← Cx.mul_assoc, Cx.mul_comm (z.pow (i * j)), Cx.mul_assoc, ← Cx.pow_add, ← Nat.add_mul, show i + (N - i + l) = N + l from by omega]
    · refine sumC_congr fun m hm => ?_
      rw [← Cx.mul_assoc, Cx.mul_comm (z.pow (i * j)), Cx.mul_assoc, ← Cx.pow_add, ← Nat.add_mul]
  rw [eA, eB]
  have e : ∀ a b d : Cx, (a.add d).sub (b.add d) = a.sub b := fun a b d => Cx.eq (by unfold Cx.add Cx.sub; simp only; grind) (by unfold Cx.add Cx.sub; simp only; grind)
  rw [e, ← sumC_sub]
  have hNj : Len ((z.pow (N * j)).sub .one) ((N : Rat) * t) := by
    rw [Cx.pow_mul]
    refine (pow_one_near (Cx.nsq_pow hz N) hzN j).mono ?_
    exact Rat.mul_le_mul_of_nonneg_right (Rat.natCast_le_natCast.2 (by omega)) ht
  have h0 : 0 ≤ Lc * ((N : Rat) * t) := Rat.mul_nonneg hL (Rat.mul_nonneg Rat.natCast_nonneg ht)
  refine (Len.sum_const (c := Lc * ((N : Rat) * t)) fun l hl => ?_).mono (Rat.mul_le_mul_of_nonneg_right (Rat.natCast_le_natCast.2 (by omega)) h0)
  rw [← Cx.mul_sub]
  refine (hc _ (by omega)).mul ?_
  have e2 : (z.pow (l * j)).sub (z.pow ((N + l) * j)) = (z.pow (l * j)).mul (Cx.one.sub (z.pow (N * j))) := by
    rw [Cx.mul_sub, Cx.mul_one, ← Cx.pow_add, ← Nat.add_mul, Nat.add_comm l N]
  rw [e2]
  have := (Len.unit (Cx.nsq_pow hz (l * j))).mul hNj.flip
  rw [Rat.one_mul] at this
  exact this
/-- The transform of the convolution is the product of the transforms, and next to nothing. -/
theorem circ_dft {z : Cx} {N j : Nat} {y c : Nat → Cx} {Ly Lc t : Rat} (hz : z.nsq = 1) (hj : j < N) (hzN : Len ((z.pow N).sub .one) t) (hy : ∀ m, m < N → Len (y m) Ly) (hc : ∀ m, m < N → Len (c m) Lc) :
    Len ((dft z N (circ N y c) j).sub ((dft z N y j).mul (dft z N c j))) ((N : Rat) * (Ly * ((N : Rat) * (Lc * ((N : Rat) * t))))) := by
  have e1 : dft z N (circ N y c) j = sumC N fun i => (y i).mul (sumC N fun l => (c ((l + N - i) % N)).mul (z.pow (l * j))) := by
    show (sumC N fun l => (circ N y c l).mul (z.pow (l * j))) = _
    have : (sumC N fun l => (circ N y c l).mul (z.pow (l * j))) = sumC N fun l => sumC N fun i => (y i).mul ((c ((l + N - i) % N)).mul (z.pow (l * j))) := by
      refine sumC_congr fun l _ => ?_
      unfold circ
      rw [mulC_sum]
      exact sumC_congr fun i _ => Cx.mul_assoc _ _ _
    rw [this, sumC_swap]
    exact sumC_congr fun i _ => sumC_mul _ _ _
  have e2 : (dft z N y j).mul (dft z N c j) = sumC N fun i => (y i).mul ((z.pow (i * j)).mul (dft z N c j)) := by
    show (sumC N fun i => (y i).mul (z.pow (i * j))).mul (dft z N c j) = _
    rw [mulC_sum]
    exact sumC_congr fun i _ => Cx.mul_assoc _ _ _
  rw [e1, e2, ← sumC_sub]
  refine Len.sum_const fun i hi => ?_
  rw [← Cx.mul_sub]
  exact (hy i hi).mul (circ_row hz hi hj hzN hc)
end Go.Proofs.Ygctaf
