/-
  fftx.refine, five times: far off, nearer, at the root.
-/
import Derived.Test.YgctafRef4
namespace Go.Proofs.Ygctaf
open Ieee

theorem chain_ok1 : 4096 * xK (13/10000000) ≤ 1/100 ∧ 101/100 * xK (13/10000000) + tau + 2 * EE * (782/1000000 + 101/100 * xK (13/10000000) + tau) + TT ≤ 13137/10000000000 := by
  unfold xK rM tau EE TT; decide +kernel
/-- Four steps. -/
theorem refine_four {z : Nat × Nat} {n : Nat} {rh : Cx} (h0 : 0 < n) (hn : n ≤ 2048) (hr : rh.nsq = 1) (hrn : Len ((rh.pow n).sub .one) tau) (hst : NrSt rh (13/10000000) (782/1000000) z) :
    NrSt rh (2777/2500000000000000000) (71907/10000000000000000000) (refF (refF (refF (refF z n) n) n) n) := by
  have s1 := refine_far (k' := 34251/1000000000000000) (b' := 34331/100000000) (g := 13137/10000000000) (E := 26161/10000000000) (X := 14627/2500000000) h0 hn hr hrn hst
    chain_ok1.1 chain_ok1.2 (by unfold EE TT; decide +kernel) (by decide +kernel) (by decide +kernel) (by decide +kernel) (by decide +kernel) (by unfold EE; decide +kernel) (by unfold EE; decide +kernel)
  have s2 := refine_far (k' := 941/62500000000000000) (b' := 3573/125000000) (g := 8653/250000000000000) (E := 6891/100000000000000) (X := 5903/50000000000) h0 hn hr hrn s1
    (by unfold xK rM EE TT; decide +kernel) (by unfold xK rM tau EE TT; decide +kernel) (by unfold EE TT; decide +kernel) (by decide +kernel) (by decide +kernel) (by decide +kernel) (by decide +kernel) (by unfold EE; decide +kernel) (by unfold EE; decide +kernel)
  have s3 := refine_far (k' := 2223/2000000000000000000) (b' := 8249/500000000000) (g := 3099/200000000000000000) (E := 15339/500000000000000000) (X := 10219/12500000000000) h0 hn hr hrn s2
    (by unfold xK rM EE TT; decide +kernel) (by unfold xK rM tau EE TT; decide +kernel) (by unfold EE TT; decide +kernel) (by decide +kernel) (by decide +kernel) (by decide +kernel) (by decide +kernel) (by unfold EE; decide +kernel) (by unfold EE; decide +kernel)
  exact refine_far (g := 14037/10000000000000000000) (E := 6569/2500000000000000000) (X := 27651/5000000000000000000) h0 hn hr hrn s3
    (by unfold xK rM EE TT; decide +kernel) (by unfold xK rM tau EE TT; decide +kernel) (by unfold EE TT; decide +kernel) (by decide +kernel) (by decide +kernel) (by decide +kernel) (by decide +kernel) (by unfold EE; decide +kernel) (by unfold EE; decide +kernel)
theorem NrSt.close {rh : Cx} {z : Nat × Nat} (hr : rh.nsq = 1) (h : NrSt rh (2777/2500000000000000000) (71907/10000000000000000000) z) : Len ((cv z).sub rh) (80 * EE) := by
  obtain ⟨v, h1, h2, h3⟩ := h.at'
  have a := (Len.unit hr).mul h3
  rw [Cx.mul_sub, Cx.mul_one] at a
  exact (h2.tri a).mono (by unfold EE; decide +kernel)
end Go.Proofs.Ygctaf
