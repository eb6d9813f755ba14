/-
  fftx.refine: every state of its five rounds is in order (for the walk).
-/
import Derived.Test.YgctafRootF
namespace Go.Proofs.Ygctaf
open Ieee

structure PowOk (z : Nat × Nat) : Prop where
  bd : Bd 1 z
  ex : ∃ M : Rat, Len (cv z) M ∧ 1 ≤ M ∧ qp M 4096 * qp (1 + rM) 4096 ≤ 2
structure RefOk (z : Nat × Nat) (n : Nat) : Prop where
  pw : PowOk z
  bg : B1 1 (trnG z n)
theorem PowOk.of {z : Nat × Nat} {k : Rat} (hb : Bd 1 z) (hk0 : 0 ≤ k) (h : Len (cv z) (1 + k)) (hx : 4096 * xK k ≤ 1/100) : PowOk z := by
  refine ⟨hb, 1 + k, h, by grind, ?_⟩
  have hrM := rM_nonneg
  have hxk0 : 0 ≤ xK k := by
    unfold xK
    have := Rat.mul_nonneg hk0 hrM
    generalize rM = r at *
    clear hx
    grind
  have eM : (1 + k) * (1 + rM) = 1 + xK k := by unfold xK; generalize rM = r; grind
  have key : ∀ K : Nat, K = 4096 → qp (1 + k) K * qp (1 + rM) K ≤ 2 := fun K hK => by
    rw [← qp_mul, eM]; exact qp_big hxk0 hx 2048 K rfl hK
  exact key 4096 rfl
theorem NrSt.ok {rh : Cx} {k b : Rat} {z : Nat × Nat} {n : Nat} (h : NrSt rh k b z) (h0 : 0 < n) (hn : n ≤ 2048) (hr : rh.nsq = 1) (hrn : Len ((rh.pow n).sub .one) tau) (hx : 4096 * xK k ≤ 1/100) (hb1 : b ≤ 1/4) : RefOk z n := by
  obtain ⟨hz, v, hv, hk, hvb⟩ := h
  have vi : (v.pow n).im.abs ≤ (n : Rat) * b := by
    have := (pow_one_near hv hvb n).parts.2
    have e : ((v.pow n).sub .one).im = (v.pow n).im := by show (v.pow n).im - 0 = _; grind
    rw [e] at this; exact this
  obtain ⟨bg, _⟩ := turn_amount hz h0 hn hr hrn hv hk hx vi hb1
  have hrv : (rh.mul v).nsq = 1 := by rw [Cx.nsq_mul, hr, hv]; grind
  have lz : Len (cv z) (1 + k) := (hk.of_sub (Len.unit hrv)).mono (by grind)
  exact ⟨PowOk.of hz hk.1 lz hx, bg⟩
/-- The rounds. -/
def refN (n : Nat) (z : Nat × Nat) : Nat → Nat × Nat
  | 0 => z
  | i + 1 => refF (refN n z i) n
theorem refN_ok {z : Nat × Nat} {n : Nat} {rh : Cx} (h0 : 0 < n) (hn : n ≤ 2048) (hr : rh.nsq = 1) (hrn : Len ((rh.pow n).sub .one) tau) (hst : NrSt rh (13/10000000) (782/1000000) z) (i : Nat) (hi : i < 5) : RefOk (refN n z i) n := by
  have s1 := refine_far (k' := 34251/1000000000000000) (b' := 34331/100000000) (g := 13137/10000000000) (E := 26161/10000000000) (X := 14627/2500000000) h0 hn hr hrn hst
    chain_ok1.1 chain_ok1.2 (by unfold EE TT; decide +kernel) (by decide +kernel) (by decide +kernel) (by decide +kernel) (by decide +kernel) (by unfold EE; decide +kernel) (by unfold EE; decide +kernel)
  have s2 := refine_far (k' := 941/62500000000000000) (b' := 3573/125000000) (g := 8653/250000000000000) (E := 6891/100000000000000) (X := 5903/50000000000) h0 hn hr hrn s1
    (by unfold xK rM EE TT; decide +kernel) (by unfold xK rM tau EE TT; decide +kernel) (by unfold EE TT; decide +kernel) (by decide +kernel) (by decide +kernel) (by decide +kernel) (by decide +kernel) (by unfold EE; decide +kernel) (by unfold EE; decide +kernel)
  have s3 := refine_far (k' := 2223/2000000000000000000) (b' := 8249/500000000000) (g := 3099/200000000000000000) (E := 15339/500000000000000000) (X := 10219/12500000000000) h0 hn hr hrn s2
    (by unfold xK rM EE TT; decide +kernel) (by unfold xK rM tau EE TT; decide +kernel) (by unfold EE TT; decide +kernel) (by decide +kernel) (by decide +kernel) (by decide +kernel) (by decide +kernel) (by unfold EE; decide +kernel) (by unfold EE; decide +kernel)
  have s4 := refine_four h0 hn hr hrn hst
  have : i = 0 ∨ i = 1 ∨ i = 2 ∨ i = 3 ∨ i = 4 := by omega
  rcases this with rfl | rfl | rfl | rfl | rfl
  · exact hst.ok h0 hn hr hrn chain_ok1.1 (by decide +kernel)
  · exact s1.ok h0 hn hr hrn (by unfold xK rM EE TT; decide +kernel) (by decide +kernel)
  · exact s2.ok h0 hn hr hrn (by unfold xK rM EE TT; decide +kernel) (by decide +kernel)
  · exact s3.ok h0 hn hr hrn (by unfold xK rM EE TT; decide +kernel) (by decide +kernel)
  · exact s4.ok h0 hn hr hrn (by unfold xK rM EE TT; decide +kernel) (by decide +kernel)
/-- Where Root's rounds begin. -/
theorem rootS_st {n j : Nat} (h0 : 0 < n) (hj : j < n) : NrSt (rho n j) (13/10000000) (782/1000000) (rootS n j) := by
  have hE := EE_pos
  have hat : j * 2048 / n < 2048 := by rw [Nat.div_lt_iff_lt_mul h0, Nat.mul_comm]; exact Nat.mul_lt_mul_of_pos_left hj (by decide)
  have T := root_at (n := n) (j := j) h0
  have hrho : rho n j = eta.pow (2 ^ 80 * (j * 2048 / n) + (j * 2048 % n) * 2 ^ 80 / n) := by unfold rho; rw [T]
  have hrl : j * 2048 % n < n := Nat.mod_lt _ h0
  unfold rootS
  clear T
  obtain ⟨r, hr⟩ : ∃ r, r = j * 2048 % n := ⟨_, rfl⟩
  obtain ⟨a, ha⟩ : ∃ a, a = j * 2048 / n := ⟨_, rfl⟩
  rw [← hr, ← ha] at hrho ⊢
  rw [← ha] at hat
  rw [← hr] at hrl
  clear hr ha
  rw [hrho]
  obtain ⟨nb, nn⟩ := circ_next hat
  have ca := circ_eta hat
  have cb := circ_bd hat
  have up : r * 2 ^ 80 / n < 2 ^ 80 := by rw [Nat.div_lt_iff_lt_mul h0, Nat.mul_comm]; exact Nat.mul_lt_mul_of_pos_left hrl (by decide)
  have k7 : 7 * EE ≤ 13/10000000 := by unfold EE; decide +kernel
  split
  · rename_i g3
    have lo : 3 * 2 ^ 78 ≤ r * 2 ^ 80 / n := by
      rw [Nat.le_div_iff_mul_le h0]
      omega
    refine NrSt.of nb nn k7 ?_ ?_
    · omega
    · omega
  · rename_i g3
    split
    · rename_i g4
      have lo : 2 ^ 78 ≤ r * 2 ^ 80 / n := by
        rw [Nat.le_div_iff_mul_le h0]
        omega
      have hi : r * 2 ^ 80 / n < 3 * 2 ^ 78 := by
        rw [Nat.div_lt_iff_lt_mul h0]
        omega
      obtain ⟨mb, mn⟩ := mid_near cb nb (ca.mono (show 6 * EE ≤ 7 * EE by grind)) (by rw [show 2 ^ 80 * a + 2 ^ 80 = 2 ^ 80 * (a + 1) from by omega]; exact nn)
      refine NrSt.of mb mn Rat.le_refl ?_ ?_
      · omega
      · omega
    · rename_i g4
      have hi : r * 2 ^ 80 / n ≤ 2 ^ 78 := by
        refine Nat.le_of_lt ?_
        rw [Nat.div_lt_iff_lt_mul h0]
        omega
      refine NrSt.of cb (ca.mono (show 6 * EE ≤ 7 * EE by grind)) k7 ?_ ?_
      · exact Nat.le_trans (Nat.le_add_right _ _) (Nat.le_add_right _ _)
      · omega
theorem rootS_ok {n j : Nat} (h0 : 0 < n) (hn : n ≤ 2048) (hj : j < n) (i : Nat) (hi : i < 5) : RefOk (refN n (rootS n j) i) n :=
  refN_ok h0 hn (rho_unit n j) (rho_pow h0 hn (Nat.le_of_lt hj)) (rootS_st h0 hj) i hi
theorem rootF_eq (n j : Nat) : rootF n j = if j * 2048 % n = 0 then circF (j * 2048 / n) else refN n (rootS n j) 5 := rfl
end Go.Proofs.Ygctaf
