/-
  CHIRPS: i^2 + j^2 = 2ij + (i - j)^2, in roots.
-/
import Derived.Test.YgctafRootsLaw
namespace Go.Proofs.Ygctaf
open Ieee

theorem rho_mod {m a : Nat} (h0 : 0 < m) : Len ((rho m (a % m)).sub (rho m a)) (((a / m : Nat) : Rat) * tC) := by
  obtain ⟨t, ht⟩ : ∃ t, t = a / m := ⟨_, rfl⟩
  obtain ⟨s, hs⟩ : ∃ s, s = a % m := ⟨_, rfl⟩
  have e : a = m * t + s := by have := Nat.mod_add_div a m; rw [← ht, ← hs] at this; omega
  rw [← ht, ← hs]
  have e2 : rho m a = (eta.pow (2 ^ 91 * t)).mul (rho m s) := by
    unfold rho
    rw [← Cx.pow_add]
    congr 1
    rw [e, Nat.add_mul, Nat.mul_assoc, Nat.add_comm, Nat.add_mul_div_left _ _ h0, Nat.add_comm, Nat.mul_comm t]
  rw [e2]
  have h := (eta_rounds t).flip.mul (Len.unit (rho_unit m s))
  rw [Cx.sub_mul, Cx.one_mul, Rat.mul_one] at h
  exact h
theorem rho_two (n b : Nat) : rho (2 * n) (2 * b) = rho n b := by
  unfold rho
  rw [Nat.mul_assoc, Nat.mul_div_mul_left _ _ (by decide)]
theorem rho_mod' {m a : Nat} (h0 : 0 < m) (ha : a ≤ 2 ^ 24) : Len ((rho m (a % m)).sub (rho m a)) (p2 (-180)) := by
  refine (rho_mod h0).mono ?_
  have h1 : ((a / m : Nat) : Rat) ≤ ((2 ^ 24 : Nat) : Rat) := Rat.natCast_le_natCast.2 (Nat.le_trans (Nat.div_le_self _ _) ha)
  have h2 := Rat.mul_le_mul_of_nonneg_right h1 (show 0 ≤ tC from p2_nonneg _)
  exact Rat.le_trans h2 (by unfold tC; decide +kernel)
/-- Two products near, of numbers of length 1. -/
theorem unit_prod {a b a' b' : Cx} {r s : Rat} (ha : a.nsq = 1) (hb : b'.nsq = 1) (h1 : Len (a.sub a') r) (h2 : Len (b.sub b') s) : Len ((a.mul b).sub (a'.mul b')) (r + s) := by
  have x := ((Len.unit ha).mul h2).add (h1.mul (Len.unit hb))
  have e : (a.mul (b.sub b')).add ((a.sub a').mul b') = (a.mul b).sub (a'.mul b') := Cx.eq (by unfold Cx.add Cx.sub Cx.mul; simp only; grind) (by unfold Cx.add Cx.sub Cx.mul; simp only; grind)
  rw [e] at x
  exact x.mono (by grind)
theorem chirp_id {n i j d : Nat} (h0 : 0 < n) (hn : n ≤ 1024) (hi : i < n) (hj : j < n) (hd : i = j + d ∨ j = i + d) :
    Len ((((rho (2 * n) (i * i % (2 * n))).mul (rho (2 * n) (d * d % (2 * n))).conj).mul (rho (2 * n) (j * j % (2 * n)))).sub (rho n (i * j % n))) (p2 (-80)) := by
  have hm : 0 < 2 * n := by omega
  have sq : ∀ a, a < n → a * a ≤ 2 ^ 24 := fun a ha => Nat.le_trans (Nat.mul_le_mul (show a ≤ 1024 by omega) (show a ≤ 1024 by omega)) (by decide)
  have e : i * i + j * j = 2 * (i * j) + d * d := by
    rcases hd with rfl | rfl
    · simp only [Nat.add_mul, Nat.mul_add]; rw [Nat.mul_comm d j]; omega
    · simp only [Nat.add_mul, Nat.mul_add]; rw [Nat.mul_comm d i]; omega
  have hij : 2 * (i * j) ≤ 2 ^ 24 := by
    have := Nat.mul_le_mul (show i ≤ 1024 by omega) (show j ≤ 1024 by omega)
    omega
  have dn : d < n := by omega
  obtain ⟨A, hA⟩ : ∃ A, A = rho (2 * n) (i * i % (2 * n)) := ⟨_, rfl⟩
  obtain ⟨B, hB⟩ : ∃ B, B = rho (2 * n) (j * j % (2 * n)) := ⟨_, rfl⟩
  obtain ⟨D, hD⟩ : ∃ D, D = rho (2 * n) (d * d % (2 * n)) := ⟨_, rfl⟩
  have uA : A.nsq = 1 := by rw [hA]; exact rho_unit _ _
  have uB : B.nsq = 1 := by rw [hB]; exact rho_unit _ _
  have uD : D.nsq = 1 := by rw [hD]; exact rho_unit _ _
  have q1 := unit_prod uA (rho_unit _ _) (by rw [hA]; exact rho_mod' hm (sq i hi)) (b := B) (by rw [hB]; exact rho_mod' hm (sq j hj))
  have q2 := q1.tri (rho_add (n := 2 * n) (a := i * i) (b := j * j) hm)
  rw [e] at q2
  have q3 := q2.tri (rho_add (n := 2 * n) (a := 2 * (i * j)) (b := d * d) hm).flip
  have q4 := unit_prod (rho_unit (2 * n) (2 * (i * j) % (2 * n))) (rho_unit _ _) (rho_mod' hm hij) (b := D) (by rw [hD]; exact rho_mod' hm (sq d dn))
  have q5 := q3.tri q4.flip
  rw [Nat.mul_mod_mul_left, rho_two] at q5
  have q6 := q5.mul (Len.unit (show D.conj.nsq = 1 by rw [Cx.nsq_conj]; exact uD))
  rw [← hA, ← hB, ← hD]
  have e2 : ((A.mul B).sub ((rho n (i * j % n)).mul D)).mul D.conj = ((A.mul D.conj).mul B).sub (rho n (i * j % n)) := by
    rw [Cx.sub_mul, Cx.mul_assoc (rho n (i * j % n)), Cx.mul_conj_self uD, Cx.mul_one, Cx.mul_assoc, Cx.mul_comm B, ← Cx.mul_assoc]
  rw [e2] at q6
  exact q6.mono (by decide +kernel)
end Go.Proofs.Ygctaf
