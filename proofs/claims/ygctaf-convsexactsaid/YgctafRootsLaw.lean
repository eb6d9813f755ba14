/-
  law.RootsNear: the plain law.
-/
import Derived.Test.YgctafW35
namespace Go.Proofs.Ygctaf
open Ieee

theorem b49_val : Num 4386506037058863104 ∧ V 4386506037058863104 = p2 (-49) := by
  have h : double.read 4386506037058863104 = .number false 4503599627370496 (-101) := by decide +kernel
  refine ⟨⟨_, _, _, h⟩, ?_⟩
  unfold V
  rw [h]
  show sgn false * (((4503599627370496 : Nat) : Rat) * p2 (-101)) = p2 (-49)
  decide +kernel
theorem b48_val : Num 4391009636686233600 ∧ V 4391009636686233600 = p2 (-48) := by
  have h : double.read 4391009636686233600 = .number false 4503599627370496 (-100) := by decide +kernel
  refine ⟨⟨_, _, _, h⟩, ?_⟩
  unfold V
  rw [h]
  show sgn false * (((4503599627370496 : Nat) : Rat) * p2 (-100)) = p2 (-48)
  decide +kernel
theorem B49 : (FZ 4386506037058863104 : Rat) = p2 (-49) * p2 2148 := by rw [FZ_val (by decide) b49_val.1, b49_val.2]
theorem B48 : (FZ 4391009636686233600 : Rat) = p2 (-48) * p2 2148 := by rw [FZ_val (by decide) b48_val.1, b48_val.2]
theorem in_of {B : Int} {v : Rat} (hB : (B : Rat) = v * p2 2148) (h0 : 0 ≤ v) (hv : v ≤ p2 100) : InAcc B := by
  refine (inAcc_small ?_).1
  rw [hB, abs_mul, Rat.abs_of_nonneg h0, Rat.abs_of_nonneg (p2_nonneg _)]
  have := Rat.mul_le_mul_of_nonneg_right hv (p2_nonneg 2148)
  rw [← p2_add] at this
  exact Rat.le_trans this (p2_le (by decide))
theorem in49 : InAcc (FZ 4386506037058863104) := in_of B49 (p2_nonneg _) (p2_le (by decide))
theorem in48 : InAcc (FZ 4391009636686233600) := in_of B48 (p2_nonneg _) (p2_le (by decide))

/-- j up to n. -/
theorem root_near_mod {n j : Nat} (h0 : 0 < n) (hn : n ≤ 2048) (hj : j ≤ n) : Bd 1 (rootF n (j % n)) ∧ Len ((cv (rootF n (j % n))).sub (rho n j)) (76/10 * EE) := by
  have hE := EE_pos
  have hC : tC ≤ 1/100 * EE := by unfold tC EE; decide +kernel
  rcases Nat.lt_or_ge j n with h | h
  · rw [Nat.mod_eq_of_lt h]
    obtain ⟨a, b⟩ := root_near h0 hn h
    exact ⟨a, b.mono (by grind)⟩
  · have e : j = n := by omega
    subst e
    rw [Nat.mod_self]
    obtain ⟨a, b⟩ := root_near h0 hn h0
    rw [rho_zero] at b
    exact ⟨a, (b.tri (rho_full h0).flip).mono (by grind)⟩
theorem unit_ok {n j : Nat} (h0 : 0 < n) (hn : n ≤ 2048) (hj : j < n) : OffOk (FZ 4386506037058863104) (udZ (rootF n j)) := by
  obtain ⟨a, b⟩ := root_near h0 hn hj
  have m := a.nm
  have d := nsq_diff b (Len.unit (rho_unit n j))
  rw [rho_unit] at d
  refine off_of (u := (cv (rootF n j)).nsq - 1) ?_ B49 ?_ (p2_le (by decide))
  · unfold udZ
    rw [Rat.intCast_add, Rat.intCast_add, PZ_val m.l1 m.n1 m.l1 m.n1, PZ_val m.l2 m.n2 m.l2 m.n2, FZ_val (by decide) mone_val.1, mone_val.2]
    unfold Cx.nsq cv
    simp only
    grind
  · refine Rat.le_trans d ?_
    unfold EE
    decide +kernel
theorem step_num (e : Rat) (h0 : 0 < e) {q : Rat} (hq : q ≤ e) : 15/2 * e * (1001/1000) + 1 * (76/10 * e) + q + 76/10 * e ≤ 32 * e := by grind
theorem one_num (e : Rat) (h1 : e ≤ 1/1000000000000000) : 76/10 * e + 1 ≤ 1001/1000 := by grind
theorem step_len {Z O X r1 r2 r3 : Cx} (u1 : r1.nsq = 1) (u2 : r2.nsq = 1) (zb : Len (Z.sub r1) (15/2 * EE)) (ob : Len (O.sub r2) (76/10 * EE)) (xb : Len (X.sub r3) (76/10 * EE)) (hr : Len ((r1.mul r2).sub r3) (p2 (-88))) :
    Len ((Z.mul O).sub X) (p2 (-48)) := by
  have lo : Len O (1001/1000) := (ob.of_sub (Len.unit u2)).mono (one_num _ EE_tiny)
  have p1 := zb.mul lo
  have p2' := (Len.unit u1).mul ob
  have e1 : ((Z.sub r1).mul O).add (r1.mul (O.sub r2)) = (Z.mul O).sub (r1.mul r2) :=
    Cx.eq (by unfold Cx.add Cx.sub Cx.mul; simp only; grind) (by unfold Cx.add Cx.sub Cx.mul; simp only; grind)
  have s := p1.add p2'
  rw [e1] at s
  have t := (s.tri hr).tri xb.flip
  have b48 : p2 (-48) = 32 * EE := by unfold EE; decide +kernel
  have b88 : p2 (-88) ≤ EE := by unfold EE; decide +kernel
  refine t.mono ?_
  rw [b48]
  exact step_num _ EE_pos b88
theorem step_words {z o x : Nat × Nat} {B : Int} {v : Rat} (zm : Nm z) (om : Nm o) (xm : Nm x) (hB : (B : Rat) = v * p2 2148) (hv : v ≤ p2 100) (h : Len (((cv z).mul (cv o)).sub (cv x)) v) :
    OffOk B (0 + PZ z.1 o.1 + PZ (fneg z.2) o.2 + FZ (fneg x.1)) ∧ OffOk B (0 + PZ z.1 o.2 + PZ z.2 o.1 + FZ (fneg x.2)) := by
  have tt := h.parts
  have nz := neg_num zm.l2 zm.n2
  have nx1 := neg_num xm.l1 xm.n1
  have nx2 := neg_num xm.l2 xm.n2
  have z0 : ((0 : Int) : Rat) = 0 := rfl
  constructor
  · refine off_of (u := (((cv z).mul (cv o)).sub (cv x)).re) ?_ hB tt.1 hv
    rw [Rat.intCast_add, Rat.intCast_add, Rat.intCast_add, PZ_val zm.l1 zm.n1 om.l1 om.n1, PZ_val (neg_lt zm.l2) nz.1 om.l2 om.n2, FZ_val (neg_lt xm.l1) nx1.1, nz.2, nx1.2, z0]
    show 0 + V z.1 * V o.1 * p2 2148 + -V z.2 * V o.2 * p2 2148 + -V x.1 * p2 2148 = (V z.1 * V o.1 - V z.2 * V o.2 - V x.1) * p2 2148
    generalize p2 2148 = P
    generalize V z.1 = a1
    generalize V z.2 = a2
    generalize V o.1 = a3
    generalize V o.2 = a4
    generalize V x.1 = a5
    clear tt nz nx1 nx2 z0 h hv hB zm om xm
    grind
  · refine off_of (u := (((cv z).mul (cv o)).sub (cv x)).im) ?_ hB tt.2 hv
    rw [Rat.intCast_add, Rat.intCast_add, Rat.intCast_add, PZ_val zm.l1 zm.n1 om.l2 om.n2, PZ_val zm.l2 zm.n2 om.l1 om.n1, FZ_val (neg_lt xm.l2) nx2.1, nx2.2, z0]
    show 0 + V z.1 * V o.2 * p2 2148 + V z.2 * V o.1 * p2 2148 + -V x.2 * p2 2148 = (V z.1 * V o.2 + V z.2 * V o.1 - V x.2) * p2 2148
    generalize p2 2148 = P
    generalize V z.1 = a1
    generalize V z.2 = a2
    generalize V o.1 = a3
    generalize V o.2 = a4
    generalize V x.2 = a5
    clear tt nz nx1 nx2 z0 h hv hB zm om xm
    grind
theorem step_ok {n j : Nat} (h0 : 0 < n) (hn : n ≤ 2048) (hj : j < n) :
    OffOk (FZ 4391009636686233600) (0 + PZ (rootF n j).1 (rootF n (1 % n)).1 + PZ (fneg (rootF n j).2) (rootF n (1 % n)).2 + FZ (fneg (rootF n ((j + 1) % n)).1)) ∧
    OffOk (FZ 4391009636686233600) (0 + PZ (rootF n j).1 (rootF n (1 % n)).2 + PZ (rootF n j).2 (rootF n (1 % n)).1 + FZ (fneg (rootF n ((j + 1) % n)).2)) := by
  obtain ⟨za, zb⟩ := root_near h0 hn hj
  obtain ⟨oa, ob⟩ := root_near_mod h0 hn (j := 1) h0
  obtain ⟨xa, xb⟩ := root_near_mod h0 hn (j := j + 1) hj
  exact step_words za.nm oa.nm xa.nm B48 (p2_le (by decide)) (step_len (rho_unit n j) (rho_unit n 1) zb ob xb (rho_add h0))
theorem none_ok {z : Nat} (hl : z < 2 ^ 64) (hn : Num z) : OffOk (FZ 4386506037058863104) (0 + FZ z + FZ (fneg z)) := by
  have nz := neg_num hl hn
  refine off_of (u := 0) ?_ B49 ?_ (p2_le (by decide))
  · rw [Rat.intCast_add, Rat.intCast_add, FZ_val hl hn, FZ_val (neg_lt hl) nz.1, nz.2, show ((0 : Int) : Rat) = 0 from rfl]; grind
  · rw [Rat.abs_zero]; exact p2_nonneg _
end Go.Proofs.Ygctaf
