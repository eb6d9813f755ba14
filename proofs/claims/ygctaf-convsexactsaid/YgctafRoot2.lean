/-
  EVERY ENTRY OF EVERY TABLE LIES WITHIN FOUR ROUNDINGS OF A POWER OF THE LEVEL'S ROOT.
-/
import Derived.Test.YgctafRoot
namespace Go.Proofs.Ygctaf
open Ieee

theorem wz_val {x : Nat} {a : Int} (h : wz x = some a) : V x = (a : Rat) * zU := by
  unfold wz at h
  unfold V
  split at h
  · rename_i s m i hr
    rw [hr]
    split at h
    · rename_i hm
      subst hm
      cases h
      show sgn s * (((0 : Nat) : Rat) * p2 i) = ((0 : Int) : Rat) * zU
      rw [show ((0 : Nat) : Rat) = 0 from rfl, show ((0 : Int) : Rat) = 0 from rfl]; grind
    · split at h
      · rename_i hi
        cases h
        rw [← signed_val s m i (-240) hi]; rfl
      · cases h
  · cases h

theorem near_val {w : Nat × Nat} {z : Int × Int} (h : nearOk w z = true) : Len ((cv w).sub (zc z)) (15/4 * EE) := by
  unfold nearOk at h
  split at h
  · rename_i a b ha hb
    have h1 := wz_val ha
    have h2 := wz_val hb
    rw [decide_eq_true_eq] at h
    have h3 := Rat.intCast_le_intCast.2 h
    simp only [Rat.intCast_add, Rat.intCast_mul, Rat.intCast_sub] at h3
    have e : ((2 ^ 374 : Int) : Rat) * (zU * zU) = EE * EE := by unfold zU EE; decide +kernel
    have e2 : ((14 : Int) : Rat) = 14 := rfl
    rw [e2] at h3
    unfold Len cv zc Cx.sub Cx.nsq
    simp only
    rw [h1, h2]
    have hE := EE_pos
    have h4 := Rat.mul_le_mul_of_nonneg_right h3 (sq_nonneg zU)
    have hq := sq_nonneg EE
    generalize ((2 ^ 374 : Int) : Rat) = P at *
    generalize (a : Rat) = a at *
    generalize (b : Rat) = b at *
    generalize (z.1 : Rat) = c at *
    generalize (z.2 : Rat) = d at *
    generalize zU = u at *
    have e3 : 14 * P * (u * u) = 14 * (P * (u * u)) := by grind
    rw [e3, e] at h4
    refine ⟨by grind, ?_⟩
    grind
  · cases h

theorem tab11_near (j : Nat) (hj : j < 2 ^ 10) : NearRoot (cv (tabL 11 10 j)) (ze.pow j) := by
  refine ⟨Cx.nsq_pow ze_unit j, ?_⟩
  have hl : j < (tabList 10).length := by rw [tabList_len]; exact hj
  have hz : j < (zl 10).length := by rw [zl_len]; exact hj
  have ha := near_all
  rw [← tabE10] at ha
  have hm : j < ((tabList 10).zip (zl 10)).length := by rw [List.length_zip]; omega
  have h1 := List.all_eq_true.1 ha _ (List.getElem_mem hm)
  rw [List.getElem_zip] at h1
  simp only at h1
  rw [tabList_get 10 j hl, zl_get 10 j hz] at h1
  have h2 := (near_val h1).tri (zL_near 10 (by omega) j hj)
  have h3 : 15/4 * EE + rB 10 ≤ 4 * EE := by unfold rB EE; decide +kernel
  have h4 := (h2.mono h3).2
  grind

/-- The root of level k. -/
def zeK (k : Nat) : Cx := ze.pow (2 ^ (11 - k))
theorem zeK_unit (k : Nat) : (zeK k).nsq = 1 := Cx.nsq_pow ze_unit _
theorem zeK_pow_unit (k m : Nat) : ((zeK k).pow m).nsq = 1 := Cx.nsq_pow (zeK_unit k) m
theorem zeK_half (k : Nat) (h1 : 1 ≤ k) (h2 : k ≤ 11) : Len (((zeK k).pow (2 ^ (k - 1))).add .one) tH := by
  unfold zeK
  rw [← Cx.pow_mul, ← Nat.pow_add, show 11 - k + (k - 1) = 10 from by omega]
  exact ze_half
theorem tab_down (d : Nat) : ∀ (k b j : Nat), k + d = 11 → b + d = 10 → j < 2 ^ b → tabL k b j = tabL 11 10 (j * 2 ^ d) := by
  induction d with
  | zero => intro k b j h1 h2 h3
            have e1 : k = 11 := by omega
            have e2 : b = 10 := by omega
            subst e1 e2; rw [Nat.pow_zero, Nat.mul_one]
  | succ d ih =>
    intro k b j h1 h2 h3
    rw [← tab_up k b j h3, ih (k + 1) (b + 1) (2 * j) (by omega) (by omega) (by rw [Nat.pow_succ]; omega), Nat.pow_succ]
    congr 1
    rw [Nat.mul_comm 2 j, Nat.mul_assoc, Nat.mul_comm 2]
theorem tab_near (k j : Nat) (h1 : 1 ≤ k) (h2 : k ≤ 11) (hj : j < 2 ^ (k - 1)) : NearRoot (cv (tabF k j)) ((zeK k).pow j) := by
  unfold tabF
  rw [tab_down (11 - k) k (k - 1) j (by omega) (by omega) hj]
  unfold zeK
  rw [← Cx.pow_mul, Nat.mul_comm (2 ^ (11 - k))]
  refine tab11_near _ ?_
  have : 2 ^ (k - 1) * 2 ^ (11 - k) = 2 ^ 10 := by rw [← Nat.pow_add]; congr 1; omega
  rw [← this]
  exact Nat.mul_lt_mul_of_pos_right hj (Nat.two_pow_pos _)

theorem NearRoot.conj {w om : Cx} (h : NearRoot w om) : NearRoot w.conj om.conj :=
  ⟨by rw [Cx.nsq_conj]; exact h.unit, by rw [← Cx.conj_sub, Cx.nsq_conj]; exact h.near⟩
theorem cv_conj {x : Nat × Nat} {e : Int} (h : Bd e x) : cv (cconj x) = (cv x).conj :=
  Cx.eq rfl (by show V (fneg x.2) = - V x.2; exact (neg_num h.im.lt h.im.num).2)
theorem tab_near_conj (k j : Nat) (h1 : 1 ≤ k) (h2 : k ≤ 11) (hj : j < 2 ^ (k - 1)) : NearRoot (cv (cconj (tabF k j))) ((zeK k).conj.pow j) := by
  rw [cv_conj (x := tabF k j) (tab_bd k (k - 1) j h1 h2 (by omega) hj), ← Cx.conj_pow]
  exact (tab_near k j h1 h2 hj).conj
end Go.Proofs.Ygctaf
