/-
  THE INVERSE OF ANY LENGTH: its error. law.AnyBack: the plain law.
-/
import Derived.Test.YgctafOrth
import Derived.Test.YgctafW38
import Derived.Test.YgctafBackExact
namespace Go.Proofs.Ygctaf
open Ieee

theorem div_part {n x : Nat} {e : Int} {L : Rat} (h0 : 0 < n) (hn : n ≤ 1024) (bx : B1 e x) (he : e ≤ 900) (hl : (V x).abs ≤ (n : Rat) * L) :
    Num (fdiv x (fint (n : Int))) ∧ fdiv x (fint (n : Int)) < 2 ^ 64 ∧ (V (fdiv x (fint (n : Int))) - (n : Rat)⁻¹ * V x).abs ≤ p2 (-52) * L + p2 (-1075) := by
  obtain ⟨fb, fv⟩ := fintN_val n (by omega)
  have hp : (0 : Rat) < n := Rat.natCast_pos.2 h0
  have hne : V (fint (n : Int)) ≠ 0 := by rw [fv]; exact Rat.ne_of_gt hp
  have ip := Rat.le_of_lt (Rat.inv_pos.2 hp)
  have ic := Rat.mul_inv_cancel _ (Rat.ne_of_gt hp)
  have e1 : V x / V (fint (n : Int)) = (n : Rat)⁻¹ * V x := by rw [Rat.div_def, fv, Rat.mul_comm]
  have ea : ((n : Rat)⁻¹ * V x).abs = (n : Rat)⁻¹ * (V x).abs := by rw [abs_mul, Rat.abs_of_nonneg ip]
  have q : (n : Rat)⁻¹ * (V x).abs ≤ L := by
    have := Rat.mul_le_mul_of_nonneg_left hl ip
    rw [← Rat.mul_assoc, Rat.mul_comm (n : Rat)⁻¹ (n : Rat), ic, Rat.one_mul] at this
    exact this
  have i1 : (n : Rat)⁻¹ ≤ 1 := by
    have h1 : (1 : Rat) ≤ n := by
      have := Rat.natCast_le_natCast.2 (show 1 ≤ n from h0)
      exact this
    have := Rat.mul_le_mul_of_nonneg_left h1 ip
    rw [Rat.mul_one, Rat.mul_comm, ic] at this
    exact this
  have hb : (V x / V (fint (n : Int))).abs < p2 1022 := by
    rw [e1, ea]
    have := Rat.mul_le_mul_of_nonneg_right i1 (Rat.abs_nonneg (x := V x))
    rw [Rat.one_mul] at this
    have h2 : p2 900 < p2 1022 := by decide +kernel
    have h3 := Rat.le_trans (Rat.le_trans this bx.le) (p2_le he)
    generalize p2 900 = u at *
    generalize p2 1022 = v at *
    generalize (n : Rat)⁻¹ * (V x).abs = y at *
    clear this
    grind
  obtain ⟨a, b, c⟩ := div_near bx.num fb.num hne hb
  rw [e1, ea] at c
  refine ⟨a, b, Rat.le_trans c ?_⟩
  have := Rat.mul_le_mul_of_nonneg_left q (p2_nonneg (-52))
  generalize p2 (-52) * L = u at *
  generalize p2 (-52) * ((n : Rat)⁻¹ * (V x).abs) = v at *
  grind
theorem cdivc_err {n : Nat} {z : Nat × Nat} {e : Int} {L : Rat} (h0 : 0 < n) (hn : n ≤ 1024) (bz : Bd e z) (he : e ≤ 900) (lz : Len (cv z) ((n : Rat) * L)) :
    Nm (cdivc n z) ∧ Len ((cv (cdivc n z)).sub (Cx.scale (n : Rat)⁻¹ (cv z).conj)) (2 * (p2 (-52) * L + p2 (-1075))) := by
  obtain ⟨p1, p2'⟩ := lz.parts
  obtain ⟨a1, b1, c1⟩ := div_part h0 hn bz.re he p1
  obtain ⟨a2, b2, c2⟩ := div_part h0 hn bz.im he p2'
  have m := neg_num b2 a2
  refine ⟨⟨a1, b1, m.1, neg_lt b2⟩, Len.of_parts c1 ?_⟩
  show (V (fneg (fdiv z.2 (fint (n : Int)))) - (n : Rat)⁻¹ * (-(V z.2))).abs ≤ _
  rw [m.2, show -V (fdiv z.2 (fint (n : Int))) - (n : Rat)⁻¹ * (-(V z.2)) = -(V (fdiv z.2 (fint (n : Int))) - (n : Rat)⁻¹ * V z.2) from by grind, Rat.abs_neg]
  exact c2
theorem conj_dft (z : Cx) (n : Nat) (y : Nat → Cx) (l : Nat) : (dft z n (fun i => (y i).conj) l).conj = dft z.conj n y l := by
  unfold dft
  induction n with
  | zero => exact Cx.eq rfl (by show -(0 : Rat) = 0; grind)
  | succ n ih => rw [sumC_succ, sumC_succ, Cx.conj_add, ih, Cx.conj_mul, Cx.conj_conj, Cx.conj_pow]
theorem scale_inv {n : Nat} (h0 : 0 < n) (a c : Cx) : Cx.scale (n : Rat)⁻¹ (a.sub (Cx.scale (n : Rat) c)) = (Cx.scale (n : Rat)⁻¹ a).sub c := by
  have ic : (n : Rat)⁻¹ * (n : Rat) = 1 := by rw [Rat.mul_comm]; exact Rat.mul_inv_cancel _ (Rat.ne_of_gt (Rat.natCast_pos.2 h0))
  generalize (n : Rat)⁻¹ = i at *
  generalize (n : Rat) = m at *
  unfold Cx.scale Cx.sub
  refine Cx.eq ?_ ?_
  · show i * (a.re - m * c.re) = i * a.re - c.re
    rw [show i * (a.re - m * c.re) = i * a.re - (i * m) * c.re from by grind, ic, Rat.one_mul]
  · show i * (a.im - m * c.im) = i * a.im - c.im
    rw [show i * (a.im - m * c.im) = i * a.im - (i * m) * c.im from by grind, ic, Rat.one_mul]
theorem ia_num1 {n M b p h D : Rat} (hn0 : 0 ≤ n) (hn : n ≤ 1024) (hM : 0 ≤ M) (hp : 0 ≤ p) (hD : b * M + 1024 * (M * p) + h ≤ D) : b * (n * M) + n * (n * M * p) + n * h ≤ n * D := by
  have a := Rat.mul_le_mul_of_nonneg_right hn (Rat.mul_nonneg hM hp)
  have c := Rat.mul_le_mul_of_nonneg_left (show b * M + n * (M * p) + h ≤ D by grind) hn0
  grind
/-- The inverse: how far from c, where the transform of the words is n c but for n h. -/
theorem ia_err {q n : Nat} {e : Int} {X : Nat → Nat × Nat} {c : Cx} {M L h D : Rat} (h0 : 0 < n) (hn : n ≤ 1024) (hq : q ≤ 10) (hN : 2 * n ≤ 2 ^ (q + 1) + 1) (he0 : 0 ≤ e) (he1 : e ≤ 500) (bX : ∀ i, i < n → Bd e (X i))
    (hM : p2 (-400) ≤ M) (lX : ∀ i, i < n → Len (cv (X i)) ((n : Rat) * M)) {l : Nat} (hl : l < n) (H : Len ((dft (zn n).conj n (fun j => cv (X j)) l).sub (Cx.scale (n : Rat) c)) ((n : Rat) * h)) (lc : Len c L) (hD : bE * M + 1024 * (M * p2 (-67)) + h ≤ D) :
    Nm (iaF q n X (chF n) l) ∧ Len ((cv (iaF q n X (chF n) l)).sub c) (2 * (p2 (-52) * (D + L) + p2 (-1075)) + D) := by
  have hM0 := Rat.le_trans (p2_nonneg (-400)) hM
  have hp : (0 : Rat) < n := Rat.natCast_pos.2 h0
  have hp1 : (1 : Rat) ≤ n := by
    have := Rat.natCast_le_natCast.2 (show 1 ≤ n from h0)
    exact this
  have hp2 : (n : Rat) ≤ 1024 := by
    have := Rat.natCast_le_natCast.2 hn
    exact this
  have hnM : p2 (-400) ≤ (n : Rat) * M := by
    have := Rat.mul_le_mul_of_nonneg_right hp1 hM0
    rw [Rat.one_mul] at this
    exact Rat.le_trans hM this
  have bC : ∀ i, i < n → Bd e (cconj (X i)) := fun i hi => Bd.conj (bX i hi)
  have lC : ∀ i, i < n → Len (cv (cconj (X i))) ((n : Rat) * M) := fun i hi => by rw [cv_conj (bX i hi)]; exact (lX i hi).conj
  have b0 := blF_bd (x := fun i => cconj (X i)) hq hN he0 he1 bC (fun i _ => chF_bd (j := i) h0 hn) l hl
  have b1 := bl_err h0 hn hq hN he0 he1 bC hnM lC l hl
  have b2 := any_dft h0 hn lC l hl
  have b3 := conj_near (b1.tri b2)
  have ed : dft (zn n) n (fun i => cv (cconj (X i))) l = dft (zn n) n (fun i => (cv (X i)).conj) l := dft_congr (fun i hi => cv_conj (bX i hi)) l
  rw [ed, conj_dft] at b3
  have b4 := (b3.tri H).mono (ia_num1 (Rat.le_of_lt hp) hp2 hM0 (p2_nonneg (-67)) hD)
  have ip := Rat.le_of_lt (Rat.inv_pos.2 hp)
  have b5 := b4.scale ip
  rw [scale_inv h0] at b5
  have eD : (n : Rat)⁻¹ * ((n : Rat) * D) = D := by
    rw [← Rat.mul_assoc, Rat.mul_comm (n : Rat)⁻¹ (n : Rat), Rat.mul_inv_cancel _ (Rat.ne_of_gt hp), Rat.one_mul]
  rw [eD] at b5
  have b6 : Len (cv (blF q n (fun i => cconj (X i)) (chF n) l)) ((n : Rat) * (D + L)) := by
    have a := (b4.of_sub (lc.scale (Rat.le_of_lt hp))).conj
    rw [Cx.conj_conj] at a
    exact a.mono (by rw [Rat.mul_add]; exact Rat.le_refl)
  obtain ⟨g1, g2⟩ := cdivc_err h0 hn b0 (by omega) b6
  exact ⟨g1, g2.tri b5⟩

theorem ab_num {a b n t u h : Rat} (hn0 : 0 ≤ n) (hn : n ≤ 1024) (ht : 0 ≤ t) (h1 : a + 1024 * t + b ≤ h) (hu : u = n * (a + n * t) + n * b) : u ≤ n * h := by
  have q := Rat.mul_le_mul_of_nonneg_right hn ht
  have := Rat.mul_le_mul_of_nonneg_left (show a + n * t + b ≤ h by grind) hn0
  grind
theorem anyBack_right {q n : Nat} {z : Nat → Int} (h0 : 0 < n) (hn : n ≤ 1024) (hq : q ≤ 10) (hN : 2 * n ≤ 2 ^ (q + 1) + 1) (hz : ∀ i, i < n → 0 ≤ z i ∧ z i < 1048576) (l : Nat) (hl : l < n) :
    Nm (iaF q n (blF q n (intF z) (chF n)) (chF n) l) ∧ Len ((cv (iaF q n (blF q n (intF z) (chF n)) (chF n) l)).sub (rC (z l))) (1/8) := by
  have hp : (0 : Rat) < n := Rat.natCast_pos.2 h0
  have hp2 : (n : Rat) ≤ 1024 := by
    have := Rat.natCast_le_natCast.2 hn
    exact this
  have hp1 : (1 : Rat) ≤ n := by
    have := Rat.natCast_le_natCast.2 (show 1 ≤ n from h0)
    exact this
  have hF : ∀ i, i < n → Bd 20 (intF z i) := fun i hi => intF_bd (hz i hi)
  have hlen : ∀ i, i < n → Len (cv (intF z i)) (p2 20) := fun i hi => by
    rw [intF_cv (hz i hi)]
    have := hz i hi
    exact (rC_len (n := z i) (B := 1048576) (by omega)).mono (by decide +kernel)
  have bX := blF_bd hq hN (e := 20) (by decide) (by decide) hF (fun i _ => chF_bd (j := i) h0 hn)
  have f1 : ∀ j, j < n → Len ((cv (blF q n (intF z) (chF n) j)).sub (dft (zn n) n (fun i => cv (intF z i)) j)) (bE * p2 20 + (n : Rat) * (p2 20 * p2 (-67))) := fun j hj =>
    (bl_err h0 hn hq hN (by decide) (by decide) hF (p2_le (by decide)) hlen j hj).tri (any_dft h0 hn hlen j hj)
  have lX : ∀ j, j < n → Len (cv (blF q n (intF z) (chF n) j)) ((n : Rat) * p2 21) := fun j hj => by
    refine ((f1 j hj).of_sub (dft_len (zn_unit n) hlen j)).mono ?_
    have a := Rat.mul_le_mul_of_nonneg_right hp2 (show 0 ≤ p2 20 * p2 (-67) by decide +kernel)
    have b : bE * p2 20 + 1024 * (p2 20 * p2 (-67)) ≤ 1 := by unfold bE; decide +kernel
    have c : p2 21 = 2 * p2 20 := by decide +kernel
    have d := Rat.mul_le_mul_of_nonneg_right hp1 (show 0 ≤ p2 20 by decide +kernel)
    have d2 : 1 ≤ p2 20 := by decide +kernel
    rw [c]
    generalize bE * p2 20 = u at *
    generalize p2 20 * p2 (-67) = v at *
    generalize p2 20 = w at *
    grind
  have H : Len ((dft (zn n).conj n (fun j => cv (blF q n (intF z) (chF n) j)) l).sub (Cx.scale (n : Rat) (rC (z l)))) ((n : Rat) * (1/50)) := by
    have a := dft_len (z := (zn n).conj) (by rw [Cx.nsq_conj]; exact zn_unit n) f1 l
    rw [← dft_diff] at a
    have b := any_back hn hlen l hl
    rw [intF_cv (hz l hl)] at b
    refine (a.tri b).mono (ab_num (a := bE * p2 20) (t := p2 20 * p2 (-67)) (b := p2 20 * tG) (Rat.le_of_lt hp) hp2 (by decide +kernel) (by unfold bE tG; decide +kernel) rfl)
  obtain ⟨g1, g2⟩ := ia_err h0 hn hq hN (e := 231) (M := p2 21) (D := 1/20) (by decide) (by decide) bX (p2_le (by decide)) lX hl H (by rw [← intF_cv (hz l hl)]; exact hlen l hl) (by unfold bE; decide +kernel)
  exact ⟨g1, g2.mono (by decide +kernel)⟩
theorem anyBack_near {q n : Nat} {z : Nat → Int} (h0 : 0 < n) (hn : n ≤ 1024) (hq : q ≤ 10) (hN : 2 * n ≤ 2 ^ (q + 1) + 1) (hz : ∀ i, i < n → 0 ≤ z i ∧ z i < 1048576) (l : Nat) (hl : l < n) :
    nearF (iaF q n (blF q n (intF z) (chF n)) (chF n) l).1 = (z l, true) ∧ atMostB (iaF q n (blF q n (intF z) (chF n)) (chF n) l).2 (-2) = true ∧ (iaF q n (blF q n (intF z) (chF n)) (chF n) l).2 < 2 ^ 64 := by
  obtain ⟨hb, h⟩ := anyBack_right h0 hn hq hN hz l hl
  obtain ⟨g1, g2⟩ := h.parts
  have hzl := hz l hl
  refine ⟨nearF_of_near hb.n1 g1 (by omega), ?_, hb.l2⟩
  rw [atMostB_iff _ hb.l2]
  refine ⟨hb.n2, ?_⟩
  have g3 : (V (iaF q n (blF q n (intF z) (chF n)) (chF n) l).2 - 0).abs ≤ 1/8 := g2
  rw [show V (iaF q n (blF q n (intF z) (chF n)) (chF n) l).2 - 0 = V (iaF q n (blF q n (intF z) (chF n)) (chF n) l).2 from by grind] at g3
  exact Rat.le_trans g3 (by decide +kernel)
end Go.Proofs.Ygctaf
