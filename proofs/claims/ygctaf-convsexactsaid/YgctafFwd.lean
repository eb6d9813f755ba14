/-
  Forward AND Inverse AGAINST THE TRUE SUMS: how far, point by point.
-/
import Derived.Test.YgctafRoot2
import Derived.Test.YgctafNum3
import Derived.Test.YgctafW11
namespace Go.Proofs.Ygctaf
open Ieee

theorem S2_le_len {n : Nat} {x : Nat → Cx} {L : Rat} (h : ∀ i, i < n → Len (x i) L) : S2 n x ≤ (n : Rat) * (L * L) := by
  unfold S2
  rw [← sumR_const]
  exact sumR_le fun i hi => (h i hi).2

theorem part_all (k : Nat) (x : Nat → Cx) : part k x k 0 = x := by
  funext i
  unfold part
  rw [Nat.sub_self]
  show x (revN 0 0 + i * 1) = x i
  rw [Nat.mul_one]
  have : revN 0 0 = 0 := rfl
  rw [this, Nat.zero_add]

theorem fwd_len {k : Nat} {T f : Nat → Nat × Nat} {om : Nat → Cx} {e : Int} {L : Rat} (hk1 : 1 ≤ k) (hk : k ≤ 11) (h0 : 0 ≤ e) (h1 : e ≤ 800)
    (hT : ∀ i, i < 2 ^ (k - 1) → Bd 1 (T i)) (hF : ∀ i, i < 2 ^ k → Bd e (f i)) (hu : ∀ m, (om m).nsq = 1) (hr : ∀ j, j < 2 ^ (k - 1) → NearRoot (cv (T j)) (om j))
    (hL : p2 (-1015) ≤ L) (hf : ∀ i, i < 2 ^ k → Len (cv (f i)) L) (j : Nat) (hj : j < 2 ^ k) :
    Len ((cv (fwdF k T f j)).sub (pip om k 1 (fun i => cv (f i)) j)) (p2 (-44) * (p2 k * L)) := by
  have h := stages_err hk1 hk h0 h1 hT hF hu hr k (Nat.le_refl _) 0 (by rw [Nat.sub_self]; decide)
  simp only [Nat.zero_mul, Nat.zero_add, Nat.sub_self, Nat.pow_zero] at h
  unfold en at h
  rw [part_all] at h
  have h2 := S2_ge (n := 2 ^ k) (fun j => (cv (fwdF k T f j)).sub (pip om k 1 (fun i => cv (f i)) j)) hj
  have h3 : S2 (2 ^ k) (fun j => (cv (fwdF k T f j)).sub (pip om k 1 (fun i => cv (f i)) j)) ≤ (an k : Rat) * (EE * EE) * (p2 k * (S2 (2 ^ k) (fun i => cv (f i)) + ((2 ^ k : Nat) : Rat) * MU)) := h
  have h4 := S2_le_len hf
  have hLp : 0 ≤ L := Rat.le_trans (p2_nonneg _) hL
  have h5 : MU ≤ L * L := by
    have : MU = p2 (-1015) * p2 (-1015) := by unfold MU; rw [← p2_add]; rfl
    rw [this]
    exact Rat.le_trans (Rat.mul_le_mul_of_nonneg_left hL (p2_nonneg _)) (Rat.mul_le_mul_of_nonneg_right hL hLp)
  have h6 : ((an k : Nat) : Rat) ≤ 131072 := by
    have := Rat.natCast_le_natCast.2 (an_11 k hk); exact this
  have hP := p2_nat k
  have hp := p2_pos k
  rw [← hP] at h3 h4
  refine ⟨Rat.mul_nonneg (p2_nonneg _) (Rat.mul_nonneg (p2_nonneg _) hLp), Rat.le_trans h2 (Rat.le_trans h3 ?_)⟩
  have e1 : 262144 * (EE * EE) = p2 (-44) * p2 (-44) := by unfold EE; decide +kernel
  have hE := EE2_nonneg
  have hm := Rat.le_of_lt MU_pos
  have hs := S2_nonneg (2 ^ k) (fun i => cv (f i))
  clear h h2 h3 hP hj hF hr hu hT hf
  generalize S2 (2 ^ k) (fun i => cv (f i)) = S at *
  generalize p2 (k : Int) = P at *
  generalize (an k : Rat) = A at *
  generalize p2 (-44) = c at *
  generalize EE * EE = E at *
  generalize MU = m at *
  have hP0 := Rat.le_of_lt hp
  have a1 : S + P * m ≤ 2 * (P * (L * L)) := by
    have := Rat.mul_le_mul_of_nonneg_left h5 hP0
    grind
  have a2 : P * (S + P * m) ≤ P * (2 * (P * (L * L))) := Rat.mul_le_mul_of_nonneg_left a1 hP0
  have hLL := sq_nonneg L
  have a3 : 0 ≤ P * (2 * (P * (L * L))) := by
    have := Rat.mul_nonneg hP0 hLL
    exact Rat.mul_nonneg hP0 (by grind)
  have a4 : A * E ≤ 131072 * E := Rat.mul_le_mul_of_nonneg_right h6 hE
  have a5 : 0 ≤ P * (S + P * m) := Rat.mul_nonneg hP0 (by have := Rat.mul_nonneg hP0 hm; grind)
  have a6 : A * E * (P * (S + P * m)) ≤ 131072 * E * (P * (2 * (P * (L * L)))) :=
    Rat.le_trans (Rat.mul_le_mul_of_nonneg_right a4 a5) (Rat.mul_le_mul_of_nonneg_left a2 (by grind))
  have e2 : 131072 * E * (P * (2 * (P * (L * L)))) = 262144 * E * (P * P * (L * L)) := by grind
  rw [e2, e1] at a6
  have e3 : c * c * (P * P * (L * L)) = c * (P * L) * (c * (P * L)) := by grind
  rw [e3] at a6
  exact a6

theorem fwd_gen {k : Nat} {T f : Nat → Nat × Nat} {z : Cx} {e : Int} {L : Rat} (hk1 : 1 ≤ k) (hk : k ≤ 11) (h0 : 0 ≤ e) (h1 : e ≤ 800)
    (hT : ∀ i, i < 2 ^ (k - 1) → Bd 1 (T i)) (hF : ∀ i, i < 2 ^ k → Bd e (f i)) (hu : z.nsq = 1) (hr : ∀ j, j < 2 ^ (k - 1) → NearRoot (cv (T j)) (z.pow j))
    (hth : Len ((z.pow (2 ^ (k - 1))).add .one) tH) (hL : p2 (-1015) ≤ L) (hf : ∀ i, i < 2 ^ k → Len (cv (f i)) L) (j : Nat) (hj : j < 2 ^ k) :
    Len ((cv (fwdF k T f j)).sub (dft z (2 ^ k) (fun i => cv (f i)) j)) (p2 (-43) * (p2 k * L)) := by
  have a := fwd_len hk1 hk h0 h1 hT hF (om := fun m => z.pow m) (fun m => Cx.nsq_pow hu m) hr hL hf j hj
  have b := pip_dft hu k hth k 1 (fun i => cv (f i)) (Nat.le_refl _) (by rw [Nat.sub_self]) hf j hj
  rw [Cx.pow_one] at b
  refine (a.tri b).mono ?_
  have hLp : 0 ≤ L := Rat.le_trans (p2_nonneg _) hL
  have c : (k : Rat) * (p2 k * tH) ≤ p2 (-44) := by
    have h : ∀ k : Fin 12, (k.1 : Rat) * (p2 k.1 * tH) ≤ p2 (-44) := by unfold tH; decide +kernel
    exact h ⟨k, by omega⟩
  have hp := p2_nonneg k
  have e1 : p2 (-43) = 2 * p2 (-44) := by decide +kernel
  rw [e1]
  have d := Rat.mul_le_mul_of_nonneg_right c (Rat.mul_nonneg hp hLp)
  generalize p2 (k : Int) = P at *
  generalize p2 (-44) = q at *
  grind

theorem fwd_right {k : Nat} {f : Nat → Nat × Nat} {e : Int} {L : Rat} (hk1 : 1 ≤ k) (hk : k ≤ 11) (h0 : 0 ≤ e) (h1 : e ≤ 800)
    (hF : ∀ i, i < 2 ^ k → Bd e (f i)) (hL : p2 (-1015) ≤ L) (hf : ∀ i, i < 2 ^ k → Len (cv (f i)) L) (j : Nat) (hj : j < 2 ^ k) :
    Len ((cv (fwdF k (tabF k) f j)).sub (dft (zeK k) (2 ^ k) (fun i => cv (f i)) j)) (p2 (-43) * (p2 k * L)) :=
  fwd_gen hk1 hk h0 h1 (fun i hi => tab_bd k (k - 1) i hk1 hk (by omega) hi) hF (zeK_unit k) (fun j hj => tab_near k j hk1 hk hj) (zeK_half k hk1 hk) hL hf j hj

theorem zeK_half_conj (k : Nat) (h1 : 1 ≤ k) (h2 : k ≤ 11) : Len (((zeK k).conj.pow (2 ^ (k - 1))).add .one) tH := by
  rw [← Cx.conj_pow]
  have e : ((zeK k).pow (2 ^ (k - 1))).conj.add .one = (((zeK k).pow (2 ^ (k - 1))).add .one).conj := Cx.eq rfl (by unfold Cx.add Cx.conj Cx.one; simp only; grind)
  rw [e]
  exact (zeK_half k h1 h2).conj

theorem fwd_right_conj {k : Nat} {f : Nat → Nat × Nat} {e : Int} {L : Rat} (hk1 : 1 ≤ k) (hk : k ≤ 11) (h0 : 0 ≤ e) (h1 : e ≤ 800)
    (hF : ∀ i, i < 2 ^ k → Bd e (f i)) (hL : p2 (-1015) ≤ L) (hf : ∀ i, i < 2 ^ k → Len (cv (f i)) L) (j : Nat) (hj : j < 2 ^ k) :
    Len ((cv (fwdF k (fun i => cconj (tabF k i)) f j)).sub (dft (zeK k).conj (2 ^ k) (fun i => cv (f i)) j)) (p2 (-43) * (p2 k * L)) :=
  fwd_gen hk1 hk h0 h1 (fun i hi => Bd.conj (x := tabF k i) (tab_bd k (k - 1) i hk1 hk (by omega) hi)) hF (by rw [Cx.nsq_conj]; exact zeK_unit k) (fun j hj => tab_near_conj k j hk1 hk hj) (zeK_half_conj k hk1 hk) hL hf j hj

theorem Len.of_parts {z : Cx} {r : Rat} (h1 : z.re.abs ≤ r) (h2 : z.im.abs ≤ r) : Len z (2 * r) := by
  have h0 : 0 ≤ r := Rat.le_trans Rat.abs_nonneg h1
  have a := sq_le_of_abs h1
  have b := sq_le_of_abs h2
  refine ⟨by grind, ?_⟩
  unfold Cx.nsq
  have := sq_nonneg r
  grind

theorem dft_len {z : Cx} {n : Nat} {y : Nat → Cx} {L : Rat} (hz : z.nsq = 1) (h : ∀ i, i < n → Len (y i) L) (j : Nat) : Len (dft z n y j) ((n : Rat) * L) := by
  unfold dft
  refine Len.sum_const fun i hi => ?_
  have := (h i hi).mul (Len.unit (Cx.nsq_pow hz (i * j)))
  rw [Rat.mul_one] at this; exact this
theorem dft_diff (z : Cx) (n : Nat) (x y : Nat → Cx) (j : Nat) : (dft z n x j).sub (dft z n y j) = dft z n (fun i => (x i).sub (y i)) j := by
  unfold dft
  rw [← sumC_sub]
  exact sumC_congr fun i _ => (Cx.sub_mul _ _ _).symm
theorem dft_congr {z : Cx} {n : Nat} {x y : Nat → Cx} (h : ∀ i, i < n → x i = y i) (j : Nat) : dft z n x j = dft z n y j := by
  unfold dft
  exact sumC_congr fun i hi => by rw [h i hi]
theorem Len.scale {z : Cx} {r c : Rat} (hc : 0 ≤ c) (h : Len z r) : Len (Cx.scale c z) (c * r) := by
  refine ⟨Rat.mul_nonneg hc h.1, ?_⟩
  rw [Cx.nsq_scale]
  have := Rat.mul_le_mul_of_nonneg_left h.2 (sq_nonneg c)
  grind

theorem divn_err {k : Nat} {x : Nat × Nat} {e : Int} {L : Rat} (hk : k ≤ 11) (h0 : 0 ≤ e) (h1 : e ≤ 1000) (hx : Bd e x) (hL : p2 (-1015) ≤ L) (hl : Len (Cx.scale (p2 (-(k : Int))) (cv x)) (2 * L)) :
    Len ((cv (cdivn (2 ^ k) x)).sub (Cx.scale (p2 (-(k : Int))) (cv x))) (p2 (-48) * L) := by
  have hv := fint_pow_val k hk
  have key : ∀ x : Nat, B1 e x → (p2 (-(k : Int)) * V x).abs ≤ 2 * L → (V (fdiv x (fint ((2 ^ k : Nat) : Int))) - p2 (-(k : Int)) * V x).abs ≤ p2 (-49) * L := by
    intro x hx hl
    have hb : (V x / V (fint ((2 ^ k : Nat) : Int))).abs ≤ p2 e := by rw [hv.2]; exact Rat.le_trans (div_p2_abs _ _) hx.le
    have r := (div_rounded hx.num (fint_pow k hk) (le_lt_1023 hb (by omega))).rel
    rw [hv.2, div_p2, Rat.mul_comm (V x)] at r
    refine Rat.le_trans r ?_
    have a := Rat.mul_le_mul_of_nonneg_left hl (p2_nonneg (-53))
    have b : p2 (-1075) ≤ p2 (-53) * L := by
      have := Rat.mul_le_mul_of_nonneg_left hL (p2_nonneg (-53))
      rw [← p2_add] at this
      exact Rat.le_trans (p2_le (by decide)) this
    have hLp : 0 ≤ L := Rat.le_trans (p2_nonneg _) hL
    have e1 : p2 (-49) = 16 * p2 (-53) := by decide +kernel
    rw [e1]
    have c := Rat.mul_nonneg (p2_nonneg (-53)) hLp
    generalize p2 (-53) = q at *
    generalize p2 (-(k : Int)) * V x = y at *
    grind
  have h := hl.parts
  have := Len.of_parts (z := (cv (cdivn (2 ^ k) x)).sub (Cx.scale (p2 (-(k : Int))) (cv x))) (key x.1 hx.re h.1) (key x.2 hx.im h.2)
  refine this.mono ?_
  have e1 : p2 (-48) = 2 * p2 (-49) := by decide +kernel
  rw [e1]; grind

theorem inv_right {k : Nat} {f : Nat → Nat × Nat} {c : Nat → Cx} {e : Int} {L Lc eta : Rat} (hk1 : 1 ≤ k) (hk : k ≤ 11) (h0 : 0 ≤ e) (h1 : e ≤ 800)
    (hF : ∀ i, i < 2 ^ k → Bd e (f i)) (hL : p2 (-1015) ≤ L) (hf : ∀ i, i < 2 ^ k → Len (cv (f i)) L) (hc : ∀ i, i < 2 ^ k → Len (c i) Lc)
    (hD : ∀ j, j < 2 ^ k → Len ((cv (f j)).sub (dft (zeK k) (2 ^ k) c j)) eta) (l : Nat) (hl : l < 2 ^ k) :
    Len ((cv (invF k (tabF k) f l)).sub (c l)) (eta + p2 (-42) * L + p2 (-100) * Lc) := by
  have hLp : 0 ≤ L := Rat.le_trans (p2_nonneg _) hL
  have hLc : 0 ≤ Lc := (hc l hl).1
  have hkk : k - 1 + 1 = k := by omega
  have hzc : (zeK k).conj.nsq = 1 := by rw [Cx.nsq_conj]; exact zeK_unit k
  have a := fwd_right_conj hk1 hk h0 h1 hF hL hf l hl
  have b : Len ((dft (zeK k).conj (2 ^ k) (fun i => cv (f i)) l).sub (dft (zeK k).conj (2 ^ k) (dft (zeK k) (2 ^ k) c) l)) (p2 k * eta) := by
    rw [dft_diff, p2_nat]
    exact dft_len hzc hD l
  have d := dft_back (k - 1) (zeK_unit k) (zeK_half k hk1 hk) c (by rw [hkk]; exact hc) l (by rw [hkk]; exact hl)
  rw [hkk] at d
  have m := a.tri (b.tri d)
  -- back by n
  have hpp : p2 (-(k : Int)) * p2 k = 1 := by rw [← p2_add, Int.add_left_neg, p2_zero]
  have m2 := m.scale (p2_nonneg (-(k : Int)))
  have e1 : Cx.scale (p2 (-(k : Int))) ((cv (fwdF k (fun i => cconj (tabF k i)) f l)).sub (Cx.scale (p2 k) (c l))) = (Cx.scale (p2 (-(k : Int))) (cv (fwdF k (fun i => cconj (tabF k i)) f l))).sub (c l) := by
    unfold Cx.scale Cx.sub
    refine Cx.eq ?_ ?_
    · show p2 (-(k : Int)) * (_ - p2 k * (c l).re) = _ - (c l).re
      rw [show ∀ a b : Rat, p2 (-(k : Int)) * (a - p2 k * b) = p2 (-(k : Int)) * a - (p2 (-(k : Int)) * p2 k) * b from fun a b => by grind, hpp, Rat.one_mul]
    · show p2 (-(k : Int)) * (_ - p2 k * (c l).im) = _ - (c l).im
      rw [show ∀ a b : Rat, p2 (-(k : Int)) * (a - p2 k * b) = p2 (-(k : Int)) * a - (p2 (-(k : Int)) * p2 k) * b from fun a b => by grind, hpp, Rat.one_mul]
  rw [e1] at m2
  -- the quotient's own rounding
  have g1 := Len.of_sub a (dft_len hzc hf l)
  rw [← p2_nat] at g1
  have g2 := g1.scale (p2_nonneg (-(k : Int)))
  have e2 : p2 (-(k : Int)) * (p2 (-43) * (p2 k * L) + p2 k * L) = (p2 (-(k : Int)) * p2 k) * (p2 (-43) * L + L) := by grind
  rw [e2, hpp, Rat.one_mul] at g2
  have hbd : Bd (e + 66) (fwdF k (fun i => cconj (tabF k i)) f l) :=
    fwdF_bd hk h0 h1 (h := 2 ^ (k - 1)) (.inr (by rw [← Nat.pow_succ']; congr 1; omega)) (fun i hi => Bd.conj (x := tabF k i) (tab_bd k (k - 1) i hk1 hk (by omega) hi)) hF l hl
  have q1 : p2 (-43) * L + L ≤ 2 * L := by
    have : p2 (-43) ≤ 1 := by rw [← p2_zero]; exact p2_le (by decide)
    have := Rat.mul_le_mul_of_nonneg_right this hLp
    grind
  have g3 := divn_err hk (by omega) (by omega) hbd hL (g2.mono q1)
  have fin := g3.tri m2
  refine fin.mono ?_
  have e3 : p2 (-(k : Int)) * (p2 (-43) * (p2 k * L) + (p2 k * eta + p2 k * (Lc * (p2 k * (p2 k * tH))))) = (p2 (-(k : Int)) * p2 k) * (p2 (-43) * L + eta + (p2 k * (p2 k * tH)) * Lc) := by grind
  rw [e3, hpp, Rat.one_mul]
  have c1 : p2 k * (p2 k * tH) ≤ p2 (-100) := by
    have h : ∀ k : Fin 12, (p2 k.1 * (p2 k.1 * tH)) ≤ p2 (-100) := by unfold tH; decide +kernel
    exact h ⟨k, by omega⟩
  have c2 := Rat.mul_le_mul_of_nonneg_right c1 hLc
  have c3 : p2 (-48) + p2 (-43) ≤ p2 (-42) := by decide +kernel
  have c4 := Rat.mul_le_mul_of_nonneg_right c3 hLp
  generalize p2 k * (p2 k * tH) * Lc = u at *
  generalize p2 (-100) * Lc = v at *
  grind
end Go.Proofs.Ygctaf
