/-
  fftx.convolve: the plain law.
-/
import Derived.Test.YgctafW39
import Derived.Test.YgctafBlErr
namespace Go.Proofs.Ygctaf
open Ieee

/-- Words near a transform. -/
def Fw (k : Nat) (f : Nat → Nat × Nat) (L : Rat) (e : Int) (g : Nat → Nat × Nat) : Prop :=
  ∀ j, j < 2 ^ k → Bd e (g j) ∧ Len ((cv (g j)).sub (dft (zeK k) (2 ^ k) (fun i => cv (f i)) j)) (p2 (-43) * (p2 k * L))
theorem Fw.of {k n : Nat} {f g : Nat → Nat × Nat} {L : Rat} {e : Int} (ho : 1 ≤ k ∧ k ≤ 11) (hn : n = 2 ^ k) (hL : p2 (-1015) ≤ L) (hf : ∀ i, i < n → Len (cv (f i)) L) (h : Lev k (fun i => cv (f i)) L e n k g) : Fw k f L (e + 88) g := fun j hj => by
  subst hn
  have a := h j hj
  refine ⟨a.bd.mono (by omega), At.last ho.1 ho.2 ?_ hL hf hj a⟩
  have := Rat.natCast_le_natCast.2 (show 28 * k ≤ 512 by omega)
  exact this

theorem conj_dft' (z : Cx) (n : Nat) (y : Nat → Cx) (l : Nat) : (dft z n (fun i => (y i).conj) l).conj = dft z.conj n y l := by
  unfold dft
  induction n with
  | zero => exact Cx.eq rfl (by show -(0 : Rat) = 0; grind)
  | succ n ih => rw [sumC_succ, sumC_succ, Cx.conj_add, ih, Cx.conj_mul, Cx.conj_conj, Cx.conj_pow]
theorem conj_scale (r : Rat) (a : Cx) : (Cx.scale r a.conj).conj = Cx.scale r a := Cx.eq rfl (by unfold Cx.conj Cx.scale; simp only; grind)
/-- The inverse as a transform between two conjugations. -/
theorem inv_conj {k l : Nat} {y : Nat → Nat × Nat} {G : Nat × Nat} {c : Nat → Cx} {e e' : Int} {L Lc eta : Rat} (hk1 : 1 ≤ k) (hk : k ≤ 11) (h0 : 0 ≤ e) (h1 : e ≤ 1000)
    (bY : ∀ i, i < 2 ^ k → Bd e' (y i)) (hL : p2 (-1015) ≤ L) (hy : ∀ i, i < 2 ^ k → Len (cv (y i)) L) (hc : ∀ i, i < 2 ^ k → Len (c i) Lc)
    (hD : ∀ j, j < 2 ^ k → Len ((cv (y j)).sub (dft (zeK k) (2 ^ k) c j)) eta) (hl : l < 2 ^ k) (bG : Bd e G)
    (hG : Len ((cv G).sub (dft (zeK k) (2 ^ k) (fun i => cv (cconj (y i))) l)) (p2 (-43) * (p2 k * L))) :
    Len ((cv (cdivn (2 ^ k) G)).sub (c l).conj) (eta + p2 (-42) * L + p2 (-100) * Lc) := by
  have hLp : 0 ≤ L := Rat.le_trans (p2_nonneg _) hL
  have hLc : 0 ≤ Lc := (hc l hl).1
  have hkk : k - 1 + 1 = k := by omega
  have hzc : (zeK k).conj.nsq = 1 := by rw [Cx.nsq_conj]; exact zeK_unit k
  have a : Len ((cv G).conj.sub (dft (zeK k).conj (2 ^ k) (fun i => cv (y i)) l)) (p2 (-43) * (p2 k * L)) := by
    have a0 := conj_near hG
    rw [dft_congr (fun i hi => cv_conj (bY i hi)) l, conj_dft'] at a0
    exact a0
  have b : Len ((dft (zeK k).conj (2 ^ k) (fun i => cv (y i)) l).sub (dft (zeK k).conj (2 ^ k) (dft (zeK k) (2 ^ k) c) l)) (p2 k * eta) := by
    rw [dft_diff, p2_nat]
    exact dft_len hzc hD l
  have d := dft_back (k - 1) (zeK_unit k) (zeK_half k hk1 hk) c (by rw [hkk]; exact hc) l (by rw [hkk]; exact hl)
  rw [hkk] at d
  have m := a.tri (b.tri d)
  have hpp : p2 (-(k : Int)) * p2 k = 1 := by rw [← p2_add, Int.add_left_neg, p2_zero]
  have m2 := m.scale (p2_nonneg (-(k : Int)))
  have e1 : Cx.scale (p2 (-(k : Int))) ((cv G).conj.sub (Cx.scale (p2 k) (c l))) = (Cx.scale (p2 (-(k : Int))) (cv G).conj).sub (c l) := by
    unfold Cx.scale Cx.sub
    refine Cx.eq ?_ ?_
    · show p2 (-(k : Int)) * (_ - p2 k * (c l).re) = _ - (c l).re
      rw [show ∀ a b : Rat, p2 (-(k : Int)) * (a - p2 k * b) = p2 (-(k : Int)) * a - (p2 (-(k : Int)) * p2 k) * b from fun a b => by grind, hpp, Rat.one_mul]
    · show p2 (-(k : Int)) * (_ - p2 k * (c l).im) = _ - (c l).im
      rw [show ∀ a b : Rat, p2 (-(k : Int)) * (a - p2 k * b) = p2 (-(k : Int)) * a - (p2 (-(k : Int)) * p2 k) * b from fun a b => by grind, hpp, Rat.one_mul]
  rw [e1] at m2
  have m3 := conj_near m2
  rw [conj_scale] at m3
  have g1 := (Len.of_sub a (dft_len hzc hy l)).conj
  rw [← p2_nat, Cx.conj_conj] at g1
  have g2 := g1.scale (p2_nonneg (-(k : Int)))
  have e2 : p2 (-(k : Int)) * (p2 (-43) * (p2 k * L) + p2 k * L) = (p2 (-(k : Int)) * p2 k) * (p2 (-43) * L + L) := by grind
  rw [e2, hpp, Rat.one_mul] at g2
  have q1 : p2 (-43) * L + L ≤ 2 * L := by
    have : p2 (-43) ≤ 1 := by rw [← p2_zero]; exact p2_le (by decide)
    have := Rat.mul_le_mul_of_nonneg_right this hLp
    grind
  have g3 := divn_err hk h0 h1 bG hL (g2.mono q1)
  have fin := g3.tri m3
  refine fin.mono ?_
  have e3 : p2 (-(k : Int)) * (p2 (-43) * (p2 k * L) + (p2 k * eta + p2 k * (Lc * (p2 k * (p2 k * tH))))) = (p2 (-(k : Int)) * p2 k) * (p2 (-43) * L + eta + (p2 k * (p2 k * tH)) * Lc) := by grind
  rw [e3, hpp, Rat.one_mul]
  have c1 : p2 k * (p2 k * tH) ≤ p2 (-100) := by
    have h : ∀ k : Fin 12, (p2 k.1 * (p2 k.1 * tH)) ≤ p2 (-100) := by unfold tH; decide +kernel
    exact h ⟨k, by omega⟩
  have c2 := Rat.mul_le_mul_of_nonneg_right c1 hLc
  have c3 : p2 (-48) + p2 (-43) ≤ p2 (-42) := by decide +kernel
  have c4 := Rat.mul_le_mul_of_nonneg_right c3 hLp
  generalize p2 k * (p2 k * tH) * Lc = u at *
  generalize p2 (-100) * Lc = v at *
  grind

theorem rC_conj (n : Int) : (rC n).conj = rC n := Cx.eq rfl (by show -(0 : Rat) = 0; grind)
/-- The sum's length. -/
theorem lD_len (z : Cx) (hz : z.nsq = 1) (l : Nat) (x : Nat → Int) (hl' : l ≤ 512) (vz : ∀ i, i < l → 0 ≤ x i ∧ x i ≤ 255) (j : Nat) : Len (sumC l fun i => (rC (x i)).mul (z.pow (i * j))) (p2 17) := by
  have := Len.sum_const (n := l) (f := fun i => (rC (x i)).mul (z.pow (i * j))) (c := 256) (fun i hi => by
    have v := vz i hi
    have := (rC_len (n := x i) (B := 256) (by omega)).mul (Len.unit (Cx.nsq_pow hz (i * j)))
    rw [Rat.mul_one] at this; exact this)
  refine this.mono ?_
  have e : p2 17 = ((512 : Nat) : Rat) * 256 := by decide +kernel
  rw [e]
  exact Rat.mul_le_mul_of_nonneg_right (Rat.natCast_le_natCast.2 hl') (by decide)
theorem prod_words {A B : Nat × Nat} {DA DB : Cx} (xa : Bd 96 A) (xb : Bd 96 B) (la' : Len DA (p2 17)) (lb' : Len DB (p2 17)) (a : Len ((cv A).sub DA) (p2 (-25))) (b : Len ((cv B).sub DB) (p2 (-25))) :
    Len ((cv (cmul A B)).sub (DA.mul DB)) (p2 (-5)) ∧ Len (cv (cmul A B)) (p2 36) := by
  have lA := (Len.of_sub a la').mono (show p2 (-25) + p2 17 ≤ p2 17 + 1 by decide +kernel)
  have lB := (Len.of_sub b lb').mono (show p2 (-25) + p2 17 ≤ p2 17 + 1 by decide +kernel)
  have ml := mul_len xa xb (by decide) (by decide) lA lB
  have pr := (a.mul lB).add (la'.mul b)
  have e : (((cv A).sub DA).mul (cv B)).add (DA.mul ((cv B).sub DB)) = ((cv A).mul (cv B)).sub (DA.mul DB) :=
    Cx.eq (by unfold Cx.add Cx.mul Cx.sub; simp only; grind) (by unfold Cx.add Cx.mul Cx.sub; simp only; grind)
  rw [e] at pr
  refine ⟨(ml.tri pr).mono (by unfold EE TT; decide +kernel), ?_⟩
  exact (Len.of_sub ml (lA.mul lB)).mono (by unfold EE TT; decide +kernel)
/-- The products' bounds (what the second transform wants). -/
theorem cvx_mid {q la lb : Nat} {za zb : Nat → Int} {gA gB : Nat → Nat × Nat} (hq : q ≤ 9) (ha2 : la ≤ 512) (hb2 : lb ≤ 512) (hl : la + lb ≤ 2 ^ (q + 1) + 1) (ha1 : 1 ≤ la) (hb1 : 1 ≤ lb)
    (va : ∀ i, i < la → 0 ≤ za i ∧ za i ≤ 255) (vb : ∀ i, i < lb → 0 ≤ zb i ∧ zb i ≤ 255) (fA : Fw (q + 1) (ptsF la za) 256 96 gA) (fB : Fw (q + 1) (ptsF lb zb) 256 96 gB) :
    ∀ j, j < 2 ^ (q + 1) → Bd 195 (cmul (gA j) (gB j)) ∧ Len ((cv (cmul (gA j) (gB j))).sub (dft (zeK (q + 1)) (2 ^ (q + 1)) (fun m => rC (convZ za zb lb la m)) j)) (p2 (-5)) ∧ Len (cv (cmul (gA j) (gB j))) (p2 36) := by
  have hP : p2 ((q + 1 : Nat) : Int) ≤ p2 10 := p2_le (by omega)
  have hdel : p2 (-43) * (p2 ((q + 1 : Nat) : Int) * 256) ≤ p2 (-25) := by
    have e : p2 (-25) = p2 (-43) * (p2 10 * 256) := by decide +kernel
    rw [e]
    exact Rat.mul_le_mul_of_nonneg_left (Rat.mul_le_mul_of_nonneg_right hP (by decide)) (p2_nonneg _)
  intro j hj
  obtain ⟨xa, a0⟩ := fA j hj
  obtain ⟨xb, b0⟩ := fB j hj
  have a := a0.mono hdel
  have b := b0.mono hdel
  rw [dft_pts _ _ la za va (by omega)] at a
  rw [dft_pts _ _ lb zb vb (by omega)] at b
  have cd' : dft (zeK (q + 1)) (2 ^ (q + 1)) (fun m => rC (convZ za zb lb la m)) j = (sumC la fun i => (rC (za i)).mul ((zeK (q + 1)).pow (i * j))).mul (sumC lb fun i => (rC (zb i)).mul ((zeK (q + 1)).pow (i * j))) := conv_dft (zeK (q + 1)) za zb lb (2 ^ (q + 1)) j la (.inl hl)
  rw [cd']
  exact ⟨(xa.mul xb (by decide) (by decide)).mono (by decide), prod_words xa xb (lD_len _ (zeK_unit _) la za ha2 va j) (lD_len _ (zeK_unit _) lb zb hb2 vb j) a b⟩
theorem convC_len {la lb : Nat} {za zb : Nat → Int} (ha2 : la ≤ 512) (va : ∀ i, i < la → 0 ≤ za i ∧ za i ≤ 255) (vb : ∀ i, i < lb → 0 ≤ zb i ∧ zb i ≤ 255) (i : Nat) : Len (rC (convZ za zb lb la i)) ((2 ^ 26 : Nat) : Rat) := by
  have := convZ_bd za zb la lb va vb i la (Nat.le_refl _)
  exact rC_len (by omega)
/-- The result's points. -/
theorem cvx_right {q la lb : Nat} {za zb : Nat → Int} {gA gB G : Nat → Nat × Nat} (hq : q ≤ 9) (ha2 : la ≤ 512) (hb2 : lb ≤ 512) (hl : la + lb ≤ 2 ^ (q + 1) + 1) (ha1 : 1 ≤ la) (hb1 : 1 ≤ lb)
    (va : ∀ i, i < la → 0 ≤ za i ∧ za i ≤ 255) (vb : ∀ i, i < lb → 0 ≤ zb i ∧ zb i ≤ 255) (fA : Fw (q + 1) (ptsF la za) 256 96 gA) (fB : Fw (q + 1) (ptsF lb zb) 256 96 gB)
    (fG : Fw (q + 1) (fun j => cconj (cmul (gA j) (gB j))) (p2 36) 283 G) (l : Nat) (hl2 : l < 2 ^ (q + 1)) :
    Nm (cdivn (2 ^ (q + 1)) (G l)) ∧ Len ((cv (cdivn (2 ^ (q + 1)) (G l))).sub (rC (convZ za zb lb la l))) (6/25) := by
  have mid := cvx_mid hq ha2 hb2 hl ha1 hb1 va vb fA fB
  obtain ⟨bG, hG⟩ := fG l hl2
  refine ⟨(bG.divn (q + 1) (by omega) (by decide) (by decide)).nm, ?_⟩
  have h := inv_conj (k := q + 1) (by omega) (by omega) (by decide) (by decide) (fun i hi => (mid i hi).1) (show p2 (-1015) ≤ p2 36 from p2_le (by decide)) (fun i hi => (mid i hi).2.2) (fun i _ => convC_len (lb := lb) ha2 va vb i) (fun j hj => (mid j hj).2.1) hl2 bG hG
  rw [rC_conj] at h
  exact h.mono (by decide +kernel)
end Go.Proofs.Ygctaf
