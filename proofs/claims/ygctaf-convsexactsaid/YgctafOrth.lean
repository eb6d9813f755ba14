/-
  TRANSFORMS OF ANY LENGTH: roots' sums, there and back, energy.
-/
import Derived.Test.YgctafBlErr
namespace Go.Proofs.Ygctaf
open Ieee

/-! ### Sums of a root's powers -/
theorem geo_mul (u : Cx) : ∀ n, (sumC n fun j => u.pow j).mul (u.sub .one) = (u.pow n).sub .one
  | 0 => by
    show Cx.zero.mul _ = Cx.one.sub .one
    rw [Cx.zero_mul]
    exact Cx.eq (by unfold Cx.zero Cx.sub Cx.one; simp only; grind) (by unfold Cx.zero Cx.sub Cx.one; simp only; grind)
  | n + 1 => by
    rw [sumC_succ, Cx.add_mul, geo_mul u n]
    show _ = ((u.pow n).mul u).sub .one
    generalize u.pow n = p
    exact Cx.eq (by unfold Cx.add Cx.sub Cx.mul Cx.one; simp only; grind) (by unfold Cx.add Cx.sub Cx.mul Cx.one; simp only; grind)
theorem quot_len {S v w : Cx} {c t r : Rat} (h : S.mul v = w) (hv : c * c ≤ v.nsq) (hw : Len w t) (hr : 0 ≤ r) (hc : 0 < c) (ht : t ≤ r * c) : Len S r := by
  refine ⟨hr, ?_⟩
  have h1 := hw.2
  rw [← h, Cx.nsq_mul] at h1
  have h2 := Rat.mul_le_mul_of_nonneg_left hv S.nsq_nonneg
  have h3 : t * t ≤ r * c * (r * c) := by
    have a := Rat.mul_le_mul_of_nonneg_left ht hw.1
    have b := Rat.mul_le_mul_of_nonneg_right ht (Rat.mul_nonneg hr (Rat.le_of_lt hc))
    grind
  have h4 : S.nsq * (c * c) ≤ r * r * (c * c) := by grind
  exact Rat.le_of_mul_le_mul_right h4 (Rat.mul_pos hc hc)
theorem eta_half : Len ((eta.pow (2 ^ 90)).add .one) (p2 (-200)) := by
  have a := eta_ze_pow (2 ^ 10)
  rw [← Nat.pow_add] at a
  have b := a.add ze_half
  have e : ∀ x y : Cx, (x.sub y).add (y.add .one) = x.add .one := fun x y => Cx.eq (by unfold Cx.sub Cx.add Cx.one; simp only; grind) (by unfold Cx.sub Cx.add Cx.one; simp only; grind)
  rw [e] at b
  refine b.mono ?_
  unfold tE tH
  decide +kernel
theorem far_low {A : Nat} (h1 : 2 ^ 81 ≤ A) (h2 : A ≤ 2 ^ 90) : 1/1999 * (1/1999) ≤ ((eta.pow A).sub .one).nsq := by
  refine Classical.byContradiction fun h => ?_
  have l : Len ((eta.pow A).sub .one) (1/1999) := ⟨by decide +kernel, Rat.le_of_lt (Rat.not_le.1 h)⟩
  obtain ⟨m, hm⟩ : ∃ m, m = 2 ^ 90 / A := ⟨_, rfl⟩
  obtain ⟨r, hr⟩ : ∃ r, r = 2 ^ 90 % A := ⟨_, rfl⟩
  have hA : 0 < A := by omega
  have e : A * m + r = 2 ^ 90 := by rw [hm, hr]; exact Nat.div_add_mod _ _
  have hrA : r < A := by rw [hr]; exact Nat.mod_lt _ hA
  have hm0 : 1 ≤ m := by rw [hm]; exact (Nat.le_div_iff_mul_le hA).2 (by omega)
  have hm1 : m ≤ 512 := by
    rw [hm]
    refine Nat.div_le_of_le_mul ?_
    have := Nat.mul_le_mul_right 512 h1
    exact Nat.le_trans (by decide) this
  have hr2 : r ≤ 2 ^ 89 := by
    have := Nat.mul_le_mul_left A hm0
    omega
  have a := pow_one_near (Cx.nsq_pow eta_unit A) l m
  rw [← Cx.pow_mul] at a
  have b := (Len.unit (Cx.nsq_pow eta_unit (A * m))).mul (eta_pow5 r)
  rw [Rat.one_mul, Cx.mul_sub, Cx.mul_one, ← Cx.pow_add, e] at b
  have c := (b.tri a).flip.add eta_half
  have ee : ∀ x : Cx, (Cx.one.sub x).add (x.add .one) = ⟨2, 0⟩ := fun x => Cx.eq (by unfold Cx.sub Cx.add Cx.one; simp only; grind) (by unfold Cx.sub Cx.add Cx.one; simp only; grind)
  rw [ee] at c
  have p := c.parts.1
  have q1 : (m : Rat) ≤ ((512 : Nat) : Rat) := Rat.natCast_le_natCast.2 hm1
  have q2 : (r : Rat) ≤ ((2 ^ 89 : Nat) : Rat) := Rat.natCast_le_natCast.2 hr2
  have q3 := Rat.mul_le_mul_of_nonneg_right q1 (show (0 : Rat) ≤ 1/1999 by decide +kernel)
  have q4 := Rat.mul_le_mul_of_nonneg_right q2 (show (0 : Rat) ≤ 4/5 * p2 (-88) by decide +kernel)
  have q5 : ((2 ^ 89 : Nat) : Rat) * (4/5 * p2 (-88)) + ((512 : Nat) : Rat) * (1/1999) + p2 (-200) < 2 := by decide +kernel
  have q6 : (2 : Rat).abs = 2 := Rat.abs_of_nonneg (by decide +kernel)
  rw [show (⟨2, 0⟩ : Cx).re = 2 from rfl, q6] at p
  generalize (m : Rat) * (1/1999) = u at *
  generalize (r : Rat) * (4/5 * p2 (-88)) = v at *
  generalize ((2 ^ 89 : Nat) : Rat) * (4/5 * p2 (-88)) = v' at *
  generalize ((512 : Nat) : Rat) * (1/1999) = u' at *
  generalize p2 (-200) = t at *
  grind
theorem far_any {A : Nat} (h1 : 2 ^ 81 ≤ A) (h2 : A + 2 ^ 81 ≤ 2 ^ 91) : 1/2000 * (1/2000) ≤ ((eta.pow A).sub .one).nsq := by
  rcases Nat.lt_or_ge (2 ^ 90) A with g | g
  · refine Classical.byContradiction fun h => ?_
    have l : Len ((eta.pow A).sub .one) (1/2000) := ⟨by decide +kernel, Rat.le_of_lt (Rat.not_le.1 h)⟩
    obtain ⟨B, hB⟩ : ∃ B, A + B = 2 ^ 91 := ⟨2 ^ 91 - A, by omega⟩
    have f := far_low (A := B) (by omega) (by omega)
    have a := (l.flip.mul (Len.unit (Cx.nsq_pow eta_unit B)))
    rw [Cx.sub_mul, Cx.one_mul, ← Cx.pow_add, hB] at a
    have b := (a.tri eta_round).2
    have c : (1/2000 * 1 + tC) * (1/2000 * 1 + tC) < 1/1999 * (1/1999) := by unfold tC; decide +kernel
    exact absurd (Rat.le_trans f b) (Rat.not_le.2 c)
  · exact Rat.le_trans (by decide +kernel) (far_low h1 g)

/-- The root of order n. -/
def zn (n : Nat) : Cx := rho n 1
theorem zn_unit (n : Nat) : (zn n).nsq = 1 := rho_unit n 1
def tG : Rat := p2 (-55)
theorem zn_sum {n d : Nat} (hn : n ≤ 1024) (h1 : 0 < d) (h2 : d < n) : Len (sumC n fun j => (zn n).pow (d * j)) tG := by
  have h0 : 0 < n := by omega
  have e : (sumC n fun j => (zn n).pow (d * j)) = sumC n fun j => ((zn n).pow d).pow j := sumC_congr fun j _ => Cx.pow_mul _ _ _
  rw [e]
  have w := pow_one_near (Cx.nsq_pow (zn_unit n) n) (rho_pow (j := 1) h0 (by omega) (by omega)) d
  have e2 : ((zn n).pow d).pow n = ((zn n).pow n).pow d := by rw [← Cx.pow_mul, ← Cx.pow_mul, Nat.mul_comm]
  refine quot_len (c := 1/2000) (geo_mul ((zn n).pow d) n) ?_ (by rw [e2]; exact w) (p2_nonneg _) (by decide +kernel) ?_
  · unfold zn rho
    rw [← Cx.pow_mul, Nat.one_mul]
    obtain ⟨T, hT⟩ : ∃ T, T = 2 ^ 91 / n := ⟨_, rfl⟩
    rw [← hT]
    have t1 : 2 ^ 81 ≤ T := by
      rw [hT]
      refine (Nat.le_div_iff_mul_le h0).2 ?_
      exact Nat.le_trans (Nat.mul_le_mul_left _ hn) (by decide)
    have t2 : n * T ≤ 2 ^ 91 := by rw [hT]; exact Nat.mul_div_le _ _
    refine far_any ?_ ?_
    · exact Nat.le_trans t1 (Nat.le_mul_of_pos_right _ h1)
    · have : T * d + T ≤ n * T := by
        rw [← Nat.mul_succ, Nat.mul_comm]
        exact Nat.mul_le_mul_right _ h2
      omega
  · have q : (d : Rat) ≤ ((1024 : Nat) : Rat) := Rat.natCast_le_natCast.2 (by omega)
    have q2 := Rat.mul_le_mul_of_nonneg_right q (show 0 ≤ tau from p2_nonneg _)
    exact Rat.le_trans q2 (by unfold tau tG; decide +kernel)
theorem any_pow {n m : Nat} (h0 : 0 < n) (hm : m ≤ 2 ^ 20) : Len ((rho n (m % n)).sub ((zn n).pow m)) (p2 (-67)) := by
  have a := rho_mod' (m := n) (a := m) h0 (by omega)
  unfold zn rho at *
  rw [← Cx.pow_mul, Nat.one_mul]
  obtain ⟨T, hT⟩ : ∃ T, T = 2 ^ 91 / n := ⟨_, rfl⟩
  obtain ⟨s, hs⟩ : ∃ s, s = 2 ^ 91 % n := ⟨_, rfl⟩
  have e : 2 ^ 91 = n * T + s := by rw [hT, hs]; exact (Nat.div_add_mod _ _).symm
  have hsn : s < n := by rw [hs]; exact Nat.mod_lt _ h0
  have e2 : m * 2 ^ 91 / n = T * m + m * s / n := by
    rw [e, Nat.mul_add, show m * (n * T) = n * (T * m) from by rw [Nat.mul_left_comm, Nat.mul_comm m T], Nat.add_comm, Nat.add_mul_div_left _ _ h0, Nat.add_comm]
  have e3 : m * s / n ≤ m := Nat.div_le_of_le_mul (by rw [Nat.mul_comm n m]; exact Nat.mul_le_mul_left _ (by omega))
  rw [← hT]
  rw [e2] at a
  have b := eta_near (T * m) (m * s / n)
  refine (a.tri b).mono ?_
  have q : ((m * s / n : Nat) : Rat) ≤ ((2 ^ 20 : Nat) : Rat) := Rat.natCast_le_natCast.2 (by omega)
  have q2 := Rat.mul_le_mul_of_nonneg_right q (p2_nonneg (-88))
  have q3 : p2 (-180) + ((2 ^ 20 : Nat) : Rat) * p2 (-88) ≤ p2 (-67) := by decide +kernel
  generalize ((m * s / n : Nat) : Rat) * p2 (-88) = u at *
  generalize ((2 ^ 20 : Nat) : Rat) * p2 (-88) = v at *
  generalize p2 (-180) = w at *
  grind
theorem any_dft {n : Nat} {x : Nat → Cx} {L : Rat} (h0 : 0 < n) (hn : n ≤ 1024) (lx : ∀ i, i < n → Len (x i) L) (j : Nat) (hj : j < n) : Len ((anyI n x j).sub (dft (zn n) n x j)) ((n : Rat) * (L * p2 (-67))) := by
  unfold anyI dft
  rw [← sumC_sub]
  refine Len.sum_const fun i hi => ?_
  rw [← Cx.mul_sub]
  exact (lx i hi).mul (any_pow h0 (Nat.le_trans (Nat.mul_le_mul (show i ≤ 1024 by omega) (show j ≤ 1024 by omega)) (by decide)))

/-! ### There and back -/
theorem sub_zero' (a : Cx) : a.sub .zero = a := Cx.eq (by unfold Cx.sub Cx.zero; simp only; grind) (by unfold Cx.sub Cx.zero; simp only; grind)
theorem zn_sum_conj {n d : Nat} (hn : n ≤ 1024) (h1 : 0 < d) (h2 : d < n) : Len (sumC n fun j => (zn n).conj.pow (d * j)) tG := by
  have h := (zn_sum hn h1 h2).conj
  have e : ∀ m, (sumC m fun j => (zn n).pow (d * j)).conj = sumC m fun j => (zn n).conj.pow (d * j) := fun m => by
    induction m with
    | zero => exact Cx.eq rfl (by show -(0 : Rat) = 0; grind)
    | succ m ih => rw [sumC_succ, sumC_succ, Cx.conj_add, ih, Cx.conj_pow]
  rw [e] at h
  exact h
theorem back_row {n : Nat} (hn : n ≤ 1024) (x : Nat → Cx) (l : Nat) : dft (zn n).conj n (dft (zn n) n x) l = sumC n fun i => (x i).mul (sumC n fun j => ((zn n).pow (i * j)).mul ((zn n).conj.pow (j * l))) := by
  have _ := hn
  unfold dft
  have : (sumC n fun j => (sumC n fun i => (x i).mul ((zn n).pow (i * j))).mul ((zn n).conj.pow (j * l))) = (sumC n fun j => sumC n fun i => (x i).mul (((zn n).pow (i * j)).mul ((zn n).conj.pow (j * l)))) := by
    refine sumC_congr fun j _ => ?_
    rw [Cx.mul_comm, ← sumC_mul]
    refine sumC_congr fun i _ => ?_
    rw [Cx.mul_comm, Cx.mul_assoc]
  rw [this, sumC_swap]
  refine sumC_congr fun i _ => ?_
  rw [sumC_mul]
theorem any_back {n : Nat} {x : Nat → Cx} {L : Rat} (hn : n ≤ 1024) (hx : ∀ i, i < n → Len (x i) L) (l : Nat) (hl : l < n) :
    Len ((dft (zn n).conj n (dft (zn n) n x) l).sub (Cx.scale (n : Rat) (x l))) ((n : Rat) * (L * tG)) := by
  have hz := zn_unit n
  have e2 : Cx.scale (n : Rat) (x l) = sumC n fun i => (x i).mul (if i = l then ⟨(n : Rat), 0⟩ else .zero) := by
    rw [sumC_one hl (fun i _ hne => by rw [if_neg hne, Cx.mul_zero]), if_pos rfl]
    exact Cx.eq (by unfold Cx.scale Cx.mul; simp only; grind) (by unfold Cx.scale Cx.mul; simp only; grind)
  rw [back_row hn, e2, ← sumC_sub]
  refine Len.sum_const fun i hi => ?_
  rw [← Cx.mul_sub]
  refine (hx i hi).mul ?_
  have hP0 : 0 ≤ tG := p2_nonneg _
  rcases Nat.lt_trichotomy i l with h | h | h
  · rw [if_neg (by omega)]
    obtain ⟨d, rfl⟩ : ∃ d, l = i + d := ⟨l - i, by omega⟩
    have e3 : (sumC n fun j => ((zn n).pow (i * j)).mul ((zn n).conj.pow (j * (i + d)))) = sumC n fun j => (zn n).conj.pow (d * j) := by
      refine sumC_congr fun j _ => ?_
      rw [Nat.mul_add, Cx.pow_add, ← Cx.mul_assoc, Nat.mul_comm i j, pow_conj_mul hz, Cx.one_mul, Nat.mul_comm]
    rw [e3, sub_zero']
    exact zn_sum_conj hn (by omega) (by omega)
  · subst h
    rw [if_pos rfl]
    have e3 : (sumC n fun j => ((zn n).pow (i * j)).mul ((zn n).conj.pow (j * i))) = ⟨(n : Rat), 0⟩ := by
      rw [← sumC_ones]
      refine sumC_congr fun j _ => ?_
      rw [Nat.mul_comm j i, pow_conj_mul hz]
    rw [e3]
    exact (Len.self _).mono hP0
  · rw [if_neg (by omega)]
    obtain ⟨d, rfl⟩ : ∃ d, i = l + d := ⟨i - l, by omega⟩
    have e3 : (sumC n fun j => ((zn n).pow ((l + d) * j)).mul ((zn n).conj.pow (j * l))) = sumC n fun j => (zn n).pow (d * j) := by
      refine sumC_congr fun j _ => ?_
      rw [Nat.add_mul, Nat.add_comm, Cx.pow_add, Cx.mul_assoc, Nat.mul_comm l j, pow_conj_mul hz, Cx.mul_one]
    rw [e3, sub_zero']
    exact zn_sum hn (by omega) (by omega)
end Go.Proofs.Ygctaf
