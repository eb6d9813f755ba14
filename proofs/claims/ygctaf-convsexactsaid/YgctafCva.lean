/-
  fftx.ConvolveAny: the plain law.
-/
import Derived.Test.YgctafAnyLaw
import Derived.Test.YgctafW40
namespace Go.Proofs.Ygctaf
open Ieee

/-! ### Energy -/
theorem sumC_re (f : Nat → Cx) : ∀ n, (sumC n f).re = sumR n (fun i => (f i).re)
  | 0 => rfl
  | n + 1 => by rw [sumC_succ]; show (sumC n f).re + (f n).re = sumR n (fun i => (f i).re) + (f n).re; rw [sumC_re f n]
theorem dft_conjE (z : Cx) (n : Nat) (x : Nat → Cx) (j : Nat) : (dft z n x j).conj = dft z.conj n (fun i => (x i).conj) j := by
  unfold dft
  induction n with
  | zero => exact Cx.eq rfl (by show -(0 : Rat) = 0; grind)
  | succ n ih => rw [sumC_succ, sumC_succ, Cx.conj_add, ih, Cx.conj_mul, Cx.conj_pow]
theorem dft_add (z : Cx) (n : Nat) (x y : Nat → Cx) (j : Nat) : dft z n (fun i => (x i).add (y i)) j = (dft z n x j).add (dft z n y j) := by
  unfold dft
  rw [← sumC_add]
  exact sumC_congr fun i _ => Cx.add_mul _ _ _
theorem any_energy {n : Nat} {x : Nat → Cx} {L : Rat} (hn : n ≤ 1024) (hx : ∀ i, i < n → Len (x i) L) : S2 n (dft (zn n) n x) ≤ (n : Rat) * S2 n x + (n : Rat) * (L * ((n : Rat) * (L * tG))) := by
  have e1 : (sumC n fun j => (dft (zn n) n x j).mul (dft (zn n) n x j).conj) = sumC n fun i => (x i).conj.mul (dft (zn n).conj n (dft (zn n) n x) i) := by
    have a : (sumC n fun j => (dft (zn n) n x j).mul (dft (zn n) n x j).conj) = sumC n fun j => sumC n fun i => (x i).conj.mul ((dft (zn n) n x j).mul ((zn n).conj.pow (j * i))) := by
      refine sumC_congr fun j _ => ?_
      rw [dft_conjE]
      show (dft (zn n) n x j).mul (sumC n fun i => (x i).conj.mul ((zn n).conj.pow (i * j))) = _
      rw [← sumC_mul]
      refine sumC_congr fun i _ => ?_
      rw [← Cx.mul_assoc, Cx.mul_comm (dft (zn n) n x j), Cx.mul_assoc, Nat.mul_comm i j]
    rw [a, sumC_swap]
    refine sumC_congr fun i _ => ?_
    rw [sumC_mul]
    rfl
  have d : Len ((sumC n fun i => (x i).conj.mul (dft (zn n).conj n (dft (zn n) n x) i)).sub (sumC n fun i => (x i).conj.mul (Cx.scale (n : Rat) (x i)))) ((n : Rat) * (L * ((n : Rat) * (L * tG)))) := by
    rw [← sumC_sub]
    refine Len.sum_const fun i hi => ?_
    rw [← Cx.mul_sub]
    exact (hx i hi).conj.mul (any_back hn hx i hi)
  rw [← e1] at d
  have p := d.parts.1
  have q : ((sumC n fun j => (dft (zn n) n x j).mul (dft (zn n) n x j).conj).sub (sumC n fun i => (x i).conj.mul (Cx.scale (n : Rat) (x i)))).re = S2 n (dft (zn n) n x) - (n : Rat) * S2 n x := by
    show (sumC n _).re - (sumC n _).re = _
    rw [sumC_re, sumC_re]
    have q1 : sumR n (fun i => ((dft (zn n) n x i).mul (dft (zn n) n x i).conj).re) = S2 n (dft (zn n) n x) := by
      unfold S2
      congr 1
      funext i
      unfold Cx.mul Cx.conj Cx.nsq
      simp only
      grind
    have q2 : sumR n (fun i => ((x i).conj.mul (Cx.scale (n : Rat) (x i))).re) = (n : Rat) * S2 n x := by
      unfold S2
      rw [← sumR_mul]
      congr 1
      funext i
      unfold Cx.mul Cx.conj Cx.nsq Cx.scale
      simp only
      grind
    rw [q1, q2]
  rw [q] at p
  have p2' := (abs_le.1 p).2
  generalize S2 n (dft (zn n) n x) = u at *
  generalize (n : Rat) * S2 n x = v at *
  generalize (n : Rat) * (L * ((n : Rat) * (L * tG))) = y at *
  grind

/-! ### The digits -/
theorem pts_len5 {la : Nat} {za : Nat → Int} (va : ∀ i, i < la → 0 ≤ za i ∧ za i ≤ 255) (i : Nat) : Len (cv (ptsF la za i)) 255 := by
  rw [cv_pts la za va]
  split
  · rename_i h
    have := va i h
    exact (rC_len (B := 255) (by omega))
  · exact Len.zero.mono (by decide)
theorem pts_S2 {la : Nat} {za : Nat → Int} (va : ∀ i, i < la → 0 ≤ za i ∧ za i ≤ 255) : ∀ t, S2 t (fun i => cv (ptsF la za i)) ≤ ((min t la : Nat) : Rat) * 65025
  | 0 => by
    rw [Nat.zero_min]
    show (0 : Rat) ≤ ((0 : Nat) : Rat) * 65025
    decide +kernel
  | t + 1 => by
    have ih := pts_S2 va t
    show S2 t (fun i => cv (ptsF la za i)) + (cv (ptsF la za t)).nsq ≤ _
    rcases Nat.lt_or_ge t la with h | h
    · have a := (pts_len5 va t).2
      rw [show min (t + 1) la = min t la + 1 from by omega, Rat.natCast_add, show ((1 : Nat) : Rat) = 1 from rfl]
      generalize S2 t (fun i => cv (ptsF la za i)) = u at *
      generalize (cv (ptsF la za t)).nsq = v at *
      grind
    · rw [show min (t + 1) la = min t la from by omega, cv_pts la za va, if_neg (by omega), Cx.nsq_zero]
      generalize S2 t (fun i => cv (ptsF la za i)) = u at *
      grind
def dlt : Rat := 29/10000000
/-- What stands of one of the two transforms. -/
structure Fa (q n la : Nat) (za : Nat → Int) : Prop where
  bd : ∀ j, j < n → Bd 219 (blF q n (ptsF la za) (chF n) j)
  near : ∀ j, j < n → Len ((cv (blF q n (ptsF la za) (chF n) j)).sub (dft (zn n) n (fun i => cv (ptsF la za i)) j)) dlt
  len : ∀ j, Len (dft (zn n) n (fun i => cv (ptsF la za i)) j) ((la : Rat) * 255)
  s2 : S2 n (dft (zn n) n (fun i => cv (ptsF la za i))) ≤ (n : Rat) * (5865 * 5865)
theorem Fa.of {q n la : Nat} {za : Nat → Int} (h0 : 0 < n) (hn : n ≤ 1024) (hq : q ≤ 10) (hN : 2 * n ≤ 2 ^ (q + 1) + 1) (hla : la ≤ n) (ha2 : la ≤ 512) (va : ∀ i, i < la → 0 ≤ za i ∧ za i ≤ 255) : Fa q n la za := by
  have hn' : (n : Rat) ≤ 1024 := by
    have := Rat.natCast_le_natCast.2 hn
    exact this
  have hn0 : (0 : Rat) ≤ n := Rat.natCast_nonneg
  have hp : ∀ i, i < n → Bd 8 (ptsF la za i) := fun i _ => ptsF_bd va i
  have hl : ∀ i, i < n → Len (cv (ptsF la za i)) 255 := fun i _ => pts_len5 va i
  refine ⟨fun j hj => (blF_bd hq hN (e := 8) (by decide) (by decide) hp (fun i _ => chF_bd (j := i) h0 hn) j hj), fun j hj => ?_, fun j => ?_, ?_⟩
  · refine ((bl_err h0 hn hq hN (by decide) (by decide) hp (by decide +kernel) hl j hj).tri (any_dft h0 hn hl j hj)).mono ?_
    have a := Rat.mul_le_mul_of_nonneg_right hn' (show 0 ≤ 255 * p2 (-67) by decide +kernel)
    have b : bE * 255 + 1024 * (255 * p2 (-67)) ≤ dlt := by unfold bE dlt; decide +kernel
    generalize bE * 255 = u at *
    generalize 255 * p2 (-67) = v at *
    generalize dlt = y at *
    grind
  · rw [dft_pts _ _ la za va hla]
    refine Len.sum_const fun i hi => ?_
    have v := va i hi
    have := (rC_len (n := za i) (B := 255) (by omega)).mul (Len.unit (Cx.nsq_pow (zn_unit n) (i * j)))
    rw [Rat.mul_one] at this
    exact this
  · have e := any_energy hn hl
    have s := pts_S2 va n
    have m : ((min n la : Nat) : Rat) ≤ 512 := by
      have := Rat.natCast_le_natCast.2 (show min n la ≤ 512 by omega)
      exact this
    have s2 : S2 n (fun i => cv (ptsF la za i)) ≤ 512 * 65025 := by
      have := Rat.mul_le_mul_of_nonneg_right m (show (0 : Rat) ≤ 65025 by decide +kernel)
      exact Rat.le_trans s this
    have t : 255 * ((n : Rat) * (255 * tG)) ≤ 1 := by
      have a := Rat.mul_le_mul_of_nonneg_right hn' (show 0 ≤ 255 * (255 * tG) by unfold tG; decide +kernel)
      have b : 1024 * (255 * (255 * tG)) ≤ 1 := by unfold tG; decide +kernel
      generalize tG = g at *
      grind
    have f := Rat.mul_le_mul_of_nonneg_left s2 hn0
    have g := Rat.mul_le_mul_of_nonneg_left t hn0
    generalize S2 n (dft (zn n) n (fun i => cv (ptsF la za i))) = u at *
    generalize (n : Rat) * S2 n (fun i => cv (ptsF la za i)) = v at *
    generalize (n : Rat) * (255 * ((n : Rat) * (255 * tG))) = y at *
    grind
theorem half_prod {a b n : Rat} (h : a + b = n + 1) (h1 : 1 ≤ n) (h2 : n ≤ 1023) : a * b ≤ 257 * n := by
  have s := sq_nonneg (a - b)
  have t := Rat.mul_le_mul_of_nonneg_right h2 (show 0 ≤ n by grind)
  have e : (a + b) * (a + b) = (n + 1) * (n + 1) := by rw [h]
  grind
/-- The products. -/
theorem cva_prod {A B : Nat × Nat} {DA DB : Cx} {a b : Rat} (bA : Bd 219 A) (bB : Bd 219 B) (nA : Len ((cv A).sub DA) dlt) (nB : Len ((cv B).sub DB) dlt) (lA : Len DA (a * 255)) (lB : Len DB (b * 255)) (ha : a ≤ 512) (hb : b ≤ 512) :
    Bd 441 (cmul A B) ∧ Len (cv (cmul A B)) (a * b * 65025 + 9/10) ∧
    Len ((cv (cmul A B)).sub ((((cv A).sub DA).mul DB).add (DA.mul ((cv B).sub DB)) |>.add (DA.mul DB))) (1/100000) := by
  have l1 : Len (cv A) (130561) := (nA.of_sub lA).mono (by unfold dlt; grind)
  have l2 : Len (cv B) (130561) := (nB.of_sub lB).mono (by unfold dlt; grind)
  have m := mul_err2 bA bB (by decide) (by decide) l1 l2
  have dd' := nA.mul nB
  have e : ((cv A).mul (cv B)).sub ((((cv A).sub DA).mul DB).add (DA.mul ((cv B).sub DB)) |>.add (DA.mul DB)) = ((cv A).sub DA).mul ((cv B).sub DB) :=
    Cx.eq (by unfold Cx.add Cx.mul Cx.sub; simp only; grind) (by unfold Cx.add Cx.mul Cx.sub; simp only; grind)
  rw [← e] at dd'
  have f := (m.tri dd').mono (show 5/2 * (EE * (130561 * 130561)) + 6 * TT + dlt * dlt ≤ 1/100000 by unfold EE TT dlt; decide +kernel)
  refine ⟨(bA.mul bB (by decide) (by decide)).mono (by decide), ?_, f⟩
  have g := f.of_sub (((nA.mul lB).add (lA.mul nB)).add (lA.mul lB))
  refine g.mono ?_
  have h1 := Rat.mul_le_mul_of_nonneg_left ha (show 0 ≤ dlt by unfold dlt; decide +kernel)
  have h2 := Rat.mul_le_mul_of_nonneg_left hb (show 0 ≤ dlt by unfold dlt; decide +kernel)
  have h3 : 1/100000 + dlt * (512 * 255) + dlt * (512 * 255) ≤ 9/10 := by unfold dlt; decide +kernel
  generalize dlt = y at *
  grind
theorem cs_num {n : Rat} : 1/2 * (5865 * 10000000 / 29 * (n * (dlt * dlt)) + 29 / (5865 * 10000000) * (n * (5865 * 5865))) = n * (dlt * 5865) := by unfold dlt; grind
theorem cs_num2 {n : Rat} : 1/2 * (29 / (5865 * 10000000) * (n * (5865 * 5865)) + 5865 * 10000000 / 29 * (n * (dlt * dlt))) = n * (dlt * 5865) := by unfold dlt; grind
set_option maxHeartbeats 1000000 in
theorem cva_right {q n la lb : Nat} {za zb : Nat → Int} (hm : n + 1 = la + lb) (hq : q ≤ 10) (hN : 2 * n ≤ 2 ^ (q + 1) + 1) (ha2 : la ≤ 512) (hb2 : lb ≤ 512) (ha1 : 1 ≤ la) (hb1 : 1 ≤ lb)
    (va : ∀ i, i < la → 0 ≤ za i ∧ za i ≤ 255) (vb : ∀ i, i < lb → 0 ≤ zb i ∧ zb i ≤ 255) {P : Nat → Nat × Nat} (hP : ∀ j, j < n → P j = cmul (blF q n (ptsF la za) (chF n) j) (blF q n (ptsF lb zb) (chF n) j)) :
    (∀ j, j < n → Bd 441 (P j)) ∧ ∀ l, l < n → Nm (iaF q n P (chF n) l) ∧ Len ((cv (iaF q n P (chF n) l)).sub (rC (convZ za zb lb la l))) (6/25) := by
  have h0 : 0 < n := by omega
  have hn : n ≤ 1024 := by omega
  have fA := Fa.of (za := za) h0 hn hq hN (show la ≤ n by omega) ha2 va
  have fB := Fa.of (za := zb) h0 hn hq hN (show lb ≤ n by omega) hb2 vb
  have hn1 : (1 : Rat) ≤ n := by
    have := Rat.natCast_le_natCast.2 h0
    exact this
  have hn2 : (n : Rat) ≤ 1023 := by
    have := Rat.natCast_le_natCast.2 (show n ≤ 1023 by omega)
    exact this
  have hla' : (la : Rat) ≤ 512 := by
    have := Rat.natCast_le_natCast.2 ha2
    exact this
  have hlb' : (lb : Rat) ≤ 512 := by
    have := Rat.natCast_le_natCast.2 hb2
    exact this
  have hab : (la : Rat) + (lb : Rat) = (n : Rat) + 1 := by
    rw [← Rat.natCast_add, ← hm, Rat.natCast_add]; rfl
  have hpr := half_prod hab hn1 hn2
  have pr := fun j (hj : j < n) => cva_prod (fA.bd j hj) (fB.bd j hj) (fA.near j hj) (fB.near j hj) (fA.len j) (fB.len j) hla' hlb'
  obtain ⟨DA, hDA⟩ : ∃ D, D = dft (zn n) n (fun i => cv (ptsF la za i)) := ⟨_, rfl⟩
  obtain ⟨DB, hDB⟩ : ∃ D, D = dft (zn n) n (fun i => cv (ptsF lb zb i)) := ⟨_, rfl⟩
  have nA := fA.near
  have nB := fB.near
  have sA := fA.s2
  have sB := fB.s2
  rw [← hDA] at nA sA
  rw [← hDB] at nB sB
  simp only [← hDA, ← hDB] at pr
  obtain ⟨X, hX⟩ : ∃ X, X = blF q n (ptsF la za) (chF n) := ⟨_, rfl⟩
  obtain ⟨Y, hY⟩ : ∃ Y, Y = blF q n (ptsF lb zb) (chF n) := ⟨_, rfl⟩
  simp only [← hX] at pr nA hP
  simp only [← hY] at pr nB hP
  have bP : ∀ j, j < n → Bd 441 (P j) := fun j hj => by rw [hP j hj]; exact (pr j hj).1
  refine ⟨bP, fun l hl => ?_⟩
  have lP : ∀ j, j < n → Len (cv (P j)) ((n : Rat) * 16711426) := fun j hj => by
    rw [hP j hj]
    refine (pr j hj).2.1.mono ?_
    have := Rat.mul_le_mul_of_nonneg_right hpr (show (0 : Rat) ≤ 65025 by decide +kernel)
    grind
  have hzc : (zn n).conj.nsq = 1 := by rw [Cx.nsq_conj]; exact zn_unit n
  have u1 : Len (dft (zn n).conj n (fun j => ((cv (X j)).sub (DA j)).mul (DB j)) l) ((n : Rat) * (dlt * 5865)) := by
    have := dft_prod (t := 5865 * 10000000 / 29) (s := 29 / (5865 * 10000000)) hzc (by decide +kernel) (by decide +kernel) (by decide +kernel) (S2_le_len nA) sB l
    rw [cs_num] at this
    exact this
  have u2 : Len (dft (zn n).conj n (fun j => (DA j).mul ((cv (Y j)).sub (DB j))) l) ((n : Rat) * (dlt * 5865)) := by
    have := dft_prod (t := 29 / (5865 * 10000000)) (s := 5865 * 10000000 / 29) hzc (by decide +kernel) (by decide +kernel) (by decide +kernel) sA (S2_le_len nB) l
    rw [cs_num2] at this
    exact this
  have u3 := dft_len hzc (y := fun j => (cv (P j)).sub ((((cv (X j)).sub (DA j)).mul (DB j)).add ((DA j).mul ((cv (Y j)).sub (DB j))) |>.add ((DA j).mul (DB j)))) (L := 1/100000) (fun j hj => by rw [hP j hj]; exact (pr j hj).2.2) l
  rw [← dft_diff, dft_add, dft_add] at u3
  have cd : ∀ j, (DA j).mul (DB j) = dft (zn n) n (fun m => rC (convZ za zb lb la m)) j := fun j => by
    rw [hDA, hDB, dft_pts _ _ la za va (by omega), dft_pts _ _ lb zb vb (by omega)]
    exact (conv_dft (zn n) za zb lb n j la (.inl (by omega))).symm
  rw [dft_congr (fun j _ => cd j) l] at u3
  have u4 := any_back hn (fun i _ => convC_len (lb := lb) ha2 va vb i) l hl
  have H : Len ((dft (zn n).conj n (fun j => cv (P j)) l).sub (Cx.scale (n : Rat) (rC (convZ za zb lb la l)))) ((n : Rat) * (69/2000)) := by
    have a := (u3.add (u1.add u2)).add u4
    have e : ∀ p x y z s : Cx, ((p.sub ((x.add y).add z)).add (x.add y)).add (z.sub s) = p.sub s := fun p x y z s =>
      Cx.eq (by unfold Cx.add Cx.sub; simp only; grind) (by unfold Cx.add Cx.sub; simp only; grind)
    rw [e] at a
    refine a.mono ?_
    have k : 1/100000 + (dlt * 5865 + dlt * 5865) + ((2 ^ 26 : Nat) : Rat) * tG ≤ 69/2000 := by unfold dlt tG; decide +kernel
    have := Rat.mul_le_mul_of_nonneg_left k (show (0 : Rat) ≤ n from Rat.natCast_nonneg)
    generalize ((2 ^ 26 : Nat) : Rat) * tG = y at *
    generalize dlt * 5865 = z at *
    grind
  obtain ⟨g1, g2⟩ := ia_err h0 hn hq hN (e := 441) (M := 16711426) (D := 9/40) (by decide) (by decide) bP (by decide +kernel) lP hl H (convC_len (lb := lb) ha2 va vb l) (by unfold bE; decide +kernel)
  exact ⟨g1, g2.mono (by decide +kernel)⟩
end Go.Proofs.Ygctaf
