/-
  Convolve's RAW POINTS ARE WITHIN 1/8 OF THE CONVOLUTION; Nearest then gives it, surely.
-/
import Derived.Test.YgctafFwd
import Derived.Test.YgctafW14
namespace Go.Proofs.Ygctaf
open Ieee

theorem nearF_of_near {x : Nat} {N : Int} (hx : Num x) (h : (V x - (N : Rat)).abs ≤ 1/8) (hN : N.natAbs ≤ 2 ^ 50) : nearF x = (N, true) := by
  have hN1 : (N : Rat) ≤ p2 50 ∧ -p2 50 ≤ (N : Rat) := by
    have a1 : N ≤ ((2 ^ 50 : Nat) : Int) := by omega
    have a2 : -((2 ^ 50 : Nat) : Int) ≤ N := by omega
    have b1 := Rat.intCast_le_intCast.2 a1
    have b2 := Rat.intCast_le_intCast.2 a2
    rw [Rat.intCast_neg] at b2
    rw [show p2 50 = (((2 ^ 50 : Nat) : Int) : Rat) from p2_nat 50]
    exact ⟨b1, b2⟩
  have h' := abs_le.1 h
  have hin : inB x = true := by
    rw [inB_iff]
    have e1 : p2 50 + 1 < p2 52 := by decide +kernel
    exact ⟨hx, by grind, by grind⟩
  obtain ⟨_, f1, f2, _⟩ := ftoi_spec hx
  have fs := ftoi_small hin
  have key : ∀ r : Int, r.natAbs ≤ 2 ^ 53 → (V x - (r : Rat)).abs < 2 → Num (fsub x (fint r)) ∧ (V (fsub x (fint r)) - (V x - (r : Rat))).abs ≤ 1/32 := by
    intro r hr h2
    have hi := fint_rounded r hr
    have h3 : (2 : Rat) < p2 1023 := by decide +kernel
    have h4 : (V x - V (fint r)).abs < p2 1023 := by rw [hi.2]; grind
    have hs := sub_rounded hx hi.1.num h4
    rw [hi.2] at hs
    refine ⟨hs.num, Rat.le_trans (hs.half 1 (by decide) (by rw [p2_one]; exact h2)) (by decide +kernel)⟩
  generalize hr : ftoi x = r at *
  have hq : ∀ r2 : Int, r2 = N → quarterB (fsub x (fint r2)) = true := by
    intro r2 e
    subst e
    obtain ⟨k1, k2⟩ := key r2 (by omega) (by grind)
    rw [quarterB_iff]
    refine ⟨k1, ?_⟩
    have e3 : p2 (-2) = 1/4 := by decide +kernel
    rw [e3]
    have := abs_le.1 k2
    exact abs_le.2 ⟨by grind, by grind⟩
  obtain ⟨k1, k2⟩ := key r (by omega) (by grind)
  have k3 := abs_le.1 k2
  have e5 : p2 (-1) = 1/2 := by decide +kernel
  have hg : geB (fsub x (fint r)) 4602678819172646912 = true ↔ 1/2 ≤ V (fsub x (fint r)) := by rw [geB_iff k1 c05.1, c05.2, e5]
  have hl : leB (fsub x (fint r)) 13826050856027422720 = true ↔ V (fsub x (fint r)) ≤ -(1/2) := by rw [leB_iff k1 n05.1, n05.2, e5]
  have f1' : -1 < V x - (r : Rat) ∧ V x - (r : Rat) < 1 := by
    by_cases g : 0 ≤ V x - (r : Rat)
    · rw [Rat.abs_of_nonneg g] at f1; grind
    · rw [Rat.abs_of_nonpos (by grind)] at f1; grind
  have hc : r = N ∨ r = N - 1 ∨ r = N + 1 := by
    have a1 : (r : Rat) < ((N + 2 : Int) : Rat) := by rw [Rat.intCast_add, show ((2 : Int) : Rat) = 2 from rfl]; grind
    have a2 : ((N - 2 : Int) : Rat) < (r : Rat) := by rw [Rat.intCast_sub, show ((2 : Int) : Rat) = 2 from rfl]; grind
    have b1 := Rat.intCast_lt_intCast.1 a1
    have b2 := Rat.intCast_lt_intCast.1 a2
    omega
  unfold nearF
  rw [if_pos hin, hr]
  dsimp only
  rcases hc with rfl | rfl | rfl
  · have g1 : geB (fsub x (fint r)) 4602678819172646912 = false := by rw [Bool.eq_false_iff]; intro hh; rw [hg] at hh; grind
    have g2 : leB (fsub x (fint r)) 13826050856027422720 = false := by rw [Bool.eq_false_iff]; intro hh; rw [hl] at hh; grind
    rw [g1, g2]
    simp only [Bool.false_eq_true, if_false]
    rw [hq r rfl]
  · rw [Rat.intCast_sub, show ((1 : Int) : Rat) = 1 from rfl] at k3
    have g1 : geB (fsub x (fint (N - 1))) 4602678819172646912 = true := by rw [hg]; grind
    have g2 : leB (fsub x (fint (N - 1))) 13826050856027422720 = false := by rw [Bool.eq_false_iff]; intro hh; rw [hl] at hh; grind
    rw [g1, g2]
    simp only [Bool.false_eq_true, if_false, if_true]
    rw [hq (N - 1 + 1) (by omega), show N - 1 + 1 = N from by omega]
  · rw [Rat.intCast_add, show ((1 : Int) : Rat) = 1 from rfl] at k3
    have g1 : geB (fsub x (fint (N + 1))) 4602678819172646912 = false := by rw [Bool.eq_false_iff]; intro hh; rw [hg] at hh; grind
    have g2 : leB (fsub x (fint (N + 1))) 13826050856027422720 = true := by rw [hl]; grind
    rw [g1, g2]
    simp only [Bool.false_eq_true, if_false, if_true]
    rw [hq (N + 1 - 1) (by omega), show N + 1 - 1 = N from by omega]

theorem rC_len {n : Int} {B : Nat} (h : n.natAbs ≤ B) : Len (rC n) (B : Rat) := by
  refine ⟨Rat.natCast_nonneg, ?_⟩
  unfold rC Cx.nsq
  simp only
  have := sq_le_of_abs (show ((n : Rat)).abs ≤ (B : Rat) by rw [natAbs_abs]; exact Rat.natCast_le_natCast.2 h)
  grind
theorem cv_int {n : Int} (h : n.natAbs ≤ 2 ^ 53) : cv (fint n, 0) = rC n := Cx.eq (fint_rounded n h).2 num_zero.2
theorem cv_pts (la : Nat) (za : Nat → Int) (va : ∀ i, i < la → 0 ≤ za i ∧ za i ≤ 255) (i : Nat) : cv (ptsF la za i) = if i < la then rC (za i) else .zero := by
  unfold ptsF
  split
  · rename_i h
    have := va i h
    exact cv_int (by omega)
  · exact Cx.eq num_zero.2 num_zero.2
theorem pts_len (la : Nat) (za : Nat → Int) (va : ∀ i, i < la → 0 ≤ za i ∧ za i ≤ 255) (i : Nat) : Len (cv (ptsF la za i)) 256 := by
  rw [cv_pts la za va]
  split
  · rename_i h
    have := va i h
    exact (rC_len (B := 256) (by omega))
  · exact Len.zero.mono (by decide)
theorem dft_pts (z : Cx) (n la : Nat) (za : Nat → Int) (va : ∀ i, i < la → 0 ≤ za i ∧ za i ≤ 255) (h : la ≤ n) (j : Nat) :
    dft z n (fun i => cv (ptsF la za i)) j = sumC la fun i => (rC (za i)).mul (z.pow (i * j)) := by
  unfold dft
  obtain ⟨d, rfl⟩ : ∃ d, n = la + d := ⟨n - la, by omega⟩
  rw [sumC_split]
  have e1 : (sumC la fun i => (cv (ptsF la za i)).mul (z.pow (i * j))) = sumC la fun i => (rC (za i)).mul (z.pow (i * j)) :=
    sumC_congr fun i hi => by rw [cv_pts la za va, if_pos hi]
  have e2 : (sumC d fun i => (cv (ptsF la za (la + i))).mul (z.pow ((la + i) * j))) = .zero := by
    rw [sumC_congr (g := fun _ => Cx.zero) (fun i _ => by rw [cv_pts la za va, if_neg (by omega), Cx.zero_mul]), sumC_zero]
  rw [e1, e2, Cx.add_zero]
theorem convZ_bd (a b : Nat → Int) (la lb : Nat) (va : ∀ i, i < la → 0 ≤ a i ∧ a i ≤ 255) (vb : ∀ i, i < lb → 0 ≤ b i ∧ b i ≤ 255) (m : Nat) :
    ∀ i, i ≤ la → 0 ≤ convZ a b lb i m ∧ convZ a b lb i m ≤ 65025 * i
  | 0, _ => ⟨Int.le_refl _, by show (0 : Int) ≤ _; omega⟩
  | i + 1, h => by
    obtain ⟨h1, h2⟩ := convZ_bd a b la lb va vb m i (by omega)
    show 0 ≤ convZ a b lb i m + _ ∧ convZ a b lb i m + _ ≤ _
    split
    · rename_i hc
      have x := va i (by omega)
      have y := vb (m - i) hc.2
      have p : a i * b (m - i) ≤ 255 * 255 := Int.mul_le_mul x.2 y.2 y.1 (by decide)
      have q := Int.mul_nonneg x.1 y.1
      omega
    · omega
theorem convZ_far (a b : Nat → Int) (lb m : Nat) : ∀ i, i + lb ≤ m + 1 → 1 ≤ lb → convZ a b lb i m = 0
  | 0, _, _ => rfl
  | i + 1, h, hb => by
    show convZ a b lb i m + _ = 0
    rw [convZ_far a b lb m i (by omega) hb, if_neg (by omega)]; rfl

theorem mul_len {x w : Nat × Nat} {e f : Int} {r s : Rat} (hx : Bd e x) (hw : Bd f w) (h0 : 0 ≤ e + f) (h1 : e + f ≤ 990) (lx : Len (cv x) r) (lw : Len (cv w) s) :
    Len ((cv (cmul x w)).sub ((cv x).mul (cv w))) (5 * EE * (r * s) + 8 * TT) := by
  have h := cv_mul_err hx hw h0 h1
  have hE := Rat.le_of_lt EE_pos
  have hT := Rat.le_of_lt TT_pos
  have hrs := Rat.mul_nonneg lx.1 lw.1
  have a1 : 0 ≤ EE * (r * s) := Rat.mul_nonneg hE hrs
  refine ⟨by grind, Rat.le_trans h ?_⟩
  have p : (cv x).nsq * (cv w).nsq ≤ (r * r) * (s * s) :=
    Rat.le_trans (Rat.mul_le_mul_of_nonneg_left lw.2 (Cx.nsq_nonneg _)) (Rat.mul_le_mul_of_nonneg_right lx.2 (sq_nonneg s))
  have p2' := Rat.mul_le_mul_of_nonneg_left p (sq_nonneg EE)
  have a2 := Rat.mul_nonneg a1 hT
  have a3 := sq_nonneg (EE * (r * s))
  have e1 : EE * EE * (r * r * (s * s)) = EE * (r * s) * (EE * (r * s)) := by grind
  rw [e1] at p2'
  generalize (cv x).nsq * (cv w).nsq = u at *
  have e2 : 81 / 4 * (EE * EE) * u = 81 / 4 * (EE * EE * u) := by grind
  rw [e2]
  have e3 : 5 * EE * (r * s) = 5 * (EE * (r * s)) := by grind
  rw [e3]
  generalize EE * EE * u = v at *
  generalize EE * (r * s) = y at *
  generalize TT = t at *
  grind

theorem conv_right {q la lb : Nat} {za zb : Nat → Int} (hq : q ≤ 9) (ha1 : 1 ≤ la) (ha2 : la ≤ 512) (hb1 : 1 ≤ lb) (hb2 : lb ≤ 512) (hl : la + lb ≤ 2 ^ (q + 1) + 1)
    (va : ∀ i, i < la → 0 ≤ za i ∧ za i ≤ 255) (vb : ∀ i, i < lb → 0 ≤ zb i ∧ zb i ≤ 255) (m : Nat) (hm : m < 2 ^ (q + 1)) :
    Bd 218 (rawF (q + 1) la za lb zb m) ∧ (V (rawF (q + 1) la za lb zb m).1 - (convZ za zb lb la m : Rat)).abs ≤ 1/8 ∧ (V (rawF (q + 1) la za lb zb m).2).abs ≤ 1/8 := by
  obtain ⟨d1, d2, d3, d4⟩ := rawF_bds (q := q) (la := la) (lb := lb) (za := za) (zb := zb) (by omega) va vb
  refine ⟨d4 m hm, ?_⟩
  have hn : 2 ^ (q + 1) ≤ 2 ^ 10 := Nat.pow_le_pow_right (by decide) (by omega)
  have hP : p2 ((q + 1 : Nat) : Int) ≤ p2 10 := p2_le (by omega)
  have l256 : p2 (-1015) ≤ 256 := by decide +kernel
  have fA := fun j (hj : j < 2 ^ (q + 1)) => fwd_right (k := q + 1) (e := 8) (L := 256) (by omega) (by omega) (by decide) (by decide) (fun i _ => ptsF_bd va i) l256 (fun i _ => pts_len la za va i) j hj
  have fB := fun j (hj : j < 2 ^ (q + 1)) => fwd_right (k := q + 1) (e := 8) (L := 256) (by omega) (by omega) (by decide) (by decide) (fun i _ => ptsF_bd vb i) l256 (fun i _ => pts_len lb zb vb i) j hj
  have hdel : p2 (-43) * (p2 ((q + 1 : Nat) : Int) * 256) ≤ p2 (-25) := by
    have e : p2 (-25) = p2 (-43) * (p2 10 * 256) := by decide +kernel
    rw [e]
    exact Rat.mul_le_mul_of_nonneg_left (Rat.mul_le_mul_of_nonneg_right hP (by decide)) (p2_nonneg _)
  have lD : ∀ (l : Nat) (z : Nat → Int), l ≤ 512 → (∀ i, i < l → 0 ≤ z i ∧ z i ≤ 255) → ∀ j, Len (sumC l fun i => (rC (z i)).mul ((zeK (q + 1)).pow (i * j))) (p2 17) := by
    intro l z hl' vz j
    have := Len.sum_const (n := l) (f := fun i => (rC (z i)).mul ((zeK (q + 1)).pow (i * j))) (c := 256) (fun i hi => by
      have v := vz i hi
      have := (rC_len (n := z i) (B := 256) (by omega)).mul (Len.unit (zeK_pow_unit (q + 1) (i * j)))
      rw [Rat.mul_one] at this; exact this)
    refine this.mono ?_
    have e : p2 17 = ((512 : Nat) : Rat) * 256 := by decide +kernel
    rw [e]
    exact Rat.mul_le_mul_of_nonneg_right (Rat.natCast_le_natCast.2 hl') (by decide)
  have hz : ∀ j, j < 2 ^ (q + 1) → Len ((cv (cmul (fwdF (q + 1) (tabF (q + 1)) (ptsF la za) j) (fwdF (q + 1) (tabF (q + 1)) (ptsF lb zb) j))).sub (dft (zeK (q + 1)) (2 ^ (q + 1)) (fun m => rC (convZ za zb lb la m)) j)) (p2 (-5)) ∧
      Len (cv (cmul (fwdF (q + 1) (tabF (q + 1)) (ptsF la za) j) (fwdF (q + 1) (tabF (q + 1)) (ptsF lb zb) j))) (p2 36) := by
    intro j hj
    have a := (fA j hj).mono hdel
    have b := (fB j hj).mono hdel
    rw [dft_pts _ _ la za va (by omega)] at a
    rw [dft_pts _ _ lb zb vb (by omega)] at b
    have cd := conv_dft (zeK (q + 1)) za zb lb (2 ^ (q + 1)) j la (.inl hl)
    have cd' : dft (zeK (q + 1)) (2 ^ (q + 1)) (fun m => rC (convZ za zb lb la m)) j = (sumC la fun i => (rC (za i)).mul ((zeK (q + 1)).pow (i * j))).mul (sumC lb fun i => (rC (zb i)).mul ((zeK (q + 1)).pow (i * j))) := cd
    rw [cd']
    have la' := lD la za ha2 va j
    have lb' := lD lb zb hb2 vb j
    have xa := d1 j hj
    have xb := d2 j hj
    generalize fwdF (q + 1) (tabF (q + 1)) (ptsF la za) j = A at *
    generalize fwdF (q + 1) (tabF (q + 1)) (ptsF lb zb) j = B at *
    generalize (sumC la fun i => (rC (za i)).mul ((zeK (q + 1)).pow (i * j))) = DA at *
    generalize (sumC lb fun i => (rC (zb i)).mul ((zeK (q + 1)).pow (i * j))) = DB at *
    have lA := (Len.of_sub a la').mono (show p2 (-25) + p2 17 ≤ p2 17 + 1 by decide +kernel)
    have lB := (Len.of_sub b lb').mono (show p2 (-25) + p2 17 ≤ p2 17 + 1 by decide +kernel)
    have ml := mul_len xa xb (by decide) (by decide) lA lB
    have pr := (a.mul lB).add (la'.mul b)
    have e : (((cv A).sub DA).mul (cv B)).add (DA.mul ((cv B).sub DB)) = ((cv A).mul (cv B)).sub (DA.mul DB) :=
      Cx.eq (by unfold Cx.add Cx.mul Cx.sub; simp only; grind) (by unfold Cx.add Cx.mul Cx.sub; simp only; grind)
    rw [e] at pr
    refine ⟨(ml.tri pr).mono (by unfold EE TT; decide +kernel), ?_⟩
    exact (Len.of_sub ml (lA.mul lB)).mono (by unfold EE TT; decide +kernel)
  have hc : ∀ i, i < 2 ^ (q + 1) → Len (rC (convZ za zb lb la i)) ((2 ^ 26 : Nat) : Rat) := by
    intro i _
    have := convZ_bd za zb la lb va vb i la (Nat.le_refl _)
    exact rC_len (by omega)
  have fin := inv_right (k := q + 1) (e := 151) (by omega) (by omega) (by decide) (by decide) d3 (show p2 (-1015) ≤ p2 36 from p2_le (by decide)) (fun i hi => (hz i hi).2) hc (fun j hj => (hz j hj).1) m hm
  have fin2 := (fin.mono (show p2 (-5) + p2 (-42) * p2 36 + p2 (-100) * ((2 ^ 26 : Nat) : Rat) ≤ 1/8 by decide +kernel)).parts
  obtain ⟨g1, g2⟩ := fin2
  refine ⟨g1, ?_⟩
  have g3 : (V (rawF (q + 1) la za lb zb m).2 - 0).abs ≤ 1/8 := g2
  rw [show V (rawF (q + 1) la za lb zb m).2 - 0 = V (rawF (q + 1) la za lb zb m).2 from by grind] at g3
  exact g3

theorem quarter_small {x : Nat} (hx : Num x) (h : (V x).abs ≤ 1/8) : quarterB x = true := by
  rw [quarterB_iff]
  exact ⟨hx, Rat.le_trans h (by decide +kernel)⟩

theorem conv_sure {q la lb : Nat} {za zb : Nat → Int} (hq : q ≤ 9) (ha1 : 1 ≤ la) (ha2 : la ≤ 512) (hb1 : 1 ≤ lb) (hb2 : lb ≤ 512) (hl : la + lb ≤ 2 ^ (q + 1) + 1)
    (va : ∀ i, i < la → 0 ≤ za i ∧ za i ≤ 255) (vb : ∀ i, i < lb → 0 ≤ zb i ∧ zb i ≤ 255) :
    (∀ i, i < 2 ^ (q + 1) → nearF (rawF (q + 1) la za lb zb i).1 = (convZ za zb lb la i, true)) ∧
    ∀ t, t ≤ 2 ^ (q + 1) → sureF (rawF (q + 1) la za lb zb) (la + lb - 1) t = true := by
  have h1 : ∀ i, i < 2 ^ (q + 1) → nearF (rawF (q + 1) la za lb zb i).1 = (convZ za zb lb la i, true) := by
    intro i hi
    obtain ⟨g, g1, g2⟩ := conv_right hq ha1 ha2 hb1 hb2 hl va vb i hi
    have := convZ_bd za zb la lb va vb i la (Nat.le_refl _)
    exact nearF_of_near g.re.num g1 (by omega)
  refine ⟨h1, ?_⟩
  intro t
  induction t with
  | zero => intro _; rfl
  | succ t ih =>
    intro ht
    obtain ⟨g, g1, g2⟩ := conv_right hq ha1 ha2 hb1 hb2 hl va vb t (by omega)
    rw [sureF_succ, ih (by omega), quarter_small g.im.num g2]
    unfold okF
    split
    · rw [h1 t (by omega)]; rfl
    · rw [convZ_far za zb lb t la (by omega) hb1] at g1
      have g3 : (V (rawF (q + 1) la za lb zb t).1 - 0).abs ≤ 1/8 := g1
      rw [show V (rawF (q + 1) la za lb zb t).1 - 0 = V (rawF (q + 1) la za lb zb t).1 from by grind] at g3
      rw [quarter_small g.re.num g3]; rfl
end Go.Proofs.Ygctaf
