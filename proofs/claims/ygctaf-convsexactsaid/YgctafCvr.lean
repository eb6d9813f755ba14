/-
  fftx.ConvolveReal: the plain law.
-/
import Derived.Test.YgctafW40
import Derived.Test.YgctafRealLaw
import Derived.Test.YgctafW31
namespace Go.Proofs.Ygctaf
open Ieee

theorem rls_cv (la : Nat) (za : Nat → Int) (i : Nat) : rxC (rlsF la za) i = cv (ptsF la za i) := by
  unfold rxC rlsF ptsF
  split
  · exact Cx.eq rfl num_zero.2.symm
  · exact Cx.eq rfl num_zero.2.symm
theorem rls_bd {la : Nat} {za : Nat → Int} (va : ∀ i, i < la → 0 ≤ za i ∧ za i ≤ 255) (i : Nat) : B1 8 (rlsF la za i) := by
  unfold rlsF
  split
  · rename_i h
    have := va i h
    exact B1.int (e := 8) (by omega) (by decide)
  · exact B1.zero 8
theorem rls_val {la : Nat} {za : Nat → Int} (va : ∀ i, i < la → 0 ≤ za i ∧ za i ≤ 255) (i : Nat) : (V (rlsF la za i)).abs ≤ 255 := by
  unfold rlsF
  split
  · rename_i h
    have := va i h
    rw [(fint_rounded (za i) (by omega)).2, natAbs_abs]
    have h2 : (za i).natAbs ≤ 255 := by omega
    have := Rat.natCast_le_natCast.2 h2
    exact this
  · rw [num_zero.2, Rat.abs_zero]; decide +kernel
theorem rls_len {la : Nat} {za : Nat → Int} (va : ∀ i, i < la → 0 ≤ za i ∧ za i ≤ 255) (j : Nat) : Len (zxC (rlsF la za) j) 361 := by
  have a := sq_le_of_abs (rls_val va (2 * j))
  have b := sq_le_of_abs (rls_val va (2 * j + 1))
  refine ⟨by decide +kernel, ?_⟩
  unfold zxC Cx.nsq
  simp only
  grind
/-- The sums as floats. -/
def cvF (za zb : Nat → Int) (lb la : Nat) (i : Nat) : Nat := fint (convZ za zb lb la i)
theorem ap2_num {E M t : Rat} (hE0 : 0 ≤ E) (hM : 0 ≤ M) (ht : 6 * t ≤ 1/100 * (E * (M * M))) :
    5/2 * (E * (1001/1000 * M * (1001/1000 * M))) + 6 * t + (1001/1000 * M * (202 * (E * M)) + 202 * (E * M) * M) ≤ 410 * (E * (M * M)) := by
  have h := Rat.mul_nonneg hE0 (Rat.mul_nonneg hM hM)
  grind
theorem ap2_len {E M : Rat} (hE : E ≤ 1/1000000000000000) (hM : 0 ≤ M) : 202 * (E * M) + M ≤ 1001/1000 * M := by
  have := Rat.mul_le_mul_of_nonneg_right hE hM
  grind
theorem ap2 {x y : Nat × Nat} {a b : Cx} {M : Rat} (hx : Ap 82 x a M 202) (hy : Ap 82 y b M 202) (hM : 1 ≤ M) : Ap 167 (cmul x y) (a.mul b) (M * M) 410 := by
  have hM0 : 0 ≤ M := hx.m0
  have hE := Rat.le_of_lt EE_pos
  have lx := (hx.near.of_sub hx.len).mono (ap2_len EE_tiny hM0)
  have ly := (hy.near.of_sub hy.len).mono (ap2_len EE_tiny hM0)
  have hMM : 1 ≤ M * M := by
    have := Rat.mul_le_mul_of_nonneg_left hM hM0
    grind
  have ht : 6 * TT ≤ 1/100 * (EE * (M * M)) := by
    have a : 6 * TT ≤ 1/100 * EE := by unfold TT EE; decide +kernel
    have b := Rat.mul_le_mul_of_nonneg_left hMM hE
    generalize EE * (M * M) = u at *
    generalize TT = t at *
    grind
  have m := (mul_err2 hx.bd hy.bd (by decide) (by decide) lx ly).tri (prod_nearL hx.near hy.near lx hy.len)
  refine ⟨(hx.bd.mul hy.bd (by decide) (by decide)).mono (by decide), hx.len.mul hy.len, m.mono (ap2_num hE hM0 ht), Rat.le_trans (by decide +kernel) hMM, by decide +kernel, by decide +kernel⟩
theorem nat_mul_le {a b : Nat} {c : Rat} (h : a ≤ b) (hc : 0 ≤ c) : (a : Rat) * c ≤ (b : Rat) * c := Rat.mul_le_mul_of_nonneg_right (Rat.natCast_le_natCast.2 h) hc
theorem cvr_right {q m la lb : Nat} {za zb : Nat → Int} (hq : q ≤ 9) (hm : m = 2 ^ q) (ha2 : la ≤ 512) (hl : la + lb ≤ 2 * m + 1) (ha1 : 1 ≤ la) (hb1 : 1 ≤ lb)
    (va : ∀ i, i < la → 0 ≤ za i ∧ za i ≤ 255) (vb : ∀ i, i < lb → 0 ≤ zb i ∧ zb i ≤ 255) {g : Nat → Nat × Nat}
    (hg : ∀ kk, kk ≤ m → g kk = cmul (frO (q + 1) m (tabF (q + 1)) (rlsF la za) kk) (frO (q + 1) m (tabF (q + 1)) (rlsF lb zb) kk)) :
    (∀ kk, kk ≤ m → Bd 167 (g kk)) ∧ ∀ i, i < 2 * m → Nm (irO (q + 1) m (tabF (q + 1)) g i, 0) ∧ Len ((cv (irO (q + 1) m (tabF (q + 1)) g i, 0)).sub (rC (convZ za zb lb la i))) (6/25) := by
  have hm1 : m = 2 ^ (q + 1 - 1) := hm
  have hm0 : 0 < m := by rw [hm]; exact Nat.two_pow_pos _
  have hmb : m ≤ 512 := by rw [hm]; exact Nat.pow_le_pow_right (n := 2) (by decide) hq
  have hr1 : (1 : Rat) ≤ (m : Rat) := natc_le (a := 1) hm0
  have hr2 : (m : Rat) ≤ 512 := by
    have := Rat.natCast_le_natCast.2 hmb
    exact this
  have fA := fun kk (hkk : kk ≤ m) => fr_near (f := rlsF la za) (L := 361) (e := 8) (by omega) (by omega) hm1 hkk (by decide) (by decide) (by decide +kernel) (fun i _ => rls_bd va i) (fun j _ => rls_len va j)
  have fB := fun kk (hkk : kk ≤ m) => fr_near (f := rlsF lb zb) (L := 361) (e := 8) (by omega) (by omega) hm1 hkk (by decide) (by decide) (by decide +kernel) (fun i _ => rls_bd vb i) (fun j _ => rls_len vb j)
  obtain ⟨L, hL⟩ : ∃ L : Rat, L = 2 * ((m : Rat) * (361 * 361)) := ⟨_, rfl⟩
  have hML : 2 * ((m : Rat) * 361) * (2 * ((m : Rat) * 361)) = 2 * ((m : Rat) * L) := by rw [hL]; grind
  have bc := fun i => convZ_bd za zb la lb va vb i la (Nat.le_refl _)
  have vc : ∀ i, V (cvF za zb lb la i) = (convZ za zb lb la i : Rat) := fun i => by
    have := bc i
    exact (fint_rounded _ (by omega)).2
  have rc : ∀ i, rxC (cvF za zb lb la) i = rC (convZ za zb lb la i) := fun i => Cx.eq (vc i) rfl
  have ab : ∀ i, (V (cvF za zb lb la i)).abs ≤ (m : Rat) * 130050 := fun i => by
    rw [vc, natAbs_abs]
    have := bc i
    have h1 : (convZ za zb lb la i).natAbs ≤ m * 130050 := by omega
    have h2 := Rat.natCast_le_natCast.2 h1
    rw [Rat.natCast_mul] at h2
    exact h2
  have hL0 : p2 (-1015) ≤ L := by
    rw [hL]
    have : p2 (-1015) ≤ 1 := by decide +kernel
    grind
  have hLz : 2 * ((m : Rat) * 130050) ≤ L := by rw [hL]; grind
  have hz : ∀ j, j < m → Len (zxC (cvF za zb lb la) j) L := fun j _ => (Len.of_parts (z := zxC (cvF za zb lb la) j) (ab (2 * j)) (ab (2 * j + 1))).mono hLz
  have hx : ∀ i, i < 2 * m → Len (rxC (cvF za zb lb la) i) L := fun i _ => (Len.of_parts (z := rxC (cvF za zb lb la) i) (ab i) (by show (0 : Rat).abs ≤ _; rw [Rat.abs_zero]; grind)).mono hLz
  have gg : ∀ kk, kk ≤ m → Ap 167 (g kk) (dft (zeK (q + 1)) (2 * m) (rxC (cvF za zb lb la)) kk) (2 * ((m : Rat) * L)) 410 := fun kk hkk => by
    have a := ap2 (fA kk hkk) (fB kk hkk) (by grind)
    rw [← hg kk hkk, hML] at a
    have e : dft (zeK (q + 1)) (2 * m) (rxC (cvF za zb lb la)) kk = (dft (zeK (q + 1)) (2 * m) (rxC (rlsF la za)) kk).mul (dft (zeK (q + 1)) (2 * m) (rxC (rlsF lb zb)) kk) := by
      rw [dft_congr (fun i _ => rc i) kk, dft_congr (fun i _ => rls_cv la za i) kk, dft_congr (fun i _ => rls_cv lb zb i) kk, dft_pts _ _ la za va (by omega), dft_pts _ _ lb zb vb (by omega)]
      exact conv_dft (zeK (q + 1)) za zb lb (2 * m) kk la (.inl hl)
    rw [e]
    exact a
  refine ⟨fun kk hkk => (gg kk hkk).bd, fun i hi => ?_⟩
  obtain ⟨b1, b2⟩ := ir_near (f := cvF za zb lb la) (g := g) (c := 410) (e := 167) (by omega) (by omega) hm1 (by decide) (by decide) (by decide +kernel) hL0 hz hx gg (i / 2) (by omega)
  have small : p2 (-41) * ((m : Rat) * L) ≤ 3/25 := by
    have s1 : (m : Rat) * L ≤ 512 * (2 * (512 * (361 * 361))) := by
      have t1 := Rat.mul_le_mul_of_nonneg_right hr2 (show 0 ≤ L by rw [hL]; grind)
      have t2 : L ≤ 2 * (512 * (361 * 361)) := by rw [hL]; grind
      grind
    have s2 := Rat.mul_le_mul_of_nonneg_left s1 (p2_nonneg (-41))
    exact Rat.le_trans s2 (by decide +kernel)
  obtain ⟨p1, p2'⟩ := (b2.mono small).parts
  have key : Num (irO (q + 1) m (tabF (q + 1)) g i) ∧ irO (q + 1) m (tabF (q + 1)) g i < 2 ^ 64 ∧ (V (irO (q + 1) m (tabF (q + 1)) g i) - (convZ za zb lb la i : Rat)).abs ≤ 3/25 := by
    unfold irO flatF
    by_cases h2 : i % 2 = 0
    · rw [if_pos h2]
      refine ⟨b1.re.num, b1.re.lt, ?_⟩
      rw [← vc i]
      have e : i = 2 * (i / 2) := by omega
      have e3 : V (cvF za zb lb la i) = (zxC (cvF za zb lb la) (i / 2)).re := by unfold zxC; simp only; rw [← e]
      rw [e3]
      exact p1
    · rw [if_neg h2]
      refine ⟨b1.im.num, b1.im.lt, ?_⟩
      rw [← vc i]
      have e : i = 2 * (i / 2) + 1 := by omega
      have e3 : V (cvF za zb lb la i) = (zxC (cvF za zb lb la) (i / 2)).im := by unfold zxC; simp only; rw [← e]
      rw [e3]
      exact p2'
  refine ⟨⟨key.1, key.2.1, num_zero.1, show (0 : Nat) < 2 ^ 64 by decide⟩, ?_⟩
  have := Len.of_parts (z := (cv (irO (q + 1) m (tabF (q + 1)) g i, 0)).sub (rC (convZ za zb lb la i))) (r := 3/25) key.2.2 (by
    show (V 0 - 0).abs ≤ 3/25
    rw [num_zero.2]; decide +kernel)
  exact this.mono (by decide +kernel)
end Go.Proofs.Ygctaf
