/-
  fft.Forward AND fft.Inverse, POINT BY POINT (sup norm): sharper than by energy.
-/
import Derived.Test.YgctafLvl2
namespace Go.Proofs.Ygctaf
open Ieee

theorem natc_le' {a b : Nat} (h : a ≤ b) : ((a : Nat) : Rat) ≤ ((b : Nat) : Rat) := Rat.natCast_le_natCast.2 h
theorem stages_ap {z : Cx} {k : Nat} {T f : Nat → Nat × Nat} {L : Rat} {e : Int} (hk1 : 1 ≤ k) (hk : k ≤ 11) (hz : z.nsq = 1) (h0 : 0 ≤ e) (h1 : e ≤ 700) (bT : ∀ i, i < 2 ^ (k - 1) → Bd 1 (T i)) (rT : ∀ i, i < 2 ^ (k - 1) → Len ((cv (T i)).sub (z.pow i)) (5 * EE))
    (hF : ∀ i, i < 2 ^ k → Bd e (f i)) (hL : p2 (-1015) ≤ L) (hf : ∀ i, i < 2 ^ k → Len (cv (f i)) L) :
    ∀ t, t ≤ k → ∀ i, i < 2 ^ k → Ap (e + 6 * (t : Int)) (stagesF k T (fun a => f (revN k a)) t i) (lz z k (fun i => cv (f i)) t i) (p2 t * L) ((16 * t : Nat) : Rat)
  | 0, _, i, _ => by
    have e1 : lz z k (fun i => cv (f i)) 0 i = cv (f (revN k i)) := lv_zero _ _ _ _
    rw [e1, show ((0 : Nat) : Int) = 0 from rfl, p2_zero, Rat.one_mul]
    have hi := revN_lt k i
    exact ⟨(hF _ hi).mono (by omega), hf _ hi, (Len.self _).mono (by show 0 ≤ ((0 : Nat) : Rat) * _; rw [show ((0 : Nat) : Rat) = 0 from rfl]; grind), hL, by decide +kernel, by decide +kernel⟩
  | t + 1, ht, i, hi => by
    have ih := stages_ap hk1 hk hz h0 h1 bT rT hF hL hf t (by omega)
    have hc : ((16 * t : Nat) : Rat) + 23 ≤ 1024 := by
      have : ((16 * t : Nat) : Rat) + 23 = ((16 * t + 23 : Nat) : Rat) := by rw [Rat.natCast_add]; rfl
      rw [this]; exact natc_le' (b := 1024) (by omega)
    have hq : ((16 * t : Nat) : Rat) + (((16 * t : Nat) : Rat) + 23) + 8 ≤ 2 * ((16 * (t + 1) : Nat) : Rat) := by
      have : ((16 * (t + 1) : Nat) : Rat) = ((16 * t : Nat) : Rat) + 16 := by rw [show 16 * (t + 1) = 16 * t + 16 from by omega, Rat.natCast_add]; rfl
      rw [this]; grind
    have hq1 : ((16 * (t + 1) : Nat) : Rat) ≤ 1024 := natc_le' (b := 1024) (by omega)
    have hst : ∀ j, j < 2 ^ t → j * 2 ^ (k - (t + 1)) < 2 ^ (k - 1) := fun j hj => by
      have := Nat.mul_lt_mul_of_pos_right hj (Nat.two_pow_pos (k - (t + 1)))
      rw [← Nat.pow_add, show t + (k - (t + 1)) = k - 1 from by omega] at this
      exact this
    have hpt : 2 ^ (t + 1) = 2 * 2 ^ t := by rw [Nat.pow_succ, Nat.mul_comm]
    obtain ⟨s, j, hj, h | h⟩ := pos_split (2 ^ t) i (Nat.two_pow_pos t)
    · subst h
      have a := ih (2 * 2 ^ t * s + j) hi
      have b := ih (2 * 2 ^ t * s + 2 ^ t + j) (by rw [Nat.add_assoc]; exact blk_lt ht rfl (by omega) hi)
      have m := b.mul (by omega) (by omega) (bT _ (hst j hj)) (Cx.nsq_pow hz _) (rT _ (hst j hj)) hc
      have a' := a.mono (show e + 6 * (t : Int) ≤ e + 6 * (t : Int) + 4 by omega) Rat.le_refl a.c1
      have r := a'.add m (q := ((16 * (t + 1) : Nat) : Rat)) (by omega) (by omega) hq hq1
      rw [← p2_t, ← lz_low z k _ t s j (2 ^ t) (2 * 2 ^ t * s) ht rfl hj rfl] at r
      have e1 : stagesF k T (fun a => f (revN k a)) (t + 1) (2 * 2 ^ t * s + j) = cadd (stagesF k T (fun a => f (revN k a)) t (2 * 2 ^ t * s + j)) (cmul (stagesF k T (fun a => f (revN k a)) t (2 * 2 ^ t * s + 2 ^ t + j)) (T (j * 2 ^ (k - (t + 1))))) := by
        have := stagesF_low k T (fun a => f (revN k a)) t s j hj
        rw [show s * 2 ^ (t + 1) = 2 * 2 ^ t * s from by rw [hpt, Nat.mul_comm], show 2 * s * 2 ^ t = 2 * 2 ^ t * s from by rw [Nat.mul_right_comm], show (2 * s + 1) * 2 ^ t = 2 * 2 ^ t * s + 2 ^ t from by rw [Nat.add_mul, Nat.one_mul, Nat.mul_right_comm]] at this
        exact this
      rw [e1]
      exact r.mono (by omega) Rat.le_refl r.c1
    · subst h
      have hi' := hi
      rw [Nat.add_assoc] at hi'
      have a := ih (2 * 2 ^ t * s + j) (blk_lt ht rfl (by omega) hi')
      have b := ih (2 * 2 ^ t * s + 2 ^ t + j) hi
      have m := b.mul (by omega) (by omega) (bT _ (hst j hj)) (Cx.nsq_pow hz _) (rT _ (hst j hj)) hc
      have a' := a.mono (show e + 6 * (t : Int) ≤ e + 6 * (t : Int) + 4 by omega) Rat.le_refl a.c1
      have r := a'.sub m (q := ((16 * (t + 1) : Nat) : Rat)) (by omega) (by omega) hq hq1
      rw [← p2_t, ← lz_high z k _ t s j (2 ^ t) (2 * 2 ^ t * s) ht rfl hj rfl] at r
      have e1 : stagesF k T (fun a => f (revN k a)) (t + 1) (2 * 2 ^ t * s + 2 ^ t + j) = csub (stagesF k T (fun a => f (revN k a)) t (2 * 2 ^ t * s + j)) (cmul (stagesF k T (fun a => f (revN k a)) t (2 * 2 ^ t * s + 2 ^ t + j)) (T (j * 2 ^ (k - (t + 1))))) := by
        have := stagesF_high k T (fun a => f (revN k a)) t s j hj
        rw [show s * 2 ^ (t + 1) + (2 ^ t + j) = 2 * 2 ^ t * s + 2 ^ t + j from by rw [hpt, Nat.mul_comm s]; omega, show 2 * s * 2 ^ t = 2 * 2 ^ t * s from by rw [Nat.mul_right_comm], show (2 * s + 1) * 2 ^ t = 2 * 2 ^ t * s + 2 ^ t from by rw [Nat.add_mul, Nat.one_mul, Nat.mul_right_comm]] at this
        exact this
      rw [e1]
      exact r.mono (by omega) Rat.le_refl r.c1

/-- From the pipeline's last level to the sums. -/
theorem Ap.dft {z : Cx} {k : Nat} {x : Nat → Cx} {L c : Rat} {e : Int} {v : Nat × Nat} {j : Nat} (hk1 : 1 ≤ k) (hk : k ≤ 11) (hz : z.nsq = 1) (hth : Len ((z.pow (2 ^ (k - 1))).add .one) tH) (hf : ∀ i, i < 2 ^ k → Len (x i) L) (hj : j < 2 ^ k) (hc : c + 1 ≤ 1024)
    (h : Ap e v (lz z k x k j) (p2 k * L) c) : Ap e v (dft z (2 ^ k) x j) (p2 k * L) (c + 1) := by
  have hL0 : 0 ≤ L := (hf 0 (Nat.two_pow_pos _)).1
  have b := pip_dft hz k hth k 1 x (Nat.le_refl _) (by rw [Nat.sub_self]) hf j hj
  rw [Cx.pow_one] at b
  have e1 : lz z k x k j = pip (fun m => z.pow m) k 1 x j := lv_top _ _ _ _ hj
  refine h.other ?_ ?_ (by decide) hc
  · have := dft_len hz hf j
    rw [← p2_nat] at this; exact this
  · rw [e1]
    refine b.mono ?_
    have d : (k : Rat) * (p2 k * tH) ≤ EE := by
      have h : ∀ k : Fin 12, (k.1 : Rat) * (p2 k.1 * tH) ≤ EE := by unfold tH EE; decide +kernel
      exact h ⟨k, by omega⟩
    have d1 := Rat.mul_le_mul_of_nonneg_right d (Rat.mul_nonneg (p2_nonneg k) hL0)
    generalize p2 (k : Int) = P at *
    grind

theorem fwd_ap {z : Cx} {k : Nat} {T f : Nat → Nat × Nat} {L : Rat} {e : Int} (hk1 : 1 ≤ k) (hk : k ≤ 11) (hz : z.nsq = 1) (hth : Len ((z.pow (2 ^ (k - 1))).add .one) tH) (h0 : 0 ≤ e) (h1 : e ≤ 700) (bT : ∀ i, i < 2 ^ (k - 1) → Bd 1 (T i)) (rT : ∀ i, i < 2 ^ (k - 1) → Len ((cv (T i)).sub (z.pow i)) (5 * EE))
    (hF : ∀ i, i < 2 ^ k → Bd e (f i)) (hL : p2 (-1015) ≤ L) (hf : ∀ i, i < 2 ^ k → Len (cv (f i)) L) (j : Nat) (hj : j < 2 ^ k) :
    Ap (e + 66) (fwdF k T f j) (dft z (2 ^ k) (fun i => cv (f i)) j) (p2 k * L) 177 := by
  have a := stages_ap hk1 hk hz h0 h1 bT rT hF hL hf k (Nat.le_refl _) j hj
  have b := Ap.dft hk1 hk hz hth hf hj (by
    have : ((16 * k : Nat) : Rat) + 1 = ((16 * k + 1 : Nat) : Rat) := by rw [Rat.natCast_add]; rfl
    rw [this]; exact natc_le' (b := 1024) (by omega)) a
  refine b.mono (by omega) ?_ (by decide +kernel)
  have : ((16 * k : Nat) : Rat) + 1 = ((16 * k + 1 : Nat) : Rat) := by rw [Rat.natCast_add]; rfl
  rw [this]; exact natc_le' (b := 177) (by omega)
theorem tab_len (k i : Nat) (hk1 : 1 ≤ k) (hk : k ≤ 11) (hi : i < 2 ^ (k - 1)) : Len ((cv (tabF k i)).sub ((zeK k).pow i)) (5 * EE) := (tab_near k i hk1 hk hi).lenS.mono (by have := EE_pos; grind)
theorem tab_len_conj (k i : Nat) (hk1 : 1 ≤ k) (hk : k ≤ 11) (hi : i < 2 ^ (k - 1)) : Len ((cv (cconj (tabF k i))).sub ((zeK k).conj.pow i)) (5 * EE) := (tab_near_conj k i hk1 hk hi).lenS.mono (by have := EE_pos; grind)
theorem fwd_tab {k : Nat} {f : Nat → Nat × Nat} {L : Rat} {e : Int} (hk1 : 1 ≤ k) (hk : k ≤ 11) (h0 : 0 ≤ e) (h1 : e ≤ 700) (hF : ∀ i, i < 2 ^ k → Bd e (f i)) (hL : p2 (-1015) ≤ L) (hf : ∀ i, i < 2 ^ k → Len (cv (f i)) L) (j : Nat) (hj : j < 2 ^ k) :
    Ap (e + 66) (fwdF k (tabF k) f j) (dft (zeK k) (2 ^ k) (fun i => cv (f i)) j) (p2 k * L) 177 :=
  fwd_ap hk1 hk (zeK_unit k) (zeK_half k hk1 hk) h0 h1 (fun i hi => tab_bd k (k - 1) i hk1 hk (by omega) hi) (fun i hi => tab_len k i hk1 hk hi) hF hL hf j hj
theorem fwd_tab_conj {k : Nat} {f : Nat → Nat × Nat} {L : Rat} {e : Int} (hk1 : 1 ≤ k) (hk : k ≤ 11) (h0 : 0 ≤ e) (h1 : e ≤ 700) (hF : ∀ i, i < 2 ^ k → Bd e (f i)) (hL : p2 (-1015) ≤ L) (hf : ∀ i, i < 2 ^ k → Len (cv (f i)) L) (j : Nat) (hj : j < 2 ^ k) :
    Ap (e + 66) (fwdF k (fun i => cconj (tabF k i)) f j) (dft (zeK k).conj (2 ^ k) (fun i => cv (f i)) j) (p2 k * L) 177 :=
  fwd_ap hk1 hk (by rw [Cx.nsq_conj]; exact zeK_unit k) (zeK_half_conj k hk1 hk) h0 h1 (fun i hi => Bd.conj (x := tabF k i) (tab_bd k (k - 1) i hk1 hk (by omega) hi)) (fun i hi => tab_len_conj k i hk1 hk hi) hF hL hf j hj

/-- Inverse of what is near a transform. -/
theorem inv_tab {k : Nat} {f : Nat → Nat × Nat} {c : Nat → Cx} {e : Int} {L Lc eta : Rat} (hk1 : 1 ≤ k) (hk : k ≤ 11) (h0 : 0 ≤ e) (h1 : e ≤ 700)
    (hF : ∀ i, i < 2 ^ k → Bd e (f i)) (hL : p2 (-1015) ≤ L) (hf : ∀ i, i < 2 ^ k → Len (cv (f i)) L) (hc : ∀ i, i < 2 ^ k → Len (c i) Lc)
    (hD : ∀ j, j < 2 ^ k → Len ((cv (f j)).sub (dft (zeK k) (2 ^ k) c j)) eta) (l : Nat) (hl : l < 2 ^ k) :
    Len ((cv (invF k (tabF k) f l)).sub (c l)) (eta + p2 (-45) * L + p2 (-100) * Lc) := by
  have hLp : 0 ≤ L := Rat.le_trans (p2_nonneg _) hL
  have hLc : 0 ≤ Lc := (hc l hl).1
  have hkk : k - 1 + 1 = k := by omega
  have hzc : (zeK k).conj.nsq = 1 := by rw [Cx.nsq_conj]; exact zeK_unit k
  have ap := fwd_tab_conj hk1 hk h0 h1 hF hL hf l hl
  have a := ap.near
  have b : Len ((Ygctaf.dft (zeK k).conj (2 ^ k) (fun i => cv (f i)) l).sub (Ygctaf.dft (zeK k).conj (2 ^ k) (Ygctaf.dft (zeK k) (2 ^ k) c) l)) (p2 k * eta) := by
    rw [dft_diff, p2_nat]
    exact dft_len hzc hD l
  have d := dft_back (k - 1) (zeK_unit k) (zeK_half k hk1 hk) c (by rw [hkk]; exact hc) l (by rw [hkk]; exact hl)
  rw [hkk] at d
  have m := a.tri (b.tri d)
  have hpp : p2 (-(k : Int)) * p2 k = 1 := by rw [← p2_add, Int.add_left_neg, p2_zero]
  have m2 := m.scale (p2_nonneg (-(k : Int)))
  have e1 : Cx.scale (p2 (-(k : Int))) ((cv (fwdF k (fun i => cconj (tabF k i)) f l)).sub (Cx.scale (p2 k) (c l))) = (Cx.scale (p2 (-(k : Int))) (cv (fwdF k (fun i => cconj (tabF k i)) f l))).sub (c l) := by
    unfold Cx.scale Cx.sub
    refine Cx.eq ?_ ?_
    · show p2 (-(k : Int)) * (_ - p2 k * (c l).re) = _ - (c l).re
      rw [show ∀ a b : Rat, p2 (-(k : Int)) * (a - p2 k * b) = p2 (-(k : Int)) * a - (p2 (-(k : Int)) * p2 k) * b from fun a b => by grind, hpp, Rat.one_mul]
    · show p2 (-(k : Int)) * (_ - p2 k * (c l).im) = _ - (c l).im
      rw [show ∀ a b : Rat, p2 (-(k : Int)) * (a - p2 k * b) = p2 (-(k : Int)) * a - (p2 (-(k : Int)) * p2 k) * b from fun a b => by grind, hpp, Rat.one_mul]
  rw [e1] at m2
  have g2 := ap.len2.scale (p2_nonneg (-(k : Int)))
  have e2 : p2 (-(k : Int)) * (2 * (p2 k * L)) = (p2 (-(k : Int)) * p2 k) * (2 * L) := by grind
  rw [e2, hpp, Rat.one_mul] at g2
  have g3 := divn_err hk (by omega) (by omega) ap.bd hL g2
  have fin := g3.tri m2
  refine fin.mono ?_
  have e3 : p2 (-(k : Int)) * (177 * (EE * (p2 k * L)) + (p2 k * eta + p2 k * (Lc * (p2 k * (p2 k * tH))))) = (p2 (-(k : Int)) * p2 k) * (177 * (EE * L) + eta + (p2 k * (p2 k * tH)) * Lc) := by grind
  rw [e3, hpp, Rat.one_mul]
  have c1 : p2 k * (p2 k * tH) ≤ p2 (-100) := by
    have h : ∀ k : Fin 12, (p2 k.1 * (p2 k.1 * tH)) ≤ p2 (-100) := by unfold tH; decide +kernel
    exact h ⟨k, by omega⟩
  have c2 := Rat.mul_le_mul_of_nonneg_right c1 hLc
  have c3 : p2 (-48) + 177 * EE ≤ p2 (-45) := by unfold EE; decide +kernel
  have c4 := Rat.mul_le_mul_of_nonneg_right c3 hLp
  generalize p2 k * (p2 k * tH) * Lc = u at *
  generalize p2 (-100) * Lc = v at *
  grind
end Go.Proofs.Ygctaf
