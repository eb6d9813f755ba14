/-
  TWO LEVELS AT ONCE; the quarter root; from the last level to the sums.
-/
import Derived.Test.YgctafLvl
namespace Go.Proofs.Ygctaf
open Ieee

/-! ### The quarter root -/
theorem zb9_ok : decide ((zb 9).2 + 2 ^ 240 ≤ 2 ^ 12) && decide (-(2 ^ 12) ≤ (zb 9).2 + 2 ^ 240) && decide ((zb 9).1 ≤ 2 ^ 12) && decide (-(2 ^ 12) ≤ (zb 9).1) = true := by decide +kernel
theorem ze_quarter : Len ((ze.pow (2 ^ 9)).sub mI) EE := by
  have h := zb9_ok
  simp only [Bool.and_eq_true, decide_eq_true_eq] at h
  obtain ⟨⟨⟨h1, h2⟩, h3⟩, h4⟩ := h
  have n := zb_near 9 (by omega)
  generalize zb 9 = z at *
  have k : Len ((zc z).sub mI) (2 * ((2 ^ 12 : Nat) : Rat) * zU) := by
    clear n
    have a1 := Rat.intCast_le_intCast.2 h1
    have a2 := Rat.intCast_le_intCast.2 h2
    have a3 := Rat.intCast_le_intCast.2 h3
    have a4 := Rat.intCast_le_intCast.2 h4
    rw [Rat.intCast_add] at a1 a2
    rw [Rat.intCast_neg] at a2 a4
    have e : ((2 ^ 240 : Int) : Rat) = ((2 ^ 240 : Nat) : Rat) := by decide +kernel
    have e2 : ((2 ^ 12 : Int) : Rat) = ((2 ^ 12 : Nat) : Rat) := by decide +kernel
    rw [e, e2] at a1 a2; rw [e2] at a3 a4
    have k1 := zU_mul
    have hu := Rat.le_of_lt zU_pos
    unfold zc Cx.sub mI Len Cx.nsq
    simp only
    have hb : (0 : Rat) ≤ ((2 ^ 12 : Nat) : Rat) := by norm_cast
    generalize ((2 ^ 240 : Nat) : Rat) = P at *
    generalize ((2 ^ 12 : Nat) : Rat) = B at *
    generalize (z.1 : Rat) = p at *
    generalize (z.2 : Rat) = q at *
    generalize zU = u at *
    have e4 : q * u - -1 = (q + P) * u := by rw [Rat.add_mul, k1]; grind
    have e5 : p * u - 0 = p * u := by grind
    rw [e4, e5]
    have c1 := Rat.mul_le_mul_of_nonneg_right a1 hu
    have c2 := Rat.mul_le_mul_of_nonneg_right a2 hu
    have c3 := Rat.mul_le_mul_of_nonneg_right a3 hu
    have c4 := Rat.mul_le_mul_of_nonneg_right a4 hu
    have hBu := Rat.mul_nonneg hb hu
    have g1 : ((q + P) * u) * ((q + P) * u) ≤ (B * u) * (B * u) := sq_le_of_abs (abs_le.2 ⟨by grind, c1⟩)
    have g2 : (p * u) * (p * u) ≤ (B * u) * (B * u) := sq_le_of_abs (abs_le.2 ⟨by grind, c3⟩)
    refine ⟨by grind, ?_⟩
    have := sq_nonneg (B * u)
    generalize (q + P) * u = r at *
    generalize p * u = s at *
    grind
  have n' : Len ((ze.pow (2 ^ 9)).sub (zc z)) (rB 9) := ⟨n.1, by rw [Cx.nsq_sub_comm]; exact n.2⟩
  refine (n'.tri k).mono ?_
  unfold rB zU EE
  decide +kernel
theorem zeK_quarter (k : Nat) (h1 : 2 ≤ k) (h2 : k ≤ 11) : Len (((zeK k).pow (2 ^ (k - 2))).sub mI) EE := by
  unfold zeK
  rw [← Cx.pow_mul, ← Nat.pow_add, show 11 - k + (k - 2) = 9 from by omega]
  exact ze_quarter

/-! ### Two levels -/
section
variable (z : Cx) (k : Nat) (x : Nat → Cx)
def lz (t i : Nat) : Cx := lv (fun m => z.pow m) k x t i

theorem lz_low (t s j h p : Nat) (ht : t + 1 ≤ k) (hh : h = 2 ^ t) (hj : j < h) (hp : p = 2 * h * s) :
    lz z k x (t + 1) (p + j) = (lz z k x t (p + j)).add ((z.pow (j * 2 ^ (k - (t + 1)))).mul (lz z k x t (p + h + j))) := by
  subst hp; exact lv_low _ k x t s j h ht hh hj
theorem lz_high (t s j h p : Nat) (ht : t + 1 ≤ k) (hh : h = 2 ^ t) (hj : j < h) (hp : p = 2 * h * s) :
    lz z k x (t + 1) (p + h + j) = (lz z k x t (p + j)).sub ((z.pow (j * 2 ^ (k - (t + 1)))).mul (lz z k x t (p + h + j))) := by
  subst hp; exact lv_high _ k x t s j h ht hh hj

/-- The roots of two levels. -/
theorem two_roots (t j q st : Nat) (ht : t + 2 ≤ k) (hq : q = 2 ^ t) (hs : st = 2 ^ (k - (t + 2))) :
    z.pow (j * 2 ^ (k - (t + 1))) = (z.pow (j * st)).mul (z.pow (j * st)) ∧ z.pow ((q + j) * st) = (z.pow (2 ^ (k - 2))).mul (z.pow (j * st)) := by
  constructor
  · rw [← Cx.pow_add, hs]
    congr 1
    have : 2 ^ (k - (t + 1)) = 2 ^ (k - (t + 2)) + 2 ^ (k - (t + 2)) := by
      rw [show k - (t + 1) = (k - (t + 2)) + 1 from by omega, Nat.pow_succ]; omega
    rw [this, Nat.mul_add]
  · rw [← Cx.pow_add, Nat.add_mul]
    congr 2
    rw [hq, hs, ← Nat.pow_add]; congr 1; omega

theorem lz4 (t s j q st p : Nat) (ht : t + 2 ≤ k) (hq : q = 2 ^ t) (hs : st = 2 ^ (k - (t + 2))) (hj : j < q) (hp : p = 4 * q * s) (w I : Cx) (hw : w = z.pow (j * st)) (hI : I = z.pow (2 ^ (k - 2))) :
    lz z k x (t + 2) (p + j) = ((lz z k x t (p + j)).add ((w.mul w).mul (lz z k x t (p + q + j)))).add (w.mul ((lz z k x t (p + 2 * q + j)).add ((w.mul w).mul (lz z k x t (p + 3 * q + j))))) ∧
    lz z k x (t + 2) (p + q + j) = ((lz z k x t (p + j)).sub ((w.mul w).mul (lz z k x t (p + q + j)))).add ((I.mul w).mul ((lz z k x t (p + 2 * q + j)).sub ((w.mul w).mul (lz z k x t (p + 3 * q + j))))) ∧
    lz z k x (t + 2) (p + 2 * q + j) = ((lz z k x t (p + j)).add ((w.mul w).mul (lz z k x t (p + q + j)))).sub (w.mul ((lz z k x t (p + 2 * q + j)).add ((w.mul w).mul (lz z k x t (p + 3 * q + j))))) ∧
    lz z k x (t + 2) (p + 3 * q + j) = ((lz z k x t (p + j)).sub ((w.mul w).mul (lz z k x t (p + q + j)))).sub ((I.mul w).mul ((lz z k x t (p + 2 * q + j)).sub ((w.mul w).mul (lz z k x t (p + 3 * q + j))))) := by
  obtain ⟨w2, wI⟩ := two_roots z k t j q st ht hq hs
  have h2q : 2 * q = 2 ^ (t + 1) := by rw [hq, Nat.pow_succ, Nat.mul_comm]
  have p1 : p = 2 * (2 * q) * s := by rw [hp, ← Nat.mul_assoc]
  have p2' : p = 2 * q * (2 * s) := by rw [p1, Nat.mul_right_comm, Nat.mul_comm]
  have p3 : p + 2 * q = 2 * q * (2 * s + 1) := by rw [Nat.mul_add, Nat.mul_one, ← p2']
  have a1 := lz_low z k x (t + 1) s j (2 * q) p (by omega) h2q (by omega) p1
  have a3 := lz_high z k x (t + 1) s j (2 * q) p (by omega) h2q (by omega) p1
  have a2 := lz_low z k x (t + 1) s (q + j) (2 * q) p (by omega) h2q (by omega) p1
  have a4 := lz_high z k x (t + 1) s (q + j) (2 * q) p (by omega) h2q (by omega) p1
  have b1 := lz_low z k x t (2 * s) j q p (by omega) hq hj p2'
  have b2 := lz_high z k x t (2 * s) j q p (by omega) hq hj p2'
  have b3 := lz_low z k x t (2 * s + 1) j q (p + 2 * q) (by omega) hq hj p3
  have b4 := lz_high z k x t (2 * s + 1) j q (p + 2 * q) (by omega) hq hj p3
  rw [show k - (t + 1 + 1) = k - (t + 2) from by omega, ← hs] at a1 a2 a3 a4
  rw [wI] at a2 a4
  rw [w2] at b1 b2 b3 b4
  rw [← hw] at a1 a2 a3 a4 b1 b2 b3 b4
  rw [← hI] at a2 a4
  rw [show p + 2 * q + q + j = p + 3 * q + j from by omega] at b3 b4
  rw [show p + (q + j) = p + q + j from by omega, show p + 2 * q + (q + j) = p + 3 * q + j from by omega] at a2 a4
  rw [b1, b3] at a1 a3
  rw [b2, b4] at a2 a4
  exact ⟨a1, a2, a3, a4⟩

/-- The split: one half and two quarters (levels t + 1 and t). -/
theorem lzS (t s j q st p : Nat) (ht : t + 2 ≤ k) (hq : q = 2 ^ t) (hs : st = 2 ^ (k - (t + 2))) (hj : j < q) (hp : p = 4 * q * s) (w I : Cx) (hw : w = z.pow (j * st)) (hI : I = z.pow (2 ^ (k - 2))) :
    lz z k x (t + 2) (p + j) = (lz z k x (t + 1) (p + j)).add (w.mul ((lz z k x t (p + 2 * q + j)).add ((w.mul w).mul (lz z k x t (p + 3 * q + j))))) ∧
    lz z k x (t + 2) (p + 2 * q + j) = (lz z k x (t + 1) (p + j)).sub (w.mul ((lz z k x t (p + 2 * q + j)).add ((w.mul w).mul (lz z k x t (p + 3 * q + j))))) ∧
    lz z k x (t + 2) (p + q + j) = (lz z k x (t + 1) (p + q + j)).add ((I.mul w).mul ((lz z k x t (p + 2 * q + j)).sub ((w.mul w).mul (lz z k x t (p + 3 * q + j))))) ∧
    lz z k x (t + 2) (p + 3 * q + j) = (lz z k x (t + 1) (p + q + j)).sub ((I.mul w).mul ((lz z k x t (p + 2 * q + j)).sub ((w.mul w).mul (lz z k x t (p + 3 * q + j))))) := by
  obtain ⟨w2, wI⟩ := two_roots z k t j q st ht hq hs
  have h2q : 2 * q = 2 ^ (t + 1) := by rw [hq, Nat.pow_succ, Nat.mul_comm]
  have p1 : p = 2 * (2 * q) * s := by rw [hp, ← Nat.mul_assoc]
  have p2' : p = 2 * q * (2 * s) := by rw [p1, Nat.mul_right_comm, Nat.mul_comm]
  have p3 : p + 2 * q = 2 * q * (2 * s + 1) := by rw [Nat.mul_add, Nat.mul_one, ← p2']
  have a1 := lz_low z k x (t + 1) s j (2 * q) p (by omega) h2q (by omega) p1
  have a3 := lz_high z k x (t + 1) s j (2 * q) p (by omega) h2q (by omega) p1
  have a2 := lz_low z k x (t + 1) s (q + j) (2 * q) p (by omega) h2q (by omega) p1
  have a4 := lz_high z k x (t + 1) s (q + j) (2 * q) p (by omega) h2q (by omega) p1
  have b3 := lz_low z k x t (2 * s + 1) j q (p + 2 * q) (by omega) hq hj p3
  have b4 := lz_high z k x t (2 * s + 1) j q (p + 2 * q) (by omega) hq hj p3
  rw [show k - (t + 1 + 1) = k - (t + 2) from by omega, ← hs] at a1 a2 a3 a4
  rw [wI] at a2 a4
  rw [w2] at b3 b4
  rw [← hw] at a1 a2 a3 a4 b3 b4
  rw [← hI] at a2 a4
  rw [show p + 2 * q + q + j = p + 3 * q + j from by omega] at b3 b4
  rw [show p + (q + j) = p + q + j from by omega, show p + 2 * q + (q + j) = p + 3 * q + j from by omega] at a2 a4
  rw [b3] at a1 a3
  rw [b4] at a2 a4
  exact ⟨a1, a3, a2, a4⟩
end

/-! ### The levels of the table's root -/
/-- The level of a point: v is near the ideal pipeline at level t, position i. -/
def At (k : Nat) (x : Nat → Cx) (L : Rat) (e : Int) (c : Rat) (t : Nat) (v : Nat × Nat) (i : Nat) : Prop := Ap e v (lz (zeK k) k x t i) (p2 t * L) c
theorem p2_t (t : Nat) (L : Rat) : p2 ((t + 1 : Nat) : Int) * L = 2 * (p2 t * L) := by
  rw [show ((t + 1 : Nat) : Int) = (t : Int) + 1 from by omega, p2_succ]; grind
theorem p2_t2 (t : Nat) (L : Rat) : p2 ((t + 2 : Nat) : Int) * L = 2 * (2 * (p2 t * L)) := by
  rw [show t + 2 = (t + 1) + 1 from rfl, p2_t, p2_t]
theorem lo_of {L : Rat} (h : p2 (-1015) ≤ L) (t : Nat) : p2 (-1015) ≤ p2 t * L := by
  have h1 := p2_nat_ge t
  have h2 : 0 ≤ L := Rat.le_trans (p2_nonneg _) h
  have := Rat.mul_le_mul_of_nonneg_right h1 h2
  grind
/-- At the start. -/
theorem At.start {k : Nat} {f : Nat → Nat × Nat} {L : Rat} {e : Int} (hF : ∀ i, i < 2 ^ k → Bd e (f i)) (hL : p2 (-1015) ≤ L) (hf : ∀ i, i < 2 ^ k → Len (cv (f i)) L) (i : Nat) :
    At k (fun i => cv (f i)) L e 0 0 (f (revN k i)) i := by
  unfold At
  have e1 : lz (zeK k) k (fun i => cv (f i)) 0 i = cv (f (revN k i)) := lv_zero _ _ _ _
  rw [e1, show ((0 : Nat) : Int) = 0 from rfl, p2_zero, Rat.one_mul]
  have hi := revN_lt k i
  exact ⟨hF _ hi, hf _ hi, (Len.self _).mono (by grind), hL, by decide, by decide⟩
theorem At.mono {k : Nat} {x : Nat → Cx} {L c c' : Rat} {e e' : Int} {t i : Nat} {v : Nat × Nat} (h : At k x L e c t v i) (he : e ≤ e') (hc : c ≤ c') (h1 : c' ≤ 1024) : At k x L e' c' t v i := Ap.mono h he hc h1
/-- One pass of radix 2 (the first: its root is 1 within the table's error). -/
theorem At.two {k : Nat} {x : Nat → Cx} {L c : Rat} {e : Int} {t s j h p : Nat} {A B T : Nat × Nat} (ht : t + 1 ≤ k) (hh : h = 2 ^ t) (hj : j < h) (hp : p = 2 * h * s) (h0 : 0 ≤ e) (h1 : e ≤ 800) (hc : c + 23 ≤ 1000)
    (hA : At k x L e c t A (p + j)) (hB : At k x L e c t B (p + h + j)) (bT : Bd 1 T) (rT : Len ((cv T).sub ((zeK k).pow (j * 2 ^ (k - (t + 1))))) (5 * EE)) :
    At k x L (e + 6) (c + 16) (t + 1) (cadd A (cmul B T)) (p + j) ∧ At k x L (e + 6) (c + 16) (t + 1) (csub A (cmul B T)) (p + h + j) := by
  unfold At at *
  rw [lz_low _ k x t s j h p ht hh hj hp, lz_high _ k x t s j h p ht hh hj hp, p2_t]
  have hA' := hA.mono (show e ≤ e + 4 by omega) Rat.le_refl hA.c1
  have mb := hB.mul h0 (by omega) bT (Cx.nsq_pow (zeK_unit k) _) rT (by grind)
  have i1 : e + 4 + 2 = e + 6 := by omega
  have a := hA'.add mb (q := c + 16) (by omega) (by omega) (by grind) (by grind)
  have b := hA'.sub mb (q := c + 16) (by omega) (by omega) (by grind) (by grind)
  rw [i1] at a b
  exact ⟨a, b⟩
/-- Two points with no root (the split's first pass). -/
theorem At.pair {k : Nat} {x : Nat → Cx} {L c : Rat} {e : Int} {s p : Nat} {A B : Nat × Nat} (ht : 1 ≤ k) (hp : p = 2 * s) (h0 : 0 ≤ e) (h1 : e ≤ 800) (hc : c + 4 ≤ 1000)
    (hA : At k x L e c 0 A p) (hB : At k x L e c 0 B (p + 1)) : At k x L (e + 2) (c + 4) 1 (cadd A B) p ∧ At k x L (e + 2) (c + 4) 1 (csub A B) (p + 1) := by
  unfold At at *
  have a := lz_low (zeK k) k x 0 s 0 1 p ht rfl (by decide) (by omega)
  have b := lz_high (zeK k) k x 0 s 0 1 p ht rfl (by decide) (by omega)
  rw [Nat.zero_mul, Nat.add_zero, Nat.add_zero] at a b
  have e1 : (zeK k).pow 0 = .one := rfl
  rw [e1, Cx.one_mul] at a b
  rw [show (1 : Nat) = 0 + 1 from rfl, a, b, p2_t]
  exact ⟨hA.add hB (by omega) (by omega) (by grind) (by grind), hA.sub hB (by omega) (by omega) (by grind) (by grind)⟩
theorem At.four {k : Nat} {x : Nat → Cx} {L c : Rat} {e : Int} {t s j q st p : Nat} {A B C D T1 T2 T3 : Nat × Nat} (hk : k ≤ 11) (ht : t + 2 ≤ k) (hq : q = 2 ^ t) (hs : st = 2 ^ (k - (t + 2))) (hj : j < q) (hp : p = 4 * q * s) (h0 : 0 ≤ e) (h1 : e ≤ 800) (hc : c + 28 ≤ 1000)
    (hA : At k x L e c t A (p + j)) (hB : At k x L e c t B (p + q + j)) (hC : At k x L e c t C (p + 2 * q + j)) (hD : At k x L e c t D (p + 3 * q + j)) (b1 : Bd 1 T1) (b2 : Bd 1 T2) (b3 : Bd 1 T3)
    (r1 : Len ((cv T1).sub ((zeK k).pow (j * st))) (5 * EE)) (r2 : Len ((cv T2).sub ((zeK k).pow (2 * j * st))) (5 * EE)) (r3 : Len ((cv T3).sub ((zeK k).pow (3 * j * st))) (5 * EE)) :
    At k x L (e + 8) (c + 28) (t + 2) (cadd (cadd A (cmul B T2)) (cadd (cmul C T1) (cmul D T3))) (p + j) ∧
    At k x L (e + 8) (c + 28) (t + 2) (cadd (csub A (cmul B T2)) (cturn (csub (cmul C T1) (cmul D T3)))) (p + q + j) ∧
    At k x L (e + 8) (c + 28) (t + 2) (csub (cadd A (cmul B T2)) (cadd (cmul C T1) (cmul D T3))) (p + 2 * q + j) ∧
    At k x L (e + 8) (c + 28) (t + 2) (csub (csub A (cmul B T2)) (cturn (csub (cmul C T1) (cmul D T3)))) (p + 3 * q + j) := by
  unfold At at *
  obtain ⟨l1, l2, l3, l4⟩ := lz4 (zeK k) k x t s j q st p ht hq hs hj hp _ _ rfl rfl
  rw [l1, l2, l3, l4, p2_t2]
  have e2 : (zeK k).pow (2 * j * st) = ((zeK k).pow (j * st)).mul ((zeK k).pow (j * st)) := by rw [← Cx.pow_add]; congr 1; rw [Nat.mul_assoc]; omega
  have e3 : (zeK k).pow (3 * j * st) = ((zeK k).pow (j * st)).mul (((zeK k).pow (j * st)).mul ((zeK k).pow (j * st))) := by rw [← Cx.pow_add, ← Cx.pow_add]; congr 1; rw [Nat.mul_assoc]; omega
  rw [e2] at r2
  rw [e3] at r3
  exact pass4_err h0 h1 (by grind) hA hB hC hD b1 b2 b3 (zeK_pow_unit k _) r1 r2 r3 (zeK_pow_unit k _) (zeK_quarter k (by omega) hk)
theorem At.split {k : Nat} {x : Nat → Cx} {L c : Rat} {e : Int} {t s j q st p : Nat} {A A' C D T1 T3 : Nat × Nat} (hk : k ≤ 11) (ht : t + 2 ≤ k) (hq : q = 2 ^ t) (hs : st = 2 ^ (k - (t + 2))) (hj : j < q) (hp : p = 4 * q * s) (h0 : 0 ≤ e) (h1 : e ≤ 800) (hc : c + 20 ≤ 1000)
    (hA : At k x L e c (t + 1) A (p + j)) (hA' : At k x L e c (t + 1) A' (p + q + j)) (hC : At k x L e c t C (p + 2 * q + j)) (hD : At k x L e c t D (p + 3 * q + j)) (b1 : Bd 1 T1) (b3 : Bd 1 T3)
    (r1 : Len ((cv T1).sub ((zeK k).pow (j * st))) (5 * EE)) (r3 : Len ((cv T3).sub ((zeK k).pow (3 * j * st))) (5 * EE)) :
    At k x L (e + 8) (c + 20) (t + 2) (cadd A (cadd (cmul C T1) (cmul D T3))) (p + j) ∧
    At k x L (e + 8) (c + 20) (t + 2) (csub A (cadd (cmul C T1) (cmul D T3))) (p + 2 * q + j) ∧
    At k x L (e + 8) (c + 20) (t + 2) (cadd A' (cturn (csub (cmul C T1) (cmul D T3)))) (p + q + j) ∧
    At k x L (e + 8) (c + 20) (t + 2) (csub A' (cturn (csub (cmul C T1) (cmul D T3)))) (p + 3 * q + j) := by
  unfold At at *
  obtain ⟨l1, l2, l3, l4⟩ := lzS (zeK k) k x t s j q st p ht hq hs hj hp _ _ rfl rfl
  rw [l1, l2, l3, l4, p2_t2]
  rw [p2_t] at hA hA'
  have e3 : (zeK k).pow (3 * j * st) = ((zeK k).pow (j * st)).mul (((zeK k).pow (j * st)).mul ((zeK k).pow (j * st))) := by rw [← Cx.pow_add, ← Cx.pow_add]; congr 1; rw [Nat.mul_assoc]; omega
  rw [e3] at r3
  exact split_err h0 h1 hc hA hA' hC hD b1 b3 (zeK_pow_unit k _) r1 r3 (zeK_pow_unit k _) (zeK_quarter k (by omega) hk)

/-- At the last level. -/
theorem At.last {k : Nat} {f : Nat → Nat × Nat} {L c : Rat} {e : Int} {v : Nat × Nat} {j : Nat} (hk1 : 1 ≤ k) (hk : k ≤ 11) (hc : c ≤ 512) (hL : p2 (-1015) ≤ L) (hf : ∀ i, i < 2 ^ k → Len (cv (f i)) L) (hj : j < 2 ^ k)
    (h : At k (fun i => cv (f i)) L e c k v j) : Len ((cv v).sub (dft (zeK k) (2 ^ k) (fun i => cv (f i)) j)) (p2 (-43) * (p2 k * L)) := by
  unfold At lz at h
  have a := h.near
  rw [lv_top _ _ _ _ hj] at a
  have b := pip_dft (zeK_unit k) k (zeK_half k hk1 hk) k 1 (fun i => cv (f i)) (Nat.le_refl _) (by rw [Nat.sub_self]) hf j hj
  rw [Cx.pow_one] at b
  refine (a.tri b).mono ?_
  have hLp : 0 ≤ L := Rat.le_trans (p2_nonneg _) hL
  have d : (k : Rat) * (p2 k * tH) ≤ p2 (-44) := by
    have h : ∀ k : Fin 12, (k.1 : Rat) * (p2 k.1 * tH) ≤ p2 (-44) := by unfold tH; decide +kernel
    exact h ⟨k, by omega⟩
  have hp := p2_nonneg k
  have e1 : p2 (-43) = 2 * p2 (-44) := by decide +kernel
  have e2 : 512 * EE = p2 (-44) := by unfold EE; decide +kernel
  rw [e1]
  have d1 := Rat.mul_le_mul_of_nonneg_right d (Rat.mul_nonneg hp hLp)
  have d2 := Rat.mul_le_mul_of_nonneg_right hc (Rat.mul_nonneg (Rat.le_of_lt EE_pos) (Rat.mul_nonneg hp hLp))
  generalize p2 (k : Int) = P at *
  generalize p2 (-44) = q at *
  have e4 : 512 * (EE * (P * L)) = q * (P * L) := by rw [← e2]; grind
  rw [e4] at d2
  grind
end Go.Proofs.Ygctaf
