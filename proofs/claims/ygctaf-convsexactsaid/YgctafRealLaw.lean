/-
  THE PLAIN LAW OF RealNear
-/
import Derived.Test.YgctafW31
import Derived.Test.YgctafForwardsNear
namespace Go.Proofs.Ygctaf
open Ieee

theorem tab_two (k i : Nat) (hk1 : 1 ≤ k) (hk : k ≤ 11) (hi : i < 2 ^ (k - 1 - 1)) (h1 : 1 ≤ k - 1) : Bd 1 (tabF k (2 * i)) ∧ Len ((cv (tabF k (2 * i))).sub ((zeK (k - 1)).pow i)) (5 * EE) := by
  have h2 : 2 * i < 2 ^ (k - 1) := by
    have : 2 ^ (k - 1) = 2 * 2 ^ (k - 1 - 1) := by rw [← Nat.pow_succ']; congr 1; omega
    omega
  refine ⟨tab_bd k (k - 1) (2 * i) hk1 hk (by omega) h2, ?_⟩
  have := tab_len k (2 * i) hk1 hk h2
  rw [Cx.pow_mul, zeK_two k hk1 hk] at this
  exact this

/-- Inverse over a table near the roots, of what is near a transform. -/
theorem inv_gen {k : Nat} {T f : Nat → Nat × Nat} {c : Nat → Cx} {e : Int} {L Lc eta : Rat} (hk1 : 1 ≤ k) (hk : k ≤ 11) (h0 : 0 ≤ e) (h1 : e ≤ 700) (bT : ∀ i, i < 2 ^ (k - 1) → Bd 1 (T i)) (rT : ∀ i, i < 2 ^ (k - 1) → Len ((cv (T i)).sub ((zeK k).pow i)) (5 * EE))
    (hF : ∀ i, i < 2 ^ k → Bd e (f i)) (hL : p2 (-1015) ≤ L) (hf : ∀ i, i < 2 ^ k → Len (cv (f i)) L) (hc : ∀ i, i < 2 ^ k → Len (c i) Lc)
    (hD : ∀ j, j < 2 ^ k → Len ((cv (f j)).sub (dft (zeK k) (2 ^ k) c j)) eta) (l : Nat) (hl : l < 2 ^ k) :
    Bd (e + 67) (invF k T f l) ∧ Len ((cv (invF k T f l)).sub (c l)) (eta + p2 (-45) * L + p2 (-100) * Lc) := by
  have hLp : 0 ≤ L := Rat.le_trans (p2_nonneg _) hL
  have hLc : 0 ≤ Lc := (hc l hl).1
  have hkk : k - 1 + 1 = k := by omega
  have hzc : (zeK k).conj.nsq = 1 := by rw [Cx.nsq_conj]; exact zeK_unit k
  have ap := fwd_ap (T := fun i => cconj (T i)) (z := (zeK k).conj) hk1 hk hzc (zeK_half_conj k hk1 hk) h0 h1 (fun i hi => Bd.conj (x := T i) (bT i hi)) (fun i hi => by
    rw [cv_conjN (bT i hi).nm, ← Cx.conj_pow, ← Cx.conj_sub]; exact (rT i hi).conj) hF hL hf l hl
  refine ⟨(ap.bd.divn k hk (by omega) (by omega)).mono (by omega), ?_⟩
  have a := ap.near
  have b : Len ((dft (zeK k).conj (2 ^ k) (fun i => cv (f i)) l).sub (dft (zeK k).conj (2 ^ k) (dft (zeK k) (2 ^ k) c) l)) (p2 k * eta) := by
    rw [dft_diff, p2_nat]
    exact dft_len hzc hD l
  have d := dft_back (k - 1) (zeK_unit k) (zeK_half k hk1 hk) c (by rw [hkk]; exact hc) l (by rw [hkk]; exact hl)
  rw [hkk] at d
  have m := a.tri (b.tri d)
  have hpp : p2 (-(k : Int)) * p2 k = 1 := by rw [← p2_add, Int.add_left_neg, p2_zero]
  have m2 := m.scale (p2_nonneg (-(k : Int)))
  have e1 : Cx.scale (p2 (-(k : Int))) ((cv (fwdF k (fun i => cconj (T i)) f l)).sub (Cx.scale (p2 k) (c l))) = (Cx.scale (p2 (-(k : Int))) (cv (fwdF k (fun i => cconj (T i)) f l))).sub (c l) := by
    unfold Cx.scale Cx.sub
    refine Cx.eq ?_ ?_
    · show p2 (-(k : Int)) * (_ - p2 k * (c l).re) = _ - (c l).re
      rw [show ∀ a b : Rat, p2 (-(k : Int)) * (a - p2 k * b) = p2 (-(k : Int)) * a - (p2 (-(k : Int)) * p2 k) * b from fun a b => by grind, hpp, Rat.one_mul]
    · show p2 (-(k : Int)) * (_ - p2 k * (c l).im) = _ - (c l).im
      rw [show ∀ a b : Rat, p2 (-(k : Int)) * (a - p2 k * b) = p2 (-(k : Int)) * a - (p2 (-(k : Int)) * p2 k) * b from fun a b => by grind, hpp, Rat.one_mul]
  rw [e1] at m2
  have g2 := ap.len2.scale (p2_nonneg (-(k : Int)))
  have e2 : p2 (-(k : Int)) * (2 * (p2 k * L)) = (p2 (-(k : Int)) * p2 k) * (2 * L) := by grind
  rw [e2, hpp, Rat.one_mul] at g2
  have g3 := divn_err hk (by omega) (by omega) ap.bd hL g2
  have fin := g3.tri m2
  refine fin.mono ?_
  have e3 : p2 (-(k : Int)) * (177 * (EE * (p2 k * L)) + (p2 k * eta + p2 k * (Lc * (p2 k * (p2 k * tH))))) = (p2 (-(k : Int)) * p2 k) * (177 * (EE * L) + eta + (p2 k * (p2 k * tH)) * Lc) := by grind
  rw [e3, hpp, Rat.one_mul]
  have c1 : p2 k * (p2 k * tH) ≤ p2 (-100) := by
    have h : ∀ k : Fin 12, (p2 k.1 * (p2 k.1 * tH)) ≤ p2 (-100) := by unfold tH; decide +kernel
    exact h ⟨k, by omega⟩
  have c2 := Rat.mul_le_mul_of_nonneg_right c1 hLc
  have c3 : p2 (-48) + 177 * EE ≤ p2 (-45) := by unfold EE; decide +kernel
  have c4 := Rat.mul_le_mul_of_nonneg_right c3 hLp
  generalize p2 k * (p2 k * tH) * Lc = u at *
  generalize p2 (-100) * Lc = v at *
  grind
theorem inv_one_gen {f T : Nat → Nat × Nat} {e : Int} (h : Bd e (f 0)) (h0 : 0 ≤ e) (h1 : e ≤ 900) : Bd (e + 67) (invF 0 T f 0) ∧ cv (invF 0 T f 0) = cv (f 0) := by
  have e1 : invF 0 T f 0 = cdivn (2 ^ 0) (f 0) := rfl
  have hv := fint_pow_val 0 (by decide)
  have key : ∀ x : Nat, B1 e x → V (fdiv x (fint ((2 ^ 0 : Nat) : Int))) = V x := by
    intro x hx
    have hq : V x / V (fint ((2 ^ 0 : Nat) : Int)) = V x := by rw [hv.2, div_p2, show (-((0 : Nat) : Int)) = 0 from rfl, p2_zero, Rat.mul_one]
    have r := div_rounded hx.num (fint_pow 0 (by decide)) (by rw [hq]; exact le_lt_1023 hx.le (by omega))
    obtain ⟨s, m, e, c, _, _, hm, he, _, hvx⟩ := split_num hx.lt hx.num
    have := r.exact (if s then -(m : Int) else m) e he (by split <;> omega) (by
      rw [hq, hvx]
      cases s
      · rw [sgn_false]; show _ = (((m : Int)) : Rat) * p2 e; rw [show (((m : Int)) : Rat) = (m : Rat) from rfl]; grind
      · rw [sgn_true]; show _ = ((-(m : Int) : Int) : Rat) * p2 e; rw [Rat.intCast_neg, show (((m : Int)) : Rat) = (m : Rat) from rfl]; grind)
    rw [this, hq]
  rw [e1]
  exact ⟨(h.divn 0 (by decide) (by omega) (by omega)).mono (by omega), Cx.eq (key _ h.re) (key _ h.im)⟩

/-- ForwardReal, near the sums. -/
theorem fr_near {k m kk : Nat} {f : Nat → Nat} {L : Rat} {e : Int} (hk1 : 1 ≤ k) (hk : k ≤ 11) (hm : m = 2 ^ (k - 1)) (hkk : kk ≤ m) (h0 : 0 ≤ e) (h1 : e ≤ 600) (hL : p2 (-1015) ≤ L) (bF : ∀ i, i < 2 * m → B1 e (f i)) (hz : ∀ j, j < m → Len (zxC f j) L) :
    Ap (e + 74) (frO k m (tabF k) f kk) (dft (zeK k) (2 * m) (rxC f) kk) (2 * ((m : Rat) * L)) 202 := by
  have hm0 : 0 < m := by rw [hm]; exact Nat.two_pow_pos _
  have ho : TabOk k m := ⟨hk1, hk, hm⟩
  have hmL : p2 (-1015) ≤ (m : Rat) * L := by
    have : (1 : Rat) ≤ (m : Rat) := natc_le (a := 1) hm0
    have hL0 : 0 ≤ L := Rat.le_trans (p2_nonneg _) hL
    have := Rat.mul_le_mul_of_nonneg_right this hL0
    grind
  have hZ : ∀ i, i < m → Ap (e + 66) (zT k (tabF k) f i) (dft (zeK (k - 1)) m (zxC f) i) ((m : Rat) * L) 177 := by
    intro i hi
    rcases Nat.eq_zero_or_pos (k - 1) with hq | hq
    · have hm1 : m = 1 := by rw [hm, hq]
      subst hm1
      have : i = 0 := by omega
      subst this
      have e1 : zT k (tabF k) f 0 = zF f 0 := by unfold zT; rw [hq]; rfl
      have e2 : dft (zeK (k - 1)) 1 (zxC f) 0 = zxC f 0 := by
        show Cx.zero.add ((zxC f 0).mul ((zeK (k - 1)).pow (0 * 0))) = zxC f 0
        rw [Cx.zero_add]; exact Cx.mul_one _
      rw [e1, e2, show ((1 : Nat) : Rat) = 1 from rfl, Rat.one_mul]
      have hl0 := hz 0 (by decide)
      exact ⟨(show Bd e (zF f 0) from ⟨bF 0 (by decide), bF 1 (by decide)⟩).mono (by omega), hl0, (Len.self _).mono (Rat.mul_nonneg (by decide +kernel) (Rat.mul_nonneg (Rat.le_of_lt EE_pos) hl0.1)), hL, by decide +kernel, by decide +kernel⟩
    · have hm2 : 2 ^ (k - 1) = m := hm.symm
      have a := fwd_ap (z := zeK (k - 1)) (k := k - 1) (T := fun j => tabF k (2 * j)) (f := zF f) (L := L) (e := e) hq (by omega) (zeK_unit _) (zeK_half (k - 1) hq (by omega)) h0 (by omega)
        (fun i hi => (tab_two k i hk1 hk hi hq).1) (fun i hi => (tab_two k i hk1 hk hi hq).2) (fun i hi => ⟨bF _ (by rw [hm2] at hi; omega), bF _ (by rw [hm2] at hi; omega)⟩) hL (fun i hi => hz i (by rw [hm2] at hi; exact hi)) i (by rw [hm2]; exact hi)
      rw [p2_nat, hm2] at a
      exact a
  have a := hZ (kk % m) (Nat.mod_lt _ hm0)
  have b := hZ ((m - kk) % m) (Nat.mod_lt _ hm0)
  have r := rf_ap (c := 177) hk1 hk hm hkk (by omega) (by omega) (by decide +kernel) hz a b (ho.bd kk (by omega)) (ho.near kk (by omega))
  exact r.mono (by omega) (by decide +kernel) (by decide +kernel)

/-- InverseReal of what is near the transform of reals. -/
theorem ir_near {k m : Nat} {f : Nat → Nat} {g : Nat → Nat × Nat} {L c : Rat} {e : Int} (hk1 : 1 ≤ k) (hk : k ≤ 11) (hm : m = 2 ^ (k - 1)) (h0 : 0 ≤ e) (h1 : e ≤ 600) (hc : c ≤ 450) (hL : p2 (-1015) ≤ L) (hz : ∀ j, j < m → Len (zxC f j) L) (hx : ∀ i, i < 2 * m → Len (rxC f i) L)
    (hg : ∀ kk, kk ≤ m → Ap e (g kk) (dft (zeK k) (2 * m) (rxC f) kk) (2 * ((m : Rat) * L)) c) (l : Nat) (hl : l < m) :
    Bd (e + 75) (invF (k - 1) (fun j => tabF k (2 * j)) (riZ m (tabF k) g) l) ∧ Len ((cv (invF (k - 1) (fun j => tabF k (2 * j)) (riZ m (tabF k) g) l)).sub (zxC f l)) (p2 (-41) * ((m : Rat) * L)) := by
  have hm0 : 0 < m := by rw [hm]; exact Nat.two_pow_pos _
  have ho : TabOk k m := ⟨hk1, hk, hm⟩
  have hL0 : 0 ≤ L := Rat.le_trans (p2_nonneg _) hL
  have h1m : (1 : Rat) ≤ (m : Rat) := natc_le (a := 1) hm0
  have hmL : L ≤ (m : Rat) * L := by have := Rat.mul_le_mul_of_nonneg_right h1m hL0; grind
  have hmL0 : 0 ≤ (m : Rat) * L := Rat.le_trans hL0 hmL
  have hZ : ∀ i, i < m → Ap (e + 8) (riZ m (tabF k) g i) (dft (zeK (k - 1)) m (zxC f) i) (2 * (2 * ((m : Rat) * L))) (c + 25) := fun i hi =>
    ri_ap hk1 hk hm (by omega) h0 (by omega) (by grind) hx (hg i (by omega)) (hg (m - i) (by omega)) (ho.bd i (by omega)) (ho.near i (by omega))
  have hEE := Rat.mul_nonneg (Rat.le_of_lt EE_pos) hmL0
  have heta : (c + 25) * (EE * (2 * (2 * ((m : Rat) * L)))) ≤ 1900 * (EE * ((m : Rat) * L)) := by
    have : (c + 25) * (EE * (2 * (2 * ((m : Rat) * L)))) = (4 * (c + 25)) * (EE * ((m : Rat) * L)) := by grind
    rw [this]
    exact Rat.mul_le_mul_of_nonneg_right (by grind) hEE
  have fin : 1900 * (EE * ((m : Rat) * L)) + p2 (-45) * (8 * ((m : Rat) * L)) + p2 (-100) * L ≤ p2 (-41) * ((m : Rat) * L) := by
    have c1 : 1900 * EE + p2 (-45) * 8 + p2 (-100) ≤ p2 (-41) := by unfold EE; decide +kernel
    have c2 := Rat.mul_le_mul_of_nonneg_right c1 hmL0
    have c3 := Rat.mul_le_mul_of_nonneg_left hmL (p2_nonneg (-100))
    generalize (m : Rat) * L = X at *
    grind
  rcases Nat.eq_zero_or_pos (k - 1) with hq | hq
  · have hm1 : m = 1 := by rw [hm, hq]
    subst hm1
    have : l = 0 := by omega
    subst this
    have a := hZ 0 (by decide)
    rw [hq]
    obtain ⟨b1, b2⟩ := inv_one_gen (T := fun j => tabF k (2 * j)) a.bd (by omega) (by omega)
    refine ⟨b1.mono (by omega), ?_⟩
    rw [b2]
    have e2 : dft (zeK (k - 1)) 1 (zxC f) 0 = zxC f 0 := by
      show Cx.zero.add ((zxC f 0).mul ((zeK (k - 1)).pow (0 * 0))) = zxC f 0
      rw [Cx.zero_add]; exact Cx.mul_one _
    have n := a.near
    rw [e2] at n
    refine n.mono (Rat.le_trans heta ?_)
    refine Rat.le_trans ?_ fin
    have p1 := Rat.mul_nonneg (p2_nonneg (-45)) (show 0 ≤ 8 * (((1 : Nat) : Rat) * L) by grind)
    have p2' := Rat.mul_nonneg (p2_nonneg (-100)) hL0
    grind
  · have hm2 : 2 ^ (k - 1) = m := hm.symm
    have r := inv_gen (k := k - 1) (T := fun j => tabF k (2 * j)) (f := riZ m (tabF k) g) (c := zxC f) (e := e + 8) (L := 8 * ((m : Rat) * L)) (Lc := L) (eta := (c + 25) * (EE * (2 * (2 * ((m : Rat) * L))))) hq (by omega) (by omega) (by omega)
      (fun i hi => (tab_two k i hk1 hk hi hq).1) (fun i hi => (tab_two k i hk1 hk hi hq).2) (fun i hi => (hZ i (by rw [hm2] at hi; exact hi)).bd) (by have := p2_pos (-1015); grind) (fun i hi => (hZ i (by rw [hm2] at hi; exact hi)).len2.mono (by grind)) (fun i hi => hz i (by rw [hm2] at hi; exact hi))
      (fun j hj => by rw [hm2] at hj ⊢; exact (hZ j hj).near) l (by rw [hm2]; exact hl)
    refine ⟨r.1.mono (by omega), r.2.mono ?_⟩
    exact Rat.le_trans (by grind) fin
end Go.Proofs.Ygctaf
